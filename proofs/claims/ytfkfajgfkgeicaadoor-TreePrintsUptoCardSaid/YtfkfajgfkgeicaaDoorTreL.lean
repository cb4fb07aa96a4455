/- Trees: the document's Same; light. -/
import Derived.Test.YtfkfajgfkgeicaaDoorTreK
set_option linter.unusedSimpArgs false
set_option linter.unusedVariables false
namespace Go.Proofs.YtfkfajgfkgeicaaDoor
open Go.RowKit Go.Joins

def RSameC (d : Nat) : Prop := ∀ (d2 : Nat) (n m : Nd) (p p2 : Option Addr) (len cap len2 cap2 : Nat) (w : World), RdT w w.heap.size d n p len → RdT w w.heap.size d2 m p2 len2 → OkN n → OkN m → Calls Tryd.prog 24 #[.agg (ndA n p len cap), .agg (ndA m p2 len2 cap2)] w fun e w' => e = .returned (.bool (smN n m)) ∧ Below w.heap.size w w'
set_option maxRecDepth 100000 in
set_option maxHeartbeats 16000000 in
theorem rsame_s (d : Nat) (IH : ∀ d', d = d' + 1 → RSameC d') : RSameC d := by
  intro d2 n m p p2 len cap len2 cap2 w hrd hrd2 hok hok2
  obtain ⟨hh0, hh1⟩ : Hid (NdB tRn ((w.alloc (.cells (ndA n p len cap) tRn)).alloc (.cells (ndA m p2 len2 cap2) tRn)) w.heap.size n p len cap) ∧ Hid (NdB tRn ((w.alloc (.cells (ndA n p len cap) tRn)).alloc (.cells (ndA m p2 len2 cap2) tRn)) (w.heap.size + 1) m p2 len2 cap2) := by
    refine ⟨?_, ?_⟩
    · unfold Hid NdB
      rw [Lib.alloc_old _ _ _ (by simp)]
      exact heap_alloc_new w _
    · unfold Hid NdB
      have := heap_alloc_new (w.alloc (.cells (ndA n p len cap) tRn)) (.cells (ndA m p2 len2 cap2) tRn)
      rw [World.size_alloc] at this
      exact this
  have hAB : Hid (Below w.heap.size w ((w.alloc (.cells (ndA n p len cap) tRn)).alloc (.cells (ndA m p2 len2 cap2) tRn))) := by unfold Hid; (repeat' (first | (with_reducible exact Below.refl _ _) | (with_reducible assumption) | (with_reducible refine Below.alloc ?_ ?_ _) | (with_reducible refine bel_drewN ?_ _) | (with_reducible refine Below.drew ?_) | (with_reducible refine Below.setCell ?_ ?_ _) | (with_reducible refine bel_call ‹_› ?_ ?_) | go_size))
  have HRD := Lib.hid hrd
  have HRD2 := Lib.hid hrd2
  have HIH := Lib.hid IH
  have hlen := hok.len
  rw [hrd.len] at hlen
  have HAL := Lib.hid hrd.len
  have HAL2 := Lib.hid hrd2.len
  have HOK := Lib.hid (fun c hc => OkN.child (c := c) hok hc)
  have HOK2 := Lib.hid (fun c hc => OkN.child (c := c) hok2 hc)
  obtain ⟨O, hO⟩ : ∃ O, smN n m = O := ⟨_, rfl⟩
  have HO : Hid (O = ((n.kind == m.kind) && ((n.num == m.num) && ((n.text == m.text) && ((n.frm == m.frm) && ((n.tor == m.tor) && smL n.args m.args)))))) := by unfold Hid; rw [← hO, smN_eq]
  rw [hO]
  clear hO hrd hrd2 hok hok2 IH
  rw [ndA_eq, ndA_eq]
  go_enter Tryd.func24, Tryd.ntmps24
  go_upto_region 1 with fail
  have e0 : (w.alloc (.cells #[.int .i64 n.kind, .int .i64 n.num, .string ⟨n.text.toArray⟩, .int .i64 n.frm, .int .i64 n.tor, .slice p len cap] tRn)).alloc (.cells #[.int .i64 m.kind, .int .i64 m.num, .string ⟨m.text.toArray⟩, .int .i64 m.frm, .int .i64 m.tor, .slice p2 len2 cap2] tRn) = (w.alloc (.cells (ndA n p len cap) tRn)).alloc (.cells (ndA m p2 len2 cap2) tRn) := rfl
  rw [e0]
  clear e0
  generalize (w.alloc (.cells (ndA n p len cap) tRn)).alloc (.cells (ndA m p2 len2 cap2) tRn) = w0 at hh0 hh1 hAB ⊢
  obtain ⟨c0, c1, c2, c3, c4, c5⟩ := hh0.out.cells
  obtain ⟨y0, y1, y2, y3, y4, y5⟩ := hh1.out.cells
  obtain ⟨hd, hhd⟩ : ∃ hd : Bool, ((n.kind == m.kind) && ((n.num == m.num) && ((n.text == m.text) && ((n.frm == m.frm) && ((n.tor == m.tor) && decide (len = len2)))))) = hd := ⟨_, rfl⟩
  have HHD := Lib.hid hhd
  clear hhd
  go_cut [47] (fun v wx => v = .bool (!hd) ∧ ∃ p : Regrown, wx = Go.Sort.grow (redrawn w0 p.d) p.os)
  case first =>
    clear HO HRD HRD2 HIH HAL HAL2 HOK HOK2
    have r0 := cell_regrown c0
    have r1 := cell_regrown c1
    have r2 := cell_regrown c2
    have r3 := cell_regrown c3
    have r4 := cell_regrown c4
    have r5 := cell_regrown c5
    have s0 := cell_regrown y0
    have s1 := cell_regrown y1
    have s2 := cell_regrown y2
    have s3 := cell_regrown y3
    have s4 := cell_regrown y4
    have s5 := cell_regrown y5
    clear c0 c1 c2 c3 c4 c5 y0 y1 y2 y3 y4 y5 hh0 hh1 hAB
    by_cases h0 : n.kind = m.kind
    · have b0 : (n.kind != m.kind) = false := by simpa using h0
      have B0 : Hid ((n.kind == m.kind) = true) := by unfold Hid; simpa using h0
      have a0 : (n.kind == m.kind) = true := B0.out
      by_cases h1 : n.num = m.num
      · have b1 : (n.num != m.num) = false := by simpa using h1
        have B1 : Hid ((n.num == m.num) = true) := by unfold Hid; simpa using h1
        have a1 : (n.num == m.num) = true := B1.out
        by_cases h2 : n.text = m.text
        · have b2 : (n.text != m.text) = false := by simpa using h2
          have B2 : Hid ((n.text == m.text) = true) := by unfold Hid; simpa using h2
          have a2 : (n.text == m.text) = true := B2.out
          by_cases h3 : n.frm = m.frm
          · have b3 : (n.frm != m.frm) = false := by simpa using h3
            have B3 : Hid ((n.frm == m.frm) = true) := by unfold Hid; simpa using h3
            have a3 : (n.frm == m.frm) = true := B3.out
            by_cases h4 : n.tor = m.tor
            · have b4 : (n.tor != m.tor) = false := by simpa using h4
              have B4 : Hid ((n.tor == m.tor) = true) := by unfold Hid; simpa using h4
              have a4 : (n.tor == m.tor) = true := B4.out
              by_cases h5 : len = len2
              · have b5 : ((len : Int) != (len2 : Int)) = false := by subst h5; simp
                have HB : Hid (hd = true) := by unfold Hid; rw [← HHD.out, B0.out, B1.out, B2.out, B3.out, B4.out, decide_eq_true h5]; rfl
                clear h0 h1 h2 h3 h4 h5
                refine wp_region_plain_below ?_
                repeat (go_big_quiet_step ((fail)))
                refine wpQuiet_nil ?_
                intro _ hw'
                obtain ⟨⟨dz, osz⟩, hw''⟩ := hw'
                subst hw''
                go_wp2_with fail
                go_meet
                exact ⟨by rw [HB.out]; rfl, ⟨dz, osz⟩, rfl⟩
              · have b5 : ((len : Int) != (len2 : Int)) = true := by simp; omega
                have HB : Hid (hd = false) := by unfold Hid; rw [← HHD.out, B0.out, B1.out, B2.out, B3.out, B4.out, decide_eq_false h5]; rfl
                clear h0 h1 h2 h3 h4 h5
                refine wp_region_plain_below ?_
                repeat (go_big_quiet_step ((fail)))
                refine wpQuiet_nil ?_
                intro _ hw'
                obtain ⟨⟨dz, osz⟩, hw''⟩ := hw'
                subst hw''
                go_wp2_with fail
                go_meet
                exact ⟨by rw [HB.out]; rfl, ⟨dz, osz⟩, rfl⟩
            · have b4 : (n.tor != m.tor) = true := by simpa using h4
              have C4 : (n.tor == m.tor) = false := by simpa using h4
              have HB : Hid (hd = false) := by unfold Hid; rw [← HHD.out, B0.out, B1.out, B2.out, B3.out, C4]; rfl
              clear h0 h1 h2 h3 h4
              refine wp_region_plain_below ?_
              repeat (go_big_quiet_step ((fail)))
              refine wpQuiet_nil ?_
              intro _ hw'
              obtain ⟨⟨dz, osz⟩, hw''⟩ := hw'
              subst hw''
              go_wp2_with fail
              go_meet
              exact ⟨by rw [HB.out]; rfl, ⟨dz, osz⟩, rfl⟩
          · have b3 : (n.frm != m.frm) = true := by simpa using h3
            have C3 : (n.frm == m.frm) = false := by simpa using h3
            have HB : Hid (hd = false) := by unfold Hid; rw [← HHD.out, B0.out, B1.out, B2.out, C3]; rfl
            clear h0 h1 h2 h3
            refine wp_region_plain_below ?_
            repeat (go_big_quiet_step ((fail)))
            refine wpQuiet_nil ?_
            intro _ hw'
            obtain ⟨⟨dz, osz⟩, hw''⟩ := hw'
            subst hw''
            go_wp2_with fail
            go_meet
            exact ⟨by rw [HB.out]; rfl, ⟨dz, osz⟩, rfl⟩
        · have b2 : (n.text != m.text) = true := by simpa using h2
          have C2 : (n.text == m.text) = false := by simpa using h2
          have HB : Hid (hd = false) := by unfold Hid; rw [← HHD.out, B0.out, B1.out, C2]; rfl
          clear h0 h1 h2
          refine wp_region_plain_below ?_
          repeat (go_big_quiet_step ((fail)))
          refine wpQuiet_nil ?_
          intro _ hw'
          obtain ⟨⟨dz, osz⟩, hw''⟩ := hw'
          subst hw''
          go_wp2_with fail
          go_meet
          exact ⟨by rw [HB.out]; rfl, ⟨dz, osz⟩, rfl⟩
      · have b1 : (n.num != m.num) = true := by simpa using h1
        have C1 : (n.num == m.num) = false := by simpa using h1
        have HB : Hid (hd = false) := by unfold Hid; rw [← HHD.out, B0.out, C1]; rfl
        clear h0 h1
        refine wp_region_plain_below ?_
        repeat (go_big_quiet_step ((fail)))
        refine wpQuiet_nil ?_
        intro _ hw'
        obtain ⟨⟨dz, osz⟩, hw''⟩ := hw'
        subst hw''
        go_wp2_with fail
        go_meet
        exact ⟨by rw [HB.out]; rfl, ⟨dz, osz⟩, rfl⟩
    · have b0 : (n.kind != m.kind) = true := by simpa using h0
      have C0 : (n.kind == m.kind) = false := by simpa using h0
      have HB : Hid (hd = false) := by unfold Hid; rw [← HHD.out, C0]; rfl
      clear h0
      refine wp_region_plain_below ?_
      repeat (go_big_quiet_step ((fail)))
      refine wpQuiet_nil ?_
      intro _ hw'
      obtain ⟨⟨dz, osz⟩, hw''⟩ := hw'
      subst hw''
      go_wp2_with fail
      go_meet
      exact ⟨by rw [HB.out]; rfl, ⟨dz, osz⟩, rfl⟩
  case rest =>
    obtain ⟨rfl, ⟨dq, osq⟩, hwq⟩ := hcut
    have hbq := below_regrown w0 dq osq
    have hB2 : Hid (Below w.heap.size w wc) := by unfold Hid; rw [hwq]; exact bel_call hbq hAB.out hAB.out.size
    have hA2 : Hid (NdB tRn wc w.heap.size n p len cap) := by unfold Hid; rw [hwq]; exact hh0.out.below hbq
    have hA3 : Hid (NdB tRn wc (w.heap.size + 1) m p2 len2 cap2) := by unfold Hid; rw [hwq]; exact hh1.out.below hbq
    clear hwq hbq hh0 hh1 hAB c0 c1 c2 c3 c4 c5 y0 y1 y2 y3 y4 y5
    cases hd
    · have HON : Hid (O = false) := by
        unfold Hid
        rw [HO.out]
        have := HHD.out
        by_cases hl : len = len2
        · rw [decide_eq_true hl, Bool.and_true] at this
          cases hs : smL n.args m.args with
          | false => simp
          | true => rw [Bool.and_true]; exact this
        · rw [smL_len _ _ (by rw [HAL.out, HAL2.out]; exact hl)]
          simp
      go_wp2_with fail
      go_ret
      exact ⟨by rw [HON.out]; rfl, hB2.out⟩
    · have HO3 : Hid (O = smL (n.args.drop 0) (m.args.drop 0)) := by
        unfold Hid
        rw [HO.out]
        have := HHD.out
        simp only [Bool.and_eq_true] at this
        obtain ⟨a0, a1, a2, a3, a4, _⟩ := this
        rw [a0, a1, a2, a3, a4]
        rfl
      have hll : len = len2 := by
        have := HHD.out
        simp only [Bool.and_eq_true, decide_eq_true_eq] at this
        exact this.2.2.2.2.2
      subst hll
      clear HO HHD
      go_wp2_with fail
      go_loopg [5] len (fun g v5 wr => ∃ i : Nat, i + g = len ∧ v5 = .int .i64 i ∧ O = smL (n.args.drop i) (m.args.drop i) ∧ NdB tRn wr w.heap.size n p len cap ∧ NdB tRn wr (w.heap.size + 1) m p2 len cap2 ∧ Below w.heap.size w wr)
      case atStart => exact ⟨0, by omega, rfl, HO3.out, hA2.out, hA3.out, hB2.out⟩
      case round =>
        obtain ⟨i, hig, rfl, hD, hnb, hnb2, hbel⟩ := hrel
        have HD := Lib.hid hD
        have HBL := Lib.hid hbel
        have HNB := Lib.hid hnb
        have HNB2 := Lib.hid hnb2
        have hzr := hbel.size
        clear hD hbel HO3 hnb hnb2 hA2 hA3 hB2
        obtain ⟨c0, c1, c2, c3, c4, c5⟩ := HNB.out.cells
        obtain ⟨y0, y1, y2, y3, y4, y5⟩ := HNB2.out.cells
        by_cases hlt : i < len
        · have hli : (i : Int) < (len : Int) := by omega
          have hi0 : (0 : Int) ≤ (i : Int) := by omega
          obtain ⟨d', b, off, c, p', l', c', hd, rfl, hbN, hc, hrc, q0, q1, q2, q3, q4, q5⟩ := (HRD.out.below HBL.out).at hlt
          obtain ⟨d2', b2, off2, x, px, lx, cx, hd2, rfl, hbN2, hx, hrx, s0, s1, s2, s3, s4, s5⟩ := (HRD2.out.below HBL.out).at hlt
          have HC : Hid (RSameC d') := HIH.out d' hd
          have HCO := Lib.hid (HOK.out c (mem_at hc))
          have HXO := Lib.hid (HOK2.out x (mem_at hx))
          have HD2 : Hid (O = (smN c x && smL (n.args.drop (i + 1)) (m.args.drop (i + 1)))) := by unfold Hid; rw [HD.out, smL_at hc hx]
          have HCC := Lib.hid (fun W (hW : Below wr.heap.size wr W) => HC.out d2' c x p' px l' c' lx cx W (((hrc.mono HBL.out.size).below hW).mono hW.size) (((hrx.mono HBL.out.size).below hW).mono hW.size) HCO.out HXO.out)
          rw [ndA_eq, ndA_eq] at HCC
          generalize smN c x = rc at HCC HD2
          clear HC hc hrc HD hd hx hrx hd2
          have k5 := cell_regrown c5
          have l5 := cell_regrown y5
          have t0 := cell_regrown q0
          have t1 := cell_regrown q1
          have t2 := cell_regrown q2
          have t3 := cell_regrown q3
          have t4 := cell_regrown q4
          have t5 := cell_regrown q5
          have u0 := cell_regrown s0
          have u1 := cell_regrown s1
          have u2 := cell_regrown s2
          have u3 := cell_regrown s3
          have u4 := cell_regrown s4
          have u5 := cell_regrown s5
          have cS : ∀ dd os, Calls Tryd.prog 24 #[.agg #[.int .i64 c.kind, .int .i64 c.num, .string ⟨c.text.toArray⟩, .int .i64 c.frm, .int .i64 c.tor, .slice p' l' c'], .agg #[.int .i64 x.kind, .int .i64 x.num, .string ⟨x.text.toArray⟩, .int .i64 x.frm, .int .i64 x.tor, .slice px lx cx]] (Go.Sort.grow (redrawn wr dd) os) fun e w'' => e = .returned (.bool rc) ∧ ∃ p : Regrown, w'' = Go.Sort.grow (redrawn wr p.d) p.os := fun dd os => Calls.regrown_of (HCC.out _ (below_regrown wr dd os))
          go_upto_region 6 with fail
          clear c0 c1 c2 c3 c4 c5 y0 y1 y2 y3 y4 y5 q0 q1 q2 q3 q4 q5 s0 s1 s2 s3 s4 s5 HCC
          refine wp_region_quiet_below (by kernel_rfl) (by kernel_rfl) ?_
          repeat (go_big_quiet_step ((first | with_reducible exact cS _ _)))
          refine wpQuiet_nil ?_
          intro _ hw'
          obtain ⟨⟨dz, osz⟩, hw''⟩ := hw'
          subst hw''
          have hbz := below_regrown wr dz osz
          have hB3 : Hid (Below w.heap.size w (Go.Sort.grow (redrawn wr dz) osz)) := bel_call hbz HBL.out hzr
          have hN3 := Lib.hid (HNB.out.below hbz)
          have hN4 := Lib.hid (HNB2.out.below hbz)
          clear k5 l5 t0 t1 t2 t3 t4 t5 u0 u1 u2 u3 u4 u5 cS hbz HNB HNB2 HBL
          generalize Go.Sort.grow (redrawn wr dz) osz = w3 at hB3 hN3 hN4 ⊢
          cases rc
          · have HDE : Hid (O = false) := by unfold Hid; rw [HD2.out]; rfl
            go_wp2_with fail
            go_ret
            exact ⟨by rw [HDE.out]; rfl, hB3.out⟩
          · have HDE : Hid (O = smL (n.args.drop (i + 1)) (m.args.drop (i + 1))) := by unfold Hid; rw [HD2.out]; rfl
            go_wp2_with fail
            go_roundg (gk - 1)
            case measure => omega
            case rel => exact ⟨i + 1, by omega, by go_num, HDE.out, hN3.out, hN4.out, hB3.out⟩
        · obtain rfl : i = len := by omega
          have hli : ¬ (i : Int) < (i : Int) := by omega
          have HDE : Hid (O = true) := by
            unfold Hid
            rw [HD.out, List.drop_eq_nil_of_le (by rw [HAL.out]; exact Nat.le_refl _), List.drop_eq_nil_of_le (by rw [HAL2.out]; exact Nat.le_refl _), smL]
          go_wp2_with fail
          go_ret
          exact ⟨by rw [HDE.out]; rfl, HBL.out⟩
theorem rsame_any : ∀ d, RSameC d
  | 0 => rsame_s 0 (fun d' h => by omega)
  | d + 1 => rsame_s (d + 1) (fun d' h => (show d = d' from by omega) ▸ rsame_any d)

/-- Is a tree not too great, nor too deep? -/
def lightB (n : Nd) : Bool := decide (szN n 200 ≤ 200) && (decide (dpN n ≤ 100) && decide (n.text.length ≤ 400))
end Go.Proofs.YtfkfajgfkgeicaaDoor
