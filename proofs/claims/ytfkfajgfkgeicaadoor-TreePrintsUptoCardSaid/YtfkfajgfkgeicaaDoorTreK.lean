/- Trees: which ones are the same: EqualFunc, Same, the document's Same. -/
import Derived.Test.YtfkfajgfkgeicaaDoorTreE
set_option linter.unusedSimpArgs false
set_option linter.unusedVariables false
namespace Go.Proofs.YtfkfajgfkgeicaaDoor
open Go.RowKit Go.Joins

mutual
def smN : Nd → Nd → Bool
  | .mk k u t f o a, .mk k' u' t' f' o' a' => (k == k') && ((u == u') && ((t == t') && ((f == f') && ((o == o') && smL a a'))))
def smL : List Nd → List Nd → Bool
  | [], [] => true
  | x :: r, y :: s => smN x y && smL r s
  | [], _ :: _ => false
  | _ :: _, [] => false
end
theorem smN_eq (n m : Nd) : smN n m = ((n.kind == m.kind) && ((n.num == m.num) && ((n.text == m.text) && ((n.frm == m.frm) && ((n.tor == m.tor) && smL n.args m.args))))) := by
  cases n; cases m; rw [smN]; rfl
theorem smL_len : ∀ (a b : List Nd), a.length ≠ b.length → smL a b = false
  | [], [], h => absurd rfl h
  | x :: r, y :: s, h => by rw [smL, smL_len r s (fun e => h (by simp [e])), Bool.and_false]
  | [], _ :: _, _ => by rw [smL]
  | _ :: _, [], _ => by rw [smL]
theorem smL_at {a b : List Nd} {i : Nat} {x y : Nd} (hx : a[i]? = some x) (hy : b[i]? = some y) : smL (a.drop i) (b.drop i) = (smN x y && smL (a.drop (i + 1)) (b.drop (i + 1))) := by
  obtain ⟨hi, e⟩ := List.getElem?_eq_some_iff.1 hx
  obtain ⟨hj, e2⟩ := List.getElem?_eq_some_iff.1 hy
  rw [List.drop_eq_getElem_cons hi, List.drop_eq_getElem_cons hj, smL, e, e2]

def SameC (d : Nat) : Prop := ∀ (d2 : Nat) (n m : Nd) (p p2 : Option Addr) (len cap len2 cap2 : Nat) (w : World), RdT w w.heap.size d n p len → RdT w w.heap.size d2 m p2 len2 → OkN n → OkN m → Calls Tryd.prog 23 #[.agg (ndA n p len cap), .agg (ndA m p2 len2 cap2)] w fun e w' => e = .returned (.bool (smN n m)) ∧ Below w.heap.size w w'
set_option maxRecDepth 100000 in
set_option maxHeartbeats 8000000 in
theorem eq_s (d : Nat) (IH : ∀ d', d = d' + 1 → SameC d') (d2 : Nat) (n m : Nd) (p p2 : Option Addr) (len cap len2 cap2 : Nat) (w : World) (hrd : RdT w w.heap.size d n p len) (hrd2 : RdT w w.heap.size d2 m p2 len2) (hok : OkN n) (hok2 : OkN m) :
    Calls Tryd.prog 35 #[.slice p len cap, .slice p2 len2 cap2, .func (.func 23) #[] #[]] w fun e w' => e = .returned (.bool (smL n.args m.args)) ∧ Below w.heap.size w w' := by
  have HRD := Lib.hid hrd
  have HRD2 := Lib.hid hrd2
  have HIH := Lib.hid IH
  have hlen := hok.len
  rw [hrd.len] at hlen
  have HAL := Lib.hid hrd.len
  have HAL2 := Lib.hid hrd2.len
  have HOK := Lib.hid (fun c hc => OkN.child (c := c) hok hc)
  have HOK2 := Lib.hid (fun c hc => OkN.child (c := c) hok2 hc)
  obtain ⟨O, hO⟩ : ∃ O, smL n.args m.args = O := ⟨_, rfl⟩
  have HO := Lib.hid hO
  rw [hO]
  clear hrd hrd2 IH hok hok2 hO
  by_cases hll : len = len2
  · subst hll
    have hne : ((len : Int) != (len : Int)) = false := by simp
    go_enter Tryd.func35, Tryd.ntmps35
    go_wp2_with fail
    go_loopg [17] len (fun g v17 wr => ∃ i : Nat, i + g = len ∧ v17 = .int .i64 i ∧ O = smL (n.args.drop i) (m.args.drop i) ∧ Below w.heap.size w wr)
    case atStart => exact ⟨0, by omega, rfl, HO.out.symm, Below.refl _ _⟩
    case round =>
      obtain ⟨i, hig, rfl, hD, hbel⟩ := hrel
      have HD := Lib.hid hD
      have HBL := Lib.hid hbel
      have hzr := hbel.size
      clear hD hbel
      by_cases hlt : i < len
      · have hli : (i : Int) < (len : Int) := by omega
        have hi0 : (0 : Int) ≤ (i : Int) := by omega
        obtain ⟨d', b, off, c, p', l', c', hd, rfl, hbN, hc, hrc, q0, q1, q2, q3, q4, q5⟩ := (HRD.out.below HBL.out).at hlt
        obtain ⟨d2', b2, off2, x, px, lx, cx, hd2, rfl, hbN2, hx, hrx, s0, s1, s2, s3, s4, s5⟩ := (HRD2.out.below HBL.out).at hlt
        have HC : Hid (SameC d') := HIH.out d' hd
        have HCO := Lib.hid (HOK.out c (mem_at hc))
        have HXO := Lib.hid (HOK2.out x (mem_at hx))
        have HD2 : Hid (O = (smN c x && smL (n.args.drop (i + 1)) (m.args.drop (i + 1)))) := by unfold Hid; rw [HD.out, smL_at hc hx]
        have HRC := Lib.hid hrc
        have HRX := Lib.hid hrx
        clear hc hrc HD hd hx hrx hd2
        go_upto_region 6 with fail
        have hA1 : Hid (NdB tPn (wr.alloc (.cells (ndA c p' l' c') tPn)) wr.heap.size c p' l' c') := heap_alloc_new wr _
        have hB1 : Hid (Below w.heap.size w (wr.alloc (.cells (ndA c p' l' c') tPn))) := HBL.out.alloc hzr _
        have hK1 : Hid (Below wr.heap.size wr (wr.alloc (.cells (ndA c p' l' c') tPn))) := by unfold Hid; (repeat' (first | (with_reducible exact Below.refl _ _) | (with_reducible assumption) | (with_reducible refine Below.alloc ?_ ?_ _) | (with_reducible refine bel_drewN ?_ _) | (with_reducible refine Below.drew ?_) | (with_reducible refine Below.setCell ?_ ?_ _) | (with_reducible refine bel_call ‹_› ?_ ?_) | go_size))
        have e1 : wr.alloc (.cells #[.int .i64 c.kind, .int .i64 c.num, .string ⟨c.text.toArray⟩, .int .i64 c.frm, .int .i64 c.tor, .slice p' l' c'] tPn) = wr.alloc (.cells (ndA c p' l' c') tPn) := rfl
        rw [e1]
        clear e1
        have t0 := (hK1.out.cell (p := ⟨b2, off2 + i * 6, none⟩) (Nat.lt_of_lt_of_le hbN2 hzr)).trans s0
        have t1 := (hK1.out.cell (p := ⟨b2, off2 + i * 6 + 1, none⟩) (Nat.lt_of_lt_of_le hbN2 hzr)).trans s1
        have t2 := (hK1.out.cell (p := ⟨b2, off2 + i * 6 + 2, none⟩) (Nat.lt_of_lt_of_le hbN2 hzr)).trans s2
        have t3 := (hK1.out.cell (p := ⟨b2, off2 + i * 6 + 3, none⟩) (Nat.lt_of_lt_of_le hbN2 hzr)).trans s3
        have t4 := (hK1.out.cell (p := ⟨b2, off2 + i * 6 + 4, none⟩) (Nat.lt_of_lt_of_le hbN2 hzr)).trans s4
        have t5 := (hK1.out.cell (p := ⟨b2, off2 + i * 6 + 5, none⟩) (Nat.lt_of_lt_of_le hbN2 hzr)).trans s5
        have HRC1 := Lib.hid (HRC.out.below (hK1.out.mono hzr))
        have HRX1 := Lib.hid (HRX.out.below (hK1.out.mono hzr))
        clear q0 q1 q2 q3 q4 q5 s0 s1 s2 s3 s4 s5 HRC HRX HBL
        generalize wr.alloc (.cells (ndA c p' l' c') tPn) = w2 at hA1 hB1 HRC1 HRX1 hK1 t0 t1 t2 t3 t4 t5 ⊢
        generalize wr.heap.size = g1 at hA1 hzr hK1 ⊢
        have hz2 := hB1.out.size
        go_upto_region 7 with fail
        have hA2 : Hid (NdB tPn (w2.alloc (.cells (ndA x px lx cx) tPn)) w2.heap.size x px lx cx) := heap_alloc_new w2 _
        have hA1b : Hid (NdB tPn (w2.alloc (.cells (ndA x px lx cx) tPn)) g1 c p' l' c') := hA1.out.below (by (repeat' (first | (with_reducible exact Below.refl _ _) | (with_reducible assumption) | (with_reducible refine Below.alloc ?_ ?_ _) | (with_reducible refine bel_drewN ?_ _) | (with_reducible refine Below.drew ?_) | (with_reducible refine Below.setCell ?_ ?_ _) | (with_reducible refine bel_call ‹_› ?_ ?_) | go_size)))
        have hB2 : Hid (Below w.heap.size w (w2.alloc (.cells (ndA x px lx cx) tPn))) := hB1.out.alloc hz2 _
        have e2 : w2.alloc (.cells #[.int .i64 x.kind, .int .i64 x.num, .string ⟨x.text.toArray⟩, .int .i64 x.frm, .int .i64 x.tor, .slice px lx cx] tPn) = w2.alloc (.cells (ndA x px lx cx) tPn) := rfl
        rw [e2]
        clear e2
        have HRC2 : Hid (RdT (w2.alloc (.cells (ndA x px lx cx) tPn)) w.heap.size d' c p' l') := HRC1.out.below (by (repeat' (first | (with_reducible exact Below.refl _ _) | (with_reducible assumption) | (with_reducible refine Below.alloc ?_ ?_ _) | (with_reducible refine bel_drewN ?_ _) | (with_reducible refine Below.drew ?_) | (with_reducible refine Below.setCell ?_ ?_ _) | (with_reducible refine bel_call ‹_› ?_ ?_) | go_size)))
        have HRX2 : Hid (RdT (w2.alloc (.cells (ndA x px lx cx) tPn)) w.heap.size d2' x px lx) := HRX1.out.below (by (repeat' (first | (with_reducible exact Below.refl _ _) | (with_reducible assumption) | (with_reducible refine Below.alloc ?_ ?_ _) | (with_reducible refine bel_drewN ?_ _) | (with_reducible refine Below.drew ?_) | (with_reducible refine Below.setCell ?_ ?_ _) | (with_reducible refine bel_call ‹_› ?_ ?_) | go_size)))
        clear t0 t1 t2 t3 t4 t5 HRC1 HRX1 hA1 hB1 hK1
        generalize w2.alloc (.cells (ndA x px lx cx) tPn) = w3 at hA2 hA1b hB2 HRC2 HRX2 ⊢
        generalize w2.heap.size = g2 at hA2 hz2 ⊢
        obtain ⟨c0, c1, c2, c3, c4, c5⟩ := hA1b.out.cells
        obtain ⟨y0, y1, y2, y3, y4, y5⟩ := hA2.out.cells
        have HCC := Lib.hid (HC.out d2' c x p' px l' c' lx cx w3 (HRC2.out.mono hB2.out.size) (HRX2.out.mono hB2.out.size) HCO.out HXO.out)
        rw [ndA_eq, ndA_eq] at HCC
        generalize smN c x = rc at HCC HD2
        clear HC
        go_wp2_with fail
        go_at_call 23
        refine HCC.out.mono ?_
        rintro e w4 ⟨rfl, hb4⟩
        have hB4 : Hid (Below w.heap.size w w4) := bel_call hb4 hB2.out hB2.out.size
        clear hb4 hB2 c0 c1 c2 c3 c4 c5 y0 y1 y2 y3 y4 y5 hA2 hA1b HRC2 HRX2 HCC
        cases rc
        · have HDE : Hid (O = false) := by unfold Hid; rw [HD2.out]; rfl
          go_wp2_with fail
          go_ret
          exact ⟨by rw [HDE.out]; rfl, hB4.out⟩
        · have HDE : Hid (O = smL (n.args.drop (i + 1)) (m.args.drop (i + 1))) := by unfold Hid; rw [HD2.out]; rfl
          go_wp2_with fail
          go_roundg (gk - 1)
          case measure => omega
          case rel => exact ⟨i + 1, by omega, by go_num, HDE.out, hB4.out⟩
      · obtain rfl : i = len := by omega
        have hli : ¬ (i : Int) < (i : Int) := by omega
        have HDE : Hid (O = true) := by
          unfold Hid
          rw [HD.out, List.drop_eq_nil_of_le (by rw [HAL.out]; exact Nat.le_refl _), List.drop_eq_nil_of_le (by rw [HAL2.out]; exact Nat.le_refl _), smL]
        go_wp2_with fail
        go_ret
        exact ⟨by rw [HDE.out]; rfl, HBL.out⟩
  · have hne : ((len : Int) != (len2 : Int)) = true := by simp; omega
    have HDE : Hid (O = false) := by unfold Hid; rw [← HO.out]; exact smL_len _ _ (by rw [HAL.out, HAL2.out]; exact hll)
    go_enter Tryd.func35, Tryd.ntmps35
    go_wp2_with fail
    go_ret
    exact ⟨by rw [HDE.out]; rfl, Below.refl _ _⟩

set_option maxRecDepth 100000 in
set_option maxHeartbeats 8000000 in
theorem same_s (d : Nat) (IH : ∀ d', d = d' + 1 → SameC d') : SameC d := by
  intro d2 n m p p2 len cap len2 cap2 w hrd hrd2 hok hok2
  obtain ⟨hh0, hh1⟩ : Hid (NdB tPn ((w.alloc (.cells (ndA n p len cap) tPn)).alloc (.cells (ndA m p2 len2 cap2) tPn)) w.heap.size n p len cap) ∧ Hid (NdB tPn ((w.alloc (.cells (ndA n p len cap) tPn)).alloc (.cells (ndA m p2 len2 cap2) tPn)) (w.heap.size + 1) m p2 len2 cap2) := by
    refine ⟨?_, ?_⟩
    · unfold Hid NdB
      rw [Lib.alloc_old _ _ _ (by simp)]
      exact heap_alloc_new w _
    · unfold Hid NdB
      have := heap_alloc_new (w.alloc (.cells (ndA n p len cap) tPn)) (.cells (ndA m p2 len2 cap2) tPn)
      rw [World.size_alloc] at this
      exact this
  have hAB : Hid (Below w.heap.size w ((w.alloc (.cells (ndA n p len cap) tPn)).alloc (.cells (ndA m p2 len2 cap2) tPn))) := by unfold Hid; (repeat' (first | (with_reducible exact Below.refl _ _) | (with_reducible assumption) | (with_reducible refine Below.alloc ?_ ?_ _) | (with_reducible refine bel_drewN ?_ _) | (with_reducible refine Below.drew ?_) | (with_reducible refine Below.setCell ?_ ?_ _) | (with_reducible refine bel_call ‹_› ?_ ?_) | go_size))
  have HEQ := Lib.hid (fun W (hW : Below w.heap.size w W) => eq_s d IH d2 n m p p2 len cap len2 cap2 W ((hrd.below hW).mono hW.size) ((hrd2.below hW).mono hW.size) hok hok2)
  obtain ⟨O, hO⟩ : ∃ O, smN n m = O := ⟨_, rfl⟩
  have HO : Hid (O = ((n.kind == m.kind) && ((n.num == m.num) && ((n.text == m.text) && ((n.frm == m.frm) && ((n.tor == m.tor) && smL n.args m.args)))))) := by unfold Hid; rw [← hO, smN_eq]
  rw [hO]
  clear hO hrd hrd2 hok hok2 IH
  generalize smL n.args m.args = rs at HEQ HO
  rw [ndA_eq, ndA_eq]
  go_enter Tryd.func23, Tryd.ntmps23
  go_upto_region 1 with fail
  have e0 : (w.alloc (.cells #[.int .i64 n.kind, .int .i64 n.num, .string ⟨n.text.toArray⟩, .int .i64 n.frm, .int .i64 n.tor, .slice p len cap] tPn)).alloc (.cells #[.int .i64 m.kind, .int .i64 m.num, .string ⟨m.text.toArray⟩, .int .i64 m.frm, .int .i64 m.tor, .slice p2 len2 cap2] tPn) = (w.alloc (.cells (ndA n p len cap) tPn)).alloc (.cells (ndA m p2 len2 cap2) tPn) := rfl
  rw [e0]
  clear e0
  generalize (w.alloc (.cells (ndA n p len cap) tPn)).alloc (.cells (ndA m p2 len2 cap2) tPn) = w0 at hh0 hh1 hAB ⊢
  obtain ⟨c0, c1, c2, c3, c4, c5⟩ := hh0.out.cells
  obtain ⟨y0, y1, y2, y3, y4, y5⟩ := hh1.out.cells
  have r0 := cell_regrown c0
  have r1 := cell_regrown c1
  have r2 := cell_regrown c2
  have r3 := cell_regrown c3
  have r4 := cell_regrown c4
  have r5 := cell_regrown c5
  have s0 := cell_regrown y0
  have s1 := cell_regrown y1
  have s2 := cell_regrown y2
  have s3 := cell_regrown y3
  have s4 := cell_regrown y4
  have s5 := cell_regrown y5
  have cE : ∀ dd os, Calls Tryd.prog 35 #[.slice p len cap, .slice p2 len2 cap2, .func (.func 23) #[] #[]] (Go.Sort.grow (redrawn w0 dd) os) fun e w'' => e = .returned (.bool rs) ∧ ∃ p : Regrown, w'' = Go.Sort.grow (redrawn w0 p.d) p.os := fun dd os => Calls.regrown_of (HEQ.out _ (bel_call (below_regrown w0 dd os) hAB.out hAB.out.size))
  clear c0 c1 c2 c3 c4 c5 y0 y1 y2 y3 y4 y5 hh0 hh1 HEQ
  by_cases h0 : n.kind = m.kind
  · have b0 : (n.kind == m.kind) = true := by simpa using h0
    have B0 := Lib.hid b0
    by_cases h1 : n.num = m.num
    · have b1 : (n.num == m.num) = true := by simpa using h1
      have B1 := Lib.hid b1
      by_cases h2 : n.text = m.text
      · have b2 : (n.text == m.text) = true := by simpa using h2
        have B2 := Lib.hid b2
        by_cases h3 : n.frm = m.frm
        · have b3 : (n.frm == m.frm) = true := by simpa using h3
          have B3 := Lib.hid b3
          by_cases h4 : n.tor = m.tor
          · have b4 : (n.tor == m.tor) = true := by simpa using h4
            have B4 := Lib.hid b4
            have HON : Hid (O = rs) := by unfold Hid; rw [HO.out, B0.out, B1.out, B2.out, B3.out, B4.out]; rfl
            clear h0 h1 h2 h3 h4 HO
            refine wp_region_plain_below ?_
            repeat (go_big_quiet_step ((first | with_reducible exact cE _ _)))
            refine wpQuiet_nil ?_
            intro _ hw'
            obtain ⟨⟨dz, osz⟩, hw''⟩ := hw'
            subst hw''
            have hBz : Below w.heap.size w (Go.Sort.grow (redrawn w0 dz) osz) := bel_call (below_regrown w0 dz osz) hAB.out hAB.out.size
            clear r0 r1 r2 r3 r4 r5 s0 s1 s2 s3 s4 s5 cE
            go_wp2_with fail
            go_ret
            exact ⟨by rw [HON.out]; rfl, hBz⟩
          · have b4 : (n.tor == m.tor) = false := by simpa using h4
            have HON : Hid (O = false) := by unfold Hid; rw [HO.out, B0.out, B1.out, B2.out, B3.out, b4]; rfl
            clear h0 h1 h2 h3 h4 HO
            refine wp_region_plain_below ?_
            repeat (go_big_quiet_step ((first | with_reducible exact cE _ _)))
            refine wpQuiet_nil ?_
            intro _ hw'
            obtain ⟨⟨dz, osz⟩, hw''⟩ := hw'
            subst hw''
            have hBz : Below w.heap.size w (Go.Sort.grow (redrawn w0 dz) osz) := bel_call (below_regrown w0 dz osz) hAB.out hAB.out.size
            clear r0 r1 r2 r3 r4 r5 s0 s1 s2 s3 s4 s5 cE
            go_wp2_with fail
            go_ret
            exact ⟨by rw [HON.out]; rfl, hBz⟩
        · have b3 : (n.frm == m.frm) = false := by simpa using h3
          have HON : Hid (O = false) := by unfold Hid; rw [HO.out, B0.out, B1.out, B2.out, b3]; rfl
          clear h0 h1 h2 h3 HO
          refine wp_region_plain_below ?_
          repeat (go_big_quiet_step ((first | with_reducible exact cE _ _)))
          refine wpQuiet_nil ?_
          intro _ hw'
          obtain ⟨⟨dz, osz⟩, hw''⟩ := hw'
          subst hw''
          have hBz : Below w.heap.size w (Go.Sort.grow (redrawn w0 dz) osz) := bel_call (below_regrown w0 dz osz) hAB.out hAB.out.size
          clear r0 r1 r2 r3 r4 r5 s0 s1 s2 s3 s4 s5 cE
          go_wp2_with fail
          go_ret
          exact ⟨by rw [HON.out]; rfl, hBz⟩
      · have b2 : (n.text == m.text) = false := by simpa using h2
        have HON : Hid (O = false) := by unfold Hid; rw [HO.out, B0.out, B1.out, b2]; rfl
        clear h0 h1 h2 HO
        refine wp_region_plain_below ?_
        repeat (go_big_quiet_step ((first | with_reducible exact cE _ _)))
        refine wpQuiet_nil ?_
        intro _ hw'
        obtain ⟨⟨dz, osz⟩, hw''⟩ := hw'
        subst hw''
        have hBz : Below w.heap.size w (Go.Sort.grow (redrawn w0 dz) osz) := bel_call (below_regrown w0 dz osz) hAB.out hAB.out.size
        clear r0 r1 r2 r3 r4 r5 s0 s1 s2 s3 s4 s5 cE
        go_wp2_with fail
        go_ret
        exact ⟨by rw [HON.out]; rfl, hBz⟩
    · have b1 : (n.num == m.num) = false := by simpa using h1
      have HON : Hid (O = false) := by unfold Hid; rw [HO.out, B0.out, b1]; rfl
      clear h0 h1 HO
      refine wp_region_plain_below ?_
      repeat (go_big_quiet_step ((first | with_reducible exact cE _ _)))
      refine wpQuiet_nil ?_
      intro _ hw'
      obtain ⟨⟨dz, osz⟩, hw''⟩ := hw'
      subst hw''
      have hBz : Below w.heap.size w (Go.Sort.grow (redrawn w0 dz) osz) := bel_call (below_regrown w0 dz osz) hAB.out hAB.out.size
      clear r0 r1 r2 r3 r4 r5 s0 s1 s2 s3 s4 s5 cE
      go_wp2_with fail
      go_ret
      exact ⟨by rw [HON.out]; rfl, hBz⟩
  · have b0 : (n.kind == m.kind) = false := by simpa using h0
    have HON : Hid (O = false) := by unfold Hid; rw [HO.out, b0]; rfl
    clear h0 HO
    refine wp_region_plain_below ?_
    repeat (go_big_quiet_step ((first | with_reducible exact cE _ _)))
    refine wpQuiet_nil ?_
    intro _ hw'
    obtain ⟨⟨dz, osz⟩, hw''⟩ := hw'
    subst hw''
    have hBz : Below w.heap.size w (Go.Sort.grow (redrawn w0 dz) osz) := bel_call (below_regrown w0 dz osz) hAB.out hAB.out.size
    clear r0 r1 r2 r3 r4 r5 s0 s1 s2 s3 s4 s5 cE
    go_wp2_with fail
    go_ret
    exact ⟨by rw [HON.out]; rfl, hBz⟩
theorem same_any : ∀ d, SameC d
  | 0 => same_s 0 (fun d' h => by omega)
  | d + 1 => same_s (d + 1) (fun d' h => (show d = d' from by omega) ▸ same_any d)
end Go.Proofs.YtfkfajgfkgeicaaDoor
