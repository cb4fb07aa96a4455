/- Trees over stamps: the document's Right: the walk. Printed by gen_tnj.py. -/
import Derived.Test.YtljloggbfmnjmaaDoorTnI
set_option linter.unusedSimpArgs false
set_option linter.unusedVariables false
namespace Go.Proofs.YtljloggbfmnjmaaDoor
open Go.RowKit Go.Joins

def RR2C (d : Nat) : Prop := ∀ (n : Bn) (p : Option Addr) (len cap : Nat) (w : World), RdQ rfE 12 w okA d n p len → Gd n → Calls Tryd.prog 21 #[.agg (bnA n p len cap)] w fun e w' => e = .returned (.bool (rgN n)) ∧ Below w.heap.size w w'
set_option maxRecDepth 100000 in
set_option maxHeartbeats 16000000 in
theorem rr2_s (d : Nat) (IH : ∀ d', d = d' + 1 → RR2C d') : RR2C d := by
  intro n p len cap w hrd hok
  have hA0 : Hid (BlkC (w.alloc (.cells (bnA n p len cap) tN2)) w.heap.size (bnA n p len cap) tN2) := heap_alloc_new w _
  have hAB : Hid (Below w.heap.size w (w.alloc (.cells (bnA n p len cap) tN2))) := by unfold Hid; (repeat' (first | (with_reducible exact Below.refl _ _) | (with_reducible assumption) | (with_reducible refine Below.alloc ?_ ?_ _) | (with_reducible refine bel_drewN ?_ _) | (with_reducible refine Below.drew ?_) | (with_reducible refine Below.setCell ?_ ?_ _) | (with_reducible refine bel_call ‹_› ?_ ?_) | go_size))
  have HRD := Lib.hid hrd
  have HIH := Lib.hid IH
  have hlen := hok.sm.len
  rw [hrd.len] at hlen
  have HAL := Lib.hid hrd.len
  have HOK := Lib.hid (fun c hc => Gd.child (c := c) hok hc)
  have HST := Lib.hid hok.stamps
  have HGD := Lib.hid hok
  obtain ⟨O, hO⟩ : ∃ O, rgN n = O := ⟨_, rfl⟩
  have HO := Lib.hid hO
  rw [hO]
  rw [rgN_eq] at HO
  clear hO
  rw [bnA_eq]
  have HSC := Lib.hid (shape_any d n p len cap (w.alloc (.cells (bnA n p len cap) tN2)) (hrd.below (by (repeat' (first | (with_reducible exact Below.refl _ _) | (with_reducible assumption) | (with_reducible refine Below.alloc ?_ ?_ _) | (with_reducible refine bel_drewN ?_ _) | (with_reducible refine Below.drew ?_) | (with_reducible refine Below.setCell ?_ ?_ _) | (with_reducible refine bel_call ‹_› ?_ ?_) | go_size)))) hok.sm)
  rw [bnA_eq] at HSC
  clear hrd IH hok
  go_enter Tryd.func21, Tryd.ntmps21
  go_upto_region 1 with fail
  have e0 : w.alloc (.cells #[.int .i64 n.kind, .int .i64 n.num, .string ⟨n.text.toArray⟩, .int .u64 n.frm.1.1, .int .i64 n.frm.1.2, .int .u64 n.frm.2.1, .int .i64 n.frm.2.2, .int .u64 n.tor.1.1, .int .i64 n.tor.1.2, .int .u64 n.tor.2.1, .int .i64 n.tor.2.2, .slice p len cap] tN2) = w.alloc (.cells (bnA n p len cap) tN2) := rfl
  rw [e0]
  clear e0
  generalize w.alloc (.cells (bnA n p len cap) tN2) = w0 at hA0 hAB HSC ⊢
  refine wp_region_lit ?_
  refine wpList_load_mid (by rfl) _ _ (by rfl) w.heap.size 0 (by rfl) [.int .i64 n.kind, .int .i64 n.num, .string ⟨n.text.toArray⟩, .int .u64 n.frm.1.1, .int .i64 n.frm.1.2, .int .u64 n.frm.2.1, .int .i64 n.frm.2.2, .int .u64 n.tor.1.1, .int .i64 n.tor.1.2, .int .u64 n.tor.2.1, .int .i64 n.tor.2.2, .slice p len cap] _ (block_range hA0.out [.int .i64 n.kind, .int .i64 n.num, .string ⟨n.text.toArray⟩, .int .u64 n.frm.1.1, .int .i64 n.frm.1.2, .int .u64 n.frm.2.1, .int .i64 n.frm.2.2, .int .u64 n.tor.1.1, .int .i64 n.tor.1.2, .int .u64 n.tor.2.1, .int .i64 n.tor.2.2, .slice p len cap] rfl) Tryd.underlying53 rfl (by kernel_rfl) ?_
  go_simp
  go_wp2_with fail
  refine HSC.out.mono ?_
  rintro e w1 ⟨⟨p1, c1, rfl, hsr⟩, hb1⟩
  have hB1 : Hid (Below w.heap.size w w1) := bel_call hb1 hAB.out hAB.out.size
  have HA1 := Lib.hid (hA0.out.below hb1)
  have HRC := Lib.hid (rright_any d (toNd (shT n)) p1 len c1 64 w1 (hsr.toT (Nat.le_refl _)) HGD.out.okN (by omega) (by omega))
  rw [rt_sh, toNd_arr] at HRC
  rw [show Value.agg (inA (shT n) p1 len c1) = .agg #[.int .i64 (shT n).kind, .int .i64 (shT n).num, .string ⟨(shT n).text.toArray⟩, .int .i64 (shT n).frm, .int .i64 (shT n).tor, .slice p1 len c1] from rfl] at HRC ⊢
  clear hsr hb1 hA0 hAB HSC
  obtain ⟨rt, hrt⟩ : ∃ rt, rtT n 64 = rt := ⟨_, rfl⟩
  rw [hrt] at HRC HO
  clear hrt
  go_wp2_with fail
  refine HRC.out.mono ?_
  rintro e w2 ⟨rfl, hb2⟩
  have hB2 : Hid (Below w.heap.size w w2) := bel_call hb2 hB1.out hB1.out.size
  have HA2 := Lib.hid (HA1.out.below hb2)
  clear hb2 HRC hB1 HA1
  cases rt
  · have HON : Hid (O = false) := by unfold Hid; rw [← HO.out]; rfl
    clear HO
    go_wp2_with fail
    go_ret
    exact ⟨by rw [HON.out]; rfl, hB2.out⟩
  have HO1 : Hid (O = (stO n.kind n.frm n.tor && rgN.rgL n.args)) := by unfold Hid; rw [← HO.out]; rfl
  clear HO
  have c0 : w2.cell? ⟨w.heap.size, 0, none⟩ = some (.int .i64 n.kind) := HA2.out.cell 0 _ rfl
  obtain ⟨W2, hW2⟩ : ∃ W2, Hid (w2 = W2) := ⟨_, rfl⟩
  go_upto_region 4 with fail
  go_cut [16] (fun v16 wx => v16 = .bool (decide (n.kind = 3) || decide (n.kind = 4)) ∧ wx = W2)
  case first => as_aux_lemma =>
    have hWe := hW2.out
    subst hWe
    clear HO1 HRD HIH HAL HOK HST HGD
    by_cases h3 : n.kind = 3
    · have b3 : (n.kind == 3) = true := by simpa using h3
      have hD : Hid ((decide (n.kind = 3) || decide (n.kind = 4)) = true) := by unfold Hid; simp [h3]
      clear h3
      go_wp2_with fail
      go_meet
      exact ⟨by rw [hD.out], rfl⟩
    · have b3 : (n.kind == 3) = false := by simpa using h3
      by_cases h4 : n.kind = 4
      · have b4 : (n.kind == 4) = true := by simpa using h4
        have hD : Hid ((decide (n.kind = 3) || decide (n.kind = 4)) = true) := by unfold Hid; simp [h4]
        clear h3 h4
        go_wp2_with fail
        go_meet
        exact ⟨by rw [hD.out], rfl⟩
      · have b4 : (n.kind == 4) = false := by simpa using h4
        have hD : Hid ((decide (n.kind = 3) || decide (n.kind = 4)) = false) := by unfold Hid; simp [h3, h4]
        clear h3 h4
        go_wp2_with fail
        go_meet
        exact ⟨by rw [hD.out], rfl⟩
  case rest =>
  obtain ⟨rfl, hwc⟩ := hcut
  have hWe := hW2.out
  subst hWe
  rw [hwc]
  clear hwc wc c0
  obtain ⟨q34, hq34⟩ : ∃ q, (decide (n.kind = 3) || decide (n.kind = 4)) = q := ⟨_, rfl⟩
  rw [hq34]
  have HQ := Lib.hid hq34
  clear hq34
  obtain ⟨W2, hW2⟩ : ∃ W2, Hid (w2 = W2) := ⟨_, rfl⟩
  go_upto_if 16 with fail
  go_cut [3] (fun v3 wx => v3 = .bool (if n.kind = 3 ∨ n.kind = 4 then rtP n.frm else true) ∧ Below W2.heap.size W2 wx)
  case first => as_aux_lemma =>
    have HA := Lib.hid HA2.out
    have hWe := hW2.out
    subst hWe
    clear HO1 HRD HIH HAL HOK HGD hB2 HA2
    cases q34
    · have hD : Hid (¬ (n.kind = 3 ∨ n.kind = 4)) := by
        have := HQ.out
        unfold Hid
        simpa using this
      clear HQ
      go_wp2_with fail
      go_meet
      exact ⟨by rw [if_neg hD.out], Below.refl _ _⟩
    · have hD : Hid (n.kind = 3 ∨ n.kind = 4) := by
        have := HQ.out
        unfold Hid
        simpa using this
      clear HQ
      have c3 : w2.cell? ⟨w.heap.size, 3, none⟩ = some (.int .u64 n.frm.1.1) := HA.out.cell 3 _ rfl
      have c4 : w2.cell? ⟨w.heap.size, 4, none⟩ = some (.int .i64 n.frm.1.2) := HA.out.cell 4 _ rfl
      have c5 : w2.cell? ⟨w.heap.size, 5, none⟩ = some (.int .u64 n.frm.2.1) := HA.out.cell 5 _ rfl
      have c6 : w2.cell? ⟨w.heap.size, 6, none⟩ = some (.int .i64 n.frm.2.2) := HA.out.cell 6 _ rfl
      go_wp2_with fail
      refine (rsright_any n.frm.1 HST.out.1 _).mono ?_
      rintro e w3 ⟨rfl, hb⟩
      have hB3 := Lib.hid hb
      have hA3 := Lib.hid (HA.out.below hb)
      clear hb
      have c3 : w3.cell? ⟨w.heap.size, 3, none⟩ = some (.int .u64 n.frm.1.1) := hA3.out.cell 3 _ rfl
      have c4 : w3.cell? ⟨w.heap.size, 4, none⟩ = some (.int .i64 n.frm.1.2) := hA3.out.cell 4 _ rfl
      have c5 : w3.cell? ⟨w.heap.size, 5, none⟩ = some (.int .u64 n.frm.2.1) := hA3.out.cell 5 _ rfl
      have c6 : w3.cell? ⟨w.heap.size, 6, none⟩ = some (.int .i64 n.frm.2.2) := hA3.out.cell 6 _ rfl
      obtain ⟨r1, hr1⟩ : ∃ r, rtI n.frm.1 = r := ⟨_, rfl⟩
      rw [hr1]
      cases r1
      · have hE : Hid (rtP n.frm = false) := by unfold Hid rtP; rw [hr1]; rfl
        clear hr1
        go_wp2_with fail
        go_meet
        exact ⟨by rw [if_pos hD.out, hE.out], hB3.out⟩
      · go_wp2_with fail
        refine (rsright_any n.frm.2 HST.out.2.1 _).mono ?_
        rintro e w4 ⟨rfl, hb⟩
        have hB4 : Hid (Below w2.heap.size w2 w4) := bel_call hb hB3.out hB3.out.size
        have hE : Hid (rtP n.frm = rtI n.frm.2) := by unfold Hid rtP; rw [hr1]; rfl
        clear hb hr1
        go_wp2_with fail
        go_meet
        exact ⟨by rw [if_pos hD.out, hE.out], hB4.out⟩
  case rest =>
  obtain ⟨rfl, hbx⟩ := hcut
  have hWe := hW2.out
  subst hWe
  have hB3 : Hid (Below w.heap.size w wc) := bel_call hbx hB2.out hB2.out.size
  have HA3 := Lib.hid (HA2.out.below hbx)
  clear hbx hB2 HA2 HQ
  generalize wc = w3 at hB3 HA3 ⊢
  obtain ⟨r3, hr3⟩ : ∃ r, (if n.kind = 3 ∨ n.kind = 4 then rtP n.frm else true) = r := ⟨_, rfl⟩
  rw [hr3]
  have HR3 := Lib.hid hr3
  clear hr3
  have c0 : w3.cell? ⟨w.heap.size, 0, none⟩ = some (.int .i64 n.kind) := HA3.out.cell 0 _ rfl
  obtain ⟨W3, hW3⟩ : ∃ W3, Hid (w3 = W3) := ⟨_, rfl⟩
  obtain ⟨b4, hb4⟩ : ∃ x, (n.kind == 4) = x := ⟨_, rfl⟩
  go_upto_if 29 with fail
  go_cut [3] (fun v3 wx => v3 = .bool (stO n.kind n.frm n.tor) ∧ Below W3.heap.size W3 wx)
  case first => as_aux_lemma =>
    have HA := Lib.hid HA3.out
    have hWe := hW3.out
    subst hWe
    clear HO1 HRD HIH HAL HOK HGD hB3 HA3 c0
    cases b4
    · have hk : n.kind ≠ 4 := by simpa using hb4
      have hE : Hid (stO n.kind n.frm n.tor = r3) := by
        unfold Hid stO
        rw [← HR3.out]
        by_cases h3 : n.kind = 3
        · simp [h3]
        · simp [h3, hk]
      clear hb4 hk HR3
      go_wp2_with fail
      go_meet
      exact ⟨by rw [hE.out], Below.refl _ _⟩
    · have hk : n.kind = 4 := by simpa using hb4
      have hE : Hid (stO n.kind n.frm n.tor = (r3 && rtP n.tor)) := by
        unfold Hid stO
        rw [← HR3.out]
        simp [hk]
      clear hb4 hk HR3
      have c7 : w3.cell? ⟨w.heap.size, 7, none⟩ = some (.int .u64 n.tor.1.1) := HA.out.cell 7 _ rfl
      have c8 : w3.cell? ⟨w.heap.size, 8, none⟩ = some (.int .i64 n.tor.1.2) := HA.out.cell 8 _ rfl
      have c9 : w3.cell? ⟨w.heap.size, 9, none⟩ = some (.int .u64 n.tor.2.1) := HA.out.cell 9 _ rfl
      have c10 : w3.cell? ⟨w.heap.size, 10, none⟩ = some (.int .i64 n.tor.2.2) := HA.out.cell 10 _ rfl
      cases r3
      · go_wp2_with fail
        go_meet
        exact ⟨by rw [hE.out]; rfl, Below.refl _ _⟩
      · go_wp2_with fail
        refine (rsright_any n.tor.1 HST.out.2.2.1 _).mono ?_
        rintro e w4 ⟨rfl, hb⟩
        have hB4 := Lib.hid hb
        have hA4 := Lib.hid (HA.out.below hb)
        clear hb
        have c7 : w4.cell? ⟨w.heap.size, 7, none⟩ = some (.int .u64 n.tor.1.1) := hA4.out.cell 7 _ rfl
        have c8 : w4.cell? ⟨w.heap.size, 8, none⟩ = some (.int .i64 n.tor.1.2) := hA4.out.cell 8 _ rfl
        have c9 : w4.cell? ⟨w.heap.size, 9, none⟩ = some (.int .u64 n.tor.2.1) := hA4.out.cell 9 _ rfl
        have c10 : w4.cell? ⟨w.heap.size, 10, none⟩ = some (.int .i64 n.tor.2.2) := hA4.out.cell 10 _ rfl
        obtain ⟨r1, hr1⟩ : ∃ r, rtI n.tor.1 = r := ⟨_, rfl⟩
        rw [hr1]
        cases r1
        · have hE2 : Hid (rtP n.tor = false) := by unfold Hid rtP; rw [hr1]; rfl
          clear hr1
          go_wp2_with fail
          go_meet
          exact ⟨by rw [hE.out, hE2.out]; rfl, hB4.out⟩
        · go_wp2_with fail
          refine (rsright_any n.tor.2 HST.out.2.2.2 _).mono ?_
          rintro e w5 ⟨rfl, hb⟩
          have hB5 : Hid (Below w3.heap.size w3 w5) := bel_call hb hB4.out hB4.out.size
          have hE2 : Hid (rtP n.tor = rtI n.tor.2) := by unfold Hid rtP; rw [hr1]; rfl
          clear hb hr1
          go_wp2_with fail
          go_meet
          exact ⟨by rw [hE.out, hE2.out]; rfl, hB5.out⟩
  case rest =>
  obtain ⟨rfl, hbx⟩ := hcut
  have hWe := hW3.out
  subst hWe
  have hB4 : Hid (Below w.heap.size w wc) := bel_call hbx hB3.out hB3.out.size
  have HA4 := Lib.hid (HA3.out.below hbx)
  clear hbx hB3 HA3 HR3 HST HGD hb4 c0
  generalize wc = w4 at hB4 HA4 ⊢
  go_wp2_with fail
  go_loopg [3, 4] len (fun g v3 v4 wr => ∃ (i : Nat) (ok : Bool), i + g = len ∧ v4 = .int .i64 i ∧ v3 = .bool ok ∧ O = (ok && rgN.rgL (n.args.drop i)) ∧ BlkC wr w.heap.size (bnA n p len cap) tN2 ∧ Below w.heap.size w wr)
  case atStart => exact ⟨0, stO n.kind n.frm n.tor, by omega, rfl, rfl, by rw [HO1.out]; rfl, HA4.out, hB4.out⟩
  case round =>
    obtain ⟨i, ok, hig, rfl, rfl, hD, hA, hbel⟩ := hrel
    have HD := Lib.hid hD
    have HA := Lib.hid hA
    have HBL := Lib.hid hbel
    have hzr := hbel.size
    clear hD hA hbel HO1 hB4 HA4
    have c11 : wr.cell? ⟨w.heap.size, 11, none⟩ = some (.slice p len cap) := HA.out.cell 11 _ rfl
    cases ok
    · have HDE : Hid (O = false) := by unfold Hid; rw [HD.out]; rfl
      clear HD
      by_cases hlt : i < len
      · have hli : (i : Int) < (len : Int) := by omega
        go_wp2_with fail
        go_ret
        exact ⟨by rw [HDE.out]; rfl, HBL.out⟩
      · have hli : ¬ (i : Int) < (len : Int) := by omega
        go_wp2_with fail
        go_ret
        exact ⟨by rw [HDE.out]; rfl, HBL.out⟩
    · by_cases hlt : i < len
      · have hli : (i : Int) < (len : Int) := by omega
        obtain ⟨d', b, off, c, p', l', c', hd, rfl, _, hbN, hc, hrc, hrg⟩ := (HRD.out.below HBL.out).at hlt
        have HC : Hid (RR2C d') := HIH.out d' hd
        have HCO := Lib.hid (HOK.out c (mem_of_at hc))
        have HD2 : Hid (O = (rgN c && rgN.rgL (n.args.drop (i + 1)))) := by unfold Hid; rw [HD.out, rgL_at hc]; rfl
        have HCC := Lib.hid (HC.out c p' l' c' wr hrc HCO.out)
        rw [bnA_eq] at HCC
        have HRG := Lib.hid hrg
        obtain ⟨rc, hrc2⟩ : ∃ rc, rgN c = rc := ⟨_, rfl⟩
        rw [hrc2] at HCC HD2
        clear hc hrc HD hd hrg HC hrc2
        go_upto_region 11 with fail
        refine wp_region_lit ?_
        refine wpList_plain rfl fun K hK => ?_
        go_simp
        refine hK _ _ ?_
        clear hK K
        refine wpList_plain rfl fun K hK => ?_
        go_simp
        refine hK _ _ ?_
        clear hK K
        refine wpList_plain rfl fun K hK => ?_
        go_simp
        refine hK _ _ ?_
        clear hK K
        refine wpList_plain rfl fun K hK => ?_
        go_simp
        refine hK _ _ ?_
        clear hK K
        refine wpList_load_mid (by rfl) _ _ (by rfl) b (off + i * 12) (by rfl) [.int .i64 c.kind, .int .i64 c.num, .string ⟨c.text.toArray⟩, .int .u64 c.frm.1.1, .int .i64 c.frm.1.2, .int .u64 c.frm.2.1, .int .i64 c.frm.2.2, .int .u64 c.tor.1.1, .int .i64 c.tor.1.2, .int .u64 c.tor.2.1, .int .i64 c.tor.2.2, .slice p' l' c'] _ HRG.out Tryd.underlying53 rfl (by kernel_rfl) ?_
        go_simp
        go_wp2_with fail
        refine HCC.out.mono ?_
        rintro e w3 ⟨rfl, hb3⟩
        have hB3 : Hid (Below w.heap.size w w3) := bel_call hb3 HBL.out HBL.out.size
        have HA3 := Lib.hid (HA.out.below hb3)
        clear hb3 HBL HA HCC HRG c11
        go_wp2_with fail
        go_roundg (gk - 1)
        case measure => omega
        case rel => exact ⟨i + 1, rc, by omega, by go_num, rfl, HD2.out, HA3.out, hB3.out⟩
      · obtain rfl : i = len := by omega
        have hli : ¬ (i : Int) < (i : Int) := by omega
        have HDE : Hid (O = true) := by
          unfold Hid
          rw [HD.out, List.drop_eq_nil_of_le (by rw [HAL.out]; exact Nat.le_refl _), rgN.rgL]
          rfl
        clear HD
        go_wp2_with fail
        go_ret
        exact ⟨by rw [HDE.out]; rfl, HBL.out⟩
theorem rr2_any : ∀ d, RR2C d
  | 0 => rr2_s 0 (fun d' h => by omega)
  | d + 1 => rr2_s (d + 1) (fun d' h => (show d = d' from by omega) ▸ rr2_any d)
end Go.Proofs.YtljloggbfmnjmaaDoor
