/- The walk of ParseWrites. Printed by gen_rrk.py. -/
import Derived.Test.YtigmcoelkkihkaaGreatDoorPwAa
import Derived.Test.YtigmcoelkkihkaaGreatDoorPwAe
set_option linter.unusedSimpArgs false
set_option linter.unusedVariables false
namespace Go.Proofs.YtigmcoelkkihkaaGreatDoor
open Go.RowKit Go.Joins

set_option maxRecDepth 100000 in
set_option maxHeartbeats 8000000 in
theorem formula_long (s : ByteArray) (hl : 256 < s.size) (w : World) : Calls Tryz.prog 9 #[.string s] w fun e w' => e = .returned (.tuple #[.agg (Cel.ndA nodeZ none 0 0), .int .i64 30]) ∧ Below w.heap.size w w' := by
  have hA0 : Hid (BlkC (w.alloc (.cells (Cel.ndA nodeZ none 0 0) Cel.tPn)) w.heap.size (Cel.ndA nodeZ none 0 0) Cel.tPn) := heap_alloc_new w _
  have hB0 : Hid (Below w.heap.size w (w.alloc (.cells (Cel.ndA nodeZ none 0 0) Cel.tPn))) := by unfold Hid; (repeat' (first | (with_reducible exact Below.refl _ _) | (with_reducible assumption) | (with_reducible refine Below.alloc ?_ ?_ _) | (with_reducible refine bel_drewN ?_ _) | (with_reducible refine Below.drew ?_) | (with_reducible refine Below.setCell ?_ ?_ _) | (with_reducible refine bel_call ‹_› ?_ ?_) | go_size))
  have hl2 : (256 : Int) < (s.size : Int) := by omega
  go_enter Tryz.func9, Tryz.ntmps9
  go_upto_region 1 with fail
  have e0 : w.alloc (.cells #[.int .i64 0, .int .i64 0, .string ⟨#[]⟩, .int .i64 0, .int .i64 0, .int .i64 0, .int .i64 0, .slice none 0 0] Cel.tPn) = w.alloc (.cells (Cel.ndA nodeZ none 0 0) Cel.tPn) := rfl
  rw [e0]
  clear e0
  generalize w.alloc (.cells (Cel.ndA nodeZ none 0 0) Cel.tPn) = w0 at hA0 hB0 ⊢
  go_upto_region 2 with fail
  refine wp_region_lit ?_
  refine wpList_plain rfl fun K hK => ?_
  go_simp
  refine hK _ _ ?_
  clear hK K
  refine wpList_store_mid (by rfl) _ _ _ (by rfl) w.heap.size 0 #[.int .i64 0, .int .i64 0, .string ⟨#[]⟩, .int .i64 0, .int .i64 0, .int .i64 0, .int .i64 0, .slice none 0 0] (by rfl) (by rfl) (block_there hA0.out 8 (Nat.le_refl _)) (by kernel_rfl) (by simp [Value.oneCell']) ?_
  have e8 : w0.setCells w.heap.size 0 (#[.int .i64 0, .int .i64 0, .string ⟨#[]⟩, .int .i64 0, .int .i64 0, .int .i64 0, .int .i64 0, .slice none 0 0]).toList = w0.setCells w.heap.size 0 (Cel.ndA nodeZ none 0 0).toList := rfl
  rw [e8]
  clear e8
  have HS8 : Hid (BlkC (w0.setCells w.heap.size 0 (Cel.ndA nodeZ none 0 0).toList) w.heap.size (Cel.ndA nodeZ none 0 0) Cel.tPn) := store_block hA0.out _ rfl
  have HB8 : Hid (Below w.heap.size w (w0.setCells w.heap.size 0 (Cel.ndA nodeZ none 0 0).toList)) := store_below (Nat.le_refl _) _ _ _ hB0.out
  clear hA0 hB0
  generalize w0.setCells w.heap.size 0 (Cel.ndA nodeZ none 0 0).toList = w9 at HS8 HB8 ⊢
  go_simp
  go_wp2_with fail
  try simp only [Exit.inBlock, Exit.then]
  exact bodyPost_ret (results_row_tmp rfl _ _ w.heap.size Cel.tPn (Cel.ndA nodeZ none 0 0) (0, 0) _ rfl HS8.out Tryz.underlying34 rfl (by kernel_rfl) _ rfl) rfl ⟨rfl, HB8.out⟩
set_option maxRecDepth 100000 in
set_option maxHeartbeats 16000000 in
theorem writes_walk (s : ByteArray) (w : World) (hsh : w.ShapedOpen Tryz.prog) :
    Calls Tryz.prog 3 #[.string s] w fun e w' => e = .returned (.bool true) ∧ Below w.heap.size w w' := by
  have HSH := Lib.hid (fun W (hW : Below w.heap.size w W) => shaped_below hsh hW)
  have HAW := Lib.hid (fun W (hW : Below w.heap.size w W) => awake_any W (HSH.out W hW))
  clear hsh
  by_cases hs4 : 400 < s.size
  · have hs5 : (400 : Int) < (s.size : Int) := by omega
    go_enter Tryz.func3, Tryz.ntmps3
    go_wp2_with fail
    refine (HAW.out w (Below.refl _ _)).mono ?_
    rintro e w1 ⟨rfl, hb⟩
    go_wp2_with fail
    go_ret
    exact ⟨rfl, hb⟩
  · have hs5 : ¬ (400 : Int) < (s.size : Int) := by omega
    have HFM := Lib.hid (rformula_any s w)
    go_enter Tryz.func3, Tryz.ntmps3
    go_wp2_with fail
    refine HFM.out.mono ?_
    rintro e w3 ⟨⟨x, p2, len, cap2, k, rfl, hk, hkz⟩, hb3⟩
    have HB3 : Hid (Below w.heap.size w w3) := hb3
    have HKK := Lib.hid hk
    clear hb3 HFM hk hkz hs4 hs5
    by_cases hk0 : k = 0
    · subst hk0
      obtain ⟨rfl, hfm, hok, hfew, hwt, hdp, hrd⟩ := HKK.out rfl
      obtain ⟨len, hlen⟩ : ∃ len, x.args.length = len := ⟨_, rfl⟩
      rw [hlen] at hrd
      obtain ⟨d, hdx⟩ : ∃ d, dpN x = d := ⟨_, rfl⟩
      have HXF := Lib.hid hfm
      have HXD := Lib.hid hdp
      have HXR : Hid (rtN x 64 = true) := rt_fm hfm 64 (by omega)
      have HXO := Lib.hid hok
      have HXW := Lib.hid hfew
      have HXT : Hid (wtN x ≤ 2200000) := by unfold Hid; omega
      have HK3 : Hid (RdT w3 w3.heap.size d x p2 len) := (hrd d (by omega)).rdT (fun b h => h.2)
      rw [hlen]
      clear HKK hfm hok hfew hwt hdp hrd hdx hlen
      rw [ndA_c6]
      go_upto_region 4 with fail
      have e1 : w3.alloc (.cells #[.int .i64 x.kind, .int .i64 x.num, .string ⟨x.text.toArray⟩, .int .i64 x.frm, .int .i64 x.tor, .slice p2 len cap2] tRn) = w3.alloc (.cells (ndA x p2 len cap2) tRn) := rfl
      rw [e1]
      clear e1
      have HX4 : Hid (NdB tRn (w3.alloc (.cells (ndA x p2 len cap2) tRn)) w3.heap.size x p2 len cap2) := heap_alloc_new w3 _
      have hb4 : Below w3.heap.size w3 (w3.alloc (.cells (ndA x p2 len cap2) tRn)) := (Below.refl _ _).alloc (Nat.le_refl _) _
      have HB4 : Hid (Below w.heap.size w (w3.alloc (.cells (ndA x p2 len cap2) tRn))) := bel_call hb4 HB3.out HB3.out.size
      have HK4 : Hid (RdT (w3.alloc (.cells (ndA x p2 len cap2) tRn)) w3.heap.size d x p2 len) := HK3.out.below hb4
      have hz4 := hb4.size
      clear hb4 HK3 HB3
      generalize w3.alloc (.cells (ndA x p2 len cap2) tRn) = w4 at HX4 HB4 HK4 hz4 ⊢
      generalize w3.heap.size = B at HX4 HK4 hz4 ⊢
      have HKB := Lib.hid (fun W (hW : Below w4.heap.size w4 W) => (HK4.out.below (hW.mono hz4)).mono (Nat.le_trans hz4 hW.size))
      have HTO := Lib.hid (fun W (hW : Below w4.heap.size w4 W) => tom_any d x p2 len cap2 W (HKB.out W hW) HXO.out HXW.out)
      have HRX := Lib.hid (fun W (hW : Below w4.heap.size w4 W) => rtext10_any x d p2 len cap2 64 W (HKB.out W hW) HXO.out HXW.out HXR.out HXT.out)
      have HPX := Lib.hid (fun q cq W (h : Cel.RdT W W.heap.size d x q len) (hs : W.ShapedOpen Tryz.prog) => ptext_any x d q len cq 64 W h HXO.out HXR.out hs HXT.out)
      have HSA := Lib.hid (fun q1 c1 d2 q2 c2 l2 W (h1 : Cel.RdT W W.heap.size d2 x q1 l2) (h2 : Cel.RdT W W.heap.size d x q2 len) => Cel.same1_any d2 d x q1 q2 l2 c1 len c2 W h1 h2 HXW.out)
      have HFO := Lib.hid (fun (hl : (prN nmS x 1).length ≤ 256) W (hs : W.ShapedOpen Tryz.prog) => formula_ok x HXF.out HXD.out HXO.out ⟨(prN nmS x 1).toArray⟩ (by simp) (by rw [Lib.size_eq]; simpa using hl) W hs)
      clear HK4
      generalize prN nmS x 1 = t at HRX HPX HFO
      obtain ⟨c0, c1, c2, c3, c4, c5⟩ := HX4.out.cells
      have HT1 := Lib.hid (HTO.out w4 (Below.refl _ _))
      rw [ndA_c6] at HT1
      go_wp2_with fail
      refine HT1.out.mono ?_
      rintro e w5 ⟨⟨q1, cq1, rfl, hk5⟩, hb5⟩
      have HB5 : Hid (Below w4.heap.size w4 w5) := hb5
      have HP5 := Lib.hid (HPX.out q1 cq1 w5 (hk5.rdT (fun b h => h.2)) (HSH.out w5 (bel_call hb5 HB4.out HB4.out.size)))
      rw [ndA_c8] at HP5
      rw [ndA_c8]
      clear hk5 hb5 HT1 c0 c1 c2 c3 c4 c5
      go_wp2_with fail
      refine HP5.out.mono ?_
      rintro e w6 ⟨rfl, hb6⟩
      have HB6 : Hid (Below w4.heap.size w4 w6) := bel_call hb6 HB5.out HB5.out.size
      have HX6 := Lib.hid (HX4.out.below HB6.out)
      have HBW6 : Hid (Below w.heap.size w w6) := bel_call HB6.out HB4.out HB4.out.size
      clear hb6 HP5 HB5
      have hts : (⟨t.toArray⟩ : ByteArray).size = t.length := by rw [Lib.size_eq]
      by_cases hlong : 256 < t.length
      · have hl : (256 : Int) < (((⟨t.toArray⟩ : ByteArray).size : Nat) : Int) := by rw [hts]; omega
        have HFL6 := Lib.hid (formula_long ⟨t.toArray⟩ (by omega) w6)
        rw [ndA_c8] at HFL6
        clear HFO HSA HPX HTO
        have hl2 : (256 : Int) < (t.length : Int) := by omega
        go_wp2_with fail
        refine HFL6.out.mono ?_
        rintro e w7 ⟨rfl, hb7⟩
        have HX7 := Lib.hid (HX6.out.below hb7)
        have HBW7 : Hid (Below w.heap.size w w7) := bel_call hb7 HBW6.out HBW6.out.size
        have HB7 : Hid (Below w4.heap.size w4 w7) := bel_call hb7 HB6.out HB6.out.size
        clear hb7 HX6 HBW6 HB6 HFL6 hts
        go_upto_region 8 with fail
        have hb8 : Below w7.heap.size w7 (w7.alloc (.cells #[.int .i64 nodeZ.kind, .int .i64 nodeZ.num, .string ⟨nodeZ.text.toArray⟩, .int .i64 (cC nodeZ.frm), .int .i64 (cR nodeZ.frm), .int .i64 (cC nodeZ.tor), .int .i64 (cR nodeZ.tor), .slice none 0 0] Cel.tPn)) := (Below.refl _ _).alloc (Nat.le_refl _) _
        have HX8 := Lib.hid (HX7.out.below hb8)
        have HBW8 : Hid (Below w.heap.size w (w7.alloc (.cells #[.int .i64 nodeZ.kind, .int .i64 nodeZ.num, .string ⟨nodeZ.text.toArray⟩, .int .i64 (cC nodeZ.frm), .int .i64 (cR nodeZ.frm), .int .i64 (cC nodeZ.tor), .int .i64 (cR nodeZ.tor), .slice none 0 0] Cel.tPn))) := bel_call hb8 HBW7.out HBW7.out.size
        have HB8 : Hid (Below w4.heap.size w4 (w7.alloc (.cells #[.int .i64 nodeZ.kind, .int .i64 nodeZ.num, .string ⟨nodeZ.text.toArray⟩, .int .i64 (cC nodeZ.frm), .int .i64 (cR nodeZ.frm), .int .i64 (cC nodeZ.tor), .int .i64 (cR nodeZ.tor), .slice none 0 0] Cel.tPn))) := bel_call hb8 HB7.out HB7.out.size
        clear hb8 HX7 HBW7 HB7
        generalize w7.alloc (.cells #[.int .i64 nodeZ.kind, .int .i64 nodeZ.num, .string ⟨nodeZ.text.toArray⟩, .int .i64 (cC nodeZ.frm), .int .i64 (cR nodeZ.frm), .int .i64 (cC nodeZ.tor), .int .i64 (cR nodeZ.tor), .slice none 0 0] Cel.tPn) = w8 at HX8 HBW8 HB8 ⊢
        obtain ⟨c0, c1, c2, c3, c4, c5⟩ := HX8.out.cells
        have HR6 := Lib.hid (HRX.out w8 HB8.out)
        rw [ndA_c6] at HR6
        go_wp2_with fail
        refine HR6.out.mono ?_
        rintro e w9 ⟨rfl, hb9⟩
        have HBW9 : Hid (Below w.heap.size w w9) := bel_call hb9 HBW8.out HBW8.out.size
        clear hb9 HR6 c0 c1 c2 c3 c4 c5 HX8
        go_wp2_with fail
        refine (HAW.out w9 HBW9.out).mono ?_
        rintro e wq ⟨rfl, hbq⟩
        have HBWq : Hid (Below w.heap.size w wq) := bel_call hbq HBW9.out HBW9.out.size
        clear hbq
        go_wp2_with fail
        go_ret
        exact ⟨rfl, HBWq.out⟩
      · have hl : ¬ (256 : Int) < (((⟨t.toArray⟩ : ByteArray).size : Nat) : Int) := by rw [hts]; omega
        have HF6 := Lib.hid (HFO.out (by omega) w6 (HSH.out w6 HBW6.out))
        have hl2 : ¬ (256 : Int) < (t.length : Int) := by omega
        clear hts HFO HPX
        go_wp2_with fail
        refine HF6.out.mono ?_
        rintro e w7 ⟨⟨q2, cq2, rfl, hk7⟩, hb7⟩
        have HB7 : Hid (Below w4.heap.size w4 w7) := bel_call hb7 HB6.out HB6.out.size
        obtain ⟨l2, hl2⟩ : ∃ l2, x.args.length = l2 := ⟨_, rfl⟩
        rw [hl2] at hk7 ⊢
        have HK7 : Hid (Cel.RdT w7 w7.heap.size (dpN x) x q2 l2) := (hk7 (dpN x) (by omega)).rdT (fun b h => h.2)
        rw [ndA_c8]
        clear hk7 hb7 HF6 HB6 HX6 HBW6 hl2
        go_upto_region 8 with fail
        have e8 : w7.alloc (.cells #[.int .i64 x.kind, .int .i64 x.num, .string ⟨x.text.toArray⟩, .int .i64 (cC x.frm), .int .i64 (cR x.frm), .int .i64 (cC x.tor), .int .i64 (cR x.tor), .slice q2 l2 cq2] Cel.tPn) = w7.alloc (.cells (Cel.ndA x q2 l2 cq2) Cel.tPn) := rfl
        rw [e8]
        clear e8
        have HY8 : Hid (Cel.NdB Cel.tPn (w7.alloc (.cells (Cel.ndA x q2 l2 cq2) Cel.tPn)) w7.heap.size x q2 l2 cq2) := heap_alloc_new w7 _
        have hb8 : Below w7.heap.size w7 (w7.alloc (.cells (Cel.ndA x q2 l2 cq2) Cel.tPn)) := (Below.refl _ _).alloc (Nat.le_refl _) _
        have HB8 : Hid (Below w4.heap.size w4 (w7.alloc (.cells (Cel.ndA x q2 l2 cq2) Cel.tPn))) := bel_call hb8 HB7.out HB7.out.size
        have HK8 : Hid (Cel.RdT (w7.alloc (.cells (Cel.ndA x q2 l2 cq2) Cel.tPn)) w7.heap.size (dpN x) x q2 l2) := HK7.out.below hb8
        have hz8 := hb8.size
        clear hb8 HK7 HB7
        generalize w7.alloc (.cells (Cel.ndA x q2 l2 cq2) Cel.tPn) = w8 at HY8 HB8 HK8 hz8 ⊢
        generalize w7.heap.size = G at HY8 HK8 hz8 ⊢
        have HX8 := Lib.hid (HX4.out.below HB8.out)
        obtain ⟨c0, c1, c2, c3, c4, c5⟩ := HX8.out.cells
        obtain ⟨y0, y1, y2, y3, yd3, y4, yd4, y5⟩ := HY8.out.cells
        have R0 := Kept.at c0
        have R1 := Kept.at c1
        have R2 := Kept.at c2
        have R3 := Kept.at c3
        have R4 := Kept.at c4
        have R5 := Kept.at c5
        have S0 := Kept.at y0
        have S1 := Kept.at y1
        have S2 := Kept.at y2
        have S3 := Kept.at y3
        have Sd3 := Kept.at yd3
        have S4 := Kept.at y4
        have Sd4 := Kept.at yd4
        have S5 := Kept.at y5
        clear c0 c1 c2 c3 c4 c5 y0 y1 y2 y3 yd3 y4 yd4 y5
        go_upto_region 10 with fail
        refine wp_region_sched (fun wx => ∃ x : Kept w8.heap.size w8, wx = x.v) [([0, 1], 2), ([3, 4, 5, 6, 7, 8, 9, 10], 11), ([], 12), ([13, 14], 15)] [16, 17] (by kernel_rfl) (by kernel_rfl) (by kernel_rfl) rfl (kept_drew _ _ (Nat.le_refl _)) ?_
        have kb0 : Hid (Below w8.heap.size w8 w8.drew) := Below.drew (Below.refl _ _)
        (unfold wpSeg; simp only [pick_nil, pick_cons, nthO_zero, nthO_succ, List.append])
        repeat (go_big_quiet_step (fail))
        refine wpQuiet_nil ?_
        have hc1 := Lib.hid (HRX.out w8.drew (bel_call kb0.out HB8.out HB8.out.size))
        simp only [ndA_c6] at hc1
        go_wp2_with fail
        refine hc1.out.mono ?_
        rintro e x1 ⟨rfl, hb⟩
        have kb1 : Hid (Below w8.heap.size w8 x1) := bel_call hb kb0.out kb0.out.size
        clear hb hc1
        go_wp2_with fail
        refine ⟨rfl, ⟨⟨x1, kb1.out⟩, rfl⟩, ?_⟩
        (unfold wpSeg; simp only [pick_nil, pick_cons, nthO_zero, nthO_succ, List.append])
        repeat (go_big_quiet_step (fail))
        refine wpQuiet_nil ?_
        have hc2 := Lib.hid (HTO.out x1 (bel_call kb1.out HB8.out HB8.out.size))
        simp only [ndA_c6] at hc2
        go_wp2_with fail
        refine hc2.out.mono ?_
        rintro e x2 ⟨⟨q3, cq3, rfl, hk⟩, hb⟩
        have kb2 : Hid (Below w8.heap.size w8 x2) := bel_call hb kb1.out kb1.out.size
        have hc3 := Lib.hid (HSA.out q2 cq2 (dpN x) q3 cq3 l2 x2 ((HK8.out.below (kb2.out.mono hz8)).mono (Nat.le_trans hz8 kb2.out.size)) (hk.rdT (fun b h => h.2)))
        rw [ndA_c8] at hc3
        rw [ndA_c8 x q3] at hc3
        rw [ndA_c8]
        clear hb hc2 hk
        go_wp2_with fail
        refine ⟨rfl, ⟨⟨x2, kb2.out⟩, rfl⟩, ?_⟩
        (unfold wpSeg; simp only [pick_nil, pick_cons, nthO_zero, nthO_succ, List.append])
        repeat (go_big_quiet_step (fail))
        refine wpQuiet_nil ?_
        go_wp2_with fail
        refine hc3.out.mono ?_
        rintro e x3 ⟨rfl, hb⟩
        have kb3 : Hid (Below w8.heap.size w8 x3) := bel_call hb kb2.out kb2.out.size
        clear hb hc3
        go_wp2_with fail
        refine ⟨rfl, ⟨⟨x3, kb3.out⟩, rfl⟩, ?_⟩
        (unfold wpSeg; simp only [pick_nil, pick_cons, nthO_zero, nthO_succ, List.append])
        repeat (go_big_quiet_step (fail))
        refine wpQuiet_nil ?_
        have hbx : Hid (Below w.heap.size w x3) := bel_call kb3.out (bel_call HB8.out HB4.out HB4.out.size) (by have h1 := HB8.out.size; have h2 := HB4.out.size; omega)
        have hc5 := Lib.hid (HAW.out x3 hbx.out)
        go_wp2_with fail
        refine hc5.out.mono ?_
        rintro e x5 ⟨rfl, hb⟩
        have kb5 : Hid (Below w8.heap.size w8 x5) := bel_call hb kb3.out kb3.out.size
        have hb6 : Hid (Below w.heap.size w x5) := bel_call hb hbx.out hbx.out.size
        clear hb hc5
        go_wp2_with fail
        refine ⟨rfl, ⟨⟨x5, kb5.out⟩, rfl⟩, ?_⟩
        (unfold wpSeg; simp only [pick_nil, pick_cons, nthO_zero, nthO_succ, List.append])
        repeat (go_big_quiet_step (fail))
        refine wpQuiet_nil ?_
        go_wp2_with fail
        go_ret
        exact ⟨rfl, hb6.out⟩
    · have hke : (k == 0) = false := by simpa using hk0
      clear HKK
      rw [ndA_c6]
      go_upto_region 4 with fail
      have hb4 : Below w3.heap.size w3 (w3.alloc (.cells #[.int .i64 x.kind, .int .i64 x.num, .string ⟨x.text.toArray⟩, .int .i64 x.frm, .int .i64 x.tor, .slice p2 len cap2] tRn)) := (Below.refl _ _).alloc (Nat.le_refl _) _
      have HB4 : Hid (Below w.heap.size w (w3.alloc (.cells #[.int .i64 x.kind, .int .i64 x.num, .string ⟨x.text.toArray⟩, .int .i64 x.frm, .int .i64 x.tor, .slice p2 len cap2] tRn))) := bel_call hb4 HB3.out HB3.out.size
      clear hb4 HB3
      generalize w3.alloc (.cells #[.int .i64 x.kind, .int .i64 x.num, .string ⟨x.text.toArray⟩, .int .i64 x.frm, .int .i64 x.tor, .slice p2 len cap2] tRn) = w4 at HB4 ⊢
      go_wp2_with fail
      refine (HAW.out w4 HB4.out).mono ?_
      rintro e w5 ⟨rfl, hb5⟩
      have HB5 : Hid (Below w.heap.size w w5) := bel_call hb5 HB4.out HB4.out.size
      clear hb5
      go_wp2_with fail
      go_ret
      exact ⟨rfl, HB5.out⟩
end Go.Proofs.YtigmcoelkkihkaaGreatDoor
