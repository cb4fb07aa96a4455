/- BindBytes: the walk; a slice of bytes opened. Printed by gen_tnn.py. -/
import Derived.Test.YtljloggbfmnjmaaDoorTnL
import Derived.Test.YtljloggbfmnjmaaDoorTnM
import Derived.Test.YtljloggbfmnjmaaDoorTnH
import Derived.Test.YtljloggbfmnjmaaDoorBinI
import Derived.ProofKit
import Derived.OpenShut
import Derived.ShutString
import Derived.ChangeSlices
import Derived.ChangeArms
import Derived.DataReads
import Derived.Deep.Slices
import Derived.Deep.Fields
import Derived.ChangeSame
set_option linter.unusedSimpArgs false
set_option linter.unusedVariables false
namespace Go.Proofs.YtljloggbfmnjmaaDoor
open Go.RowKit Go.Joins

set_option maxRecDepth 100000 in
set_option maxHeartbeats 16000000 in
theorem bytes_walk (q : Option Addr) (n cap : Nat) (L : List UInt8) (w : World) (h : RdU w w.heap.size q n cap L) : Calls Tryd.prog 4 #[.slice q n cap] w fun e w' => e = .returned (.bool true) ∧ Below w.heap.size w w' := by
  have hl : L.length = n := h.1
  have H := Lib.hid h
  have hnc : n ≤ cap := h.2.1
  have hcm : cap ≤ maxLen := h.2.2.1
  unfold maxLen at hcm
  clear h
  by_cases h1000 : 1000 < n
  · have h1 : (1000 : Int) < (n : Int) := by omega
    go_enter Tryd.func4, Tryd.ntmps4
    go_wp2_with fail
    refine (awake_any _).mono ?_
    rintro e w1 ⟨rfl, hb1⟩
    have hB1 := Lib.hid hb1
    clear hb1
    go_wp2_with fail
    go_ret
    exact ⟨rfl, hB1.out⟩
  · have h1 : ¬ (1000 : Int) < (n : Int) := by omega
    have HRA := Lib.hid (read_any q n cap L w (by omega) H.out)
    go_enter Tryd.func4, Tryd.ntmps4
    go_wp2_with fail
    refine HRA.out.mono ?_
    rintro e w1 ⟨rfl, hrd, hb1⟩
    have HBT := Lib.hid (btake2_any w.heap.size L w1 hrd)
    have HU1 := Lib.hid (H.out.below hb1)
    have hB1 := Lib.hid hb1
    have hlt1 := hrd.lt
    clear hrd hb1 HRA
    go_wp2_with fail
    refine HBT.out.mono ?_
    rintro e w2 ⟨hoff, hm⟩
    have hB2 : Hid (Below w.heap.size w w2) := hB1.out.trans (hoff.below (Nat.le_refl _) (by omega))
    have HU2 : Hid (RdU w2 w.heap.size q n cap L) := HU1.out.off hoff (Nat.le_refl _)
    have hs2 := hoff.size
    obtain ⟨O, hO⟩ : ∃ O, takB L = O := ⟨_, rfl⟩
    rw [hO] at hm
    have HO := Lib.hid hO
    have HG : Hid (∀ x r, O = some (x, r) → Gd x ∧ r.length ≤ 1000) := by
      intro x r e
      rw [← hO] at e
      unfold takB at e
      cases hk : rkN 64 L with
      | none => rw [hk] at e; cases e
      | some z =>
        rw [hk] at e
        simp only [Option.bind_some] at e
        split at e
        · cases e
          have := rkN_good 64 L _ _ hk
          exact ⟨this.1, by omega⟩
        · cases e
    clear hO hoff
    obtain ⟨x, ok, l, p1, c1, rfl, hsm, hq1, hM⟩ : ∃ x ok l p1 c1, e = .returned (.tuple #[.agg (bnA x p1 l c1), .bool ok]) ∧ Sm x ∧ RdQ rfE 12 w2 okA 64 x p1 l ∧ ((ok = false ∧ O = none ∧ x = bnZ ∧ l = 0) ∨ (ok = true ∧ ∃ r, O = some (x, r) ∧ Rdr w2 w.heap.size (some r) ∧ l = x.args.length)) := by
      cases hz : O with
      | none =>
        rw [hz] at hm
        exact ⟨bnZ, false, 0, none, 0, hm, .mk _ _ _ _ _ _ (Nat.zero_le _) (Nat.zero_le _) (fun c hc => by cases hc), ⟨rfl, .inl rfl⟩, .inl ⟨rfl, rfl, rfl, rfl⟩⟩
      | some z =>
        obtain ⟨x, r⟩ := z
        rw [hz] at hm
        obtain ⟨p, c, rfl, h2, h3⟩ := hm
        exact ⟨x, true, _, p, c, rfl, (HG.out x r hz).1.sm, h2, .inr ⟨rfl, r, rfl, h3, rfl⟩⟩
    have HSM := Lib.hid hsm
    have HQ1 := Lib.hid hq1
    have HM := Lib.hid hM
    rw [bnA_eq]
    clear hm hsm hq1 hM HBT HU1 hB1
    go_upto_region 7 with fail
    have e1 : w2.alloc (.cells #[.int .i64 x.kind, .int .i64 x.num, .string ⟨x.text.toArray⟩, .int .u64 x.frm.1.1, .int .i64 x.frm.1.2, .int .u64 x.frm.2.1, .int .i64 x.frm.2.2, .int .u64 x.tor.1.1, .int .i64 x.tor.1.2, .int .u64 x.tor.2.1, .int .i64 x.tor.2.2, .slice p1 l c1] tNr) = w2.alloc (.cells (bnA x p1 l c1) tNr) := rfl
    rw [e1]
    clear e1
    have hbn : Below w2.heap.size w2 (w2.alloc (.cells (bnA x p1 l c1) tNr)) := by (repeat' (first | (with_reducible exact Below.refl _ _) | (with_reducible assumption) | (with_reducible refine Below.alloc ?_ ?_ _) | (with_reducible refine bel_drewN ?_ _) | (with_reducible refine Below.drew ?_) | (with_reducible refine Below.setCell ?_ ?_ _) | (with_reducible refine bel_call ‹_› ?_ ?_) | go_size))
    have hB3 : Hid (Below w.heap.size w (w2.alloc (.cells (bnA x p1 l c1) tNr))) := bel_call hbn hB2.out hB2.out.size
    have hN3 : Hid (BlkC (w2.alloc (.cells (bnA x p1 l c1) tNr)) w2.heap.size (bnA x p1 l c1) tNr) := heap_alloc_new w2 _
    have hQ3 := Lib.hid (HQ1.out.below hbn)
    have HU3 := Lib.hid (HU2.out.below hbn)
    have HM3 : Hid (((ok = false ∧ O = none ∧ x = bnZ ∧ l = 0) ∨ (ok = true ∧ ∃ r, O = some (x, r) ∧ Rdr (w2.alloc (.cells (bnA x p1 l c1) tNr)) w.heap.size (some r) ∧ l = x.args.length))) := by
      rcases HM.out with h | ⟨h1, r, h2, h3, h4⟩
      · exact .inl h
      · exact .inr ⟨h1, r, h2, h3.below hbn, h4⟩
    have hg1 : w.heap.size < w2.heap.size := by omega
    clear hbn hB2 HQ1 HU2 HM
    generalize w2.alloc (.cells (bnA x p1 l c1) tNr) = w3 at hB3 hN3 hQ3 HU3 HM3 ⊢
    generalize w2.heap.size = g1 at hN3 hg1 ⊢
    have hs3 := hB3.out.size
    have HRT := Lib.hid (rtake2_any q n cap L (by omega) w3 (HU3.out.mono hs3))
    rw [HO.out] at HRT
    go_wp2_with fail
    refine HRT.out.mono ?_
    rintro e w4 ⟨hb4, hm⟩
    have hB4 : Hid (Below w.heap.size w w4) := bel_call hb4 hB3.out hs3
    have hN4 := Lib.hid (hN3.out.below hb4)
    have hQ4 := Lib.hid (hQ3.out.below hb4)
    obtain ⟨p2, c2, lv, rfl, hq2, hM⟩ : ∃ p2 c2 lv, e = .returned (.tuple #[.agg (bnA x p2 l c2), .int .i64 lv, .bool ok]) ∧ RdQ rfE 12 w4 okA 64 x p2 l ∧ (ok = false ∨ (ok = true ∧ ∃ r : List UInt8, lv = (r.length : Nat) ∧ r.length ≤ 1000 ∧ Rdr w4 w.heap.size (some r))) := by
      rcases HM3.out with ⟨rfl, h2, rfl, rfl⟩ | ⟨rfl, r, h2, h3, rfl⟩
      · rw [h2] at hm
        exact ⟨none, 0, 0, hm, ⟨rfl, .inl rfl⟩, .inl rfl⟩
      · rw [h2] at hm
        obtain ⟨p, c, rfl, h4⟩ := hm
        exact ⟨p, c, _, rfl, h4, .inr ⟨rfl, r, rfl, (HG.out x r h2).2, h3.below hb4⟩⟩
    have HQ2 := Lib.hid hq2
    have HM := Lib.hid hM
    rw [bnA_eq]
    clear hm hq2 hM hb4 HRT hB3 hN3 hQ3 HU3 HM3 HO HG
    go_upto_region 8 with fail
    have e1 : w4.alloc (.cells #[.int .i64 x.kind, .int .i64 x.num, .string ⟨x.text.toArray⟩, .int .u64 x.frm.1.1, .int .i64 x.frm.1.2, .int .u64 x.frm.2.1, .int .i64 x.frm.2.2, .int .u64 x.tor.1.1, .int .i64 x.tor.1.2, .int .u64 x.tor.2.1, .int .i64 x.tor.2.2, .slice p2 l c2] tN2) = w4.alloc (.cells (bnA x p2 l c2) tN2) := rfl
    rw [e1]
    clear e1
    have hbn : Below w4.heap.size w4 (w4.alloc (.cells (bnA x p2 l c2) tN2)) := by (repeat' (first | (with_reducible exact Below.refl _ _) | (with_reducible assumption) | (with_reducible refine Below.alloc ?_ ?_ _) | (with_reducible refine bel_drewN ?_ _) | (with_reducible refine Below.drew ?_) | (with_reducible refine Below.setCell ?_ ?_ _) | (with_reducible refine bel_call ‹_› ?_ ?_) | go_size))
    have hB5 : Hid (Below w.heap.size w (w4.alloc (.cells (bnA x p2 l c2) tN2))) := bel_call hbn hB4.out hB4.out.size
    have hM5 : Hid (BlkC (w4.alloc (.cells (bnA x p2 l c2) tN2)) w4.heap.size (bnA x p2 l c2) tN2) := heap_alloc_new w4 _
    have hN5 := Lib.hid (hN4.out.below hbn)
    have hQ5 := Lib.hid (hQ4.out.below hbn)
    have hP5 := Lib.hid (HQ2.out.below hbn)
    have HM5 : Hid (ok = false ∨ (ok = true ∧ ∃ r : List UInt8, lv = (r.length : Nat) ∧ r.length ≤ 1000 ∧ Rdr (w4.alloc (.cells (bnA x p2 l c2) tN2)) w.heap.size (some r))) := by
      rcases HM.out with h | ⟨h1, r, h2, h3, h4⟩
      · exact .inl h
      · exact .inr ⟨h1, r, h2, h3, h4.below hbn⟩
    clear hbn hB4 hN4 hQ4 HQ2 HM
    generalize w4.alloc (.cells (bnA x p2 l c2) tN2) = w5 at hB5 hM5 hN5 hQ5 hP5 HM5 ⊢
    generalize w4.heap.size = g2 at hM5 ⊢
    have hg1s : g1 < w5.heap.size := lt_some hN5.out
    have hg2s : g2 < w5.heap.size := lt_some hM5.out
    have hws : w.heap.size ≤ w5.heap.size := hB5.out.size
    rcases HM5.out with rfl | ⟨rfl, r, rfl, hr1000, hrr⟩
    · clear HM5
      have HBT := Lib.hid trivial
      have HRT := Lib.hid trivial
      clear HBT HRT
      have a0 := Kept.at (show w5.cell? ⟨g1, 0, none⟩ = some (.int .i64 x.kind) from hN5.out.cell 0 _ rfl)
      have a1 := Kept.at (show w5.cell? ⟨g1, 1, none⟩ = some (.int .i64 x.num) from hN5.out.cell 1 _ rfl)
      have a2 := Kept.at (show w5.cell? ⟨g1, 2, none⟩ = some (.string ⟨x.text.toArray⟩) from hN5.out.cell 2 _ rfl)
      have a3 := Kept.at (show w5.cell? ⟨g1, 3, none⟩ = some (.int .u64 x.frm.1.1) from hN5.out.cell 3 _ rfl)
      have a4 := Kept.at (show w5.cell? ⟨g1, 4, none⟩ = some (.int .i64 x.frm.1.2) from hN5.out.cell 4 _ rfl)
      have a5 := Kept.at (show w5.cell? ⟨g1, 5, none⟩ = some (.int .u64 x.frm.2.1) from hN5.out.cell 5 _ rfl)
      have a6 := Kept.at (show w5.cell? ⟨g1, 6, none⟩ = some (.int .i64 x.frm.2.2) from hN5.out.cell 6 _ rfl)
      have a7 := Kept.at (show w5.cell? ⟨g1, 7, none⟩ = some (.int .u64 x.tor.1.1) from hN5.out.cell 7 _ rfl)
      have a8 := Kept.at (show w5.cell? ⟨g1, 8, none⟩ = some (.int .i64 x.tor.1.2) from hN5.out.cell 8 _ rfl)
      have a9 := Kept.at (show w5.cell? ⟨g1, 9, none⟩ = some (.int .u64 x.tor.2.1) from hN5.out.cell 9 _ rfl)
      have a10 := Kept.at (show w5.cell? ⟨g1, 10, none⟩ = some (.int .i64 x.tor.2.2) from hN5.out.cell 10 _ rfl)
      have a11 := Kept.at (show w5.cell? ⟨g1, 11, none⟩ = some (.slice p1 l c1) from hN5.out.cell 11 _ rfl)
      have b0 := Kept.at (show w5.cell? ⟨g2, 0, none⟩ = some (.int .i64 x.kind) from hM5.out.cell 0 _ rfl)
      have b1 := Kept.at (show w5.cell? ⟨g2, 1, none⟩ = some (.int .i64 x.num) from hM5.out.cell 1 _ rfl)
      have b2 := Kept.at (show w5.cell? ⟨g2, 2, none⟩ = some (.string ⟨x.text.toArray⟩) from hM5.out.cell 2 _ rfl)
      have b3 := Kept.at (show w5.cell? ⟨g2, 3, none⟩ = some (.int .u64 x.frm.1.1) from hM5.out.cell 3 _ rfl)
      have b4 := Kept.at (show w5.cell? ⟨g2, 4, none⟩ = some (.int .i64 x.frm.1.2) from hM5.out.cell 4 _ rfl)
      have b5 := Kept.at (show w5.cell? ⟨g2, 5, none⟩ = some (.int .u64 x.frm.2.1) from hM5.out.cell 5 _ rfl)
      have b6 := Kept.at (show w5.cell? ⟨g2, 6, none⟩ = some (.int .i64 x.frm.2.2) from hM5.out.cell 6 _ rfl)
      have b7 := Kept.at (show w5.cell? ⟨g2, 7, none⟩ = some (.int .u64 x.tor.1.1) from hM5.out.cell 7 _ rfl)
      have b8 := Kept.at (show w5.cell? ⟨g2, 8, none⟩ = some (.int .i64 x.tor.1.2) from hM5.out.cell 8 _ rfl)
      have b9 := Kept.at (show w5.cell? ⟨g2, 9, none⟩ = some (.int .u64 x.tor.2.1) from hM5.out.cell 9 _ rfl)
      have b10 := Kept.at (show w5.cell? ⟨g2, 10, none⟩ = some (.int .i64 x.tor.2.2) from hM5.out.cell 10 _ rfl)
      have b11 := Kept.at (show w5.cell? ⟨g2, 11, none⟩ = some (.slice p2 l c2) from hM5.out.cell 11 _ rfl)
      refine wp_region_sched (fun wx => ∃ x : Kept w5.heap.size w5, wx = x.v) [([0, 2], 1), ([], 3), ([4, 5, 6, 7, 8, 9, 10, 11, 12, 13, 15], 14), ([16, 17, 18, 19], 20)] [21, 22] (by kernel_rfl) (by kernel_rfl) (by kernel_rfl) rfl (kept_drew _ _ (Nat.le_refl _)) ?_
      (unfold wpSeg; simp only [pick_nil, pick_cons, nthO_zero, nthO_succ, List.append])
      repeat (go_big_quiet_step (fail))
      refine wpQuiet_nil ?_
      have hBd : Hid (Below w5.heap.size w5 w5.drew) := Below.drew (Below.refl _ _)
      have HCA := Lib.hid (of_any 64 x p1 l c1 w5.drew (hQ5.out.below hBd.out) HSM.out)
      rw [bnA_eq x p1 l c1] at HCA
      clear a0 a1 a2 a3 a4 a5 a6 a7 a8 a9 a10 a11
      go_wp2_with fail
      refine HCA.out.mono ?_
      rintro e w6 ⟨⟨p3, c3, rfl, hq3⟩, hb6⟩
      have hB6 : Hid (Below w5.heap.size w5 w6) := bel_call hb6 hBd.out (Nat.le_refl _)
      have HQ3 : Hid (RdQ rfE 12 w6 okA 64 x p3 l) := hq3.weak (fun _ _ => trivial)
      have HCB := Lib.hid (rsame1_any 64 x p3 p2 l c3 c2 w6 HQ3.out ((hP5.out.below hBd.out).below hb6) HSM.out)
      rw [bnA_eq x p3 l c3, bnA_eq x p2 l c2] at HCB
      rw [show Value.agg (bnA (ofT x) p3 l c3) = .agg #[.int .i64 x.kind, .int .i64 x.num, .string ⟨x.text.toArray⟩, .int .u64 x.frm.1.1, .int .i64 x.frm.1.2, .int .u64 x.frm.2.1, .int .i64 x.frm.2.2, .int .u64 x.tor.1.1, .int .i64 x.tor.1.2, .int .u64 x.tor.2.1, .int .i64 x.tor.2.2, .slice p3 l c3] from rfl]
      clear hb6 hq3 HQ3 HCA hBd
      go_wp2_with fail
      refine ⟨rfl, ⟨⟨w6, hB6.out⟩, rfl⟩, ?_⟩
      (unfold wpSeg; simp only [pick_nil, pick_cons, nthO_zero, nthO_succ, List.append])
      repeat (go_big_quiet_step (fail))
      refine wpQuiet_nil ?_
      go_wp2_with fail
      refine HCB.out.mono ?_
      rintro e w7 ⟨rfl, hb7⟩
      have hB7 : Hid (Below w5.heap.size w5 w7) := bel_call hb7 hB6.out hB6.out.size
      clear hb7 HCB hB6 b0 b1 b2 b3 b4 b5 b6 b7 b8 b9 b10 b11
      go_wp2_with fail
      refine ⟨rfl, ⟨⟨w7, hB7.out⟩, rfl⟩, ?_⟩
      (unfold wpSeg; simp only [pick_nil, pick_cons, nthO_zero, nthO_succ, List.append])
      repeat (go_big_quiet_step (fail))
      refine wpQuiet_nil ?_
      go_wp2_with fail
      refine ⟨rfl, ⟨⟨w7, hB7.out⟩, rfl⟩, ?_⟩
      (unfold wpSeg; simp only [pick_nil, pick_cons, nthO_zero, nthO_succ, List.append])
      repeat (go_big_quiet_step (fail))
      refine wpQuiet_nil ?_
      go_wp2_with fail
      refine (awake_any _).mono ?_
      rintro e w8 ⟨rfl, hb8⟩
      have hB8 : Hid (Below w5.heap.size w5 w8) := bel_call hb8 hB7.out hB7.out.size
      have hB9 : Hid (Below w.heap.size w w8) := bel_call hB8.out hB5.out hB5.out.size
      clear hb8
      go_wp2_with fail
      refine ⟨rfl, ⟨⟨w8, hB8.out⟩, rfl⟩, ?_⟩
      (unfold wpSeg; simp only [pick_nil, pick_cons, nthO_zero, nthO_succ, List.append])
      repeat (go_big_quiet_step (fail))
      refine wpQuiet_nil ?_
      go_wp2_with fail
      go_ret
      exact ⟨rfl, hB9.out⟩
    · have HRR := Lib.hid hrr
      clear HM5 hrr
      have HBT := Lib.hid trivial
      have HRT := Lib.hid trivial
      clear HBT HRT
      have a0 := Kept.at (show w5.cell? ⟨g1, 0, none⟩ = some (.int .i64 x.kind) from hN5.out.cell 0 _ rfl)
      have a1 := Kept.at (show w5.cell? ⟨g1, 1, none⟩ = some (.int .i64 x.num) from hN5.out.cell 1 _ rfl)
      have a2 := Kept.at (show w5.cell? ⟨g1, 2, none⟩ = some (.string ⟨x.text.toArray⟩) from hN5.out.cell 2 _ rfl)
      have a3 := Kept.at (show w5.cell? ⟨g1, 3, none⟩ = some (.int .u64 x.frm.1.1) from hN5.out.cell 3 _ rfl)
      have a4 := Kept.at (show w5.cell? ⟨g1, 4, none⟩ = some (.int .i64 x.frm.1.2) from hN5.out.cell 4 _ rfl)
      have a5 := Kept.at (show w5.cell? ⟨g1, 5, none⟩ = some (.int .u64 x.frm.2.1) from hN5.out.cell 5 _ rfl)
      have a6 := Kept.at (show w5.cell? ⟨g1, 6, none⟩ = some (.int .i64 x.frm.2.2) from hN5.out.cell 6 _ rfl)
      have a7 := Kept.at (show w5.cell? ⟨g1, 7, none⟩ = some (.int .u64 x.tor.1.1) from hN5.out.cell 7 _ rfl)
      have a8 := Kept.at (show w5.cell? ⟨g1, 8, none⟩ = some (.int .i64 x.tor.1.2) from hN5.out.cell 8 _ rfl)
      have a9 := Kept.at (show w5.cell? ⟨g1, 9, none⟩ = some (.int .u64 x.tor.2.1) from hN5.out.cell 9 _ rfl)
      have a10 := Kept.at (show w5.cell? ⟨g1, 10, none⟩ = some (.int .i64 x.tor.2.2) from hN5.out.cell 10 _ rfl)
      have a11 := Kept.at (show w5.cell? ⟨g1, 11, none⟩ = some (.slice p1 l c1) from hN5.out.cell 11 _ rfl)
      have b0 := Kept.at (show w5.cell? ⟨g2, 0, none⟩ = some (.int .i64 x.kind) from hM5.out.cell 0 _ rfl)
      have b1 := Kept.at (show w5.cell? ⟨g2, 1, none⟩ = some (.int .i64 x.num) from hM5.out.cell 1 _ rfl)
      have b2 := Kept.at (show w5.cell? ⟨g2, 2, none⟩ = some (.string ⟨x.text.toArray⟩) from hM5.out.cell 2 _ rfl)
      have b3 := Kept.at (show w5.cell? ⟨g2, 3, none⟩ = some (.int .u64 x.frm.1.1) from hM5.out.cell 3 _ rfl)
      have b4 := Kept.at (show w5.cell? ⟨g2, 4, none⟩ = some (.int .i64 x.frm.1.2) from hM5.out.cell 4 _ rfl)
      have b5 := Kept.at (show w5.cell? ⟨g2, 5, none⟩ = some (.int .u64 x.frm.2.1) from hM5.out.cell 5 _ rfl)
      have b6 := Kept.at (show w5.cell? ⟨g2, 6, none⟩ = some (.int .i64 x.frm.2.2) from hM5.out.cell 6 _ rfl)
      have b7 := Kept.at (show w5.cell? ⟨g2, 7, none⟩ = some (.int .u64 x.tor.1.1) from hM5.out.cell 7 _ rfl)
      have b8 := Kept.at (show w5.cell? ⟨g2, 8, none⟩ = some (.int .i64 x.tor.1.2) from hM5.out.cell 8 _ rfl)
      have b9 := Kept.at (show w5.cell? ⟨g2, 9, none⟩ = some (.int .u64 x.tor.2.1) from hM5.out.cell 9 _ rfl)
      have b10 := Kept.at (show w5.cell? ⟨g2, 10, none⟩ = some (.int .i64 x.tor.2.2) from hM5.out.cell 10 _ rfl)
      have b11 := Kept.at (show w5.cell? ⟨g2, 11, none⟩ = some (.slice p2 l c2) from hM5.out.cell 11 _ rfl)
      refine wp_region_sched (fun wx => ∃ x : Kept w5.heap.size w5, wx = x.v) [([0, 2], 1), ([], 3), ([4, 5, 6, 7, 8, 9, 10, 11, 12, 13, 15], 14), ([16, 17, 18, 19], 20)] [21, 22] (by kernel_rfl) (by kernel_rfl) (by kernel_rfl) rfl (kept_drew _ _ (Nat.le_refl _)) ?_
      (unfold wpSeg; simp only [pick_nil, pick_cons, nthO_zero, nthO_succ, List.append])
      repeat (go_big_quiet_step (fail))
      refine wpQuiet_nil ?_
      have hBd : Hid (Below w5.heap.size w5 w5.drew) := Below.drew (Below.refl _ _)
      have HCA := Lib.hid (of_any 64 x p1 l c1 w5.drew (hQ5.out.below hBd.out) HSM.out)
      rw [bnA_eq x p1 l c1] at HCA
      clear a0 a1 a2 a3 a4 a5 a6 a7 a8 a9 a10 a11
      go_wp2_with fail
      refine HCA.out.mono ?_
      rintro e w6 ⟨⟨p3, c3, rfl, hq3⟩, hb6⟩
      have hB6 : Hid (Below w5.heap.size w5 w6) := bel_call hb6 hBd.out (Nat.le_refl _)
      have HQ3 : Hid (RdQ rfE 12 w6 okA 64 x p3 l) := hq3.weak (fun _ _ => trivial)
      have HCB := Lib.hid (rsame1_any 64 x p3 p2 l c3 c2 w6 HQ3.out ((hP5.out.below hBd.out).below hb6) HSM.out)
      rw [bnA_eq x p3 l c3, bnA_eq x p2 l c2] at HCB
      rw [show Value.agg (bnA (ofT x) p3 l c3) = .agg #[.int .i64 x.kind, .int .i64 x.num, .string ⟨x.text.toArray⟩, .int .u64 x.frm.1.1, .int .i64 x.frm.1.2, .int .u64 x.frm.2.1, .int .i64 x.frm.2.2, .int .u64 x.tor.1.1, .int .i64 x.tor.1.2, .int .u64 x.tor.2.1, .int .i64 x.tor.2.2, .slice p3 l c3] from rfl]
      clear hb6 hq3 HQ3 HCA hBd
      go_wp2_with fail
      refine ⟨rfl, ⟨⟨w6, hB6.out⟩, rfl⟩, ?_⟩
      (unfold wpSeg; simp only [pick_nil, pick_cons, nthO_zero, nthO_succ, List.append])
      repeat (go_big_quiet_step (fail))
      refine wpQuiet_nil ?_
      go_wp2_with fail
      refine HCB.out.mono ?_
      rintro e w7 ⟨rfl, hb7⟩
      have hB7 : Hid (Below w5.heap.size w5 w7) := bel_call hb7 hB6.out hB6.out.size
      clear hb7 HCB hB6 b0 b1 b2 b3 b4 b5 b6 b7 b8 b9 b10 b11
      go_wp2_with fail
      refine ⟨rfl, ⟨⟨w7, hB7.out⟩, rfl⟩, ?_⟩
      (unfold wpSeg; simp only [pick_nil, pick_cons, nthO_zero, nthO_succ, List.append])
      repeat (go_big_quiet_step (fail))
      refine wpQuiet_nil ?_
      have HLF := Lib.hid (left_any w.heap.size r w7 (HRR.out.below hB7.out))
      go_wp2_with fail
      refine HLF.out.mono ?_
      rintro e wx ⟨rfl, hwx⟩
      rw [← hwx]
      clear hwx wx HLF
      go_wp2_with fail
      refine ⟨rfl, ⟨⟨w7, hB7.out⟩, rfl⟩, ?_⟩
      (unfold wpSeg; simp only [pick_nil, pick_cons, nthO_zero, nthO_succ, List.append])
      repeat (go_big_quiet_step (fail))
      refine wpQuiet_nil ?_
      go_wp2_with fail
      refine (awake_any _).mono ?_
      rintro e w8 ⟨rfl, hb8⟩
      have hB8 : Hid (Below w5.heap.size w5 w8) := bel_call hb8 hB7.out hB7.out.size
      have hB9 : Hid (Below w.heap.size w w8) := bel_call hB8.out hB5.out hB5.out.size
      clear hb8
      go_wp2_with fail
      refine ⟨rfl, ⟨⟨w8, hB8.out⟩, rfl⟩, ?_⟩
      (unfold wpSeg; simp only [pick_nil, pick_cons, nthO_zero, nthO_succ, List.append])
      repeat (go_big_quiet_step (fail))
      refine wpQuiet_nil ?_
      go_wp2_with fail
      go_ret
      exact ⟨rfl, hB9.out⟩
section
variable {H : Type} {enc : TypeId × Value → H} {w : World} {base : Nat} {spare : Nat → Bool} {held : Bool}
open Go.ChangeShapes Go.WideShapes Go.ChangeAt
theorem shape_lt {w : World} {b : Nat} {x : TypeId × Nat} (h : w.shape? b = some x) : b < w.heap.size := by
  rcases Nat.lt_or_ge b w.heap.size with h' | h'
  · exact h'
  · unfold World.shape? at h
    rw [Array.getElem?_eq_none h'] at h
    cases h
set_option maxRecDepth 100000 in
theorem open_byt {r : Reach} {b0 : Nat} {v : Value} {d : DataW H} {p : List MemPlace} (hv : Value.okWide Tryd.prog w r b0 42 v) (h : DataW.Trod enc Tryd.prog w base spare held 42 v d p) : ∃ q n cap L, v = .slice q n cap ∧ RdU w w.heap.size q n cap L := by
  obtain ⟨a, len, cap, rfl⟩ := okWide_slice Tryd.underlying42 hv
  obtain ⟨fuel, hf⟩ := h
  rcases open_ints Tryd.underlying42 Tryd.underlying5 (by kernel_rfl) hf with ⟨hcs, _⟩ | ⟨x, l, c, zs, hcs, _, hl, hm, hz, _, hcell, hwz⟩
  · simp [Value.cells] at hcs
    obtain ⟨rfl, rfl, rfl⟩ := hcs
    exact ⟨none, 0, 0, [], rfl, rfl, Nat.le_refl _, Nat.zero_le _, .inl ⟨rfl, rfl, rfl⟩⟩
  · simp [Value.cells] at hcs
    obtain ⟨rfl, rfl, rfl⟩ := hcs
    have hh : w.has Tryd.prog r b0 x 5 cap := by
      unfold Value.okWide at hv
      simp only [Tryd.underlying42] at hv
      unfold Cell.okWide at hv
      simp only [Tryd.underlying42] at hv
      unfold Cell.ok at hv
      simp only [Tryd.underlying42] at hv
      exact hv.2.2
    obtain ⟨_, hsp, row, cells, hsh, _⟩ := hh
    obtain ⟨b, o, sp⟩ := x
    obtain rfl : sp = none := hsp
    have hbl := shape_lt hsh
    have hzl : len ≤ zs.length := by rw [hz]; split <;> omega
    refine ⟨some ⟨b, o, none⟩, len, cap, (zs.take len).map (fun z => UInt8.ofNat z.toNat), rfl, by rw [List.length_map, List.length_take]; omega, hl, hm, .inr ⟨b, o, rfl, hbl, hbl, fun j hj => ?_⟩⟩
    have h1 := hcell j (by omega)
    rw [show (⟨b, o, none⟩ : Addr).add j = ⟨b, o + j, none⟩ from Addr.add_mid _ _ _] at h1
    rw [h1]
    have hjl : j < zs.length := by omega
    have h2 := hwz (zs.getD j 0) (by rw [List.getD, List.getElem?_eq_getElem hjl]; exact List.getElem_mem _)
    have h3 : IntKind.u8.min ≤ zs.getD j 0 ∧ zs.getD j 0 ≤ IntKind.u8.max := by simpa only [Lit.wf, Bool.and_eq_true, decide_eq_true_eq] using h2
    have e1 : IntKind.u8.min = 0 := by decide
    have e2 : IntKind.u8.max = 255 := by decide
    rw [e1, e2] at h3
    have e3 : ((zs.take len).map (fun z => UInt8.ofNat z.toNat)).getD j 0 = UInt8.ofNat (zs.getD j 0).toNat := by
      simp [List.getD, List.getElem?_take, hj, List.getElem?_eq_getElem hjl]
    rw [e3]
    congr 2
    rw [UInt8.toNat_ofNat']
    omega
end
end Go.Proofs.YtljloggbfmnjmaaDoor
