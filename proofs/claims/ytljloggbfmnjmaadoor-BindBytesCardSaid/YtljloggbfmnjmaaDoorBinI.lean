/- Bind: the law's example; the walk of BindCells. -/
import Derived.Test.YtljloggbfmnjmaaDoorBinH
set_option linter.unusedSimpArgs false
set_option linter.unusedVariables false
namespace Go.Proofs.YtljloggbfmnjmaaDoor
open Go.RowKit Go.Joins

theorem rd_blkI {w : World} {b : Nat} {L : List Idp} {cs : Array Value} (h : BlkC w b cs tId) (hc : cs = (L.flatMap idE).toArray) (n : Nat) (hn : n ≤ L.length) : RdG idE 2 w (some ⟨b, 0, none⟩) n (L.take n) := by
  refine ⟨by rw [List.length_take]; omega, .inr ⟨b, 0, rfl, lt_some h, fun j x hx k u hu => ?_⟩⟩
  have hk : k < 2 := (List.getElem?_eq_some_iff.1 hu).1
  have hj : L[j]? = some x := by
    rw [List.getElem?_take] at hx
    split at hx
    · exact hx
    · cases hx
  have := flat_at idE_len L j x hj k hk
  rw [cell_of_block h, hc]
  rw [hu] at this
  simpa using this
set_option maxRecDepth 100000 in
set_option maxHeartbeats 4000000 in
theorem awake_any (w : World) : Calls Tryd.prog 10 #[] w fun e w' => e = .returned (.bool true) ∧ Below w.heap.size w w' := by
  have hh := Lib.hid (four_blk w (.cells #[.int .u64 1, .int .i64 1, .int .u64 2, .int .i64 1] tId) (.cells #[.int .u64 3, .int .i64 1] tId) (.cells #[.slice (some ⟨w.heap.size, 0, none⟩) 2 2] tAx) (.cells #[.slice (some ⟨w.heap.size + 1, 0, none⟩) 1 1] tAx))
  have hAB : Hid (Below w.heap.size w ((((w.alloc (.cells #[.int .u64 1, .int .i64 1, .int .u64 2, .int .i64 1] tId)).alloc (.cells #[.int .u64 3, .int .i64 1] tId)).alloc (.cells #[.slice (some ⟨w.heap.size, 0, none⟩) 2 2] tAx)).alloc (.cells #[.slice (some ⟨w.heap.size + 1, 0, none⟩) 1 1] tAx))) := by unfold Hid; (repeat' (first | (with_reducible exact Below.refl _ _) | (with_reducible assumption) | (with_reducible refine Below.alloc ?_ ?_ _) | (with_reducible refine bel_drewN ?_ _) | (with_reducible refine Below.drew ?_) | (with_reducible refine Below.setCell ?_ ?_ _) | (with_reducible refine bel_call ‹_› ?_ ?_) | go_size))
  go_enter Tryd.func10, Tryd.ntmps10
  go_upto_region 2 with fail
  generalize (((w.alloc (.cells #[.int .u64 1, .int .i64 1, .int .u64 2, .int .i64 1] tId)).alloc (.cells #[.int .u64 3, .int .i64 1] tId)).alloc (.cells #[.slice (some ⟨w.heap.size, 0, none⟩) 2 2] tAx)).alloc (.cells #[.slice (some ⟨w.heap.size + 1, 0, none⟩) 1 1] tAx) = w0 at hh hAB ⊢
  have hA0 : Hid (BlkC w0 w.heap.size #[.int .u64 1, .int .i64 1, .int .u64 2, .int .i64 1] tId) := hh.out.1
  have hA1 : Hid (BlkC w0 (w.heap.size + 1) #[.int .u64 3, .int .i64 1] tId) := hh.out.2.1
  have hA2 : Hid (BlkC w0 (w.heap.size + 2) #[.slice (some ⟨w.heap.size, 0, none⟩) 2 2] tAx) := hh.out.2.2.1
  have hA3 : Hid (BlkC w0 (w.heap.size + 3) #[.slice (some ⟨w.heap.size + 1, 0, none⟩) 1 1] tAx) := hh.out.2.2.2
  have R1 : Hid (RdG idE 2 w0 (some ⟨w.heap.size, 0, none⟩) 2 [(1, 1), (2, 1)]) := rd_blkI (L := [(1, 1), (2, 1)]) hA0.out rfl 2 (by simp)
  have R2 : Hid (RdG idE 2 w0 (some ⟨w.heap.size + 1, 0, none⟩) 1 [(3, 1)]) := rd_blkI (L := [(3, 1)]) hA1.out rfl 1 (by simp)
  have R3 : Hid (RdG idE 2 w0 (some ⟨w.heap.size, 0, none⟩) 1 [(1, 1)]) := rd_blkI (L := [(1, 1), (2, 1)]) hA0.out rfl 1 (by simp)
  have c2 := hA2.out.cell 0 _ rfl
  have c3 := hA3.out.cell 0 _ rfl
  have HC := Lib.hid (cell_any [(1, 1), (2, 1)] [(3, 1)] 1 2 (some ⟨w.heap.size, 0, none⟩) 2 2 (some ⟨w.heap.size + 1, 0, none⟩) 1 1 w0 R1.out (by omega) R2.out (by omega))
  rw [show celS [(1, 1), (2, 1)] [(3, 1)] 1 2 = (((2, 1), (3, 1)), 0) from by decide] at HC
  clear hh
  go_wp2_with fail
  refine HC.out.mono ?_
  rintro e w1 ⟨rfl, hb⟩
  have hB1 : Hid (Below w.heap.size w w1) := bel_call hb hAB.out hAB.out.size
  have hM2 := Lib.hid (hA2.out.below hb)
  have hM3 := Lib.hid (hA3.out.below hb)
  have Q2 := Lib.hid (R2.out.below hb)
  have Q3 := Lib.hid (R3.out.below hb)
  clear hb hAB hA0 hA1 hA2 hA3 R1 R2 R3 c2 c3 HC
  go_upto_region 3 with fail
  have hN := Lib.hid (blk_new w1 #[.int .u64 2, .int .i64 1, .int .u64 3, .int .i64 1] tRf)
  have hbn : Below w1.heap.size w1 (w1.alloc (.cells #[.int .u64 2, .int .i64 1, .int .u64 3, .int .i64 1] tRf)) := by (repeat' (first | (with_reducible exact Below.refl _ _) | (with_reducible assumption) | (with_reducible refine Below.alloc ?_ ?_ _) | (with_reducible refine bel_drewN ?_ _) | (with_reducible refine Below.drew ?_) | (with_reducible refine Below.setCell ?_ ?_ _) | (with_reducible refine bel_call ‹_› ?_ ?_) | go_size))
  have hB2 : Hid (Below w.heap.size w (w1.alloc (.cells #[.int .u64 2, .int .i64 1, .int .u64 3, .int .i64 1] tRf))) := hB1.out.alloc hB1.out.size _
  have hP2 := Lib.hid (hM2.out.alloc (.cells #[.int .u64 2, .int .i64 1, .int .u64 3, .int .i64 1] tRf))
  have hP3 := Lib.hid (hM3.out.alloc (.cells #[.int .u64 2, .int .i64 1, .int .u64 3, .int .i64 1] tRf))
  have S2 := Lib.hid (Q2.out.below hbn)
  have S3 := Lib.hid (Q3.out.below hbn)
  clear hbn hB1 hM2 hM3 Q2 Q3
  generalize w1.alloc (.cells #[.int .u64 2, .int .i64 1, .int .u64 3, .int .i64 1] tRf) = w2 at hN hB2 hP2 hP3 S2 S3 ⊢
  generalize w1.heap.size = g at hN ⊢
  have c2 := cell_regrown (hP2.out.cell 0 _ rfl)
  have c3 := cell_regrown (hP3.out.cell 0 _ rfl)
  have n0 := cell_regrown (hN.out.cell 0 _ rfl)
  have n1 := cell_regrown (hN.out.cell 1 _ rfl)
  have n2 := cell_regrown (hN.out.cell 2 _ rfl)
  have n3 := cell_regrown (hN.out.cell 3 _ rfl)
  have hBR : ∀ dd os, Below w.heap.size w (Go.Sort.grow (redrawn w2 dd) os) := fun dd os => bel_call (below_regrown w2 dd os) hB2.out hB2.out.size
  have cT : ∀ dd os, Calls Tryd.prog 17 #[axV (some ⟨w.heap.size, 0, none⟩) 1 2, axV (some ⟨w.heap.size + 1, 0, none⟩) 1 1, refV (2, 1) (3, 1)] (Go.Sort.grow (redrawn w2 dd) os) fun e w'' => e = .returned (.string ⟨refS.toArray⟩) ∧ ∃ p : Regrown, w'' = Go.Sort.grow (redrawn w2 p.1) p.2 := fun dd os => Calls.regrown_of (text_ref [(1, 1)] [(3, 1)] (2, 1) (3, 1) _ 1 2 _ 1 1 _ (S3.out.below (below_regrown w2 dd os)) (by omega) (S2.out.below (below_regrown w2 dd os)) (by omega) (by decide))
  refine wp_region_quiet_below (by kernel_rfl) (by kernel_rfl) ?_
  repeat (go_big_quiet_step ((first | with_reducible exact cT _ _)))
  refine wpQuiet_nil ?_
  intro _ hw'
  obtain ⟨⟨dz, osz⟩, hw''⟩ := hw'
  subst hw''
  have hBz : Below w.heap.size w (Go.Sort.grow (redrawn w2 dz) osz) := hBR dz osz
  have hNz := hN.out.below (below_regrown w2 dz osz)
  have m0 := hNz.cell 0 _ rfl
  have m2 := hNz.cell 2 _ rfl
  have hrs : (⟨#[35, 82, 69, 70, 33]⟩ : ByteArray) = ⟨refS.toArray⟩ := rfl
  clear c2 c3 n0 n1 n2 n3 hBR cT hP2 hP3 S2 S3 hB2 hN
  go_wp2_with fail
  go_ret
  exact ⟨rfl, hBz⟩
end Go.Proofs.YtljloggbfmnjmaaDoor
