/- Bind: Back and Text at one cell that is there no more; the law's example. -/
import Derived.Test.YtljloggbfmnjmaaDoorBinG
set_option linter.unusedSimpArgs false
set_option linter.unusedVariables false
namespace Go.Proofs.YtljloggbfmnjmaaDoor
open Go.RowKit Go.Joins

theorem four_blk (w : World) (a b c d : Obj) : ((((w.alloc a).alloc b).alloc c).alloc d).heap[w.heap.size]? = some a ∧ ((((w.alloc a).alloc b).alloc c).alloc d).heap[w.heap.size + 1]? = some b ∧ ((((w.alloc a).alloc b).alloc c).alloc d).heap[w.heap.size + 2]? = some c ∧ ((((w.alloc a).alloc b).alloc c).alloc d).heap[w.heap.size + 3]? = some d := by
  refine ⟨?_, ?_, ?_, ?_⟩ <;> simp only [World.alloc, Array.getElem?_push, Array.size_push] <;> (repeat (first | rfl | (rw [if_neg (by omega)]) | (rw [if_pos (by omega)])))
set_option maxRecDepth 100000 in
set_option maxHeartbeats 4000000 in
theorem back_ref (rows cols : List Idp) (x y : Idp) (p : Option Addr) (n cap : Nat) (p2 : Option Addr) (n2 cap2 : Nat) (w : World) (hrd : RdG idE 2 w p n rows) (hn : n ≤ 1000000) (hrd2 : RdG idE 2 w p2 n2 cols) (hn2 : n2 ≤ 1000000) (hno : plcS rows cols x y = ((0, 0), false)) :
    Calls Tryd.prog 23 #[axV p n cap, axV p2 n2 cap2, refV x y] w fun e w' => e = .returned fltV ∧ Below w.heap.size w w' := by
  have hh := Lib.hid (four_blk w (.cells #[axV p n cap] 61) (.cells #[axV p2 n2 cap2] 61) (.cells #[.int .i64 3, .int .i64 0, .string ⟨#[]⟩, .int .u64 x.1, .int .i64 x.2, .int .u64 y.1, .int .i64 y.2, .int .u64 0, .int .i64 0, .int .u64 0, .int .i64 0, .slice none 0 0] tNr) (.cells #[.int .i64 0, .int .i64 0, .string ⟨#[]⟩, .int .i64 0, .int .i64 0, .int .i64 0, .int .i64 0, .slice none 0 0] tNc))
  have hAB : Hid (Below w.heap.size w ((((w.alloc (.cells #[axV p n cap] 61)).alloc (.cells #[axV p2 n2 cap2] 61)).alloc (.cells #[.int .i64 3, .int .i64 0, .string ⟨#[]⟩, .int .u64 x.1, .int .i64 x.2, .int .u64 y.1, .int .i64 y.2, .int .u64 0, .int .i64 0, .int .u64 0, .int .i64 0, .slice none 0 0] tNr)).alloc (.cells #[.int .i64 0, .int .i64 0, .string ⟨#[]⟩, .int .i64 0, .int .i64 0, .int .i64 0, .int .i64 0, .slice none 0 0] tNc))) := by unfold Hid; (repeat' (first | (with_reducible exact Below.refl _ _) | (with_reducible assumption) | (with_reducible refine Below.alloc ?_ ?_ _) | (with_reducible refine bel_drewN ?_ _) | (with_reducible refine Below.drew ?_) | (with_reducible refine Below.setCell ?_ ?_ _) | (with_reducible refine bel_call ‹_› ?_ ?_) | go_size))
  have HB1 := Lib.hid (fun (b3 b4 : Nat) W (hW : Below w.heap.size w W) (h3 : BlkC W b3 #[axV p n cap] 61) (h4 : BlkC W b4 #[axV p2 n2 cap2] 61) => back1_any rows cols x y p n cap p2 n2 cap2 b3 b4 _ W (hrd.below hW) hn (hrd2.below hW) hn2 h3 h4)
  rw [hno] at HB1
  clear hrd hrd2 hno
  go_enter Tryd.func23, Tryd.ntmps23
  go_upto_region 1 with fail
  generalize (((w.alloc (.cells #[axV p n cap] 61)).alloc (.cells #[axV p2 n2 cap2] 61)).alloc (.cells #[.int .i64 3, .int .i64 0, .string ⟨#[]⟩, .int .u64 x.1, .int .i64 x.2, .int .u64 y.1, .int .i64 y.2, .int .u64 0, .int .i64 0, .int .u64 0, .int .i64 0, .slice none 0 0] tNr)).alloc (.cells #[.int .i64 0, .int .i64 0, .string ⟨#[]⟩, .int .i64 0, .int .i64 0, .int .i64 0, .int .i64 0, .slice none 0 0] tNc) = w0 at hh hAB ⊢
  have hA0 : Hid (BlkC w0 w.heap.size #[axV p n cap] 61) := hh.out.1
  have hA1 : Hid (BlkC w0 (w.heap.size + 1) #[axV p2 n2 cap2] 61) := hh.out.2.1
  have hA2 : Hid (BlkC w0 (w.heap.size + 2) #[.int .i64 3, .int .i64 0, .string ⟨#[]⟩, .int .u64 x.1, .int .i64 x.2, .int .u64 y.1, .int .i64 y.2, .int .u64 0, .int .i64 0, .int .u64 0, .int .i64 0, .slice none 0 0] tNr) := hh.out.2.2.1
  have hA3 : Hid (BlkC w0 (w.heap.size + 3) #[.int .i64 0, .int .i64 0, .string ⟨#[]⟩, .int .i64 0, .int .i64 0, .int .i64 0, .int .i64 0, .slice none 0 0] tNc) := hh.out.2.2.2
  clear hh
  have c0 := hA2.out.cell 0 _ rfl
  have c1 := hA2.out.cell 1 _ rfl
  have c2 := hA2.out.cell 2 _ rfl
  have c3 := hA2.out.cell 3 _ rfl
  have c4 := hA2.out.cell 4 _ rfl
  have c5 := hA2.out.cell 5 _ rfl
  have c6 := hA2.out.cell 6 _ rfl
  have c7 := hA2.out.cell 7 _ rfl
  have c8 := hA2.out.cell 8 _ rfl
  have c9 := hA2.out.cell 9 _ rfl
  have c10 := hA2.out.cell 10 _ rfl
  have c11 := hA2.out.cell 11 _ rfl
  have HM := Lib.hid (map_ref x y w.heap.size (w.heap.size + 1) w0 (fun W hW => HB1.out _ _ W (hAB.out.trans (hW.mono hAB.out.size)) (hA0.out.below hW) (hA1.out.below hW)))
  go_wp2_with fail
  refine HM.out.mono ?_
  rintro e w1 ⟨rfl, hb⟩
  have hB1 : Hid (Below w.heap.size w w1) := bel_call hb hAB.out hAB.out.size
  have hP3 := Lib.hid (hA3.out.below hb)
  clear hb hAB hA0 hA1 hA2 hA3 HM HB1 c0 c1 c2 c3 c4 c5 c6 c7 c8 c9 c10 c11
  have q0 := hP3.out.cell 0 _ rfl
  have q1 := hP3.out.cell 1 _ rfl
  have q2 := hP3.out.cell 2 _ rfl
  have q3 := hP3.out.cell 3 _ rfl
  have q4 := hP3.out.cell 4 _ rfl
  have q5 := hP3.out.cell 5 _ rfl
  have q6 := hP3.out.cell 6 _ rfl
  have q7 := hP3.out.cell 7 _ rfl
  have z0 := hP3.out.fz 0
  have z1 := hP3.out.fz 1
  have z2 := hP3.out.fz 2
  have z3 := hP3.out.fz 3
  have z4 := hP3.out.fz 4
  have z5 := hP3.out.fz 5
  have z6 := hP3.out.fz 6
  have z7 := hP3.out.fz 7
  go_wp2_with fail
  obtain ⟨h1, h2⟩ := eight_heap (.int .i64 8) (.int .i64 0) (.string ⟨#[]⟩) (.int .i64 0) (.int .i64 0) (.int .i64 0) (.int .i64 0) (.slice none 0 0) hP3.out
  refine bodyPost_ret (results_cell_row rfl _ _ (w.heap.size + 3) tNc #[.int .i64 8, .int .i64 0, .string ⟨#[]⟩, .int .i64 0, .int .i64 0, .int .i64 0, .int .i64 0, .slice none 0 0] (0, 0) _ rfl h1 Tryd.underlying79 rfl (by kernel_rfl)) rfl ?_
  exact ⟨rfl, hB1.out.trans (h2 _ (by omega))⟩
set_option maxRecDepth 100000 in
set_option maxHeartbeats 4000000 in
theorem text_ref (rows cols : List Idp) (x y : Idp) (p : Option Addr) (n cap : Nat) (p2 : Option Addr) (n2 cap2 : Nat) (w : World) (hrd : RdG idE 2 w p n rows) (hn : n ≤ 1000000) (hrd2 : RdG idE 2 w p2 n2 cols) (hn2 : n2 ≤ 1000000) (hno : plcS rows cols x y = ((0, 0), false)) :
    Calls Tryd.prog 17 #[axV p n cap, axV p2 n2 cap2, refV x y] w fun e w' => e = .returned (.string ⟨refS.toArray⟩) ∧ Below w.heap.size w w' := by
  have HBK := Lib.hid (fun W (hW : Below w.heap.size w W) => back_ref rows cols x y p n cap p2 n2 cap2 W (hrd.below hW) hn (hrd2.below hW) hn2 hno)
  have HPT := Lib.hid (fun W => ptext_flt W)
  have hA0 := Lib.hid (blk_new w #[.int .i64 3, .int .i64 0, .string ⟨#[]⟩, .int .u64 x.1, .int .i64 x.2, .int .u64 y.1, .int .i64 y.2, .int .u64 0, .int .i64 0, .int .u64 0, .int .i64 0, .slice none 0 0] tNr)
  have hAB : Hid (Below w.heap.size w (w.alloc (.cells #[.int .i64 3, .int .i64 0, .string ⟨#[]⟩, .int .u64 x.1, .int .i64 x.2, .int .u64 y.1, .int .i64 y.2, .int .u64 0, .int .i64 0, .int .u64 0, .int .i64 0, .slice none 0 0] tNr))) := by unfold Hid; (repeat' (first | (with_reducible exact Below.refl _ _) | (with_reducible assumption) | (with_reducible refine Below.alloc ?_ ?_ _) | (with_reducible refine bel_drewN ?_ _) | (with_reducible refine Below.drew ?_) | (with_reducible refine Below.setCell ?_ ?_ _) | (with_reducible refine bel_call ‹_› ?_ ?_) | go_size))
  clear hrd hrd2 hno
  go_enter Tryd.func17, Tryd.ntmps17
  go_upto_region 1 with fail
  generalize w.alloc (.cells #[.int .i64 3, .int .i64 0, .string ⟨#[]⟩, .int .u64 x.1, .int .i64 x.2, .int .u64 y.1, .int .i64 y.2, .int .u64 0, .int .i64 0, .int .u64 0, .int .i64 0, .slice none 0 0] tNr) = w0 at hA0 hAB ⊢
  have c0 := hA0.out.cell 0 _ rfl
  have c1 := hA0.out.cell 1 _ rfl
  have c2 := hA0.out.cell 2 _ rfl
  have c3 := hA0.out.cell 3 _ rfl
  have c4 := hA0.out.cell 4 _ rfl
  have c5 := hA0.out.cell 5 _ rfl
  have c6 := hA0.out.cell 6 _ rfl
  have c7 := hA0.out.cell 7 _ rfl
  have c8 := hA0.out.cell 8 _ rfl
  have c9 := hA0.out.cell 9 _ rfl
  have c10 := hA0.out.cell 10 _ rfl
  have c11 := hA0.out.cell 11 _ rfl
  go_wp2_with fail
  refine (HBK.out _ hAB.out).mono ?_
  rintro e w1 ⟨rfl, hb⟩
  have hB1 : Hid (Below w.heap.size w w1) := bel_call hb hAB.out hAB.out.size
  clear hb hAB hA0 HBK c0 c1 c2 c3 c4 c5 c6 c7 c8 c9 c10 c11
  go_wp2_with fail
  refine (HPT.out _).mono ?_
  rintro e w2 ⟨rfl, hb⟩
  have hB2 := bel_call hb hB1.out hB1.out.size
  go_wp2_with fail
  go_ret
  exact ⟨rfl, hB2⟩
end Go.Proofs.YtljloggbfmnjmaaDoor
