/- Bind: a cell that is there no more, as a text. -/
import Derived.Test.YtljloggbfmnjmaaDoorBinE
import Derived.Test.YtljloggbfmnjmaaDoorCsvW
import Derived.Defers
set_option linter.unusedSimpArgs false
set_option linter.unusedVariables false
namespace Go.Proofs.YtljloggbfmnjmaaDoor
open Go.RowKit Go.Joins

abbrev tNr : TypeId := 48
abbrev tNc : TypeId := 79
abbrev refS : List UInt8 := [35, 82, 69, 70, 33]
/-- A block of cells. -/
def BlkC (w : World) (b : Nat) (cs : Array Value) (t : TypeId) : Prop := w.heap[b]? = some (.cells cs t (0, 0))
theorem BlkC.below {w w' : World} {b : Nat} {cs : Array Value} {t : TypeId} (h : BlkC w b cs t) (hb : Below w.heap.size w w') : BlkC w' b cs t := (hb.block b (lt_some h)).trans h
theorem BlkC.alloc {w : World} {b : Nat} {cs : Array Value} {t : TypeId} (h : BlkC w b cs t) (o : Obj) : BlkC (w.alloc o) b cs t := (Lib.alloc_old w o b (lt_some h)).trans h
theorem BlkC.cell {w : World} {b : Nat} {cs : Array Value} {t : TypeId} (h : BlkC w b cs t) (j : Nat) (u : Value) (hj : cs[j]? = some u) : w.cell? ⟨b, j, none⟩ = some u := by rw [cell_of_block h]; exact hj
theorem BlkC.fz {w : World} {b : Nat} {cs : Array Value} {t : TypeId} (h : BlkC w b cs t) (j : Nat) : w.frozen? ⟨b, j, none⟩ = false := unfrozen_of_block h j
theorem blk_new (w : World) (cs : Array Value) (t : TypeId) : BlkC (w.alloc (.cells cs t)) w.heap.size cs t := heap_alloc_new w _
theorem IsBuilder_below' {T e : TypeId} {B b : Nat} {bs : List Value} {w w' : World} (h : Lib.IsBuilder T e B b bs w) (hb : Below w.heap.size w w') : Lib.IsBuilder T e B b bs w' := by
  have go : ∀ {p : Value}, Lib.BuilderAt T e B b p bs w → Lib.BuilderAt T e B b p bs w' := fun {p} h => by
    have hlt := h.lt
    obtain ⟨h1, v, h2, h3, h4⟩ := h
    exact ⟨h1, v, (hb.block b hlt).trans h2, row_below h3 hb, h4⟩
  rcases h with h | h
  · exact .inl (go h)
  · exact .inr (go h)

abbrev fltV : Value := .agg #[.int .i64 8, .int .i64 0, .string ⟨#[]⟩, .int .i64 0, .int .i64 0, .int .i64 0, .int .i64 0, .slice none 0 0]
set_option maxRecDepth 100000 in
set_option maxHeartbeats 1000000 in
theorem strength_flt (w : World) : Calls Tryd.prog 59 #[fltV] w fun e w' => e = .returned (.int .i64 6) ∧ Below w.heap.size w w' := by
  have hB : Hid (Below w.heap.size w (w.alloc (.cells #[.int .i64 8, .int .i64 0, .string ⟨#[]⟩, .int .i64 0, .int .i64 0, .int .i64 0, .int .i64 0, .slice none 0 0] tNc))) := by unfold Hid; (repeat' (first | (with_reducible exact Below.refl _ _) | (with_reducible assumption) | (with_reducible refine Below.alloc ?_ ?_ _) | (with_reducible refine bel_drewN ?_ _) | (with_reducible refine Below.drew ?_) | (with_reducible refine Below.setCell ?_ ?_ _) | (with_reducible refine bel_call ‹_› ?_ ?_) | go_size))
  go_enter Tryd.func59, Tryd.ntmps59
  go_wp2_with fail
  go_ret
  exact ⟨rfl, hB.out⟩
set_option maxRecDepth 100000 in
set_option maxHeartbeats 2000000 in
theorem write_flt (B b : Nat) (F : Value) (w : World) (hib : Lib.IsBuilder tBd 5 B b (Lib.byteCells []) w) (hB : B ≤ w.heap.size) :
    Calls Tryd.prog 51 #[.pointer (some ⟨b, 0, none⟩), fltV, .int .i64 1, F] w fun e w' => e = .returned (.tuple #[]) ∧ Lib.IsBuilder tBd 5 B b (Lib.byteCells refS) w' ∧ Below B w w' := by
  have hA0 : Hid (BlkC (w.alloc (.cells #[.int .i64 8, .int .i64 0, .string ⟨#[]⟩, .int .i64 0, .int .i64 0, .int .i64 0, .int .i64 0, .slice none 0 0] tNc)) w.heap.size #[.int .i64 8, .int .i64 0, .string ⟨#[]⟩, .int .i64 0, .int .i64 0, .int .i64 0, .int .i64 0, .slice none 0 0] tNc) := blk_new w _ _
  have hAB : Hid (Below B w (w.alloc (.cells #[.int .i64 8, .int .i64 0, .string ⟨#[]⟩, .int .i64 0, .int .i64 0, .int .i64 0, .int .i64 0, .slice none 0 0] tNc))) := (Below.refl B w).alloc hB _
  have HIB := Lib.hid (IsBuilder_below' hib (Below.alloc (Below.refl w.heap.size w) (Nat.le_refl _) (.cells #[.int .i64 8, .int .i64 0, .string ⟨#[]⟩, .int .i64 0, .int .i64 0, .int .i64 0, .int .i64 0, .slice none 0 0] tNc)))
  clear hib
  go_enter_defers Tryd.func51, Tryd.ntmps51
  go_upto_region 1 with fail
  generalize w.alloc (.cells #[.int .i64 8, .int .i64 0, .string ⟨#[]⟩, .int .i64 0, .int .i64 0, .int .i64 0, .int .i64 0, .slice none 0 0] tNc) = w0 at hA0 hAB HIB ⊢
  have c0 := hA0.out.cell 0 _ rfl
  have c1 := hA0.out.cell 1 _ rfl
  have c2 := hA0.out.cell 2 _ rfl
  have c3 := hA0.out.cell 3 _ rfl
  have c4 := hA0.out.cell 4 _ rfl
  have c5 := hA0.out.cell 5 _ rfl
  have c6 := hA0.out.cell 6 _ rfl
  have c7 := hA0.out.cell 7 _ rfl
  go_wp2_with fail
  refine (strength_flt w0).mono ?_
  rintro e w1 ⟨rfl, hb1⟩
  have hz0 : B ≤ w0.heap.size := Nat.le_trans hB hAB.out.size
  have hB1 : Hid (Below B w w1) := bel_call hb1 hAB.out hz0
  have hA1 := Lib.hid (hA0.out.below hb1)
  have HI1 := Lib.hid (IsBuilder_below' HIB.out hb1)
  have hz1 : B ≤ w1.heap.size := Nat.le_trans hz0 hb1.size
  generalize w.heap.size = bn at hA0 hA1 hB hb1 ⊢
  clear hb1 hA0 HIB hAB hz0 c0 c1 c2 c3 c4 c5 c6 c7
  have c0 := hA1.out.cell 0 _ rfl
  have hXs : (⟨#[35, 82, 69, 70, 33]⟩ : ByteArray).size = 5 := rfl
  go_wp2_with fail
  refine (write_at B b [] ⟨#[35, 82, 69, 70, 33]⟩ w1 HI1.out (by rw [hXs]; simp) hz1).mono ?_
  rintro e w3 ⟨rfl, hi3, hb3⟩
  have hB3 : Hid (Below B w w3) := hB1.out.trans hb3
  have HI3 := Lib.hid hi3
  clear hi3 hb3 HI1 hB1 hXs
  go_wp2_with fail
  exact ⟨_, results_none rfl _ _ _, rfl, HI3.out, hB3.out⟩
set_option maxRecDepth 100000 in
set_option maxHeartbeats 2000000 in
theorem print_flt (F : Value) (w : World) : Calls Tryd.prog 37 #[fltV, F] w fun e w' => e = .returned (.string ⟨refS.toArray⟩) ∧ Below w.heap.size w w' := by
  have hA0 : Hid (BlkC (w.alloc (.cells #[.int .i64 8, .int .i64 0, .string ⟨#[]⟩, .int .i64 0, .int .i64 0, .int .i64 0, .int .i64 0, .slice none 0 0] tNc)) w.heap.size #[.int .i64 8, .int .i64 0, .string ⟨#[]⟩, .int .i64 0, .int .i64 0, .int .i64 0, .int .i64 0, .slice none 0 0] tNc) := blk_new w _ _
  have hAB : Hid (Below w.heap.size w (w.alloc (.cells #[.int .i64 8, .int .i64 0, .string ⟨#[]⟩, .int .i64 0, .int .i64 0, .int .i64 0, .int .i64 0, .slice none 0 0] tNc))) := by unfold Hid; (repeat' (first | (with_reducible exact Below.refl _ _) | (with_reducible assumption) | (with_reducible refine Below.alloc ?_ ?_ _) | (with_reducible refine bel_drewN ?_ _) | (with_reducible refine Below.drew ?_) | (with_reducible refine Below.setCell ?_ ?_ _) | (with_reducible refine bel_call ‹_› ?_ ?_) | go_size))
  go_enter Tryd.func37, Tryd.ntmps37
  go_upto_region 1 with fail
  generalize w.alloc (.cells #[.int .i64 8, .int .i64 0, .string ⟨#[]⟩, .int .i64 0, .int .i64 0, .int .i64 0, .int .i64 0, .slice none 0 0] tNc) = w0 at hA0 hAB ⊢
  go_upto_region 2 with fail
  have hib : Hid (Lib.IsBuilder tBd 5 w.heap.size w0.heap.size (Lib.byteCells []) (w0.alloc (.cells #[.pointer none, .slice none 0 0] tBd))) := bd_fresh w.heap.size w0 hAB.out.size
  have hB1 : Hid (Below w.heap.size w (w0.alloc (.cells #[.pointer none, .slice none 0 0] tBd))) := hAB.out.alloc hAB.out.size _
  have hA1 := Lib.hid (hA0.out.alloc (.cells #[.pointer none, .slice none 0 0] tBd))
  generalize w0.alloc (.cells #[.pointer none, .slice none 0 0] tBd) = w1 at hib hB1 hA1 ⊢
  generalize w0.heap.size = b at hib ⊢
  have c0 := hA1.out.cell 0 _ rfl
  have c1 := hA1.out.cell 1 _ rfl
  have c2 := hA1.out.cell 2 _ rfl
  have c3 := hA1.out.cell 3 _ rfl
  have c4 := hA1.out.cell 4 _ rfl
  have c5 := hA1.out.cell 5 _ rfl
  have c6 := hA1.out.cell 6 _ rfl
  have c7 := hA1.out.cell 7 _ rfl
  go_wp2_with fail
  refine (write_flt w.heap.size b F w1 hib.out hB1.out.size).mono ?_
  rintro e w2 ⟨rfl, hi2, hb2⟩
  have hB2 : Hid (Below w.heap.size w w2) := hB1.out.trans hb2
  have HI2 := Lib.hid hi2
  clear hi2 hb2 hB1 hib hA1 c0 c1 c2 c3 c4 c5 c6 c7 hA0 hAB
  go_wp2_with fail
  refine (bd_string w.heap.size b _ w2 HI2.out hB2.out.size).mono ?_
  rintro e w3 ⟨rfl, hb3⟩
  go_wp2_with fail
  go_ret
  exact ⟨rfl, hB2.out.trans hb3⟩
set_option maxRecDepth 100000 in
set_option maxHeartbeats 1000000 in
theorem ptext_flt (w : World) : Calls Tryd.prog 22 #[fltV] w fun e w' => e = .returned (.string ⟨refS.toArray⟩) ∧ Below w.heap.size w w' := by
  have hA0 : Hid (BlkC (w.alloc (.cells #[.int .i64 8, .int .i64 0, .string ⟨#[]⟩, .int .i64 0, .int .i64 0, .int .i64 0, .int .i64 0, .slice none 0 0] tNc)) w.heap.size #[.int .i64 8, .int .i64 0, .string ⟨#[]⟩, .int .i64 0, .int .i64 0, .int .i64 0, .int .i64 0, .slice none 0 0] tNc) := blk_new w _ _
  have hAB : Hid (Below w.heap.size w (w.alloc (.cells #[.int .i64 8, .int .i64 0, .string ⟨#[]⟩, .int .i64 0, .int .i64 0, .int .i64 0, .int .i64 0, .slice none 0 0] tNc))) := by unfold Hid; (repeat' (first | (with_reducible exact Below.refl _ _) | (with_reducible assumption) | (with_reducible refine Below.alloc ?_ ?_ _) | (with_reducible refine bel_drewN ?_ _) | (with_reducible refine Below.drew ?_) | (with_reducible refine Below.setCell ?_ ?_ _) | (with_reducible refine bel_call ‹_› ?_ ?_) | go_size))
  have HP := Lib.hid (fun F W => print_flt F W)
  go_enter Tryd.func22, Tryd.ntmps22
  go_upto_region 1 with fail
  generalize w.alloc (.cells #[.int .i64 8, .int .i64 0, .string ⟨#[]⟩, .int .i64 0, .int .i64 0, .int .i64 0, .int .i64 0, .slice none 0 0] tNc) = w0 at hA0 hAB ⊢
  have c0 := hA0.out.cell 0 _ rfl
  have c1 := hA0.out.cell 1 _ rfl
  have c2 := hA0.out.cell 2 _ rfl
  have c3 := hA0.out.cell 3 _ rfl
  have c4 := hA0.out.cell 4 _ rfl
  have c5 := hA0.out.cell 5 _ rfl
  have c6 := hA0.out.cell 6 _ rfl
  have c7 := hA0.out.cell 7 _ rfl
  go_wp2_with fail
  refine (HP.out _ _).mono ?_
  rintro e w1 ⟨rfl, hb⟩
  have hB1 := bel_call hb hAB.out hAB.out.size
  go_wp2_with fail
  go_ret
  exact ⟨rfl, hB1⟩
end Go.Proofs.YtljloggbfmnjmaaDoor
