/- Script: the law's to; the document's small, axis. -/
import Derived.Test.YtddoghjopihkpaaDoorScrK
set_option linter.unusedSimpArgs false
set_option linter.unusedVariables false
namespace Go.Proofs.YtddoghjopihkpaaDoor
open Go.RowKit Go.Joins

abbrev tRl : TypeId := 25
/-- The document's line in a block. -/
def RlB (w : World) (b : Nat) (k : Int) (x : Stp) : Prop := w.heap[b]? = some (.cells (lnC k x) tRl (0, 0))
theorem RlB.below {w w' : World} {b : Nat} {k : Int} {x : Stp} (h : RlB w b k x) (hb : Below w.heap.size w w') : RlB w' b k x := (hb.block b (lt_some h)).trans h
theorem RlB.cells {w : World} {b : Nat} {k : Int} {x : Stp} (h : RlB w b k x) : w.cell? ⟨b, 0, none⟩ = some (.int .i64 k) ∧ w.cell? ⟨b, 1, none⟩ = some (.int .i64 x.k) ∧ w.cell? ⟨b, 2, none⟩ = some (.int .i64 x.who) ∧ w.cell? ⟨b, 3, none⟩ = some (.string ⟨x.cell.toArray⟩) ∧ w.cell? ⟨b, 4, none⟩ = some (.string ⟨x.text.toArray⟩) ∧ w.cell? ⟨b, 5, none⟩ = some (.bool x.cols) ∧ w.cell? ⟨b, 6, none⟩ = some (.int .i64 x.n) ∧ w.cell? ⟨b, 7, none⟩ = some (.int .i64 x.tor) ∧ w.cell? ⟨b, 8, none⟩ = some (.int .u8 x.bits) := by
  refine ⟨?_, ?_, ?_, ?_, ?_, ?_, ?_, ?_, ?_⟩
  all_goals
    rw [cell_of_block h]
    rfl

set_option maxRecDepth 100000 in
set_option maxHeartbeats 4000000 in
theorem to_any (k : Int) (x : Stp) (w : World) : Calls Tryd.prog 9 #[.agg (lnC k x)] w fun e w' => e = .returned (.agg (lnC k x)) ∧ Below w.heap.size w w' := by
  have hA0 : Hid (RlB ((w.alloc (.cells (lnC k x) tRl)).alloc (.cells (lnC 0 st0) tLn)) w.heap.size k x) := by
    unfold Hid RlB
    rw [Lib.alloc_old _ _ _ (by simp)]
    exact heap_alloc_new w _
  have hA1 : Hid (LnB ((w.alloc (.cells (lnC k x) tRl)).alloc (.cells (lnC 0 st0) tLn)) (w.heap.size + 1) 0 st0) := by
    unfold Hid LnB
    have := heap_alloc_new (w.alloc (.cells (lnC k x) tRl)) (.cells (lnC 0 st0) tLn)
    rw [World.size_alloc] at this
    exact this
  have hAB : Hid (Below w.heap.size w ((w.alloc (.cells (lnC k x) tRl)).alloc (.cells (lnC 0 st0) tLn))) := by unfold Hid; (repeat' (first | (with_reducible exact Below.refl _ _) | (with_reducible assumption) | (with_reducible refine Below.alloc ?_ ?_ _) | (with_reducible refine bel_drewN ?_ _) | (with_reducible refine Below.drew ?_) | (with_reducible refine Below.setCell ?_ ?_ _) | (with_reducible refine bel_call ‹_› ?_ ?_) | go_size))
  go_enter Tryd.func9, Tryd.ntmps9
  go_upto_region 1 with fail
  have e0 : (w.alloc (.cells (lnC k x) tRl)).alloc (.cells #[.int .i64 0, .int .i64 0, .int .i64 0, .string ⟨#[]⟩, .string ⟨#[]⟩, .bool false, .int .i64 0, .int .i64 0, .int .u8 0] tLn) = (w.alloc (.cells (lnC k x) tRl)).alloc (.cells (lnC 0 st0) tLn) := rfl
  rw [e0]
  clear e0
  generalize (w.alloc (.cells (lnC k x) tRl)).alloc (.cells (lnC 0 st0) tLn) = w0 at hA0 hA1 hAB ⊢
  obtain ⟨c0, c1, c2, c3, c4, c5, c6, c7, c8⟩ := hA0.out.cells
  obtain ⟨d0, d1, d2, d3, d4, d5, d6, d7, d8⟩ := hA1.out.cells
  obtain ⟨f0, f1, f2, f3, f4, f5, f6, f7, f8⟩ := hA1.out.fz
  go_wp2_with fail
  refine bodyPost_ret (v := .agg (lnC k x)) (by simp only [results, Tryd.results9]; go_simp; rfl) rfl ⟨rfl, by have := hAB.out; (repeat' (first | (with_reducible exact Below.refl _ _) | (with_reducible assumption) | (with_reducible refine Below.alloc ?_ ?_ _) | (with_reducible refine bel_drewN ?_ _) | (with_reducible refine Below.drew ?_) | (with_reducible refine Below.setCell ?_ ?_ _) | (with_reducible refine bel_call ‹_› ?_ ?_) | go_size))⟩

set_option maxRecDepth 100000 in
set_option maxHeartbeats 1000000 in
theorem rsmall_any (n : Int) (w : World) : Calls Tryd.prog 13 #[.int .i64 n] w fun e w' => e = .returned (.bool (decide (0 ≤ n) && decide (n ≤ 1048576))) ∧ w = w' := by
  by_cases h0 : 0 ≤ n
  · by_cases h1 : n ≤ 1048576
    · rw [decide_eq_true h0, decide_eq_true h1]
      go_enter Tryd.func13, Tryd.ntmps13
      go_wp2_with fail
      go_ret
      exact ⟨rfl, rfl⟩
    · rw [decide_eq_true h0, decide_eq_false h1]
      go_enter Tryd.func13, Tryd.ntmps13
      go_wp2_with fail
      go_ret
      exact ⟨rfl, rfl⟩
  · rw [decide_eq_false h0, Bool.false_and]
    go_enter Tryd.func13, Tryd.ntmps13
    go_wp2_with fail
    go_ret
    exact ⟨rfl, rfl⟩
set_option maxRecDepth 100000 in
set_option maxHeartbeats 1000000 in
theorem raxis_any (o : Bool) (w : World) : Calls Tryd.prog 28 #[.bool o] w fun e w' => e = .returned (.string ⟨(if o then wCol else wRow).toArray⟩) ∧ w = w' := by
  cases o
  all_goals
    simp only [Bool.false_eq_true, ↓reduceIte]
    go_enter Tryd.func28, Tryd.ntmps28
    go_wp2_with fail
    go_ret
    exact ⟨rfl, rfl⟩
end Go.Proofs.YtddoghjopihkpaaDoor
