/- Script: the document's Plain. -/
import Derived.Test.YtddoghjopihkpaaDoorScrL
set_option linter.unusedSimpArgs false
set_option linter.unusedVariables false
namespace Go.Proofs.YtddoghjopihkpaaDoor
open Go.RowKit Go.Joins

/-- A line's step without the fields that its text does not tell. -/
def plS (kk : Int) (x : Stp) : Stp :=
  if kk = 1 then ⟨x.k, if x.k < 3 ∨ 6 < x.k then x.who else 0, if x.k = 0 then x.cell else [], if x.k = 0 then x.text else [], if x.k = 1 ∨ x.k = 2 then x.cols else false, if 1 ≤ x.k ∧ x.k ≤ 6 then x.n else 0, if 6 ≤ x.k ∧ x.k ≤ 8 then x.tor else 0, if x.k = 6 then x.bits else 0⟩
  else ⟨0, if 4 ≤ kk ∧ kk ≤ 8 then x.who else 0, if kk = 5 ∨ kk = 6 then x.cell else [], [], false, 0, 0, 0⟩
theorem RlB.fz {w : World} {b : Nat} {k : Int} {x : Stp} (h : RlB w b k x) : w.frozen? ⟨b, 0, none⟩ = false ∧ w.frozen? ⟨b, 1, none⟩ = false ∧ w.frozen? ⟨b, 2, none⟩ = false ∧ w.frozen? ⟨b, 3, none⟩ = false ∧ w.frozen? ⟨b, 4, none⟩ = false ∧ w.frozen? ⟨b, 5, none⟩ = false ∧ w.frozen? ⟨b, 6, none⟩ = false ∧ w.frozen? ⟨b, 7, none⟩ = false ∧ w.frozen? ⟨b, 8, none⟩ = false := ⟨unfrozen_of_block h 0, unfrozen_of_block h 1, unfrozen_of_block h 2, unfrozen_of_block h 3, unfrozen_of_block h 4, unfrozen_of_block h 5, unfrozen_of_block h 6, unfrozen_of_block h 7, unfrozen_of_block h 8⟩
theorem two_new (w : World) (o1 o2 : Obj) : ((w.alloc o1).alloc o2).heap[w.heap.size]? = some o1 ∧ ((w.alloc o1).alloc o2).heap[w.heap.size + 1]? = some o2 := by
  refine ⟨?_, ?_⟩
  · rw [Lib.alloc_old _ _ _ (by simp)]
    exact heap_alloc_new w _
  · have := heap_alloc_new (w.alloc o1) o2
    rw [World.size_alloc] at this
    exact this
theorem RlB.other {w : World} {b b' : Nat} {k : Int} {x : Stp} (h : RlB w b k x) (hne : b ≠ b') (j : Nat) (u : Value) : RlB (w.setCell ⟨b', j, none⟩ u) b k x := (Below.heap_setCell w _ u b (by show b ≠ b'; exact hne)).trans h
theorem RlB.set1 {w : World} {b : Nat} {k : Int} {x : Stp} (h : RlB w b k x) (z : Int) : RlB (w.setCell ⟨b, 1, none⟩ (.int .i64 z)) b k { x with k := z } := by
  have h1 := block_setCell h (.int .i64 z) (i := 1)
  simp only [lnC, List.setIfInBounds_toArray, List.set_cons_zero, List.set_cons_succ] at h1
  exact h1
theorem RlB.set2 {w : World} {b : Nat} {k : Int} {x : Stp} (h : RlB w b k x) (z : Int) : RlB (w.setCell ⟨b, 2, none⟩ (.int .i64 z)) b k { x with who := z } := by
  have h1 := block_setCell h (.int .i64 z) (i := 2)
  simp only [lnC, List.setIfInBounds_toArray, List.set_cons_zero, List.set_cons_succ] at h1
  exact h1
theorem RlB.set3 {w : World} {b : Nat} {k : Int} {x : Stp} (h : RlB w b k x) (z : Bs) : RlB (w.setCell ⟨b, 3, none⟩ (.string ⟨(z).toArray⟩)) b k { x with cell := z } := by
  have h1 := block_setCell h (.string ⟨(z).toArray⟩) (i := 3)
  simp only [lnC, List.setIfInBounds_toArray, List.set_cons_zero, List.set_cons_succ] at h1
  exact h1
theorem RlB.set4 {w : World} {b : Nat} {k : Int} {x : Stp} (h : RlB w b k x) (z : Bs) : RlB (w.setCell ⟨b, 4, none⟩ (.string ⟨(z).toArray⟩)) b k { x with text := z } := by
  have h1 := block_setCell h (.string ⟨(z).toArray⟩) (i := 4)
  simp only [lnC, List.setIfInBounds_toArray, List.set_cons_zero, List.set_cons_succ] at h1
  exact h1
theorem RlB.set5 {w : World} {b : Nat} {k : Int} {x : Stp} (h : RlB w b k x) (z : Bool) : RlB (w.setCell ⟨b, 5, none⟩ (.bool z)) b k { x with cols := z } := by
  have h1 := block_setCell h (.bool z) (i := 5)
  simp only [lnC, List.setIfInBounds_toArray, List.set_cons_zero, List.set_cons_succ] at h1
  exact h1
theorem RlB.set6 {w : World} {b : Nat} {k : Int} {x : Stp} (h : RlB w b k x) (z : Int) : RlB (w.setCell ⟨b, 6, none⟩ (.int .i64 z)) b k { x with n := z } := by
  have h1 := block_setCell h (.int .i64 z) (i := 6)
  simp only [lnC, List.setIfInBounds_toArray, List.set_cons_zero, List.set_cons_succ] at h1
  exact h1
theorem RlB.set7 {w : World} {b : Nat} {k : Int} {x : Stp} (h : RlB w b k x) (z : Int) : RlB (w.setCell ⟨b, 7, none⟩ (.int .i64 z)) b k { x with tor := z } := by
  have h1 := block_setCell h (.int .i64 z) (i := 7)
  simp only [lnC, List.setIfInBounds_toArray, List.set_cons_zero, List.set_cons_succ] at h1
  exact h1
theorem RlB.set8 {w : World} {b : Nat} {k : Int} {x : Stp} (h : RlB w b k x) (z : Int) : RlB (w.setCell ⟨b, 8, none⟩ (.int .u8 z)) b k { x with bits := z } := by
  have h1 := block_setCell h (.int .u8 z) (i := 8)
  simp only [lnC, List.setIfInBounds_toArray, List.set_cons_zero, List.set_cons_succ] at h1
  exact h1
theorem RlB.store {w : World} {b : Nat} {k : Int} {x : Stp} (h : RlB w b k x) (kk : Int) (y : Stp) : RlB (((((((((w.setCell ⟨b, 0, none⟩ (.int .i64 kk)).setCell ⟨b, 1, none⟩ (.int .i64 y.k)).setCell ⟨b, 2, none⟩ (.int .i64 y.who)).setCell ⟨b, 3, none⟩ (.string ⟨(y.cell).toArray⟩)).setCell ⟨b, 4, none⟩ (.string ⟨(y.text).toArray⟩)).setCell ⟨b, 5, none⟩ (.bool y.cols)).setCell ⟨b, 6, none⟩ (.int .i64 y.n)).setCell ⟨b, 7, none⟩ (.int .i64 y.tor)).setCell ⟨b, 8, none⟩ (.int .u8 y.bits)) b kk y := by
  have h1 := block_setCell h (.int .i64 kk) (i := 0)
  simp only [lnC, List.setIfInBounds_toArray, List.set_cons_zero] at h1
  have g1 := block_setCell h1 (.int .i64 y.k) (i := 1)
  simp only [List.setIfInBounds_toArray, List.set_cons_zero, List.set_cons_succ] at g1
  have g2 := block_setCell g1 (.int .i64 y.who) (i := 2)
  simp only [List.setIfInBounds_toArray, List.set_cons_zero, List.set_cons_succ] at g2
  have g3 := block_setCell g2 (.string ⟨(y.cell).toArray⟩) (i := 3)
  simp only [List.setIfInBounds_toArray, List.set_cons_zero, List.set_cons_succ] at g3
  have g4 := block_setCell g3 (.string ⟨(y.text).toArray⟩) (i := 4)
  simp only [List.setIfInBounds_toArray, List.set_cons_zero, List.set_cons_succ] at g4
  have g5 := block_setCell g4 (.bool y.cols) (i := 5)
  simp only [List.setIfInBounds_toArray, List.set_cons_zero, List.set_cons_succ] at g5
  have g6 := block_setCell g5 (.int .i64 y.n) (i := 6)
  simp only [List.setIfInBounds_toArray, List.set_cons_zero, List.set_cons_succ] at g6
  have g7 := block_setCell g6 (.int .i64 y.tor) (i := 7)
  simp only [List.setIfInBounds_toArray, List.set_cons_zero, List.set_cons_succ] at g7
  have g8 := block_setCell g7 (.int .u8 y.bits) (i := 8)
  simp only [List.setIfInBounds_toArray, List.set_cons_zero, List.set_cons_succ] at g8
  exact g8

set_option maxRecDepth 100000 in
set_option maxHeartbeats 4000000 in
theorem plain_2 (k : Int) (who : Int) (cell text : Bs) (cols : Bool) (n tor bits : Int) (w : World) : Calls Tryd.prog 7 #[.agg (lnC 2 ⟨k, who, cell, text, cols, n, tor, bits⟩)] w fun e w' => e = .returned (.agg (lnC 2 ⟨0, 0, [], [], false, 0, 0, 0⟩)) ∧ Below w.heap.size w w' := by
  obtain ⟨x, hx⟩ : ∃ x : Stp, ⟨k, who, cell, text, cols, n, tor, bits⟩ = x := ⟨_, rfl⟩
  have hcc : ∀ (w : World) b, RlB w b 2 x → RlB w b 2 ⟨k, who, cell, text, cols, n, tor, bits⟩ := by subst hx; exact fun _ _ h => h
  rw [hx]
  clear hx
  obtain ⟨hh0, hh1⟩ := two_new w (.cells (lnC 2 x) tRl) (.cells (lnC 0 st0) tRl)
  have hA0 : Hid (RlB ((w.alloc (.cells (lnC 2 x) tRl)).alloc (.cells (lnC 0 st0) tRl)) w.heap.size 2 x) := hh0
  have hA1 : Hid (RlB ((w.alloc (.cells (lnC 2 x) tRl)).alloc (.cells (lnC 0 st0) tRl)) (w.heap.size + 1) 0 st0) := hh1
  have hAB : Hid (Below w.heap.size w ((w.alloc (.cells (lnC 2 x) tRl)).alloc (.cells (lnC 0 st0) tRl))) := by unfold Hid; (repeat' (first | (with_reducible exact Below.refl _ _) | (with_reducible assumption) | (with_reducible refine Below.alloc ?_ ?_ _) | (with_reducible refine bel_drewN ?_ _) | (with_reducible refine Below.drew ?_) | (with_reducible refine Below.setCell ?_ ?_ _) | (with_reducible refine bel_call ‹_› ?_ ?_) | go_size))
  have hAz : ((w.alloc (.cells (lnC 2 x) tRl)).alloc (.cells (lnC 0 st0) tRl)).heap.size = w.heap.size + 2 := by simp
  clear hh0 hh1
  go_enter Tryd.func7, Tryd.ntmps7
  go_upto_region 1 with fail
  have e0 : (w.alloc (.cells (lnC 2 x) tRl)).alloc (.cells #[.int .i64 0, .int .i64 0, .int .i64 0, .string ⟨#[]⟩, .string ⟨#[]⟩, .bool false, .int .i64 0, .int .i64 0, .int .u8 0] tRl) = ((w.alloc (.cells (lnC 2 x) tRl)).alloc (.cells (lnC 0 st0) tRl)) := rfl
  rw [e0]
  clear e0
  generalize ((w.alloc (.cells (lnC 2 x) tRl)).alloc (.cells (lnC 0 st0) tRl)) = w0 at hA0 hA1 hAB hAz ⊢
  obtain ⟨c0, c1, c2, c3, c4, c5, c6, c7, c8⟩ := (hcc _ _ hA0.out).cells
  clear hcc hA0
  simp only at c0 c1 c2 c3 c4 c5 c6 c7 c8
  go_upto_region 2 with fail
  have e1 : w0.alloc (.cells #[.int .i64 2, .int .i64 0, .int .i64 0, .string ⟨#[]⟩, .string ⟨#[]⟩, .bool false, .int .i64 0, .int .i64 0, .int .u8 0] tRl) = w0.alloc (.cells (lnC 2 st0) tRl) := rfl
  rw [e1]
  clear e1
  have g1 : Hid (RlB (w0.alloc (.cells (lnC 2 st0) tRl)) (w.heap.size + 2) 2 st0) := by
    unfold Hid
    have := heap_alloc_new w0 (.cells (lnC 2 st0) tRl)
    rw [hAz] at this
    exact this
  have g0 : Hid (RlB (w0.alloc (.cells (lnC 2 st0) tRl)) (w.heap.size + 1) 0 st0) := hA1.out.below (by (repeat' (first | (with_reducible exact Below.refl _ _) | (with_reducible assumption) | (with_reducible refine Below.alloc ?_ ?_ _) | (with_reducible refine bel_drewN ?_ _) | (with_reducible refine Below.drew ?_) | (with_reducible refine Below.setCell ?_ ?_ _) | (with_reducible refine bel_call ‹_› ?_ ?_) | go_size)))
  have hAB1 : Hid (Below w.heap.size w (w0.alloc (.cells (lnC 2 st0) tRl))) := by unfold Hid; have := hAB.out; (repeat' (first | (with_reducible exact Below.refl _ _) | (with_reducible assumption) | (with_reducible refine Below.alloc ?_ ?_ _) | (with_reducible refine bel_drewN ?_ _) | (with_reducible refine Below.drew ?_) | (with_reducible refine Below.setCell ?_ ?_ _) | (with_reducible refine bel_call ‹_› ?_ ?_) | go_size))
  have q0 : (w0.alloc (.cells (lnC 2 st0) tRl)).cell? ⟨w.heap.size, 0, none⟩ = _ := (by go_simp : _ = w0.cell? ⟨w.heap.size, 0, none⟩).trans c0
  have q1 : (w0.alloc (.cells (lnC 2 st0) tRl)).cell? ⟨w.heap.size, 1, none⟩ = _ := (by go_simp : _ = w0.cell? ⟨w.heap.size, 1, none⟩).trans c1
  have q2 : (w0.alloc (.cells (lnC 2 st0) tRl)).cell? ⟨w.heap.size, 2, none⟩ = _ := (by go_simp : _ = w0.cell? ⟨w.heap.size, 2, none⟩).trans c2
  have q3 : (w0.alloc (.cells (lnC 2 st0) tRl)).cell? ⟨w.heap.size, 3, none⟩ = _ := (by go_simp : _ = w0.cell? ⟨w.heap.size, 3, none⟩).trans c3
  have q4 : (w0.alloc (.cells (lnC 2 st0) tRl)).cell? ⟨w.heap.size, 4, none⟩ = _ := (by go_simp : _ = w0.cell? ⟨w.heap.size, 4, none⟩).trans c4
  have q5 : (w0.alloc (.cells (lnC 2 st0) tRl)).cell? ⟨w.heap.size, 5, none⟩ = _ := (by go_simp : _ = w0.cell? ⟨w.heap.size, 5, none⟩).trans c5
  have q6 : (w0.alloc (.cells (lnC 2 st0) tRl)).cell? ⟨w.heap.size, 6, none⟩ = _ := (by go_simp : _ = w0.cell? ⟨w.heap.size, 6, none⟩).trans c6
  have q7 : (w0.alloc (.cells (lnC 2 st0) tRl)).cell? ⟨w.heap.size, 7, none⟩ = _ := (by go_simp : _ = w0.cell? ⟨w.heap.size, 7, none⟩).trans c7
  have q8 : (w0.alloc (.cells (lnC 2 st0) tRl)).cell? ⟨w.heap.size, 8, none⟩ = _ := (by go_simp : _ = w0.cell? ⟨w.heap.size, 8, none⟩).trans c8
  clear c0 c1 c2 c3 c4 c5 c6 c7 c8 hAz hA1 hAB
  generalize w0.alloc (.cells (lnC 2 st0) tRl) = w1 at g1 g0 hAB1 q0 q1 q2 q3 q4 q5 q6 q7 q8 ⊢
  go_upto_region 7 with fail
  clear q0 q1 q2 q3 q4 q5 q6 q7 q8
  obtain ⟨c0, c1, c2, c3, c4, c5, c6, c7, c8⟩ := g1.out.cells
  obtain ⟨d0, d1, d2, d3, d4, d5, d6, d7, d8⟩ := g0.out.cells
  obtain ⟨f0, f1, f2, f3, f4, f5, f6, f7, f8⟩ := g0.out.fz
  simp only [st0] at c0 c1 c2 c3 c4 c5 c6 c7 c8
  go_wp2_with fail
  have gz : Hid (RlB (((((((((w1.setCell ⟨w.heap.size + 1, 0, none⟩ (.int .i64 2)).setCell ⟨w.heap.size + 1, 1, none⟩ (.int .i64 0)).setCell ⟨w.heap.size + 1, 2, none⟩ (.int .i64 0)).setCell ⟨w.heap.size + 1, 3, none⟩ (.string ⟨#[]⟩)).setCell ⟨w.heap.size + 1, 4, none⟩ (.string ⟨#[]⟩)).setCell ⟨w.heap.size + 1, 5, none⟩ (.bool false)).setCell ⟨w.heap.size + 1, 6, none⟩ (.int .i64 0)).setCell ⟨w.heap.size + 1, 7, none⟩ (.int .i64 0)).setCell ⟨w.heap.size + 1, 8, none⟩ (.int .u8 0)) (w.heap.size + 1) 2 ⟨0, 0, [], [], false, 0, 0, 0⟩) := RlB.store g0.out 2 ⟨0, 0, [], [], false, 0, 0, 0⟩
  have hBz : Hid (Below w.heap.size w (((((((((w1.setCell ⟨w.heap.size + 1, 0, none⟩ (.int .i64 2)).setCell ⟨w.heap.size + 1, 1, none⟩ (.int .i64 0)).setCell ⟨w.heap.size + 1, 2, none⟩ (.int .i64 0)).setCell ⟨w.heap.size + 1, 3, none⟩ (.string ⟨#[]⟩)).setCell ⟨w.heap.size + 1, 4, none⟩ (.string ⟨#[]⟩)).setCell ⟨w.heap.size + 1, 5, none⟩ (.bool false)).setCell ⟨w.heap.size + 1, 6, none⟩ (.int .i64 0)).setCell ⟨w.heap.size + 1, 7, none⟩ (.int .i64 0)).setCell ⟨w.heap.size + 1, 8, none⟩ (.int .u8 0))) := by have := hAB1.out; unfold Hid; (repeat' (first | (with_reducible exact Below.refl _ _) | (with_reducible assumption) | (with_reducible refine Below.alloc ?_ ?_ _) | (with_reducible refine bel_drewN ?_ _) | (with_reducible refine Below.drew ?_) | (with_reducible refine Below.setCell ?_ ?_ _) | (with_reducible refine bel_call ‹_› ?_ ?_) | go_size))
  clear c0 c1 c2 c3 c4 c5 c6 c7 c8 f0 f1 f2 f3 f4 f5 f6 f7 f8 d0 d1 d2 d3 d4 d5 d6 d7 d8
  generalize (((((((((w1.setCell ⟨w.heap.size + 1, 0, none⟩ (.int .i64 2)).setCell ⟨w.heap.size + 1, 1, none⟩ (.int .i64 0)).setCell ⟨w.heap.size + 1, 2, none⟩ (.int .i64 0)).setCell ⟨w.heap.size + 1, 3, none⟩ (.string ⟨#[]⟩)).setCell ⟨w.heap.size + 1, 4, none⟩ (.string ⟨#[]⟩)).setCell ⟨w.heap.size + 1, 5, none⟩ (.bool false)).setCell ⟨w.heap.size + 1, 6, none⟩ (.int .i64 0)).setCell ⟨w.heap.size + 1, 7, none⟩ (.int .i64 0)).setCell ⟨w.heap.size + 1, 8, none⟩ (.int .u8 0)) = wz at gz hBz ⊢
  obtain ⟨c0, c1, c2, c3, c4, c5, c6, c7, c8⟩ := gz.out.cells
  simp only at c0 c1 c2 c3 c4 c5 c6 c7 c8
  refine bodyPost_ret (v := .agg (lnC 2 ⟨0, 0, [], [], false, 0, 0, 0⟩)) (by simp only [results, Tryd.results7]; go_simp; rfl) rfl ⟨rfl, by have := hBz.out; (repeat' (first | (with_reducible exact Below.refl _ _) | (with_reducible assumption) | (with_reducible refine Below.alloc ?_ ?_ _) | (with_reducible refine bel_drewN ?_ _) | (with_reducible refine Below.drew ?_) | (with_reducible refine Below.setCell ?_ ?_ _) | (with_reducible refine bel_call ‹_› ?_ ?_) | go_size))⟩

set_option maxRecDepth 100000 in
set_option maxHeartbeats 4000000 in
theorem plain_3 (k : Int) (who : Int) (cell text : Bs) (cols : Bool) (n tor bits : Int) (w : World) : Calls Tryd.prog 7 #[.agg (lnC 3 ⟨k, who, cell, text, cols, n, tor, bits⟩)] w fun e w' => e = .returned (.agg (lnC 3 ⟨0, 0, [], [], false, 0, 0, 0⟩)) ∧ Below w.heap.size w w' := by
  obtain ⟨x, hx⟩ : ∃ x : Stp, ⟨k, who, cell, text, cols, n, tor, bits⟩ = x := ⟨_, rfl⟩
  have hcc : ∀ (w : World) b, RlB w b 3 x → RlB w b 3 ⟨k, who, cell, text, cols, n, tor, bits⟩ := by subst hx; exact fun _ _ h => h
  rw [hx]
  clear hx
  obtain ⟨hh0, hh1⟩ := two_new w (.cells (lnC 3 x) tRl) (.cells (lnC 0 st0) tRl)
  have hA0 : Hid (RlB ((w.alloc (.cells (lnC 3 x) tRl)).alloc (.cells (lnC 0 st0) tRl)) w.heap.size 3 x) := hh0
  have hA1 : Hid (RlB ((w.alloc (.cells (lnC 3 x) tRl)).alloc (.cells (lnC 0 st0) tRl)) (w.heap.size + 1) 0 st0) := hh1
  have hAB : Hid (Below w.heap.size w ((w.alloc (.cells (lnC 3 x) tRl)).alloc (.cells (lnC 0 st0) tRl))) := by unfold Hid; (repeat' (first | (with_reducible exact Below.refl _ _) | (with_reducible assumption) | (with_reducible refine Below.alloc ?_ ?_ _) | (with_reducible refine bel_drewN ?_ _) | (with_reducible refine Below.drew ?_) | (with_reducible refine Below.setCell ?_ ?_ _) | (with_reducible refine bel_call ‹_› ?_ ?_) | go_size))
  have hAz : ((w.alloc (.cells (lnC 3 x) tRl)).alloc (.cells (lnC 0 st0) tRl)).heap.size = w.heap.size + 2 := by simp
  clear hh0 hh1
  go_enter Tryd.func7, Tryd.ntmps7
  go_upto_region 1 with fail
  have e0 : (w.alloc (.cells (lnC 3 x) tRl)).alloc (.cells #[.int .i64 0, .int .i64 0, .int .i64 0, .string ⟨#[]⟩, .string ⟨#[]⟩, .bool false, .int .i64 0, .int .i64 0, .int .u8 0] tRl) = ((w.alloc (.cells (lnC 3 x) tRl)).alloc (.cells (lnC 0 st0) tRl)) := rfl
  rw [e0]
  clear e0
  generalize ((w.alloc (.cells (lnC 3 x) tRl)).alloc (.cells (lnC 0 st0) tRl)) = w0 at hA0 hA1 hAB hAz ⊢
  obtain ⟨c0, c1, c2, c3, c4, c5, c6, c7, c8⟩ := (hcc _ _ hA0.out).cells
  clear hcc hA0
  simp only at c0 c1 c2 c3 c4 c5 c6 c7 c8
  go_upto_region 2 with fail
  have e1 : w0.alloc (.cells #[.int .i64 3, .int .i64 0, .int .i64 0, .string ⟨#[]⟩, .string ⟨#[]⟩, .bool false, .int .i64 0, .int .i64 0, .int .u8 0] tRl) = w0.alloc (.cells (lnC 3 st0) tRl) := rfl
  rw [e1]
  clear e1
  have g1 : Hid (RlB (w0.alloc (.cells (lnC 3 st0) tRl)) (w.heap.size + 2) 3 st0) := by
    unfold Hid
    have := heap_alloc_new w0 (.cells (lnC 3 st0) tRl)
    rw [hAz] at this
    exact this
  have g0 : Hid (RlB (w0.alloc (.cells (lnC 3 st0) tRl)) (w.heap.size + 1) 0 st0) := hA1.out.below (by (repeat' (first | (with_reducible exact Below.refl _ _) | (with_reducible assumption) | (with_reducible refine Below.alloc ?_ ?_ _) | (with_reducible refine bel_drewN ?_ _) | (with_reducible refine Below.drew ?_) | (with_reducible refine Below.setCell ?_ ?_ _) | (with_reducible refine bel_call ‹_› ?_ ?_) | go_size)))
  have hAB1 : Hid (Below w.heap.size w (w0.alloc (.cells (lnC 3 st0) tRl))) := by unfold Hid; have := hAB.out; (repeat' (first | (with_reducible exact Below.refl _ _) | (with_reducible assumption) | (with_reducible refine Below.alloc ?_ ?_ _) | (with_reducible refine bel_drewN ?_ _) | (with_reducible refine Below.drew ?_) | (with_reducible refine Below.setCell ?_ ?_ _) | (with_reducible refine bel_call ‹_› ?_ ?_) | go_size))
  have q0 : (w0.alloc (.cells (lnC 3 st0) tRl)).cell? ⟨w.heap.size, 0, none⟩ = _ := (by go_simp : _ = w0.cell? ⟨w.heap.size, 0, none⟩).trans c0
  have q1 : (w0.alloc (.cells (lnC 3 st0) tRl)).cell? ⟨w.heap.size, 1, none⟩ = _ := (by go_simp : _ = w0.cell? ⟨w.heap.size, 1, none⟩).trans c1
  have q2 : (w0.alloc (.cells (lnC 3 st0) tRl)).cell? ⟨w.heap.size, 2, none⟩ = _ := (by go_simp : _ = w0.cell? ⟨w.heap.size, 2, none⟩).trans c2
  have q3 : (w0.alloc (.cells (lnC 3 st0) tRl)).cell? ⟨w.heap.size, 3, none⟩ = _ := (by go_simp : _ = w0.cell? ⟨w.heap.size, 3, none⟩).trans c3
  have q4 : (w0.alloc (.cells (lnC 3 st0) tRl)).cell? ⟨w.heap.size, 4, none⟩ = _ := (by go_simp : _ = w0.cell? ⟨w.heap.size, 4, none⟩).trans c4
  have q5 : (w0.alloc (.cells (lnC 3 st0) tRl)).cell? ⟨w.heap.size, 5, none⟩ = _ := (by go_simp : _ = w0.cell? ⟨w.heap.size, 5, none⟩).trans c5
  have q6 : (w0.alloc (.cells (lnC 3 st0) tRl)).cell? ⟨w.heap.size, 6, none⟩ = _ := (by go_simp : _ = w0.cell? ⟨w.heap.size, 6, none⟩).trans c6
  have q7 : (w0.alloc (.cells (lnC 3 st0) tRl)).cell? ⟨w.heap.size, 7, none⟩ = _ := (by go_simp : _ = w0.cell? ⟨w.heap.size, 7, none⟩).trans c7
  have q8 : (w0.alloc (.cells (lnC 3 st0) tRl)).cell? ⟨w.heap.size, 8, none⟩ = _ := (by go_simp : _ = w0.cell? ⟨w.heap.size, 8, none⟩).trans c8
  clear c0 c1 c2 c3 c4 c5 c6 c7 c8 hAz hA1 hAB
  generalize w0.alloc (.cells (lnC 3 st0) tRl) = w1 at g1 g0 hAB1 q0 q1 q2 q3 q4 q5 q6 q7 q8 ⊢
  go_upto_region 7 with fail
  clear q0 q1 q2 q3 q4 q5 q6 q7 q8
  obtain ⟨c0, c1, c2, c3, c4, c5, c6, c7, c8⟩ := g1.out.cells
  obtain ⟨d0, d1, d2, d3, d4, d5, d6, d7, d8⟩ := g0.out.cells
  obtain ⟨f0, f1, f2, f3, f4, f5, f6, f7, f8⟩ := g0.out.fz
  simp only [st0] at c0 c1 c2 c3 c4 c5 c6 c7 c8
  go_wp2_with fail
  have gz : Hid (RlB (((((((((w1.setCell ⟨w.heap.size + 1, 0, none⟩ (.int .i64 3)).setCell ⟨w.heap.size + 1, 1, none⟩ (.int .i64 0)).setCell ⟨w.heap.size + 1, 2, none⟩ (.int .i64 0)).setCell ⟨w.heap.size + 1, 3, none⟩ (.string ⟨#[]⟩)).setCell ⟨w.heap.size + 1, 4, none⟩ (.string ⟨#[]⟩)).setCell ⟨w.heap.size + 1, 5, none⟩ (.bool false)).setCell ⟨w.heap.size + 1, 6, none⟩ (.int .i64 0)).setCell ⟨w.heap.size + 1, 7, none⟩ (.int .i64 0)).setCell ⟨w.heap.size + 1, 8, none⟩ (.int .u8 0)) (w.heap.size + 1) 3 ⟨0, 0, [], [], false, 0, 0, 0⟩) := RlB.store g0.out 3 ⟨0, 0, [], [], false, 0, 0, 0⟩
  have hBz : Hid (Below w.heap.size w (((((((((w1.setCell ⟨w.heap.size + 1, 0, none⟩ (.int .i64 3)).setCell ⟨w.heap.size + 1, 1, none⟩ (.int .i64 0)).setCell ⟨w.heap.size + 1, 2, none⟩ (.int .i64 0)).setCell ⟨w.heap.size + 1, 3, none⟩ (.string ⟨#[]⟩)).setCell ⟨w.heap.size + 1, 4, none⟩ (.string ⟨#[]⟩)).setCell ⟨w.heap.size + 1, 5, none⟩ (.bool false)).setCell ⟨w.heap.size + 1, 6, none⟩ (.int .i64 0)).setCell ⟨w.heap.size + 1, 7, none⟩ (.int .i64 0)).setCell ⟨w.heap.size + 1, 8, none⟩ (.int .u8 0))) := by have := hAB1.out; unfold Hid; (repeat' (first | (with_reducible exact Below.refl _ _) | (with_reducible assumption) | (with_reducible refine Below.alloc ?_ ?_ _) | (with_reducible refine bel_drewN ?_ _) | (with_reducible refine Below.drew ?_) | (with_reducible refine Below.setCell ?_ ?_ _) | (with_reducible refine bel_call ‹_› ?_ ?_) | go_size))
  clear c0 c1 c2 c3 c4 c5 c6 c7 c8 f0 f1 f2 f3 f4 f5 f6 f7 f8 d0 d1 d2 d3 d4 d5 d6 d7 d8
  generalize (((((((((w1.setCell ⟨w.heap.size + 1, 0, none⟩ (.int .i64 3)).setCell ⟨w.heap.size + 1, 1, none⟩ (.int .i64 0)).setCell ⟨w.heap.size + 1, 2, none⟩ (.int .i64 0)).setCell ⟨w.heap.size + 1, 3, none⟩ (.string ⟨#[]⟩)).setCell ⟨w.heap.size + 1, 4, none⟩ (.string ⟨#[]⟩)).setCell ⟨w.heap.size + 1, 5, none⟩ (.bool false)).setCell ⟨w.heap.size + 1, 6, none⟩ (.int .i64 0)).setCell ⟨w.heap.size + 1, 7, none⟩ (.int .i64 0)).setCell ⟨w.heap.size + 1, 8, none⟩ (.int .u8 0)) = wz at gz hBz ⊢
  obtain ⟨c0, c1, c2, c3, c4, c5, c6, c7, c8⟩ := gz.out.cells
  simp only at c0 c1 c2 c3 c4 c5 c6 c7 c8
  refine bodyPost_ret (v := .agg (lnC 3 ⟨0, 0, [], [], false, 0, 0, 0⟩)) (by simp only [results, Tryd.results7]; go_simp; rfl) rfl ⟨rfl, by have := hBz.out; (repeat' (first | (with_reducible exact Below.refl _ _) | (with_reducible assumption) | (with_reducible refine Below.alloc ?_ ?_ _) | (with_reducible refine bel_drewN ?_ _) | (with_reducible refine Below.drew ?_) | (with_reducible refine Below.setCell ?_ ?_ _) | (with_reducible refine bel_call ‹_› ?_ ?_) | go_size))⟩

set_option maxRecDepth 100000 in
set_option maxHeartbeats 4000000 in
theorem plain_4 (k : Int) (who : Int) (cell text : Bs) (cols : Bool) (n tor bits : Int) (w : World) : Calls Tryd.prog 7 #[.agg (lnC 4 ⟨k, who, cell, text, cols, n, tor, bits⟩)] w fun e w' => e = .returned (.agg (lnC 4 ⟨0, who, [], [], false, 0, 0, 0⟩)) ∧ Below w.heap.size w w' := by
  obtain ⟨x, hx⟩ : ∃ x : Stp, ⟨k, who, cell, text, cols, n, tor, bits⟩ = x := ⟨_, rfl⟩
  have hcc : ∀ (w : World) b, RlB w b 4 x → RlB w b 4 ⟨k, who, cell, text, cols, n, tor, bits⟩ := by subst hx; exact fun _ _ h => h
  rw [hx]
  clear hx
  obtain ⟨hh0, hh1⟩ := two_new w (.cells (lnC 4 x) tRl) (.cells (lnC 0 st0) tRl)
  have hA0 : Hid (RlB ((w.alloc (.cells (lnC 4 x) tRl)).alloc (.cells (lnC 0 st0) tRl)) w.heap.size 4 x) := hh0
  have hA1 : Hid (RlB ((w.alloc (.cells (lnC 4 x) tRl)).alloc (.cells (lnC 0 st0) tRl)) (w.heap.size + 1) 0 st0) := hh1
  have hAB : Hid (Below w.heap.size w ((w.alloc (.cells (lnC 4 x) tRl)).alloc (.cells (lnC 0 st0) tRl))) := by unfold Hid; (repeat' (first | (with_reducible exact Below.refl _ _) | (with_reducible assumption) | (with_reducible refine Below.alloc ?_ ?_ _) | (with_reducible refine bel_drewN ?_ _) | (with_reducible refine Below.drew ?_) | (with_reducible refine Below.setCell ?_ ?_ _) | (with_reducible refine bel_call ‹_› ?_ ?_) | go_size))
  have hAz : ((w.alloc (.cells (lnC 4 x) tRl)).alloc (.cells (lnC 0 st0) tRl)).heap.size = w.heap.size + 2 := by simp
  clear hh0 hh1
  go_enter Tryd.func7, Tryd.ntmps7
  go_upto_region 1 with fail
  have e0 : (w.alloc (.cells (lnC 4 x) tRl)).alloc (.cells #[.int .i64 0, .int .i64 0, .int .i64 0, .string ⟨#[]⟩, .string ⟨#[]⟩, .bool false, .int .i64 0, .int .i64 0, .int .u8 0] tRl) = ((w.alloc (.cells (lnC 4 x) tRl)).alloc (.cells (lnC 0 st0) tRl)) := rfl
  rw [e0]
  clear e0
  generalize ((w.alloc (.cells (lnC 4 x) tRl)).alloc (.cells (lnC 0 st0) tRl)) = w0 at hA0 hA1 hAB hAz ⊢
  obtain ⟨c0, c1, c2, c3, c4, c5, c6, c7, c8⟩ := (hcc _ _ hA0.out).cells
  clear hcc hA0
  simp only at c0 c1 c2 c3 c4 c5 c6 c7 c8
  go_upto_region 2 with fail
  have e1 : w0.alloc (.cells #[.int .i64 4, .int .i64 0, .int .i64 0, .string ⟨#[]⟩, .string ⟨#[]⟩, .bool false, .int .i64 0, .int .i64 0, .int .u8 0] tRl) = w0.alloc (.cells (lnC 4 st0) tRl) := rfl
  rw [e1]
  clear e1
  have g1 : Hid (RlB (w0.alloc (.cells (lnC 4 st0) tRl)) (w.heap.size + 2) 4 st0) := by
    unfold Hid
    have := heap_alloc_new w0 (.cells (lnC 4 st0) tRl)
    rw [hAz] at this
    exact this
  have g0 : Hid (RlB (w0.alloc (.cells (lnC 4 st0) tRl)) (w.heap.size + 1) 0 st0) := hA1.out.below (by (repeat' (first | (with_reducible exact Below.refl _ _) | (with_reducible assumption) | (with_reducible refine Below.alloc ?_ ?_ _) | (with_reducible refine bel_drewN ?_ _) | (with_reducible refine Below.drew ?_) | (with_reducible refine Below.setCell ?_ ?_ _) | (with_reducible refine bel_call ‹_› ?_ ?_) | go_size)))
  have hAB1 : Hid (Below w.heap.size w (w0.alloc (.cells (lnC 4 st0) tRl))) := by unfold Hid; have := hAB.out; (repeat' (first | (with_reducible exact Below.refl _ _) | (with_reducible assumption) | (with_reducible refine Below.alloc ?_ ?_ _) | (with_reducible refine bel_drewN ?_ _) | (with_reducible refine Below.drew ?_) | (with_reducible refine Below.setCell ?_ ?_ _) | (with_reducible refine bel_call ‹_› ?_ ?_) | go_size))
  have q0 : (w0.alloc (.cells (lnC 4 st0) tRl)).cell? ⟨w.heap.size, 0, none⟩ = _ := (by go_simp : _ = w0.cell? ⟨w.heap.size, 0, none⟩).trans c0
  have q1 : (w0.alloc (.cells (lnC 4 st0) tRl)).cell? ⟨w.heap.size, 1, none⟩ = _ := (by go_simp : _ = w0.cell? ⟨w.heap.size, 1, none⟩).trans c1
  have q2 : (w0.alloc (.cells (lnC 4 st0) tRl)).cell? ⟨w.heap.size, 2, none⟩ = _ := (by go_simp : _ = w0.cell? ⟨w.heap.size, 2, none⟩).trans c2
  have q3 : (w0.alloc (.cells (lnC 4 st0) tRl)).cell? ⟨w.heap.size, 3, none⟩ = _ := (by go_simp : _ = w0.cell? ⟨w.heap.size, 3, none⟩).trans c3
  have q4 : (w0.alloc (.cells (lnC 4 st0) tRl)).cell? ⟨w.heap.size, 4, none⟩ = _ := (by go_simp : _ = w0.cell? ⟨w.heap.size, 4, none⟩).trans c4
  have q5 : (w0.alloc (.cells (lnC 4 st0) tRl)).cell? ⟨w.heap.size, 5, none⟩ = _ := (by go_simp : _ = w0.cell? ⟨w.heap.size, 5, none⟩).trans c5
  have q6 : (w0.alloc (.cells (lnC 4 st0) tRl)).cell? ⟨w.heap.size, 6, none⟩ = _ := (by go_simp : _ = w0.cell? ⟨w.heap.size, 6, none⟩).trans c6
  have q7 : (w0.alloc (.cells (lnC 4 st0) tRl)).cell? ⟨w.heap.size, 7, none⟩ = _ := (by go_simp : _ = w0.cell? ⟨w.heap.size, 7, none⟩).trans c7
  have q8 : (w0.alloc (.cells (lnC 4 st0) tRl)).cell? ⟨w.heap.size, 8, none⟩ = _ := (by go_simp : _ = w0.cell? ⟨w.heap.size, 8, none⟩).trans c8
  clear c0 c1 c2 c3 c4 c5 c6 c7 c8 hAz hA1 hAB
  generalize w0.alloc (.cells (lnC 4 st0) tRl) = w1 at g1 g0 hAB1 q0 q1 q2 q3 q4 q5 q6 q7 q8 ⊢
  obtain ⟨f0, f1, f2, f3, f4, f5, f6, f7, f8⟩ := g1.out.fz
  obtain ⟨p0, p1, p2, p3, p4, p5, p6, p7, p8⟩ := g1.out.cells
  go_upto_region 7 with fail
  clear q0 q1 q2 q3 q4 q5 q6 q7 q8 p0 p1 p2 p3 p4 p5 p6 p7 p8 f0 f1 f2 f3 f4 f5 f6 f7 f8
  have g2 : Hid (RlB (w1.setCell ⟨w.heap.size + 2, 2, none⟩ (.int .i64 who)) (w.heap.size + 2) 4 ⟨0, who, [], [], false, 0, 0, 0⟩) := (RlB.set2 g1.out who)
  have g3 : Hid (RlB (w1.setCell ⟨w.heap.size + 2, 2, none⟩ (.int .i64 who)) (w.heap.size + 1) 0 st0) := (RlB.other g0.out (by omega) _ _)
  have hAB2 : Hid (Below w.heap.size w (w1.setCell ⟨w.heap.size + 2, 2, none⟩ (.int .i64 who))) := by have := hAB1.out; unfold Hid; (repeat' (first | (with_reducible exact Below.refl _ _) | (with_reducible assumption) | (with_reducible refine Below.alloc ?_ ?_ _) | (with_reducible refine bel_drewN ?_ _) | (with_reducible refine Below.drew ?_) | (with_reducible refine Below.setCell ?_ ?_ _) | (with_reducible refine bel_call ‹_› ?_ ?_) | go_size))
  generalize (w1.setCell ⟨w.heap.size + 2, 2, none⟩ (.int .i64 who)) = w2 at g2 g3 hAB2 ⊢
  clear g1 g0 hAB1
  obtain ⟨c0, c1, c2, c3, c4, c5, c6, c7, c8⟩ := g2.out.cells
  obtain ⟨d0, d1, d2, d3, d4, d5, d6, d7, d8⟩ := g3.out.cells
  obtain ⟨f0, f1, f2, f3, f4, f5, f6, f7, f8⟩ := g3.out.fz
  simp only [st0] at c0 c1 c2 c3 c4 c5 c6 c7 c8
  go_wp2_with fail
  have gz : Hid (RlB (((((((((w2.setCell ⟨w.heap.size + 1, 0, none⟩ (.int .i64 4)).setCell ⟨w.heap.size + 1, 1, none⟩ (.int .i64 0)).setCell ⟨w.heap.size + 1, 2, none⟩ (.int .i64 who)).setCell ⟨w.heap.size + 1, 3, none⟩ (.string ⟨#[]⟩)).setCell ⟨w.heap.size + 1, 4, none⟩ (.string ⟨#[]⟩)).setCell ⟨w.heap.size + 1, 5, none⟩ (.bool false)).setCell ⟨w.heap.size + 1, 6, none⟩ (.int .i64 0)).setCell ⟨w.heap.size + 1, 7, none⟩ (.int .i64 0)).setCell ⟨w.heap.size + 1, 8, none⟩ (.int .u8 0)) (w.heap.size + 1) 4 ⟨0, who, [], [], false, 0, 0, 0⟩) := RlB.store g3.out 4 ⟨0, who, [], [], false, 0, 0, 0⟩
  have hBz : Hid (Below w.heap.size w (((((((((w2.setCell ⟨w.heap.size + 1, 0, none⟩ (.int .i64 4)).setCell ⟨w.heap.size + 1, 1, none⟩ (.int .i64 0)).setCell ⟨w.heap.size + 1, 2, none⟩ (.int .i64 who)).setCell ⟨w.heap.size + 1, 3, none⟩ (.string ⟨#[]⟩)).setCell ⟨w.heap.size + 1, 4, none⟩ (.string ⟨#[]⟩)).setCell ⟨w.heap.size + 1, 5, none⟩ (.bool false)).setCell ⟨w.heap.size + 1, 6, none⟩ (.int .i64 0)).setCell ⟨w.heap.size + 1, 7, none⟩ (.int .i64 0)).setCell ⟨w.heap.size + 1, 8, none⟩ (.int .u8 0))) := by have := hAB2.out; unfold Hid; (repeat' (first | (with_reducible exact Below.refl _ _) | (with_reducible assumption) | (with_reducible refine Below.alloc ?_ ?_ _) | (with_reducible refine bel_drewN ?_ _) | (with_reducible refine Below.drew ?_) | (with_reducible refine Below.setCell ?_ ?_ _) | (with_reducible refine bel_call ‹_› ?_ ?_) | go_size))
  clear c0 c1 c2 c3 c4 c5 c6 c7 c8 f0 f1 f2 f3 f4 f5 f6 f7 f8 d0 d1 d2 d3 d4 d5 d6 d7 d8
  generalize (((((((((w2.setCell ⟨w.heap.size + 1, 0, none⟩ (.int .i64 4)).setCell ⟨w.heap.size + 1, 1, none⟩ (.int .i64 0)).setCell ⟨w.heap.size + 1, 2, none⟩ (.int .i64 who)).setCell ⟨w.heap.size + 1, 3, none⟩ (.string ⟨#[]⟩)).setCell ⟨w.heap.size + 1, 4, none⟩ (.string ⟨#[]⟩)).setCell ⟨w.heap.size + 1, 5, none⟩ (.bool false)).setCell ⟨w.heap.size + 1, 6, none⟩ (.int .i64 0)).setCell ⟨w.heap.size + 1, 7, none⟩ (.int .i64 0)).setCell ⟨w.heap.size + 1, 8, none⟩ (.int .u8 0)) = wz at gz hBz ⊢
  obtain ⟨c0, c1, c2, c3, c4, c5, c6, c7, c8⟩ := gz.out.cells
  simp only at c0 c1 c2 c3 c4 c5 c6 c7 c8
  refine bodyPost_ret (v := .agg (lnC 4 ⟨0, who, [], [], false, 0, 0, 0⟩)) (by simp only [results, Tryd.results7]; go_simp; rfl) rfl ⟨rfl, by have := hBz.out; (repeat' (first | (with_reducible exact Below.refl _ _) | (with_reducible assumption) | (with_reducible refine Below.alloc ?_ ?_ _) | (with_reducible refine bel_drewN ?_ _) | (with_reducible refine Below.drew ?_) | (with_reducible refine Below.setCell ?_ ?_ _) | (with_reducible refine bel_call ‹_› ?_ ?_) | go_size))⟩

set_option maxRecDepth 100000 in
set_option maxHeartbeats 4000000 in
theorem plain_5 (k : Int) (who : Int) (cell text : Bs) (cols : Bool) (n tor bits : Int) (w : World) : Calls Tryd.prog 7 #[.agg (lnC 5 ⟨k, who, cell, text, cols, n, tor, bits⟩)] w fun e w' => e = .returned (.agg (lnC 5 ⟨0, who, cell, [], false, 0, 0, 0⟩)) ∧ Below w.heap.size w w' := by
  obtain ⟨x, hx⟩ : ∃ x : Stp, ⟨k, who, cell, text, cols, n, tor, bits⟩ = x := ⟨_, rfl⟩
  have hcc : ∀ (w : World) b, RlB w b 5 x → RlB w b 5 ⟨k, who, cell, text, cols, n, tor, bits⟩ := by subst hx; exact fun _ _ h => h
  rw [hx]
  clear hx
  obtain ⟨hh0, hh1⟩ := two_new w (.cells (lnC 5 x) tRl) (.cells (lnC 0 st0) tRl)
  have hA0 : Hid (RlB ((w.alloc (.cells (lnC 5 x) tRl)).alloc (.cells (lnC 0 st0) tRl)) w.heap.size 5 x) := hh0
  have hA1 : Hid (RlB ((w.alloc (.cells (lnC 5 x) tRl)).alloc (.cells (lnC 0 st0) tRl)) (w.heap.size + 1) 0 st0) := hh1
  have hAB : Hid (Below w.heap.size w ((w.alloc (.cells (lnC 5 x) tRl)).alloc (.cells (lnC 0 st0) tRl))) := by unfold Hid; (repeat' (first | (with_reducible exact Below.refl _ _) | (with_reducible assumption) | (with_reducible refine Below.alloc ?_ ?_ _) | (with_reducible refine bel_drewN ?_ _) | (with_reducible refine Below.drew ?_) | (with_reducible refine Below.setCell ?_ ?_ _) | (with_reducible refine bel_call ‹_› ?_ ?_) | go_size))
  have hAz : ((w.alloc (.cells (lnC 5 x) tRl)).alloc (.cells (lnC 0 st0) tRl)).heap.size = w.heap.size + 2 := by simp
  clear hh0 hh1
  go_enter Tryd.func7, Tryd.ntmps7
  go_upto_region 1 with fail
  have e0 : (w.alloc (.cells (lnC 5 x) tRl)).alloc (.cells #[.int .i64 0, .int .i64 0, .int .i64 0, .string ⟨#[]⟩, .string ⟨#[]⟩, .bool false, .int .i64 0, .int .i64 0, .int .u8 0] tRl) = ((w.alloc (.cells (lnC 5 x) tRl)).alloc (.cells (lnC 0 st0) tRl)) := rfl
  rw [e0]
  clear e0
  generalize ((w.alloc (.cells (lnC 5 x) tRl)).alloc (.cells (lnC 0 st0) tRl)) = w0 at hA0 hA1 hAB hAz ⊢
  obtain ⟨c0, c1, c2, c3, c4, c5, c6, c7, c8⟩ := (hcc _ _ hA0.out).cells
  clear hcc hA0
  simp only at c0 c1 c2 c3 c4 c5 c6 c7 c8
  go_upto_region 2 with fail
  have e1 : w0.alloc (.cells #[.int .i64 5, .int .i64 0, .int .i64 0, .string ⟨#[]⟩, .string ⟨#[]⟩, .bool false, .int .i64 0, .int .i64 0, .int .u8 0] tRl) = w0.alloc (.cells (lnC 5 st0) tRl) := rfl
  rw [e1]
  clear e1
  have g1 : Hid (RlB (w0.alloc (.cells (lnC 5 st0) tRl)) (w.heap.size + 2) 5 st0) := by
    unfold Hid
    have := heap_alloc_new w0 (.cells (lnC 5 st0) tRl)
    rw [hAz] at this
    exact this
  have g0 : Hid (RlB (w0.alloc (.cells (lnC 5 st0) tRl)) (w.heap.size + 1) 0 st0) := hA1.out.below (by (repeat' (first | (with_reducible exact Below.refl _ _) | (with_reducible assumption) | (with_reducible refine Below.alloc ?_ ?_ _) | (with_reducible refine bel_drewN ?_ _) | (with_reducible refine Below.drew ?_) | (with_reducible refine Below.setCell ?_ ?_ _) | (with_reducible refine bel_call ‹_› ?_ ?_) | go_size)))
  have hAB1 : Hid (Below w.heap.size w (w0.alloc (.cells (lnC 5 st0) tRl))) := by unfold Hid; have := hAB.out; (repeat' (first | (with_reducible exact Below.refl _ _) | (with_reducible assumption) | (with_reducible refine Below.alloc ?_ ?_ _) | (with_reducible refine bel_drewN ?_ _) | (with_reducible refine Below.drew ?_) | (with_reducible refine Below.setCell ?_ ?_ _) | (with_reducible refine bel_call ‹_› ?_ ?_) | go_size))
  have q0 : (w0.alloc (.cells (lnC 5 st0) tRl)).cell? ⟨w.heap.size, 0, none⟩ = _ := (by go_simp : _ = w0.cell? ⟨w.heap.size, 0, none⟩).trans c0
  have q1 : (w0.alloc (.cells (lnC 5 st0) tRl)).cell? ⟨w.heap.size, 1, none⟩ = _ := (by go_simp : _ = w0.cell? ⟨w.heap.size, 1, none⟩).trans c1
  have q2 : (w0.alloc (.cells (lnC 5 st0) tRl)).cell? ⟨w.heap.size, 2, none⟩ = _ := (by go_simp : _ = w0.cell? ⟨w.heap.size, 2, none⟩).trans c2
  have q3 : (w0.alloc (.cells (lnC 5 st0) tRl)).cell? ⟨w.heap.size, 3, none⟩ = _ := (by go_simp : _ = w0.cell? ⟨w.heap.size, 3, none⟩).trans c3
  have q4 : (w0.alloc (.cells (lnC 5 st0) tRl)).cell? ⟨w.heap.size, 4, none⟩ = _ := (by go_simp : _ = w0.cell? ⟨w.heap.size, 4, none⟩).trans c4
  have q5 : (w0.alloc (.cells (lnC 5 st0) tRl)).cell? ⟨w.heap.size, 5, none⟩ = _ := (by go_simp : _ = w0.cell? ⟨w.heap.size, 5, none⟩).trans c5
  have q6 : (w0.alloc (.cells (lnC 5 st0) tRl)).cell? ⟨w.heap.size, 6, none⟩ = _ := (by go_simp : _ = w0.cell? ⟨w.heap.size, 6, none⟩).trans c6
  have q7 : (w0.alloc (.cells (lnC 5 st0) tRl)).cell? ⟨w.heap.size, 7, none⟩ = _ := (by go_simp : _ = w0.cell? ⟨w.heap.size, 7, none⟩).trans c7
  have q8 : (w0.alloc (.cells (lnC 5 st0) tRl)).cell? ⟨w.heap.size, 8, none⟩ = _ := (by go_simp : _ = w0.cell? ⟨w.heap.size, 8, none⟩).trans c8
  clear c0 c1 c2 c3 c4 c5 c6 c7 c8 hAz hA1 hAB
  generalize w0.alloc (.cells (lnC 5 st0) tRl) = w1 at g1 g0 hAB1 q0 q1 q2 q3 q4 q5 q6 q7 q8 ⊢
  obtain ⟨f0, f1, f2, f3, f4, f5, f6, f7, f8⟩ := g1.out.fz
  obtain ⟨p0, p1, p2, p3, p4, p5, p6, p7, p8⟩ := g1.out.cells
  go_upto_region 7 with fail
  clear q0 q1 q2 q3 q4 q5 q6 q7 q8 p0 p1 p2 p3 p4 p5 p6 p7 p8 f0 f1 f2 f3 f4 f5 f6 f7 f8
  have g2 : Hid (RlB ((w1.setCell ⟨w.heap.size + 2, 2, none⟩ (.int .i64 who)).setCell ⟨w.heap.size + 2, 3, none⟩ (.string ⟨cell.toArray⟩)) (w.heap.size + 2) 5 ⟨0, who, cell, [], false, 0, 0, 0⟩) := (RlB.set3 (RlB.set2 g1.out who) cell)
  have g3 : Hid (RlB ((w1.setCell ⟨w.heap.size + 2, 2, none⟩ (.int .i64 who)).setCell ⟨w.heap.size + 2, 3, none⟩ (.string ⟨cell.toArray⟩)) (w.heap.size + 1) 0 st0) := (RlB.other (RlB.other g0.out (by omega) _ _) (by omega) _ _)
  have hAB2 : Hid (Below w.heap.size w ((w1.setCell ⟨w.heap.size + 2, 2, none⟩ (.int .i64 who)).setCell ⟨w.heap.size + 2, 3, none⟩ (.string ⟨cell.toArray⟩))) := by have := hAB1.out; unfold Hid; (repeat' (first | (with_reducible exact Below.refl _ _) | (with_reducible assumption) | (with_reducible refine Below.alloc ?_ ?_ _) | (with_reducible refine bel_drewN ?_ _) | (with_reducible refine Below.drew ?_) | (with_reducible refine Below.setCell ?_ ?_ _) | (with_reducible refine bel_call ‹_› ?_ ?_) | go_size))
  generalize ((w1.setCell ⟨w.heap.size + 2, 2, none⟩ (.int .i64 who)).setCell ⟨w.heap.size + 2, 3, none⟩ (.string ⟨cell.toArray⟩)) = w2 at g2 g3 hAB2 ⊢
  clear g1 g0 hAB1
  obtain ⟨c0, c1, c2, c3, c4, c5, c6, c7, c8⟩ := g2.out.cells
  obtain ⟨d0, d1, d2, d3, d4, d5, d6, d7, d8⟩ := g3.out.cells
  obtain ⟨f0, f1, f2, f3, f4, f5, f6, f7, f8⟩ := g3.out.fz
  simp only [st0] at c0 c1 c2 c3 c4 c5 c6 c7 c8
  go_wp2_with fail
  have gz : Hid (RlB (((((((((w2.setCell ⟨w.heap.size + 1, 0, none⟩ (.int .i64 5)).setCell ⟨w.heap.size + 1, 1, none⟩ (.int .i64 0)).setCell ⟨w.heap.size + 1, 2, none⟩ (.int .i64 who)).setCell ⟨w.heap.size + 1, 3, none⟩ (.string ⟨cell.toArray⟩)).setCell ⟨w.heap.size + 1, 4, none⟩ (.string ⟨#[]⟩)).setCell ⟨w.heap.size + 1, 5, none⟩ (.bool false)).setCell ⟨w.heap.size + 1, 6, none⟩ (.int .i64 0)).setCell ⟨w.heap.size + 1, 7, none⟩ (.int .i64 0)).setCell ⟨w.heap.size + 1, 8, none⟩ (.int .u8 0)) (w.heap.size + 1) 5 ⟨0, who, cell, [], false, 0, 0, 0⟩) := RlB.store g3.out 5 ⟨0, who, cell, [], false, 0, 0, 0⟩
  have hBz : Hid (Below w.heap.size w (((((((((w2.setCell ⟨w.heap.size + 1, 0, none⟩ (.int .i64 5)).setCell ⟨w.heap.size + 1, 1, none⟩ (.int .i64 0)).setCell ⟨w.heap.size + 1, 2, none⟩ (.int .i64 who)).setCell ⟨w.heap.size + 1, 3, none⟩ (.string ⟨cell.toArray⟩)).setCell ⟨w.heap.size + 1, 4, none⟩ (.string ⟨#[]⟩)).setCell ⟨w.heap.size + 1, 5, none⟩ (.bool false)).setCell ⟨w.heap.size + 1, 6, none⟩ (.int .i64 0)).setCell ⟨w.heap.size + 1, 7, none⟩ (.int .i64 0)).setCell ⟨w.heap.size + 1, 8, none⟩ (.int .u8 0))) := by have := hAB2.out; unfold Hid; (repeat' (first | (with_reducible exact Below.refl _ _) | (with_reducible assumption) | (with_reducible refine Below.alloc ?_ ?_ _) | (with_reducible refine bel_drewN ?_ _) | (with_reducible refine Below.drew ?_) | (with_reducible refine Below.setCell ?_ ?_ _) | (with_reducible refine bel_call ‹_› ?_ ?_) | go_size))
  clear c0 c1 c2 c3 c4 c5 c6 c7 c8 f0 f1 f2 f3 f4 f5 f6 f7 f8 d0 d1 d2 d3 d4 d5 d6 d7 d8
  generalize (((((((((w2.setCell ⟨w.heap.size + 1, 0, none⟩ (.int .i64 5)).setCell ⟨w.heap.size + 1, 1, none⟩ (.int .i64 0)).setCell ⟨w.heap.size + 1, 2, none⟩ (.int .i64 who)).setCell ⟨w.heap.size + 1, 3, none⟩ (.string ⟨cell.toArray⟩)).setCell ⟨w.heap.size + 1, 4, none⟩ (.string ⟨#[]⟩)).setCell ⟨w.heap.size + 1, 5, none⟩ (.bool false)).setCell ⟨w.heap.size + 1, 6, none⟩ (.int .i64 0)).setCell ⟨w.heap.size + 1, 7, none⟩ (.int .i64 0)).setCell ⟨w.heap.size + 1, 8, none⟩ (.int .u8 0)) = wz at gz hBz ⊢
  obtain ⟨c0, c1, c2, c3, c4, c5, c6, c7, c8⟩ := gz.out.cells
  simp only at c0 c1 c2 c3 c4 c5 c6 c7 c8
  refine bodyPost_ret (v := .agg (lnC 5 ⟨0, who, cell, [], false, 0, 0, 0⟩)) (by simp only [results, Tryd.results7]; go_simp; rfl) rfl ⟨rfl, by have := hBz.out; (repeat' (first | (with_reducible exact Below.refl _ _) | (with_reducible assumption) | (with_reducible refine Below.alloc ?_ ?_ _) | (with_reducible refine bel_drewN ?_ _) | (with_reducible refine Below.drew ?_) | (with_reducible refine Below.setCell ?_ ?_ _) | (with_reducible refine bel_call ‹_› ?_ ?_) | go_size))⟩

set_option maxRecDepth 100000 in
set_option maxHeartbeats 4000000 in
theorem plain_6 (k : Int) (who : Int) (cell text : Bs) (cols : Bool) (n tor bits : Int) (w : World) : Calls Tryd.prog 7 #[.agg (lnC 6 ⟨k, who, cell, text, cols, n, tor, bits⟩)] w fun e w' => e = .returned (.agg (lnC 6 ⟨0, who, cell, [], false, 0, 0, 0⟩)) ∧ Below w.heap.size w w' := by
  obtain ⟨x, hx⟩ : ∃ x : Stp, ⟨k, who, cell, text, cols, n, tor, bits⟩ = x := ⟨_, rfl⟩
  have hcc : ∀ (w : World) b, RlB w b 6 x → RlB w b 6 ⟨k, who, cell, text, cols, n, tor, bits⟩ := by subst hx; exact fun _ _ h => h
  rw [hx]
  clear hx
  obtain ⟨hh0, hh1⟩ := two_new w (.cells (lnC 6 x) tRl) (.cells (lnC 0 st0) tRl)
  have hA0 : Hid (RlB ((w.alloc (.cells (lnC 6 x) tRl)).alloc (.cells (lnC 0 st0) tRl)) w.heap.size 6 x) := hh0
  have hA1 : Hid (RlB ((w.alloc (.cells (lnC 6 x) tRl)).alloc (.cells (lnC 0 st0) tRl)) (w.heap.size + 1) 0 st0) := hh1
  have hAB : Hid (Below w.heap.size w ((w.alloc (.cells (lnC 6 x) tRl)).alloc (.cells (lnC 0 st0) tRl))) := by unfold Hid; (repeat' (first | (with_reducible exact Below.refl _ _) | (with_reducible assumption) | (with_reducible refine Below.alloc ?_ ?_ _) | (with_reducible refine bel_drewN ?_ _) | (with_reducible refine Below.drew ?_) | (with_reducible refine Below.setCell ?_ ?_ _) | (with_reducible refine bel_call ‹_› ?_ ?_) | go_size))
  have hAz : ((w.alloc (.cells (lnC 6 x) tRl)).alloc (.cells (lnC 0 st0) tRl)).heap.size = w.heap.size + 2 := by simp
  clear hh0 hh1
  go_enter Tryd.func7, Tryd.ntmps7
  go_upto_region 1 with fail
  have e0 : (w.alloc (.cells (lnC 6 x) tRl)).alloc (.cells #[.int .i64 0, .int .i64 0, .int .i64 0, .string ⟨#[]⟩, .string ⟨#[]⟩, .bool false, .int .i64 0, .int .i64 0, .int .u8 0] tRl) = ((w.alloc (.cells (lnC 6 x) tRl)).alloc (.cells (lnC 0 st0) tRl)) := rfl
  rw [e0]
  clear e0
  generalize ((w.alloc (.cells (lnC 6 x) tRl)).alloc (.cells (lnC 0 st0) tRl)) = w0 at hA0 hA1 hAB hAz ⊢
  obtain ⟨c0, c1, c2, c3, c4, c5, c6, c7, c8⟩ := (hcc _ _ hA0.out).cells
  clear hcc hA0
  simp only at c0 c1 c2 c3 c4 c5 c6 c7 c8
  go_upto_region 2 with fail
  have e1 : w0.alloc (.cells #[.int .i64 6, .int .i64 0, .int .i64 0, .string ⟨#[]⟩, .string ⟨#[]⟩, .bool false, .int .i64 0, .int .i64 0, .int .u8 0] tRl) = w0.alloc (.cells (lnC 6 st0) tRl) := rfl
  rw [e1]
  clear e1
  have g1 : Hid (RlB (w0.alloc (.cells (lnC 6 st0) tRl)) (w.heap.size + 2) 6 st0) := by
    unfold Hid
    have := heap_alloc_new w0 (.cells (lnC 6 st0) tRl)
    rw [hAz] at this
    exact this
  have g0 : Hid (RlB (w0.alloc (.cells (lnC 6 st0) tRl)) (w.heap.size + 1) 0 st0) := hA1.out.below (by (repeat' (first | (with_reducible exact Below.refl _ _) | (with_reducible assumption) | (with_reducible refine Below.alloc ?_ ?_ _) | (with_reducible refine bel_drewN ?_ _) | (with_reducible refine Below.drew ?_) | (with_reducible refine Below.setCell ?_ ?_ _) | (with_reducible refine bel_call ‹_› ?_ ?_) | go_size)))
  have hAB1 : Hid (Below w.heap.size w (w0.alloc (.cells (lnC 6 st0) tRl))) := by unfold Hid; have := hAB.out; (repeat' (first | (with_reducible exact Below.refl _ _) | (with_reducible assumption) | (with_reducible refine Below.alloc ?_ ?_ _) | (with_reducible refine bel_drewN ?_ _) | (with_reducible refine Below.drew ?_) | (with_reducible refine Below.setCell ?_ ?_ _) | (with_reducible refine bel_call ‹_› ?_ ?_) | go_size))
  have q0 : (w0.alloc (.cells (lnC 6 st0) tRl)).cell? ⟨w.heap.size, 0, none⟩ = _ := (by go_simp : _ = w0.cell? ⟨w.heap.size, 0, none⟩).trans c0
  have q1 : (w0.alloc (.cells (lnC 6 st0) tRl)).cell? ⟨w.heap.size, 1, none⟩ = _ := (by go_simp : _ = w0.cell? ⟨w.heap.size, 1, none⟩).trans c1
  have q2 : (w0.alloc (.cells (lnC 6 st0) tRl)).cell? ⟨w.heap.size, 2, none⟩ = _ := (by go_simp : _ = w0.cell? ⟨w.heap.size, 2, none⟩).trans c2
  have q3 : (w0.alloc (.cells (lnC 6 st0) tRl)).cell? ⟨w.heap.size, 3, none⟩ = _ := (by go_simp : _ = w0.cell? ⟨w.heap.size, 3, none⟩).trans c3
  have q4 : (w0.alloc (.cells (lnC 6 st0) tRl)).cell? ⟨w.heap.size, 4, none⟩ = _ := (by go_simp : _ = w0.cell? ⟨w.heap.size, 4, none⟩).trans c4
  have q5 : (w0.alloc (.cells (lnC 6 st0) tRl)).cell? ⟨w.heap.size, 5, none⟩ = _ := (by go_simp : _ = w0.cell? ⟨w.heap.size, 5, none⟩).trans c5
  have q6 : (w0.alloc (.cells (lnC 6 st0) tRl)).cell? ⟨w.heap.size, 6, none⟩ = _ := (by go_simp : _ = w0.cell? ⟨w.heap.size, 6, none⟩).trans c6
  have q7 : (w0.alloc (.cells (lnC 6 st0) tRl)).cell? ⟨w.heap.size, 7, none⟩ = _ := (by go_simp : _ = w0.cell? ⟨w.heap.size, 7, none⟩).trans c7
  have q8 : (w0.alloc (.cells (lnC 6 st0) tRl)).cell? ⟨w.heap.size, 8, none⟩ = _ := (by go_simp : _ = w0.cell? ⟨w.heap.size, 8, none⟩).trans c8
  clear c0 c1 c2 c3 c4 c5 c6 c7 c8 hAz hA1 hAB
  generalize w0.alloc (.cells (lnC 6 st0) tRl) = w1 at g1 g0 hAB1 q0 q1 q2 q3 q4 q5 q6 q7 q8 ⊢
  obtain ⟨f0, f1, f2, f3, f4, f5, f6, f7, f8⟩ := g1.out.fz
  obtain ⟨p0, p1, p2, p3, p4, p5, p6, p7, p8⟩ := g1.out.cells
  go_upto_region 7 with fail
  clear q0 q1 q2 q3 q4 q5 q6 q7 q8 p0 p1 p2 p3 p4 p5 p6 p7 p8 f0 f1 f2 f3 f4 f5 f6 f7 f8
  have g2 : Hid (RlB ((w1.setCell ⟨w.heap.size + 2, 2, none⟩ (.int .i64 who)).setCell ⟨w.heap.size + 2, 3, none⟩ (.string ⟨cell.toArray⟩)) (w.heap.size + 2) 6 ⟨0, who, cell, [], false, 0, 0, 0⟩) := (RlB.set3 (RlB.set2 g1.out who) cell)
  have g3 : Hid (RlB ((w1.setCell ⟨w.heap.size + 2, 2, none⟩ (.int .i64 who)).setCell ⟨w.heap.size + 2, 3, none⟩ (.string ⟨cell.toArray⟩)) (w.heap.size + 1) 0 st0) := (RlB.other (RlB.other g0.out (by omega) _ _) (by omega) _ _)
  have hAB2 : Hid (Below w.heap.size w ((w1.setCell ⟨w.heap.size + 2, 2, none⟩ (.int .i64 who)).setCell ⟨w.heap.size + 2, 3, none⟩ (.string ⟨cell.toArray⟩))) := by have := hAB1.out; unfold Hid; (repeat' (first | (with_reducible exact Below.refl _ _) | (with_reducible assumption) | (with_reducible refine Below.alloc ?_ ?_ _) | (with_reducible refine bel_drewN ?_ _) | (with_reducible refine Below.drew ?_) | (with_reducible refine Below.setCell ?_ ?_ _) | (with_reducible refine bel_call ‹_› ?_ ?_) | go_size))
  generalize ((w1.setCell ⟨w.heap.size + 2, 2, none⟩ (.int .i64 who)).setCell ⟨w.heap.size + 2, 3, none⟩ (.string ⟨cell.toArray⟩)) = w2 at g2 g3 hAB2 ⊢
  clear g1 g0 hAB1
  obtain ⟨c0, c1, c2, c3, c4, c5, c6, c7, c8⟩ := g2.out.cells
  obtain ⟨d0, d1, d2, d3, d4, d5, d6, d7, d8⟩ := g3.out.cells
  obtain ⟨f0, f1, f2, f3, f4, f5, f6, f7, f8⟩ := g3.out.fz
  simp only [st0] at c0 c1 c2 c3 c4 c5 c6 c7 c8
  go_wp2_with fail
  have gz : Hid (RlB (((((((((w2.setCell ⟨w.heap.size + 1, 0, none⟩ (.int .i64 6)).setCell ⟨w.heap.size + 1, 1, none⟩ (.int .i64 0)).setCell ⟨w.heap.size + 1, 2, none⟩ (.int .i64 who)).setCell ⟨w.heap.size + 1, 3, none⟩ (.string ⟨cell.toArray⟩)).setCell ⟨w.heap.size + 1, 4, none⟩ (.string ⟨#[]⟩)).setCell ⟨w.heap.size + 1, 5, none⟩ (.bool false)).setCell ⟨w.heap.size + 1, 6, none⟩ (.int .i64 0)).setCell ⟨w.heap.size + 1, 7, none⟩ (.int .i64 0)).setCell ⟨w.heap.size + 1, 8, none⟩ (.int .u8 0)) (w.heap.size + 1) 6 ⟨0, who, cell, [], false, 0, 0, 0⟩) := RlB.store g3.out 6 ⟨0, who, cell, [], false, 0, 0, 0⟩
  have hBz : Hid (Below w.heap.size w (((((((((w2.setCell ⟨w.heap.size + 1, 0, none⟩ (.int .i64 6)).setCell ⟨w.heap.size + 1, 1, none⟩ (.int .i64 0)).setCell ⟨w.heap.size + 1, 2, none⟩ (.int .i64 who)).setCell ⟨w.heap.size + 1, 3, none⟩ (.string ⟨cell.toArray⟩)).setCell ⟨w.heap.size + 1, 4, none⟩ (.string ⟨#[]⟩)).setCell ⟨w.heap.size + 1, 5, none⟩ (.bool false)).setCell ⟨w.heap.size + 1, 6, none⟩ (.int .i64 0)).setCell ⟨w.heap.size + 1, 7, none⟩ (.int .i64 0)).setCell ⟨w.heap.size + 1, 8, none⟩ (.int .u8 0))) := by have := hAB2.out; unfold Hid; (repeat' (first | (with_reducible exact Below.refl _ _) | (with_reducible assumption) | (with_reducible refine Below.alloc ?_ ?_ _) | (with_reducible refine bel_drewN ?_ _) | (with_reducible refine Below.drew ?_) | (with_reducible refine Below.setCell ?_ ?_ _) | (with_reducible refine bel_call ‹_› ?_ ?_) | go_size))
  clear c0 c1 c2 c3 c4 c5 c6 c7 c8 f0 f1 f2 f3 f4 f5 f6 f7 f8 d0 d1 d2 d3 d4 d5 d6 d7 d8
  generalize (((((((((w2.setCell ⟨w.heap.size + 1, 0, none⟩ (.int .i64 6)).setCell ⟨w.heap.size + 1, 1, none⟩ (.int .i64 0)).setCell ⟨w.heap.size + 1, 2, none⟩ (.int .i64 who)).setCell ⟨w.heap.size + 1, 3, none⟩ (.string ⟨cell.toArray⟩)).setCell ⟨w.heap.size + 1, 4, none⟩ (.string ⟨#[]⟩)).setCell ⟨w.heap.size + 1, 5, none⟩ (.bool false)).setCell ⟨w.heap.size + 1, 6, none⟩ (.int .i64 0)).setCell ⟨w.heap.size + 1, 7, none⟩ (.int .i64 0)).setCell ⟨w.heap.size + 1, 8, none⟩ (.int .u8 0)) = wz at gz hBz ⊢
  obtain ⟨c0, c1, c2, c3, c4, c5, c6, c7, c8⟩ := gz.out.cells
  simp only at c0 c1 c2 c3 c4 c5 c6 c7 c8
  refine bodyPost_ret (v := .agg (lnC 6 ⟨0, who, cell, [], false, 0, 0, 0⟩)) (by simp only [results, Tryd.results7]; go_simp; rfl) rfl ⟨rfl, by have := hBz.out; (repeat' (first | (with_reducible exact Below.refl _ _) | (with_reducible assumption) | (with_reducible refine Below.alloc ?_ ?_ _) | (with_reducible refine bel_drewN ?_ _) | (with_reducible refine Below.drew ?_) | (with_reducible refine Below.setCell ?_ ?_ _) | (with_reducible refine bel_call ‹_› ?_ ?_) | go_size))⟩

set_option maxRecDepth 100000 in
set_option maxHeartbeats 4000000 in
theorem plain_7 (k : Int) (who : Int) (cell text : Bs) (cols : Bool) (n tor bits : Int) (w : World) : Calls Tryd.prog 7 #[.agg (lnC 7 ⟨k, who, cell, text, cols, n, tor, bits⟩)] w fun e w' => e = .returned (.agg (lnC 7 ⟨0, who, [], [], false, 0, 0, 0⟩)) ∧ Below w.heap.size w w' := by
  obtain ⟨x, hx⟩ : ∃ x : Stp, ⟨k, who, cell, text, cols, n, tor, bits⟩ = x := ⟨_, rfl⟩
  have hcc : ∀ (w : World) b, RlB w b 7 x → RlB w b 7 ⟨k, who, cell, text, cols, n, tor, bits⟩ := by subst hx; exact fun _ _ h => h
  rw [hx]
  clear hx
  obtain ⟨hh0, hh1⟩ := two_new w (.cells (lnC 7 x) tRl) (.cells (lnC 0 st0) tRl)
  have hA0 : Hid (RlB ((w.alloc (.cells (lnC 7 x) tRl)).alloc (.cells (lnC 0 st0) tRl)) w.heap.size 7 x) := hh0
  have hA1 : Hid (RlB ((w.alloc (.cells (lnC 7 x) tRl)).alloc (.cells (lnC 0 st0) tRl)) (w.heap.size + 1) 0 st0) := hh1
  have hAB : Hid (Below w.heap.size w ((w.alloc (.cells (lnC 7 x) tRl)).alloc (.cells (lnC 0 st0) tRl))) := by unfold Hid; (repeat' (first | (with_reducible exact Below.refl _ _) | (with_reducible assumption) | (with_reducible refine Below.alloc ?_ ?_ _) | (with_reducible refine bel_drewN ?_ _) | (with_reducible refine Below.drew ?_) | (with_reducible refine Below.setCell ?_ ?_ _) | (with_reducible refine bel_call ‹_› ?_ ?_) | go_size))
  have hAz : ((w.alloc (.cells (lnC 7 x) tRl)).alloc (.cells (lnC 0 st0) tRl)).heap.size = w.heap.size + 2 := by simp
  clear hh0 hh1
  go_enter Tryd.func7, Tryd.ntmps7
  go_upto_region 1 with fail
  have e0 : (w.alloc (.cells (lnC 7 x) tRl)).alloc (.cells #[.int .i64 0, .int .i64 0, .int .i64 0, .string ⟨#[]⟩, .string ⟨#[]⟩, .bool false, .int .i64 0, .int .i64 0, .int .u8 0] tRl) = ((w.alloc (.cells (lnC 7 x) tRl)).alloc (.cells (lnC 0 st0) tRl)) := rfl
  rw [e0]
  clear e0
  generalize ((w.alloc (.cells (lnC 7 x) tRl)).alloc (.cells (lnC 0 st0) tRl)) = w0 at hA0 hA1 hAB hAz ⊢
  obtain ⟨c0, c1, c2, c3, c4, c5, c6, c7, c8⟩ := (hcc _ _ hA0.out).cells
  clear hcc hA0
  simp only at c0 c1 c2 c3 c4 c5 c6 c7 c8
  go_upto_region 2 with fail
  have e1 : w0.alloc (.cells #[.int .i64 7, .int .i64 0, .int .i64 0, .string ⟨#[]⟩, .string ⟨#[]⟩, .bool false, .int .i64 0, .int .i64 0, .int .u8 0] tRl) = w0.alloc (.cells (lnC 7 st0) tRl) := rfl
  rw [e1]
  clear e1
  have g1 : Hid (RlB (w0.alloc (.cells (lnC 7 st0) tRl)) (w.heap.size + 2) 7 st0) := by
    unfold Hid
    have := heap_alloc_new w0 (.cells (lnC 7 st0) tRl)
    rw [hAz] at this
    exact this
  have g0 : Hid (RlB (w0.alloc (.cells (lnC 7 st0) tRl)) (w.heap.size + 1) 0 st0) := hA1.out.below (by (repeat' (first | (with_reducible exact Below.refl _ _) | (with_reducible assumption) | (with_reducible refine Below.alloc ?_ ?_ _) | (with_reducible refine bel_drewN ?_ _) | (with_reducible refine Below.drew ?_) | (with_reducible refine Below.setCell ?_ ?_ _) | (with_reducible refine bel_call ‹_› ?_ ?_) | go_size)))
  have hAB1 : Hid (Below w.heap.size w (w0.alloc (.cells (lnC 7 st0) tRl))) := by unfold Hid; have := hAB.out; (repeat' (first | (with_reducible exact Below.refl _ _) | (with_reducible assumption) | (with_reducible refine Below.alloc ?_ ?_ _) | (with_reducible refine bel_drewN ?_ _) | (with_reducible refine Below.drew ?_) | (with_reducible refine Below.setCell ?_ ?_ _) | (with_reducible refine bel_call ‹_› ?_ ?_) | go_size))
  have q0 : (w0.alloc (.cells (lnC 7 st0) tRl)).cell? ⟨w.heap.size, 0, none⟩ = _ := (by go_simp : _ = w0.cell? ⟨w.heap.size, 0, none⟩).trans c0
  have q1 : (w0.alloc (.cells (lnC 7 st0) tRl)).cell? ⟨w.heap.size, 1, none⟩ = _ := (by go_simp : _ = w0.cell? ⟨w.heap.size, 1, none⟩).trans c1
  have q2 : (w0.alloc (.cells (lnC 7 st0) tRl)).cell? ⟨w.heap.size, 2, none⟩ = _ := (by go_simp : _ = w0.cell? ⟨w.heap.size, 2, none⟩).trans c2
  have q3 : (w0.alloc (.cells (lnC 7 st0) tRl)).cell? ⟨w.heap.size, 3, none⟩ = _ := (by go_simp : _ = w0.cell? ⟨w.heap.size, 3, none⟩).trans c3
  have q4 : (w0.alloc (.cells (lnC 7 st0) tRl)).cell? ⟨w.heap.size, 4, none⟩ = _ := (by go_simp : _ = w0.cell? ⟨w.heap.size, 4, none⟩).trans c4
  have q5 : (w0.alloc (.cells (lnC 7 st0) tRl)).cell? ⟨w.heap.size, 5, none⟩ = _ := (by go_simp : _ = w0.cell? ⟨w.heap.size, 5, none⟩).trans c5
  have q6 : (w0.alloc (.cells (lnC 7 st0) tRl)).cell? ⟨w.heap.size, 6, none⟩ = _ := (by go_simp : _ = w0.cell? ⟨w.heap.size, 6, none⟩).trans c6
  have q7 : (w0.alloc (.cells (lnC 7 st0) tRl)).cell? ⟨w.heap.size, 7, none⟩ = _ := (by go_simp : _ = w0.cell? ⟨w.heap.size, 7, none⟩).trans c7
  have q8 : (w0.alloc (.cells (lnC 7 st0) tRl)).cell? ⟨w.heap.size, 8, none⟩ = _ := (by go_simp : _ = w0.cell? ⟨w.heap.size, 8, none⟩).trans c8
  clear c0 c1 c2 c3 c4 c5 c6 c7 c8 hAz hA1 hAB
  generalize w0.alloc (.cells (lnC 7 st0) tRl) = w1 at g1 g0 hAB1 q0 q1 q2 q3 q4 q5 q6 q7 q8 ⊢
  obtain ⟨f0, f1, f2, f3, f4, f5, f6, f7, f8⟩ := g1.out.fz
  obtain ⟨p0, p1, p2, p3, p4, p5, p6, p7, p8⟩ := g1.out.cells
  go_upto_region 7 with fail
  clear q0 q1 q2 q3 q4 q5 q6 q7 q8 p0 p1 p2 p3 p4 p5 p6 p7 p8 f0 f1 f2 f3 f4 f5 f6 f7 f8
  have g2 : Hid (RlB (w1.setCell ⟨w.heap.size + 2, 2, none⟩ (.int .i64 who)) (w.heap.size + 2) 7 ⟨0, who, [], [], false, 0, 0, 0⟩) := (RlB.set2 g1.out who)
  have g3 : Hid (RlB (w1.setCell ⟨w.heap.size + 2, 2, none⟩ (.int .i64 who)) (w.heap.size + 1) 0 st0) := (RlB.other g0.out (by omega) _ _)
  have hAB2 : Hid (Below w.heap.size w (w1.setCell ⟨w.heap.size + 2, 2, none⟩ (.int .i64 who))) := by have := hAB1.out; unfold Hid; (repeat' (first | (with_reducible exact Below.refl _ _) | (with_reducible assumption) | (with_reducible refine Below.alloc ?_ ?_ _) | (with_reducible refine bel_drewN ?_ _) | (with_reducible refine Below.drew ?_) | (with_reducible refine Below.setCell ?_ ?_ _) | (with_reducible refine bel_call ‹_› ?_ ?_) | go_size))
  generalize (w1.setCell ⟨w.heap.size + 2, 2, none⟩ (.int .i64 who)) = w2 at g2 g3 hAB2 ⊢
  clear g1 g0 hAB1
  obtain ⟨c0, c1, c2, c3, c4, c5, c6, c7, c8⟩ := g2.out.cells
  obtain ⟨d0, d1, d2, d3, d4, d5, d6, d7, d8⟩ := g3.out.cells
  obtain ⟨f0, f1, f2, f3, f4, f5, f6, f7, f8⟩ := g3.out.fz
  simp only [st0] at c0 c1 c2 c3 c4 c5 c6 c7 c8
  go_wp2_with fail
  have gz : Hid (RlB (((((((((w2.setCell ⟨w.heap.size + 1, 0, none⟩ (.int .i64 7)).setCell ⟨w.heap.size + 1, 1, none⟩ (.int .i64 0)).setCell ⟨w.heap.size + 1, 2, none⟩ (.int .i64 who)).setCell ⟨w.heap.size + 1, 3, none⟩ (.string ⟨#[]⟩)).setCell ⟨w.heap.size + 1, 4, none⟩ (.string ⟨#[]⟩)).setCell ⟨w.heap.size + 1, 5, none⟩ (.bool false)).setCell ⟨w.heap.size + 1, 6, none⟩ (.int .i64 0)).setCell ⟨w.heap.size + 1, 7, none⟩ (.int .i64 0)).setCell ⟨w.heap.size + 1, 8, none⟩ (.int .u8 0)) (w.heap.size + 1) 7 ⟨0, who, [], [], false, 0, 0, 0⟩) := RlB.store g3.out 7 ⟨0, who, [], [], false, 0, 0, 0⟩
  have hBz : Hid (Below w.heap.size w (((((((((w2.setCell ⟨w.heap.size + 1, 0, none⟩ (.int .i64 7)).setCell ⟨w.heap.size + 1, 1, none⟩ (.int .i64 0)).setCell ⟨w.heap.size + 1, 2, none⟩ (.int .i64 who)).setCell ⟨w.heap.size + 1, 3, none⟩ (.string ⟨#[]⟩)).setCell ⟨w.heap.size + 1, 4, none⟩ (.string ⟨#[]⟩)).setCell ⟨w.heap.size + 1, 5, none⟩ (.bool false)).setCell ⟨w.heap.size + 1, 6, none⟩ (.int .i64 0)).setCell ⟨w.heap.size + 1, 7, none⟩ (.int .i64 0)).setCell ⟨w.heap.size + 1, 8, none⟩ (.int .u8 0))) := by have := hAB2.out; unfold Hid; (repeat' (first | (with_reducible exact Below.refl _ _) | (with_reducible assumption) | (with_reducible refine Below.alloc ?_ ?_ _) | (with_reducible refine bel_drewN ?_ _) | (with_reducible refine Below.drew ?_) | (with_reducible refine Below.setCell ?_ ?_ _) | (with_reducible refine bel_call ‹_› ?_ ?_) | go_size))
  clear c0 c1 c2 c3 c4 c5 c6 c7 c8 f0 f1 f2 f3 f4 f5 f6 f7 f8 d0 d1 d2 d3 d4 d5 d6 d7 d8
  generalize (((((((((w2.setCell ⟨w.heap.size + 1, 0, none⟩ (.int .i64 7)).setCell ⟨w.heap.size + 1, 1, none⟩ (.int .i64 0)).setCell ⟨w.heap.size + 1, 2, none⟩ (.int .i64 who)).setCell ⟨w.heap.size + 1, 3, none⟩ (.string ⟨#[]⟩)).setCell ⟨w.heap.size + 1, 4, none⟩ (.string ⟨#[]⟩)).setCell ⟨w.heap.size + 1, 5, none⟩ (.bool false)).setCell ⟨w.heap.size + 1, 6, none⟩ (.int .i64 0)).setCell ⟨w.heap.size + 1, 7, none⟩ (.int .i64 0)).setCell ⟨w.heap.size + 1, 8, none⟩ (.int .u8 0)) = wz at gz hBz ⊢
  obtain ⟨c0, c1, c2, c3, c4, c5, c6, c7, c8⟩ := gz.out.cells
  simp only at c0 c1 c2 c3 c4 c5 c6 c7 c8
  refine bodyPost_ret (v := .agg (lnC 7 ⟨0, who, [], [], false, 0, 0, 0⟩)) (by simp only [results, Tryd.results7]; go_simp; rfl) rfl ⟨rfl, by have := hBz.out; (repeat' (first | (with_reducible exact Below.refl _ _) | (with_reducible assumption) | (with_reducible refine Below.alloc ?_ ?_ _) | (with_reducible refine bel_drewN ?_ _) | (with_reducible refine Below.drew ?_) | (with_reducible refine Below.setCell ?_ ?_ _) | (with_reducible refine bel_call ‹_› ?_ ?_) | go_size))⟩

set_option maxRecDepth 100000 in
set_option maxHeartbeats 4000000 in
theorem plain_8 (k : Int) (who : Int) (cell text : Bs) (cols : Bool) (n tor bits : Int) (w : World) : Calls Tryd.prog 7 #[.agg (lnC 8 ⟨k, who, cell, text, cols, n, tor, bits⟩)] w fun e w' => e = .returned (.agg (lnC 8 ⟨0, who, [], [], false, 0, 0, 0⟩)) ∧ Below w.heap.size w w' := by
  obtain ⟨x, hx⟩ : ∃ x : Stp, ⟨k, who, cell, text, cols, n, tor, bits⟩ = x := ⟨_, rfl⟩
  have hcc : ∀ (w : World) b, RlB w b 8 x → RlB w b 8 ⟨k, who, cell, text, cols, n, tor, bits⟩ := by subst hx; exact fun _ _ h => h
  rw [hx]
  clear hx
  obtain ⟨hh0, hh1⟩ := two_new w (.cells (lnC 8 x) tRl) (.cells (lnC 0 st0) tRl)
  have hA0 : Hid (RlB ((w.alloc (.cells (lnC 8 x) tRl)).alloc (.cells (lnC 0 st0) tRl)) w.heap.size 8 x) := hh0
  have hA1 : Hid (RlB ((w.alloc (.cells (lnC 8 x) tRl)).alloc (.cells (lnC 0 st0) tRl)) (w.heap.size + 1) 0 st0) := hh1
  have hAB : Hid (Below w.heap.size w ((w.alloc (.cells (lnC 8 x) tRl)).alloc (.cells (lnC 0 st0) tRl))) := by unfold Hid; (repeat' (first | (with_reducible exact Below.refl _ _) | (with_reducible assumption) | (with_reducible refine Below.alloc ?_ ?_ _) | (with_reducible refine bel_drewN ?_ _) | (with_reducible refine Below.drew ?_) | (with_reducible refine Below.setCell ?_ ?_ _) | (with_reducible refine bel_call ‹_› ?_ ?_) | go_size))
  have hAz : ((w.alloc (.cells (lnC 8 x) tRl)).alloc (.cells (lnC 0 st0) tRl)).heap.size = w.heap.size + 2 := by simp
  clear hh0 hh1
  go_enter Tryd.func7, Tryd.ntmps7
  go_upto_region 1 with fail
  have e0 : (w.alloc (.cells (lnC 8 x) tRl)).alloc (.cells #[.int .i64 0, .int .i64 0, .int .i64 0, .string ⟨#[]⟩, .string ⟨#[]⟩, .bool false, .int .i64 0, .int .i64 0, .int .u8 0] tRl) = ((w.alloc (.cells (lnC 8 x) tRl)).alloc (.cells (lnC 0 st0) tRl)) := rfl
  rw [e0]
  clear e0
  generalize ((w.alloc (.cells (lnC 8 x) tRl)).alloc (.cells (lnC 0 st0) tRl)) = w0 at hA0 hA1 hAB hAz ⊢
  obtain ⟨c0, c1, c2, c3, c4, c5, c6, c7, c8⟩ := (hcc _ _ hA0.out).cells
  clear hcc hA0
  simp only at c0 c1 c2 c3 c4 c5 c6 c7 c8
  go_upto_region 2 with fail
  have e1 : w0.alloc (.cells #[.int .i64 8, .int .i64 0, .int .i64 0, .string ⟨#[]⟩, .string ⟨#[]⟩, .bool false, .int .i64 0, .int .i64 0, .int .u8 0] tRl) = w0.alloc (.cells (lnC 8 st0) tRl) := rfl
  rw [e1]
  clear e1
  have g1 : Hid (RlB (w0.alloc (.cells (lnC 8 st0) tRl)) (w.heap.size + 2) 8 st0) := by
    unfold Hid
    have := heap_alloc_new w0 (.cells (lnC 8 st0) tRl)
    rw [hAz] at this
    exact this
  have g0 : Hid (RlB (w0.alloc (.cells (lnC 8 st0) tRl)) (w.heap.size + 1) 0 st0) := hA1.out.below (by (repeat' (first | (with_reducible exact Below.refl _ _) | (with_reducible assumption) | (with_reducible refine Below.alloc ?_ ?_ _) | (with_reducible refine bel_drewN ?_ _) | (with_reducible refine Below.drew ?_) | (with_reducible refine Below.setCell ?_ ?_ _) | (with_reducible refine bel_call ‹_› ?_ ?_) | go_size)))
  have hAB1 : Hid (Below w.heap.size w (w0.alloc (.cells (lnC 8 st0) tRl))) := by unfold Hid; have := hAB.out; (repeat' (first | (with_reducible exact Below.refl _ _) | (with_reducible assumption) | (with_reducible refine Below.alloc ?_ ?_ _) | (with_reducible refine bel_drewN ?_ _) | (with_reducible refine Below.drew ?_) | (with_reducible refine Below.setCell ?_ ?_ _) | (with_reducible refine bel_call ‹_› ?_ ?_) | go_size))
  have q0 : (w0.alloc (.cells (lnC 8 st0) tRl)).cell? ⟨w.heap.size, 0, none⟩ = _ := (by go_simp : _ = w0.cell? ⟨w.heap.size, 0, none⟩).trans c0
  have q1 : (w0.alloc (.cells (lnC 8 st0) tRl)).cell? ⟨w.heap.size, 1, none⟩ = _ := (by go_simp : _ = w0.cell? ⟨w.heap.size, 1, none⟩).trans c1
  have q2 : (w0.alloc (.cells (lnC 8 st0) tRl)).cell? ⟨w.heap.size, 2, none⟩ = _ := (by go_simp : _ = w0.cell? ⟨w.heap.size, 2, none⟩).trans c2
  have q3 : (w0.alloc (.cells (lnC 8 st0) tRl)).cell? ⟨w.heap.size, 3, none⟩ = _ := (by go_simp : _ = w0.cell? ⟨w.heap.size, 3, none⟩).trans c3
  have q4 : (w0.alloc (.cells (lnC 8 st0) tRl)).cell? ⟨w.heap.size, 4, none⟩ = _ := (by go_simp : _ = w0.cell? ⟨w.heap.size, 4, none⟩).trans c4
  have q5 : (w0.alloc (.cells (lnC 8 st0) tRl)).cell? ⟨w.heap.size, 5, none⟩ = _ := (by go_simp : _ = w0.cell? ⟨w.heap.size, 5, none⟩).trans c5
  have q6 : (w0.alloc (.cells (lnC 8 st0) tRl)).cell? ⟨w.heap.size, 6, none⟩ = _ := (by go_simp : _ = w0.cell? ⟨w.heap.size, 6, none⟩).trans c6
  have q7 : (w0.alloc (.cells (lnC 8 st0) tRl)).cell? ⟨w.heap.size, 7, none⟩ = _ := (by go_simp : _ = w0.cell? ⟨w.heap.size, 7, none⟩).trans c7
  have q8 : (w0.alloc (.cells (lnC 8 st0) tRl)).cell? ⟨w.heap.size, 8, none⟩ = _ := (by go_simp : _ = w0.cell? ⟨w.heap.size, 8, none⟩).trans c8
  clear c0 c1 c2 c3 c4 c5 c6 c7 c8 hAz hA1 hAB
  generalize w0.alloc (.cells (lnC 8 st0) tRl) = w1 at g1 g0 hAB1 q0 q1 q2 q3 q4 q5 q6 q7 q8 ⊢
  obtain ⟨f0, f1, f2, f3, f4, f5, f6, f7, f8⟩ := g1.out.fz
  obtain ⟨p0, p1, p2, p3, p4, p5, p6, p7, p8⟩ := g1.out.cells
  go_upto_region 7 with fail
  clear q0 q1 q2 q3 q4 q5 q6 q7 q8 p0 p1 p2 p3 p4 p5 p6 p7 p8 f0 f1 f2 f3 f4 f5 f6 f7 f8
  have g2 : Hid (RlB (w1.setCell ⟨w.heap.size + 2, 2, none⟩ (.int .i64 who)) (w.heap.size + 2) 8 ⟨0, who, [], [], false, 0, 0, 0⟩) := (RlB.set2 g1.out who)
  have g3 : Hid (RlB (w1.setCell ⟨w.heap.size + 2, 2, none⟩ (.int .i64 who)) (w.heap.size + 1) 0 st0) := (RlB.other g0.out (by omega) _ _)
  have hAB2 : Hid (Below w.heap.size w (w1.setCell ⟨w.heap.size + 2, 2, none⟩ (.int .i64 who))) := by have := hAB1.out; unfold Hid; (repeat' (first | (with_reducible exact Below.refl _ _) | (with_reducible assumption) | (with_reducible refine Below.alloc ?_ ?_ _) | (with_reducible refine bel_drewN ?_ _) | (with_reducible refine Below.drew ?_) | (with_reducible refine Below.setCell ?_ ?_ _) | (with_reducible refine bel_call ‹_› ?_ ?_) | go_size))
  generalize (w1.setCell ⟨w.heap.size + 2, 2, none⟩ (.int .i64 who)) = w2 at g2 g3 hAB2 ⊢
  clear g1 g0 hAB1
  obtain ⟨c0, c1, c2, c3, c4, c5, c6, c7, c8⟩ := g2.out.cells
  obtain ⟨d0, d1, d2, d3, d4, d5, d6, d7, d8⟩ := g3.out.cells
  obtain ⟨f0, f1, f2, f3, f4, f5, f6, f7, f8⟩ := g3.out.fz
  simp only [st0] at c0 c1 c2 c3 c4 c5 c6 c7 c8
  go_wp2_with fail
  have gz : Hid (RlB (((((((((w2.setCell ⟨w.heap.size + 1, 0, none⟩ (.int .i64 8)).setCell ⟨w.heap.size + 1, 1, none⟩ (.int .i64 0)).setCell ⟨w.heap.size + 1, 2, none⟩ (.int .i64 who)).setCell ⟨w.heap.size + 1, 3, none⟩ (.string ⟨#[]⟩)).setCell ⟨w.heap.size + 1, 4, none⟩ (.string ⟨#[]⟩)).setCell ⟨w.heap.size + 1, 5, none⟩ (.bool false)).setCell ⟨w.heap.size + 1, 6, none⟩ (.int .i64 0)).setCell ⟨w.heap.size + 1, 7, none⟩ (.int .i64 0)).setCell ⟨w.heap.size + 1, 8, none⟩ (.int .u8 0)) (w.heap.size + 1) 8 ⟨0, who, [], [], false, 0, 0, 0⟩) := RlB.store g3.out 8 ⟨0, who, [], [], false, 0, 0, 0⟩
  have hBz : Hid (Below w.heap.size w (((((((((w2.setCell ⟨w.heap.size + 1, 0, none⟩ (.int .i64 8)).setCell ⟨w.heap.size + 1, 1, none⟩ (.int .i64 0)).setCell ⟨w.heap.size + 1, 2, none⟩ (.int .i64 who)).setCell ⟨w.heap.size + 1, 3, none⟩ (.string ⟨#[]⟩)).setCell ⟨w.heap.size + 1, 4, none⟩ (.string ⟨#[]⟩)).setCell ⟨w.heap.size + 1, 5, none⟩ (.bool false)).setCell ⟨w.heap.size + 1, 6, none⟩ (.int .i64 0)).setCell ⟨w.heap.size + 1, 7, none⟩ (.int .i64 0)).setCell ⟨w.heap.size + 1, 8, none⟩ (.int .u8 0))) := by have := hAB2.out; unfold Hid; (repeat' (first | (with_reducible exact Below.refl _ _) | (with_reducible assumption) | (with_reducible refine Below.alloc ?_ ?_ _) | (with_reducible refine bel_drewN ?_ _) | (with_reducible refine Below.drew ?_) | (with_reducible refine Below.setCell ?_ ?_ _) | (with_reducible refine bel_call ‹_› ?_ ?_) | go_size))
  clear c0 c1 c2 c3 c4 c5 c6 c7 c8 f0 f1 f2 f3 f4 f5 f6 f7 f8 d0 d1 d2 d3 d4 d5 d6 d7 d8
  generalize (((((((((w2.setCell ⟨w.heap.size + 1, 0, none⟩ (.int .i64 8)).setCell ⟨w.heap.size + 1, 1, none⟩ (.int .i64 0)).setCell ⟨w.heap.size + 1, 2, none⟩ (.int .i64 who)).setCell ⟨w.heap.size + 1, 3, none⟩ (.string ⟨#[]⟩)).setCell ⟨w.heap.size + 1, 4, none⟩ (.string ⟨#[]⟩)).setCell ⟨w.heap.size + 1, 5, none⟩ (.bool false)).setCell ⟨w.heap.size + 1, 6, none⟩ (.int .i64 0)).setCell ⟨w.heap.size + 1, 7, none⟩ (.int .i64 0)).setCell ⟨w.heap.size + 1, 8, none⟩ (.int .u8 0)) = wz at gz hBz ⊢
  obtain ⟨c0, c1, c2, c3, c4, c5, c6, c7, c8⟩ := gz.out.cells
  simp only at c0 c1 c2 c3 c4 c5 c6 c7 c8
  refine bodyPost_ret (v := .agg (lnC 8 ⟨0, who, [], [], false, 0, 0, 0⟩)) (by simp only [results, Tryd.results7]; go_simp; rfl) rfl ⟨rfl, by have := hBz.out; (repeat' (first | (with_reducible exact Below.refl _ _) | (with_reducible assumption) | (with_reducible refine Below.alloc ?_ ?_ _) | (with_reducible refine bel_drewN ?_ _) | (with_reducible refine Below.drew ?_) | (with_reducible refine Below.setCell ?_ ?_ _) | (with_reducible refine bel_call ‹_› ?_ ?_) | go_size))⟩

set_option maxRecDepth 100000 in
set_option maxHeartbeats 4000000 in
theorem plain_9 (k : Int) (who : Int) (cell text : Bs) (cols : Bool) (n tor bits : Int) (w : World) : Calls Tryd.prog 7 #[.agg (lnC 9 ⟨k, who, cell, text, cols, n, tor, bits⟩)] w fun e w' => e = .returned (.agg (lnC 9 ⟨0, 0, [], [], false, 0, 0, 0⟩)) ∧ Below w.heap.size w w' := by
  obtain ⟨x, hx⟩ : ∃ x : Stp, ⟨k, who, cell, text, cols, n, tor, bits⟩ = x := ⟨_, rfl⟩
  have hcc : ∀ (w : World) b, RlB w b 9 x → RlB w b 9 ⟨k, who, cell, text, cols, n, tor, bits⟩ := by subst hx; exact fun _ _ h => h
  rw [hx]
  clear hx
  obtain ⟨hh0, hh1⟩ := two_new w (.cells (lnC 9 x) tRl) (.cells (lnC 0 st0) tRl)
  have hA0 : Hid (RlB ((w.alloc (.cells (lnC 9 x) tRl)).alloc (.cells (lnC 0 st0) tRl)) w.heap.size 9 x) := hh0
  have hA1 : Hid (RlB ((w.alloc (.cells (lnC 9 x) tRl)).alloc (.cells (lnC 0 st0) tRl)) (w.heap.size + 1) 0 st0) := hh1
  have hAB : Hid (Below w.heap.size w ((w.alloc (.cells (lnC 9 x) tRl)).alloc (.cells (lnC 0 st0) tRl))) := by unfold Hid; (repeat' (first | (with_reducible exact Below.refl _ _) | (with_reducible assumption) | (with_reducible refine Below.alloc ?_ ?_ _) | (with_reducible refine bel_drewN ?_ _) | (with_reducible refine Below.drew ?_) | (with_reducible refine Below.setCell ?_ ?_ _) | (with_reducible refine bel_call ‹_› ?_ ?_) | go_size))
  have hAz : ((w.alloc (.cells (lnC 9 x) tRl)).alloc (.cells (lnC 0 st0) tRl)).heap.size = w.heap.size + 2 := by simp
  clear hh0 hh1
  go_enter Tryd.func7, Tryd.ntmps7
  go_upto_region 1 with fail
  have e0 : (w.alloc (.cells (lnC 9 x) tRl)).alloc (.cells #[.int .i64 0, .int .i64 0, .int .i64 0, .string ⟨#[]⟩, .string ⟨#[]⟩, .bool false, .int .i64 0, .int .i64 0, .int .u8 0] tRl) = ((w.alloc (.cells (lnC 9 x) tRl)).alloc (.cells (lnC 0 st0) tRl)) := rfl
  rw [e0]
  clear e0
  generalize ((w.alloc (.cells (lnC 9 x) tRl)).alloc (.cells (lnC 0 st0) tRl)) = w0 at hA0 hA1 hAB hAz ⊢
  obtain ⟨c0, c1, c2, c3, c4, c5, c6, c7, c8⟩ := (hcc _ _ hA0.out).cells
  clear hcc hA0
  simp only at c0 c1 c2 c3 c4 c5 c6 c7 c8
  go_upto_region 2 with fail
  have e1 : w0.alloc (.cells #[.int .i64 9, .int .i64 0, .int .i64 0, .string ⟨#[]⟩, .string ⟨#[]⟩, .bool false, .int .i64 0, .int .i64 0, .int .u8 0] tRl) = w0.alloc (.cells (lnC 9 st0) tRl) := rfl
  rw [e1]
  clear e1
  have g1 : Hid (RlB (w0.alloc (.cells (lnC 9 st0) tRl)) (w.heap.size + 2) 9 st0) := by
    unfold Hid
    have := heap_alloc_new w0 (.cells (lnC 9 st0) tRl)
    rw [hAz] at this
    exact this
  have g0 : Hid (RlB (w0.alloc (.cells (lnC 9 st0) tRl)) (w.heap.size + 1) 0 st0) := hA1.out.below (by (repeat' (first | (with_reducible exact Below.refl _ _) | (with_reducible assumption) | (with_reducible refine Below.alloc ?_ ?_ _) | (with_reducible refine bel_drewN ?_ _) | (with_reducible refine Below.drew ?_) | (with_reducible refine Below.setCell ?_ ?_ _) | (with_reducible refine bel_call ‹_› ?_ ?_) | go_size)))
  have hAB1 : Hid (Below w.heap.size w (w0.alloc (.cells (lnC 9 st0) tRl))) := by unfold Hid; have := hAB.out; (repeat' (first | (with_reducible exact Below.refl _ _) | (with_reducible assumption) | (with_reducible refine Below.alloc ?_ ?_ _) | (with_reducible refine bel_drewN ?_ _) | (with_reducible refine Below.drew ?_) | (with_reducible refine Below.setCell ?_ ?_ _) | (with_reducible refine bel_call ‹_› ?_ ?_) | go_size))
  have q0 : (w0.alloc (.cells (lnC 9 st0) tRl)).cell? ⟨w.heap.size, 0, none⟩ = _ := (by go_simp : _ = w0.cell? ⟨w.heap.size, 0, none⟩).trans c0
  have q1 : (w0.alloc (.cells (lnC 9 st0) tRl)).cell? ⟨w.heap.size, 1, none⟩ = _ := (by go_simp : _ = w0.cell? ⟨w.heap.size, 1, none⟩).trans c1
  have q2 : (w0.alloc (.cells (lnC 9 st0) tRl)).cell? ⟨w.heap.size, 2, none⟩ = _ := (by go_simp : _ = w0.cell? ⟨w.heap.size, 2, none⟩).trans c2
  have q3 : (w0.alloc (.cells (lnC 9 st0) tRl)).cell? ⟨w.heap.size, 3, none⟩ = _ := (by go_simp : _ = w0.cell? ⟨w.heap.size, 3, none⟩).trans c3
  have q4 : (w0.alloc (.cells (lnC 9 st0) tRl)).cell? ⟨w.heap.size, 4, none⟩ = _ := (by go_simp : _ = w0.cell? ⟨w.heap.size, 4, none⟩).trans c4
  have q5 : (w0.alloc (.cells (lnC 9 st0) tRl)).cell? ⟨w.heap.size, 5, none⟩ = _ := (by go_simp : _ = w0.cell? ⟨w.heap.size, 5, none⟩).trans c5
  have q6 : (w0.alloc (.cells (lnC 9 st0) tRl)).cell? ⟨w.heap.size, 6, none⟩ = _ := (by go_simp : _ = w0.cell? ⟨w.heap.size, 6, none⟩).trans c6
  have q7 : (w0.alloc (.cells (lnC 9 st0) tRl)).cell? ⟨w.heap.size, 7, none⟩ = _ := (by go_simp : _ = w0.cell? ⟨w.heap.size, 7, none⟩).trans c7
  have q8 : (w0.alloc (.cells (lnC 9 st0) tRl)).cell? ⟨w.heap.size, 8, none⟩ = _ := (by go_simp : _ = w0.cell? ⟨w.heap.size, 8, none⟩).trans c8
  clear c0 c1 c2 c3 c4 c5 c6 c7 c8 hAz hA1 hAB
  generalize w0.alloc (.cells (lnC 9 st0) tRl) = w1 at g1 g0 hAB1 q0 q1 q2 q3 q4 q5 q6 q7 q8 ⊢
  go_upto_region 7 with fail
  clear q0 q1 q2 q3 q4 q5 q6 q7 q8
  obtain ⟨c0, c1, c2, c3, c4, c5, c6, c7, c8⟩ := g1.out.cells
  obtain ⟨d0, d1, d2, d3, d4, d5, d6, d7, d8⟩ := g0.out.cells
  obtain ⟨f0, f1, f2, f3, f4, f5, f6, f7, f8⟩ := g0.out.fz
  simp only [st0] at c0 c1 c2 c3 c4 c5 c6 c7 c8
  go_wp2_with fail
  have gz : Hid (RlB (((((((((w1.setCell ⟨w.heap.size + 1, 0, none⟩ (.int .i64 9)).setCell ⟨w.heap.size + 1, 1, none⟩ (.int .i64 0)).setCell ⟨w.heap.size + 1, 2, none⟩ (.int .i64 0)).setCell ⟨w.heap.size + 1, 3, none⟩ (.string ⟨#[]⟩)).setCell ⟨w.heap.size + 1, 4, none⟩ (.string ⟨#[]⟩)).setCell ⟨w.heap.size + 1, 5, none⟩ (.bool false)).setCell ⟨w.heap.size + 1, 6, none⟩ (.int .i64 0)).setCell ⟨w.heap.size + 1, 7, none⟩ (.int .i64 0)).setCell ⟨w.heap.size + 1, 8, none⟩ (.int .u8 0)) (w.heap.size + 1) 9 ⟨0, 0, [], [], false, 0, 0, 0⟩) := RlB.store g0.out 9 ⟨0, 0, [], [], false, 0, 0, 0⟩
  have hBz : Hid (Below w.heap.size w (((((((((w1.setCell ⟨w.heap.size + 1, 0, none⟩ (.int .i64 9)).setCell ⟨w.heap.size + 1, 1, none⟩ (.int .i64 0)).setCell ⟨w.heap.size + 1, 2, none⟩ (.int .i64 0)).setCell ⟨w.heap.size + 1, 3, none⟩ (.string ⟨#[]⟩)).setCell ⟨w.heap.size + 1, 4, none⟩ (.string ⟨#[]⟩)).setCell ⟨w.heap.size + 1, 5, none⟩ (.bool false)).setCell ⟨w.heap.size + 1, 6, none⟩ (.int .i64 0)).setCell ⟨w.heap.size + 1, 7, none⟩ (.int .i64 0)).setCell ⟨w.heap.size + 1, 8, none⟩ (.int .u8 0))) := by have := hAB1.out; unfold Hid; (repeat' (first | (with_reducible exact Below.refl _ _) | (with_reducible assumption) | (with_reducible refine Below.alloc ?_ ?_ _) | (with_reducible refine bel_drewN ?_ _) | (with_reducible refine Below.drew ?_) | (with_reducible refine Below.setCell ?_ ?_ _) | (with_reducible refine bel_call ‹_› ?_ ?_) | go_size))
  clear c0 c1 c2 c3 c4 c5 c6 c7 c8 f0 f1 f2 f3 f4 f5 f6 f7 f8 d0 d1 d2 d3 d4 d5 d6 d7 d8
  generalize (((((((((w1.setCell ⟨w.heap.size + 1, 0, none⟩ (.int .i64 9)).setCell ⟨w.heap.size + 1, 1, none⟩ (.int .i64 0)).setCell ⟨w.heap.size + 1, 2, none⟩ (.int .i64 0)).setCell ⟨w.heap.size + 1, 3, none⟩ (.string ⟨#[]⟩)).setCell ⟨w.heap.size + 1, 4, none⟩ (.string ⟨#[]⟩)).setCell ⟨w.heap.size + 1, 5, none⟩ (.bool false)).setCell ⟨w.heap.size + 1, 6, none⟩ (.int .i64 0)).setCell ⟨w.heap.size + 1, 7, none⟩ (.int .i64 0)).setCell ⟨w.heap.size + 1, 8, none⟩ (.int .u8 0)) = wz at gz hBz ⊢
  obtain ⟨c0, c1, c2, c3, c4, c5, c6, c7, c8⟩ := gz.out.cells
  simp only at c0 c1 c2 c3 c4 c5 c6 c7 c8
  refine bodyPost_ret (v := .agg (lnC 9 ⟨0, 0, [], [], false, 0, 0, 0⟩)) (by simp only [results, Tryd.results7]; go_simp; rfl) rfl ⟨rfl, by have := hBz.out; (repeat' (first | (with_reducible exact Below.refl _ _) | (with_reducible assumption) | (with_reducible refine Below.alloc ?_ ?_ _) | (with_reducible refine bel_drewN ?_ _) | (with_reducible refine Below.drew ?_) | (with_reducible refine Below.setCell ?_ ?_ _) | (with_reducible refine bel_call ‹_› ?_ ?_) | go_size))⟩

set_option maxRecDepth 100000 in
set_option maxHeartbeats 4000000 in
theorem plain_1_0 (who : Int) (cell text : Bs) (cols : Bool) (n tor bits : Int) (w : World) : Calls Tryd.prog 7 #[.agg (lnC 1 ⟨0, who, cell, text, cols, n, tor, bits⟩)] w fun e w' => e = .returned (.agg (lnC 1 ⟨0, who, cell, text, false, 0, 0, 0⟩)) ∧ Below w.heap.size w w' := by
  obtain ⟨x, hx⟩ : ∃ x : Stp, ⟨0, who, cell, text, cols, n, tor, bits⟩ = x := ⟨_, rfl⟩
  have hcc : ∀ (w : World) b, RlB w b 1 x → RlB w b 1 ⟨0, who, cell, text, cols, n, tor, bits⟩ := by subst hx; exact fun _ _ h => h
  rw [hx]
  clear hx
  obtain ⟨hh0, hh1⟩ := two_new w (.cells (lnC 1 x) tRl) (.cells (lnC 0 st0) tRl)
  have hA0 : Hid (RlB ((w.alloc (.cells (lnC 1 x) tRl)).alloc (.cells (lnC 0 st0) tRl)) w.heap.size 1 x) := hh0
  have hA1 : Hid (RlB ((w.alloc (.cells (lnC 1 x) tRl)).alloc (.cells (lnC 0 st0) tRl)) (w.heap.size + 1) 0 st0) := hh1
  have hAB : Hid (Below w.heap.size w ((w.alloc (.cells (lnC 1 x) tRl)).alloc (.cells (lnC 0 st0) tRl))) := by unfold Hid; (repeat' (first | (with_reducible exact Below.refl _ _) | (with_reducible assumption) | (with_reducible refine Below.alloc ?_ ?_ _) | (with_reducible refine bel_drewN ?_ _) | (with_reducible refine Below.drew ?_) | (with_reducible refine Below.setCell ?_ ?_ _) | (with_reducible refine bel_call ‹_› ?_ ?_) | go_size))
  have hAz : ((w.alloc (.cells (lnC 1 x) tRl)).alloc (.cells (lnC 0 st0) tRl)).heap.size = w.heap.size + 2 := by simp
  clear hh0 hh1
  go_enter Tryd.func7, Tryd.ntmps7
  go_upto_region 1 with fail
  have e0 : (w.alloc (.cells (lnC 1 x) tRl)).alloc (.cells #[.int .i64 0, .int .i64 0, .int .i64 0, .string ⟨#[]⟩, .string ⟨#[]⟩, .bool false, .int .i64 0, .int .i64 0, .int .u8 0] tRl) = ((w.alloc (.cells (lnC 1 x) tRl)).alloc (.cells (lnC 0 st0) tRl)) := rfl
  rw [e0]
  clear e0
  generalize ((w.alloc (.cells (lnC 1 x) tRl)).alloc (.cells (lnC 0 st0) tRl)) = w0 at hA0 hA1 hAB hAz ⊢
  obtain ⟨c0, c1, c2, c3, c4, c5, c6, c7, c8⟩ := (hcc _ _ hA0.out).cells
  clear hcc hA0
  simp only at c0 c1 c2 c3 c4 c5 c6 c7 c8
  go_upto_region 2 with fail
  have e1 : w0.alloc (.cells #[.int .i64 1, .int .i64 0, .int .i64 0, .string ⟨#[]⟩, .string ⟨#[]⟩, .bool false, .int .i64 0, .int .i64 0, .int .u8 0] tRl) = w0.alloc (.cells (lnC 1 st0) tRl) := rfl
  rw [e1]
  clear e1
  have g1 : Hid (RlB (w0.alloc (.cells (lnC 1 st0) tRl)) (w.heap.size + 2) 1 st0) := by
    unfold Hid
    have := heap_alloc_new w0 (.cells (lnC 1 st0) tRl)
    rw [hAz] at this
    exact this
  have g0 : Hid (RlB (w0.alloc (.cells (lnC 1 st0) tRl)) (w.heap.size + 1) 0 st0) := hA1.out.below (by (repeat' (first | (with_reducible exact Below.refl _ _) | (with_reducible assumption) | (with_reducible refine Below.alloc ?_ ?_ _) | (with_reducible refine bel_drewN ?_ _) | (with_reducible refine Below.drew ?_) | (with_reducible refine Below.setCell ?_ ?_ _) | (with_reducible refine bel_call ‹_› ?_ ?_) | go_size)))
  have hAB1 : Hid (Below w.heap.size w (w0.alloc (.cells (lnC 1 st0) tRl))) := by unfold Hid; have := hAB.out; (repeat' (first | (with_reducible exact Below.refl _ _) | (with_reducible assumption) | (with_reducible refine Below.alloc ?_ ?_ _) | (with_reducible refine bel_drewN ?_ _) | (with_reducible refine Below.drew ?_) | (with_reducible refine Below.setCell ?_ ?_ _) | (with_reducible refine bel_call ‹_› ?_ ?_) | go_size))
  have q0 : (w0.alloc (.cells (lnC 1 st0) tRl)).cell? ⟨w.heap.size, 0, none⟩ = _ := (by go_simp : _ = w0.cell? ⟨w.heap.size, 0, none⟩).trans c0
  have q1 : (w0.alloc (.cells (lnC 1 st0) tRl)).cell? ⟨w.heap.size, 1, none⟩ = _ := (by go_simp : _ = w0.cell? ⟨w.heap.size, 1, none⟩).trans c1
  have q2 : (w0.alloc (.cells (lnC 1 st0) tRl)).cell? ⟨w.heap.size, 2, none⟩ = _ := (by go_simp : _ = w0.cell? ⟨w.heap.size, 2, none⟩).trans c2
  have q3 : (w0.alloc (.cells (lnC 1 st0) tRl)).cell? ⟨w.heap.size, 3, none⟩ = _ := (by go_simp : _ = w0.cell? ⟨w.heap.size, 3, none⟩).trans c3
  have q4 : (w0.alloc (.cells (lnC 1 st0) tRl)).cell? ⟨w.heap.size, 4, none⟩ = _ := (by go_simp : _ = w0.cell? ⟨w.heap.size, 4, none⟩).trans c4
  have q5 : (w0.alloc (.cells (lnC 1 st0) tRl)).cell? ⟨w.heap.size, 5, none⟩ = _ := (by go_simp : _ = w0.cell? ⟨w.heap.size, 5, none⟩).trans c5
  have q6 : (w0.alloc (.cells (lnC 1 st0) tRl)).cell? ⟨w.heap.size, 6, none⟩ = _ := (by go_simp : _ = w0.cell? ⟨w.heap.size, 6, none⟩).trans c6
  have q7 : (w0.alloc (.cells (lnC 1 st0) tRl)).cell? ⟨w.heap.size, 7, none⟩ = _ := (by go_simp : _ = w0.cell? ⟨w.heap.size, 7, none⟩).trans c7
  have q8 : (w0.alloc (.cells (lnC 1 st0) tRl)).cell? ⟨w.heap.size, 8, none⟩ = _ := (by go_simp : _ = w0.cell? ⟨w.heap.size, 8, none⟩).trans c8
  clear c0 c1 c2 c3 c4 c5 c6 c7 c8 hAz hA1 hAB
  generalize w0.alloc (.cells (lnC 1 st0) tRl) = w1 at g1 g0 hAB1 q0 q1 q2 q3 q4 q5 q6 q7 q8 ⊢
  obtain ⟨f0, f1, f2, f3, f4, f5, f6, f7, f8⟩ := g1.out.fz
  obtain ⟨p0, p1, p2, p3, p4, p5, p6, p7, p8⟩ := g1.out.cells
  go_upto_region 13 with fail
  go_region
  all_goals
    go_upto_region 22 with fail
    clear q0 q1 q2 q3 q4 q5 q6 q7 q8 p0 p1 p2 p3 p4 p5 p6 p7 p8 f0 f1 f2 f3 f4 f5 f6 f7 f8
    have g2 : Hid (RlB ((((w1.setCell ⟨w.heap.size + 2, 1, none⟩ (.int .i64 0)).setCell ⟨w.heap.size + 2, 2, none⟩ (.int .i64 who)).setCell ⟨w.heap.size + 2, 3, none⟩ (.string ⟨cell.toArray⟩)).setCell ⟨w.heap.size + 2, 4, none⟩ (.string ⟨text.toArray⟩)) (w.heap.size + 2) 1 ⟨0, who, cell, text, false, 0, 0, 0⟩) := (RlB.set4 (RlB.set3 (RlB.set2 (RlB.set1 g1.out 0) who) cell) text)
    have g3 : Hid (RlB ((((w1.setCell ⟨w.heap.size + 2, 1, none⟩ (.int .i64 0)).setCell ⟨w.heap.size + 2, 2, none⟩ (.int .i64 who)).setCell ⟨w.heap.size + 2, 3, none⟩ (.string ⟨cell.toArray⟩)).setCell ⟨w.heap.size + 2, 4, none⟩ (.string ⟨text.toArray⟩)) (w.heap.size + 1) 0 st0) := (RlB.other (RlB.other (RlB.other (RlB.other g0.out (by omega) _ _) (by omega) _ _) (by omega) _ _) (by omega) _ _)
    have hAB2 : Hid (Below w.heap.size w ((((w1.setCell ⟨w.heap.size + 2, 1, none⟩ (.int .i64 0)).setCell ⟨w.heap.size + 2, 2, none⟩ (.int .i64 who)).setCell ⟨w.heap.size + 2, 3, none⟩ (.string ⟨cell.toArray⟩)).setCell ⟨w.heap.size + 2, 4, none⟩ (.string ⟨text.toArray⟩))) := by have := hAB1.out; unfold Hid; (repeat' (first | (with_reducible exact Below.refl _ _) | (with_reducible assumption) | (with_reducible refine Below.alloc ?_ ?_ _) | (with_reducible refine bel_drewN ?_ _) | (with_reducible refine Below.drew ?_) | (with_reducible refine Below.setCell ?_ ?_ _) | (with_reducible refine bel_call ‹_› ?_ ?_) | go_size))
    generalize ((((w1.setCell ⟨w.heap.size + 2, 1, none⟩ (.int .i64 0)).setCell ⟨w.heap.size + 2, 2, none⟩ (.int .i64 who)).setCell ⟨w.heap.size + 2, 3, none⟩ (.string ⟨cell.toArray⟩)).setCell ⟨w.heap.size + 2, 4, none⟩ (.string ⟨text.toArray⟩)) = w2 at g2 g3 hAB2 ⊢
    clear g1 g0 hAB1
    obtain ⟨c0, c1, c2, c3, c4, c5, c6, c7, c8⟩ := g2.out.cells
    obtain ⟨d0, d1, d2, d3, d4, d5, d6, d7, d8⟩ := g3.out.cells
    obtain ⟨f0, f1, f2, f3, f4, f5, f6, f7, f8⟩ := g3.out.fz
    simp only [st0] at c0 c1 c2 c3 c4 c5 c6 c7 c8
    go_wp2_with fail
    have gz : Hid (RlB (((((((((w2.setCell ⟨w.heap.size + 1, 0, none⟩ (.int .i64 1)).setCell ⟨w.heap.size + 1, 1, none⟩ (.int .i64 0)).setCell ⟨w.heap.size + 1, 2, none⟩ (.int .i64 who)).setCell ⟨w.heap.size + 1, 3, none⟩ (.string ⟨cell.toArray⟩)).setCell ⟨w.heap.size + 1, 4, none⟩ (.string ⟨text.toArray⟩)).setCell ⟨w.heap.size + 1, 5, none⟩ (.bool false)).setCell ⟨w.heap.size + 1, 6, none⟩ (.int .i64 0)).setCell ⟨w.heap.size + 1, 7, none⟩ (.int .i64 0)).setCell ⟨w.heap.size + 1, 8, none⟩ (.int .u8 0)) (w.heap.size + 1) 1 ⟨0, who, cell, text, false, 0, 0, 0⟩) := RlB.store g3.out 1 ⟨0, who, cell, text, false, 0, 0, 0⟩
    have hBz : Hid (Below w.heap.size w (((((((((w2.setCell ⟨w.heap.size + 1, 0, none⟩ (.int .i64 1)).setCell ⟨w.heap.size + 1, 1, none⟩ (.int .i64 0)).setCell ⟨w.heap.size + 1, 2, none⟩ (.int .i64 who)).setCell ⟨w.heap.size + 1, 3, none⟩ (.string ⟨cell.toArray⟩)).setCell ⟨w.heap.size + 1, 4, none⟩ (.string ⟨text.toArray⟩)).setCell ⟨w.heap.size + 1, 5, none⟩ (.bool false)).setCell ⟨w.heap.size + 1, 6, none⟩ (.int .i64 0)).setCell ⟨w.heap.size + 1, 7, none⟩ (.int .i64 0)).setCell ⟨w.heap.size + 1, 8, none⟩ (.int .u8 0))) := by have := hAB2.out; unfold Hid; (repeat' (first | (with_reducible exact Below.refl _ _) | (with_reducible assumption) | (with_reducible refine Below.alloc ?_ ?_ _) | (with_reducible refine bel_drewN ?_ _) | (with_reducible refine Below.drew ?_) | (with_reducible refine Below.setCell ?_ ?_ _) | (with_reducible refine bel_call ‹_› ?_ ?_) | go_size))
    clear c0 c1 c2 c3 c4 c5 c6 c7 c8 f0 f1 f2 f3 f4 f5 f6 f7 f8 d0 d1 d2 d3 d4 d5 d6 d7 d8
    generalize (((((((((w2.setCell ⟨w.heap.size + 1, 0, none⟩ (.int .i64 1)).setCell ⟨w.heap.size + 1, 1, none⟩ (.int .i64 0)).setCell ⟨w.heap.size + 1, 2, none⟩ (.int .i64 who)).setCell ⟨w.heap.size + 1, 3, none⟩ (.string ⟨cell.toArray⟩)).setCell ⟨w.heap.size + 1, 4, none⟩ (.string ⟨text.toArray⟩)).setCell ⟨w.heap.size + 1, 5, none⟩ (.bool false)).setCell ⟨w.heap.size + 1, 6, none⟩ (.int .i64 0)).setCell ⟨w.heap.size + 1, 7, none⟩ (.int .i64 0)).setCell ⟨w.heap.size + 1, 8, none⟩ (.int .u8 0)) = wz at gz hBz ⊢
    obtain ⟨c0, c1, c2, c3, c4, c5, c6, c7, c8⟩ := gz.out.cells
    simp only at c0 c1 c2 c3 c4 c5 c6 c7 c8
    refine bodyPost_ret (v := .agg (lnC 1 ⟨0, who, cell, text, false, 0, 0, 0⟩)) (by simp only [results, Tryd.results7]; go_simp; rfl) rfl ⟨rfl, by have := hBz.out; (repeat' (first | (with_reducible exact Below.refl _ _) | (with_reducible assumption) | (with_reducible refine Below.alloc ?_ ?_ _) | (with_reducible refine bel_drewN ?_ _) | (with_reducible refine Below.drew ?_) | (with_reducible refine Below.setCell ?_ ?_ _) | (with_reducible refine bel_call ‹_› ?_ ?_) | go_size))⟩

set_option maxRecDepth 100000 in
set_option maxHeartbeats 4000000 in
theorem plain_1_1 (who : Int) (cell text : Bs) (cols : Bool) (n tor bits : Int) (w : World) : Calls Tryd.prog 7 #[.agg (lnC 1 ⟨1, who, cell, text, cols, n, tor, bits⟩)] w fun e w' => e = .returned (.agg (lnC 1 ⟨1, who, [], [], cols, n, 0, 0⟩)) ∧ Below w.heap.size w w' := by
  obtain ⟨x, hx⟩ : ∃ x : Stp, ⟨1, who, cell, text, cols, n, tor, bits⟩ = x := ⟨_, rfl⟩
  have hcc : ∀ (w : World) b, RlB w b 1 x → RlB w b 1 ⟨1, who, cell, text, cols, n, tor, bits⟩ := by subst hx; exact fun _ _ h => h
  rw [hx]
  clear hx
  obtain ⟨hh0, hh1⟩ := two_new w (.cells (lnC 1 x) tRl) (.cells (lnC 0 st0) tRl)
  have hA0 : Hid (RlB ((w.alloc (.cells (lnC 1 x) tRl)).alloc (.cells (lnC 0 st0) tRl)) w.heap.size 1 x) := hh0
  have hA1 : Hid (RlB ((w.alloc (.cells (lnC 1 x) tRl)).alloc (.cells (lnC 0 st0) tRl)) (w.heap.size + 1) 0 st0) := hh1
  have hAB : Hid (Below w.heap.size w ((w.alloc (.cells (lnC 1 x) tRl)).alloc (.cells (lnC 0 st0) tRl))) := by unfold Hid; (repeat' (first | (with_reducible exact Below.refl _ _) | (with_reducible assumption) | (with_reducible refine Below.alloc ?_ ?_ _) | (with_reducible refine bel_drewN ?_ _) | (with_reducible refine Below.drew ?_) | (with_reducible refine Below.setCell ?_ ?_ _) | (with_reducible refine bel_call ‹_› ?_ ?_) | go_size))
  have hAz : ((w.alloc (.cells (lnC 1 x) tRl)).alloc (.cells (lnC 0 st0) tRl)).heap.size = w.heap.size + 2 := by simp
  clear hh0 hh1
  go_enter Tryd.func7, Tryd.ntmps7
  go_upto_region 1 with fail
  have e0 : (w.alloc (.cells (lnC 1 x) tRl)).alloc (.cells #[.int .i64 0, .int .i64 0, .int .i64 0, .string ⟨#[]⟩, .string ⟨#[]⟩, .bool false, .int .i64 0, .int .i64 0, .int .u8 0] tRl) = ((w.alloc (.cells (lnC 1 x) tRl)).alloc (.cells (lnC 0 st0) tRl)) := rfl
  rw [e0]
  clear e0
  generalize ((w.alloc (.cells (lnC 1 x) tRl)).alloc (.cells (lnC 0 st0) tRl)) = w0 at hA0 hA1 hAB hAz ⊢
  obtain ⟨c0, c1, c2, c3, c4, c5, c6, c7, c8⟩ := (hcc _ _ hA0.out).cells
  clear hcc hA0
  simp only at c0 c1 c2 c3 c4 c5 c6 c7 c8
  go_upto_region 2 with fail
  have e1 : w0.alloc (.cells #[.int .i64 1, .int .i64 0, .int .i64 0, .string ⟨#[]⟩, .string ⟨#[]⟩, .bool false, .int .i64 0, .int .i64 0, .int .u8 0] tRl) = w0.alloc (.cells (lnC 1 st0) tRl) := rfl
  rw [e1]
  clear e1
  have g1 : Hid (RlB (w0.alloc (.cells (lnC 1 st0) tRl)) (w.heap.size + 2) 1 st0) := by
    unfold Hid
    have := heap_alloc_new w0 (.cells (lnC 1 st0) tRl)
    rw [hAz] at this
    exact this
  have g0 : Hid (RlB (w0.alloc (.cells (lnC 1 st0) tRl)) (w.heap.size + 1) 0 st0) := hA1.out.below (by (repeat' (first | (with_reducible exact Below.refl _ _) | (with_reducible assumption) | (with_reducible refine Below.alloc ?_ ?_ _) | (with_reducible refine bel_drewN ?_ _) | (with_reducible refine Below.drew ?_) | (with_reducible refine Below.setCell ?_ ?_ _) | (with_reducible refine bel_call ‹_› ?_ ?_) | go_size)))
  have hAB1 : Hid (Below w.heap.size w (w0.alloc (.cells (lnC 1 st0) tRl))) := by unfold Hid; have := hAB.out; (repeat' (first | (with_reducible exact Below.refl _ _) | (with_reducible assumption) | (with_reducible refine Below.alloc ?_ ?_ _) | (with_reducible refine bel_drewN ?_ _) | (with_reducible refine Below.drew ?_) | (with_reducible refine Below.setCell ?_ ?_ _) | (with_reducible refine bel_call ‹_› ?_ ?_) | go_size))
  have q0 : (w0.alloc (.cells (lnC 1 st0) tRl)).cell? ⟨w.heap.size, 0, none⟩ = _ := (by go_simp : _ = w0.cell? ⟨w.heap.size, 0, none⟩).trans c0
  have q1 : (w0.alloc (.cells (lnC 1 st0) tRl)).cell? ⟨w.heap.size, 1, none⟩ = _ := (by go_simp : _ = w0.cell? ⟨w.heap.size, 1, none⟩).trans c1
  have q2 : (w0.alloc (.cells (lnC 1 st0) tRl)).cell? ⟨w.heap.size, 2, none⟩ = _ := (by go_simp : _ = w0.cell? ⟨w.heap.size, 2, none⟩).trans c2
  have q3 : (w0.alloc (.cells (lnC 1 st0) tRl)).cell? ⟨w.heap.size, 3, none⟩ = _ := (by go_simp : _ = w0.cell? ⟨w.heap.size, 3, none⟩).trans c3
  have q4 : (w0.alloc (.cells (lnC 1 st0) tRl)).cell? ⟨w.heap.size, 4, none⟩ = _ := (by go_simp : _ = w0.cell? ⟨w.heap.size, 4, none⟩).trans c4
  have q5 : (w0.alloc (.cells (lnC 1 st0) tRl)).cell? ⟨w.heap.size, 5, none⟩ = _ := (by go_simp : _ = w0.cell? ⟨w.heap.size, 5, none⟩).trans c5
  have q6 : (w0.alloc (.cells (lnC 1 st0) tRl)).cell? ⟨w.heap.size, 6, none⟩ = _ := (by go_simp : _ = w0.cell? ⟨w.heap.size, 6, none⟩).trans c6
  have q7 : (w0.alloc (.cells (lnC 1 st0) tRl)).cell? ⟨w.heap.size, 7, none⟩ = _ := (by go_simp : _ = w0.cell? ⟨w.heap.size, 7, none⟩).trans c7
  have q8 : (w0.alloc (.cells (lnC 1 st0) tRl)).cell? ⟨w.heap.size, 8, none⟩ = _ := (by go_simp : _ = w0.cell? ⟨w.heap.size, 8, none⟩).trans c8
  clear c0 c1 c2 c3 c4 c5 c6 c7 c8 hAz hA1 hAB
  generalize w0.alloc (.cells (lnC 1 st0) tRl) = w1 at g1 g0 hAB1 q0 q1 q2 q3 q4 q5 q6 q7 q8 ⊢
  obtain ⟨f0, f1, f2, f3, f4, f5, f6, f7, f8⟩ := g1.out.fz
  obtain ⟨p0, p1, p2, p3, p4, p5, p6, p7, p8⟩ := g1.out.cells
  go_upto_region 22 with fail
  clear q0 q1 q2 q3 q4 q5 q6 q7 q8 p0 p1 p2 p3 p4 p5 p6 p7 p8 f0 f1 f2 f3 f4 f5 f6 f7 f8
  have g2 : Hid (RlB ((((w1.setCell ⟨w.heap.size + 2, 1, none⟩ (.int .i64 1)).setCell ⟨w.heap.size + 2, 2, none⟩ (.int .i64 who)).setCell ⟨w.heap.size + 2, 6, none⟩ (.int .i64 n)).setCell ⟨w.heap.size + 2, 5, none⟩ (.bool cols)) (w.heap.size + 2) 1 ⟨1, who, [], [], cols, n, 0, 0⟩) := (RlB.set5 (RlB.set6 (RlB.set2 (RlB.set1 g1.out 1) who) n) cols)
  have g3 : Hid (RlB ((((w1.setCell ⟨w.heap.size + 2, 1, none⟩ (.int .i64 1)).setCell ⟨w.heap.size + 2, 2, none⟩ (.int .i64 who)).setCell ⟨w.heap.size + 2, 6, none⟩ (.int .i64 n)).setCell ⟨w.heap.size + 2, 5, none⟩ (.bool cols)) (w.heap.size + 1) 0 st0) := (RlB.other (RlB.other (RlB.other (RlB.other g0.out (by omega) _ _) (by omega) _ _) (by omega) _ _) (by omega) _ _)
  have hAB2 : Hid (Below w.heap.size w ((((w1.setCell ⟨w.heap.size + 2, 1, none⟩ (.int .i64 1)).setCell ⟨w.heap.size + 2, 2, none⟩ (.int .i64 who)).setCell ⟨w.heap.size + 2, 6, none⟩ (.int .i64 n)).setCell ⟨w.heap.size + 2, 5, none⟩ (.bool cols))) := by have := hAB1.out; unfold Hid; (repeat' (first | (with_reducible exact Below.refl _ _) | (with_reducible assumption) | (with_reducible refine Below.alloc ?_ ?_ _) | (with_reducible refine bel_drewN ?_ _) | (with_reducible refine Below.drew ?_) | (with_reducible refine Below.setCell ?_ ?_ _) | (with_reducible refine bel_call ‹_› ?_ ?_) | go_size))
  generalize ((((w1.setCell ⟨w.heap.size + 2, 1, none⟩ (.int .i64 1)).setCell ⟨w.heap.size + 2, 2, none⟩ (.int .i64 who)).setCell ⟨w.heap.size + 2, 6, none⟩ (.int .i64 n)).setCell ⟨w.heap.size + 2, 5, none⟩ (.bool cols)) = w2 at g2 g3 hAB2 ⊢
  clear g1 g0 hAB1
  obtain ⟨c0, c1, c2, c3, c4, c5, c6, c7, c8⟩ := g2.out.cells
  obtain ⟨d0, d1, d2, d3, d4, d5, d6, d7, d8⟩ := g3.out.cells
  obtain ⟨f0, f1, f2, f3, f4, f5, f6, f7, f8⟩ := g3.out.fz
  simp only [st0] at c0 c1 c2 c3 c4 c5 c6 c7 c8
  go_wp2_with fail
  have gz : Hid (RlB (((((((((w2.setCell ⟨w.heap.size + 1, 0, none⟩ (.int .i64 1)).setCell ⟨w.heap.size + 1, 1, none⟩ (.int .i64 1)).setCell ⟨w.heap.size + 1, 2, none⟩ (.int .i64 who)).setCell ⟨w.heap.size + 1, 3, none⟩ (.string ⟨#[]⟩)).setCell ⟨w.heap.size + 1, 4, none⟩ (.string ⟨#[]⟩)).setCell ⟨w.heap.size + 1, 5, none⟩ (.bool cols)).setCell ⟨w.heap.size + 1, 6, none⟩ (.int .i64 n)).setCell ⟨w.heap.size + 1, 7, none⟩ (.int .i64 0)).setCell ⟨w.heap.size + 1, 8, none⟩ (.int .u8 0)) (w.heap.size + 1) 1 ⟨1, who, [], [], cols, n, 0, 0⟩) := RlB.store g3.out 1 ⟨1, who, [], [], cols, n, 0, 0⟩
  have hBz : Hid (Below w.heap.size w (((((((((w2.setCell ⟨w.heap.size + 1, 0, none⟩ (.int .i64 1)).setCell ⟨w.heap.size + 1, 1, none⟩ (.int .i64 1)).setCell ⟨w.heap.size + 1, 2, none⟩ (.int .i64 who)).setCell ⟨w.heap.size + 1, 3, none⟩ (.string ⟨#[]⟩)).setCell ⟨w.heap.size + 1, 4, none⟩ (.string ⟨#[]⟩)).setCell ⟨w.heap.size + 1, 5, none⟩ (.bool cols)).setCell ⟨w.heap.size + 1, 6, none⟩ (.int .i64 n)).setCell ⟨w.heap.size + 1, 7, none⟩ (.int .i64 0)).setCell ⟨w.heap.size + 1, 8, none⟩ (.int .u8 0))) := by have := hAB2.out; unfold Hid; (repeat' (first | (with_reducible exact Below.refl _ _) | (with_reducible assumption) | (with_reducible refine Below.alloc ?_ ?_ _) | (with_reducible refine bel_drewN ?_ _) | (with_reducible refine Below.drew ?_) | (with_reducible refine Below.setCell ?_ ?_ _) | (with_reducible refine bel_call ‹_› ?_ ?_) | go_size))
  clear c0 c1 c2 c3 c4 c5 c6 c7 c8 f0 f1 f2 f3 f4 f5 f6 f7 f8 d0 d1 d2 d3 d4 d5 d6 d7 d8
  generalize (((((((((w2.setCell ⟨w.heap.size + 1, 0, none⟩ (.int .i64 1)).setCell ⟨w.heap.size + 1, 1, none⟩ (.int .i64 1)).setCell ⟨w.heap.size + 1, 2, none⟩ (.int .i64 who)).setCell ⟨w.heap.size + 1, 3, none⟩ (.string ⟨#[]⟩)).setCell ⟨w.heap.size + 1, 4, none⟩ (.string ⟨#[]⟩)).setCell ⟨w.heap.size + 1, 5, none⟩ (.bool cols)).setCell ⟨w.heap.size + 1, 6, none⟩ (.int .i64 n)).setCell ⟨w.heap.size + 1, 7, none⟩ (.int .i64 0)).setCell ⟨w.heap.size + 1, 8, none⟩ (.int .u8 0)) = wz at gz hBz ⊢
  obtain ⟨c0, c1, c2, c3, c4, c5, c6, c7, c8⟩ := gz.out.cells
  simp only at c0 c1 c2 c3 c4 c5 c6 c7 c8
  refine bodyPost_ret (v := .agg (lnC 1 ⟨1, who, [], [], cols, n, 0, 0⟩)) (by simp only [results, Tryd.results7]; go_simp; rfl) rfl ⟨rfl, by have := hBz.out; (repeat' (first | (with_reducible exact Below.refl _ _) | (with_reducible assumption) | (with_reducible refine Below.alloc ?_ ?_ _) | (with_reducible refine bel_drewN ?_ _) | (with_reducible refine Below.drew ?_) | (with_reducible refine Below.setCell ?_ ?_ _) | (with_reducible refine bel_call ‹_› ?_ ?_) | go_size))⟩

set_option maxRecDepth 100000 in
set_option maxHeartbeats 4000000 in
theorem plain_1_2 (who : Int) (cell text : Bs) (cols : Bool) (n tor bits : Int) (w : World) : Calls Tryd.prog 7 #[.agg (lnC 1 ⟨2, who, cell, text, cols, n, tor, bits⟩)] w fun e w' => e = .returned (.agg (lnC 1 ⟨2, who, [], [], cols, n, 0, 0⟩)) ∧ Below w.heap.size w w' := by
  obtain ⟨x, hx⟩ : ∃ x : Stp, ⟨2, who, cell, text, cols, n, tor, bits⟩ = x := ⟨_, rfl⟩
  have hcc : ∀ (w : World) b, RlB w b 1 x → RlB w b 1 ⟨2, who, cell, text, cols, n, tor, bits⟩ := by subst hx; exact fun _ _ h => h
  rw [hx]
  clear hx
  obtain ⟨hh0, hh1⟩ := two_new w (.cells (lnC 1 x) tRl) (.cells (lnC 0 st0) tRl)
  have hA0 : Hid (RlB ((w.alloc (.cells (lnC 1 x) tRl)).alloc (.cells (lnC 0 st0) tRl)) w.heap.size 1 x) := hh0
  have hA1 : Hid (RlB ((w.alloc (.cells (lnC 1 x) tRl)).alloc (.cells (lnC 0 st0) tRl)) (w.heap.size + 1) 0 st0) := hh1
  have hAB : Hid (Below w.heap.size w ((w.alloc (.cells (lnC 1 x) tRl)).alloc (.cells (lnC 0 st0) tRl))) := by unfold Hid; (repeat' (first | (with_reducible exact Below.refl _ _) | (with_reducible assumption) | (with_reducible refine Below.alloc ?_ ?_ _) | (with_reducible refine bel_drewN ?_ _) | (with_reducible refine Below.drew ?_) | (with_reducible refine Below.setCell ?_ ?_ _) | (with_reducible refine bel_call ‹_› ?_ ?_) | go_size))
  have hAz : ((w.alloc (.cells (lnC 1 x) tRl)).alloc (.cells (lnC 0 st0) tRl)).heap.size = w.heap.size + 2 := by simp
  clear hh0 hh1
  go_enter Tryd.func7, Tryd.ntmps7
  go_upto_region 1 with fail
  have e0 : (w.alloc (.cells (lnC 1 x) tRl)).alloc (.cells #[.int .i64 0, .int .i64 0, .int .i64 0, .string ⟨#[]⟩, .string ⟨#[]⟩, .bool false, .int .i64 0, .int .i64 0, .int .u8 0] tRl) = ((w.alloc (.cells (lnC 1 x) tRl)).alloc (.cells (lnC 0 st0) tRl)) := rfl
  rw [e0]
  clear e0
  generalize ((w.alloc (.cells (lnC 1 x) tRl)).alloc (.cells (lnC 0 st0) tRl)) = w0 at hA0 hA1 hAB hAz ⊢
  obtain ⟨c0, c1, c2, c3, c4, c5, c6, c7, c8⟩ := (hcc _ _ hA0.out).cells
  clear hcc hA0
  simp only at c0 c1 c2 c3 c4 c5 c6 c7 c8
  go_upto_region 2 with fail
  have e1 : w0.alloc (.cells #[.int .i64 1, .int .i64 0, .int .i64 0, .string ⟨#[]⟩, .string ⟨#[]⟩, .bool false, .int .i64 0, .int .i64 0, .int .u8 0] tRl) = w0.alloc (.cells (lnC 1 st0) tRl) := rfl
  rw [e1]
  clear e1
  have g1 : Hid (RlB (w0.alloc (.cells (lnC 1 st0) tRl)) (w.heap.size + 2) 1 st0) := by
    unfold Hid
    have := heap_alloc_new w0 (.cells (lnC 1 st0) tRl)
    rw [hAz] at this
    exact this
  have g0 : Hid (RlB (w0.alloc (.cells (lnC 1 st0) tRl)) (w.heap.size + 1) 0 st0) := hA1.out.below (by (repeat' (first | (with_reducible exact Below.refl _ _) | (with_reducible assumption) | (with_reducible refine Below.alloc ?_ ?_ _) | (with_reducible refine bel_drewN ?_ _) | (with_reducible refine Below.drew ?_) | (with_reducible refine Below.setCell ?_ ?_ _) | (with_reducible refine bel_call ‹_› ?_ ?_) | go_size)))
  have hAB1 : Hid (Below w.heap.size w (w0.alloc (.cells (lnC 1 st0) tRl))) := by unfold Hid; have := hAB.out; (repeat' (first | (with_reducible exact Below.refl _ _) | (with_reducible assumption) | (with_reducible refine Below.alloc ?_ ?_ _) | (with_reducible refine bel_drewN ?_ _) | (with_reducible refine Below.drew ?_) | (with_reducible refine Below.setCell ?_ ?_ _) | (with_reducible refine bel_call ‹_› ?_ ?_) | go_size))
  have q0 : (w0.alloc (.cells (lnC 1 st0) tRl)).cell? ⟨w.heap.size, 0, none⟩ = _ := (by go_simp : _ = w0.cell? ⟨w.heap.size, 0, none⟩).trans c0
  have q1 : (w0.alloc (.cells (lnC 1 st0) tRl)).cell? ⟨w.heap.size, 1, none⟩ = _ := (by go_simp : _ = w0.cell? ⟨w.heap.size, 1, none⟩).trans c1
  have q2 : (w0.alloc (.cells (lnC 1 st0) tRl)).cell? ⟨w.heap.size, 2, none⟩ = _ := (by go_simp : _ = w0.cell? ⟨w.heap.size, 2, none⟩).trans c2
  have q3 : (w0.alloc (.cells (lnC 1 st0) tRl)).cell? ⟨w.heap.size, 3, none⟩ = _ := (by go_simp : _ = w0.cell? ⟨w.heap.size, 3, none⟩).trans c3
  have q4 : (w0.alloc (.cells (lnC 1 st0) tRl)).cell? ⟨w.heap.size, 4, none⟩ = _ := (by go_simp : _ = w0.cell? ⟨w.heap.size, 4, none⟩).trans c4
  have q5 : (w0.alloc (.cells (lnC 1 st0) tRl)).cell? ⟨w.heap.size, 5, none⟩ = _ := (by go_simp : _ = w0.cell? ⟨w.heap.size, 5, none⟩).trans c5
  have q6 : (w0.alloc (.cells (lnC 1 st0) tRl)).cell? ⟨w.heap.size, 6, none⟩ = _ := (by go_simp : _ = w0.cell? ⟨w.heap.size, 6, none⟩).trans c6
  have q7 : (w0.alloc (.cells (lnC 1 st0) tRl)).cell? ⟨w.heap.size, 7, none⟩ = _ := (by go_simp : _ = w0.cell? ⟨w.heap.size, 7, none⟩).trans c7
  have q8 : (w0.alloc (.cells (lnC 1 st0) tRl)).cell? ⟨w.heap.size, 8, none⟩ = _ := (by go_simp : _ = w0.cell? ⟨w.heap.size, 8, none⟩).trans c8
  clear c0 c1 c2 c3 c4 c5 c6 c7 c8 hAz hA1 hAB
  generalize w0.alloc (.cells (lnC 1 st0) tRl) = w1 at g1 g0 hAB1 q0 q1 q2 q3 q4 q5 q6 q7 q8 ⊢
  obtain ⟨f0, f1, f2, f3, f4, f5, f6, f7, f8⟩ := g1.out.fz
  obtain ⟨p0, p1, p2, p3, p4, p5, p6, p7, p8⟩ := g1.out.cells
  go_upto_region 22 with fail
  clear q0 q1 q2 q3 q4 q5 q6 q7 q8 p0 p1 p2 p3 p4 p5 p6 p7 p8 f0 f1 f2 f3 f4 f5 f6 f7 f8
  have g2 : Hid (RlB ((((w1.setCell ⟨w.heap.size + 2, 1, none⟩ (.int .i64 2)).setCell ⟨w.heap.size + 2, 2, none⟩ (.int .i64 who)).setCell ⟨w.heap.size + 2, 6, none⟩ (.int .i64 n)).setCell ⟨w.heap.size + 2, 5, none⟩ (.bool cols)) (w.heap.size + 2) 1 ⟨2, who, [], [], cols, n, 0, 0⟩) := (RlB.set5 (RlB.set6 (RlB.set2 (RlB.set1 g1.out 2) who) n) cols)
  have g3 : Hid (RlB ((((w1.setCell ⟨w.heap.size + 2, 1, none⟩ (.int .i64 2)).setCell ⟨w.heap.size + 2, 2, none⟩ (.int .i64 who)).setCell ⟨w.heap.size + 2, 6, none⟩ (.int .i64 n)).setCell ⟨w.heap.size + 2, 5, none⟩ (.bool cols)) (w.heap.size + 1) 0 st0) := (RlB.other (RlB.other (RlB.other (RlB.other g0.out (by omega) _ _) (by omega) _ _) (by omega) _ _) (by omega) _ _)
  have hAB2 : Hid (Below w.heap.size w ((((w1.setCell ⟨w.heap.size + 2, 1, none⟩ (.int .i64 2)).setCell ⟨w.heap.size + 2, 2, none⟩ (.int .i64 who)).setCell ⟨w.heap.size + 2, 6, none⟩ (.int .i64 n)).setCell ⟨w.heap.size + 2, 5, none⟩ (.bool cols))) := by have := hAB1.out; unfold Hid; (repeat' (first | (with_reducible exact Below.refl _ _) | (with_reducible assumption) | (with_reducible refine Below.alloc ?_ ?_ _) | (with_reducible refine bel_drewN ?_ _) | (with_reducible refine Below.drew ?_) | (with_reducible refine Below.setCell ?_ ?_ _) | (with_reducible refine bel_call ‹_› ?_ ?_) | go_size))
  generalize ((((w1.setCell ⟨w.heap.size + 2, 1, none⟩ (.int .i64 2)).setCell ⟨w.heap.size + 2, 2, none⟩ (.int .i64 who)).setCell ⟨w.heap.size + 2, 6, none⟩ (.int .i64 n)).setCell ⟨w.heap.size + 2, 5, none⟩ (.bool cols)) = w2 at g2 g3 hAB2 ⊢
  clear g1 g0 hAB1
  obtain ⟨c0, c1, c2, c3, c4, c5, c6, c7, c8⟩ := g2.out.cells
  obtain ⟨d0, d1, d2, d3, d4, d5, d6, d7, d8⟩ := g3.out.cells
  obtain ⟨f0, f1, f2, f3, f4, f5, f6, f7, f8⟩ := g3.out.fz
  simp only [st0] at c0 c1 c2 c3 c4 c5 c6 c7 c8
  go_wp2_with fail
  have gz : Hid (RlB (((((((((w2.setCell ⟨w.heap.size + 1, 0, none⟩ (.int .i64 1)).setCell ⟨w.heap.size + 1, 1, none⟩ (.int .i64 2)).setCell ⟨w.heap.size + 1, 2, none⟩ (.int .i64 who)).setCell ⟨w.heap.size + 1, 3, none⟩ (.string ⟨#[]⟩)).setCell ⟨w.heap.size + 1, 4, none⟩ (.string ⟨#[]⟩)).setCell ⟨w.heap.size + 1, 5, none⟩ (.bool cols)).setCell ⟨w.heap.size + 1, 6, none⟩ (.int .i64 n)).setCell ⟨w.heap.size + 1, 7, none⟩ (.int .i64 0)).setCell ⟨w.heap.size + 1, 8, none⟩ (.int .u8 0)) (w.heap.size + 1) 1 ⟨2, who, [], [], cols, n, 0, 0⟩) := RlB.store g3.out 1 ⟨2, who, [], [], cols, n, 0, 0⟩
  have hBz : Hid (Below w.heap.size w (((((((((w2.setCell ⟨w.heap.size + 1, 0, none⟩ (.int .i64 1)).setCell ⟨w.heap.size + 1, 1, none⟩ (.int .i64 2)).setCell ⟨w.heap.size + 1, 2, none⟩ (.int .i64 who)).setCell ⟨w.heap.size + 1, 3, none⟩ (.string ⟨#[]⟩)).setCell ⟨w.heap.size + 1, 4, none⟩ (.string ⟨#[]⟩)).setCell ⟨w.heap.size + 1, 5, none⟩ (.bool cols)).setCell ⟨w.heap.size + 1, 6, none⟩ (.int .i64 n)).setCell ⟨w.heap.size + 1, 7, none⟩ (.int .i64 0)).setCell ⟨w.heap.size + 1, 8, none⟩ (.int .u8 0))) := by have := hAB2.out; unfold Hid; (repeat' (first | (with_reducible exact Below.refl _ _) | (with_reducible assumption) | (with_reducible refine Below.alloc ?_ ?_ _) | (with_reducible refine bel_drewN ?_ _) | (with_reducible refine Below.drew ?_) | (with_reducible refine Below.setCell ?_ ?_ _) | (with_reducible refine bel_call ‹_› ?_ ?_) | go_size))
  clear c0 c1 c2 c3 c4 c5 c6 c7 c8 f0 f1 f2 f3 f4 f5 f6 f7 f8 d0 d1 d2 d3 d4 d5 d6 d7 d8
  generalize (((((((((w2.setCell ⟨w.heap.size + 1, 0, none⟩ (.int .i64 1)).setCell ⟨w.heap.size + 1, 1, none⟩ (.int .i64 2)).setCell ⟨w.heap.size + 1, 2, none⟩ (.int .i64 who)).setCell ⟨w.heap.size + 1, 3, none⟩ (.string ⟨#[]⟩)).setCell ⟨w.heap.size + 1, 4, none⟩ (.string ⟨#[]⟩)).setCell ⟨w.heap.size + 1, 5, none⟩ (.bool cols)).setCell ⟨w.heap.size + 1, 6, none⟩ (.int .i64 n)).setCell ⟨w.heap.size + 1, 7, none⟩ (.int .i64 0)).setCell ⟨w.heap.size + 1, 8, none⟩ (.int .u8 0)) = wz at gz hBz ⊢
  obtain ⟨c0, c1, c2, c3, c4, c5, c6, c7, c8⟩ := gz.out.cells
  simp only at c0 c1 c2 c3 c4 c5 c6 c7 c8
  refine bodyPost_ret (v := .agg (lnC 1 ⟨2, who, [], [], cols, n, 0, 0⟩)) (by simp only [results, Tryd.results7]; go_simp; rfl) rfl ⟨rfl, by have := hBz.out; (repeat' (first | (with_reducible exact Below.refl _ _) | (with_reducible assumption) | (with_reducible refine Below.alloc ?_ ?_ _) | (with_reducible refine bel_drewN ?_ _) | (with_reducible refine Below.drew ?_) | (with_reducible refine Below.setCell ?_ ?_ _) | (with_reducible refine bel_call ‹_› ?_ ?_) | go_size))⟩

set_option maxRecDepth 100000 in
set_option maxHeartbeats 4000000 in
theorem plain_1_3 (who : Int) (cell text : Bs) (cols : Bool) (n tor bits : Int) (w : World) : Calls Tryd.prog 7 #[.agg (lnC 1 ⟨3, who, cell, text, cols, n, tor, bits⟩)] w fun e w' => e = .returned (.agg (lnC 1 ⟨3, 0, [], [], false, n, 0, 0⟩)) ∧ Below w.heap.size w w' := by
  obtain ⟨x, hx⟩ : ∃ x : Stp, ⟨3, who, cell, text, cols, n, tor, bits⟩ = x := ⟨_, rfl⟩
  have hcc : ∀ (w : World) b, RlB w b 1 x → RlB w b 1 ⟨3, who, cell, text, cols, n, tor, bits⟩ := by subst hx; exact fun _ _ h => h
  rw [hx]
  clear hx
  obtain ⟨hh0, hh1⟩ := two_new w (.cells (lnC 1 x) tRl) (.cells (lnC 0 st0) tRl)
  have hA0 : Hid (RlB ((w.alloc (.cells (lnC 1 x) tRl)).alloc (.cells (lnC 0 st0) tRl)) w.heap.size 1 x) := hh0
  have hA1 : Hid (RlB ((w.alloc (.cells (lnC 1 x) tRl)).alloc (.cells (lnC 0 st0) tRl)) (w.heap.size + 1) 0 st0) := hh1
  have hAB : Hid (Below w.heap.size w ((w.alloc (.cells (lnC 1 x) tRl)).alloc (.cells (lnC 0 st0) tRl))) := by unfold Hid; (repeat' (first | (with_reducible exact Below.refl _ _) | (with_reducible assumption) | (with_reducible refine Below.alloc ?_ ?_ _) | (with_reducible refine bel_drewN ?_ _) | (with_reducible refine Below.drew ?_) | (with_reducible refine Below.setCell ?_ ?_ _) | (with_reducible refine bel_call ‹_› ?_ ?_) | go_size))
  have hAz : ((w.alloc (.cells (lnC 1 x) tRl)).alloc (.cells (lnC 0 st0) tRl)).heap.size = w.heap.size + 2 := by simp
  clear hh0 hh1
  go_enter Tryd.func7, Tryd.ntmps7
  go_upto_region 1 with fail
  have e0 : (w.alloc (.cells (lnC 1 x) tRl)).alloc (.cells #[.int .i64 0, .int .i64 0, .int .i64 0, .string ⟨#[]⟩, .string ⟨#[]⟩, .bool false, .int .i64 0, .int .i64 0, .int .u8 0] tRl) = ((w.alloc (.cells (lnC 1 x) tRl)).alloc (.cells (lnC 0 st0) tRl)) := rfl
  rw [e0]
  clear e0
  generalize ((w.alloc (.cells (lnC 1 x) tRl)).alloc (.cells (lnC 0 st0) tRl)) = w0 at hA0 hA1 hAB hAz ⊢
  obtain ⟨c0, c1, c2, c3, c4, c5, c6, c7, c8⟩ := (hcc _ _ hA0.out).cells
  clear hcc hA0
  simp only at c0 c1 c2 c3 c4 c5 c6 c7 c8
  go_upto_region 2 with fail
  have e1 : w0.alloc (.cells #[.int .i64 1, .int .i64 0, .int .i64 0, .string ⟨#[]⟩, .string ⟨#[]⟩, .bool false, .int .i64 0, .int .i64 0, .int .u8 0] tRl) = w0.alloc (.cells (lnC 1 st0) tRl) := rfl
  rw [e1]
  clear e1
  have g1 : Hid (RlB (w0.alloc (.cells (lnC 1 st0) tRl)) (w.heap.size + 2) 1 st0) := by
    unfold Hid
    have := heap_alloc_new w0 (.cells (lnC 1 st0) tRl)
    rw [hAz] at this
    exact this
  have g0 : Hid (RlB (w0.alloc (.cells (lnC 1 st0) tRl)) (w.heap.size + 1) 0 st0) := hA1.out.below (by (repeat' (first | (with_reducible exact Below.refl _ _) | (with_reducible assumption) | (with_reducible refine Below.alloc ?_ ?_ _) | (with_reducible refine bel_drewN ?_ _) | (with_reducible refine Below.drew ?_) | (with_reducible refine Below.setCell ?_ ?_ _) | (with_reducible refine bel_call ‹_› ?_ ?_) | go_size)))
  have hAB1 : Hid (Below w.heap.size w (w0.alloc (.cells (lnC 1 st0) tRl))) := by unfold Hid; have := hAB.out; (repeat' (first | (with_reducible exact Below.refl _ _) | (with_reducible assumption) | (with_reducible refine Below.alloc ?_ ?_ _) | (with_reducible refine bel_drewN ?_ _) | (with_reducible refine Below.drew ?_) | (with_reducible refine Below.setCell ?_ ?_ _) | (with_reducible refine bel_call ‹_› ?_ ?_) | go_size))
  have q0 : (w0.alloc (.cells (lnC 1 st0) tRl)).cell? ⟨w.heap.size, 0, none⟩ = _ := (by go_simp : _ = w0.cell? ⟨w.heap.size, 0, none⟩).trans c0
  have q1 : (w0.alloc (.cells (lnC 1 st0) tRl)).cell? ⟨w.heap.size, 1, none⟩ = _ := (by go_simp : _ = w0.cell? ⟨w.heap.size, 1, none⟩).trans c1
  have q2 : (w0.alloc (.cells (lnC 1 st0) tRl)).cell? ⟨w.heap.size, 2, none⟩ = _ := (by go_simp : _ = w0.cell? ⟨w.heap.size, 2, none⟩).trans c2
  have q3 : (w0.alloc (.cells (lnC 1 st0) tRl)).cell? ⟨w.heap.size, 3, none⟩ = _ := (by go_simp : _ = w0.cell? ⟨w.heap.size, 3, none⟩).trans c3
  have q4 : (w0.alloc (.cells (lnC 1 st0) tRl)).cell? ⟨w.heap.size, 4, none⟩ = _ := (by go_simp : _ = w0.cell? ⟨w.heap.size, 4, none⟩).trans c4
  have q5 : (w0.alloc (.cells (lnC 1 st0) tRl)).cell? ⟨w.heap.size, 5, none⟩ = _ := (by go_simp : _ = w0.cell? ⟨w.heap.size, 5, none⟩).trans c5
  have q6 : (w0.alloc (.cells (lnC 1 st0) tRl)).cell? ⟨w.heap.size, 6, none⟩ = _ := (by go_simp : _ = w0.cell? ⟨w.heap.size, 6, none⟩).trans c6
  have q7 : (w0.alloc (.cells (lnC 1 st0) tRl)).cell? ⟨w.heap.size, 7, none⟩ = _ := (by go_simp : _ = w0.cell? ⟨w.heap.size, 7, none⟩).trans c7
  have q8 : (w0.alloc (.cells (lnC 1 st0) tRl)).cell? ⟨w.heap.size, 8, none⟩ = _ := (by go_simp : _ = w0.cell? ⟨w.heap.size, 8, none⟩).trans c8
  clear c0 c1 c2 c3 c4 c5 c6 c7 c8 hAz hA1 hAB
  generalize w0.alloc (.cells (lnC 1 st0) tRl) = w1 at g1 g0 hAB1 q0 q1 q2 q3 q4 q5 q6 q7 q8 ⊢
  obtain ⟨f0, f1, f2, f3, f4, f5, f6, f7, f8⟩ := g1.out.fz
  obtain ⟨p0, p1, p2, p3, p4, p5, p6, p7, p8⟩ := g1.out.cells
  go_upto_region 22 with fail
  clear q0 q1 q2 q3 q4 q5 q6 q7 q8 p0 p1 p2 p3 p4 p5 p6 p7 p8 f0 f1 f2 f3 f4 f5 f6 f7 f8
  have g2 : Hid (RlB ((w1.setCell ⟨w.heap.size + 2, 1, none⟩ (.int .i64 3)).setCell ⟨w.heap.size + 2, 6, none⟩ (.int .i64 n)) (w.heap.size + 2) 1 ⟨3, 0, [], [], false, n, 0, 0⟩) := (RlB.set6 (RlB.set1 g1.out 3) n)
  have g3 : Hid (RlB ((w1.setCell ⟨w.heap.size + 2, 1, none⟩ (.int .i64 3)).setCell ⟨w.heap.size + 2, 6, none⟩ (.int .i64 n)) (w.heap.size + 1) 0 st0) := (RlB.other (RlB.other g0.out (by omega) _ _) (by omega) _ _)
  have hAB2 : Hid (Below w.heap.size w ((w1.setCell ⟨w.heap.size + 2, 1, none⟩ (.int .i64 3)).setCell ⟨w.heap.size + 2, 6, none⟩ (.int .i64 n))) := by have := hAB1.out; unfold Hid; (repeat' (first | (with_reducible exact Below.refl _ _) | (with_reducible assumption) | (with_reducible refine Below.alloc ?_ ?_ _) | (with_reducible refine bel_drewN ?_ _) | (with_reducible refine Below.drew ?_) | (with_reducible refine Below.setCell ?_ ?_ _) | (with_reducible refine bel_call ‹_› ?_ ?_) | go_size))
  generalize ((w1.setCell ⟨w.heap.size + 2, 1, none⟩ (.int .i64 3)).setCell ⟨w.heap.size + 2, 6, none⟩ (.int .i64 n)) = w2 at g2 g3 hAB2 ⊢
  clear g1 g0 hAB1
  obtain ⟨c0, c1, c2, c3, c4, c5, c6, c7, c8⟩ := g2.out.cells
  obtain ⟨d0, d1, d2, d3, d4, d5, d6, d7, d8⟩ := g3.out.cells
  obtain ⟨f0, f1, f2, f3, f4, f5, f6, f7, f8⟩ := g3.out.fz
  simp only [st0] at c0 c1 c2 c3 c4 c5 c6 c7 c8
  go_wp2_with fail
  have gz : Hid (RlB (((((((((w2.setCell ⟨w.heap.size + 1, 0, none⟩ (.int .i64 1)).setCell ⟨w.heap.size + 1, 1, none⟩ (.int .i64 3)).setCell ⟨w.heap.size + 1, 2, none⟩ (.int .i64 0)).setCell ⟨w.heap.size + 1, 3, none⟩ (.string ⟨#[]⟩)).setCell ⟨w.heap.size + 1, 4, none⟩ (.string ⟨#[]⟩)).setCell ⟨w.heap.size + 1, 5, none⟩ (.bool false)).setCell ⟨w.heap.size + 1, 6, none⟩ (.int .i64 n)).setCell ⟨w.heap.size + 1, 7, none⟩ (.int .i64 0)).setCell ⟨w.heap.size + 1, 8, none⟩ (.int .u8 0)) (w.heap.size + 1) 1 ⟨3, 0, [], [], false, n, 0, 0⟩) := RlB.store g3.out 1 ⟨3, 0, [], [], false, n, 0, 0⟩
  have hBz : Hid (Below w.heap.size w (((((((((w2.setCell ⟨w.heap.size + 1, 0, none⟩ (.int .i64 1)).setCell ⟨w.heap.size + 1, 1, none⟩ (.int .i64 3)).setCell ⟨w.heap.size + 1, 2, none⟩ (.int .i64 0)).setCell ⟨w.heap.size + 1, 3, none⟩ (.string ⟨#[]⟩)).setCell ⟨w.heap.size + 1, 4, none⟩ (.string ⟨#[]⟩)).setCell ⟨w.heap.size + 1, 5, none⟩ (.bool false)).setCell ⟨w.heap.size + 1, 6, none⟩ (.int .i64 n)).setCell ⟨w.heap.size + 1, 7, none⟩ (.int .i64 0)).setCell ⟨w.heap.size + 1, 8, none⟩ (.int .u8 0))) := by have := hAB2.out; unfold Hid; (repeat' (first | (with_reducible exact Below.refl _ _) | (with_reducible assumption) | (with_reducible refine Below.alloc ?_ ?_ _) | (with_reducible refine bel_drewN ?_ _) | (with_reducible refine Below.drew ?_) | (with_reducible refine Below.setCell ?_ ?_ _) | (with_reducible refine bel_call ‹_› ?_ ?_) | go_size))
  clear c0 c1 c2 c3 c4 c5 c6 c7 c8 f0 f1 f2 f3 f4 f5 f6 f7 f8 d0 d1 d2 d3 d4 d5 d6 d7 d8
  generalize (((((((((w2.setCell ⟨w.heap.size + 1, 0, none⟩ (.int .i64 1)).setCell ⟨w.heap.size + 1, 1, none⟩ (.int .i64 3)).setCell ⟨w.heap.size + 1, 2, none⟩ (.int .i64 0)).setCell ⟨w.heap.size + 1, 3, none⟩ (.string ⟨#[]⟩)).setCell ⟨w.heap.size + 1, 4, none⟩ (.string ⟨#[]⟩)).setCell ⟨w.heap.size + 1, 5, none⟩ (.bool false)).setCell ⟨w.heap.size + 1, 6, none⟩ (.int .i64 n)).setCell ⟨w.heap.size + 1, 7, none⟩ (.int .i64 0)).setCell ⟨w.heap.size + 1, 8, none⟩ (.int .u8 0)) = wz at gz hBz ⊢
  obtain ⟨c0, c1, c2, c3, c4, c5, c6, c7, c8⟩ := gz.out.cells
  simp only at c0 c1 c2 c3 c4 c5 c6 c7 c8
  refine bodyPost_ret (v := .agg (lnC 1 ⟨3, 0, [], [], false, n, 0, 0⟩)) (by simp only [results, Tryd.results7]; go_simp; rfl) rfl ⟨rfl, by have := hBz.out; (repeat' (first | (with_reducible exact Below.refl _ _) | (with_reducible assumption) | (with_reducible refine Below.alloc ?_ ?_ _) | (with_reducible refine bel_drewN ?_ _) | (with_reducible refine Below.drew ?_) | (with_reducible refine Below.setCell ?_ ?_ _) | (with_reducible refine bel_call ‹_› ?_ ?_) | go_size))⟩

set_option maxRecDepth 100000 in
set_option maxHeartbeats 4000000 in
theorem plain_1_4 (who : Int) (cell text : Bs) (cols : Bool) (n tor bits : Int) (w : World) : Calls Tryd.prog 7 #[.agg (lnC 1 ⟨4, who, cell, text, cols, n, tor, bits⟩)] w fun e w' => e = .returned (.agg (lnC 1 ⟨4, 0, [], [], false, n, 0, 0⟩)) ∧ Below w.heap.size w w' := by
  obtain ⟨x, hx⟩ : ∃ x : Stp, ⟨4, who, cell, text, cols, n, tor, bits⟩ = x := ⟨_, rfl⟩
  have hcc : ∀ (w : World) b, RlB w b 1 x → RlB w b 1 ⟨4, who, cell, text, cols, n, tor, bits⟩ := by subst hx; exact fun _ _ h => h
  rw [hx]
  clear hx
  obtain ⟨hh0, hh1⟩ := two_new w (.cells (lnC 1 x) tRl) (.cells (lnC 0 st0) tRl)
  have hA0 : Hid (RlB ((w.alloc (.cells (lnC 1 x) tRl)).alloc (.cells (lnC 0 st0) tRl)) w.heap.size 1 x) := hh0
  have hA1 : Hid (RlB ((w.alloc (.cells (lnC 1 x) tRl)).alloc (.cells (lnC 0 st0) tRl)) (w.heap.size + 1) 0 st0) := hh1
  have hAB : Hid (Below w.heap.size w ((w.alloc (.cells (lnC 1 x) tRl)).alloc (.cells (lnC 0 st0) tRl))) := by unfold Hid; (repeat' (first | (with_reducible exact Below.refl _ _) | (with_reducible assumption) | (with_reducible refine Below.alloc ?_ ?_ _) | (with_reducible refine bel_drewN ?_ _) | (with_reducible refine Below.drew ?_) | (with_reducible refine Below.setCell ?_ ?_ _) | (with_reducible refine bel_call ‹_› ?_ ?_) | go_size))
  have hAz : ((w.alloc (.cells (lnC 1 x) tRl)).alloc (.cells (lnC 0 st0) tRl)).heap.size = w.heap.size + 2 := by simp
  clear hh0 hh1
  go_enter Tryd.func7, Tryd.ntmps7
  go_upto_region 1 with fail
  have e0 : (w.alloc (.cells (lnC 1 x) tRl)).alloc (.cells #[.int .i64 0, .int .i64 0, .int .i64 0, .string ⟨#[]⟩, .string ⟨#[]⟩, .bool false, .int .i64 0, .int .i64 0, .int .u8 0] tRl) = ((w.alloc (.cells (lnC 1 x) tRl)).alloc (.cells (lnC 0 st0) tRl)) := rfl
  rw [e0]
  clear e0
  generalize ((w.alloc (.cells (lnC 1 x) tRl)).alloc (.cells (lnC 0 st0) tRl)) = w0 at hA0 hA1 hAB hAz ⊢
  obtain ⟨c0, c1, c2, c3, c4, c5, c6, c7, c8⟩ := (hcc _ _ hA0.out).cells
  clear hcc hA0
  simp only at c0 c1 c2 c3 c4 c5 c6 c7 c8
  go_upto_region 2 with fail
  have e1 : w0.alloc (.cells #[.int .i64 1, .int .i64 0, .int .i64 0, .string ⟨#[]⟩, .string ⟨#[]⟩, .bool false, .int .i64 0, .int .i64 0, .int .u8 0] tRl) = w0.alloc (.cells (lnC 1 st0) tRl) := rfl
  rw [e1]
  clear e1
  have g1 : Hid (RlB (w0.alloc (.cells (lnC 1 st0) tRl)) (w.heap.size + 2) 1 st0) := by
    unfold Hid
    have := heap_alloc_new w0 (.cells (lnC 1 st0) tRl)
    rw [hAz] at this
    exact this
  have g0 : Hid (RlB (w0.alloc (.cells (lnC 1 st0) tRl)) (w.heap.size + 1) 0 st0) := hA1.out.below (by (repeat' (first | (with_reducible exact Below.refl _ _) | (with_reducible assumption) | (with_reducible refine Below.alloc ?_ ?_ _) | (with_reducible refine bel_drewN ?_ _) | (with_reducible refine Below.drew ?_) | (with_reducible refine Below.setCell ?_ ?_ _) | (with_reducible refine bel_call ‹_› ?_ ?_) | go_size)))
  have hAB1 : Hid (Below w.heap.size w (w0.alloc (.cells (lnC 1 st0) tRl))) := by unfold Hid; have := hAB.out; (repeat' (first | (with_reducible exact Below.refl _ _) | (with_reducible assumption) | (with_reducible refine Below.alloc ?_ ?_ _) | (with_reducible refine bel_drewN ?_ _) | (with_reducible refine Below.drew ?_) | (with_reducible refine Below.setCell ?_ ?_ _) | (with_reducible refine bel_call ‹_› ?_ ?_) | go_size))
  have q0 : (w0.alloc (.cells (lnC 1 st0) tRl)).cell? ⟨w.heap.size, 0, none⟩ = _ := (by go_simp : _ = w0.cell? ⟨w.heap.size, 0, none⟩).trans c0
  have q1 : (w0.alloc (.cells (lnC 1 st0) tRl)).cell? ⟨w.heap.size, 1, none⟩ = _ := (by go_simp : _ = w0.cell? ⟨w.heap.size, 1, none⟩).trans c1
  have q2 : (w0.alloc (.cells (lnC 1 st0) tRl)).cell? ⟨w.heap.size, 2, none⟩ = _ := (by go_simp : _ = w0.cell? ⟨w.heap.size, 2, none⟩).trans c2
  have q3 : (w0.alloc (.cells (lnC 1 st0) tRl)).cell? ⟨w.heap.size, 3, none⟩ = _ := (by go_simp : _ = w0.cell? ⟨w.heap.size, 3, none⟩).trans c3
  have q4 : (w0.alloc (.cells (lnC 1 st0) tRl)).cell? ⟨w.heap.size, 4, none⟩ = _ := (by go_simp : _ = w0.cell? ⟨w.heap.size, 4, none⟩).trans c4
  have q5 : (w0.alloc (.cells (lnC 1 st0) tRl)).cell? ⟨w.heap.size, 5, none⟩ = _ := (by go_simp : _ = w0.cell? ⟨w.heap.size, 5, none⟩).trans c5
  have q6 : (w0.alloc (.cells (lnC 1 st0) tRl)).cell? ⟨w.heap.size, 6, none⟩ = _ := (by go_simp : _ = w0.cell? ⟨w.heap.size, 6, none⟩).trans c6
  have q7 : (w0.alloc (.cells (lnC 1 st0) tRl)).cell? ⟨w.heap.size, 7, none⟩ = _ := (by go_simp : _ = w0.cell? ⟨w.heap.size, 7, none⟩).trans c7
  have q8 : (w0.alloc (.cells (lnC 1 st0) tRl)).cell? ⟨w.heap.size, 8, none⟩ = _ := (by go_simp : _ = w0.cell? ⟨w.heap.size, 8, none⟩).trans c8
  clear c0 c1 c2 c3 c4 c5 c6 c7 c8 hAz hA1 hAB
  generalize w0.alloc (.cells (lnC 1 st0) tRl) = w1 at g1 g0 hAB1 q0 q1 q2 q3 q4 q5 q6 q7 q8 ⊢
  obtain ⟨f0, f1, f2, f3, f4, f5, f6, f7, f8⟩ := g1.out.fz
  obtain ⟨p0, p1, p2, p3, p4, p5, p6, p7, p8⟩ := g1.out.cells
  go_upto_region 22 with fail
  clear q0 q1 q2 q3 q4 q5 q6 q7 q8 p0 p1 p2 p3 p4 p5 p6 p7 p8 f0 f1 f2 f3 f4 f5 f6 f7 f8
  have g2 : Hid (RlB ((w1.setCell ⟨w.heap.size + 2, 1, none⟩ (.int .i64 4)).setCell ⟨w.heap.size + 2, 6, none⟩ (.int .i64 n)) (w.heap.size + 2) 1 ⟨4, 0, [], [], false, n, 0, 0⟩) := (RlB.set6 (RlB.set1 g1.out 4) n)
  have g3 : Hid (RlB ((w1.setCell ⟨w.heap.size + 2, 1, none⟩ (.int .i64 4)).setCell ⟨w.heap.size + 2, 6, none⟩ (.int .i64 n)) (w.heap.size + 1) 0 st0) := (RlB.other (RlB.other g0.out (by omega) _ _) (by omega) _ _)
  have hAB2 : Hid (Below w.heap.size w ((w1.setCell ⟨w.heap.size + 2, 1, none⟩ (.int .i64 4)).setCell ⟨w.heap.size + 2, 6, none⟩ (.int .i64 n))) := by have := hAB1.out; unfold Hid; (repeat' (first | (with_reducible exact Below.refl _ _) | (with_reducible assumption) | (with_reducible refine Below.alloc ?_ ?_ _) | (with_reducible refine bel_drewN ?_ _) | (with_reducible refine Below.drew ?_) | (with_reducible refine Below.setCell ?_ ?_ _) | (with_reducible refine bel_call ‹_› ?_ ?_) | go_size))
  generalize ((w1.setCell ⟨w.heap.size + 2, 1, none⟩ (.int .i64 4)).setCell ⟨w.heap.size + 2, 6, none⟩ (.int .i64 n)) = w2 at g2 g3 hAB2 ⊢
  clear g1 g0 hAB1
  obtain ⟨c0, c1, c2, c3, c4, c5, c6, c7, c8⟩ := g2.out.cells
  obtain ⟨d0, d1, d2, d3, d4, d5, d6, d7, d8⟩ := g3.out.cells
  obtain ⟨f0, f1, f2, f3, f4, f5, f6, f7, f8⟩ := g3.out.fz
  simp only [st0] at c0 c1 c2 c3 c4 c5 c6 c7 c8
  go_wp2_with fail
  have gz : Hid (RlB (((((((((w2.setCell ⟨w.heap.size + 1, 0, none⟩ (.int .i64 1)).setCell ⟨w.heap.size + 1, 1, none⟩ (.int .i64 4)).setCell ⟨w.heap.size + 1, 2, none⟩ (.int .i64 0)).setCell ⟨w.heap.size + 1, 3, none⟩ (.string ⟨#[]⟩)).setCell ⟨w.heap.size + 1, 4, none⟩ (.string ⟨#[]⟩)).setCell ⟨w.heap.size + 1, 5, none⟩ (.bool false)).setCell ⟨w.heap.size + 1, 6, none⟩ (.int .i64 n)).setCell ⟨w.heap.size + 1, 7, none⟩ (.int .i64 0)).setCell ⟨w.heap.size + 1, 8, none⟩ (.int .u8 0)) (w.heap.size + 1) 1 ⟨4, 0, [], [], false, n, 0, 0⟩) := RlB.store g3.out 1 ⟨4, 0, [], [], false, n, 0, 0⟩
  have hBz : Hid (Below w.heap.size w (((((((((w2.setCell ⟨w.heap.size + 1, 0, none⟩ (.int .i64 1)).setCell ⟨w.heap.size + 1, 1, none⟩ (.int .i64 4)).setCell ⟨w.heap.size + 1, 2, none⟩ (.int .i64 0)).setCell ⟨w.heap.size + 1, 3, none⟩ (.string ⟨#[]⟩)).setCell ⟨w.heap.size + 1, 4, none⟩ (.string ⟨#[]⟩)).setCell ⟨w.heap.size + 1, 5, none⟩ (.bool false)).setCell ⟨w.heap.size + 1, 6, none⟩ (.int .i64 n)).setCell ⟨w.heap.size + 1, 7, none⟩ (.int .i64 0)).setCell ⟨w.heap.size + 1, 8, none⟩ (.int .u8 0))) := by have := hAB2.out; unfold Hid; (repeat' (first | (with_reducible exact Below.refl _ _) | (with_reducible assumption) | (with_reducible refine Below.alloc ?_ ?_ _) | (with_reducible refine bel_drewN ?_ _) | (with_reducible refine Below.drew ?_) | (with_reducible refine Below.setCell ?_ ?_ _) | (with_reducible refine bel_call ‹_› ?_ ?_) | go_size))
  clear c0 c1 c2 c3 c4 c5 c6 c7 c8 f0 f1 f2 f3 f4 f5 f6 f7 f8 d0 d1 d2 d3 d4 d5 d6 d7 d8
  generalize (((((((((w2.setCell ⟨w.heap.size + 1, 0, none⟩ (.int .i64 1)).setCell ⟨w.heap.size + 1, 1, none⟩ (.int .i64 4)).setCell ⟨w.heap.size + 1, 2, none⟩ (.int .i64 0)).setCell ⟨w.heap.size + 1, 3, none⟩ (.string ⟨#[]⟩)).setCell ⟨w.heap.size + 1, 4, none⟩ (.string ⟨#[]⟩)).setCell ⟨w.heap.size + 1, 5, none⟩ (.bool false)).setCell ⟨w.heap.size + 1, 6, none⟩ (.int .i64 n)).setCell ⟨w.heap.size + 1, 7, none⟩ (.int .i64 0)).setCell ⟨w.heap.size + 1, 8, none⟩ (.int .u8 0)) = wz at gz hBz ⊢
  obtain ⟨c0, c1, c2, c3, c4, c5, c6, c7, c8⟩ := gz.out.cells
  simp only at c0 c1 c2 c3 c4 c5 c6 c7 c8
  refine bodyPost_ret (v := .agg (lnC 1 ⟨4, 0, [], [], false, n, 0, 0⟩)) (by simp only [results, Tryd.results7]; go_simp; rfl) rfl ⟨rfl, by have := hBz.out; (repeat' (first | (with_reducible exact Below.refl _ _) | (with_reducible assumption) | (with_reducible refine Below.alloc ?_ ?_ _) | (with_reducible refine bel_drewN ?_ _) | (with_reducible refine Below.drew ?_) | (with_reducible refine Below.setCell ?_ ?_ _) | (with_reducible refine bel_call ‹_› ?_ ?_) | go_size))⟩

set_option maxRecDepth 100000 in
set_option maxHeartbeats 4000000 in
theorem plain_1_5 (who : Int) (cell text : Bs) (cols : Bool) (n tor bits : Int) (w : World) : Calls Tryd.prog 7 #[.agg (lnC 1 ⟨5, who, cell, text, cols, n, tor, bits⟩)] w fun e w' => e = .returned (.agg (lnC 1 ⟨5, 0, [], [], false, n, 0, 0⟩)) ∧ Below w.heap.size w w' := by
  obtain ⟨x, hx⟩ : ∃ x : Stp, ⟨5, who, cell, text, cols, n, tor, bits⟩ = x := ⟨_, rfl⟩
  have hcc : ∀ (w : World) b, RlB w b 1 x → RlB w b 1 ⟨5, who, cell, text, cols, n, tor, bits⟩ := by subst hx; exact fun _ _ h => h
  rw [hx]
  clear hx
  obtain ⟨hh0, hh1⟩ := two_new w (.cells (lnC 1 x) tRl) (.cells (lnC 0 st0) tRl)
  have hA0 : Hid (RlB ((w.alloc (.cells (lnC 1 x) tRl)).alloc (.cells (lnC 0 st0) tRl)) w.heap.size 1 x) := hh0
  have hA1 : Hid (RlB ((w.alloc (.cells (lnC 1 x) tRl)).alloc (.cells (lnC 0 st0) tRl)) (w.heap.size + 1) 0 st0) := hh1
  have hAB : Hid (Below w.heap.size w ((w.alloc (.cells (lnC 1 x) tRl)).alloc (.cells (lnC 0 st0) tRl))) := by unfold Hid; (repeat' (first | (with_reducible exact Below.refl _ _) | (with_reducible assumption) | (with_reducible refine Below.alloc ?_ ?_ _) | (with_reducible refine bel_drewN ?_ _) | (with_reducible refine Below.drew ?_) | (with_reducible refine Below.setCell ?_ ?_ _) | (with_reducible refine bel_call ‹_› ?_ ?_) | go_size))
  have hAz : ((w.alloc (.cells (lnC 1 x) tRl)).alloc (.cells (lnC 0 st0) tRl)).heap.size = w.heap.size + 2 := by simp
  clear hh0 hh1
  go_enter Tryd.func7, Tryd.ntmps7
  go_upto_region 1 with fail
  have e0 : (w.alloc (.cells (lnC 1 x) tRl)).alloc (.cells #[.int .i64 0, .int .i64 0, .int .i64 0, .string ⟨#[]⟩, .string ⟨#[]⟩, .bool false, .int .i64 0, .int .i64 0, .int .u8 0] tRl) = ((w.alloc (.cells (lnC 1 x) tRl)).alloc (.cells (lnC 0 st0) tRl)) := rfl
  rw [e0]
  clear e0
  generalize ((w.alloc (.cells (lnC 1 x) tRl)).alloc (.cells (lnC 0 st0) tRl)) = w0 at hA0 hA1 hAB hAz ⊢
  obtain ⟨c0, c1, c2, c3, c4, c5, c6, c7, c8⟩ := (hcc _ _ hA0.out).cells
  clear hcc hA0
  simp only at c0 c1 c2 c3 c4 c5 c6 c7 c8
  go_upto_region 2 with fail
  have e1 : w0.alloc (.cells #[.int .i64 1, .int .i64 0, .int .i64 0, .string ⟨#[]⟩, .string ⟨#[]⟩, .bool false, .int .i64 0, .int .i64 0, .int .u8 0] tRl) = w0.alloc (.cells (lnC 1 st0) tRl) := rfl
  rw [e1]
  clear e1
  have g1 : Hid (RlB (w0.alloc (.cells (lnC 1 st0) tRl)) (w.heap.size + 2) 1 st0) := by
    unfold Hid
    have := heap_alloc_new w0 (.cells (lnC 1 st0) tRl)
    rw [hAz] at this
    exact this
  have g0 : Hid (RlB (w0.alloc (.cells (lnC 1 st0) tRl)) (w.heap.size + 1) 0 st0) := hA1.out.below (by (repeat' (first | (with_reducible exact Below.refl _ _) | (with_reducible assumption) | (with_reducible refine Below.alloc ?_ ?_ _) | (with_reducible refine bel_drewN ?_ _) | (with_reducible refine Below.drew ?_) | (with_reducible refine Below.setCell ?_ ?_ _) | (with_reducible refine bel_call ‹_› ?_ ?_) | go_size)))
  have hAB1 : Hid (Below w.heap.size w (w0.alloc (.cells (lnC 1 st0) tRl))) := by unfold Hid; have := hAB.out; (repeat' (first | (with_reducible exact Below.refl _ _) | (with_reducible assumption) | (with_reducible refine Below.alloc ?_ ?_ _) | (with_reducible refine bel_drewN ?_ _) | (with_reducible refine Below.drew ?_) | (with_reducible refine Below.setCell ?_ ?_ _) | (with_reducible refine bel_call ‹_› ?_ ?_) | go_size))
  have q0 : (w0.alloc (.cells (lnC 1 st0) tRl)).cell? ⟨w.heap.size, 0, none⟩ = _ := (by go_simp : _ = w0.cell? ⟨w.heap.size, 0, none⟩).trans c0
  have q1 : (w0.alloc (.cells (lnC 1 st0) tRl)).cell? ⟨w.heap.size, 1, none⟩ = _ := (by go_simp : _ = w0.cell? ⟨w.heap.size, 1, none⟩).trans c1
  have q2 : (w0.alloc (.cells (lnC 1 st0) tRl)).cell? ⟨w.heap.size, 2, none⟩ = _ := (by go_simp : _ = w0.cell? ⟨w.heap.size, 2, none⟩).trans c2
  have q3 : (w0.alloc (.cells (lnC 1 st0) tRl)).cell? ⟨w.heap.size, 3, none⟩ = _ := (by go_simp : _ = w0.cell? ⟨w.heap.size, 3, none⟩).trans c3
  have q4 : (w0.alloc (.cells (lnC 1 st0) tRl)).cell? ⟨w.heap.size, 4, none⟩ = _ := (by go_simp : _ = w0.cell? ⟨w.heap.size, 4, none⟩).trans c4
  have q5 : (w0.alloc (.cells (lnC 1 st0) tRl)).cell? ⟨w.heap.size, 5, none⟩ = _ := (by go_simp : _ = w0.cell? ⟨w.heap.size, 5, none⟩).trans c5
  have q6 : (w0.alloc (.cells (lnC 1 st0) tRl)).cell? ⟨w.heap.size, 6, none⟩ = _ := (by go_simp : _ = w0.cell? ⟨w.heap.size, 6, none⟩).trans c6
  have q7 : (w0.alloc (.cells (lnC 1 st0) tRl)).cell? ⟨w.heap.size, 7, none⟩ = _ := (by go_simp : _ = w0.cell? ⟨w.heap.size, 7, none⟩).trans c7
  have q8 : (w0.alloc (.cells (lnC 1 st0) tRl)).cell? ⟨w.heap.size, 8, none⟩ = _ := (by go_simp : _ = w0.cell? ⟨w.heap.size, 8, none⟩).trans c8
  clear c0 c1 c2 c3 c4 c5 c6 c7 c8 hAz hA1 hAB
  generalize w0.alloc (.cells (lnC 1 st0) tRl) = w1 at g1 g0 hAB1 q0 q1 q2 q3 q4 q5 q6 q7 q8 ⊢
  obtain ⟨f0, f1, f2, f3, f4, f5, f6, f7, f8⟩ := g1.out.fz
  obtain ⟨p0, p1, p2, p3, p4, p5, p6, p7, p8⟩ := g1.out.cells
  go_upto_region 22 with fail
  clear q0 q1 q2 q3 q4 q5 q6 q7 q8 p0 p1 p2 p3 p4 p5 p6 p7 p8 f0 f1 f2 f3 f4 f5 f6 f7 f8
  have g2 : Hid (RlB ((w1.setCell ⟨w.heap.size + 2, 1, none⟩ (.int .i64 5)).setCell ⟨w.heap.size + 2, 6, none⟩ (.int .i64 n)) (w.heap.size + 2) 1 ⟨5, 0, [], [], false, n, 0, 0⟩) := (RlB.set6 (RlB.set1 g1.out 5) n)
  have g3 : Hid (RlB ((w1.setCell ⟨w.heap.size + 2, 1, none⟩ (.int .i64 5)).setCell ⟨w.heap.size + 2, 6, none⟩ (.int .i64 n)) (w.heap.size + 1) 0 st0) := (RlB.other (RlB.other g0.out (by omega) _ _) (by omega) _ _)
  have hAB2 : Hid (Below w.heap.size w ((w1.setCell ⟨w.heap.size + 2, 1, none⟩ (.int .i64 5)).setCell ⟨w.heap.size + 2, 6, none⟩ (.int .i64 n))) := by have := hAB1.out; unfold Hid; (repeat' (first | (with_reducible exact Below.refl _ _) | (with_reducible assumption) | (with_reducible refine Below.alloc ?_ ?_ _) | (with_reducible refine bel_drewN ?_ _) | (with_reducible refine Below.drew ?_) | (with_reducible refine Below.setCell ?_ ?_ _) | (with_reducible refine bel_call ‹_› ?_ ?_) | go_size))
  generalize ((w1.setCell ⟨w.heap.size + 2, 1, none⟩ (.int .i64 5)).setCell ⟨w.heap.size + 2, 6, none⟩ (.int .i64 n)) = w2 at g2 g3 hAB2 ⊢
  clear g1 g0 hAB1
  obtain ⟨c0, c1, c2, c3, c4, c5, c6, c7, c8⟩ := g2.out.cells
  obtain ⟨d0, d1, d2, d3, d4, d5, d6, d7, d8⟩ := g3.out.cells
  obtain ⟨f0, f1, f2, f3, f4, f5, f6, f7, f8⟩ := g3.out.fz
  simp only [st0] at c0 c1 c2 c3 c4 c5 c6 c7 c8
  go_wp2_with fail
  have gz : Hid (RlB (((((((((w2.setCell ⟨w.heap.size + 1, 0, none⟩ (.int .i64 1)).setCell ⟨w.heap.size + 1, 1, none⟩ (.int .i64 5)).setCell ⟨w.heap.size + 1, 2, none⟩ (.int .i64 0)).setCell ⟨w.heap.size + 1, 3, none⟩ (.string ⟨#[]⟩)).setCell ⟨w.heap.size + 1, 4, none⟩ (.string ⟨#[]⟩)).setCell ⟨w.heap.size + 1, 5, none⟩ (.bool false)).setCell ⟨w.heap.size + 1, 6, none⟩ (.int .i64 n)).setCell ⟨w.heap.size + 1, 7, none⟩ (.int .i64 0)).setCell ⟨w.heap.size + 1, 8, none⟩ (.int .u8 0)) (w.heap.size + 1) 1 ⟨5, 0, [], [], false, n, 0, 0⟩) := RlB.store g3.out 1 ⟨5, 0, [], [], false, n, 0, 0⟩
  have hBz : Hid (Below w.heap.size w (((((((((w2.setCell ⟨w.heap.size + 1, 0, none⟩ (.int .i64 1)).setCell ⟨w.heap.size + 1, 1, none⟩ (.int .i64 5)).setCell ⟨w.heap.size + 1, 2, none⟩ (.int .i64 0)).setCell ⟨w.heap.size + 1, 3, none⟩ (.string ⟨#[]⟩)).setCell ⟨w.heap.size + 1, 4, none⟩ (.string ⟨#[]⟩)).setCell ⟨w.heap.size + 1, 5, none⟩ (.bool false)).setCell ⟨w.heap.size + 1, 6, none⟩ (.int .i64 n)).setCell ⟨w.heap.size + 1, 7, none⟩ (.int .i64 0)).setCell ⟨w.heap.size + 1, 8, none⟩ (.int .u8 0))) := by have := hAB2.out; unfold Hid; (repeat' (first | (with_reducible exact Below.refl _ _) | (with_reducible assumption) | (with_reducible refine Below.alloc ?_ ?_ _) | (with_reducible refine bel_drewN ?_ _) | (with_reducible refine Below.drew ?_) | (with_reducible refine Below.setCell ?_ ?_ _) | (with_reducible refine bel_call ‹_› ?_ ?_) | go_size))
  clear c0 c1 c2 c3 c4 c5 c6 c7 c8 f0 f1 f2 f3 f4 f5 f6 f7 f8 d0 d1 d2 d3 d4 d5 d6 d7 d8
  generalize (((((((((w2.setCell ⟨w.heap.size + 1, 0, none⟩ (.int .i64 1)).setCell ⟨w.heap.size + 1, 1, none⟩ (.int .i64 5)).setCell ⟨w.heap.size + 1, 2, none⟩ (.int .i64 0)).setCell ⟨w.heap.size + 1, 3, none⟩ (.string ⟨#[]⟩)).setCell ⟨w.heap.size + 1, 4, none⟩ (.string ⟨#[]⟩)).setCell ⟨w.heap.size + 1, 5, none⟩ (.bool false)).setCell ⟨w.heap.size + 1, 6, none⟩ (.int .i64 n)).setCell ⟨w.heap.size + 1, 7, none⟩ (.int .i64 0)).setCell ⟨w.heap.size + 1, 8, none⟩ (.int .u8 0)) = wz at gz hBz ⊢
  obtain ⟨c0, c1, c2, c3, c4, c5, c6, c7, c8⟩ := gz.out.cells
  simp only at c0 c1 c2 c3 c4 c5 c6 c7 c8
  refine bodyPost_ret (v := .agg (lnC 1 ⟨5, 0, [], [], false, n, 0, 0⟩)) (by simp only [results, Tryd.results7]; go_simp; rfl) rfl ⟨rfl, by have := hBz.out; (repeat' (first | (with_reducible exact Below.refl _ _) | (with_reducible assumption) | (with_reducible refine Below.alloc ?_ ?_ _) | (with_reducible refine bel_drewN ?_ _) | (with_reducible refine Below.drew ?_) | (with_reducible refine Below.setCell ?_ ?_ _) | (with_reducible refine bel_call ‹_› ?_ ?_) | go_size))⟩

set_option maxRecDepth 100000 in
set_option maxHeartbeats 4000000 in
theorem plain_1_6 (who : Int) (cell text : Bs) (cols : Bool) (n tor bits : Int) (w : World) : Calls Tryd.prog 7 #[.agg (lnC 1 ⟨6, who, cell, text, cols, n, tor, bits⟩)] w fun e w' => e = .returned (.agg (lnC 1 ⟨6, 0, [], [], false, n, tor, bits⟩)) ∧ Below w.heap.size w w' := by
  obtain ⟨x, hx⟩ : ∃ x : Stp, ⟨6, who, cell, text, cols, n, tor, bits⟩ = x := ⟨_, rfl⟩
  have hcc : ∀ (w : World) b, RlB w b 1 x → RlB w b 1 ⟨6, who, cell, text, cols, n, tor, bits⟩ := by subst hx; exact fun _ _ h => h
  rw [hx]
  clear hx
  obtain ⟨hh0, hh1⟩ := two_new w (.cells (lnC 1 x) tRl) (.cells (lnC 0 st0) tRl)
  have hA0 : Hid (RlB ((w.alloc (.cells (lnC 1 x) tRl)).alloc (.cells (lnC 0 st0) tRl)) w.heap.size 1 x) := hh0
  have hA1 : Hid (RlB ((w.alloc (.cells (lnC 1 x) tRl)).alloc (.cells (lnC 0 st0) tRl)) (w.heap.size + 1) 0 st0) := hh1
  have hAB : Hid (Below w.heap.size w ((w.alloc (.cells (lnC 1 x) tRl)).alloc (.cells (lnC 0 st0) tRl))) := by unfold Hid; (repeat' (first | (with_reducible exact Below.refl _ _) | (with_reducible assumption) | (with_reducible refine Below.alloc ?_ ?_ _) | (with_reducible refine bel_drewN ?_ _) | (with_reducible refine Below.drew ?_) | (with_reducible refine Below.setCell ?_ ?_ _) | (with_reducible refine bel_call ‹_› ?_ ?_) | go_size))
  have hAz : ((w.alloc (.cells (lnC 1 x) tRl)).alloc (.cells (lnC 0 st0) tRl)).heap.size = w.heap.size + 2 := by simp
  clear hh0 hh1
  go_enter Tryd.func7, Tryd.ntmps7
  go_upto_region 1 with fail
  have e0 : (w.alloc (.cells (lnC 1 x) tRl)).alloc (.cells #[.int .i64 0, .int .i64 0, .int .i64 0, .string ⟨#[]⟩, .string ⟨#[]⟩, .bool false, .int .i64 0, .int .i64 0, .int .u8 0] tRl) = ((w.alloc (.cells (lnC 1 x) tRl)).alloc (.cells (lnC 0 st0) tRl)) := rfl
  rw [e0]
  clear e0
  generalize ((w.alloc (.cells (lnC 1 x) tRl)).alloc (.cells (lnC 0 st0) tRl)) = w0 at hA0 hA1 hAB hAz ⊢
  obtain ⟨c0, c1, c2, c3, c4, c5, c6, c7, c8⟩ := (hcc _ _ hA0.out).cells
  clear hcc hA0
  simp only at c0 c1 c2 c3 c4 c5 c6 c7 c8
  go_upto_region 2 with fail
  have e1 : w0.alloc (.cells #[.int .i64 1, .int .i64 0, .int .i64 0, .string ⟨#[]⟩, .string ⟨#[]⟩, .bool false, .int .i64 0, .int .i64 0, .int .u8 0] tRl) = w0.alloc (.cells (lnC 1 st0) tRl) := rfl
  rw [e1]
  clear e1
  have g1 : Hid (RlB (w0.alloc (.cells (lnC 1 st0) tRl)) (w.heap.size + 2) 1 st0) := by
    unfold Hid
    have := heap_alloc_new w0 (.cells (lnC 1 st0) tRl)
    rw [hAz] at this
    exact this
  have g0 : Hid (RlB (w0.alloc (.cells (lnC 1 st0) tRl)) (w.heap.size + 1) 0 st0) := hA1.out.below (by (repeat' (first | (with_reducible exact Below.refl _ _) | (with_reducible assumption) | (with_reducible refine Below.alloc ?_ ?_ _) | (with_reducible refine bel_drewN ?_ _) | (with_reducible refine Below.drew ?_) | (with_reducible refine Below.setCell ?_ ?_ _) | (with_reducible refine bel_call ‹_› ?_ ?_) | go_size)))
  have hAB1 : Hid (Below w.heap.size w (w0.alloc (.cells (lnC 1 st0) tRl))) := by unfold Hid; have := hAB.out; (repeat' (first | (with_reducible exact Below.refl _ _) | (with_reducible assumption) | (with_reducible refine Below.alloc ?_ ?_ _) | (with_reducible refine bel_drewN ?_ _) | (with_reducible refine Below.drew ?_) | (with_reducible refine Below.setCell ?_ ?_ _) | (with_reducible refine bel_call ‹_› ?_ ?_) | go_size))
  have q0 : (w0.alloc (.cells (lnC 1 st0) tRl)).cell? ⟨w.heap.size, 0, none⟩ = _ := (by go_simp : _ = w0.cell? ⟨w.heap.size, 0, none⟩).trans c0
  have q1 : (w0.alloc (.cells (lnC 1 st0) tRl)).cell? ⟨w.heap.size, 1, none⟩ = _ := (by go_simp : _ = w0.cell? ⟨w.heap.size, 1, none⟩).trans c1
  have q2 : (w0.alloc (.cells (lnC 1 st0) tRl)).cell? ⟨w.heap.size, 2, none⟩ = _ := (by go_simp : _ = w0.cell? ⟨w.heap.size, 2, none⟩).trans c2
  have q3 : (w0.alloc (.cells (lnC 1 st0) tRl)).cell? ⟨w.heap.size, 3, none⟩ = _ := (by go_simp : _ = w0.cell? ⟨w.heap.size, 3, none⟩).trans c3
  have q4 : (w0.alloc (.cells (lnC 1 st0) tRl)).cell? ⟨w.heap.size, 4, none⟩ = _ := (by go_simp : _ = w0.cell? ⟨w.heap.size, 4, none⟩).trans c4
  have q5 : (w0.alloc (.cells (lnC 1 st0) tRl)).cell? ⟨w.heap.size, 5, none⟩ = _ := (by go_simp : _ = w0.cell? ⟨w.heap.size, 5, none⟩).trans c5
  have q6 : (w0.alloc (.cells (lnC 1 st0) tRl)).cell? ⟨w.heap.size, 6, none⟩ = _ := (by go_simp : _ = w0.cell? ⟨w.heap.size, 6, none⟩).trans c6
  have q7 : (w0.alloc (.cells (lnC 1 st0) tRl)).cell? ⟨w.heap.size, 7, none⟩ = _ := (by go_simp : _ = w0.cell? ⟨w.heap.size, 7, none⟩).trans c7
  have q8 : (w0.alloc (.cells (lnC 1 st0) tRl)).cell? ⟨w.heap.size, 8, none⟩ = _ := (by go_simp : _ = w0.cell? ⟨w.heap.size, 8, none⟩).trans c8
  clear c0 c1 c2 c3 c4 c5 c6 c7 c8 hAz hA1 hAB
  generalize w0.alloc (.cells (lnC 1 st0) tRl) = w1 at g1 g0 hAB1 q0 q1 q2 q3 q4 q5 q6 q7 q8 ⊢
  obtain ⟨f0, f1, f2, f3, f4, f5, f6, f7, f8⟩ := g1.out.fz
  obtain ⟨p0, p1, p2, p3, p4, p5, p6, p7, p8⟩ := g1.out.cells
  go_upto_region 22 with fail
  clear q0 q1 q2 q3 q4 q5 q6 q7 q8 p0 p1 p2 p3 p4 p5 p6 p7 p8 f0 f1 f2 f3 f4 f5 f6 f7 f8
  have g2 : Hid (RlB ((((w1.setCell ⟨w.heap.size + 2, 1, none⟩ (.int .i64 6)).setCell ⟨w.heap.size + 2, 6, none⟩ (.int .i64 n)).setCell ⟨w.heap.size + 2, 7, none⟩ (.int .i64 tor)).setCell ⟨w.heap.size + 2, 8, none⟩ (.int .u8 bits)) (w.heap.size + 2) 1 ⟨6, 0, [], [], false, n, tor, bits⟩) := (RlB.set8 (RlB.set7 (RlB.set6 (RlB.set1 g1.out 6) n) tor) bits)
  have g3 : Hid (RlB ((((w1.setCell ⟨w.heap.size + 2, 1, none⟩ (.int .i64 6)).setCell ⟨w.heap.size + 2, 6, none⟩ (.int .i64 n)).setCell ⟨w.heap.size + 2, 7, none⟩ (.int .i64 tor)).setCell ⟨w.heap.size + 2, 8, none⟩ (.int .u8 bits)) (w.heap.size + 1) 0 st0) := (RlB.other (RlB.other (RlB.other (RlB.other g0.out (by omega) _ _) (by omega) _ _) (by omega) _ _) (by omega) _ _)
  have hAB2 : Hid (Below w.heap.size w ((((w1.setCell ⟨w.heap.size + 2, 1, none⟩ (.int .i64 6)).setCell ⟨w.heap.size + 2, 6, none⟩ (.int .i64 n)).setCell ⟨w.heap.size + 2, 7, none⟩ (.int .i64 tor)).setCell ⟨w.heap.size + 2, 8, none⟩ (.int .u8 bits))) := by have := hAB1.out; unfold Hid; (repeat' (first | (with_reducible exact Below.refl _ _) | (with_reducible assumption) | (with_reducible refine Below.alloc ?_ ?_ _) | (with_reducible refine bel_drewN ?_ _) | (with_reducible refine Below.drew ?_) | (with_reducible refine Below.setCell ?_ ?_ _) | (with_reducible refine bel_call ‹_› ?_ ?_) | go_size))
  generalize ((((w1.setCell ⟨w.heap.size + 2, 1, none⟩ (.int .i64 6)).setCell ⟨w.heap.size + 2, 6, none⟩ (.int .i64 n)).setCell ⟨w.heap.size + 2, 7, none⟩ (.int .i64 tor)).setCell ⟨w.heap.size + 2, 8, none⟩ (.int .u8 bits)) = w2 at g2 g3 hAB2 ⊢
  clear g1 g0 hAB1
  obtain ⟨c0, c1, c2, c3, c4, c5, c6, c7, c8⟩ := g2.out.cells
  obtain ⟨d0, d1, d2, d3, d4, d5, d6, d7, d8⟩ := g3.out.cells
  obtain ⟨f0, f1, f2, f3, f4, f5, f6, f7, f8⟩ := g3.out.fz
  simp only [st0] at c0 c1 c2 c3 c4 c5 c6 c7 c8
  go_wp2_with fail
  have gz : Hid (RlB (((((((((w2.setCell ⟨w.heap.size + 1, 0, none⟩ (.int .i64 1)).setCell ⟨w.heap.size + 1, 1, none⟩ (.int .i64 6)).setCell ⟨w.heap.size + 1, 2, none⟩ (.int .i64 0)).setCell ⟨w.heap.size + 1, 3, none⟩ (.string ⟨#[]⟩)).setCell ⟨w.heap.size + 1, 4, none⟩ (.string ⟨#[]⟩)).setCell ⟨w.heap.size + 1, 5, none⟩ (.bool false)).setCell ⟨w.heap.size + 1, 6, none⟩ (.int .i64 n)).setCell ⟨w.heap.size + 1, 7, none⟩ (.int .i64 tor)).setCell ⟨w.heap.size + 1, 8, none⟩ (.int .u8 bits)) (w.heap.size + 1) 1 ⟨6, 0, [], [], false, n, tor, bits⟩) := RlB.store g3.out 1 ⟨6, 0, [], [], false, n, tor, bits⟩
  have hBz : Hid (Below w.heap.size w (((((((((w2.setCell ⟨w.heap.size + 1, 0, none⟩ (.int .i64 1)).setCell ⟨w.heap.size + 1, 1, none⟩ (.int .i64 6)).setCell ⟨w.heap.size + 1, 2, none⟩ (.int .i64 0)).setCell ⟨w.heap.size + 1, 3, none⟩ (.string ⟨#[]⟩)).setCell ⟨w.heap.size + 1, 4, none⟩ (.string ⟨#[]⟩)).setCell ⟨w.heap.size + 1, 5, none⟩ (.bool false)).setCell ⟨w.heap.size + 1, 6, none⟩ (.int .i64 n)).setCell ⟨w.heap.size + 1, 7, none⟩ (.int .i64 tor)).setCell ⟨w.heap.size + 1, 8, none⟩ (.int .u8 bits))) := by have := hAB2.out; unfold Hid; (repeat' (first | (with_reducible exact Below.refl _ _) | (with_reducible assumption) | (with_reducible refine Below.alloc ?_ ?_ _) | (with_reducible refine bel_drewN ?_ _) | (with_reducible refine Below.drew ?_) | (with_reducible refine Below.setCell ?_ ?_ _) | (with_reducible refine bel_call ‹_› ?_ ?_) | go_size))
  clear c0 c1 c2 c3 c4 c5 c6 c7 c8 f0 f1 f2 f3 f4 f5 f6 f7 f8 d0 d1 d2 d3 d4 d5 d6 d7 d8
  generalize (((((((((w2.setCell ⟨w.heap.size + 1, 0, none⟩ (.int .i64 1)).setCell ⟨w.heap.size + 1, 1, none⟩ (.int .i64 6)).setCell ⟨w.heap.size + 1, 2, none⟩ (.int .i64 0)).setCell ⟨w.heap.size + 1, 3, none⟩ (.string ⟨#[]⟩)).setCell ⟨w.heap.size + 1, 4, none⟩ (.string ⟨#[]⟩)).setCell ⟨w.heap.size + 1, 5, none⟩ (.bool false)).setCell ⟨w.heap.size + 1, 6, none⟩ (.int .i64 n)).setCell ⟨w.heap.size + 1, 7, none⟩ (.int .i64 tor)).setCell ⟨w.heap.size + 1, 8, none⟩ (.int .u8 bits)) = wz at gz hBz ⊢
  obtain ⟨c0, c1, c2, c3, c4, c5, c6, c7, c8⟩ := gz.out.cells
  simp only at c0 c1 c2 c3 c4 c5 c6 c7 c8
  refine bodyPost_ret (v := .agg (lnC 1 ⟨6, 0, [], [], false, n, tor, bits⟩)) (by simp only [results, Tryd.results7]; go_simp; rfl) rfl ⟨rfl, by have := hBz.out; (repeat' (first | (with_reducible exact Below.refl _ _) | (with_reducible assumption) | (with_reducible refine Below.alloc ?_ ?_ _) | (with_reducible refine bel_drewN ?_ _) | (with_reducible refine Below.drew ?_) | (with_reducible refine Below.setCell ?_ ?_ _) | (with_reducible refine bel_call ‹_› ?_ ?_) | go_size))⟩

set_option maxRecDepth 100000 in
set_option maxHeartbeats 4000000 in
theorem plain_1_7 (who : Int) (cell text : Bs) (cols : Bool) (n tor bits : Int) (w : World) : Calls Tryd.prog 7 #[.agg (lnC 1 ⟨7, who, cell, text, cols, n, tor, bits⟩)] w fun e w' => e = .returned (.agg (lnC 1 ⟨7, who, [], [], false, 0, tor, 0⟩)) ∧ Below w.heap.size w w' := by
  obtain ⟨x, hx⟩ : ∃ x : Stp, ⟨7, who, cell, text, cols, n, tor, bits⟩ = x := ⟨_, rfl⟩
  have hcc : ∀ (w : World) b, RlB w b 1 x → RlB w b 1 ⟨7, who, cell, text, cols, n, tor, bits⟩ := by subst hx; exact fun _ _ h => h
  rw [hx]
  clear hx
  obtain ⟨hh0, hh1⟩ := two_new w (.cells (lnC 1 x) tRl) (.cells (lnC 0 st0) tRl)
  have hA0 : Hid (RlB ((w.alloc (.cells (lnC 1 x) tRl)).alloc (.cells (lnC 0 st0) tRl)) w.heap.size 1 x) := hh0
  have hA1 : Hid (RlB ((w.alloc (.cells (lnC 1 x) tRl)).alloc (.cells (lnC 0 st0) tRl)) (w.heap.size + 1) 0 st0) := hh1
  have hAB : Hid (Below w.heap.size w ((w.alloc (.cells (lnC 1 x) tRl)).alloc (.cells (lnC 0 st0) tRl))) := by unfold Hid; (repeat' (first | (with_reducible exact Below.refl _ _) | (with_reducible assumption) | (with_reducible refine Below.alloc ?_ ?_ _) | (with_reducible refine bel_drewN ?_ _) | (with_reducible refine Below.drew ?_) | (with_reducible refine Below.setCell ?_ ?_ _) | (with_reducible refine bel_call ‹_› ?_ ?_) | go_size))
  have hAz : ((w.alloc (.cells (lnC 1 x) tRl)).alloc (.cells (lnC 0 st0) tRl)).heap.size = w.heap.size + 2 := by simp
  clear hh0 hh1
  go_enter Tryd.func7, Tryd.ntmps7
  go_upto_region 1 with fail
  have e0 : (w.alloc (.cells (lnC 1 x) tRl)).alloc (.cells #[.int .i64 0, .int .i64 0, .int .i64 0, .string ⟨#[]⟩, .string ⟨#[]⟩, .bool false, .int .i64 0, .int .i64 0, .int .u8 0] tRl) = ((w.alloc (.cells (lnC 1 x) tRl)).alloc (.cells (lnC 0 st0) tRl)) := rfl
  rw [e0]
  clear e0
  generalize ((w.alloc (.cells (lnC 1 x) tRl)).alloc (.cells (lnC 0 st0) tRl)) = w0 at hA0 hA1 hAB hAz ⊢
  obtain ⟨c0, c1, c2, c3, c4, c5, c6, c7, c8⟩ := (hcc _ _ hA0.out).cells
  clear hcc hA0
  simp only at c0 c1 c2 c3 c4 c5 c6 c7 c8
  go_upto_region 2 with fail
  have e1 : w0.alloc (.cells #[.int .i64 1, .int .i64 0, .int .i64 0, .string ⟨#[]⟩, .string ⟨#[]⟩, .bool false, .int .i64 0, .int .i64 0, .int .u8 0] tRl) = w0.alloc (.cells (lnC 1 st0) tRl) := rfl
  rw [e1]
  clear e1
  have g1 : Hid (RlB (w0.alloc (.cells (lnC 1 st0) tRl)) (w.heap.size + 2) 1 st0) := by
    unfold Hid
    have := heap_alloc_new w0 (.cells (lnC 1 st0) tRl)
    rw [hAz] at this
    exact this
  have g0 : Hid (RlB (w0.alloc (.cells (lnC 1 st0) tRl)) (w.heap.size + 1) 0 st0) := hA1.out.below (by (repeat' (first | (with_reducible exact Below.refl _ _) | (with_reducible assumption) | (with_reducible refine Below.alloc ?_ ?_ _) | (with_reducible refine bel_drewN ?_ _) | (with_reducible refine Below.drew ?_) | (with_reducible refine Below.setCell ?_ ?_ _) | (with_reducible refine bel_call ‹_› ?_ ?_) | go_size)))
  have hAB1 : Hid (Below w.heap.size w (w0.alloc (.cells (lnC 1 st0) tRl))) := by unfold Hid; have := hAB.out; (repeat' (first | (with_reducible exact Below.refl _ _) | (with_reducible assumption) | (with_reducible refine Below.alloc ?_ ?_ _) | (with_reducible refine bel_drewN ?_ _) | (with_reducible refine Below.drew ?_) | (with_reducible refine Below.setCell ?_ ?_ _) | (with_reducible refine bel_call ‹_› ?_ ?_) | go_size))
  have q0 : (w0.alloc (.cells (lnC 1 st0) tRl)).cell? ⟨w.heap.size, 0, none⟩ = _ := (by go_simp : _ = w0.cell? ⟨w.heap.size, 0, none⟩).trans c0
  have q1 : (w0.alloc (.cells (lnC 1 st0) tRl)).cell? ⟨w.heap.size, 1, none⟩ = _ := (by go_simp : _ = w0.cell? ⟨w.heap.size, 1, none⟩).trans c1
  have q2 : (w0.alloc (.cells (lnC 1 st0) tRl)).cell? ⟨w.heap.size, 2, none⟩ = _ := (by go_simp : _ = w0.cell? ⟨w.heap.size, 2, none⟩).trans c2
  have q3 : (w0.alloc (.cells (lnC 1 st0) tRl)).cell? ⟨w.heap.size, 3, none⟩ = _ := (by go_simp : _ = w0.cell? ⟨w.heap.size, 3, none⟩).trans c3
  have q4 : (w0.alloc (.cells (lnC 1 st0) tRl)).cell? ⟨w.heap.size, 4, none⟩ = _ := (by go_simp : _ = w0.cell? ⟨w.heap.size, 4, none⟩).trans c4
  have q5 : (w0.alloc (.cells (lnC 1 st0) tRl)).cell? ⟨w.heap.size, 5, none⟩ = _ := (by go_simp : _ = w0.cell? ⟨w.heap.size, 5, none⟩).trans c5
  have q6 : (w0.alloc (.cells (lnC 1 st0) tRl)).cell? ⟨w.heap.size, 6, none⟩ = _ := (by go_simp : _ = w0.cell? ⟨w.heap.size, 6, none⟩).trans c6
  have q7 : (w0.alloc (.cells (lnC 1 st0) tRl)).cell? ⟨w.heap.size, 7, none⟩ = _ := (by go_simp : _ = w0.cell? ⟨w.heap.size, 7, none⟩).trans c7
  have q8 : (w0.alloc (.cells (lnC 1 st0) tRl)).cell? ⟨w.heap.size, 8, none⟩ = _ := (by go_simp : _ = w0.cell? ⟨w.heap.size, 8, none⟩).trans c8
  clear c0 c1 c2 c3 c4 c5 c6 c7 c8 hAz hA1 hAB
  generalize w0.alloc (.cells (lnC 1 st0) tRl) = w1 at g1 g0 hAB1 q0 q1 q2 q3 q4 q5 q6 q7 q8 ⊢
  obtain ⟨f0, f1, f2, f3, f4, f5, f6, f7, f8⟩ := g1.out.fz
  obtain ⟨p0, p1, p2, p3, p4, p5, p6, p7, p8⟩ := g1.out.cells
  go_upto_region 22 with fail
  clear q0 q1 q2 q3 q4 q5 q6 q7 q8 p0 p1 p2 p3 p4 p5 p6 p7 p8 f0 f1 f2 f3 f4 f5 f6 f7 f8
  have g2 : Hid (RlB (((w1.setCell ⟨w.heap.size + 2, 1, none⟩ (.int .i64 7)).setCell ⟨w.heap.size + 2, 2, none⟩ (.int .i64 who)).setCell ⟨w.heap.size + 2, 7, none⟩ (.int .i64 tor)) (w.heap.size + 2) 1 ⟨7, who, [], [], false, 0, tor, 0⟩) := (RlB.set7 (RlB.set2 (RlB.set1 g1.out 7) who) tor)
  have g3 : Hid (RlB (((w1.setCell ⟨w.heap.size + 2, 1, none⟩ (.int .i64 7)).setCell ⟨w.heap.size + 2, 2, none⟩ (.int .i64 who)).setCell ⟨w.heap.size + 2, 7, none⟩ (.int .i64 tor)) (w.heap.size + 1) 0 st0) := (RlB.other (RlB.other (RlB.other g0.out (by omega) _ _) (by omega) _ _) (by omega) _ _)
  have hAB2 : Hid (Below w.heap.size w (((w1.setCell ⟨w.heap.size + 2, 1, none⟩ (.int .i64 7)).setCell ⟨w.heap.size + 2, 2, none⟩ (.int .i64 who)).setCell ⟨w.heap.size + 2, 7, none⟩ (.int .i64 tor))) := by have := hAB1.out; unfold Hid; (repeat' (first | (with_reducible exact Below.refl _ _) | (with_reducible assumption) | (with_reducible refine Below.alloc ?_ ?_ _) | (with_reducible refine bel_drewN ?_ _) | (with_reducible refine Below.drew ?_) | (with_reducible refine Below.setCell ?_ ?_ _) | (with_reducible refine bel_call ‹_› ?_ ?_) | go_size))
  generalize (((w1.setCell ⟨w.heap.size + 2, 1, none⟩ (.int .i64 7)).setCell ⟨w.heap.size + 2, 2, none⟩ (.int .i64 who)).setCell ⟨w.heap.size + 2, 7, none⟩ (.int .i64 tor)) = w2 at g2 g3 hAB2 ⊢
  clear g1 g0 hAB1
  obtain ⟨c0, c1, c2, c3, c4, c5, c6, c7, c8⟩ := g2.out.cells
  obtain ⟨d0, d1, d2, d3, d4, d5, d6, d7, d8⟩ := g3.out.cells
  obtain ⟨f0, f1, f2, f3, f4, f5, f6, f7, f8⟩ := g3.out.fz
  simp only [st0] at c0 c1 c2 c3 c4 c5 c6 c7 c8
  go_wp2_with fail
  have gz : Hid (RlB (((((((((w2.setCell ⟨w.heap.size + 1, 0, none⟩ (.int .i64 1)).setCell ⟨w.heap.size + 1, 1, none⟩ (.int .i64 7)).setCell ⟨w.heap.size + 1, 2, none⟩ (.int .i64 who)).setCell ⟨w.heap.size + 1, 3, none⟩ (.string ⟨#[]⟩)).setCell ⟨w.heap.size + 1, 4, none⟩ (.string ⟨#[]⟩)).setCell ⟨w.heap.size + 1, 5, none⟩ (.bool false)).setCell ⟨w.heap.size + 1, 6, none⟩ (.int .i64 0)).setCell ⟨w.heap.size + 1, 7, none⟩ (.int .i64 tor)).setCell ⟨w.heap.size + 1, 8, none⟩ (.int .u8 0)) (w.heap.size + 1) 1 ⟨7, who, [], [], false, 0, tor, 0⟩) := RlB.store g3.out 1 ⟨7, who, [], [], false, 0, tor, 0⟩
  have hBz : Hid (Below w.heap.size w (((((((((w2.setCell ⟨w.heap.size + 1, 0, none⟩ (.int .i64 1)).setCell ⟨w.heap.size + 1, 1, none⟩ (.int .i64 7)).setCell ⟨w.heap.size + 1, 2, none⟩ (.int .i64 who)).setCell ⟨w.heap.size + 1, 3, none⟩ (.string ⟨#[]⟩)).setCell ⟨w.heap.size + 1, 4, none⟩ (.string ⟨#[]⟩)).setCell ⟨w.heap.size + 1, 5, none⟩ (.bool false)).setCell ⟨w.heap.size + 1, 6, none⟩ (.int .i64 0)).setCell ⟨w.heap.size + 1, 7, none⟩ (.int .i64 tor)).setCell ⟨w.heap.size + 1, 8, none⟩ (.int .u8 0))) := by have := hAB2.out; unfold Hid; (repeat' (first | (with_reducible exact Below.refl _ _) | (with_reducible assumption) | (with_reducible refine Below.alloc ?_ ?_ _) | (with_reducible refine bel_drewN ?_ _) | (with_reducible refine Below.drew ?_) | (with_reducible refine Below.setCell ?_ ?_ _) | (with_reducible refine bel_call ‹_› ?_ ?_) | go_size))
  clear c0 c1 c2 c3 c4 c5 c6 c7 c8 f0 f1 f2 f3 f4 f5 f6 f7 f8 d0 d1 d2 d3 d4 d5 d6 d7 d8
  generalize (((((((((w2.setCell ⟨w.heap.size + 1, 0, none⟩ (.int .i64 1)).setCell ⟨w.heap.size + 1, 1, none⟩ (.int .i64 7)).setCell ⟨w.heap.size + 1, 2, none⟩ (.int .i64 who)).setCell ⟨w.heap.size + 1, 3, none⟩ (.string ⟨#[]⟩)).setCell ⟨w.heap.size + 1, 4, none⟩ (.string ⟨#[]⟩)).setCell ⟨w.heap.size + 1, 5, none⟩ (.bool false)).setCell ⟨w.heap.size + 1, 6, none⟩ (.int .i64 0)).setCell ⟨w.heap.size + 1, 7, none⟩ (.int .i64 tor)).setCell ⟨w.heap.size + 1, 8, none⟩ (.int .u8 0)) = wz at gz hBz ⊢
  obtain ⟨c0, c1, c2, c3, c4, c5, c6, c7, c8⟩ := gz.out.cells
  simp only at c0 c1 c2 c3 c4 c5 c6 c7 c8
  refine bodyPost_ret (v := .agg (lnC 1 ⟨7, who, [], [], false, 0, tor, 0⟩)) (by simp only [results, Tryd.results7]; go_simp; rfl) rfl ⟨rfl, by have := hBz.out; (repeat' (first | (with_reducible exact Below.refl _ _) | (with_reducible assumption) | (with_reducible refine Below.alloc ?_ ?_ _) | (with_reducible refine bel_drewN ?_ _) | (with_reducible refine Below.drew ?_) | (with_reducible refine Below.setCell ?_ ?_ _) | (with_reducible refine bel_call ‹_› ?_ ?_) | go_size))⟩

set_option maxRecDepth 100000 in
set_option maxHeartbeats 4000000 in
theorem plain_1_8 (who : Int) (cell text : Bs) (cols : Bool) (n tor bits : Int) (w : World) : Calls Tryd.prog 7 #[.agg (lnC 1 ⟨8, who, cell, text, cols, n, tor, bits⟩)] w fun e w' => e = .returned (.agg (lnC 1 ⟨8, who, [], [], false, 0, tor, 0⟩)) ∧ Below w.heap.size w w' := by
  obtain ⟨x, hx⟩ : ∃ x : Stp, ⟨8, who, cell, text, cols, n, tor, bits⟩ = x := ⟨_, rfl⟩
  have hcc : ∀ (w : World) b, RlB w b 1 x → RlB w b 1 ⟨8, who, cell, text, cols, n, tor, bits⟩ := by subst hx; exact fun _ _ h => h
  rw [hx]
  clear hx
  obtain ⟨hh0, hh1⟩ := two_new w (.cells (lnC 1 x) tRl) (.cells (lnC 0 st0) tRl)
  have hA0 : Hid (RlB ((w.alloc (.cells (lnC 1 x) tRl)).alloc (.cells (lnC 0 st0) tRl)) w.heap.size 1 x) := hh0
  have hA1 : Hid (RlB ((w.alloc (.cells (lnC 1 x) tRl)).alloc (.cells (lnC 0 st0) tRl)) (w.heap.size + 1) 0 st0) := hh1
  have hAB : Hid (Below w.heap.size w ((w.alloc (.cells (lnC 1 x) tRl)).alloc (.cells (lnC 0 st0) tRl))) := by unfold Hid; (repeat' (first | (with_reducible exact Below.refl _ _) | (with_reducible assumption) | (with_reducible refine Below.alloc ?_ ?_ _) | (with_reducible refine bel_drewN ?_ _) | (with_reducible refine Below.drew ?_) | (with_reducible refine Below.setCell ?_ ?_ _) | (with_reducible refine bel_call ‹_› ?_ ?_) | go_size))
  have hAz : ((w.alloc (.cells (lnC 1 x) tRl)).alloc (.cells (lnC 0 st0) tRl)).heap.size = w.heap.size + 2 := by simp
  clear hh0 hh1
  go_enter Tryd.func7, Tryd.ntmps7
  go_upto_region 1 with fail
  have e0 : (w.alloc (.cells (lnC 1 x) tRl)).alloc (.cells #[.int .i64 0, .int .i64 0, .int .i64 0, .string ⟨#[]⟩, .string ⟨#[]⟩, .bool false, .int .i64 0, .int .i64 0, .int .u8 0] tRl) = ((w.alloc (.cells (lnC 1 x) tRl)).alloc (.cells (lnC 0 st0) tRl)) := rfl
  rw [e0]
  clear e0
  generalize ((w.alloc (.cells (lnC 1 x) tRl)).alloc (.cells (lnC 0 st0) tRl)) = w0 at hA0 hA1 hAB hAz ⊢
  obtain ⟨c0, c1, c2, c3, c4, c5, c6, c7, c8⟩ := (hcc _ _ hA0.out).cells
  clear hcc hA0
  simp only at c0 c1 c2 c3 c4 c5 c6 c7 c8
  go_upto_region 2 with fail
  have e1 : w0.alloc (.cells #[.int .i64 1, .int .i64 0, .int .i64 0, .string ⟨#[]⟩, .string ⟨#[]⟩, .bool false, .int .i64 0, .int .i64 0, .int .u8 0] tRl) = w0.alloc (.cells (lnC 1 st0) tRl) := rfl
  rw [e1]
  clear e1
  have g1 : Hid (RlB (w0.alloc (.cells (lnC 1 st0) tRl)) (w.heap.size + 2) 1 st0) := by
    unfold Hid
    have := heap_alloc_new w0 (.cells (lnC 1 st0) tRl)
    rw [hAz] at this
    exact this
  have g0 : Hid (RlB (w0.alloc (.cells (lnC 1 st0) tRl)) (w.heap.size + 1) 0 st0) := hA1.out.below (by (repeat' (first | (with_reducible exact Below.refl _ _) | (with_reducible assumption) | (with_reducible refine Below.alloc ?_ ?_ _) | (with_reducible refine bel_drewN ?_ _) | (with_reducible refine Below.drew ?_) | (with_reducible refine Below.setCell ?_ ?_ _) | (with_reducible refine bel_call ‹_› ?_ ?_) | go_size)))
  have hAB1 : Hid (Below w.heap.size w (w0.alloc (.cells (lnC 1 st0) tRl))) := by unfold Hid; have := hAB.out; (repeat' (first | (with_reducible exact Below.refl _ _) | (with_reducible assumption) | (with_reducible refine Below.alloc ?_ ?_ _) | (with_reducible refine bel_drewN ?_ _) | (with_reducible refine Below.drew ?_) | (with_reducible refine Below.setCell ?_ ?_ _) | (with_reducible refine bel_call ‹_› ?_ ?_) | go_size))
  have q0 : (w0.alloc (.cells (lnC 1 st0) tRl)).cell? ⟨w.heap.size, 0, none⟩ = _ := (by go_simp : _ = w0.cell? ⟨w.heap.size, 0, none⟩).trans c0
  have q1 : (w0.alloc (.cells (lnC 1 st0) tRl)).cell? ⟨w.heap.size, 1, none⟩ = _ := (by go_simp : _ = w0.cell? ⟨w.heap.size, 1, none⟩).trans c1
  have q2 : (w0.alloc (.cells (lnC 1 st0) tRl)).cell? ⟨w.heap.size, 2, none⟩ = _ := (by go_simp : _ = w0.cell? ⟨w.heap.size, 2, none⟩).trans c2
  have q3 : (w0.alloc (.cells (lnC 1 st0) tRl)).cell? ⟨w.heap.size, 3, none⟩ = _ := (by go_simp : _ = w0.cell? ⟨w.heap.size, 3, none⟩).trans c3
  have q4 : (w0.alloc (.cells (lnC 1 st0) tRl)).cell? ⟨w.heap.size, 4, none⟩ = _ := (by go_simp : _ = w0.cell? ⟨w.heap.size, 4, none⟩).trans c4
  have q5 : (w0.alloc (.cells (lnC 1 st0) tRl)).cell? ⟨w.heap.size, 5, none⟩ = _ := (by go_simp : _ = w0.cell? ⟨w.heap.size, 5, none⟩).trans c5
  have q6 : (w0.alloc (.cells (lnC 1 st0) tRl)).cell? ⟨w.heap.size, 6, none⟩ = _ := (by go_simp : _ = w0.cell? ⟨w.heap.size, 6, none⟩).trans c6
  have q7 : (w0.alloc (.cells (lnC 1 st0) tRl)).cell? ⟨w.heap.size, 7, none⟩ = _ := (by go_simp : _ = w0.cell? ⟨w.heap.size, 7, none⟩).trans c7
  have q8 : (w0.alloc (.cells (lnC 1 st0) tRl)).cell? ⟨w.heap.size, 8, none⟩ = _ := (by go_simp : _ = w0.cell? ⟨w.heap.size, 8, none⟩).trans c8
  clear c0 c1 c2 c3 c4 c5 c6 c7 c8 hAz hA1 hAB
  generalize w0.alloc (.cells (lnC 1 st0) tRl) = w1 at g1 g0 hAB1 q0 q1 q2 q3 q4 q5 q6 q7 q8 ⊢
  obtain ⟨f0, f1, f2, f3, f4, f5, f6, f7, f8⟩ := g1.out.fz
  obtain ⟨p0, p1, p2, p3, p4, p5, p6, p7, p8⟩ := g1.out.cells
  go_upto_region 22 with fail
  clear q0 q1 q2 q3 q4 q5 q6 q7 q8 p0 p1 p2 p3 p4 p5 p6 p7 p8 f0 f1 f2 f3 f4 f5 f6 f7 f8
  have g2 : Hid (RlB (((w1.setCell ⟨w.heap.size + 2, 1, none⟩ (.int .i64 8)).setCell ⟨w.heap.size + 2, 2, none⟩ (.int .i64 who)).setCell ⟨w.heap.size + 2, 7, none⟩ (.int .i64 tor)) (w.heap.size + 2) 1 ⟨8, who, [], [], false, 0, tor, 0⟩) := (RlB.set7 (RlB.set2 (RlB.set1 g1.out 8) who) tor)
  have g3 : Hid (RlB (((w1.setCell ⟨w.heap.size + 2, 1, none⟩ (.int .i64 8)).setCell ⟨w.heap.size + 2, 2, none⟩ (.int .i64 who)).setCell ⟨w.heap.size + 2, 7, none⟩ (.int .i64 tor)) (w.heap.size + 1) 0 st0) := (RlB.other (RlB.other (RlB.other g0.out (by omega) _ _) (by omega) _ _) (by omega) _ _)
  have hAB2 : Hid (Below w.heap.size w (((w1.setCell ⟨w.heap.size + 2, 1, none⟩ (.int .i64 8)).setCell ⟨w.heap.size + 2, 2, none⟩ (.int .i64 who)).setCell ⟨w.heap.size + 2, 7, none⟩ (.int .i64 tor))) := by have := hAB1.out; unfold Hid; (repeat' (first | (with_reducible exact Below.refl _ _) | (with_reducible assumption) | (with_reducible refine Below.alloc ?_ ?_ _) | (with_reducible refine bel_drewN ?_ _) | (with_reducible refine Below.drew ?_) | (with_reducible refine Below.setCell ?_ ?_ _) | (with_reducible refine bel_call ‹_› ?_ ?_) | go_size))
  generalize (((w1.setCell ⟨w.heap.size + 2, 1, none⟩ (.int .i64 8)).setCell ⟨w.heap.size + 2, 2, none⟩ (.int .i64 who)).setCell ⟨w.heap.size + 2, 7, none⟩ (.int .i64 tor)) = w2 at g2 g3 hAB2 ⊢
  clear g1 g0 hAB1
  obtain ⟨c0, c1, c2, c3, c4, c5, c6, c7, c8⟩ := g2.out.cells
  obtain ⟨d0, d1, d2, d3, d4, d5, d6, d7, d8⟩ := g3.out.cells
  obtain ⟨f0, f1, f2, f3, f4, f5, f6, f7, f8⟩ := g3.out.fz
  simp only [st0] at c0 c1 c2 c3 c4 c5 c6 c7 c8
  go_wp2_with fail
  have gz : Hid (RlB (((((((((w2.setCell ⟨w.heap.size + 1, 0, none⟩ (.int .i64 1)).setCell ⟨w.heap.size + 1, 1, none⟩ (.int .i64 8)).setCell ⟨w.heap.size + 1, 2, none⟩ (.int .i64 who)).setCell ⟨w.heap.size + 1, 3, none⟩ (.string ⟨#[]⟩)).setCell ⟨w.heap.size + 1, 4, none⟩ (.string ⟨#[]⟩)).setCell ⟨w.heap.size + 1, 5, none⟩ (.bool false)).setCell ⟨w.heap.size + 1, 6, none⟩ (.int .i64 0)).setCell ⟨w.heap.size + 1, 7, none⟩ (.int .i64 tor)).setCell ⟨w.heap.size + 1, 8, none⟩ (.int .u8 0)) (w.heap.size + 1) 1 ⟨8, who, [], [], false, 0, tor, 0⟩) := RlB.store g3.out 1 ⟨8, who, [], [], false, 0, tor, 0⟩
  have hBz : Hid (Below w.heap.size w (((((((((w2.setCell ⟨w.heap.size + 1, 0, none⟩ (.int .i64 1)).setCell ⟨w.heap.size + 1, 1, none⟩ (.int .i64 8)).setCell ⟨w.heap.size + 1, 2, none⟩ (.int .i64 who)).setCell ⟨w.heap.size + 1, 3, none⟩ (.string ⟨#[]⟩)).setCell ⟨w.heap.size + 1, 4, none⟩ (.string ⟨#[]⟩)).setCell ⟨w.heap.size + 1, 5, none⟩ (.bool false)).setCell ⟨w.heap.size + 1, 6, none⟩ (.int .i64 0)).setCell ⟨w.heap.size + 1, 7, none⟩ (.int .i64 tor)).setCell ⟨w.heap.size + 1, 8, none⟩ (.int .u8 0))) := by have := hAB2.out; unfold Hid; (repeat' (first | (with_reducible exact Below.refl _ _) | (with_reducible assumption) | (with_reducible refine Below.alloc ?_ ?_ _) | (with_reducible refine bel_drewN ?_ _) | (with_reducible refine Below.drew ?_) | (with_reducible refine Below.setCell ?_ ?_ _) | (with_reducible refine bel_call ‹_› ?_ ?_) | go_size))
  clear c0 c1 c2 c3 c4 c5 c6 c7 c8 f0 f1 f2 f3 f4 f5 f6 f7 f8 d0 d1 d2 d3 d4 d5 d6 d7 d8
  generalize (((((((((w2.setCell ⟨w.heap.size + 1, 0, none⟩ (.int .i64 1)).setCell ⟨w.heap.size + 1, 1, none⟩ (.int .i64 8)).setCell ⟨w.heap.size + 1, 2, none⟩ (.int .i64 who)).setCell ⟨w.heap.size + 1, 3, none⟩ (.string ⟨#[]⟩)).setCell ⟨w.heap.size + 1, 4, none⟩ (.string ⟨#[]⟩)).setCell ⟨w.heap.size + 1, 5, none⟩ (.bool false)).setCell ⟨w.heap.size + 1, 6, none⟩ (.int .i64 0)).setCell ⟨w.heap.size + 1, 7, none⟩ (.int .i64 tor)).setCell ⟨w.heap.size + 1, 8, none⟩ (.int .u8 0)) = wz at gz hBz ⊢
  obtain ⟨c0, c1, c2, c3, c4, c5, c6, c7, c8⟩ := gz.out.cells
  simp only at c0 c1 c2 c3 c4 c5 c6 c7 c8
  refine bodyPost_ret (v := .agg (lnC 1 ⟨8, who, [], [], false, 0, tor, 0⟩)) (by simp only [results, Tryd.results7]; go_simp; rfl) rfl ⟨rfl, by have := hBz.out; (repeat' (first | (with_reducible exact Below.refl _ _) | (with_reducible assumption) | (with_reducible refine Below.alloc ?_ ?_ _) | (with_reducible refine bel_drewN ?_ _) | (with_reducible refine Below.drew ?_) | (with_reducible refine Below.setCell ?_ ?_ _) | (with_reducible refine bel_call ‹_› ?_ ?_) | go_size))⟩

set_option maxRecDepth 100000 in
set_option maxHeartbeats 4000000 in
theorem plain_1_9 (who : Int) (cell text : Bs) (cols : Bool) (n tor bits : Int) (w : World) : Calls Tryd.prog 7 #[.agg (lnC 1 ⟨9, who, cell, text, cols, n, tor, bits⟩)] w fun e w' => e = .returned (.agg (lnC 1 ⟨9, who, [], [], false, 0, 0, 0⟩)) ∧ Below w.heap.size w w' := by
  obtain ⟨x, hx⟩ : ∃ x : Stp, ⟨9, who, cell, text, cols, n, tor, bits⟩ = x := ⟨_, rfl⟩
  have hcc : ∀ (w : World) b, RlB w b 1 x → RlB w b 1 ⟨9, who, cell, text, cols, n, tor, bits⟩ := by subst hx; exact fun _ _ h => h
  rw [hx]
  clear hx
  obtain ⟨hh0, hh1⟩ := two_new w (.cells (lnC 1 x) tRl) (.cells (lnC 0 st0) tRl)
  have hA0 : Hid (RlB ((w.alloc (.cells (lnC 1 x) tRl)).alloc (.cells (lnC 0 st0) tRl)) w.heap.size 1 x) := hh0
  have hA1 : Hid (RlB ((w.alloc (.cells (lnC 1 x) tRl)).alloc (.cells (lnC 0 st0) tRl)) (w.heap.size + 1) 0 st0) := hh1
  have hAB : Hid (Below w.heap.size w ((w.alloc (.cells (lnC 1 x) tRl)).alloc (.cells (lnC 0 st0) tRl))) := by unfold Hid; (repeat' (first | (with_reducible exact Below.refl _ _) | (with_reducible assumption) | (with_reducible refine Below.alloc ?_ ?_ _) | (with_reducible refine bel_drewN ?_ _) | (with_reducible refine Below.drew ?_) | (with_reducible refine Below.setCell ?_ ?_ _) | (with_reducible refine bel_call ‹_› ?_ ?_) | go_size))
  have hAz : ((w.alloc (.cells (lnC 1 x) tRl)).alloc (.cells (lnC 0 st0) tRl)).heap.size = w.heap.size + 2 := by simp
  clear hh0 hh1
  go_enter Tryd.func7, Tryd.ntmps7
  go_upto_region 1 with fail
  have e0 : (w.alloc (.cells (lnC 1 x) tRl)).alloc (.cells #[.int .i64 0, .int .i64 0, .int .i64 0, .string ⟨#[]⟩, .string ⟨#[]⟩, .bool false, .int .i64 0, .int .i64 0, .int .u8 0] tRl) = ((w.alloc (.cells (lnC 1 x) tRl)).alloc (.cells (lnC 0 st0) tRl)) := rfl
  rw [e0]
  clear e0
  generalize ((w.alloc (.cells (lnC 1 x) tRl)).alloc (.cells (lnC 0 st0) tRl)) = w0 at hA0 hA1 hAB hAz ⊢
  obtain ⟨c0, c1, c2, c3, c4, c5, c6, c7, c8⟩ := (hcc _ _ hA0.out).cells
  clear hcc hA0
  simp only at c0 c1 c2 c3 c4 c5 c6 c7 c8
  go_upto_region 2 with fail
  have e1 : w0.alloc (.cells #[.int .i64 1, .int .i64 0, .int .i64 0, .string ⟨#[]⟩, .string ⟨#[]⟩, .bool false, .int .i64 0, .int .i64 0, .int .u8 0] tRl) = w0.alloc (.cells (lnC 1 st0) tRl) := rfl
  rw [e1]
  clear e1
  have g1 : Hid (RlB (w0.alloc (.cells (lnC 1 st0) tRl)) (w.heap.size + 2) 1 st0) := by
    unfold Hid
    have := heap_alloc_new w0 (.cells (lnC 1 st0) tRl)
    rw [hAz] at this
    exact this
  have g0 : Hid (RlB (w0.alloc (.cells (lnC 1 st0) tRl)) (w.heap.size + 1) 0 st0) := hA1.out.below (by (repeat' (first | (with_reducible exact Below.refl _ _) | (with_reducible assumption) | (with_reducible refine Below.alloc ?_ ?_ _) | (with_reducible refine bel_drewN ?_ _) | (with_reducible refine Below.drew ?_) | (with_reducible refine Below.setCell ?_ ?_ _) | (with_reducible refine bel_call ‹_› ?_ ?_) | go_size)))
  have hAB1 : Hid (Below w.heap.size w (w0.alloc (.cells (lnC 1 st0) tRl))) := by unfold Hid; have := hAB.out; (repeat' (first | (with_reducible exact Below.refl _ _) | (with_reducible assumption) | (with_reducible refine Below.alloc ?_ ?_ _) | (with_reducible refine bel_drewN ?_ _) | (with_reducible refine Below.drew ?_) | (with_reducible refine Below.setCell ?_ ?_ _) | (with_reducible refine bel_call ‹_› ?_ ?_) | go_size))
  have q0 : (w0.alloc (.cells (lnC 1 st0) tRl)).cell? ⟨w.heap.size, 0, none⟩ = _ := (by go_simp : _ = w0.cell? ⟨w.heap.size, 0, none⟩).trans c0
  have q1 : (w0.alloc (.cells (lnC 1 st0) tRl)).cell? ⟨w.heap.size, 1, none⟩ = _ := (by go_simp : _ = w0.cell? ⟨w.heap.size, 1, none⟩).trans c1
  have q2 : (w0.alloc (.cells (lnC 1 st0) tRl)).cell? ⟨w.heap.size, 2, none⟩ = _ := (by go_simp : _ = w0.cell? ⟨w.heap.size, 2, none⟩).trans c2
  have q3 : (w0.alloc (.cells (lnC 1 st0) tRl)).cell? ⟨w.heap.size, 3, none⟩ = _ := (by go_simp : _ = w0.cell? ⟨w.heap.size, 3, none⟩).trans c3
  have q4 : (w0.alloc (.cells (lnC 1 st0) tRl)).cell? ⟨w.heap.size, 4, none⟩ = _ := (by go_simp : _ = w0.cell? ⟨w.heap.size, 4, none⟩).trans c4
  have q5 : (w0.alloc (.cells (lnC 1 st0) tRl)).cell? ⟨w.heap.size, 5, none⟩ = _ := (by go_simp : _ = w0.cell? ⟨w.heap.size, 5, none⟩).trans c5
  have q6 : (w0.alloc (.cells (lnC 1 st0) tRl)).cell? ⟨w.heap.size, 6, none⟩ = _ := (by go_simp : _ = w0.cell? ⟨w.heap.size, 6, none⟩).trans c6
  have q7 : (w0.alloc (.cells (lnC 1 st0) tRl)).cell? ⟨w.heap.size, 7, none⟩ = _ := (by go_simp : _ = w0.cell? ⟨w.heap.size, 7, none⟩).trans c7
  have q8 : (w0.alloc (.cells (lnC 1 st0) tRl)).cell? ⟨w.heap.size, 8, none⟩ = _ := (by go_simp : _ = w0.cell? ⟨w.heap.size, 8, none⟩).trans c8
  clear c0 c1 c2 c3 c4 c5 c6 c7 c8 hAz hA1 hAB
  generalize w0.alloc (.cells (lnC 1 st0) tRl) = w1 at g1 g0 hAB1 q0 q1 q2 q3 q4 q5 q6 q7 q8 ⊢
  obtain ⟨f0, f1, f2, f3, f4, f5, f6, f7, f8⟩ := g1.out.fz
  obtain ⟨p0, p1, p2, p3, p4, p5, p6, p7, p8⟩ := g1.out.cells
  go_upto_region 22 with fail
  clear q0 q1 q2 q3 q4 q5 q6 q7 q8 p0 p1 p2 p3 p4 p5 p6 p7 p8 f0 f1 f2 f3 f4 f5 f6 f7 f8
  have g2 : Hid (RlB ((w1.setCell ⟨w.heap.size + 2, 1, none⟩ (.int .i64 9)).setCell ⟨w.heap.size + 2, 2, none⟩ (.int .i64 who)) (w.heap.size + 2) 1 ⟨9, who, [], [], false, 0, 0, 0⟩) := (RlB.set2 (RlB.set1 g1.out 9) who)
  have g3 : Hid (RlB ((w1.setCell ⟨w.heap.size + 2, 1, none⟩ (.int .i64 9)).setCell ⟨w.heap.size + 2, 2, none⟩ (.int .i64 who)) (w.heap.size + 1) 0 st0) := (RlB.other (RlB.other g0.out (by omega) _ _) (by omega) _ _)
  have hAB2 : Hid (Below w.heap.size w ((w1.setCell ⟨w.heap.size + 2, 1, none⟩ (.int .i64 9)).setCell ⟨w.heap.size + 2, 2, none⟩ (.int .i64 who))) := by have := hAB1.out; unfold Hid; (repeat' (first | (with_reducible exact Below.refl _ _) | (with_reducible assumption) | (with_reducible refine Below.alloc ?_ ?_ _) | (with_reducible refine bel_drewN ?_ _) | (with_reducible refine Below.drew ?_) | (with_reducible refine Below.setCell ?_ ?_ _) | (with_reducible refine bel_call ‹_› ?_ ?_) | go_size))
  generalize ((w1.setCell ⟨w.heap.size + 2, 1, none⟩ (.int .i64 9)).setCell ⟨w.heap.size + 2, 2, none⟩ (.int .i64 who)) = w2 at g2 g3 hAB2 ⊢
  clear g1 g0 hAB1
  obtain ⟨c0, c1, c2, c3, c4, c5, c6, c7, c8⟩ := g2.out.cells
  obtain ⟨d0, d1, d2, d3, d4, d5, d6, d7, d8⟩ := g3.out.cells
  obtain ⟨f0, f1, f2, f3, f4, f5, f6, f7, f8⟩ := g3.out.fz
  simp only [st0] at c0 c1 c2 c3 c4 c5 c6 c7 c8
  go_wp2_with fail
  have gz : Hid (RlB (((((((((w2.setCell ⟨w.heap.size + 1, 0, none⟩ (.int .i64 1)).setCell ⟨w.heap.size + 1, 1, none⟩ (.int .i64 9)).setCell ⟨w.heap.size + 1, 2, none⟩ (.int .i64 who)).setCell ⟨w.heap.size + 1, 3, none⟩ (.string ⟨#[]⟩)).setCell ⟨w.heap.size + 1, 4, none⟩ (.string ⟨#[]⟩)).setCell ⟨w.heap.size + 1, 5, none⟩ (.bool false)).setCell ⟨w.heap.size + 1, 6, none⟩ (.int .i64 0)).setCell ⟨w.heap.size + 1, 7, none⟩ (.int .i64 0)).setCell ⟨w.heap.size + 1, 8, none⟩ (.int .u8 0)) (w.heap.size + 1) 1 ⟨9, who, [], [], false, 0, 0, 0⟩) := RlB.store g3.out 1 ⟨9, who, [], [], false, 0, 0, 0⟩
  have hBz : Hid (Below w.heap.size w (((((((((w2.setCell ⟨w.heap.size + 1, 0, none⟩ (.int .i64 1)).setCell ⟨w.heap.size + 1, 1, none⟩ (.int .i64 9)).setCell ⟨w.heap.size + 1, 2, none⟩ (.int .i64 who)).setCell ⟨w.heap.size + 1, 3, none⟩ (.string ⟨#[]⟩)).setCell ⟨w.heap.size + 1, 4, none⟩ (.string ⟨#[]⟩)).setCell ⟨w.heap.size + 1, 5, none⟩ (.bool false)).setCell ⟨w.heap.size + 1, 6, none⟩ (.int .i64 0)).setCell ⟨w.heap.size + 1, 7, none⟩ (.int .i64 0)).setCell ⟨w.heap.size + 1, 8, none⟩ (.int .u8 0))) := by have := hAB2.out; unfold Hid; (repeat' (first | (with_reducible exact Below.refl _ _) | (with_reducible assumption) | (with_reducible refine Below.alloc ?_ ?_ _) | (with_reducible refine bel_drewN ?_ _) | (with_reducible refine Below.drew ?_) | (with_reducible refine Below.setCell ?_ ?_ _) | (with_reducible refine bel_call ‹_› ?_ ?_) | go_size))
  clear c0 c1 c2 c3 c4 c5 c6 c7 c8 f0 f1 f2 f3 f4 f5 f6 f7 f8 d0 d1 d2 d3 d4 d5 d6 d7 d8
  generalize (((((((((w2.setCell ⟨w.heap.size + 1, 0, none⟩ (.int .i64 1)).setCell ⟨w.heap.size + 1, 1, none⟩ (.int .i64 9)).setCell ⟨w.heap.size + 1, 2, none⟩ (.int .i64 who)).setCell ⟨w.heap.size + 1, 3, none⟩ (.string ⟨#[]⟩)).setCell ⟨w.heap.size + 1, 4, none⟩ (.string ⟨#[]⟩)).setCell ⟨w.heap.size + 1, 5, none⟩ (.bool false)).setCell ⟨w.heap.size + 1, 6, none⟩ (.int .i64 0)).setCell ⟨w.heap.size + 1, 7, none⟩ (.int .i64 0)).setCell ⟨w.heap.size + 1, 8, none⟩ (.int .u8 0)) = wz at gz hBz ⊢
  obtain ⟨c0, c1, c2, c3, c4, c5, c6, c7, c8⟩ := gz.out.cells
  simp only at c0 c1 c2 c3 c4 c5 c6 c7 c8
  refine bodyPost_ret (v := .agg (lnC 1 ⟨9, who, [], [], false, 0, 0, 0⟩)) (by simp only [results, Tryd.results7]; go_simp; rfl) rfl ⟨rfl, by have := hBz.out; (repeat' (first | (with_reducible exact Below.refl _ _) | (with_reducible assumption) | (with_reducible refine Below.alloc ?_ ?_ _) | (with_reducible refine bel_drewN ?_ _) | (with_reducible refine Below.drew ?_) | (with_reducible refine Below.setCell ?_ ?_ _) | (with_reducible refine bel_call ‹_› ?_ ?_) | go_size))⟩

theorem plain_any (kk : Int) (x : Stp) (hkk : 1 ≤ kk ∧ kk ≤ 9) (hk : 0 ≤ x.k ∧ x.k ≤ 9) (w : World) : Calls Tryd.prog 7 #[.agg (lnC kk x)] w fun e w' => e = .returned (.agg (lnC kk (plS kk x))) ∧ Below w.heap.size w w' := by
  obtain ⟨k, who, cell, text, cols, n, tor, bits⟩ := x
  simp only at hk
  have hkc : kk = 1 ∨ kk = 2 ∨ kk = 3 ∨ kk = 4 ∨ kk = 5 ∨ kk = 6 ∨ kk = 7 ∨ kk = 8 ∨ kk = 9 := by omega
  have hkd : k = 0 ∨ k = 1 ∨ k = 2 ∨ k = 3 ∨ k = 4 ∨ k = 5 ∨ k = 6 ∨ k = 7 ∨ k = 8 ∨ k = 9 := by omega
  clear hkk hk
  rcases hkc with rfl | rfl | rfl | rfl | rfl | rfl | rfl | rfl | rfl
  · rcases hkd with rfl | rfl | rfl | rfl | rfl | rfl | rfl | rfl | rfl | rfl
    · exact plain_1_0 who cell text cols n tor bits w
    · exact plain_1_1 who cell text cols n tor bits w
    · exact plain_1_2 who cell text cols n tor bits w
    · exact plain_1_3 who cell text cols n tor bits w
    · exact plain_1_4 who cell text cols n tor bits w
    · exact plain_1_5 who cell text cols n tor bits w
    · exact plain_1_6 who cell text cols n tor bits w
    · exact plain_1_7 who cell text cols n tor bits w
    · exact plain_1_8 who cell text cols n tor bits w
    · exact plain_1_9 who cell text cols n tor bits w
  · exact plain_2 k who cell text cols n tor bits w
  · exact plain_3 k who cell text cols n tor bits w
  · exact plain_4 k who cell text cols n tor bits w
  · exact plain_5 k who cell text cols n tor bits w
  · exact plain_6 k who cell text cols n tor bits w
  · exact plain_7 k who cell text cols n tor bits w
  · exact plain_8 k who cell text cols n tor bits w
  · exact plain_9 k who cell text cols n tor bits w
end Go.Proofs.YtddoghjopihkpaaDoor
