/- The worlds in which the blocks below N are as they were, as a type: for walks by the quick rules. No function of the program. -/
import Derived.Test.YtljloggbfmnjmaaDoorSchedT
set_option linter.unusedSimpArgs false
set_option linter.unusedVariables false
namespace Go.Proofs.YtljloggbfmnjmaaDoor
open Go.RowKit

structure Kept (N : Nat) (w : World) where
  v : World
  h : Below N w v
instance (N : Nat) (w : World) : Nonempty (Kept N w) := ⟨⟨w, Below.refl _ _⟩⟩
theorem Kept.cell {N : Nat} {w : World} {b o : Nat} {u : Value} (h : w.cell? ⟨b, o, none⟩ = some u) (hb : b < N) : ∀ x : Kept N w, x.v.cell? ⟨b, o, none⟩ = some u := fun x => (x.h.cell (p := ⟨b, o, none⟩) hb).trans h
theorem lt_of_cell {w : World} {b o : Nat} {u : Value} (h : w.cell? ⟨b, o, none⟩ = some u) : b < w.heap.size := by
  rcases Nat.lt_or_ge b w.heap.size with h' | h'
  · exact h'
  · simp [World.cell?, Array.getElem?_eq_none h'] at h
theorem Kept.at {w : World} {b o : Nat} {u : Value} (h : w.cell? ⟨b, o, none⟩ = some u) : ∀ x : Kept w.heap.size w, x.v.cell? ⟨b, o, none⟩ = some u := Kept.cell h (lt_of_cell h)
theorem kept_drew (N : Nat) (w : World) (hN : N ≤ w.heap.size) : ∃ x : Kept N w, w.drew = x.v := ⟨⟨w.drew, Below.drew (Below.refl _ _)⟩, rfl⟩
/-- Six stores into a block of six cells. -/
theorem six_heap {w : World} {g : Nat} {t : TypeId} {c0 c1 c2 c3 c4 c5 : Value} (v0 v1 v2 v3 v4 v5 : Value) (h : w.heap[g]? = some (.cells #[c0, c1, c2, c3, c4, c5] t (0, 0))) :
    ((((((w.setCell ⟨g, 0, none⟩ v0).setCell ⟨g, 1, none⟩ v1).setCell ⟨g, 2, none⟩ v2).setCell ⟨g, 3, none⟩ v3).setCell ⟨g, 4, none⟩ v4).setCell ⟨g, 5, none⟩ v5).heap[g]? = some (.cells #[v0, v1, v2, v3, v4, v5] t (0, 0)) ∧
    ((∀ b, b ≠ g → ((((((w.setCell ⟨g, 0, none⟩ v0).setCell ⟨g, 1, none⟩ v1).setCell ⟨g, 2, none⟩ v2).setCell ⟨g, 3, none⟩ v3).setCell ⟨g, 4, none⟩ v4).setCell ⟨g, 5, none⟩ v5).heap[b]? = w.heap[b]?) ∧
    (∀ N, N ≤ g → Below N w ((((((w.setCell ⟨g, 0, none⟩ v0).setCell ⟨g, 1, none⟩ v1).setCell ⟨g, 2, none⟩ v2).setCell ⟨g, 3, none⟩ v3).setCell ⟨g, 4, none⟩ v4).setCell ⟨g, 5, none⟩ v5))) := by
  refine ⟨?_, fun b hb => ?_, fun N hN => ?_⟩
  · have h0 := heap_setCell_same w g 0 _ _ v0 h
    have h1 := heap_setCell_same _ g 1 _ _ v1 h0
    have h2 := heap_setCell_same _ g 2 _ _ v2 h1
    have h3 := heap_setCell_same _ g 3 _ _ v3 h2
    have h4 := heap_setCell_same _ g 4 _ _ v4 h3
    have h5 := heap_setCell_same _ g 5 _ _ v5 h4
    rw [h5]
    simp
  · rw [heap_setCell_other _ _ _ _ hb, heap_setCell_other _ _ _ _ hb, heap_setCell_other _ _ _ _ hb, heap_setCell_other _ _ _ _ hb, heap_setCell_other _ _ _ _ hb, heap_setCell_other _ _ _ _ hb]
  · exact Below.setCell (Below.setCell (Below.setCell (Below.setCell (Below.setCell (Below.setCell (Below.refl _ _) hN _) hN _) hN _) hN _) hN _) hN _
/-- The operation at a place. -/
def nthO : List Oper → Nat → List Oper
  | [], _ => []
  | o :: _, 0 => [o]
  | _ :: r, n + 1 => nthO r n
theorem nthO_zero (o : Oper) (r : List Oper) : nthO (o :: r) 0 = [o] := rfl
theorem nthO_succ (o : Oper) (r : List Oper) (n : Nat) : nthO (o :: r) (n + 1) = nthO r n := rfl
theorem nthO_get : ∀ (l : List Oper) (i : Nat), nthO l i = l[i]?.toList
  | [], i => by simp [nthO]
  | o :: r, 0 => by simp [nthO]
  | o :: r, n + 1 => by rw [nthO_succ, nthO_get r n]; simp
theorem pick_nil (l : List Oper) : pick l [] = [] := rfl
theorem pick_cons (l : List Oper) (i : Nat) (r : List Nat) : pick l (i :: r) = List.append (nthO l i) (pick l r) := by
  rw [nthO_get]
  unfold pick
  rw [List.filterMap_cons]
  cases l[i]? <;> rfl
end Go.Proofs.YtljloggbfmnjmaaDoor
