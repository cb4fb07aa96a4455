/- A whole struct stored into a block that is known, or loaded out of it: laws for the walk. -/
import Derived.Test.YtilajcibjlcffaaGreatDoorBase
import Derived.Deep.MidRow
import Derived.Lib.SmallJoins
set_option linter.unusedSimpArgs false
set_option linter.unusedVariables false

namespace Go.Proofs.YtilajcibjlcffaaGreatDoor
open Go.RowKit Go.Joins

theorem setCells_block (b : Nat) (T : TypeId) (fr : Nat × Nat) : ∀ (vs X A : List Value) (w : World), X.length = vs.length → w.heap[b]? = some (.cells (A ++ X).toArray T fr) → (w.setCells b A.length vs).heap[b]? = some (.cells (A ++ vs).toArray T fr)
  | [], X, A, w, hl, h => by
    have : X = [] := List.eq_nil_of_length_eq_zero hl
    subst this
    exact h
  | v :: vs, X, A, w, hl, h => by
    cases X with
    | nil => cases hl
    | cons x X =>
      have h1 : (w.setCell ⟨b, A.length, none⟩ v).heap[b]? = some (.cells ((A ++ [v]) ++ X).toArray T fr) := by
        rw [block_setCell h v]
        congr 2
        apply Array.ext'
        simp
      have h2 := setCells_block b T fr vs X (A ++ [v]) _ (by simpa using hl) h1
      rw [List.length_append, List.append_assoc] at h2
      exact h2
/-- Behind the store of a whole struct the block holds it. -/
theorem store_block {w : World} {b : Nat} {C : Array Value} {T : TypeId} {fr : Nat × Nat} (h : w.heap[b]? = some (.cells C T fr)) (vs : List Value) (hl : vs.length = C.size) : (w.setCells b 0 vs).heap[b]? = some (.cells vs.toArray T fr) := by
  have := setCells_block b T fr vs C.toList [] w (by simpa using hl.symm) (by simpa using h)
  simpa using this
theorem store_below {B b : Nat} {a : World} (hb : B ≤ b) : ∀ (vs : List Value) (o : Nat) (w : World), Below B a w → Below B a (w.setCells b o vs)
  | [], _, _, h => h
  | v :: vs, o, w, h => store_below hb vs (o + 1) _ (h.setCell (by show B ≤ b; exact hb) v)
theorem store_other {b c : Nat} (hne : c ≠ b) : ∀ (vs : List Value) (o : Nat) (w : World), (w.setCells b o vs).heap[c]? = w.heap[c]?
  | [], _, _ => rfl
  | v :: vs, o, w => (store_other hne vs (o + 1) _).trans (heap_setCell_other _ _ _ _ hne)
theorem block_there {w : World} {b : Nat} {C : Array Value} {T : TypeId} (h : w.heap[b]? = some (.cells C T (0, 0))) (n : Nat) (hn : n ≤ C.size) : w.there b 0 n := fun j hj => by
  rw [Nat.zero_add]
  refine ⟨?_, unfrozen_of_block h j⟩
  rw [cell_of_block h, Array.getElem?_eq_getElem (by omega)]
  rfl
theorem block_range {w : World} {b : Nat} {C : Array Value} {T : TypeId} {fr : Nat × Nat} (h : w.heap[b]? = some (.cells C T fr)) (cs : List Value) (hc : C = cs.toArray) : w.rangeAt b 0 cs := fun j v hv => by
  rw [Nat.zero_add, cell_of_block h, hc]
  simpa using hv
end Go.Proofs.YtilajcibjlcffaaGreatDoor
