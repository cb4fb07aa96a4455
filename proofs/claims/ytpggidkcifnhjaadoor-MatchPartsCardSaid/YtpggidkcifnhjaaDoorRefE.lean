/- Contract of quadrilleref01.Over. -/
import Derived.Test.YtpggidkcifnhjaaDoorRefD
import Derived.Deep.LoopGhost
set_option linter.unusedSimpArgs false
set_option linter.unusedVariables false

namespace Go.Proofs.YtpggidkcifnhjaaDoor
open Go.RowKit

/-- Two numbers in new memory. -/
def RetN2 (x y : Nat) (W : World) (e : Ending) (w' : World) : Prop := ∃ p n cap p2 n2 cap2, e = .returned (.tuple #[.slice p n cap, .slice p2 n2 cap2]) ∧ RdN w' p n cap (digs x) ∧ RdN w' p2 n2 cap2 (digs y) ∧ Below W.heap.size W w' ∧ (∀ x, p = some x → W.heap.size ≤ x.block) ∧ (∀ x, p2 = some x → W.heap.size ≤ x.block)
theorem RetN2.mk {x y : Nat} {W w' : World} {p : Option Addr} {n cap : Nat} {p2 : Option Addr} {n2 cap2 : Nat} (h1 : RdN w' p n cap (digs x)) (h2 : RdN w' p2 n2 cap2 (digs y)) (hb : Below W.heap.size W w') (hf : ∀ x, p = some x → W.heap.size ≤ x.block) (hf2 : ∀ x, p2 = some x → W.heap.size ≤ x.block) :
    RetN2 x y W (.returned (.tuple #[.slice p n cap, .slice p2 n2 cap2])) w' := ⟨p, n, cap, p2, n2, cap2, rfl, h1, h2, hb, hf, hf2⟩

theorem own_new (w : World) (d : Nat) (e : TypeId) : (w.alloc (.cells #[U8 d] e)).ownsRow w.heap.size e 1 (.slice (some ⟨w.heap.size, 0, none⟩) 1 1) 1 ([d].map U8) :=
  ⟨by simp, .inr ⟨w.heap.size, 1, #[U8 d], rfl, Nat.le_refl _, heap_alloc_new w _, Nat.le_refl _, by unfold maxLen; omega, rfl, by simp⟩⟩

theorem set_digs {O : List Nat} (h : ∀ d ∈ O, d < 10) (j : Nat) {c : Nat} (hc : c < 10) : ∀ d ∈ O.set j c, d < 10 := by
  intro d hd
  rcases List.mem_or_eq_of_mem_set hd with h1 | rfl
  · exact h d h1
  · exact hc
theorem nth_set_eq {O : List Nat} {j c : Nat} (h : j < O.length) : nth (O.set j c) j = c := by simp [nth, List.getD, h]
theorem nth_set_ne {O : List Nat} {i j c : Nat} (h : j ≠ i) : nth (O.set j c) i = nth O i := by simp [nth, List.getD, List.getElem?_set, h]
theorem set_zero {O : List Nat} {j : Nat} (h : nth O j = 0) : O.set j 0 = O := by
  apply List.ext_getElem
  · simp
  · intro i h1 h2
    by_cases hij : j = i
    · subst hij
      simp only [nth, List.getD, List.getElem?_eq_getElem h2, Option.getD_some] at h
      simp [h]
    · simp [List.getElem_set, hij]
theorem drop_set_lt {O : List Nat} {i j c : Nat} (h : j < i) : (O.set j c).drop i = O.drop i := by
  rw [List.drop_set, if_pos h]
theorem dval_zeros_eq {O : List Nat} (h : ∀ j, j < O.length → nth O j = 0) : dval O = 0 := by
  have : ∀ k, k ≤ O.length → dval (O.take k) = 0 := by
    intro k hk
    induction k with
    | zero => simp [dval]
    | succ k ih => rw [dval_take, ih (by omega), show O.getD k 0 = 0 from h k (by omega)]; simp
  have := this O.length (Nat.le_refl _)
  rwa [List.take_length] at this

/-- One place of a division. -/
theorem over_step {X O1 B r x c r2 : Nat} (h : X = O1 * B + r) (hx : r2 + c * B = x + 10 * r) : x + 10 * X = (c + 10 * O1) * B + r2 := by
  rw [h, Nat.add_mul, Nat.mul_add, Nat.mul_assoc]
  omega

end Go.Proofs.YtpggidkcifnhjaaDoor
