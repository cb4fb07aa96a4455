/- Rows of whatever elements in memory: a slice reads as a list; rows of the call's own. No function of the program. -/
import Derived.Test.YtilajcibjlcffaaGreatDoorBase
import Derived.OwnWalk
import Derived.Laws.AppendOwnNone
import Derived.Laws.OwnMore
import Derived.Laws.MakeOwn
set_option linter.unusedSimpArgs false
set_option linter.unusedVariables false

namespace Go.Proofs.YtilajcibjlcffaaGreatDoor
open Go.RowKit

theorem info_of {t : TypeId} {z : Value} {s b : Nat} (h : (Tryz.prog.info? t).map (fun i => (i.zero, i.size, i.bytes)) = some (some z, s, b)) : ∃ i, Tryz.prog.info? t = some i ∧ i.zero = some z ∧ i.size = s ∧ i.bytes = b := by
  cases hi : Tryz.prog.info? t with
  | none => rw [hi] at h; cases h
  | some i =>
    rw [hi] at h
    simp only [Option.map_some, Option.some.injEq, Prod.mk.injEq] at h
    exact ⟨i, rfl, h.1, h.2.1, h.2.2⟩
/-- Rows of different element types are different blocks. -/
theorem row_ne {w : World} {b1 b2 : Nat} {e1 e2 : TypeId} {s1 s2 : Nat} {v u : Value} {n m : Nat} {xs ys : List Value} (h1 : w.ownsRow b1 e1 s1 v n xs) (h2 : w.ownsRow b2 e2 s2 u m ys) (hne : e1 ≠ e2) : v.ownBlock = none ∨ v.ownBlock ≠ u.ownBlock := by
  obtain ⟨_, ⟨rfl, _⟩ | ⟨g, c, cur, rfl, _, hh, _⟩⟩ := h1
  · exact .inl rfl
  · obtain ⟨_, ⟨rfl, _⟩ | ⟨g', c', cur', rfl, _, hh', _⟩⟩ := h2
    · exact .inr (by simp [Value.ownBlock])
    · refine .inr fun e => ?_
      have e' : g = g' := by simpa [Value.ownBlock] using e
      subst e'
      rw [hh] at hh'
      simp only [Option.some.injEq, Obj.cells.injEq] at hh'
      exact hne hh'.2.1
theorem row_below {w w' : World} {base e size n : Nat} {v : Value} {xs : List Value} (h : w.ownsRow base e size v n xs) (hb : Below w.heap.size w w') : w'.ownsRow base e size v n xs := by
  obtain ⟨h1, h2⟩ := h
  refine ⟨h1, ?_⟩
  rcases h2 with h2 | ⟨g, cap, cur, hv, hg, hh, r⟩
  · exact .inl h2
  · refine .inr ⟨g, cap, cur, hv, hg, ?_, r⟩
    rw [hb.block g (by
      rcases Nat.lt_or_ge g w.heap.size with h' | h'
      · exact h'
      · rw [Array.getElem?_eq_none h'] at hh; cases hh)]
    exact hh
theorem row_drew {w : World} {base e size n : Nat} {v : Value} {xs : List Value} (h : w.ownsRow base e size v n xs) : w.drew.ownsRow base e size v n xs := row_below h (Below.drew (Below.refl _ _))
theorem row_drewN {w : World} {base e size n : Nat} {v : Value} {xs : List Value} (h : w.ownsRow base e size v n xs) (k : Nat) : (w.drewN k).ownsRow base e size v n xs := row_below h (bel_drewN (Below.refl _ _) k)
theorem new1 (w : World) (a : Value) (t : TypeId) : ∀ j u, [a][j]? = some u → (w.alloc (.cells #[a] t)).cell? ((⟨w.heap.size, 0, none⟩ : Addr).add j) = some u := by
  intro j u hj
  match j, hj with
  | 0, hj => simp at hj; subst hj; simp [Addr.add]
theorem new2 (w : World) (a b : Value) (t : TypeId) : ∀ j u, [a, b][j]? = some u → (w.alloc (.cells #[a, b] t)).cell? ((⟨w.heap.size, 0, none⟩ : Addr).add j) = some u := by
  intro j u hj
  match j, hj with
  | 0, hj => simp at hj; subst hj; simp [Addr.add]
  | 1, hj => simp at hj; subst hj; simp [Addr.add]
theorem new3 (w : World) (a b c : Value) (t : TypeId) : ∀ j u, [a, b, c][j]? = some u → (w.alloc (.cells #[a, b, c] t)).cell? ((⟨w.heap.size, 0, none⟩ : Addr).add j) = some u := by
  intro j u hj
  match j, hj with
  | 0, hj => simp at hj; subst hj; simp [Addr.add]
  | 1, hj => simp at hj; subst hj; simp [Addr.add]
  | 2, hj => simp at hj; subst hj; simp [Addr.add]
theorem new4 (w : World) (a b c d : Value) (t : TypeId) : ∀ j u, [a, b, c, d][j]? = some u → (w.alloc (.cells #[a, b, c, d] t)).cell? ((⟨w.heap.size, 0, none⟩ : Addr).add j) = some u := by
  intro j u hj
  match j, hj with
  | 0, hj => simp at hj; subst hj; simp [Addr.add]
  | 1, hj => simp at hj; subst hj; simp [Addr.add]
  | 2, hj => simp at hj; subst hj; simp [Addr.add]
  | 3, hj => simp at hj; subst hj; simp [Addr.add]
theorem new5 (w : World) (a b c d e : Value) (t : TypeId) : ∀ j u, [a, b, c, d, e][j]? = some u → (w.alloc (.cells #[a, b, c, d, e] t)).cell? ((⟨w.heap.size, 0, none⟩ : Addr).add j) = some u := by
  intro j u hj
  match j, hj with
  | 0, hj => simp at hj; subst hj; simp [Addr.add]
  | 1, hj => simp at hj; subst hj; simp [Addr.add]
  | 2, hj => simp at hj; subst hj; simp [Addr.add]
  | 3, hj => simp at hj; subst hj; simp [Addr.add]
  | 4, hj => simp at hj; subst hj; simp [Addr.add]

section
variable {α : Type} {enc : α → List Value} {sz : Nat}
theorem flat_len (hz : ∀ x, (enc x).length = sz) (L : List α) : (L.flatMap enc).length = L.length * sz := by
  induction L with
  | nil => simp
  | cons q L ih => rw [List.flatMap_cons, List.length_append, ih, hz, List.length_cons, Nat.succ_mul]; omega
theorem flat_at (hz : ∀ x, (enc x).length = sz) (L : List α) : ∀ (i : Nat) (x : α), L[i]? = some x → ∀ k, k < sz → (L.flatMap enc)[i * sz + k]? = (enc x)[k]? := by
  induction L with
  | nil => intro i x hx; simp at hx
  | cons q L ih =>
    intro i x hx k hk
    cases i with
    | zero =>
      simp only [List.getElem?_cons_zero, Option.some.injEq] at hx
      subst hx
      rw [List.flatMap_cons, List.getElem?_append_left (by rw [hz]; omega)]
      congr 1
      omega
    | succ i =>
      rw [List.getElem?_cons_succ] at hx
      rw [List.flatMap_cons, Nat.succ_mul, List.getElem?_append_right (by rw [hz]; omega), hz]
      have := ih i x hx k hk
      rw [← this]
      congr 1
      omega

/-- The slice's parts read as the list: its elements' cells. -/
def RdG (enc : α → List Value) (sz : Nat) (w : World) (p : Option Addr) (n : Nat) (L : List α) : Prop :=
  L.length = n ∧ (n = 0 ∨ ∃ b off, p = some ⟨b, off, none⟩ ∧ b < w.heap.size ∧ ∀ (j : Nat) (x : α), L[j]? = some x → ∀ k u, (enc x)[k]? = some u → w.cell? ⟨b, off + j * sz + k, none⟩ = some u)
theorem RdG.nil (enc : α → List Value) (sz : Nat) (w : World) (p : Option Addr) : RdG enc sz w p 0 [] := ⟨rfl, .inl rfl⟩
theorem RdG.below {w w' : World} {p : Option Addr} {n : Nat} {L : List α} (h : RdG enc sz w p n L) (hb : Below w.heap.size w w') : RdG enc sz w' p n L := by
  obtain ⟨h1, h4⟩ := h
  refine ⟨h1, ?_⟩
  rcases h4 with h4 | ⟨b, off, h5, h6, h7⟩
  · exact .inl h4
  · exact .inr ⟨b, off, h5, Nat.lt_of_lt_of_le h6 hb.size, fun j x hx k u hu => (hb.cell (p := ⟨b, off + j * sz + k, none⟩) h6).trans (h7 j x hx k u hu)⟩
theorem RdG.some {w : World} {p : Option Addr} {n : Nat} {L : List α} (h : RdG enc sz w p n L) {j : Nat} (hj : j < n) : ∃ b off, p = some ⟨b, off, none⟩ ∧ b < w.heap.size ∧ ∀ (j : Nat) (x : α), L[j]? = some x → ∀ k u, (enc x)[k]? = some u → w.cell? ⟨b, off + j * sz + k, none⟩ = some u := by
  rcases h.2 with h | h
  · omega
  · exact h
theorem RdG.of_own (hz : ∀ x, (enc x).length = sz) {w : World} {base : Nat} {e : TypeId} {v : Value} {n : Nat} {L : List α} (hn : L.length = n) (h : w.ownsRow base e sz v n (L.flatMap enc)) : ∃ p cap, v = .slice p n cap ∧ n ≤ cap ∧ cap ≤ maxLen ∧ RdG enc sz w p n L ∧ (v = .slice none 0 0 ∨ ∃ r, p = Option.some ⟨r, 0, none⟩ ∧ base ≤ r ∧ r < w.heap.size) := by
  obtain ⟨hl, ⟨hv, h0⟩ | ⟨r, cap, cur, rfl, hg, hh, hn', hm, hs, ht⟩⟩ := h
  · have : L = [] := List.eq_nil_of_length_eq_zero (by omega)
    subst this
    subst h0
    exact ⟨none, 0, hv, Nat.le_refl _, Nat.zero_le _, ⟨rfl, .inl rfl⟩, .inl hv⟩
  · have hr : r < w.heap.size := by
      rcases Nat.lt_or_ge r w.heap.size with h' | h'
      · exact h'
      · rw [Array.getElem?_eq_none h'] at hh; cases hh
    refine ⟨_, cap, rfl, hn', hm, ⟨hn, .inr ⟨r, 0, rfl, hr, fun j x hx k u hu => ?_⟩⟩, .inr ⟨r, rfl, hg, hr⟩⟩
    have hj := (List.getElem?_eq_some_iff.1 hx).1
    have hk : k < sz := by
      rw [← hz x]
      exact (List.getElem?_eq_some_iff.1 hu).1
    have hlt : j * sz + k < n * sz := by
      have : (j + 1) * sz ≤ n * sz := Nat.mul_le_mul_right _ (by omega)
      rw [Nat.succ_mul] at this
      omega
    rw [← flat_at hz L j x hx k hk, ← ht, List.getElem?_take, if_pos hlt] at hu
    simp only [World.cell?, hh, Nat.zero_add]
    simpa using hu
/-- The elements' cells by fact: one cell an element. -/
theorem RdG.at1 {enc : α → List Value} {w : World} {p : Option Addr} {n : Nat} {L : List α} {b off : Nat} (h : ∀ (j : Nat) (x : α), L[j]? = Option.some x → ∀ k u, (enc x)[k]? = Option.some u → w.cell? ⟨b, off + j * 1 + k, none⟩ = Option.some u) {j : Nat} {x : α} {u : Value} (hx : L[j]? = Option.some x) (hu : enc x = [u]) : w.cell? ⟨b, off + j, none⟩ = Option.some u := by
  have := h j x hx 0 u (by rw [hu]; rfl)
  rw [Nat.mul_one, Nat.add_zero] at this
  exact this
end
/-- Appending elements' cells. -/
theorem flat_snoc {α : Type} (enc : α → List Value) (L : List α) (x : α) : (L ++ [x]).flatMap enc = L.flatMap enc ++ enc x := by simp
end Go.Proofs.YtilajcibjlcffaaGreatDoor
