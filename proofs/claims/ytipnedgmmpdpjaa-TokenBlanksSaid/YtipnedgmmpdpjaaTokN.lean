/- More blanks between tokens: the plain law. -/
import Derived.Test.YtipnedgmmpdpjaaTokM
set_option linter.unusedSimpArgs false
set_option linter.unusedVariables false
namespace Go.Proofs.Ytipnedgmmpdpjaa
open Go.RowKit

theorem nx_app_r (P Y : List UInt8) (j : Nat) : nx (P ++ Y) (P.length + j) = nx Y j := by
  simp [nx, List.getD, List.getElem?_append_right]
theorem nx_app_l (P Y : List UInt8) (j : Nat) (h : j < P.length) : nx (P ++ Y) j = nx P j := by
  simp [nx, List.getD, List.getElem?_append_left h]
theorem nx_piece (L : List UInt8) (a m j : Nat) (h : j < m) : nx ((L.drop a).take m) j = nx L (a + j) := by
  simp [nx, List.getD, List.getElem?_take, h, List.getElem?_drop]
theorem nx_rep (c j : Nat) (h : j < c) : nx (List.replicate c (32 : UInt8)) j = 32 := by
  simp [nx, List.getD, h]

/-- M reads from q on as L reads from a on, n bytes. -/
def Agr (M : List UInt8) (q : Nat) (L : List UInt8) (a n : Nat) : Prop := q + n ≤ M.length ∧ a + n ≤ L.length ∧ ∀ j, j < n → nx M (q + j) = nx L (a + j)
theorem Agr.eq {M L : List UInt8} {q a n : Nat} (h : Agr M q L a n) : (M.drop q).take n = (L.drop a).take n := by
  obtain ⟨h1, h2, h3⟩ := h
  apply List.ext_getElem
  · simp; omega
  · intro j g1 g2
    have hj : j < n := by simp at g1; omega
    have := h3 j hj
    rw [nx_get (by omega), nx_get (by omega)] at this
    have e : M[q + j] = L[a + j] := UInt8.toNat.inj this
    simpa using e
theorem run_is {p : Nat → Bool} (h0 : p 0 = false) (L : List UInt8) : ∀ (r i : Nat), (∀ j, j < r → p (nx L (i + j)) = true) → p (nx L (i + r)) = false → runN p L i = r := by
  intro r
  induction r with
  | zero => intro i _ h2; exact run_no h0 rfl h2
  | succ r ih =>
    intro i h1 h2
    have e := h1 0 (by omega)
    rw [Nat.add_zero] at e
    rw [run_yes h0 (L := L) (k := i) rfl e, ih (i + 1) (fun j hj => by have := h1 (j + 1) (by omega); rw [show i + 1 + j = i + (j + 1) by omega]; exact this) (by rw [show i + 1 + r = i + (r + 1) by omega]; exact h2)]
theorem run_all {p : Nat → Bool} (h0 : p 0 = false) (L : List UInt8) : ∀ (n i : Nat), runN p L i = n → ∀ j, j < n → p (nx L (i + j)) = true := by
  intro n
  induction n with
  | zero => intro i _ j hj; omega
  | succ n ih =>
    intro i h j hj
    cases hp : p (nx L i) with
    | false => rw [run_no h0 rfl hp] at h; omega
    | true =>
      rw [run_yes h0 rfl hp] at h
      cases j with
      | zero => exact hp
      | succ j => have := ih (i + 1) (by omega) j (by omega); rw [show i + (j + 1) = i + 1 + j by omega]; exact this
/-- A run stays a run where the bytes agree and the next one is the same or a blank. -/
theorem run_agr {p : Nat → Bool} (h0 : p 0 = false) (h32 : p 32 = false) {M L : List UInt8} {q a r : Nat} (hr : runN p L a = r) (hA : ∀ j, j < r → nx M (q + j) = nx L (a + j)) (hN : nx M (q + r) = nx L (a + r) ∨ nx M (q + r) = 32) : runN p M q = r := by
  refine run_is h0 M r q (fun j hj => ?_) ?_
  · rw [hA j hj]; exact run_all h0 L r a hr j hj
  · rcases hN with h | h
    · rw [h, ← hr]; exact run_end h0 L a
    · rw [h]; exact h32
theorem quo_agr : ∀ (m : Nat) (L M : List UInt8) (j q : Nat) (t : List UInt8), quo (L.drop j) = some (t, m) → q + m ≤ M.length → (∀ i, i < m → nx M (q + i) = nx L (j + i)) → nx M (q + m) ≠ 34 → quo (M.drop q) = some (t, m) := by
  intro m
  induction m using Nat.strongRecOn with
  | _ m ih =>
    intro L M j q t h hM hA hN
    have hj : j < L.length := by
      rcases Nat.lt_or_ge j L.length with h' | h'
      · exact h'
      · rw [quo_end L j h'] at h; cases h
    have hm := (quo_pos _ _ _ h).1
    have h0 := hA 0 (by omega)
    simp only [Nat.add_zero] at h0
    by_cases hc : nx L j = 34
    · by_cases h2 : nx L (j + 1) = 34
      · rw [quo_two L j hc h2] at h
        cases hq : quo (L.drop (j + 2)) with
        | none => rw [hq] at h; cases h
        | some x =>
          obtain ⟨t', m'⟩ := x
          rw [hq] at h
          simp only [qm, Option.some.injEq, Prod.mk.injEq] at h
          obtain ⟨h3, h4⟩ := h
          subst h4
          have h1 := hA 1 (by omega)
          rw [quo_two M q (by omega) (by omega), ih m' (by omega) L M (j + 2) (q + 2) t' hq (by omega) (fun i hi => by have := hA (i + 2) (by omega); rw [show q + 2 + i = q + (i + 2) by omega, show j + 2 + i = j + (i + 2) by omega]; exact this) (by rw [show q + 2 + m' = q + (m' + 2) by omega]; exact hN)]
          simp only [qm, h3]
      · rw [quo_close L j hc h2] at h
        simp only [Option.some.injEq, Prod.mk.injEq] at h
        obtain ⟨h3, h4⟩ := h
        subst h3 h4
        exact quo_close M q (by omega) hN
    · rw [quo_other L j hj hc] at h
      cases hq : quo (L.drop (j + 1)) with
      | none => rw [hq] at h; cases h
      | some x =>
        obtain ⟨t', m'⟩ := x
        rw [hq] at h
        simp only [qm, Option.some.injEq, Prod.mk.injEq] at h
        obtain ⟨h3, h4⟩ := h
        subst h4
        rw [quo_other M q (by omega) (by omega), ih m' (by omega) L M (j + 1) (q + 1) t' hq (by omega) (fun i hi => by have := hA (i + 1) (by omega); rw [show q + 1 + i = q + (i + 1) by omega, show j + 1 + i = j + (i + 1) by omega]; exact this) (by rw [show q + 1 + m' = q + (m' + 1) by omega]; exact hN)]
        rw [h0]
        simp only [qm, h3]
theorem quo_next (L : List UInt8) : ∀ (m j : Nat) (t : List UInt8), quo (L.drop j) = some (t, m) → nx L (j + m) ≠ 34 := by
  intro m
  induction m using Nat.strongRecOn with
  | _ m ih =>
    intro j t h
    have hj : j < L.length := by
      rcases Nat.lt_or_ge j L.length with h' | h'
      · exact h'
      · rw [quo_end L j h'] at h; cases h
    have hm := (quo_pos _ _ _ h).1
    by_cases hc : nx L j = 34
    · by_cases h2 : nx L (j + 1) = 34
      · rw [quo_two L j hc h2] at h
        cases hq : quo (L.drop (j + 2)) with
        | none => rw [hq] at h; cases h
        | some x =>
          obtain ⟨t', m'⟩ := x
          rw [hq] at h
          simp only [qm, Option.some.injEq, Prod.mk.injEq] at h
          obtain ⟨h3, h4⟩ := h
          subst h4
          have := ih m' (by omega) (j + 2) t' hq
          rw [show j + (m' + 2) = j + 2 + m' by omega]
          exact this
      · rw [quo_close L j hc h2] at h
        simp only [Option.some.injEq, Prod.mk.injEq] at h
        rw [← h.2]
        exact h2
    · rw [quo_other L j hj hc] at h
      cases hq : quo (L.drop (j + 1)) with
      | none => rw [hq] at h; cases h
      | some x =>
        obtain ⟨t', m'⟩ := x
        rw [hq] at h
        simp only [qm, Option.some.injEq, Prod.mk.injEq] at h
        obtain ⟨h3, h4⟩ := h
        subst h4
        have := ih m' (by omega) (j + 1) t' hq
        rw [show j + (m' + 1) = j + 1 + m' by omega]
        exact this

/-- A sign by its two bytes. -/
def m1 (c0 c1 : Nat) : List UInt8 → Bool
  | [x] => decide (c0 = x.toNat)
  | [x, y] => decide (c0 = x.toNat) && decide (c1 = y.toNat)
  | _ => false
def sgF (c0 c1 : Nat) : List UInt8 := (sgs.find? (m1 c0 c1)).getD []
theorem pre_one (L : List UInt8) (j : Nat) (x : UInt8) (hx : x.toNat ≠ 0) : Lib.hasPrefix (L.drop j) [x] = decide (nx L j = x.toNat) := by
  rcases Nat.lt_or_ge j L.length with h1 | h1
  · rw [nx_get h1, List.drop_eq_getElem_cons h1]
    simp only [Lib.hasPrefix, List.isPrefixOf, Bool.and_true]
    by_cases h2 : L[j].toNat = x.toNat
    · have : L[j] = x := UInt8.toNat.inj h2
      simp [this]
    · have : ¬ x = L[j] := by intro e; rw [← e] at h2; exact h2 rfl
      simp [h2, this]
  · rw [nx_end h1, List.drop_of_length_le h1]
    simp [Lib.hasPrefix, List.isPrefixOf]
    omega
theorem pre_two (L : List UInt8) (j : Nat) (x y : UInt8) (hx : x.toNat ≠ 0) (hy : y.toNat ≠ 0) : Lib.hasPrefix (L.drop j) [x, y] = (decide (nx L j = x.toNat) && decide (nx L (j + 1) = y.toNat)) := by
  rw [← pre_one L j x hx, ← pre_one L (j + 1) y hy]
  rcases Nat.lt_or_ge j L.length with h1 | h1
  · rw [List.drop_eq_getElem_cons h1]
    simp [Lib.hasPrefix, List.isPrefixOf]
  · rw [List.drop_of_length_le h1]
    simp [Lib.hasPrefix, List.isPrefixOf]
theorem sgn_F (L : List UInt8) (j : Nat) : sgn (L.drop j) = sgF (nx L j) (nx L (j + 1)) := by
  unfold sgn sgF
  congr 1
  simp only [sgs, List.find?_cons, List.find?_nil]
  have a1 := pre_two L j 60 62 (by decide) (by decide)
  have a2 := pre_two L j 60 61 (by decide) (by decide)
  have a3 := pre_two L j 62 61 (by decide) (by decide)
  have b1 := pre_one L j 60 (by decide)
  have b2 := pre_one L j 62 (by decide)
  have b3 := pre_one L j 61 (by decide)
  have b4 := pre_one L j 43 (by decide)
  have b5 := pre_one L j 45 (by decide)
  have b6 := pre_one L j 42 (by decide)
  have b7 := pre_one L j 47 (by decide)
  have b8 := pre_one L j 38 (by decide)
  have b9 := pre_one L j 40 (by decide)
  have b10 := pre_one L j 41 (by decide)
  have b11 := pre_one L j 44 (by decide)
  have b12 := pre_one L j 58 (by decide)
  rw [a1, a2, a3, b1, b2, b3, b4, b5, b6, b7, b8, b9, b10, b11, b12]
  rfl
/-- A sign of one byte is one ahead of a blank too. -/
theorem sgF_blank (c0 c1 : Nat) (h : (sgF c0 c1).length = 1) : sgF c0 32 = sgF c0 c1 := by
  by_cases h1 : c0 = 60
  · subst h1
    by_cases g1 : c1 = 62
    · subst g1; exact absurd h (by decide)
    · by_cases g2 : c1 = 61
      · subst g2; exact absurd h (by decide)
      · simp [sgF, sgs, List.find?_cons, m1, g1, g2]
  · by_cases h2 : c0 = 62
    · subst h2
      by_cases g2 : c1 = 61
      · subst g2; exact absurd h (by decide)
      · simp [sgF, sgs, List.find?_cons, m1, g2]
    · simp [sgF, sgs, List.find?_cons, m1, h1, h2]
end Go.Proofs.Ytipnedgmmpdpjaa
