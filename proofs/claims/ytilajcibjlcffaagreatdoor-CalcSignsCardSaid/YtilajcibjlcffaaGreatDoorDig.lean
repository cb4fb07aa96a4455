/- Plain laws on decimal digits, the least one first: no program in sight. -/
import Derived.WalkKit
set_option linter.unusedSimpArgs false
set_option linter.unusedVariables false

namespace Go.Proofs.YtilajcibjlcffaaGreatDoor

/-- What digits come to. -/
def dval : List Nat → Nat
  | [] => 0
  | d :: r => d + 10 * dval r

/-- A number's digits, no noughts behind. -/
def digsF : Nat → Nat → List Nat
  | 0, _ => []
  | f + 1, n => if n = 0 then [] else n % 10 :: digsF f (n / 10)
def digs (n : Nat) : List Nat := digsF (n + 1) n

theorem digsF_any : ∀ (f g n : Nat), n < f → n < g → digsF f n = digsF g n
  | 0, _, _, h, _ => by omega
  | _, 0, _, _, h => by omega
  | f + 1, g + 1, n, hf, hg => by
    simp only [digsF]
    by_cases h : n = 0
    · simp [h]
    · simp only [h, if_false]
      rw [digsF_any f g (n / 10) (by omega) (by omega)]

theorem digs_zero : digs 0 = [] := rfl
theorem digs_pos {n : Nat} (h : n ≠ 0) : digs n = n % 10 :: digs (n / 10) := by
  show digsF (n + 1) n = _ :: digsF (n / 10 + 1) (n / 10)
  rw [digsF, if_neg h, digsF_any n (n / 10 + 1) (n / 10) (by omega) (by omega)]

theorem digs_cons (d n : Nat) (hd : d < 10) (h : d + 10 * n ≠ 0) : digs (d + 10 * n) = d :: digs n := by
  rw [digs_pos h]
  have e1 : (d + 10 * n) % 10 = d := by omega
  have e2 : (d + 10 * n) / 10 = n := by omega
  rw [e1, e2]

theorem dval_digsF : ∀ (f n : Nat), n < f → dval (digsF f n) = n
  | 0, _, h => by omega
  | f + 1, n, h => by
    simp only [digsF]
    by_cases h0 : n = 0
    · simp [h0, dval]
    · simp only [h0, if_false, dval]
      rw [dval_digsF f (n / 10) (by omega)]
      omega
theorem dval_digs (n : Nat) : dval (digs n) = n := dval_digsF _ _ (by omega)

theorem digsF_lt : ∀ (f n : Nat), ∀ d ∈ digsF f n, d < 10
  | 0, _, d, h => by simp [digsF] at h
  | f + 1, n, d, h => by
    simp only [digsF] at h
    split at h
    · simp at h
    · rcases List.mem_cons.1 h with rfl | h
      · omega
      · exact digsF_lt f _ d h
theorem digs_lt (n : Nat) : ∀ d ∈ digs n, d < 10 := digsF_lt _ _

/-- Digits with no nought behind are a number's own. -/
theorem digs_dval : ∀ (L : List Nat), (∀ d ∈ L, d < 10) → L.getLast? ≠ some 0 → digs (dval L) = L
  | [], _, _ => rfl
  | d :: r, h, hl => by
    have hd := h d (by simp)
    have hr : ∀ x ∈ r, x < 10 := fun x hx => h x (by simp [hx])
    cases r with
    | nil =>
      have h0 : d ≠ 0 := by intro e; simp [e] at hl
      have := digs_cons d 0 hd (by omega)
      simpa [dval, digs_zero] using this
    | cons y t =>
      have hl' : (y :: t).getLast? ≠ some 0 := by simpa [List.getLast?_cons_cons] using hl
      have ih := digs_dval (y :: t) hr hl'
      have hne : dval (y :: t) ≠ 0 := by
        intro e
        rw [e] at ih
        simp [digs_zero] at ih
      show digs (d + 10 * dval (y :: t)) = _
      rw [digs_cons d _ hd (by omega), ih]

theorem digsF_last : ∀ (f n : Nat), n < f → (digsF f n).getLast? ≠ some 0
  | 0, _, h => by omega
  | f + 1, n, h => by
    simp only [digsF]
    by_cases h0 : n = 0
    · simp [h0]
    · simp only [h0, if_false]
      by_cases h1 : n / 10 = 0
      · have : digsF f (n / 10) = [] := by cases f <;> simp [digsF, h1]
        rw [this]
        simp
        omega
      · have ih := digsF_last f (n / 10) (by omega)
        have hne : digsF f (n / 10) ≠ [] := by
          intro e
          have := dval_digsF f (n / 10) (by omega)
          rw [e] at this
          simp [dval] at this
          omega
        cases he : digsF f (n / 10) with
        | nil => exact (hne he).elim
        | cons y t => rw [List.getLast?_cons_cons, ← he]; exact ih
theorem digs_last (n : Nat) : (digs n).getLast? ≠ some 0 := digsF_last _ _ (by omega)

theorem dval_append : ∀ (a b : List Nat), dval (a ++ b) = dval a + 10 ^ a.length * dval b
  | [], b => by simp [dval]
  | d :: r, b => by
    simp only [List.cons_append, dval, dval_append r b, List.length_cons, Nat.pow_succ]
    rw [Nat.mul_add, Nat.mul_comm (10 ^ r.length) 10, Nat.mul_assoc]
    omega

theorem dval_concat (a : List Nat) (d : Nat) : dval (a ++ [d]) = dval a + 10 ^ a.length * d := by
  rw [dval_append]; simp [dval]

theorem dval_zeros : ∀ (n : Nat) (b : List Nat), dval (List.replicate n 0 ++ b) = 10 ^ n * dval b
  | 0, b => by simp
  | n + 1, b => by
    simp only [List.replicate_succ, List.cons_append, dval, dval_zeros n b, Nat.pow_succ]
    rw [Nat.mul_comm (10 ^ n) 10, Nat.mul_assoc]
    omega

theorem dval_lt : ∀ (L : List Nat), (∀ d ∈ L, d < 10) → dval L < 10 ^ L.length
  | [], _ => by simp [dval]
  | d :: r, h => by
    have hd := h d (by simp)
    have ih := dval_lt r (fun x hx => h x (by simp [hx]))
    simp only [dval, List.length_cons, Nat.pow_succ]
    omega

/-- One digit more of the front. -/
theorem dval_take (L : List Nat) (i : Nat) : dval (L.take (i + 1)) = dval (L.take i) + 10 ^ i * L.getD i 0 := by
  by_cases h : i < L.length
  · rw [List.take_succ_eq_append_getElem h, dval_concat]
    simp [List.length_take, Nat.min_eq_left (Nat.le_of_lt h), List.getD, List.getElem?_eq_getElem h]
  · rw [List.take_of_length_le (by omega), List.take_of_length_le (by omega)]
    simp [List.getD, List.getElem?_eq_none (by omega : L.length ≤ i)]

theorem dval_drop (L : List Nat) (i : Nat) (h : i < L.length) : dval (L.drop i) = L.getD i 0 + 10 * dval (L.drop (i + 1)) := by
  rw [List.drop_eq_getElem_cons h]
  simp [dval, List.getD, List.getElem?_eq_getElem h]

theorem getD_lt {L : List Nat} (h : ∀ d ∈ L, d < 10) (i : Nat) : L.getD i 0 < 10 := by
  by_cases hi : i < L.length
  · simp only [List.getD, List.getElem?_eq_getElem hi, Option.getD_some]
    exact h _ (List.getElem_mem hi)
  · simp [List.getD, List.getElem?_eq_none (by omega : L.length ≤ i)]

/-- A front of noughts behind it is the number's own digits. -/
theorem digs_front (L : List Nat) (n : Nat) (hL : ∀ d ∈ L, d < 10) (hn : n ≤ L.length) (hz : ∀ j, n ≤ j → L.getD j 0 = 0) (hl : n = 0 ∨ L.getD (n - 1) 0 ≠ 0) : L.take n = digs (dval L) := by
  have hd : dval L = dval (L.take n) := by
    have key : ∀ k, dval (L.take (n + k)) = dval (L.take n) := by
      intro k
      induction k with
      | zero => rfl
      | succ k ih => rw [← Nat.add_assoc, dval_take, hz (n + k) (by omega), ih]; simp
    have := key (L.length - n)
    rw [show n + (L.length - n) = L.length from by omega, List.take_length] at this
    exact this
  rw [hd, digs_dval _ (fun d h => hL d (List.mem_of_mem_take h))]
  rcases hl with rfl | hl
  · simp
  · by_cases h0 : n = 0
    · subst h0; simp
    · have hlt : n - 1 < L.length := by omega
      have e : L.take n = L.take (n - 1) ++ [L[n - 1]] := by
        conv => lhs; rw [show n = n - 1 + 1 from by omega]
        rw [List.take_succ_eq_append_getElem hlt]
      rw [e, List.getLast?_concat]
      simp only [List.getD, List.getElem?_eq_getElem hlt, Option.getD_some] at hl
      intro h
      exact hl (Option.some.inj h)

theorem digs_length_le {n k : Nat} (h : n < 10 ^ k) : (digs n).length ≤ k := by
  rcases Nat.lt_or_ge k (digs n).length with hlt | hge
  · exfalso
    -- the last digit is not 0, so the number is at least 10 ^ (length - 1)
    have hne : digs n ≠ [] := by intro e; rw [e] at hlt; simp at hlt
    have h1 := dval_append (digs n).dropLast [(digs n).getLast hne]
    rw [List.dropLast_concat_getLast hne, dval_digs] at h1
    have h2 : (digs n).getLast hne ≠ 0 := by
      intro e
      exact digs_last n (by rw [List.getLast?_eq_some_getLast hne, e])
    have h3 : 10 ^ k ≤ 10 ^ (digs n).dropLast.length := Nat.pow_le_pow_right (by omega) (by simp; omega)
    simp only [dval] at h1
    have h4 : 10 ^ (digs n).dropLast.length ≤ 10 ^ (digs n).dropLast.length * ((digs n).getLast hne + 10 * 0) := Nat.le_mul_of_pos_right _ (by omega)
    omega
  · exact hge

theorem digs_nil {n : Nat} : digs n = [] ↔ n = 0 := by
  constructor
  · intro h
    have := dval_digs n
    rw [h] at this
    simpa [dval] using this.symm
  · rintro rfl; rfl

/-- The longer number is the greater one. -/
theorem digs_len_lt {a b : Nat} (h : (digs a).length < (digs b).length) : a < b := by
  rcases Nat.lt_or_ge a b with h1 | h1
  · exact h1
  · exfalso
    have h2 := dval_lt (digs a) (digs_lt a)
    rw [dval_digs] at h2
    have := digs_length_le (n := b) (k := (digs a).length) (by omega)
    omega

/-- Alike above a place, less there: less. -/
theorem dval_less : ∀ (A B : List Nat) (i : Nat), (∀ d ∈ A, d < 10) → (∀ d ∈ B, d < 10) → A.length = B.length → A.drop (i + 1) = B.drop (i + 1) → A.getD i 0 < B.getD i 0 → dval A < dval B
  | [], B, i, _, _, hl, _, h => by
    have : B = [] := List.eq_nil_of_length_eq_zero (by simpa using hl.symm)
    subst this
    simp at h
  | a :: A, [], i, _, _, hl, _, h => by simp at hl
  | a :: A, b :: B, 0, hA, hB, hl, hd, h => by
    simp at hd h
    subst hd
    simp only [dval]
    omega
  | a :: A, b :: B, i + 1, hA, hB, hl, hd, h => by
    have ha := hA a (by simp)
    have ih := dval_less A B i (fun d h => hA d (by simp [h])) (fun d h => hB d (by simp [h])) (by simpa using hl) (by simpa using hd) (by simpa using h)
    simp only [dval]
    omega

/-- A digit, by its place; 0 behind the end. -/
def nth (L : List Nat) (j : Nat) : Nat := L.getD j 0
theorem nth_lt {L : List Nat} (h : ∀ d ∈ L, d < 10) (i : Nat) : nth L i < 10 := getD_lt h i
end Go.Proofs.YtilajcibjlcffaaGreatDoor
