/- Contract of quadrilleref01.Times. -/
import Derived.Test.YtfkfajgfkgeicaaDoorRefC
set_option linter.unusedSimpArgs false
set_option linter.unusedVariables false

namespace Go.Proofs.YtfkfajgfkgeicaaDoor
open Go.RowKit

theorem take_le (L : List Nat) (i : Nat) : dval (L.take i) + 10 ^ i * dval (L.drop i) = dval L ∨ L.length < i := by
  rcases Nat.lt_or_ge L.length i with h | h
  · exact .inr h
  · left
    have := dval_append (L.take i) (L.drop i)
    rw [List.take_append_drop] at this
    rw [this]
    simp [Nat.min_eq_left h]

/-- What has been taken of a product, and the digits of it. -/
theorem part_le {b i k : Nat} (hi : i < (digs b).length) (hk : k ≤ nth (digs b) i) : dval ((digs b).take i) + 10 ^ i * k ≤ b := by
  have h1 := take_le (digs b) (i + 1)
  have h2 := dval_take (digs b) i
  rw [dval_digs] at h1
  have h3 : 10 ^ i * k ≤ 10 ^ i * (digs b).getD i 0 := Nat.mul_le_mul_left _ hk
  rcases h1 with h1 | h1
  · have : 0 ≤ 10 ^ (i + 1) * dval ((digs b).drop (i + 1)) := Nat.zero_le _
    omega
  · omega
theorem take_lt {b i : Nat} : dval ((digs b).take i) ≤ b := by
  rcases take_le (digs b) i with h | h
  · rw [dval_digs] at h
    have : 0 ≤ 10 ^ i * dval ((digs b).drop i) := Nat.zero_le _
    omega
  · rw [List.take_of_length_le (by omega), dval_digs]
    exact Nat.le_refl _
theorem mul_len {a b n m x : Nat} (ha : (digs a).length = n) (hb : (digs b).length = m) (hx : x ≤ a * b) : (digs x).length ≤ n + m := by
  refine digs_length_le (Nat.lt_of_le_of_lt hx ?_)
  have h1 := dval_lt (digs a) (digs_lt a)
  have h2 := dval_lt (digs b) (digs_lt b)
  rw [dval_digs, ha] at h1
  rw [dval_digs, hb] at h2
  rw [Nat.pow_add]
  have h3 : 0 < 10 ^ m := Nat.pow_pos (by omega)
  calc a * b ≤ a * 10 ^ m := Nat.mul_le_mul_left _ (Nat.le_of_lt h2)
    _ < 10 ^ n * 10 ^ m := Nat.mul_lt_mul_of_pos_right h1 h3

end Go.Proofs.YtfkfajgfkgeicaaDoor
