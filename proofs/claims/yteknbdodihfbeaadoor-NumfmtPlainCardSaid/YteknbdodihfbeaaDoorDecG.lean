/- The reference's Add in one formula; the laws DecSums and DecBack: the walks. -/
import Derived.Test.YteknbdodihfbeaaDoorDecF
set_option linter.unusedSimpArgs false
set_option linter.unusedVariables false

namespace Go.Proofs.YteknbdodihfbeaaDoor
open Go.RowKit
attribute [local go_sem ↓] Go.wp_at_zero Go.wp_at_succ

theorem sv_sum (ma : Bool) (a : Nat) (mb : Bool) (b : Nat) : sv (sumM ma a mb b) (sumN ma a mb b) = sv ma a + sv mb b := by
  unfold sv sumM sumN
  by_cases h : a < b
  · cases ma <;> cases mb <;> simp [h] <;> omega
  · cases ma <;> cases mb <;> simp [h] <;> omega
theorem sum_len {ma mb : Bool} {a b : Nat} (ha : (digs a).length ≤ 20) (hb : (digs b).length ≤ 20) : (digs (sumN ma a mb b)).length ≤ 200 := by
  have h1 := dval_lt (digs a) (digs_lt a)
  have h2 := dval_lt (digs b) (digs_lt b)
  rw [dval_digs] at h1 h2
  have h3 : 10 ^ (digs a).length ≤ 10 ^ 20 := Nat.pow_le_pow_right (by omega) ha
  have h4 : 10 ^ (digs b).length ≤ 10 ^ 20 := Nat.pow_le_pow_right (by omega) hb
  refine Nat.le_trans (digs_length_le (k := 21) ?_) (by omega)
  have h5 : sumN ma a mb b ≤ a + b := by
    unfold sumN
    split
    · exact Nat.le_refl _
    · split <;> omega
  have h6 : (10 : Nat) ^ 21 = 10 * 10 ^ 20 := by rw [Nat.pow_succ, Nat.mul_comm]
  omega
theorem sv_from (n : Int) : sv (decide (n < 0)) n.natAbs = n := by
  unfold sv
  by_cases h : n < 0
  · simp [h]; omega
  · simp [h]; omega
theorem sv_not (m : Bool) (n : Nat) : sv (!m) n = -sv m n := by cases m <;> simp [sv]

end Go.Proofs.YteknbdodihfbeaaDoor
