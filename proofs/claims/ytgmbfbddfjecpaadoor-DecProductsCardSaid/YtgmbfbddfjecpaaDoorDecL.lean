/- The plain laws of Floor and Mod. -/
import Derived.Test.YtgmbfbddfjecpaaDoorDecK
set_option linter.unusedSimpArgs false
set_option linter.unusedVariables false
namespace Go.Proofs.YtgmbfbddfjecpaaDoor
open Go.RowKit

theorem sv_t (x : Nat) : sv true x = -(x : Int) := rfl
theorem sv_f (x : Nat) : sv false x = (x : Int) := rfl
theorem flQ_same (m : Bool) (x y : Nat) : flQ m m x y = x / y := by unfold flQ; exact if_neg (by simp)
theorem flQ_even (m n : Bool) (x y : Nat) (h : x % y = 0) : flQ m n x y = x / y := by unfold flQ; exact if_neg (fun ⟨_, h2⟩ => h2 h)
theorem flQ_odd (m n : Bool) (x y : Nat) (hm : (m != n) = true) (h : x % y ≠ 0) : flQ m n x y = x / y + 1 := by unfold flQ; exact if_pos ⟨hm, h⟩

theorem floor_key (a : Int) : sv (decide (a < 0)) (flQ (decide (a < 0)) false a.natAbs 1000000 * 1000000) = a - a % 1000000 := by
  by_cases h : a < 0
  · rw [decide_eq_true h, sv_t]
    by_cases hr : a.natAbs % 1000000 = 0
    · rw [flQ_even _ _ _ _ hr]
      omega
    · rw [flQ_odd _ _ _ _ rfl hr]
      omega
  · rw [decide_eq_false h, sv_f, flQ_same]
    omega

theorem emod_key (a b : Int) (hb : b ≠ 0) : a % b = if a < 0 ∧ a.natAbs % b.natAbs ≠ 0 then (b.natAbs : Int) - (a.natAbs % b.natAbs : Nat) else ((a.natAbs % b.natAbs : Nat) : Int) := by
  obtain ⟨A, hA⟩ : ∃ A, a.natAbs = A := ⟨_, rfl⟩
  obtain ⟨B, hB⟩ : ∃ B, b.natAbs = B := ⟨_, rfl⟩
  have hB0 : 0 < B := by omega
  rw [hA, hB]
  have e : a % b = a % (B : Int) := by
    rcases Int.natAbs_eq b with h | h
    · rw [hB] at h; rw [h]
    · rw [hB] at h; rw [h, Int.emod_neg]
  rw [e]
  have hdm := Nat.div_add_mod A B
  have hr := Nat.mod_lt A hB0
  obtain ⟨k, hk⟩ : ∃ k, A / B = k := ⟨_, rfl⟩
  obtain ⟨r, hr2⟩ : ∃ r, A % B = r := ⟨_, rfl⟩
  rw [hk, hr2] at hdm
  rw [hr2] at hr ⊢
  by_cases h : a < 0
  · have ha : a = -(r : Int) + (B : Int) * (-(k : Int)) := by
      rw [Int.mul_neg, ← Int.natCast_mul]
      omega
    rw [ha, Int.add_mul_emod_self_left]
    by_cases h0 : r = 0
    · subst h0
      simp
    · rw [← ha, if_pos ⟨h, h0⟩]
      have e2 : (-(r : Int)) % (B : Int) = (-(r : Int) + (B : Int)) % (B : Int) := by simp
      rw [e2, Int.emod_eq_of_lt (by omega) (by omega)]
      omega
  · have ha : a = (r : Int) + (B : Int) * (k : Int) := by
      rw [← Int.natCast_mul]
      omega
    rw [if_neg (by rintro ⟨h1, _⟩; exact h h1), ha, Int.add_mul_emod_self_left, Int.emod_eq_of_lt (by omega) (by omega)]

theorem mod_key (a b : Int) (hb : b ≠ 0) : a + sv (!decide (a < 0)) (flQ (decide (a < 0)) (decide (b < 0)) a.natAbs b.natAbs * b.natAbs) = modV a b := by
  have e1 := Int.fmod_eq_emod (a := a) (b := b)
  have e3 : b ∣ a ↔ a % b = 0 := ⟨Int.emod_eq_zero_of_dvd, Int.dvd_of_emod_eq_zero⟩
  simp only [e3] at e1
  have e2 := emod_key a b hb
  rw [show modV a b = a.fmod b from if_neg hb, e1]
  obtain ⟨z, hz⟩ : ∃ z, a % b = z := ⟨_, rfl⟩
  rw [hz] at e2 ⊢
  have hdm := Nat.div_add_mod a.natAbs b.natAbs
  have hr := Nat.mod_lt a.natAbs (show 0 < b.natAbs by omega)
  have hmul := Nat.mul_comm b.natAbs (a.natAbs / b.natAbs)
  have hadd := Nat.add_mul (a.natAbs / b.natAbs) 1 b.natAbs
  have E := flQ_even (decide (a < 0)) (decide (b < 0)) a.natAbs b.natAbs
  have O := flQ_odd (decide (a < 0)) (decide (b < 0)) a.natAbs b.natAbs
  obtain ⟨r, hr2⟩ : ∃ r, a.natAbs % b.natAbs = r := ⟨_, rfl⟩
  rw [hr2] at hdm hr e2 E O
  obtain ⟨K, hK⟩ : ∃ K, a.natAbs / b.natAbs * b.natAbs = K := ⟨_, rfl⟩
  rw [hmul, hK] at hdm
  rw [hK] at hadd
  by_cases h1 : a < 0
  · rw [decide_eq_true h1] at E O ⊢
    by_cases h2 : b < 0
    · rw [decide_eq_true h2, flQ_same, hK, Bool.not_true, sv_f]
      split at e2 <;> split <;> omega
    · rw [decide_eq_false h2] at E O ⊢
      by_cases h3 : r = 0
      · rw [E h3, hK, Bool.not_true, sv_f]
        split at e2 <;> split <;> omega
      · rw [O rfl h3, hadd, Bool.not_true, sv_f]
        split at e2 <;> split <;> omega
  · rw [decide_eq_false h1] at E O ⊢
    by_cases h2 : b < 0
    · rw [decide_eq_true h2] at E O ⊢
      by_cases h3 : r = 0
      · rw [E h3, hK, Bool.not_false, sv_t]
        split at e2 <;> split <;> omega
      · rw [O rfl h3, hadd, Bool.not_false, sv_t]
        split at e2 <;> split <;> omega
    · rw [decide_eq_false h2, flQ_same, hK, Bool.not_false, sv_t]
      split at e2 <;> split <;> omega

theorem modV_in (a b : Int) (hb1 : -9223372036854775808 ≤ b) (hb2 : b ≤ 9223372036854775807) : -9223372036854775808 ≤ modV a b ∧ modV a b ≤ 9223372036854775807 := by
  unfold modV
  split
  · omega
  · rename_i h0
    have e1 := Int.fmod_eq_emod (a := a) (b := b)
    have e4 := Int.emod_nonneg a h0
    have e5 : a % b < (b.natAbs : Int) := Int.emod_lt a h0
    have e3 : b ∣ a ↔ a % b = 0 := ⟨Int.emod_eq_zero_of_dvd, Int.dvd_of_emod_eq_zero⟩
    simp only [e3] at e1
    rw [e1]
    obtain ⟨z, hz⟩ : ∃ z, a % b = z := ⟨_, rfl⟩
    rw [hz] at e4 e5 ⊢
    split <;> omega
end Go.Proofs.YtgmbfbddfjecpaaDoor
