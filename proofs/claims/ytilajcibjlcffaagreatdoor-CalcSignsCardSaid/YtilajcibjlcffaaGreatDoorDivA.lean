/- The plain law of a division of two words by one, by halves of words: no program in sight. -/
import Derived.Test.YtilajcibjlcffaaGreatDoorDecF
import Derived.Laws.Bits64b
set_option linter.unusedSimpArgs false
set_option linter.unusedVariables false

namespace Go.Proofs.YtilajcibjlcffaaGreatDoor

/-- A guess of one half of the quotient: what is left of it, and that it is not too small. -/
def KdI (u Y1 Y0 t q r : Nat) : Prop := q * Y1 + r = u ∧ u * 4294967296 + t < (q + 1) * (Y1 * 4294967296 + Y0)

theorem kd_mul (q Y1 Y0 : Nat) : q * (Y1 * 4294967296 + Y0) = q * Y1 * 4294967296 + q * Y0 := by rw [Nat.mul_add, Nat.mul_assoc]
theorem kd_start {u Y1 Y0 t : Nat} (h1 : 0 < Y1) (ht : t < 4294967296) : KdI u Y1 Y0 t (u / Y1) (u % Y1) := by
  refine ⟨Nat.div_add_mod' u Y1, ?_⟩
  have h2 := Nat.div_add_mod' u Y1
  have h3 := Nat.mod_lt u h1
  rw [kd_mul, Nat.add_mul, Nat.add_mul]
  generalize u / Y1 * Y1 = a at *
  generalize u / Y1 * Y0 = b at *
  omega
theorem kd_lin {u r t a b : Nat} (h : a + r = u) (h2 : r * 4294967296 + t < b) : u * 4294967296 + t < a * 4294967296 + b := by
  rw [← h, Nat.add_mul a r, Nat.add_assoc]
  exact Nat.add_lt_add_left h2 _
theorem kd_lin2 {u t Y a : Nat} (h : u < Y) (ht : t < 4294967296) (h2 : 4294967296 * Y ≤ a) : u * 4294967296 + t < a := by omega
theorem kd_go {u Y1 Y0 t q r : Nat} (h : KdI u Y1 Y0 t q r) (ht : t < 4294967296) (hu : u < Y1 * 4294967296 + Y0) (hc : 4294967296 ≤ q ∨ r * 4294967296 + t < q * Y0) : 1 ≤ q ∧ KdI u Y1 Y0 t (q - 1) (r + Y1) := by
  obtain ⟨h1, h2⟩ := h
  have hN : u * 4294967296 + t < q * (Y1 * 4294967296 + Y0) := by
    rcases hc with hc | hc
    · have h3 := Nat.mul_le_mul_right (Y1 * 4294967296 + Y0) hc
      exact kd_lin2 hu ht h3
    · rw [kd_mul]
      exact kd_lin h1 hc
  have hq : 1 ≤ q := by
    have key : ∀ M Y : Nat, M < q * Y → 1 ≤ q := by
      intro M Y h
      rcases Nat.eq_zero_or_pos q with h0 | h0
      · rw [h0, Nat.zero_mul] at h
        exact absurd h (Nat.not_lt_zero M)
      · exact h0
    exact key _ _ hN
  refine ⟨hq, ?_, ?_⟩
  · obtain ⟨k, rfl⟩ : ∃ k, q = k + 1 := ⟨q - 1, by omega⟩
    rw [Nat.add_sub_cancel]
    rw [Nat.add_mul] at h1
    omega
  · rw [show q - 1 + 1 = q from by omega]
    exact hN
theorem kd_quot {N Y q : Nat} (h1 : q * Y ≤ N) (h2 : N < (q + 1) * Y) : q = N / Y := by
  have hY : 0 < Y := by
    rcases Nat.eq_zero_or_pos Y with h | h
    · subst h; omega
    · exact h
  exact ((Nat.div_eq_iff hY).2 ⟨h1, by rw [Nat.add_mul] at h2; omega⟩).symm
theorem kd_end {u Y1 Y0 t q r : Nat} (h : KdI u Y1 Y0 t q r) (hc : ¬ r * 4294967296 + t < q * Y0) : q = (u * 4294967296 + t) / (Y1 * 4294967296 + Y0) := by
  obtain ⟨h1, h2⟩ := h
  refine kd_quot ?_ h2
  rw [kd_mul]
  generalize q * Y1 = a at *
  generalize q * Y0 = b at *
  omega
theorem kd_brk {u Y1 Y0 t q r : Nat} (h : KdI u Y1 Y0 t q r) (hu : u < Y1 * 4294967296 + Y0) (h0 : Y0 < 4294967296) (hr : 4294967296 ≤ r) : q < 4294967296 ∧ q = (u * 4294967296 + t) / (Y1 * 4294967296 + Y0) := by
  obtain ⟨h1, h2⟩ := h
  have hq : q < 4294967296 := by
    rcases Nat.lt_or_ge q 4294967296 with h | h
    · exact h
    · have h3 := Nat.mul_le_mul_right Y1 h
      generalize q * Y1 = a at *
      omega
  refine ⟨hq, kd_quot ?_ h2⟩
  have h3 : q * Y0 ≤ 18446744065119617025 := Lib.half_mul_le (by omega) (by omega)
  rw [kd_mul]
  generalize q * Y1 = a at *
  generalize q * Y0 = b at *
  omega
theorem kd_lt {u Y1 Y0 t q r : Nat} (h : KdI u Y1 Y0 t q r) (hu : u < Y1 * 4294967296 + Y0) (ht : t < 4294967296) (hY : 2147483648 ≤ Y1) : (u * 4294967296 + t) / (Y1 * 4294967296 + Y0) < 4294967296 := by
  rw [Nat.div_lt_iff_lt_mul (by omega)]
  omega
/-- What is left, in words of 64 bits. -/
theorem kd_rest {u t q Y : Nat} (h1 : q = (u * 4294967296 + t) / Y) (hY : 0 < Y) (hY2 : Y ≤ 18446744073709551616) :
    IntKind.u64.wrap (IntKind.u64.wrap (IntKind.u64.wrap ((u : Int) * 4294967296) + (t : Int)) - IntKind.u64.wrap ((q : Int) * (Y : Int))) = (((u * 4294967296 + t) % Y : Nat) : Int) := by
  have h2 := Nat.div_add_mod' (u * 4294967296 + t) Y
  have h3 := Nat.mod_lt (u * 4294967296 + t) hY
  rw [← h1] at h2
  rw [← Int.natCast_mul]
  simp only [IntKind.wrap_u64]
  generalize q * Y = a at *
  generalize (u * 4294967296 + t) % Y = b at *
  omega

/-- The whole of it. -/
theorem kd_all {hi lo y s u32 u10 q1 q0 : Nat} (hs : s ≤ 63) (hlo : lo < 18446744073709551616) (hy : hi < y)
    (h32 : u32 = hi * 2 ^ s + lo / 2 ^ (64 - s)) (h10 : u10 = lo * 2 ^ s % 18446744073709551616)
    (h1 : q1 = (u32 * 4294967296 + u10 / 4294967296) / (y * 2 ^ s)) (h0 : q0 = ((u32 * 4294967296 + u10 / 4294967296) % (y * 2 ^ s) * 4294967296 + u10 % 4294967296) / (y * 2 ^ s)) :
    q1 * 4294967296 + q0 = (hi * 18446744073709551616 + lo) / y ∧ ((u32 * 4294967296 + u10 / 4294967296) % (y * 2 ^ s) * 4294967296 + u10 % 4294967296) % (y * 2 ^ s) / 2 ^ s = (hi * 18446744073709551616 + lo) % y := by
  have hP : 0 < 2 ^ s := Nat.pow_pos (by omega)
  have hYP : 0 < y * 2 ^ s := Nat.mul_pos (by omega) hP
  have hpw : 18446744073709551616 = 2 ^ (64 - s) * 2 ^ s := by rw [← Nat.pow_add, show 64 - s + s = 64 from by omega]
  have hdiv : lo * 2 ^ s / 18446744073709551616 = lo / 2 ^ (64 - s) := by
    rw [hpw, Nat.mul_div_mul_right _ _ hP]
  have hl := Nat.div_add_mod' (lo * 2 ^ s) 18446744073709551616
  rw [hdiv, ← h10] at hl
  have hN : (hi * 18446744073709551616 + lo) * 2 ^ s = u32 * 18446744073709551616 + u10 := by
    rw [h32, Nat.add_mul (hi * 18446744073709551616) lo, ← hl, Nat.mul_right_comm hi, Nat.add_mul (hi * 2 ^ s), Nat.add_assoc]
  obtain ⟨Y, hY⟩ : ∃ Y, y * 2 ^ s = Y := ⟨_, rfl⟩
  rw [hY] at h1 h0 hYP ⊢
  have e1 := Nat.div_add_mod' (u32 * 4294967296 + u10 / 4294967296) Y
  obtain ⟨R1, hR1⟩ : ∃ R1, (u32 * 4294967296 + u10 / 4294967296) % Y = R1 := ⟨_, rfl⟩
  rw [hR1] at h0 e1 ⊢
  rw [← h1] at e1
  have e0 := Nat.div_add_mod' (R1 * 4294967296 + u10 % 4294967296) Y
  have l0 := Nat.mod_lt (R1 * 4294967296 + u10 % 4294967296) hYP
  obtain ⟨R0, hR0⟩ : ∃ R0, (R1 * 4294967296 + u10 % 4294967296) % Y = R0 := ⟨_, rfl⟩
  rw [hR0] at e0 l0 ⊢
  rw [← h0] at e0
  have hT : (hi * 18446744073709551616 + lo) * 2 ^ s = (q1 * 4294967296 + q0) * Y + R0 := by
    rw [hN, Nat.add_mul (q1 * 4294967296) q0, Nat.mul_right_comm q1]
    clear hpw hdiv hl hN hY h32 h10 h1 h0 hR1 hR0
    generalize q1 * Y = a at *
    generalize q0 * Y = b at *
    omega
  obtain ⟨N, hNN⟩ : ∃ N, hi * 18446744073709551616 + lo = N := ⟨_, rfl⟩
  rw [hNN] at hT ⊢
  obtain ⟨Q, hQ⟩ : ∃ Q, q1 * 4294967296 + q0 = Q := ⟨_, rfl⟩
  rw [hQ] at hT ⊢
  have d1 : N * 2 ^ s / Y = Q := by
    rw [hT, Nat.add_comm, Nat.add_mul_div_right _ _ hYP, Nat.div_eq_of_lt l0, Nat.zero_add]
  have d2 : N * 2 ^ s % Y = R0 := by
    rw [hT, Nat.add_comm, Nat.add_mul_mod_self_right, Nat.mod_eq_of_lt l0]
  rw [← hY, Nat.mul_div_mul_right _ _ hP] at d1
  rw [← hY, Nat.mul_mod_mul_right] at d2
  exact ⟨d1.symm, by rw [← d2, Nat.mul_div_cancel _ hP]⟩
theorem kd_top {hi lo y s u32 : Nat} (hs : s ≤ 63) (hlo : lo < 18446744073709551616) (hy : hi < y) (h32 : u32 = hi * 2 ^ s + lo / 2 ^ (64 - s)) : u32 < y * 2 ^ s ∧ lo / 2 ^ (64 - s) < 2 ^ s := by
  have hpw : 18446744073709551616 = 2 ^ (64 - s) * 2 ^ s := by rw [← Nat.pow_add, show 64 - s + s = 64 from by omega]
  have h1 : lo / 2 ^ (64 - s) < 2 ^ s := by
    rw [Nat.div_lt_iff_lt_mul (Nat.pow_pos (by omega)), Nat.mul_comm, ← hpw]
    exact hlo
  refine ⟨?_, h1⟩
  have h2 := Nat.mul_le_mul_right (2 ^ s) (show hi + 1 ≤ y from hy)
  rw [Nat.add_mul] at h2
  omega
theorem or_join (a s b : Nat) (h : b < 2 ^ s) : a * 2 ^ s ||| b = a * 2 ^ s + b := by
  rw [Nat.mul_comm, Nat.two_pow_add_eq_or_of_lt h]
end Go.Proofs.YtilajcibjlcffaaGreatDoor
