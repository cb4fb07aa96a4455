/- The plain law of a division of two words by one, by halves of words: no program in sight. math/bits.Div64: two words by one. Contracts of dec's divided, Mul, Div, Of, Whole. -/
import Derived.Test.YtbdgdhjhgcpidaaGreatDoorSfI
import Derived.Laws.Bits64b
import Derived.Lib.ItoaNum
import Derived.Deep.CutBlock
import Derived.Test.YtbdgdhjhgcpidaaGreatDoorSfR
set_option linter.unusedSimpArgs false
set_option linter.unusedVariables false
namespace Go.Proofs.YtbdgdhjhgcpidaaGreatDoor
def KdI (u Y1 Y0 t q r : Nat) : Prop := q * Y1 + r = u ∧ u * 4294967296 + t < (q + 1) * (Y1 * 4294967296 + Y0)
theorem kd_mul (q Y1 Y0 : Nat) : q * (Y1 * 4294967296 + Y0) = q * Y1 * 4294967296 + q * Y0 := by rw [Nat.mul_add, Nat.mul_assoc]
theorem kd_start {u Y1 Y0 t : Nat} (h1 : 0 < Y1) (ht : t < 4294967296) : KdI u Y1 Y0 t (u / Y1) (u % Y1) := by
  refine ⟨Nat.div_add_mod' u Y1, ?_⟩
  have h2 := Nat.div_add_mod' u Y1
  have h3 := Nat.mod_lt u h1
  rw [kd_mul, Nat.add_mul, Nat.add_mul]
  generalize u / Y1 * Y1 = a at *
  generalize u / Y1 * Y0 = b at *
  omega
theorem kd_lin {u r t a b : Nat} (h : a + r = u) (h2 : r * 4294967296 + t < b) : u * 4294967296 + t < a * 4294967296 + b := by
  rw [← h, Nat.add_mul a r, Nat.add_assoc]
  exact Nat.add_lt_add_left h2 _
theorem kd_lin2 {u t Y a : Nat} (h : u < Y) (ht : t < 4294967296) (h2 : 4294967296 * Y ≤ a) : u * 4294967296 + t < a := by omega
theorem kd_go {u Y1 Y0 t q r : Nat} (h : KdI u Y1 Y0 t q r) (ht : t < 4294967296) (hu : u < Y1 * 4294967296 + Y0) (hc : 4294967296 ≤ q ∨ r * 4294967296 + t < q * Y0) : 1 ≤ q ∧ KdI u Y1 Y0 t (q - 1) (r + Y1) := by
  obtain ⟨h1, h2⟩ := h
  have hN : u * 4294967296 + t < q * (Y1 * 4294967296 + Y0) := by
    rcases hc with hc | hc
    · have h3 := Nat.mul_le_mul_right (Y1 * 4294967296 + Y0) hc
      exact kd_lin2 hu ht h3
    · rw [kd_mul]
      exact kd_lin h1 hc
  have hq : 1 ≤ q := by
    have key : ∀ M Y : Nat, M < q * Y → 1 ≤ q := by
      intro M Y h
      rcases Nat.eq_zero_or_pos q with h0 | h0
      · rw [h0, Nat.zero_mul] at h
        exact absurd h (Nat.not_lt_zero M)
      · exact h0
    exact key _ _ hN
  refine ⟨hq, ?_, ?_⟩
  · obtain ⟨k, rfl⟩ : ∃ k, q = k + 1 := ⟨q - 1, by omega⟩
    rw [Nat.add_sub_cancel]
    rw [Nat.add_mul] at h1
    omega
  · rw [show q - 1 + 1 = q from by omega]
    exact hN
theorem kd_quot {N Y q : Nat} (h1 : q * Y ≤ N) (h2 : N < (q + 1) * Y) : q = N / Y := by
  have hY : 0 < Y := by
    rcases Nat.eq_zero_or_pos Y with h | h
    · subst h; omega
    · exact h
  exact ((Nat.div_eq_iff hY).2 ⟨h1, by rw [Nat.add_mul] at h2; omega⟩).symm
theorem kd_end {u Y1 Y0 t q r : Nat} (h : KdI u Y1 Y0 t q r) (hc : ¬ r * 4294967296 + t < q * Y0) : q = (u * 4294967296 + t) / (Y1 * 4294967296 + Y0) := by
  obtain ⟨h1, h2⟩ := h
  refine kd_quot ?_ h2
  rw [kd_mul]
  generalize q * Y1 = a at *
  generalize q * Y0 = b at *
  omega
theorem kd_brk {u Y1 Y0 t q r : Nat} (h : KdI u Y1 Y0 t q r) (hu : u < Y1 * 4294967296 + Y0) (h0 : Y0 < 4294967296) (hr : 4294967296 ≤ r) : q < 4294967296 ∧ q = (u * 4294967296 + t) / (Y1 * 4294967296 + Y0) := by
  obtain ⟨h1, h2⟩ := h
  have hq : q < 4294967296 := by
    rcases Nat.lt_or_ge q 4294967296 with h | h
    · exact h
    · have h3 := Nat.mul_le_mul_right Y1 h
      generalize q * Y1 = a at *
      omega
  refine ⟨hq, kd_quot ?_ h2⟩
  have h3 : q * Y0 ≤ 18446744065119617025 := Lib.half_mul_le (by omega) (by omega)
  rw [kd_mul]
  generalize q * Y1 = a at *
  generalize q * Y0 = b at *
  omega
theorem kd_lt {u Y1 Y0 t q r : Nat} (h : KdI u Y1 Y0 t q r) (hu : u < Y1 * 4294967296 + Y0) (ht : t < 4294967296) (hY : 2147483648 ≤ Y1) : (u * 4294967296 + t) / (Y1 * 4294967296 + Y0) < 4294967296 := by
  rw [Nat.div_lt_iff_lt_mul (by omega)]
  omega
theorem kd_rest {u t q Y : Nat} (h1 : q = (u * 4294967296 + t) / Y) (hY : 0 < Y) (hY2 : Y ≤ 18446744073709551616) :
    IntKind.u64.wrap (IntKind.u64.wrap (IntKind.u64.wrap ((u : Int) * 4294967296) + (t : Int)) - IntKind.u64.wrap ((q : Int) * (Y : Int))) = (((u * 4294967296 + t) % Y : Nat) : Int) := by
  have h2 := Nat.div_add_mod' (u * 4294967296 + t) Y
  have h3 := Nat.mod_lt (u * 4294967296 + t) hY
  rw [← h1] at h2
  rw [← Int.natCast_mul]
  simp only [IntKind.wrap_u64]
  generalize q * Y = a at *
  generalize (u * 4294967296 + t) % Y = b at *
  omega
theorem kd_all {hi lo y s u32 u10 q1 q0 : Nat} (hs : s ≤ 63) (hlo : lo < 18446744073709551616) (hy : hi < y)
    (h32 : u32 = hi * 2 ^ s + lo / 2 ^ (64 - s)) (h10 : u10 = lo * 2 ^ s % 18446744073709551616)
    (h1 : q1 = (u32 * 4294967296 + u10 / 4294967296) / (y * 2 ^ s)) (h0 : q0 = ((u32 * 4294967296 + u10 / 4294967296) % (y * 2 ^ s) * 4294967296 + u10 % 4294967296) / (y * 2 ^ s)) :
    q1 * 4294967296 + q0 = (hi * 18446744073709551616 + lo) / y ∧ ((u32 * 4294967296 + u10 / 4294967296) % (y * 2 ^ s) * 4294967296 + u10 % 4294967296) % (y * 2 ^ s) / 2 ^ s = (hi * 18446744073709551616 + lo) % y := by
  have hP : 0 < 2 ^ s := Nat.pow_pos (by omega)
  have hYP : 0 < y * 2 ^ s := Nat.mul_pos (by omega) hP
  have hpw : 18446744073709551616 = 2 ^ (64 - s) * 2 ^ s := by rw [← Nat.pow_add, show 64 - s + s = 64 from by omega]
  have hdiv : lo * 2 ^ s / 18446744073709551616 = lo / 2 ^ (64 - s) := by
    rw [hpw, Nat.mul_div_mul_right _ _ hP]
  have hl := Nat.div_add_mod' (lo * 2 ^ s) 18446744073709551616
  rw [hdiv, ← h10] at hl
  have hN : (hi * 18446744073709551616 + lo) * 2 ^ s = u32 * 18446744073709551616 + u10 := by
    rw [h32, Nat.add_mul (hi * 18446744073709551616) lo, ← hl, Nat.mul_right_comm hi, Nat.add_mul (hi * 2 ^ s), Nat.add_assoc]
  obtain ⟨Y, hY⟩ : ∃ Y, y * 2 ^ s = Y := ⟨_, rfl⟩
  rw [hY] at h1 h0 hYP ⊢
  have e1 := Nat.div_add_mod' (u32 * 4294967296 + u10 / 4294967296) Y
  obtain ⟨R1, hR1⟩ : ∃ R1, (u32 * 4294967296 + u10 / 4294967296) % Y = R1 := ⟨_, rfl⟩
  rw [hR1] at h0 e1 ⊢
  rw [← h1] at e1
  have e0 := Nat.div_add_mod' (R1 * 4294967296 + u10 % 4294967296) Y
  have l0 := Nat.mod_lt (R1 * 4294967296 + u10 % 4294967296) hYP
  obtain ⟨R0, hR0⟩ : ∃ R0, (R1 * 4294967296 + u10 % 4294967296) % Y = R0 := ⟨_, rfl⟩
  rw [hR0] at e0 l0 ⊢
  rw [← h0] at e0
  have hT : (hi * 18446744073709551616 + lo) * 2 ^ s = (q1 * 4294967296 + q0) * Y + R0 := by
    rw [hN, Nat.add_mul (q1 * 4294967296) q0, Nat.mul_right_comm q1]
    clear hpw hdiv hl hN hY h32 h10 h1 h0 hR1 hR0
    generalize q1 * Y = a at *
    generalize q0 * Y = b at *
    omega
  obtain ⟨N, hNN⟩ : ∃ N, hi * 18446744073709551616 + lo = N := ⟨_, rfl⟩
  rw [hNN] at hT ⊢
  obtain ⟨Q, hQ⟩ : ∃ Q, q1 * 4294967296 + q0 = Q := ⟨_, rfl⟩
  rw [hQ] at hT ⊢
  have d1 : N * 2 ^ s / Y = Q := by
    rw [hT, Nat.add_comm, Nat.add_mul_div_right _ _ hYP, Nat.div_eq_of_lt l0, Nat.zero_add]
  have d2 : N * 2 ^ s % Y = R0 := by
    rw [hT, Nat.add_comm, Nat.add_mul_mod_self_right, Nat.mod_eq_of_lt l0]
  rw [← hY, Nat.mul_div_mul_right _ _ hP] at d1
  rw [← hY, Nat.mul_mod_mul_right] at d2
  exact ⟨d1.symm, by rw [← d2, Nat.mul_div_cancel _ hP]⟩
theorem kd_top {hi lo y s u32 : Nat} (hs : s ≤ 63) (hlo : lo < 18446744073709551616) (hy : hi < y) (h32 : u32 = hi * 2 ^ s + lo / 2 ^ (64 - s)) : u32 < y * 2 ^ s ∧ lo / 2 ^ (64 - s) < 2 ^ s := by
  have hpw : 18446744073709551616 = 2 ^ (64 - s) * 2 ^ s := by rw [← Nat.pow_add, show 64 - s + s = 64 from by omega]
  have h1 : lo / 2 ^ (64 - s) < 2 ^ s := by
    rw [Nat.div_lt_iff_lt_mul (Nat.pow_pos (by omega)), Nat.mul_comm, ← hpw]
    exact hlo
  refine ⟨?_, h1⟩
  have h2 := Nat.mul_le_mul_right (2 ^ s) (show hi + 1 ≤ y from hy)
  rw [Nat.add_mul] at h2
  omega
theorem or_join (a s b : Nat) (h : b < 2 ^ s) : a * 2 ^ s ||| b = a * 2 ^ s + b := by
  rw [Nat.mul_comm, Nat.two_pow_add_eq_or_of_lt h]
end Go.Proofs.YtbdgdhjhgcpidaaGreatDoor
namespace Go.Proofs.YtbdgdhjhgcpidaaGreatDoor
open Go.RowKit
theorem lz_bounds (y : Nat) (h0 : 0 < y) (h1 : y < 18446744073709551616) : ∃ s : Nat, s ≤ 63 ∧ (64 - (Lib.bitLen y : Int)) = (s : Int) ∧ 9223372036854775808 ≤ y * 2 ^ s ∧ y * 2 ^ s < 18446744073709551616 := by
  obtain ⟨b1, b2, b3⟩ := Lib.bitLenAux_bounds 64 y (by omega) (by omega)
  have e : Lib.bitLen y = Lib.bitLenAux 64 y := rfl
  rw [e]
  generalize Lib.bitLenAux 64 y = b at *
  clear e
  have hb : b ≤ 64 := by
    rcases Nat.lt_or_ge 64 b with h | h
    · have h2 : 2 ^ 64 ≤ 2 ^ (b - 1) := Nat.pow_le_pow_right (by omega) (by omega)
      omega
    · exact h
  refine ⟨64 - b, by omega, by omega, ?_, ?_⟩
  · have h2 := Nat.mul_le_mul_right (2 ^ (64 - b)) b2
    rw [← Nat.pow_add, show b - 1 + (64 - b) = 63 from by omega] at h2
    exact h2
  · have h2 := Nat.mul_lt_mul_of_pos_right b3 (Nat.pow_pos (n := 64 - b) (by omega : 0 < 2))
    rw [← Nat.pow_add, show b + (64 - b) = 64 from by omega] at h2
    exact h2
theorem lz_at (y s : Nat) (h1 : y < 18446744073709551616) (hs : (64 - (Lib.bitLen y : Int)) = (s : Int)) (w : World) :
    Calls Tryz.prog 112 #[.int .u64 y] w fun e w' => e = .returned (.int .i64 s) ∧ w = w' := by
  have h := Tryz.bits_LeadingZeros64 y w (by omega) (by omega)
  rw [Int.toNat_natCast, hs] at h
  exact h.mono fun e w' ⟨h1, h2⟩ => ⟨h1, h2.symm⟩
set_option maxRecDepth 100000 in
set_option maxHeartbeats 1000000 in
theorem div64_one (lo y : Nat) (hy : 0 < y) (hy6 : y < 18446744073709551616) (hlo : lo < 18446744073709551616) (w : World) :
    Calls Tryz.prog 83 #[.int .u64 0, .int .u64 lo, .int .u64 y] w fun e w' => e = .returned (.tuple #[.int .u64 ((lo / y : Nat) : Int), .int .u64 ((lo % y : Nat) : Int)]) ∧ Below w.heap.size w w' := by
  obtain ⟨q, hq⟩ : ∃ q : Nat, lo / y = q := ⟨_, rfl⟩
  obtain ⟨r, hr⟩ : ∃ r : Nat, lo % y = r := ⟨_, rfl⟩
  have hq2 : q ≤ lo := by rw [← hq]; exact Nat.div_le_self _ _
  have hr2 : r < y := by rw [← hr]; exact Nat.mod_lt _ hy
  have e1 : (lo : Int) / (y : Int) = (q : Int) := by rw [← hq]; rfl
  have e2 : (lo : Int) % (y : Int) = (r : Int) := by rw [← hr]; rfl
  have e3 : IntKind.u64.wrap (q : Int) = (q : Int) := IntWalk.u64_in _ (by omega)
  have e4 : IntKind.u64.wrap (r : Int) = (r : Int) := IntWalk.u64_in _ (by omega)
  have e5 : IntKind.u64.wrap ((lo : Int) / (y : Int)) = (q : Int) := by rw [e1]; exact e3
  rw [hq, hr]
  clear hq hr
  have t1 : ((y : Int) == 0) = false := by simp; omega
  go_enter Tryz.func83, Tryz.ntmps83
  go_wp2_with fail
  go_quiet (fail)
  go_wp2
  go_ret2
  exact ⟨by first | rfl | (rw [← e2]; rfl), bel_drewN (Below.refl _ _) _⟩
theorem mul_u64 (a b : Nat) (h : a * b < 18446744073709551616) : IntKind.u64.wrap ((a : Int) * (b : Int)) = ((a * b : Nat) : Int) := by
  rw [← Int.natCast_mul, IntKind.wrap_u64]
  generalize a * b = m at *
  omega
theorem cast_div (a b c : Nat) (h : a / b = c) : (a : Int) / (b : Int) = (c : Int) := by rw [← h]; rfl
theorem pow_cast (s : Nat) : ((2 ^ s : Nat) : Int) = (2 : Int) ^ s := by simp
set_option maxRecDepth 100000 in
set_option maxHeartbeats 4000000 in
theorem div64_two (hi lo y : Nat) (h0 : 0 < hi) (hy : hi < y) (hy6 : y < 18446744073709551616) (hlo : lo < 18446744073709551616) (w : World) :
    Calls Tryz.prog 83 #[.int .u64 hi, .int .u64 lo, .int .u64 y] w fun e w' => e = .returned (.tuple #[.int .u64 (((hi * 18446744073709551616 + lo) / y : Nat) : Int), .int .u64 (((hi * 18446744073709551616 + lo) % y : Nat) : Int)]) ∧ w = w' := by
  obtain ⟨s, hs63, hsz, hYa, hYb⟩ := lz_bounds y (by omega) hy6
  have HLZ := Lib.hid (fun W => lz_at y s hy6 hsz W)
  have t1 : ((y : Int) == 0) = false := by simp; omega
  have t2 : ((hi : Int) == 0) = false := by simp; omega
  have t3 : ¬ (y : Int) ≤ (hi : Int) := by omega
  have t4 : IntKind.u64.wrap (s : Int) = (s : Int) := IntWalk.u64_in _ (by omega)
  have hm : min s 64 = s := by omega
  obtain ⟨k, hk⟩ : ∃ k, 64 - s = k := ⟨_, rfl⟩
  have t5 : IntKind.u64.wrap (64 - (s : Int)) = (k : Int) := by rw [IntWalk.u64_in _ (by omega)]; omega
  have hmk : min k 64 = k := by omega
  obtain ⟨Y, hY⟩ : ∃ Y, y * 2 ^ s = Y := ⟨_, rfl⟩
  obtain ⟨u32, h32⟩ : ∃ u32, u32 = hi * 2 ^ s + lo / 2 ^ (64 - s) := ⟨_, rfl⟩
  obtain ⟨u10, h10⟩ : ∃ u10, u10 = lo * 2 ^ s % 18446744073709551616 := ⟨_, rfl⟩
  obtain ⟨hu32, hL⟩ := kd_top hs63 hlo hy h32
  obtain ⟨Q1, hQ1⟩ : ∃ Q1, (u32 * 4294967296 + u10 / 4294967296) / (y * 2 ^ s) = Q1 := ⟨_, rfl⟩
  obtain ⟨U, hU⟩ : ∃ U, (u32 * 4294967296 + u10 / 4294967296) % (y * 2 ^ s) = U := ⟨_, rfl⟩
  obtain ⟨Q0, hQ0⟩ : ∃ Q0, (U * 4294967296 + u10 % 4294967296) / (y * 2 ^ s) = Q0 := ⟨_, rfl⟩
  obtain ⟨R, hR⟩ : ∃ R, (U * 4294967296 + u10 % 4294967296) % (y * 2 ^ s) = R := ⟨_, rfl⟩
  have hall := kd_all hs63 hlo hy h32 h10 hQ1.symm (by rw [hU, hQ0])
  rw [hU, hR] at hall
  have HALL := Lib.hid hall
  have hYpos : 0 < Y := by rw [← hY]; omega
  rw [hY] at hYa hYb hQ1 hU hQ0 hR hu32
  have hUl : U < Y := by rw [← hU]; exact Nat.mod_lt _ hYpos
  have wY : IntKind.u64.wrap ((y : Int) * 2 ^ s) = (Y : Int) := by rw [← pow_cast, mul_u64 y (2 ^ s) (by rw [hY]; exact hYb), hY]
  obtain ⟨Y1, hY1⟩ : ∃ Y1, Y / 4294967296 = Y1 := ⟨_, rfl⟩
  obtain ⟨Y0, hY0⟩ : ∃ Y0, Y % 4294967296 = Y0 := ⟨_, rfl⟩
  have hYY : Y1 * 4294967296 + Y0 = Y := by omega
  have dY : (Y : Int) / 4294967296 = (Y1 : Int) := by omega
  have aY : bits .and .u64 (Y : Int) 4294967295 = (Y0 : Int) := by rw [Mul64.maskN Y hYb, hY0]
  obtain ⟨H, hH⟩ : ∃ H, hi * 2 ^ s = H := ⟨_, rfl⟩
  obtain ⟨L, hLL⟩ : ∃ L, lo / 2 ^ k = L := ⟨_, rfl⟩
  rw [hk, hLL, hH] at h32
  rw [hk, hLL] at hL
  have wH : IntKind.u64.wrap ((hi : Int) * 2 ^ s) = (H : Int) := by rw [← pow_cast, mul_u64 hi (2 ^ s) (by rw [hH]; omega), hH]
  have dL : (lo : Int) / 2 ^ k = (L : Int) := by rw [← pow_cast]; exact cast_div lo (2 ^ k) L hLL
  have oU : bits .or .u64 (H : Int) (L : Int) = (u32 : Int) := by
    rw [bits_or_u64_nat H L (by omega) (by omega), ← hH, or_join hi s L hL, hH, h32]
  have w10 : IntKind.u64.wrap ((lo : Int) * 2 ^ s) = (u10 : Int) := by rw [← pow_cast, ← Int.natCast_mul, Mul64.wrapM, ← h10]
  have hu10 : u10 < 18446744073709551616 := by rw [h10]; exact Nat.mod_lt _ (by omega)
  obtain ⟨t1', ht1'⟩ : ∃ t1', u10 / 4294967296 = t1' := ⟨_, rfl⟩
  obtain ⟨t0', ht0'⟩ : ∃ t0', u10 % 4294967296 = t0' := ⟨_, rfl⟩
  have d10 : (u10 : Int) / 4294967296 = (t1' : Int) := by omega
  have a10 : bits .and .u64 (u10 : Int) 4294967295 = (t0' : Int) := by rw [Mul64.maskN u10 hu10, ht0']
  have ht1l : t1' < 4294967296 := by omega
  have ht0l : t0' < 4294967296 := by omega
  have hY1a : 2147483648 ≤ Y1 := by omega
  have hY1b : Y1 < 4294967296 := by omega
  have hY0b : Y0 < 4294967296 := by omega
  rw [ht1'] at hQ1 hU
  rw [ht0'] at hQ0 hR
  have HY1 : Hid (0 < Y1) := by unfold Hid; omega
  have HY0 : Hid (Y0 < 4294967296) := hY0b
  have Ht1' : Hid (t1' < 4294967296) := ht1l
  have Ht0' : Hid (t0' < 4294967296) := ht0l
  have Hu32 : Hid (u32 < Y1 * 4294967296 + Y0 ∧ u32 ≤ 18446744073709551615) := by unfold Hid; omega
  have HU : Hid (U < Y1 * 4294967296 + Y0 ∧ U ≤ 18446744073709551615) := by unfold Hid; omega
  have HQ1 : Hid ((u32 * 4294967296 + t1') / (Y1 * 4294967296 + Y0) = Q1) := by unfold Hid; rw [hYY]; exact hQ1
  have HQ0 : Hid ((U * 4294967296 + t0') / (Y1 * 4294967296 + Y0) = Q0) := by unfold Hid; rw [hYY]; exact hQ0
  have hQ1l : Q1 < 4294967296 := by rw [← HQ1.out]; exact kd_lt (kd_start (u := u32) (Y0 := Y0) HY1.out ht1l) Hu32.out.1 ht1l hY1a
  have hQ0l : Q0 < 4294967296 := by rw [← HQ0.out]; exact kd_lt (kd_start (u := U) (Y0 := Y0) HY1.out ht0l) HU.out.1 ht0l hY1a
  have rU := kd_rest (u := u32) (t := t1') (q := Q1) (Y := Y) hQ1.symm hYpos (by omega)
  have rR := kd_rest (u := U) (t := t0') (q := Q0) (Y := Y) hQ0.symm hYpos (by omega)
  rw [hU] at rU
  rw [hR] at rR
  have z1 : ((Y1 : Int) == 0) = false := by simp; omega
  have zne : Y1 ≠ 0 := by omega
  have zne2 : (Y1 : Int) ≠ 0 := by omega
  have gen : ∀ u : Nat, u ≤ 18446744073709551615 → ∃ d e : Nat, u / Y1 = d ∧ u % Y1 = e ∧ (u : Int) / (Y1 : Int) = (d : Int) ∧ IntKind.u64.wrap (d : Int) = (d : Int) ∧ IntKind.u64.wrap ((u : Int) - IntKind.u64.wrap ((d : Int) * (Y1 : Int))) = (e : Int) := by
    intro u hu
    have h1 := Nat.div_add_mod' u Y1
    have h2 := Nat.div_le_self u Y1
    refine ⟨u / Y1, u % Y1, rfl, rfl, rfl, ?_, ?_⟩
    · generalize u / Y1 = d at *
      exact IntWalk.u64_in _ (by omega)
    · rw [mul_u64 (u / Y1) Y1 (by omega)]
      simp only [IntKind.wrap_u64]
      generalize u / Y1 * Y1 = m at *
      generalize u % Y1 = e at *
      omega
  obtain ⟨d1, e1, hd1, he1, dq1, dw1, dr1⟩ := gen u32 Hu32.out.2
  obtain ⟨d0, e0, hd0, he0, dq0, dw0, dr0⟩ := gen U HU.out.2
  have HD1 : Hid (u32 / Y1 = d1 ∧ u32 % Y1 = e1) := ⟨hd1, he1⟩
  have HD0 : Hid (U / Y1 = d0 ∧ U % Y1 = e0) := ⟨hd0, he0⟩
  obtain ⟨rem, hrem⟩ : ∃ rem, R / 2 ^ s = rem := ⟨_, rfl⟩
  have dR : (R : Int) / 2 ^ s = (rem : Int) := by rw [← pow_cast]; exact cast_div R (2 ^ s) rem hrem
  rw [hrem] at HALL
  have HK := Lib.hid hall
  clear hd1 he1 hd0 he0 gen hall hsz hY hk hH hLL h32 h10 hQ1 hU hQ0 hR hL hY1 hY0 hYY ht1' ht0' hrem HK hYa hu32 hUl hYpos hYb hu10 hs63
  go_enter Tryz.func83, Tryz.ntmps83
  go_wp2_with fail
  refine (HLZ.out _).mono ?_
  rintro e w1 ⟨rfl, rfl⟩
  go_upto_block 0 with fail
  go_cut [15] (fun vq wx => w = wx ∧ vq = .int .u64 (Q1 : Int))
  case first =>
    go_wp2_with fail
    go_loopg [15, 16] d1 (fun g vq v16 wr => wr = w ∧ ∃ r : Nat, vq = .int .u64 (g : Int) ∧ v16 = .int .u64 (r : Int) ∧ g ≤ 18446744073709551615 ∧ r < 4294967296 ∧ KdI u32 Y1 Y0 t1' g r)
    case atStart =>
      have h1 := kd_start (u := u32) (Y0 := Y0) HY1.out Ht1'.out
      rw [HD1.out.1, HD1.out.2] at h1
      exact ⟨rfl, e1, rfl, rfl, by rw [← HD1.out.1]; exact Nat.le_trans (Nat.div_le_self _ _) Hu32.out.2, by rw [← HD1.out.2]; exact Nat.lt_trans (Nat.mod_lt _ HY1.out) hY1b, h1⟩
    case round =>
      obtain ⟨rfl, r, rfl, rfl, hq64, hr, hI⟩ := hrel
      have HI := Lib.hid hI
      clear hI
      have step : (4294967296 ≤ gk ∨ r * 4294967296 + t1' < gk * Y0) → Hid (1 ≤ gk ∧ KdI u32 Y1 Y0 t1' (gk - 1) (r + Y1)) := fun h => kd_go HI.out Ht1'.out Hu32.out.1 h
      by_cases hc : 4294967296 ≤ gk ∨ r * 4294967296 + t1' < gk * Y0
      · have HS := step hc
        have hq1 : 1 ≤ gk := HS.out.1
        clear step
        obtain ⟨b, hb⟩ : ∃ b, gk * Y0 = b := ⟨_, rfl⟩
        rw [hb] at hc
        have HB := Lib.hid hb
        clear hb
        rcases Nat.lt_or_ge gk 4294967296 with hg | hg
        · have hc2 : r * 4294967296 + t1' < b := by omega
          have hwm : IntKind.u64.wrap ((gk : Int) * (Y0 : Int)) = (b : Int) := by rw [← HB.out]; exact mul_u64 gk Y0 (Nat.lt_of_le_of_lt (Lib.half_mul_le (by omega) (by omega)) (by omega))
          have g1 : ¬ (4294967296 : Int) ≤ (gk : Int) := by omega
          have g2 : 4294967296 * (r : Int) + (t1' : Int) < (b : Int) := by omega
          clear hc hc2
          rcases Nat.lt_or_ge (r + Y1) 4294967296 with hr2 | hr2
          · have hr3 : ¬ (4294967296 : Int) ≤ (r : Int) + (Y1 : Int) := by omega
            have HR2 := Lib.hid hr2
            clear hr2
            go_wp2
            go_roundg (gk - 1)
            case measure => omega
            case rel => exact ⟨rfl, r + Y1, by go_num, by go_num, by omega, HR2.out, HS.out.2⟩
          · have HE := Lib.hid (kd_brk HS.out.2 Hu32.out.1 HY0.out hr2)
            have hr3 : (4294967296 : Int) ≤ (r : Int) + (Y1 : Int) := by omega
            go_wp2
            go_meet
            exact ⟨rfl, by rw [← HQ1.out, ← HE.out.2]; go_num⟩
        · have g1 : (4294967296 : Int) ≤ (gk : Int) := by omega
          clear hc
          rcases Nat.lt_or_ge (r + Y1) 4294967296 with hr2 | hr2
          · have hr3 : ¬ (4294967296 : Int) ≤ (r : Int) + (Y1 : Int) := by omega
            have HR2 := Lib.hid hr2
            clear hr2
            go_wp2
            go_roundg (gk - 1)
            case measure => omega
            case rel => exact ⟨rfl, r + Y1, by go_num, by go_num, by omega, HR2.out, HS.out.2⟩
          · have HE := Lib.hid (kd_brk HS.out.2 Hu32.out.1 HY0.out hr2)
            have hr3 : (4294967296 : Int) ≤ (r : Int) + (Y1 : Int) := by omega
            go_wp2
            go_meet
            exact ⟨rfl, by rw [← HQ1.out, ← HE.out.2]; go_num⟩
      · have hc1 : ¬ r * 4294967296 + t1' < gk * Y0 := fun h => hc (.inr h)
        have hg : gk < 4294967296 := Nat.lt_of_not_le fun h => hc (.inl h)
        have HE := Lib.hid (kd_end HI.out hc1)
        obtain ⟨b, hb⟩ : ∃ b, gk * Y0 = b := ⟨_, rfl⟩
        rw [hb] at hc1
        have hwm : IntKind.u64.wrap ((gk : Int) * (Y0 : Int)) = (b : Int) := by rw [← hb]; exact mul_u64 gk Y0 (Nat.lt_of_le_of_lt (Lib.half_mul_le (by omega) (by omega)) (by omega))
        have g1 : ¬ (4294967296 : Int) ≤ (gk : Int) := by omega
        have g2 : ¬ 4294967296 * (r : Int) + (t1' : Int) < (b : Int) := by omega
        clear hc hc1 step hb
        go_wp2
        go_meet
        exact ⟨rfl, by rw [← HQ1.out, ← HE.out]⟩
  case rest =>
    obtain ⟨rfl, rfl⟩ := hcut
    go_upto_block 2 with fail
    go_cut [18] (fun vq wx => w = wx ∧ vq = .int .u64 (Q0 : Int))
    case first =>
      go_wp2_with fail
      go_loopg [18, 16] d0 (fun g vq v16 wr => wr = w ∧ ∃ r : Nat, vq = .int .u64 (g : Int) ∧ v16 = .int .u64 (r : Int) ∧ g ≤ 18446744073709551615 ∧ r < 4294967296 ∧ KdI U Y1 Y0 t0' g r)
      case atStart =>
        have h1 := kd_start (u := U) (Y0 := Y0) HY1.out Ht0'.out
        rw [HD0.out.1, HD0.out.2] at h1
        exact ⟨rfl, e0, rfl, rfl, by rw [← HD0.out.1]; exact Nat.le_trans (Nat.div_le_self _ _) HU.out.2, by rw [← HD0.out.2]; exact Nat.lt_trans (Nat.mod_lt _ HY1.out) hY1b, h1⟩
      case round =>
        obtain ⟨rfl, r, rfl, rfl, hq64, hr, hI⟩ := hrel
        have HI := Lib.hid hI
        clear hI
        have step : (4294967296 ≤ gk ∨ r * 4294967296 + t0' < gk * Y0) → Hid (1 ≤ gk ∧ KdI U Y1 Y0 t0' (gk - 1) (r + Y1)) := fun h => kd_go HI.out Ht0'.out HU.out.1 h
        by_cases hc : 4294967296 ≤ gk ∨ r * 4294967296 + t0' < gk * Y0
        · have HS := step hc
          have hq1 : 1 ≤ gk := HS.out.1
          clear step
          obtain ⟨b, hb⟩ : ∃ b, gk * Y0 = b := ⟨_, rfl⟩
          rw [hb] at hc
          have HB := Lib.hid hb
          clear hb
          rcases Nat.lt_or_ge gk 4294967296 with hg | hg
          · have hc2 : r * 4294967296 + t0' < b := by omega
            have hwm : IntKind.u64.wrap ((gk : Int) * (Y0 : Int)) = (b : Int) := by rw [← HB.out]; exact mul_u64 gk Y0 (Nat.lt_of_le_of_lt (Lib.half_mul_le (by omega) (by omega)) (by omega))
            have g1 : ¬ (4294967296 : Int) ≤ (gk : Int) := by omega
            have g2 : 4294967296 * (r : Int) + (t0' : Int) < (b : Int) := by omega
            clear hc hc2
            rcases Nat.lt_or_ge (r + Y1) 4294967296 with hr2 | hr2
            · have hr3 : ¬ (4294967296 : Int) ≤ (r : Int) + (Y1 : Int) := by omega
              have HR2 := Lib.hid hr2
              clear hr2
              go_wp2
              go_roundg (gk - 1)
              case measure => omega
              case rel => exact ⟨rfl, r + Y1, by go_num, by go_num, by omega, HR2.out, HS.out.2⟩
            · have HE := Lib.hid (kd_brk HS.out.2 HU.out.1 HY0.out hr2)
              have hr3 : (4294967296 : Int) ≤ (r : Int) + (Y1 : Int) := by omega
              go_wp2
              go_meet
              exact ⟨rfl, by rw [← HQ0.out, ← HE.out.2]; go_num⟩
          · have g1 : (4294967296 : Int) ≤ (gk : Int) := by omega
            clear hc
            rcases Nat.lt_or_ge (r + Y1) 4294967296 with hr2 | hr2
            · have hr3 : ¬ (4294967296 : Int) ≤ (r : Int) + (Y1 : Int) := by omega
              have HR2 := Lib.hid hr2
              clear hr2
              go_wp2
              go_roundg (gk - 1)
              case measure => omega
              case rel => exact ⟨rfl, r + Y1, by go_num, by go_num, by omega, HR2.out, HS.out.2⟩
            · have HE := Lib.hid (kd_brk HS.out.2 HU.out.1 HY0.out hr2)
              have hr3 : (4294967296 : Int) ≤ (r : Int) + (Y1 : Int) := by omega
              go_wp2
              go_meet
              exact ⟨rfl, by rw [← HQ0.out, ← HE.out.2]; go_num⟩
        · have hc1 : ¬ r * 4294967296 + t0' < gk * Y0 := fun h => hc (.inr h)
          have hg : gk < 4294967296 := Nat.lt_of_not_le fun h => hc (.inl h)
          have HE := Lib.hid (kd_end HI.out hc1)
          obtain ⟨b, hb⟩ : ∃ b, gk * Y0 = b := ⟨_, rfl⟩
          rw [hb] at hc1
          have hwm : IntKind.u64.wrap ((gk : Int) * (Y0 : Int)) = (b : Int) := by rw [← hb]; exact mul_u64 gk Y0 (Nat.lt_of_le_of_lt (Lib.half_mul_le (by omega) (by omega)) (by omega))
          have g1 : ¬ (4294967296 : Int) ≤ (gk : Int) := by omega
          have g2 : ¬ 4294967296 * (r : Int) + (t0' : Int) < (b : Int) := by omega
          clear hc hc1 step hb
          go_wp2
          go_meet
          exact ⟨rfl, by rw [← HQ0.out, ← HE.out]⟩
    case rest =>
      obtain ⟨rfl, rfl⟩ := hcut
      go_wp2
      go_ret2
      exact ⟨by rw [← HALL.out.1, ← HALL.out.2]; first | rfl | go_num, rfl⟩
theorem div64_any (hi lo y : Nat) (hy : hi < y) (hy6 : y < 18446744073709551616) (hlo : lo < 18446744073709551616) (w : World) :
    Calls Tryz.prog 83 #[.int .u64 hi, .int .u64 lo, .int .u64 y] w fun e w' => e = .returned (.tuple #[.int .u64 (((hi * 18446744073709551616 + lo) / y : Nat) : Int), .int .u64 (((hi * 18446744073709551616 + lo) % y : Nat) : Int)]) ∧ Below w.heap.size w w' := by
  rcases Nat.eq_zero_or_pos hi with h | h
  · subst h
    have := div64_one lo y (by omega) hy6 hlo w
    rw [Nat.zero_mul, Nat.zero_add]
    exact this
  · refine (div64_two hi lo y h hy hy6 hlo w).mono ?_
    rintro e w1 ⟨rfl, rfl⟩
    exact ⟨rfl, Below.refl _ _⟩
end Go.Proofs.YtbdgdhjhgcpidaaGreatDoor
namespace Go.Proofs.YtbdgdhjhgcpidaaGreatDoor
open Go.RowKit
def dvV (r : Nat) : Nat := if r < U64 then r else 0
def dvE (r : Nat) : Int := if r < U64 then 0 else 31
theorem rdiv_big {hi lo y : Nat} (h0 : 0 < y) (h : y ≤ hi) : ¬ rdiv (hi * 18446744073709551616 + lo) y < U64 := by
  have h1 : 18446744073709551616 ≤ (hi * 18446744073709551616 + lo) / y := by
    rw [Nat.le_div_iff_mul_le h0]
    have := Nat.mul_le_mul_left 18446744073709551616 h
    rw [Nat.mul_comm hi]
    exact Nat.le_trans this (Nat.le_add_right _ _)
  unfold rdiv U64
  split <;> omega
set_option maxRecDepth 100000 in
set_option maxHeartbeats 1000000 in
theorem divided_any (hi lo y N : Nat) (h0 : 0 < y) (hy6 : y < 18446744073709551616) (hhi : hi < 18446744073709551616) (hlo : lo < 18446744073709551616) (hN : hi * 18446744073709551616 + lo = N) (w : World) :
    Calls Tryz.prog 66 #[.int .u64 hi, .int .u64 lo, .int .u64 y] w fun e w' => e = .returned (.tuple #[.int .u64 (dvV (rdiv N y) : Int), .int .i64 (dvE (rdiv N y))]) ∧ Below w.heap.size w w' := by
  rcases Nat.lt_or_ge hi y with hc | hc
  · have HD := Lib.hid (fun W => div64_any hi lo y hc hy6 hlo W)
    rw [hN] at HD
    obtain ⟨q, hq⟩ : ∃ q : Nat, N / y = q := ⟨_, rfl⟩
    obtain ⟨r, hr⟩ : ∃ r : Nat, N % y = r := ⟨_, rfl⟩
    have hr2 : r < y := by rw [← hr]; exact Nat.mod_lt _ h0
    have hq2 : q < 18446744073709551616 := by
      rw [← hq, Nat.div_lt_iff_lt_mul h0, ← hN]
      have h1 := Nat.mul_le_mul_right 18446744073709551616 (show hi + 1 ≤ y from hc)
      rw [Nat.mul_comm 18446744073709551616 y]
      omega
    have HQ := Lib.hid (And.intro hq hr)
    have g0 : ¬ (y : Int) ≤ (hi : Int) := by omega
    by_cases hp : y ≤ 2 * r
    · have e : rdiv N y = q + 1 := by unfold rdiv; rw [hr, hq, if_pos hp]
      have hc' : (y : Int) - (r : Int) ≤ (r : Int) := by omega
      by_cases hq3 : q + 1 < 18446744073709551616
      · have HV : Hid (dvV (rdiv N y) = q + 1 ∧ dvE (rdiv N y) = 0) := by
          rw [e]
          exact ⟨if_pos hq3, if_pos hq3⟩
        have t2 : ((((q + 1 : Nat)) : Int) == 0) = false := by simp; omega
        have t3 : (((q : Int) + 1) == 0) = false := by simp; omega
        clear hq hr hp e hN
        go_enter Tryz.func66, Tryz.ntmps66
        go_wp2_with fail
        refine (HD.out _).mono ?_
        rintro e w1 ⟨rfl, hb⟩
        rw [HQ.out.1, HQ.out.2]
        go_wp2_with fail
        go_ret2
        exact ⟨by rw [HV.out.1, HV.out.2]; rfl, hb⟩
      · have HV : Hid (dvV (rdiv N y) = 0 ∧ dvE (rdiv N y) = 31) := by
          rw [e]
          exact ⟨if_neg hq3, if_neg hq3⟩
        have t2 : IntKind.u64.wrap ((q : Int) + 1) = 0 := by
          rw [IntKind.wrap_u64]
          omega
        clear hq hr hp e hN hq3
        go_enter Tryz.func66, Tryz.ntmps66
        go_wp2_with fail
        refine (HD.out _).mono ?_
        rintro e w1 ⟨rfl, hb⟩
        rw [HQ.out.1, HQ.out.2]
        go_wp2_with fail
        go_ret2
        exact ⟨by rw [HV.out.1, HV.out.2]; rfl, hb⟩
    · have e : rdiv N y = q := by unfold rdiv; rw [hr, hq, if_neg hp]
      have HV : Hid (dvV (rdiv N y) = q ∧ dvE (rdiv N y) = 0) := by
        rw [e]
        exact ⟨if_pos hq2, if_pos hq2⟩
      have hc' : ¬ (y : Int) - (r : Int) ≤ (r : Int) := by omega
      clear hq hr hp e hN
      go_enter Tryz.func66, Tryz.ntmps66
      go_wp2_with fail
      refine (HD.out _).mono ?_
      rintro e w1 ⟨rfl, hb⟩
      rw [HQ.out.1, HQ.out.2]
      go_wp2_with fail
      go_ret2
      exact ⟨by rw [HV.out.1, HV.out.2]; rfl, hb⟩
  · have hb := rdiv_big (lo := lo) h0 hc
    rw [hN] at hb
    have HV : Hid (dvV (rdiv N y) = 0 ∧ dvE (rdiv N y) = 31) := ⟨if_neg hb, if_neg hb⟩
    have g0 : (y : Int) ≤ (hi : Int) := by omega
    clear hb hN
    go_enter Tryz.func66, Tryz.ntmps66
    go_wp2_with fail
    go_ret2
    exact ⟨by rw [HV.out.1, HV.out.2]; rfl, Below.refl _ _⟩
theorem words (n : Nat) (h : n < 340282366920938463463374607431768211456) : ∃ hi lo, n = hi * U64 + lo ∧ hi * 18446744073709551616 + lo = n ∧ lo < U64 ∧ hi < 18446744073709551616 := by
  refine ⟨n / 18446744073709551616, n % 18446744073709551616, ?_, ?_, Nat.mod_lt _ (by omega), ?_⟩
  · exact (Nat.div_add_mod' n 18446744073709551616).symm
  · exact Nat.div_add_mod' n 18446744073709551616
  · omega
theorem okV_far (m : Bool) {r : Nat} (h : ¬ r < U64) : okV (sv m r) = 0 ∧ okE (sv m r) = 31 := by
  have h1 := inR_big m r (by omega)
  unfold okV okE
  rw [h1]
  exact ⟨rfl, rfl⟩
theorem prod_lt {a b : Nat} (ha : a < 18446744073709551616) (hb : b < 18446744073709551616) : a * b < 340282366920938463463374607431768211456 := by
  have h1 := Nat.mul_le_mul (show a ≤ 18446744073709551615 by omega) (show b ≤ 18446744073709551615 by omega)
  exact Nat.lt_of_le_of_lt h1 (by decide)
set_option maxRecDepth 100000 in
set_option maxHeartbeats 1000000 in
theorem mul_any (a b : Int) (ha1 : -9223372036854775808 ≤ a) (ha2 : a ≤ 9223372036854775807) (hb1 : -9223372036854775808 ≤ b) (hb2 : b ≤ 9223372036854775807) (w : World) :
    Calls Tryz.prog 41 #[.int .i64 a, .int .i64 b] w fun e w' => e = .returned (.tuple #[.int .i64 (okV (sv (decide (a < 0) != decide (b < 0)) (rdiv (a.natAbs * b.natAbs) 1000000))), .int .i64 (okE (sv (decide (a < 0) != decide (b < 0)) (rdiv (a.natAbs * b.natAbs) 1000000)))]) ∧ Below w.heap.size w w' := by
  have HA := Lib.hid (fun W => part_any a ha1 ha2 W)
  have HB := Lib.hid (fun W => part_any b hb1 hb2 W)
  have hal : a.natAbs < 18446744073709551616 := by omega
  have hbl : b.natAbs < 18446744073709551616 := by omega
  obtain ⟨x, hx⟩ : ∃ x, a.natAbs = x := ⟨_, rfl⟩
  obtain ⟨y, hy⟩ : ∃ y, b.natAbs = y := ⟨_, rfl⟩
  rw [hx] at HA hal ⊢
  rw [hy] at HB hbl ⊢
  obtain ⟨hi, lo, hw1, hw2, hw3, hw4⟩ := words (x * y) (prod_lt hal hbl)
  have HM := Lib.hid (fun W => mul64_any x y hi lo y rfl hal hbl hw1 hw3 W)
  have HD := Lib.hid (fun W => divided_any hi lo 1000000 (x * y) (by omega) (by omega) hw4 hw3 hw2 W)
  obtain ⟨m, hm⟩ : ∃ m, (decide (a < 0) != decide (b < 0)) = m := ⟨_, rfl⟩
  obtain ⟨r, hr⟩ : ∃ r, rdiv (x * y) 1000000 = r := ⟨_, rfl⟩
  rw [hr] at HD ⊢
  rw [hm]
  by_cases hrU : r < U64
  · have e1 : dvV r = r := if_pos hrU
    have e2 : dvE r = 0 := if_pos hrU
    rw [e1, e2] at HD
    have HS := Lib.hid (fun W => sign_any r (by unfold U64 at hrU; omega) (!(decide (a < 0) == decide (b < 0))) W)
    have hrl : r < 18446744073709551616 := hrU
    clear ha1 ha2 hb1 hb2 hx hy hw1 hw2 hw3 hr hrU e1 e2
    go_enter Tryz.func41, Tryz.ntmps41
    go_wp2_with fail
    refine (HA.out _).mono ?_
    rintro e w1 ⟨rfl, rfl⟩
    go_wp2_with fail
    refine (HB.out _).mono ?_
    rintro e w2 ⟨rfl, rfl⟩
    go_wp2_with fail
    refine (HM.out _).mono ?_
    rintro e w3 ⟨rfl, rfl⟩
    go_wp2_with fail
    refine (HD.out _).mono ?_
    rintro e w4 ⟨rfl, hb4⟩
    go_wp2_with fail
    refine (HS.out _).mono ?_
    rintro e w5 ⟨rfl, rfl⟩
    go_wp2_with fail
    go_ret2
    exact ⟨by rw [← hm]; rfl, hb4⟩
  · have e1 : dvV r = 0 := if_neg hrU
    have e2 : dvE r = 31 := if_neg hrU
    rw [e1, e2] at HD
    have HV := Lib.hid (okV_far m hrU)
    clear ha1 ha2 hb1 hb2 hx hy hw1 hw2 hw3 hr hrU e1 e2
    go_enter Tryz.func41, Tryz.ntmps41
    go_wp2_with fail
    refine (HA.out _).mono ?_
    rintro e w1 ⟨rfl, rfl⟩
    go_wp2_with fail
    refine (HB.out _).mono ?_
    rintro e w2 ⟨rfl, rfl⟩
    go_wp2_with fail
    refine (HM.out _).mono ?_
    rintro e w3 ⟨rfl, rfl⟩
    go_wp2_with fail
    refine (HD.out _).mono ?_
    rintro e w4 ⟨rfl, hb4⟩
    go_wp2_with fail
    go_ret2
    exact ⟨by rw [HV.out.1, HV.out.2]; rfl, hb4⟩
theorem rdiv_exact (x : Nat) : rdiv (x * 1000000000000) 1000000 = x * 1000000 := by
  have e : x * 1000000000000 = x * 1000000 * 1000000 := by omega
  have h1 : x * 1000000000000 % 1000000 = 0 := by rw [e]; exact Nat.mul_mod_left _ _
  have h2 : x * 1000000000000 / 1000000 = x * 1000000 := by rw [e]; exact Nat.mul_div_cancel _ (by omega)
  unfold rdiv
  rw [h1, h2]
  rfl
theorem mul_scale (a : Int) (ha1 : -9223372036854775808 ≤ a) (ha2 : a ≤ 9223372036854775807) (w : World) :
    Calls Tryz.prog 41 #[.int .i64 a, .int .i64 1000000000000] w fun e w' => e = .returned (.tuple #[.int .i64 (okV (sv (decide (a < 0)) (a.natAbs * 1000000))), .int .i64 (okE (sv (decide (a < 0)) (a.natAbs * 1000000)))]) ∧ Below w.heap.size w w' := by
  have h := mul_any a 1000000000000 ha1 ha2 (by omega) (by omega) w
  have e1 : (decide (a < 0) != decide ((1000000000000 : Int) < 0)) = decide (a < 0) := by
    rw [show decide ((1000000000000 : Int) < 0) = false from by decide]
    cases decide (a < 0) <;> rfl
  have e2 : (1000000000000 : Int).natAbs = 1000000000000 := rfl
  rw [e1, e2, rdiv_exact] at h
  exact h
set_option maxHeartbeats 1000000 in
theorem decOf_any (a : Int) (ha1 : -9223372036854775808 ≤ a) (ha2 : a ≤ 9223372036854775807) (w : World) :
    Calls Tryz.prog 40 #[.int .i64 a] w fun e w' => e = .returned (.tuple #[.int .i64 (okV (sv (decide (a < 0)) (a.natAbs * 1000000))), .int .i64 (okE (sv (decide (a < 0)) (a.natAbs * 1000000)))]) ∧ Below w.heap.size w w' := by
  have HM := Lib.hid (fun W => mul_scale a ha1 ha2 W)
  obtain ⟨v, hv⟩ : ∃ v, okV (sv (decide (a < 0)) (a.natAbs * 1000000)) = v := ⟨_, rfl⟩
  obtain ⟨o, ho⟩ : ∃ o, okE (sv (decide (a < 0)) (a.natAbs * 1000000)) = o := ⟨_, rfl⟩
  rw [hv, ho] at HM ⊢
  clear hv ho ha1 ha2
  go_enter Tryz.func40, Tryz.ntmps40
  go_wp2_with fail
  refine (HM.out _).mono ?_
  rintro e w1 ⟨rfl, hb⟩
  go_wp2_with fail
  go_ret2
  exact ⟨rfl, hb⟩
end Go.Proofs.YtbdgdhjhgcpidaaGreatDoor
