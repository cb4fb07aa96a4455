/- Contracts of dec's divided, Mul, Div, Of, Whole. -/
import Derived.Test.YtilajcibjlcffaaGreatDoorDivB
import Derived.Test.YtilajcibjlcffaaGreatDoorDecU
set_option linter.unusedSimpArgs false
set_option linter.unusedVariables false

namespace Go.Proofs.YtilajcibjlcffaaGreatDoor
open Go.RowKit

def dvV (r : Nat) : Nat := if r < U64 then r else 0
def dvE (r : Nat) : Int := if r < U64 then 0 else 31

theorem rdiv_big {hi lo y : Nat} (h0 : 0 < y) (h : y ≤ hi) : ¬ rdiv (hi * 18446744073709551616 + lo) y < U64 := by
  have h1 : 18446744073709551616 ≤ (hi * 18446744073709551616 + lo) / y := by
    rw [Nat.le_div_iff_mul_le h0]
    have := Nat.mul_le_mul_left 18446744073709551616 h
    rw [Nat.mul_comm hi]
    exact Nat.le_trans this (Nat.le_add_right _ _)
  unfold rdiv U64
  split <;> omega

set_option maxRecDepth 100000 in
set_option maxHeartbeats 1000000 in
theorem divided_any (hi lo y N : Nat) (h0 : 0 < y) (hy6 : y < 18446744073709551616) (hhi : hi < 18446744073709551616) (hlo : lo < 18446744073709551616) (hN : hi * 18446744073709551616 + lo = N) (w : World) :
    Calls Tryz.prog 83 #[.int .u64 hi, .int .u64 lo, .int .u64 y] w fun e w' => e = .returned (.tuple #[.int .u64 (dvV (rdiv N y) : Int), .int .i64 (dvE (rdiv N y))]) ∧ Below w.heap.size w w' := by
  rcases Nat.lt_or_ge hi y with hc | hc
  · have HD := Lib.hid (fun W => div64_any hi lo y hc hy6 hlo W)
    rw [hN] at HD
    obtain ⟨q, hq⟩ : ∃ q : Nat, N / y = q := ⟨_, rfl⟩
    obtain ⟨r, hr⟩ : ∃ r : Nat, N % y = r := ⟨_, rfl⟩
    have hr2 : r < y := by rw [← hr]; exact Nat.mod_lt _ h0
    have hq2 : q < 18446744073709551616 := by
      rw [← hq, Nat.div_lt_iff_lt_mul h0, ← hN]
      have h1 := Nat.mul_le_mul_right 18446744073709551616 (show hi + 1 ≤ y from hc)
      rw [Nat.mul_comm 18446744073709551616 y]
      omega
    have HQ := Lib.hid (And.intro hq hr)
    have g0 : ¬ (y : Int) ≤ (hi : Int) := by omega
    by_cases hp : y ≤ 2 * r
    · have e : rdiv N y = q + 1 := by unfold rdiv; rw [hr, hq, if_pos hp]
      have hc' : (y : Int) - (r : Int) ≤ (r : Int) := by omega
      by_cases hq3 : q + 1 < 18446744073709551616
      · have HV : Hid (dvV (rdiv N y) = q + 1 ∧ dvE (rdiv N y) = 0) := by
          rw [e]
          exact ⟨if_pos hq3, if_pos hq3⟩
        have t2 : ((((q + 1 : Nat)) : Int) == 0) = false := by simp; omega
        have t3 : (((q : Int) + 1) == 0) = false := by simp; omega
        clear hq hr hp e hN
        go_enter Tryz.func83, Tryz.ntmps83
        go_wp2_with fail
        refine (HD.out _).mono ?_
        rintro e w1 ⟨rfl, hb⟩
        rw [HQ.out.1, HQ.out.2]
        go_wp2_with fail
        go_ret2
        exact ⟨by rw [HV.out.1, HV.out.2]; rfl, hb⟩
      · have HV : Hid (dvV (rdiv N y) = 0 ∧ dvE (rdiv N y) = 31) := by
          rw [e]
          exact ⟨if_neg hq3, if_neg hq3⟩
        have t2 : IntKind.u64.wrap ((q : Int) + 1) = 0 := by
          rw [IntKind.wrap_u64]
          omega
        clear hq hr hp e hN hq3
        go_enter Tryz.func83, Tryz.ntmps83
        go_wp2_with fail
        refine (HD.out _).mono ?_
        rintro e w1 ⟨rfl, hb⟩
        rw [HQ.out.1, HQ.out.2]
        go_wp2_with fail
        go_ret2
        exact ⟨by rw [HV.out.1, HV.out.2]; rfl, hb⟩
    · have e : rdiv N y = q := by unfold rdiv; rw [hr, hq, if_neg hp]
      have HV : Hid (dvV (rdiv N y) = q ∧ dvE (rdiv N y) = 0) := by
        rw [e]
        exact ⟨if_pos hq2, if_pos hq2⟩
      have hc' : ¬ (y : Int) - (r : Int) ≤ (r : Int) := by omega
      clear hq hr hp e hN
      go_enter Tryz.func83, Tryz.ntmps83
      go_wp2_with fail
      refine (HD.out _).mono ?_
      rintro e w1 ⟨rfl, hb⟩
      rw [HQ.out.1, HQ.out.2]
      go_wp2_with fail
      go_ret2
      exact ⟨by rw [HV.out.1, HV.out.2]; rfl, hb⟩
  · have hb := rdiv_big (lo := lo) h0 hc
    rw [hN] at hb
    have HV : Hid (dvV (rdiv N y) = 0 ∧ dvE (rdiv N y) = 31) := ⟨if_neg hb, if_neg hb⟩
    have g0 : (y : Int) ≤ (hi : Int) := by omega
    clear hb hN
    go_enter Tryz.func83, Tryz.ntmps83
    go_wp2_with fail
    go_ret2
    exact ⟨by rw [HV.out.1, HV.out.2]; rfl, Below.refl _ _⟩

/-- A product's words. -/
theorem words (n : Nat) (h : n < 340282366920938463463374607431768211456) : ∃ hi lo, n = hi * U64 + lo ∧ hi * 18446744073709551616 + lo = n ∧ lo < U64 ∧ hi < 18446744073709551616 := by
  refine ⟨n / 18446744073709551616, n % 18446744073709551616, ?_, ?_, Nat.mod_lt _ (by omega), ?_⟩
  · exact (Nat.div_add_mod' n 18446744073709551616).symm
  · exact Nat.div_add_mod' n 18446744073709551616
  · omega

theorem okV_far (m : Bool) {r : Nat} (h : ¬ r < U64) : okV (sv m r) = 0 ∧ okE (sv m r) = 31 := by
  have h1 := inR_big m r (by omega)
  unfold okV okE
  rw [h1]
  exact ⟨rfl, rfl⟩
theorem prod_lt {a b : Nat} (ha : a < 18446744073709551616) (hb : b < 18446744073709551616) : a * b < 340282366920938463463374607431768211456 := by
  have h1 := Nat.mul_le_mul (show a ≤ 18446744073709551615 by omega) (show b ≤ 18446744073709551615 by omega)
  exact Nat.lt_of_le_of_lt h1 (by decide)

set_option maxRecDepth 100000 in
set_option maxHeartbeats 1000000 in
theorem mul_any (a b : Int) (ha1 : -9223372036854775808 ≤ a) (ha2 : a ≤ 9223372036854775807) (hb1 : -9223372036854775808 ≤ b) (hb2 : b ≤ 9223372036854775807) (w : World) :
    Calls Tryz.prog 48 #[.int .i64 a, .int .i64 b] w fun e w' => e = .returned (.tuple #[.int .i64 (okV (sv (decide (a < 0) != decide (b < 0)) (rdiv (a.natAbs * b.natAbs) 1000000))), .int .i64 (okE (sv (decide (a < 0) != decide (b < 0)) (rdiv (a.natAbs * b.natAbs) 1000000)))]) ∧ Below w.heap.size w w' := by
  have HA := Lib.hid (fun W => part_any a ha1 ha2 W)
  have HB := Lib.hid (fun W => part_any b hb1 hb2 W)
  have hal : a.natAbs < 18446744073709551616 := by omega
  have hbl : b.natAbs < 18446744073709551616 := by omega
  obtain ⟨x, hx⟩ : ∃ x, a.natAbs = x := ⟨_, rfl⟩
  obtain ⟨y, hy⟩ : ∃ y, b.natAbs = y := ⟨_, rfl⟩
  rw [hx] at HA hal ⊢
  rw [hy] at HB hbl ⊢
  obtain ⟨hi, lo, hw1, hw2, hw3, hw4⟩ := words (x * y) (prod_lt hal hbl)
  have HM := Lib.hid (fun W => mul64_any x y hi lo y rfl hal hbl hw1 hw3 W)
  have HD := Lib.hid (fun W => divided_any hi lo 1000000 (x * y) (by omega) (by omega) hw4 hw3 hw2 W)
  obtain ⟨m, hm⟩ : ∃ m, (decide (a < 0) != decide (b < 0)) = m := ⟨_, rfl⟩
  obtain ⟨r, hr⟩ : ∃ r, rdiv (x * y) 1000000 = r := ⟨_, rfl⟩
  rw [hr] at HD ⊢
  rw [hm]
  by_cases hrU : r < U64
  · have e1 : dvV r = r := if_pos hrU
    have e2 : dvE r = 0 := if_pos hrU
    rw [e1, e2] at HD
    have HS := Lib.hid (fun W => sign_any r (by unfold U64 at hrU; omega) (!(decide (a < 0) == decide (b < 0))) W)
    have hrl : r < 18446744073709551616 := hrU
    clear ha1 ha2 hb1 hb2 hx hy hw1 hw2 hw3 hr hrU e1 e2
    go_enter Tryz.func48, Tryz.ntmps48
    go_wp2_with fail
    refine (HA.out _).mono ?_
    rintro e w1 ⟨rfl, rfl⟩
    go_wp2_with fail
    refine (HB.out _).mono ?_
    rintro e w2 ⟨rfl, rfl⟩
    go_wp2_with fail
    refine (HM.out _).mono ?_
    rintro e w3 ⟨rfl, rfl⟩
    go_wp2_with fail
    refine (HD.out _).mono ?_
    rintro e w4 ⟨rfl, hb4⟩
    go_wp2_with fail
    refine (HS.out _).mono ?_
    rintro e w5 ⟨rfl, rfl⟩
    go_wp2_with fail
    go_ret2
    exact ⟨by rw [← hm]; rfl, hb4⟩
  · have e1 : dvV r = 0 := if_neg hrU
    have e2 : dvE r = 31 := if_neg hrU
    rw [e1, e2] at HD
    have HV := Lib.hid (okV_far m hrU)
    clear ha1 ha2 hb1 hb2 hx hy hw1 hw2 hw3 hr hrU e1 e2
    go_enter Tryz.func48, Tryz.ntmps48
    go_wp2_with fail
    refine (HA.out _).mono ?_
    rintro e w1 ⟨rfl, rfl⟩
    go_wp2_with fail
    refine (HB.out _).mono ?_
    rintro e w2 ⟨rfl, rfl⟩
    go_wp2_with fail
    refine (HM.out _).mono ?_
    rintro e w3 ⟨rfl, rfl⟩
    go_wp2_with fail
    refine (HD.out _).mono ?_
    rintro e w4 ⟨rfl, hb4⟩
    go_wp2_with fail
    go_ret2
    exact ⟨by rw [HV.out.1, HV.out.2]; rfl, hb4⟩
set_option maxRecDepth 100000 in
set_option maxHeartbeats 1000000 in
theorem div_any (a b : Int) (ha1 : -9223372036854775808 ≤ a) (ha2 : a ≤ 9223372036854775807) (hb1 : -9223372036854775808 ≤ b) (hb2 : b ≤ 9223372036854775807) (hb0 : (b == 0) = false) (w : World) :
    Calls Tryz.prog 49 #[.int .i64 a, .int .i64 b] w fun e w' => e = .returned (.tuple #[.int .i64 (okV (sv (decide (a < 0) != decide (b < 0)) (rdiv (a.natAbs * 1000000) b.natAbs))), .int .i64 (okE (sv (decide (a < 0) != decide (b < 0)) (rdiv (a.natAbs * 1000000) b.natAbs)))]) ∧ Below w.heap.size w w' := by
  have HA := Lib.hid (fun W => part_any a ha1 ha2 W)
  have HB := Lib.hid (fun W => part_any b hb1 hb2 W)
  have hal : a.natAbs < 18446744073709551616 := by omega
  have hbl : b.natAbs < 18446744073709551616 := by omega
  obtain ⟨x, hx⟩ : ∃ x, a.natAbs = x := ⟨_, rfl⟩
  obtain ⟨y, hy⟩ : ∃ y, b.natAbs = y := ⟨_, rfl⟩
  rw [hx] at HA hal ⊢
  rw [hy] at HB hbl ⊢
  have hy0 : 0 < y := by have : b ≠ 0 := by simpa using hb0
                         omega
  obtain ⟨hi, lo, hw1, hw2, hw3, hw4⟩ := words (x * 1000000) (prod_lt hal (by omega))
  have HM := Lib.hid (fun W => mul64_any x 1000000 hi lo 1000000 rfl hal (by unfold U64; omega) hw1 hw3 W)
  have HD := Lib.hid (fun W => divided_any hi lo y (x * 1000000) hy0 hbl hw4 hw3 hw2 W)
  obtain ⟨m, hm⟩ : ∃ m, (decide (a < 0) != decide (b < 0)) = m := ⟨_, rfl⟩
  obtain ⟨r, hr⟩ : ∃ r, rdiv (x * 1000000) y = r := ⟨_, rfl⟩
  rw [hr] at HD ⊢
  rw [hm]
  by_cases hrU : r < U64
  · have e1 : dvV r = r := if_pos hrU
    have e2 : dvE r = 0 := if_pos hrU
    rw [e1, e2] at HD
    have HS := Lib.hid (fun W => sign_any r (by unfold U64 at hrU; omega) (!(decide (a < 0) == decide (b < 0))) W)
    have hrl : r < 18446744073709551616 := hrU
    clear ha1 ha2 hb1 hb2 hx hy hw1 hw2 hw3 hr hrU e1 e2
    go_enter Tryz.func49, Tryz.ntmps49
    go_wp2_with fail
    refine (HA.out _).mono ?_
    rintro e w1 ⟨rfl, rfl⟩
    go_wp2_with fail
    refine (HM.out _).mono ?_
    rintro e w3 ⟨rfl, rfl⟩
    go_wp2_with fail
    refine (HB.out _).mono ?_
    rintro e w2 ⟨rfl, rfl⟩
    go_wp2_with fail
    refine (HD.out _).mono ?_
    rintro e w4 ⟨rfl, hb4⟩
    go_wp2_with fail
    refine (HS.out _).mono ?_
    rintro e w5 ⟨rfl, rfl⟩
    go_wp2_with fail
    go_ret2
    exact ⟨by rw [← hm]; rfl, hb4⟩
  · have e1 : dvV r = 0 := if_neg hrU
    have e2 : dvE r = 31 := if_neg hrU
    rw [e1, e2] at HD
    have HV := Lib.hid (okV_far m hrU)
    clear ha1 ha2 hb1 hb2 hx hy hw1 hw2 hw3 hr hrU e1 e2
    go_enter Tryz.func49, Tryz.ntmps49
    go_wp2_with fail
    refine (HA.out _).mono ?_
    rintro e w1 ⟨rfl, rfl⟩
    go_wp2_with fail
    refine (HM.out _).mono ?_
    rintro e w3 ⟨rfl, rfl⟩
    go_wp2_with fail
    refine (HB.out _).mono ?_
    rintro e w2 ⟨rfl, rfl⟩
    go_wp2_with fail
    refine (HD.out _).mono ?_
    rintro e w4 ⟨rfl, hb4⟩
    go_wp2_with fail
    go_ret2
    exact ⟨by rw [HV.out.1, HV.out.2]; rfl, hb4⟩

theorem div_zero (a : Int) (w : World) : Calls Tryz.prog 49 #[.int .i64 a, .int .i64 0] w fun e w' => e = .returned (.tuple #[.int .i64 0, .int .i64 32]) ∧ w = w' := by
  go_enter Tryz.func49, Tryz.ntmps49
  go_wp2_with fail
  go_ret2
  exact ⟨rfl, rfl⟩

theorem rdiv_exact (x : Nat) : rdiv (x * 1000000000000) 1000000 = x * 1000000 := by
  have e : x * 1000000000000 = x * 1000000 * 1000000 := by omega
  have h1 : x * 1000000000000 % 1000000 = 0 := by rw [e]; exact Nat.mul_mod_left _ _
  have h2 : x * 1000000000000 / 1000000 = x * 1000000 := by rw [e]; exact Nat.mul_div_cancel _ (by omega)
  unfold rdiv
  rw [h1, h2]
  rfl
theorem mul_scale (a : Int) (ha1 : -9223372036854775808 ≤ a) (ha2 : a ≤ 9223372036854775807) (w : World) :
    Calls Tryz.prog 48 #[.int .i64 a, .int .i64 1000000000000] w fun e w' => e = .returned (.tuple #[.int .i64 (okV (sv (decide (a < 0)) (a.natAbs * 1000000))), .int .i64 (okE (sv (decide (a < 0)) (a.natAbs * 1000000)))]) ∧ Below w.heap.size w w' := by
  have h := mul_any a 1000000000000 ha1 ha2 (by omega) (by omega) w
  have e1 : (decide (a < 0) != decide ((1000000000000 : Int) < 0)) = decide (a < 0) := by
    rw [show decide ((1000000000000 : Int) < 0) = false from by decide]
    cases decide (a < 0) <;> rfl
  have e2 : (1000000000000 : Int).natAbs = 1000000000000 := rfl
  rw [e1, e2, rdiv_exact] at h
  exact h
end Go.Proofs.YtilajcibjlcffaaGreatDoor
