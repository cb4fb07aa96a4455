/- math/bits.Div64: two words by one. -/
import Derived.Test.YtilajcibjlcffaaGreatDoorDivA
import Derived.Lib.ItoaNum
import Derived.Deep.CutBlock
set_option linter.unusedSimpArgs false
set_option linter.unusedVariables false

namespace Go.Proofs.YtilajcibjlcffaaGreatDoor
open Go.RowKit

theorem lz_bounds (y : Nat) (h0 : 0 < y) (h1 : y < 18446744073709551616) : ∃ s : Nat, s ≤ 63 ∧ (64 - (Lib.bitLen y : Int)) = (s : Int) ∧ 9223372036854775808 ≤ y * 2 ^ s ∧ y * 2 ^ s < 18446744073709551616 := by
  obtain ⟨b1, b2, b3⟩ := Lib.bitLenAux_bounds 64 y (by omega) (by omega)
  have e : Lib.bitLen y = Lib.bitLenAux 64 y := rfl
  rw [e]
  generalize Lib.bitLenAux 64 y = b at *
  clear e
  have hb : b ≤ 64 := by
    rcases Nat.lt_or_ge 64 b with h | h
    · have h2 : 2 ^ 64 ≤ 2 ^ (b - 1) := Nat.pow_le_pow_right (by omega) (by omega)
      omega
    · exact h
  refine ⟨64 - b, by omega, by omega, ?_, ?_⟩
  · have h2 := Nat.mul_le_mul_right (2 ^ (64 - b)) b2
    rw [← Nat.pow_add, show b - 1 + (64 - b) = 63 from by omega] at h2
    exact h2
  · have h2 := Nat.mul_lt_mul_of_pos_right b3 (Nat.pow_pos (n := 64 - b) (by omega : 0 < 2))
    rw [← Nat.pow_add, show b + (64 - b) = 64 from by omega] at h2
    exact h2
theorem lz_at (y s : Nat) (h1 : y < 18446744073709551616) (hs : (64 - (Lib.bitLen y : Int)) = (s : Int)) (w : World) :
    Calls Tryz.prog 112 #[.int .u64 y] w fun e w' => e = .returned (.int .i64 s) ∧ w = w' := by
  have h := Tryz.bits_LeadingZeros64 y w (by omega) (by omega)
  rw [Int.toNat_natCast, hs] at h
  exact h.mono fun e w' ⟨h1, h2⟩ => ⟨h1, h2.symm⟩

set_option maxRecDepth 100000 in
set_option maxHeartbeats 1000000 in
theorem div64_one (lo y : Nat) (hy : 0 < y) (hy6 : y < 18446744073709551616) (hlo : lo < 18446744073709551616) (w : World) :
    Calls Tryz.prog 99 #[.int .u64 0, .int .u64 lo, .int .u64 y] w fun e w' => e = .returned (.tuple #[.int .u64 ((lo / y : Nat) : Int), .int .u64 ((lo % y : Nat) : Int)]) ∧ Below w.heap.size w w' := by
  obtain ⟨q, hq⟩ : ∃ q : Nat, lo / y = q := ⟨_, rfl⟩
  obtain ⟨r, hr⟩ : ∃ r : Nat, lo % y = r := ⟨_, rfl⟩
  have hq2 : q ≤ lo := by rw [← hq]; exact Nat.div_le_self _ _
  have hr2 : r < y := by rw [← hr]; exact Nat.mod_lt _ hy
  have e1 : (lo : Int) / (y : Int) = (q : Int) := by rw [← hq]; rfl
  have e2 : (lo : Int) % (y : Int) = (r : Int) := by rw [← hr]; rfl
  have e3 : IntKind.u64.wrap (q : Int) = (q : Int) := IntWalk.u64_in _ (by omega)
  have e4 : IntKind.u64.wrap (r : Int) = (r : Int) := IntWalk.u64_in _ (by omega)
  have e5 : IntKind.u64.wrap ((lo : Int) / (y : Int)) = (q : Int) := by rw [e1]; exact e3
  rw [hq, hr]
  clear hq hr
  have t1 : ((y : Int) == 0) = false := by simp; omega
  go_enter Tryz.func99, Tryz.ntmps99
  go_wp2_with fail
  go_quiet (fail)
  go_wp2
  go_ret2
  exact ⟨by first | rfl | (rw [← e2]; rfl), bel_drewN (Below.refl _ _) _⟩

theorem mul_u64 (a b : Nat) (h : a * b < 18446744073709551616) : IntKind.u64.wrap ((a : Int) * (b : Int)) = ((a * b : Nat) : Int) := by
  rw [← Int.natCast_mul, IntKind.wrap_u64]
  generalize a * b = m at *
  omega
theorem cast_div (a b c : Nat) (h : a / b = c) : (a : Int) / (b : Int) = (c : Int) := by rw [← h]; rfl
theorem pow_cast (s : Nat) : ((2 ^ s : Nat) : Int) = (2 : Int) ^ s := by simp

set_option maxRecDepth 100000 in
set_option maxHeartbeats 4000000 in
theorem div64_two (hi lo y : Nat) (h0 : 0 < hi) (hy : hi < y) (hy6 : y < 18446744073709551616) (hlo : lo < 18446744073709551616) (w : World) :
    Calls Tryz.prog 99 #[.int .u64 hi, .int .u64 lo, .int .u64 y] w fun e w' => e = .returned (.tuple #[.int .u64 (((hi * 18446744073709551616 + lo) / y : Nat) : Int), .int .u64 (((hi * 18446744073709551616 + lo) % y : Nat) : Int)]) ∧ w = w' := by
  obtain ⟨s, hs63, hsz, hYa, hYb⟩ := lz_bounds y (by omega) hy6
  have HLZ := Lib.hid (fun W => lz_at y s hy6 hsz W)
  have t1 : ((y : Int) == 0) = false := by simp; omega
  have t2 : ((hi : Int) == 0) = false := by simp; omega
  have t3 : ¬ (y : Int) ≤ (hi : Int) := by omega
  have t4 : IntKind.u64.wrap (s : Int) = (s : Int) := IntWalk.u64_in _ (by omega)
  have hm : min s 64 = s := by omega
  obtain ⟨k, hk⟩ : ∃ k, 64 - s = k := ⟨_, rfl⟩
  have t5 : IntKind.u64.wrap (64 - (s : Int)) = (k : Int) := by rw [IntWalk.u64_in _ (by omega)]; omega
  have hmk : min k 64 = k := by omega
  obtain ⟨Y, hY⟩ : ∃ Y, y * 2 ^ s = Y := ⟨_, rfl⟩
  obtain ⟨u32, h32⟩ : ∃ u32, u32 = hi * 2 ^ s + lo / 2 ^ (64 - s) := ⟨_, rfl⟩
  obtain ⟨u10, h10⟩ : ∃ u10, u10 = lo * 2 ^ s % 18446744073709551616 := ⟨_, rfl⟩
  obtain ⟨hu32, hL⟩ := kd_top hs63 hlo hy h32
  obtain ⟨Q1, hQ1⟩ : ∃ Q1, (u32 * 4294967296 + u10 / 4294967296) / (y * 2 ^ s) = Q1 := ⟨_, rfl⟩
  obtain ⟨U, hU⟩ : ∃ U, (u32 * 4294967296 + u10 / 4294967296) % (y * 2 ^ s) = U := ⟨_, rfl⟩
  obtain ⟨Q0, hQ0⟩ : ∃ Q0, (U * 4294967296 + u10 % 4294967296) / (y * 2 ^ s) = Q0 := ⟨_, rfl⟩
  obtain ⟨R, hR⟩ : ∃ R, (U * 4294967296 + u10 % 4294967296) % (y * 2 ^ s) = R := ⟨_, rfl⟩
  have hall := kd_all hs63 hlo hy h32 h10 hQ1.symm (by rw [hU, hQ0])
  rw [hU, hR] at hall
  have HALL := Lib.hid hall
  have hYpos : 0 < Y := by rw [← hY]; omega
  rw [hY] at hYa hYb hQ1 hU hQ0 hR hu32
  have hUl : U < Y := by rw [← hU]; exact Nat.mod_lt _ hYpos
  -- the words, one by one
  have wY : IntKind.u64.wrap ((y : Int) * 2 ^ s) = (Y : Int) := by rw [← pow_cast, mul_u64 y (2 ^ s) (by rw [hY]; exact hYb), hY]
  obtain ⟨Y1, hY1⟩ : ∃ Y1, Y / 4294967296 = Y1 := ⟨_, rfl⟩
  obtain ⟨Y0, hY0⟩ : ∃ Y0, Y % 4294967296 = Y0 := ⟨_, rfl⟩
  have hYY : Y1 * 4294967296 + Y0 = Y := by omega
  have dY : (Y : Int) / 4294967296 = (Y1 : Int) := by omega
  have aY : bits .and .u64 (Y : Int) 4294967295 = (Y0 : Int) := by rw [Mul64.maskN Y hYb, hY0]
  obtain ⟨H, hH⟩ : ∃ H, hi * 2 ^ s = H := ⟨_, rfl⟩
  obtain ⟨L, hLL⟩ : ∃ L, lo / 2 ^ k = L := ⟨_, rfl⟩
  rw [hk, hLL, hH] at h32
  rw [hk, hLL] at hL
  have wH : IntKind.u64.wrap ((hi : Int) * 2 ^ s) = (H : Int) := by rw [← pow_cast, mul_u64 hi (2 ^ s) (by rw [hH]; omega), hH]
  have dL : (lo : Int) / 2 ^ k = (L : Int) := by rw [← pow_cast]; exact cast_div lo (2 ^ k) L hLL
  have oU : bits .or .u64 (H : Int) (L : Int) = (u32 : Int) := by
    rw [bits_or_u64_nat H L (by omega) (by omega), ← hH, or_join hi s L hL, hH, h32]
  have w10 : IntKind.u64.wrap ((lo : Int) * 2 ^ s) = (u10 : Int) := by rw [← pow_cast, ← Int.natCast_mul, Mul64.wrapM, ← h10]
  have hu10 : u10 < 18446744073709551616 := by rw [h10]; exact Nat.mod_lt _ (by omega)
  obtain ⟨t1', ht1'⟩ : ∃ t1', u10 / 4294967296 = t1' := ⟨_, rfl⟩
  obtain ⟨t0', ht0'⟩ : ∃ t0', u10 % 4294967296 = t0' := ⟨_, rfl⟩
  have d10 : (u10 : Int) / 4294967296 = (t1' : Int) := by omega
  have a10 : bits .and .u64 (u10 : Int) 4294967295 = (t0' : Int) := by rw [Mul64.maskN u10 hu10, ht0']
  have ht1l : t1' < 4294967296 := by omega
  have ht0l : t0' < 4294967296 := by omega
  have hY1a : 2147483648 ≤ Y1 := by omega
  have hY1b : Y1 < 4294967296 := by omega
  have hY0b : Y0 < 4294967296 := by omega
  rw [ht1'] at hQ1 hU
  rw [ht0'] at hQ0 hR
  have HY1 : Hid (0 < Y1) := by unfold Hid; omega
  have HY0 : Hid (Y0 < 4294967296) := hY0b
  have Ht1' : Hid (t1' < 4294967296) := ht1l
  have Ht0' : Hid (t0' < 4294967296) := ht0l
  have Hu32 : Hid (u32 < Y1 * 4294967296 + Y0 ∧ u32 ≤ 18446744073709551615) := by unfold Hid; omega
  have HU : Hid (U < Y1 * 4294967296 + Y0 ∧ U ≤ 18446744073709551615) := by unfold Hid; omega
  have HQ1 : Hid ((u32 * 4294967296 + t1') / (Y1 * 4294967296 + Y0) = Q1) := by unfold Hid; rw [hYY]; exact hQ1
  have HQ0 : Hid ((U * 4294967296 + t0') / (Y1 * 4294967296 + Y0) = Q0) := by unfold Hid; rw [hYY]; exact hQ0
  have hQ1l : Q1 < 4294967296 := by rw [← HQ1.out]; exact kd_lt (kd_start (u := u32) (Y0 := Y0) HY1.out ht1l) Hu32.out.1 ht1l hY1a
  have hQ0l : Q0 < 4294967296 := by rw [← HQ0.out]; exact kd_lt (kd_start (u := U) (Y0 := Y0) HY1.out ht0l) HU.out.1 ht0l hY1a
  have rU := kd_rest (u := u32) (t := t1') (q := Q1) (Y := Y) hQ1.symm hYpos (by omega)
  have rR := kd_rest (u := U) (t := t0') (q := Q0) (Y := Y) hQ0.symm hYpos (by omega)
  rw [hU] at rU
  rw [hR] at rR
  have z1 : ((Y1 : Int) == 0) = false := by simp; omega
  have zne : Y1 ≠ 0 := by omega
  have zne2 : (Y1 : Int) ≠ 0 := by omega
  have gen : ∀ u : Nat, u ≤ 18446744073709551615 → ∃ d e : Nat, u / Y1 = d ∧ u % Y1 = e ∧ (u : Int) / (Y1 : Int) = (d : Int) ∧ IntKind.u64.wrap (d : Int) = (d : Int) ∧ IntKind.u64.wrap ((u : Int) - IntKind.u64.wrap ((d : Int) * (Y1 : Int))) = (e : Int) := by
    intro u hu
    have h1 := Nat.div_add_mod' u Y1
    have h2 := Nat.div_le_self u Y1
    refine ⟨u / Y1, u % Y1, rfl, rfl, rfl, ?_, ?_⟩
    · generalize u / Y1 = d at *
      exact IntWalk.u64_in _ (by omega)
    · rw [mul_u64 (u / Y1) Y1 (by omega)]
      simp only [IntKind.wrap_u64]
      generalize u / Y1 * Y1 = m at *
      generalize u % Y1 = e at *
      omega
  obtain ⟨d1, e1, hd1, he1, dq1, dw1, dr1⟩ := gen u32 Hu32.out.2
  obtain ⟨d0, e0, hd0, he0, dq0, dw0, dr0⟩ := gen U HU.out.2
  have HD1 : Hid (u32 / Y1 = d1 ∧ u32 % Y1 = e1) := ⟨hd1, he1⟩
  have HD0 : Hid (U / Y1 = d0 ∧ U % Y1 = e0) := ⟨hd0, he0⟩
  obtain ⟨rem, hrem⟩ : ∃ rem, R / 2 ^ s = rem := ⟨_, rfl⟩
  have dR : (R : Int) / 2 ^ s = (rem : Int) := by rw [← pow_cast]; exact cast_div R (2 ^ s) rem hrem
  rw [hrem] at HALL
  have HK := Lib.hid hall
  clear hd1 he1 hd0 he0 gen hall hsz hY hk hH hLL h32 h10 hQ1 hU hQ0 hR hL hY1 hY0 hYY ht1' ht0' hrem HK hYa hu32 hUl hYpos hYb hu10 hs63
  go_enter Tryz.func99, Tryz.ntmps99
  go_wp2_with fail
  refine (HLZ.out _).mono ?_
  rintro e w1 ⟨rfl, rfl⟩
  go_upto_block 0 with fail
  go_cut [15] (fun vq wx => w = wx ∧ vq = .int .u64 (Q1 : Int))
  case first =>
    go_wp2_with fail
    go_loopg [15, 16] d1 (fun g vq v16 wr => wr = w ∧ ∃ r : Nat, vq = .int .u64 (g : Int) ∧ v16 = .int .u64 (r : Int) ∧ g ≤ 18446744073709551615 ∧ r < 4294967296 ∧ KdI u32 Y1 Y0 t1' g r)
    case atStart =>
      have h1 := kd_start (u := u32) (Y0 := Y0) HY1.out Ht1'.out
      rw [HD1.out.1, HD1.out.2] at h1
      exact ⟨rfl, e1, rfl, rfl, by rw [← HD1.out.1]; exact Nat.le_trans (Nat.div_le_self _ _) Hu32.out.2, by rw [← HD1.out.2]; exact Nat.lt_trans (Nat.mod_lt _ HY1.out) hY1b, h1⟩
    case round =>
      obtain ⟨rfl, r, rfl, rfl, hq64, hr, hI⟩ := hrel
      have HI := Lib.hid hI
      clear hI
      have step : (4294967296 ≤ gk ∨ r * 4294967296 + t1' < gk * Y0) → Hid (1 ≤ gk ∧ KdI u32 Y1 Y0 t1' (gk - 1) (r + Y1)) := fun h => kd_go HI.out Ht1'.out Hu32.out.1 h
      by_cases hc : 4294967296 ≤ gk ∨ r * 4294967296 + t1' < gk * Y0
      · have HS := step hc
        have hq1 : 1 ≤ gk := HS.out.1
        clear step
        obtain ⟨b, hb⟩ : ∃ b, gk * Y0 = b := ⟨_, rfl⟩
        rw [hb] at hc
        have HB := Lib.hid hb
        clear hb
        rcases Nat.lt_or_ge gk 4294967296 with hg | hg
        · have hc2 : r * 4294967296 + t1' < b := by omega
          have hwm : IntKind.u64.wrap ((gk : Int) * (Y0 : Int)) = (b : Int) := by rw [← HB.out]; exact mul_u64 gk Y0 (Nat.lt_of_le_of_lt (Lib.half_mul_le (by omega) (by omega)) (by omega))
          have g1 : ¬ (4294967296 : Int) ≤ (gk : Int) := by omega
          have g2 : 4294967296 * (r : Int) + (t1' : Int) < (b : Int) := by omega
          clear hc hc2
          rcases Nat.lt_or_ge (r + Y1) 4294967296 with hr2 | hr2
          · have hr3 : ¬ (4294967296 : Int) ≤ (r : Int) + (Y1 : Int) := by omega
            have HR2 := Lib.hid hr2
            clear hr2
            go_wp2
            go_roundg (gk - 1)
            case measure => omega
            case rel => exact ⟨rfl, r + Y1, by go_num, by go_num, by omega, HR2.out, HS.out.2⟩
          · have HE := Lib.hid (kd_brk HS.out.2 Hu32.out.1 HY0.out hr2)
            have hr3 : (4294967296 : Int) ≤ (r : Int) + (Y1 : Int) := by omega
            go_wp2
            go_meet
            exact ⟨rfl, by rw [← HQ1.out, ← HE.out.2]; go_num⟩
        · have g1 : (4294967296 : Int) ≤ (gk : Int) := by omega
          clear hc
          rcases Nat.lt_or_ge (r + Y1) 4294967296 with hr2 | hr2
          · have hr3 : ¬ (4294967296 : Int) ≤ (r : Int) + (Y1 : Int) := by omega
            have HR2 := Lib.hid hr2
            clear hr2
            go_wp2
            go_roundg (gk - 1)
            case measure => omega
            case rel => exact ⟨rfl, r + Y1, by go_num, by go_num, by omega, HR2.out, HS.out.2⟩
          · have HE := Lib.hid (kd_brk HS.out.2 Hu32.out.1 HY0.out hr2)
            have hr3 : (4294967296 : Int) ≤ (r : Int) + (Y1 : Int) := by omega
            go_wp2
            go_meet
            exact ⟨rfl, by rw [← HQ1.out, ← HE.out.2]; go_num⟩
      · have hc1 : ¬ r * 4294967296 + t1' < gk * Y0 := fun h => hc (.inr h)
        have hg : gk < 4294967296 := Nat.lt_of_not_le fun h => hc (.inl h)
        have HE := Lib.hid (kd_end HI.out hc1)
        obtain ⟨b, hb⟩ : ∃ b, gk * Y0 = b := ⟨_, rfl⟩
        rw [hb] at hc1
        have hwm : IntKind.u64.wrap ((gk : Int) * (Y0 : Int)) = (b : Int) := by rw [← hb]; exact mul_u64 gk Y0 (Nat.lt_of_le_of_lt (Lib.half_mul_le (by omega) (by omega)) (by omega))
        have g1 : ¬ (4294967296 : Int) ≤ (gk : Int) := by omega
        have g2 : ¬ 4294967296 * (r : Int) + (t1' : Int) < (b : Int) := by omega
        clear hc hc1 step hb
        go_wp2
        go_meet
        exact ⟨rfl, by rw [← HQ1.out, ← HE.out]⟩
  case rest =>
    obtain ⟨rfl, rfl⟩ := hcut
    go_upto_block 2 with fail
    go_cut [18] (fun vq wx => w = wx ∧ vq = .int .u64 (Q0 : Int))
    case first =>
      go_wp2_with fail
      go_loopg [18, 16] d0 (fun g vq v16 wr => wr = w ∧ ∃ r : Nat, vq = .int .u64 (g : Int) ∧ v16 = .int .u64 (r : Int) ∧ g ≤ 18446744073709551615 ∧ r < 4294967296 ∧ KdI U Y1 Y0 t0' g r)
      case atStart =>
        have h1 := kd_start (u := U) (Y0 := Y0) HY1.out Ht0'.out
        rw [HD0.out.1, HD0.out.2] at h1
        exact ⟨rfl, e0, rfl, rfl, by rw [← HD0.out.1]; exact Nat.le_trans (Nat.div_le_self _ _) HU.out.2, by rw [← HD0.out.2]; exact Nat.lt_trans (Nat.mod_lt _ HY1.out) hY1b, h1⟩
      case round =>
        obtain ⟨rfl, r, rfl, rfl, hq64, hr, hI⟩ := hrel
        have HI := Lib.hid hI
        clear hI
        have step : (4294967296 ≤ gk ∨ r * 4294967296 + t0' < gk * Y0) → Hid (1 ≤ gk ∧ KdI U Y1 Y0 t0' (gk - 1) (r + Y1)) := fun h => kd_go HI.out Ht0'.out HU.out.1 h
        by_cases hc : 4294967296 ≤ gk ∨ r * 4294967296 + t0' < gk * Y0
        · have HS := step hc
          have hq1 : 1 ≤ gk := HS.out.1
          clear step
          obtain ⟨b, hb⟩ : ∃ b, gk * Y0 = b := ⟨_, rfl⟩
          rw [hb] at hc
          have HB := Lib.hid hb
          clear hb
          rcases Nat.lt_or_ge gk 4294967296 with hg | hg
          · have hc2 : r * 4294967296 + t0' < b := by omega
            have hwm : IntKind.u64.wrap ((gk : Int) * (Y0 : Int)) = (b : Int) := by rw [← HB.out]; exact mul_u64 gk Y0 (Nat.lt_of_le_of_lt (Lib.half_mul_le (by omega) (by omega)) (by omega))
            have g1 : ¬ (4294967296 : Int) ≤ (gk : Int) := by omega
            have g2 : 4294967296 * (r : Int) + (t0' : Int) < (b : Int) := by omega
            clear hc hc2
            rcases Nat.lt_or_ge (r + Y1) 4294967296 with hr2 | hr2
            · have hr3 : ¬ (4294967296 : Int) ≤ (r : Int) + (Y1 : Int) := by omega
              have HR2 := Lib.hid hr2
              clear hr2
              go_wp2
              go_roundg (gk - 1)
              case measure => omega
              case rel => exact ⟨rfl, r + Y1, by go_num, by go_num, by omega, HR2.out, HS.out.2⟩
            · have HE := Lib.hid (kd_brk HS.out.2 HU.out.1 HY0.out hr2)
              have hr3 : (4294967296 : Int) ≤ (r : Int) + (Y1 : Int) := by omega
              go_wp2
              go_meet
              exact ⟨rfl, by rw [← HQ0.out, ← HE.out.2]; go_num⟩
          · have g1 : (4294967296 : Int) ≤ (gk : Int) := by omega
            clear hc
            rcases Nat.lt_or_ge (r + Y1) 4294967296 with hr2 | hr2
            · have hr3 : ¬ (4294967296 : Int) ≤ (r : Int) + (Y1 : Int) := by omega
              have HR2 := Lib.hid hr2
              clear hr2
              go_wp2
              go_roundg (gk - 1)
              case measure => omega
              case rel => exact ⟨rfl, r + Y1, by go_num, by go_num, by omega, HR2.out, HS.out.2⟩
            · have HE := Lib.hid (kd_brk HS.out.2 HU.out.1 HY0.out hr2)
              have hr3 : (4294967296 : Int) ≤ (r : Int) + (Y1 : Int) := by omega
              go_wp2
              go_meet
              exact ⟨rfl, by rw [← HQ0.out, ← HE.out.2]; go_num⟩
        · have hc1 : ¬ r * 4294967296 + t0' < gk * Y0 := fun h => hc (.inr h)
          have hg : gk < 4294967296 := Nat.lt_of_not_le fun h => hc (.inl h)
          have HE := Lib.hid (kd_end HI.out hc1)
          obtain ⟨b, hb⟩ : ∃ b, gk * Y0 = b := ⟨_, rfl⟩
          rw [hb] at hc1
          have hwm : IntKind.u64.wrap ((gk : Int) * (Y0 : Int)) = (b : Int) := by rw [← hb]; exact mul_u64 gk Y0 (Nat.lt_of_le_of_lt (Lib.half_mul_le (by omega) (by omega)) (by omega))
          have g1 : ¬ (4294967296 : Int) ≤ (gk : Int) := by omega
          have g2 : ¬ 4294967296 * (r : Int) + (t0' : Int) < (b : Int) := by omega
          clear hc hc1 step hb
          go_wp2
          go_meet
          exact ⟨rfl, by rw [← HQ0.out, ← HE.out]⟩
    case rest =>
      obtain ⟨rfl, rfl⟩ := hcut
      go_wp2
      go_ret2
      exact ⟨by rw [← HALL.out.1, ← HALL.out.2]; first | rfl | go_num, rfl⟩

theorem div64_any (hi lo y : Nat) (hy : hi < y) (hy6 : y < 18446744073709551616) (hlo : lo < 18446744073709551616) (w : World) :
    Calls Tryz.prog 99 #[.int .u64 hi, .int .u64 lo, .int .u64 y] w fun e w' => e = .returned (.tuple #[.int .u64 (((hi * 18446744073709551616 + lo) / y : Nat) : Int), .int .u64 (((hi * 18446744073709551616 + lo) % y : Nat) : Int)]) ∧ Below w.heap.size w w' := by
  rcases Nat.eq_zero_or_pos hi with h | h
  · subst h
    have := div64_one lo y (by omega) hy6 hlo w
    rw [Nat.zero_mul, Nat.zero_add]
    exact this
  · refine (div64_two hi lo y h hy hy6 hlo w).mono ?_
    rintro e w1 ⟨rfl, rfl⟩
    exact ⟨rfl, Below.refl _ _⟩
end Go.Proofs.YtilajcibjlcffaaGreatDoor
