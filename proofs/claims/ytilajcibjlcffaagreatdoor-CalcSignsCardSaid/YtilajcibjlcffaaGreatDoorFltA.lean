/- Whole numbers as binary floating point words: what the operations of the model's numbers give on them. No program in sight. -/
import Derived.WalkKit
import Derived.Laws.FloatArith
import Derived.Laws.ComplexArith
set_option linter.unusedSimpArgs false
set_option linter.unusedVariables false

namespace Go.Proofs.YtilajcibjlcffaaGreatDoor.Gau
open Ieee

/-- The word of a whole number with a sign. -/
def FW (s : Bool) (N : Nat) : Nat := Ieee.double.nearest s N 0
def M53 : Nat := 9007199254740992
/-- What a word of such a number stands for. -/
def val (s : Bool) (N : Nat) : Int := if s then -(N : Int) else (N : Int)

theorem log2_of {n L : Nat} (h1 : 2 ^ L ≤ n) (h2 : n < 2 ^ (L + 1)) : n.log2 = L := by
  have h0 : n ≠ 0 := by
    intro e
    subst e
    have := Nat.two_pow_pos L
    omega
  exact (Nat.log2_eq_iff h0).2 ⟨h1, h2⟩
theorem log2_bounds {n : Nat} (h : n ≠ 0) : 2 ^ n.log2 ≤ n ∧ n < 2 ^ (n.log2 + 1) := (Nat.log2_eq_iff h).1 rfl
theorem log2_mul (N k : Nat) (h : N ≠ 0) : (N * 2 ^ k).log2 = N.log2 + k := by
  obtain ⟨h1, h2⟩ := log2_bounds h
  have hp := Nat.two_pow_pos k
  refine log2_of ?_ ?_
  · rw [Nat.pow_add]
    exact Nat.mul_le_mul_right _ h1
  · rw [show N.log2 + k + 1 = N.log2 + 1 + k from by omega, Nat.pow_add]
    exact Nat.mul_lt_mul_of_pos_right h2 hp
theorem log2_53 {N : Nat} (h : N ≠ 0) (h53 : N < M53) : N.log2 ≤ 52 := by
  obtain ⟨h1, h2⟩ := log2_bounds h
  rcases Nat.lt_or_ge 52 N.log2 with hc | hc
  · have h3 : 2 ^ 53 ≤ 2 ^ N.log2 := Nat.pow_le_pow_right (by omega) hc
    unfold M53 at h53
    omega
  · exact hc

theorem cut_none (way : Toward) (neg : Bool) (n : Nat) : way.cut neg n 0 = n := by
  unfold Toward.cut
  cases way <;> simp [Nat.mod_one]
theorem cut_exact (way : Toward) (neg : Bool) (n d : Nat) (hd : d ≤ (n * 2 ^ d).log2 + 2) : way.cut neg (n * 2 ^ d) d = n := by
  unfold Toward.cut
  have hm : min d ((n * 2 ^ d).log2 + 2) = d := by omega
  have hp := Nat.two_pow_pos d
  have hg : (1 : Nat) <<< d = 2 ^ d := by rw [Nat.shiftLeft_eq, Nat.one_mul]
  rw [hm]
  simp only [hg, Nat.mul_mod_left, Nat.mul_div_cancel n hp]
  have h0 : ((2 : Nat) ^ d == 0) = false := by rw [beq_eq_false_iff_ne]; omega
  cases way <;> simp [h0]

/-- The rung of a whole number. -/
def rungOf (N : Nat) : Nat := if N = 0 then 0 else (N.log2 + 1022) * 4503599627370496 + N * 2 ^ (52 - N.log2)

theorem frac_bounds {N : Nat} (h : N ≠ 0) (h53 : N < M53) : 4503599627370496 ≤ N * 2 ^ (52 - N.log2) ∧ N * 2 ^ (52 - N.log2) < 9007199254740992 := by
  have hL := log2_53 h h53
  obtain ⟨h1, h2⟩ := log2_bounds h
  have hp := Nat.two_pow_pos (52 - N.log2)
  have e1 : 2 ^ N.log2 * 2 ^ (52 - N.log2) = 4503599627370496 := by rw [← Nat.pow_add, show N.log2 + (52 - N.log2) = 52 from by omega]
  have e2 : 2 ^ (N.log2 + 1) * 2 ^ (52 - N.log2) = 9007199254740992 := by rw [← Nat.pow_add, show N.log2 + 1 + (52 - N.log2) = 53 from by omega]
  refine ⟨?_, ?_⟩
  · rw [← e1]; exact Nat.mul_le_mul_right _ h1
  · rw [← e2]; exact Nat.mul_lt_mul_of_pos_right h2 hp

theorem double_least : Ieee.double.leastPlace = -1074 := by decide
theorem double_binade : Ieee.double.binade = 4503599627370496 := by decide
theorem double_inf : Ieee.double.infRung = 9218868437227405312 := by decide
theorem double_sign : Ieee.double.signWeight = 9223372036854775808 := by decide
theorem double_frac : Ieee.double.fractionBits = 52 := rfl

theorem nearest_any (s : Bool) (N k : Nat) (h53 : N < M53) : Ieee.double.nearest s (N * 2 ^ k) (-(k : Int)) = Ieee.double.word s (rungOf N) := by
  unfold Format.nearest rungOf
  by_cases h0 : N = 0
  · subst h0
    simp
  · have hp := Nat.two_pow_pos k
    have hne : N * 2 ^ k ≠ 0 := Nat.mul_ne_zero h0 (by omega)
    rw [if_neg hne, if_neg h0, log2_mul N k h0, double_least, double_frac, double_binade, double_inf]
    have hL := log2_53 h0 h53
    obtain ⟨hf1, hf2⟩ := frac_bounds h0 h53
    obtain ⟨L, hLL⟩ : ∃ L, N.log2 = L := ⟨_, rfl⟩
    rw [hLL] at hL hf1 hf2 ⊢
    have hlast : max (-(k : Int) + ((L + k : Nat) : Int) - ((52 : Nat) : Int)) (-1074) = (L : Int) - 52 := by omega
    rw [hlast]
    have e1 : ((L : Int) - 52 - -1074).toNat = L + 1022 := by omega
    have hkept : Toward.even.cut s ((N * 2 ^ k) <<< (-(k : Int) - ((L : Int) - 52)).toNat) ((L : Int) - 52 - -(k : Int)).toNat = N * 2 ^ (52 - L) := by
      rcases Nat.lt_or_ge (52 - L) k with hk | hk
      · have e2 : (-(k : Int) - ((L : Int) - 52)).toNat = 0 := by omega
        have e3 : ((L : Int) - 52 - -(k : Int)).toNat = L + k - 52 := by omega
        rw [e2, e3, Nat.shiftLeft_zero]
        have e4 : N * 2 ^ k = N * 2 ^ (52 - L) * 2 ^ (L + k - 52) := by rw [Nat.mul_assoc, ← Nat.pow_add, show 52 - L + (L + k - 52) = k from by omega]
        have e5 : (N * 2 ^ (52 - L) * 2 ^ (L + k - 52)).log2 = L + k := by rw [← e4, log2_mul N k h0, hLL]
        rw [e4]
        exact cut_exact _ _ _ _ (by rw [e5]; omega)
      · have e2 : (-(k : Int) - ((L : Int) - 52)).toNat = 52 - L - k := by omega
        have e3 : ((L : Int) - 52 - -(k : Int)).toNat = 0 := by omega
        rw [e2, e3, cut_none, Nat.shiftLeft_eq, Nat.mul_assoc, ← Nat.pow_add, show k + (52 - L - k) = 52 - L from by omega]
    show Ieee.double.word s (min (((L : Int) - 52 - -1074).toNat * 4503599627370496 + Toward.even.cut s ((N * 2 ^ k) <<< (-(k : Int) - ((L : Int) - 52)).toNat) ((L : Int) - 52 - -(k : Int)).toNat) 9218868437227405312) = _
    rw [hkept, e1]
    congr 1
    exact Nat.min_eq_left (by omega)
theorem FW_eq (s : Bool) (N : Nat) (h53 : N < M53) : FW s N = Ieee.double.word s (rungOf N) := by
  have h := nearest_any s N 0 h53
  rw [Nat.pow_zero, Nat.mul_one] at h
  exact h
theorem nearest_FW (s : Bool) (N k : Nat) (h53 : N < M53) : Ieee.double.nearest s (N * 2 ^ k) (-(k : Int)) = FW s N := by rw [nearest_any s N k h53, FW_eq s N h53]

theorem rung_lt {N : Nat} (h53 : N < M53) : rungOf N < 9218868437227405312 := by
  unfold rungOf
  split
  · omega
  · rename_i h0
    have hL := log2_53 h0 h53
    obtain ⟨hf1, hf2⟩ := frac_bounds h0 h53
    generalize N * 2 ^ (52 - N.log2) = F at *
    generalize N.log2 = L at *
    omega
/-- What a word stands for. -/
theorem read_FW (s : Bool) (N : Nat) (h53 : N < M53) : ∃ k : Nat, Ieee.double.read (FW s N) = .number s (N * 2 ^ k) (-(k : Int)) ∧ (N ≠ 0 → k = 52 - N.log2) := by
  rw [FW_eq s N h53]
  have hr := rung_lt h53
  have hneg : (Ieee.double.word s (rungOf N) / 9223372036854775808 % 2 == 1) = s := by
    unfold Format.word
    rw [double_sign]
    cases s
    · simp only [Bool.false_eq_true, if_false]
      rw [Nat.div_eq_of_lt (by omega)]
      rfl
    · simp only [if_true]
      rw [Nat.add_comm, Nat.add_div_right _ (by omega), Nat.div_eq_of_lt (by omega)]
      rfl
  have hrung : Ieee.double.word s (rungOf N) % 9223372036854775808 = rungOf N := by
    unfold Format.word
    rw [double_sign]
    cases s
    · simp only [Bool.false_eq_true, if_false]
      exact Nat.mod_eq_of_lt (by omega)
    · simp only [if_true]
      rw [Nat.add_mod_left]
      exact Nat.mod_eq_of_lt (by omega)
  unfold Format.read
  rw [double_sign, hneg, hrung, double_binade, double_least, double_inf]
  by_cases h0 : N = 0
  · subst h0
    have e : rungOf 0 = 0 := rfl
    obtain ⟨k, hk⟩ : ∃ k : Nat, (k : Int) = 1074 := ⟨1074, rfl⟩
    exact ⟨k, by rw [e, if_pos (by omega), Nat.zero_mul, hk], fun h => absurd rfl h⟩
  · have hL := log2_53 h0 h53
    obtain ⟨hf1, hf2⟩ := frac_bounds h0 h53
    refine ⟨52 - N.log2, ?_, fun _ => rfl⟩
    have hrr : rungOf N = (N.log2 + 1022) * 4503599627370496 + N * 2 ^ (52 - N.log2) := by unfold rungOf; rw [if_neg h0]
    rw [hrr] at hr ⊢
    generalize N * 2 ^ (52 - N.log2) = F at *
    generalize N.log2 = L at *
    have h1 : ¬ (L + 1022) * 4503599627370496 + F < 4503599627370496 := by omega
    have h2 : ((L + 1022) * 4503599627370496 + F) % 4503599627370496 = F - 4503599627370496 := by omega
    have h3 : ((L + 1022) * 4503599627370496 + F) / 4503599627370496 = L + 1023 := by omega
    have e1 : 4503599627370496 + (F - 4503599627370496) = F := by omega
    have e2 : (-1074 + ((L + 1023 - 1 : Nat) : Int)) = -((52 - L : Nat) : Int) := by omega
    rw [if_neg h1, if_pos hr, h2, h3, e1, e2]

theorem signed_val (s : Bool) (N i m : Nat) (h : i ≤ m) : signed s (N * 2 ^ i) (m - i) = val s N * (2 ^ m : Nat) := by
  have e : (N * 2 ^ i) <<< (m - i) = N * 2 ^ m := by rw [Nat.shiftLeft_eq, Nat.mul_assoc, ← Nat.pow_add, show i + (m - i) = m from by omega]
  unfold signed val
  rw [e]
  cases s
  · simp
  · simp [Int.neg_mul]

/-- The sign of a sum. -/
def sgnS (s t : Bool) (v : Int) : Bool := if v = 0 then s && t else decide (v < 0)
theorem sum_data (s : Bool) (M i : Nat) (t : Bool) (N j : Nat) : ∃ m : Nat, Datum.sum (.number s (M * 2 ^ i) (-(i : Int))) (.number t (N * 2 ^ j) (-(j : Int))) = some (.number (sgnS s t (val s M + val t N)) ((val s M + val t N).natAbs * 2 ^ m) (-(m : Int))) := by
  refine ⟨max i j, ?_⟩
  have e0 : min (-(i : Int)) (-(j : Int)) = -((max i j : Nat) : Int) := by omega
  have e1 : (-(i : Int) - -((max i j : Nat) : Int)).toNat = max i j - i := by omega
  have e2 : (-(j : Int) - -((max i j : Nat) : Int)).toNat = max i j - j := by omega
  simp only [Datum.sum, e0, e1, e2]
  rw [signed_val s M i (max i j) (by omega), signed_val t N j (max i j) (by omega), ← Int.add_mul]
  obtain ⟨v, hv⟩ : ∃ v, val s M + val t N = v := ⟨_, rfl⟩
  rw [hv]
  have hp : 0 < 2 ^ max i j := Nat.two_pow_pos _
  obtain ⟨p, hpp⟩ : ∃ p, 2 ^ max i j = p := ⟨_, rfl⟩
  rw [hpp] at hp ⊢
  have hz : (v * (p : Int) = 0) ↔ v = 0 := by
    rw [Int.mul_eq_zero]
    omega
  have hl : (v * (p : Int) < 0) ↔ v < 0 := by
    constructor
    · intro h
      rcases Int.lt_or_le v 0 with h1 | h1
      · exact h1
      · have := Int.mul_nonneg h1 (Int.natCast_nonneg p)
        omega
    · intro h
      exact Int.mul_neg_of_neg_of_pos h (by omega)
  have ha : (v * (p : Int)).natAbs = v.natAbs * p := by rw [Int.natAbs_mul, Int.natAbs_natCast]
  rw [ha]
  unfold sgnS
  simp only [hz, hl]

theorem fw_add (s : Bool) (M : Nat) (t : Bool) (N : Nat) (h1 : M < M53) (h2 : N < M53) (h3 : (val s M + val t N).natAbs < M53) : floatBits .add .f64 (FW s M) (FW t N) = some (FW (sgnS s t (val s M + val t N)) (val s M + val t N).natAbs) := by
  obtain ⟨i, hi, _⟩ := read_FW s M h1
  obtain ⟨j, hj, _⟩ := read_FW t N h2
  obtain ⟨m, hm⟩ := sum_data s M i t N j
  show Ieee.double.add _ _ = _
  unfold Format.add
  rw [hi, hj, hm]
  exact congrArg some (nearest_FW _ _ m h3)
theorem val_not (s : Bool) (N : Nat) : val (!s) N = -val s N := by cases s <;> simp [val]
theorem fw_sub (s : Bool) (M : Nat) (t : Bool) (N : Nat) (h1 : M < M53) (h2 : N < M53) (h3 : (val s M - val t N).natAbs < M53) : floatBits .sub .f64 (FW s M) (FW t N) = some (FW (sgnS s (!t) (val s M - val t N)) (val s M - val t N).natAbs) := by
  obtain ⟨i, hi, _⟩ := read_FW s M h1
  obtain ⟨j, hj, _⟩ := read_FW t N h2
  obtain ⟨m, hm⟩ := sum_data s M i (!t) N j
  rw [val_not, ← Int.sub_eq_add_neg] at hm
  show Ieee.double.sub _ _ = _
  unfold Format.sub
  rw [hi, hj]
  simp only [Datum.opposite]
  rw [hm]
  exact congrArg some (nearest_FW _ _ m h3)
theorem fw_mul (s : Bool) (M : Nat) (t : Bool) (N : Nat) (h1 : M < M53) (h2 : N < M53) (h3 : M * N < M53) : floatBits .mul .f64 (FW s M) (FW t N) = some (FW (s ^^ t) (M * N)) := by
  obtain ⟨i, hi, _⟩ := read_FW s M h1
  obtain ⟨j, hj, _⟩ := read_FW t N h2
  show Ieee.double.mul _ _ = _
  unfold Format.mul
  rw [hi, hj]
  have e : (M * 2 ^ i) * (N * 2 ^ j) = M * N * 2 ^ (i + j) := by rw [Nat.pow_add, Nat.mul_mul_mul_comm]
  have e2 : (-(i : Int) + -(j : Int)) = -((i + j : Nat) : Int) := by omega
  simp only [Datum.product, e, e2]
  exact congrArg some (nearest_FW _ _ (i + j) h3)
theorem compare_lt_of {a b : Int} (h : a < b) : compare a b = .lt := by
  show compareOfLessAndEq a b = _
  unfold compareOfLessAndEq
  rw [if_pos h]
theorem compare_eq_of {a : Int} : compare a a = .eq := by
  show compareOfLessAndEq a a = _
  unfold compareOfLessAndEq
  rw [if_neg (by omega), if_pos rfl]
theorem compare_gt_of {a b : Int} (h : b < a) : compare a b = .gt := by
  show compareOfLessAndEq a b = _
  unfold compareOfLessAndEq
  rw [if_neg (by omega), if_neg (by omega)]
theorem cmp_scale (a b p : Int) (hp : 0 < p) : compare (a * p) (b * p) = compare a b := by
  show compareOfLessAndEq (a * p) (b * p) = compareOfLessAndEq a b
  have h1 : (a * p < b * p) ↔ a < b := ⟨fun h => Int.lt_of_mul_lt_mul_right h (by omega), fun h => Int.mul_lt_mul_of_pos_right h hp⟩
  have h2 : (a * p = b * p) ↔ a = b := ⟨fun h => Int.eq_of_mul_eq_mul_right (by omega) h, fun h => by rw [h]⟩
  unfold compareOfLessAndEq
  simp only [h1, h2]
/-- How two of them stand to each other. -/
theorem fw_order (s : Bool) (M : Nat) (t : Bool) (N : Nat) (h1 : M < M53) (h2 : N < M53) : Datum.order (FloatKind.f64.decode (FW s M)) (FloatKind.f64.decode (FW t N)) = some (compare (val s M) (val t N)) := by
  obtain ⟨i, hi, _⟩ := read_FW s M h1
  obtain ⟨j, hj, _⟩ := read_FW t N h2
  show Datum.order (Ieee.double.read _) (Ieee.double.read _) = _
  rw [hi, hj]
  have e0 : min (-(i : Int)) (-(j : Int)) = -((max i j : Nat) : Int) := by omega
  have e1 : (-(i : Int) - -((max i j : Nat) : Int)).toNat = max i j - i := by omega
  have e2 : (-(j : Int) - -((max i j : Nat) : Int)).toNat = max i j - j := by omega
  simp only [Datum.order, e0, e1, e2]
  rw [signed_val s M i (max i j) (by omega), signed_val t N j (max i j) (by omega)]
  have hp : 0 < 2 ^ max i j := Nat.two_pow_pos _
  obtain ⟨p, hpp⟩ : ∃ p, 2 ^ max i j = p := ⟨_, rfl⟩
  rw [hpp] at hp ⊢
  exact congrArg some (cmp_scale _ _ _ (by omega))
theorem fw_neg (s : Bool) (N : Nat) (h : N < M53) : (FloatKind.f64.decode (FW s N)).neg = s := by
  obtain ⟨i, hi, _⟩ := read_FW s N h
  show Datum.neg (Ieee.double.read _) = _
  rw [hi]
  rfl
/-- A word made an integer. -/
theorem fw_int (s : Bool) (N : Nat) (h : N < M53) : floatToIntVal .f64 (FW s N) .i64 = some (val s N) := by
  obtain ⟨k, hk, hk2⟩ := read_FW s N h
  have hc : Toward.zero.cut s ((N * 2 ^ k) <<< (-(k : Int)).toNat) (- -(k : Int)).toNat = N := by
    have e1 : (-(k : Int)).toNat = 0 := by omega
    have e2 : (- -(k : Int)).toNat = k := by omega
    rw [e1, e2, Nat.shiftLeft_zero]
    by_cases h0 : N = 0
    · subst h0
      simp [Toward.cut]
    · exact cut_exact _ _ _ _ (by rw [log2_mul N k h0]; omega)
  have ht : (FloatKind.f64.decode (FW s N)).toInt .zero = some (val s N) := by
    show Datum.toInt .zero (Ieee.double.read _) = _
    rw [hk]
    simp only [Datum.toInt, Datum.integral, hc]
    unfold signed val
    rw [Nat.shiftLeft_zero]
  unfold floatToIntVal
  rw [ht]
  have hb : IntKind.i64.min ≤ val s N ∧ val s N ≤ IntKind.i64.max := by
    have e1 : IntKind.i64.min = -9223372036854775808 := by decide
    have e2 : IntKind.i64.max = 9223372036854775807 := by decide
    rw [e1, e2]
    unfold val
    unfold M53 at h
    cases s <;> simp <;> omega
  simp only [if_pos hb]
/-- An integer made a word. -/
theorem fw_of (n : Int) : floatOfInt .f64 n = FW (decide (n < 0)) n.natAbs := rfl
theorem val_of (n : Int) : val (decide (n < 0)) n.natAbs = n := by
  unfold val
  by_cases h : n < 0
  · simp [h]; omega
  · simp [h]; omega

/-- A word that stands for the whole number v (a nought of either sign). -/
def IsF (x : Nat) (v : Int) : Prop := v.natAbs < M53 ∧ ∃ s, x = FW s v.natAbs ∧ val s v.natAbs = v
theorem IsF.mk' {s : Bool} {N : Nat} (h : N < M53) : IsF (FW s N) (val s N) := by
  have e : (val s N).natAbs = N := by unfold val; cases s <;> simp
  exact ⟨by rw [e]; exact h, s, by rw [e], by rw [e]⟩
theorem val_sgnS (s t : Bool) (v : Int) : val (sgnS s t v) v.natAbs = v := by
  unfold val sgnS
  by_cases h0 : v = 0
  · subst h0
    simp
  · rw [if_neg h0]
    by_cases h : v < 0
    · simp [h]; omega
    · simp [h]; omega
theorem IsF.of_sgn (s t : Bool) {v : Int} (h : v.natAbs < M53) : IsF (FW (sgnS s t v) v.natAbs) v := ⟨h, _, rfl, val_sgnS s t v⟩
theorem isF_add {x y : Nat} {a b : Int} (hx : IsF x a) (hy : IsF y b) (h : (a + b).natAbs < M53) : ∃ r, floatBits .add .f64 x y = some r ∧ IsF r (a + b) := by
  obtain ⟨ha, s, rfl, hs⟩ := hx
  obtain ⟨hb, t, rfl, ht⟩ := hy
  have := fw_add s a.natAbs t b.natAbs ha hb (by rw [hs, ht]; exact h)
  rw [hs, ht] at this
  exact ⟨_, this, IsF.of_sgn s t h⟩
theorem isF_sub {x y : Nat} {a b : Int} (hx : IsF x a) (hy : IsF y b) (h : (a - b).natAbs < M53) : ∃ r, floatBits .sub .f64 x y = some r ∧ IsF r (a - b) := by
  obtain ⟨ha, s, rfl, hs⟩ := hx
  obtain ⟨hb, t, rfl, ht⟩ := hy
  have := fw_sub s a.natAbs t b.natAbs ha hb (by rw [hs, ht]; exact h)
  rw [hs, ht] at this
  exact ⟨_, this, IsF.of_sgn s (!t) h⟩
theorem val_mul (s t : Bool) (M N : Nat) : val (s ^^ t) (M * N) = val s M * val t N := by
  unfold val
  cases s <;> cases t <;> simp [Int.neg_mul, Int.mul_neg]
theorem isF_mul {x y : Nat} {a b : Int} (hx : IsF x a) (hy : IsF y b) (h : (a * b).natAbs < M53) : ∃ r, floatBits .mul .f64 x y = some r ∧ IsF r (a * b) := by
  obtain ⟨ha, s, rfl, hs⟩ := hx
  obtain ⟨hb, t, rfl, ht⟩ := hy
  have h2 : a.natAbs * b.natAbs < M53 := by rw [← Int.natAbs_mul]; exact h
  refine ⟨_, fw_mul s a.natAbs t b.natAbs ha hb h2, h, s ^^ t, ?_, ?_⟩
  · rw [Int.natAbs_mul]
  · rw [Int.natAbs_mul, val_mul, hs, ht]
theorem isF_order {x y : Nat} {a b : Int} (hx : IsF x a) (hy : IsF y b) : Ieee.double.order x y = some (compare a b) := by
  obtain ⟨ha, s, rfl, hs⟩ := hx
  obtain ⟨hb, t, rfl, ht⟩ := hy
  have := fw_order s a.natAbs t b.natAbs ha hb
  rw [hs, ht] at this
  exact this
theorem isF_int {x : Nat} {a : Int} (hx : IsF x a) : floatToIntVal .f64 x .i64 = some a := by
  obtain ⟨ha, s, rfl, hs⟩ := hx
  rw [fw_int s _ ha, hs]
theorem isF_of {n : Int} (h : n.natAbs < M53) : IsF (floatOfInt .f64 n) n := ⟨h, decide (n < 0), rfl, val_of n⟩
theorem isF_zero : IsF 0 0 := ⟨by decide, false, by decide, rfl⟩
theorem isF_one : IsF 4607182418800017408 1 := ⟨by decide, false, by decide +kernel, rfl⟩
theorem isF_most : IsF 4697254411347427328 1048576 := ⟨by decide, false, by decide +kernel, rfl⟩
theorem isF_least : IsF 13920626448202203136 (-1048576) := ⟨by decide, true, by decide +kernel, rfl⟩
end Go.Proofs.YtilajcibjlcffaaGreatDoor.Gau
