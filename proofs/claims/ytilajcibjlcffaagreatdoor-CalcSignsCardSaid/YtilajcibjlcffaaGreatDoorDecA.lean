/- Contracts of package dec: part, sign, Add, Sub, Neg. -/
import Derived.Test.YtilajcibjlcffaaGreatDoorRefH
set_option linter.unusedSimpArgs false
set_option linter.unusedVariables false

namespace Go.Proofs.YtilajcibjlcffaaGreatDoor
open Go.RowKit

/-- A number with a sign, as an integer. -/
def sv (mi : Bool) (x : Nat) : Int := if mi then -(x : Int) else (x : Int)
/-- Is it an int64? -/
def inR (z : Int) : Bool := decide (-9223372036854775808 ≤ z) && decide (z ≤ 9223372036854775807)
/-- The number, or nothing and the error. -/
def okV (z : Int) : Int := if inR z then z else 0
def okE (z : Int) : Int := if inR z then 0 else 31

theorem inR_yes {z : Int} (h1 : -9223372036854775808 ≤ z) (h2 : z ≤ 9223372036854775807) : inR z = true := by simp [inR, h1, h2]
theorem inR_no {z : Int} (h : z < -9223372036854775808 ∨ 9223372036854775807 < z) : inR z = false := by
  unfold inR
  rcases h with h | h
  · rw [decide_eq_false (by omega)]; rfl
  · rw [decide_eq_false (by omega : ¬ z ≤ 9223372036854775807)]; simp
theorem okV_yes {z : Int} (h1 : -9223372036854775808 ≤ z) (h2 : z ≤ 9223372036854775807) : okV z = z := by simp [okV, inR_yes h1 h2]
theorem okE_yes {z : Int} (h1 : -9223372036854775808 ≤ z) (h2 : z ≤ 9223372036854775807) : okE z = 0 := by simp [okE, inR_yes h1 h2]
theorem okV_no {z : Int} (h : z < -9223372036854775808 ∨ 9223372036854775807 < z) : okV z = 0 := by simp [okV, inR_no h]
theorem okE_no {z : Int} (h : z < -9223372036854775808 ∨ 9223372036854775807 < z) : okE z = 31 := by simp [okE, inR_no h]

theorem toBad_is (mi : Bool) (x : Nat) : toBad mi x = !inR (sv mi x) := by
  unfold toBad inR sv M63
  cases mi
  · simp only [Bool.not_false, Bool.true_and, Bool.false_eq_true, if_false]
    rw [Bool.eq_iff_iff]
    simp
    omega
  · simp only [Bool.not_true, Bool.false_and, Bool.or_false, if_true]
    rw [Bool.eq_iff_iff]
    simp
    omega
theorem toV_is (mi : Bool) (x : Nat) : toV mi x = okV (sv mi x) := by
  unfold toV okV
  rw [toBad_is]
  cases inR (sv mi x) <;> simp [sv]
theorem toE_is (mi : Bool) (x : Nat) : toE mi x = okE (sv mi x) := by
  unfold toE okE
  rw [toBad_is]
  cases inR (sv mi x) <;> simp

/-- Two results. -/
def Ret2 (v e : Int) (w : World) (en : Ending) (w' : World) : Prop := en = .returned (.tuple #[.int .i64 v, .int .i64 e]) ∧ Below w.heap.size w w'

set_option maxRecDepth 100000 in
set_option maxHeartbeats 1000000 in
theorem part_any (d : Int) (hlo : -9223372036854775808 ≤ d) (hhi : d ≤ 9223372036854775807) (w : World) :
    Calls Tryz.prog 82 #[.int .i64 d] w fun e w' => e = .returned (.int .u64 (d.natAbs : Int)) ∧ w = w' := by
  by_cases h0 : d < 0
  · obtain ⟨u, hu⟩ : ∃ u, IntKind.u64.wrap d = u := ⟨_, rfl⟩
    have e2 : IntKind.u64.wrap (-u) = (d.natAbs : Int) := by
      rw [← hu, IntKind.wrap_u64, IntKind.wrap_u64]
      omega
    clear hlo hhi
    go_enter Tryz.func82, Tryz.ntmps82
    go_wp2
    go_ret
    exact ⟨rfl, rfl⟩
  · have e1 : IntKind.u64.wrap d = (d.natAbs : Int) := by
      rw [IntKind.wrap_u64]
      omega
    clear hlo hhi
    go_enter Tryz.func82, Tryz.ntmps82
    go_wp2
    go_ret
    exact ⟨rfl, rfl⟩

set_option maxRecDepth 100000 in
set_option maxHeartbeats 1000000 in
theorem sign_any (n : Nat) (hn : n ≤ 18446744073709551615) (mi : Bool) (w : World) :
    Calls Tryz.prog 81 #[.int .u64 n, .bool mi] w fun e w' => e = .returned (.tuple #[.int .i64 (okV (sv mi n)), .int .i64 (okE (sv mi n))]) ∧ w = w' := by
  cases mi
  · have hs : sv false n = (n : Int) := rfl
    rw [hs]
    clear hs
    by_cases h : n < 9223372036854775808
    · have ev := Lib.hid (okV_yes (z := (n : Int)) (by omega) (by omega))
      have ee := Lib.hid (okE_yes (z := (n : Int)) (by omega) (by omega))
      have e1 : IntKind.i64.wrap (n : Int) = (n : Int) := IntWalk.i64_in _ (by omega)
      have t1 : decide ((n : Int) < 9223372036854775808) = true := by simp; omega
      clear h hn
      go_enter Tryz.func81, Tryz.ntmps81
      go_wp2
      go_ret2
      exact ⟨by rw [ev.out, ee.out]; rfl, rfl⟩
    · have ev := Lib.hid (okV_no (z := (n : Int)) (by omega))
      have ee := Lib.hid (okE_no (z := (n : Int)) (by omega))
      have t1 : decide ((n : Int) < 9223372036854775808) = false := by simp; omega
      clear h hn
      go_enter Tryz.func81, Tryz.ntmps81
      go_wp2
      go_ret2
      exact ⟨by rw [ev.out, ee.out]; rfl, rfl⟩
  · have hs : sv true n = -(n : Int) := rfl
    rw [hs]
    clear hs
    by_cases h : n ≤ 9223372036854775808
    · have ev := Lib.hid (okV_yes (z := -(n : Int)) (by omega) (by omega))
      have ee := Lib.hid (okE_yes (z := -(n : Int)) (by omega) (by omega))
      obtain ⟨u, hu⟩ : ∃ u, IntKind.u64.wrap (-(n : Int)) = u := ⟨_, rfl⟩
      have e2 : IntKind.i64.wrap u = -(n : Int) := by
        rw [← hu, IntKind.wrap_u64, IntKind.wrap_i64]
        omega
      have t1 : decide ((n : Int) ≤ 9223372036854775808) = true := by simp; omega
      clear h hn
      go_enter Tryz.func81, Tryz.ntmps81
      go_wp2
      go_ret2
      exact ⟨by rw [ev.out, ee.out]; rfl, rfl⟩
    · have ev := Lib.hid (okV_no (z := -(n : Int)) (by omega))
      have ee := Lib.hid (okE_no (z := -(n : Int)) (by omega))
      have t1 : decide ((n : Int) ≤ 9223372036854775808) = false := by simp; omega
      clear h hn
      go_enter Tryz.func81, Tryz.ntmps81
      go_wp2
      go_ret2
      exact ⟨by rw [ev.out, ee.out]; rfl, rfl⟩

set_option maxRecDepth 100000 in
set_option maxHeartbeats 2000000 in
theorem add_any (a b : Int) (ha1 : -9223372036854775808 ≤ a) (ha2 : a ≤ 9223372036854775807) (hb1 : -9223372036854775808 ≤ b) (hb2 : b ≤ 9223372036854775807) (w : World) :
    Calls Tryz.prog 46 #[.int .i64 a, .int .i64 b] w fun e w' => e = .returned (.tuple #[.int .i64 (okV (a + b)), .int .i64 (okE (a + b))]) ∧ w = w' := by
  obtain ⟨c, hc⟩ : ∃ c, IntKind.i64.wrap (a + b) = c := ⟨_, rfl⟩
  have hc' := hc
  rw [IntKind.wrap_i64] at hc'
  by_cases hin : -9223372036854775808 ≤ a + b ∧ a + b ≤ 9223372036854775807
  · have e1 : a + b = c := by omega
    have ev := Lib.hid (okV_yes hin.1 hin.2)
    have ee := Lib.hid (okE_yes hin.1 hin.2)
    have E1 := Lib.hid e1
    by_cases g1 : a < 0
    all_goals by_cases g2 : b < 0
    all_goals by_cases g3 : c < 0
    all_goals try omega
    all_goals clear hc' hin e1 ha1 ha2 hb1 hb2
    all_goals go_enter Tryz.func46, Tryz.ntmps46
    all_goals go_wp2
    all_goals go_ret2
    all_goals exact ⟨by rw [ev.out, ee.out, E1.out]; rfl, rfl⟩
  · have ev := Lib.hid (okV_no (z := a + b) (by omega))
    have ee := Lib.hid (okE_no (z := a + b) (by omega))
    by_cases g1 : a < 0
    all_goals by_cases g2 : b < 0
    all_goals by_cases g3 : c < 0
    all_goals try omega
    all_goals clear hc' hin ha1 ha2 hb1 hb2
    all_goals go_enter Tryz.func46, Tryz.ntmps46
    all_goals go_wp2
    all_goals go_ret2
    all_goals exact ⟨by rw [ev.out, ee.out]; rfl, rfl⟩

set_option maxRecDepth 100000 in
set_option maxHeartbeats 2000000 in
theorem sub_any (a b : Int) (ha1 : -9223372036854775808 ≤ a) (ha2 : a ≤ 9223372036854775807) (hb1 : -9223372036854775808 ≤ b) (hb2 : b ≤ 9223372036854775807) (w : World) :
    Calls Tryz.prog 47 #[.int .i64 a, .int .i64 b] w fun e w' => e = .returned (.tuple #[.int .i64 (okV (a - b)), .int .i64 (okE (a - b))]) ∧ w = w' := by
  obtain ⟨c, hc⟩ : ∃ c, IntKind.i64.wrap (a - b) = c := ⟨_, rfl⟩
  have hc' := hc
  rw [IntKind.wrap_i64] at hc'
  by_cases hin : -9223372036854775808 ≤ a - b ∧ a - b ≤ 9223372036854775807
  · have e1 : a - b = c := by omega
    have ev := Lib.hid (okV_yes hin.1 hin.2)
    have ee := Lib.hid (okE_yes hin.1 hin.2)
    have E1 := Lib.hid e1
    by_cases g1 : a < 0
    all_goals by_cases g2 : b < 0
    all_goals by_cases g3 : c < 0
    all_goals try omega
    all_goals clear hc' hin e1 ha1 ha2 hb1 hb2
    all_goals go_enter Tryz.func47, Tryz.ntmps47
    all_goals go_wp2
    all_goals go_ret2
    all_goals exact ⟨by rw [ev.out, ee.out, E1.out]; rfl, rfl⟩
  · have ev := Lib.hid (okV_no (z := a - b) (by omega))
    have ee := Lib.hid (okE_no (z := a - b) (by omega))
    by_cases g1 : a < 0
    all_goals by_cases g2 : b < 0
    all_goals by_cases g3 : c < 0
    all_goals try omega
    all_goals clear hc' hin ha1 ha2 hb1 hb2
    all_goals go_enter Tryz.func47, Tryz.ntmps47
    all_goals go_wp2
    all_goals go_ret2
    all_goals exact ⟨by rw [ev.out, ee.out]; rfl, rfl⟩

theorem neg_any (a : Int) (ha1 : -9223372036854775808 ≤ a) (ha2 : a ≤ 9223372036854775807) (w : World) :
    Calls Tryz.prog 28 #[.int .i64 a] w fun e w' => e = .returned (.tuple #[.int .i64 (okV (0 - a)), .int .i64 (okE (0 - a))]) ∧ w = w' := by
  have hc := Lib.hid (sub_any 0 a (by omega) (by omega) ha1 ha2)
  clear ha1 ha2
  go_enter Tryz.func28, Tryz.ntmps28
  go_wp2_with fail
  refine (hc.out _).mono ?_
  rintro e w1 ⟨rfl, rfl⟩
  go_wp2_with fail
  go_ret2
  exact ⟨by rw [Int.zero_sub]; rfl, rfl⟩
end Go.Proofs.YtilajcibjlcffaaGreatDoor
