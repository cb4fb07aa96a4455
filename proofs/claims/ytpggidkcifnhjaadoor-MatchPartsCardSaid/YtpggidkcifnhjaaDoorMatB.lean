/- Conditions: letters made small, and whether a sign holds. -/
import Derived.Test.YtpggidkcifnhjaaDoorMatA
import Derived.Outline
set_option linter.unusedSimpArgs false
set_option linter.unusedVariables false

namespace Go.Proofs.YtpggidkcifnhjaaDoor
open Go.RowKit

theorem lower_any (c : Nat) (hc : c < 256) (w : World) : Calls Tryd.prog 38 #[.int .u8 (c : Int)] w fun e w' => e = .returned (.int .u8 (lowN c : Int)) ∧ w = w' := by
  by_cases h : 65 ≤ c ∧ c ≤ 90
  · have hl : lowN c = c + 32 := by unfold lowN; rw [if_pos h]
    rw [hl]
    obtain ⟨h1, h2⟩ := h
    have h1' : (65 : Int) ≤ (c : Int) := by omega
    have h2' : (c : Int) ≤ 90 := by omega
    clear hl
    go_enter Tryd.func38, Tryd.ntmps38
    go_wp2_with fail
    go_ret
    exact ⟨by show Ending.returned (.int .u8 ((c : Int) + 97 - 65)) = Ending.returned (.int .u8 ((c + 32 : Nat) : Int)); congr 2; omega, rfl⟩
  · have hl : lowN c = c := by unfold lowN; rw [if_neg h]
    rw [hl]
    by_cases h1 : 65 ≤ c
    · have h1' : (65 : Int) ≤ (c : Int) := by omega
      have h2' : ¬ (c : Int) ≤ 90 := by omega
      clear hl h
      go_enter Tryd.func38, Tryd.ntmps38
      go_wp2_with fail
      go_ret
      exact ⟨rfl, rfl⟩
    · have h1' : ¬ (65 : Int) ≤ (c : Int) := by omega
      clear hl h
      go_enter Tryd.func38, Tryd.ntmps38
      go_wp2_with fail
      go_ret
      exact ⟨rfl, rfl⟩
/-- The six signs of comparison. -/
def sgB : Nat → ByteArray
  | 0 => ⟨#[60, 62]⟩
  | 1 => ⟨#[60, 61]⟩
  | 2 => ⟨#[62, 61]⟩
  | 3 => ⟨#[60]⟩
  | 4 => ⟨#[62]⟩
  | _ => ⟨#[61]⟩
/-- Does a sign hold? less, more: what a comparison tells. -/
def soB (q : Nat) (less more : Bool) : Bool := if q = 3 then less else if q = 4 then more else if q = 1 then !more else !less
theorem holds_any (q : Nat) (hq : q < 6) (n : Int) (w : World) : Calls Tryd.prog 18 #[.string (sgB q), .int .i64 n] w fun e w' => e = .returned (.bool (soB q (decide (n < 0)) (decide (0 < n)))) ∧ w = w' := by
  obtain rfl | rfl | rfl | rfl | rfl | rfl : q = 0 ∨ q = 1 ∨ q = 2 ∨ q = 3 ∨ q = 4 ∨ q = 5 := by omega
  all_goals
    simp only [sgB]
    go_enter Tryd.func18, Tryd.ntmps18
    go_wp2_with fail
    go_ret
    refine ⟨?_, rfl⟩
    first
      | rfl
      | (show Ending.returned (.bool _) = Ending.returned (.bool _)
         congr 2
         simp only [soB]
         first
           | rfl
           | (rw [Bool.eq_iff_iff]; simp; done)
           | (rw [Bool.eq_iff_iff]; simp; omega))
end Go.Proofs.YtpggidkcifnhjaaDoor
