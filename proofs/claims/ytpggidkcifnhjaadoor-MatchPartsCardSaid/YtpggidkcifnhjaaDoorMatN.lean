/- Conditions: the document's Is: patterns. -/
import Derived.Test.YtpggidkcifnhjaaDoorMatM
set_option linter.unusedSimpArgs false
set_option linter.unusedVariables false

namespace Go.Proofs.YtpggidkcifnhjaaDoor
open Go.RowKit

theorem cmpB_less (a b : List UInt8) : Op.bytesLess a b = decide (Lib.compareBytes a b < 0) := by
  rw [cmpB_is]
  cases h : Op.bytesLess a b
  · simp only [Bool.false_eq_true, if_false]
    split <;> rfl
  · rfl
theorem cmpB_more : ∀ (a b : List UInt8), Op.bytesLess b a = decide (0 < Lib.compareBytes a b)
  | [], [] => by simp [Lib.compareBytes, Op.bytesLess]
  | [], _ :: _ => by simp [Lib.compareBytes, Op.bytesLess]
  | _ :: _, [] => by simp [Lib.compareBytes, Op.bytesLess]
  | x :: a, y :: b => by
    have ih := cmpB_more a b
    simp only [Lib.compareBytes, Op.bytesLess, ih]
    by_cases h : x < y
    · have h' : ¬ y < x := fun h' => absurd (UInt8.lt_trans h h') (UInt8.lt_irrefl _)
      have hne : y ≠ x := fun e => by subst e; exact absurd h (UInt8.lt_irrefl _)
      simp [h, h', hne]
    · by_cases h' : y < x
      · simp [h, h']
      · have hxy : x = y := UInt8.le_antisymm (UInt8.not_lt.1 h') (UInt8.not_lt.1 h)
        subst hxy
        simp

end Go.Proofs.YtpggidkcifnhjaaDoor
