/- Conditions: does a pattern stand for a text? The document's way. -/
import Derived.Test.YtpggidkcifnhjaaDoorMatD
import Derived.Test.YtpggidkcifnhjaaDoorStill
import Derived.StillTailTactics
import Derived.Deep.QuietTactic
import Derived.BigQuiet
set_option linter.unusedSimpArgs false
set_option linter.unusedVariables false

namespace Go.Proofs.YtpggidkcifnhjaaDoor
open Go.RowKit

theorem sgAt_low (L : List Sg) : sgAt (L.map low) = lowAt L := by
  funext i
  unfold lowAt sgAt
  rw [List.getD_eq_getElem?_getD, List.getD_eq_getElem?_getD, List.getElem?_map]
  cases L[i]? <;> rfl
/-- A row reckoned up to a place. -/
def mixT (p : Nat → Sg) (s : Nat → Nat) (i k : Nat) : Nat → Bool := fun x => if x < k then TT p s (i + 1) x else false
theorem mixT_same {p : Nat → Sg} {s : Nat → Nat} {i k : Nat} (h : TT p s (i + 1) k = false) (x : Nat) : mixT p s i (k + 1) x = mixT p s i k x := by
  unfold mixT
  by_cases h1 : x = k
  · subst h1
    rw [if_pos (by omega), if_neg (by omega), h]
  · by_cases h2 : x < k
    · rw [if_pos (by omega), if_pos h2]
    · rw [if_neg (by omega), if_neg h2]
theorem mixT_set {p : Nat → Sg} {s : Nat → Nat} {i k : Nat} {v : Bool} (h : TT p s (i + 1) k = v) (x : Nat) : mixT p s i (k + 1) x = if x = k then v else mixT p s i k x := by
  unfold mixT
  by_cases h1 : x = k
  · subst h1
    rw [if_pos (by omega), if_pos rfl, h]
  · rw [if_neg h1]
    by_cases h2 : x < k
    · rw [if_pos (by omega), if_pos h2]
    · rw [if_neg (by omega), if_neg h2]

end Go.Proofs.YtpggidkcifnhjaaDoor
