/- Contracts of dec.Text, and of Div where the number of two words has one; the law's helper awake. -/
import Derived.Test.YtpggidkcifnhjaaDecD
import Derived.Lib.TrimByte
set_option linter.unusedSimpArgs false
set_option linter.unusedVariables false

namespace Go.Proofs.Ytpggidkcifnhjaa
open Go.RowKit

/-- A number's text. -/
def txt (d : Int) : List UInt8 :=
  (if d < 0 then [45] else []) ++ dgText (d.natAbs / 1000000) 1 ++ (if 0 < d.natAbs % 1000000 then 46 :: Lib.trimRightB (dgText (d.natAbs % 1000000) 6) 48 else [])

theorem trimRightB_len (L : List UInt8) (c : UInt8) : (Lib.trimRightB L c).length ≤ L.length := by
  unfold Lib.trimRightB
  rw [List.length_reverse]
  have := (List.dropWhile_sublist (· == c) (l := L.reverse)).length_le
  simpa using this
theorem cat2 (X Y : List UInt8) : (⟨X.toArray⟩ : ByteArray) ++ ⟨Y.toArray⟩ = ⟨(X ++ Y).toArray⟩ := by
  apply ByteArray.ext
  simp
theorem dgText_len (n least : Nat) (hn : n ≤ 18446744073709551615) (hl : least ≤ 100) : (dgText n least).length ≤ 120 := by
  have h2 := digs_length_le (n := n) (k := 20) (by omega)
  simp [dgText, lettersOf, padL]
  omega

end Go.Proofs.Ytpggidkcifnhjaa
