/- Contracts of the document's run, begins and quoted, and of the signs. -/
import Derived.Test.YtipnedgmmpdpjaaDoorTokE
import Derived.Lib.IndexEntry
set_option linter.unusedSimpArgs false
set_option linter.unusedVariables false
namespace Go.Proofs.YtipnedgmmpdpjaaDoor
open Go.RowKit

theorem piece_eq (s x : ByteArray) (i : Nat) (h : i + x.size ≤ s.size) : ((s.extract i (i + x.size)).toList == x.toList) = Lib.hasPrefix (s.data.toList.drop i) x.data.toList := by
  rw [← beq_toListBytes, Lib.piece_eq_occAt s x i h]
  rfl
theorem prefix_short {l p : List UInt8} (h : l.length < p.length) : Lib.hasPrefix l p = false := by
  cases hp : Lib.hasPrefix l p with
  | false => rfl
  | true => exact absurd (hasPrefix_len hp) (by omega)

theorem two34 (L : List UInt8) (j : Nat) (h : nx L j = 34) : Lib.hasPrefix (L.drop j) [34, 34] = decide (nx L (j + 1) = 34) := by
  have h0 := lt_of_nx (L := L) (i := j) (by omega)
  rw [nx_get h0] at h
  have e34 : L[j] = 34 := by rw [← u8_eta L[j], h]; rfl
  rw [List.drop_eq_getElem_cons h0, e34]
  rcases Nat.lt_or_ge (j + 1) L.length with h1 | h1
  · rw [nx_get h1, List.drop_eq_getElem_cons h1]
    simp only [Lib.hasPrefix, List.isPrefixOf, beq_self_eq_true, Bool.true_and, Bool.and_true]
    by_cases h2 : L[j + 1].toNat = 34
    · have : L[j + 1] = 34 := by rw [← u8_eta L[j + 1], h2]; rfl
      simp [this]
    · have : ¬ (34 : UInt8) = L[j + 1] := by intro e; rw [← e] at h2; exact h2 (by decide)
      simp [h2, this]
  · rw [nx_end h1, List.drop_of_length_le h1]
    simp [Lib.hasPrefix, List.isPrefixOf]
end Go.Proofs.YtipnedgmmpdpjaaDoor
