/- Parts of texts: contracts, and the walk of StrsParts. -/
import Derived.Test.YtcmpeppjopdeaaaDoorStrC
set_option linter.unusedSimpArgs false
set_option linter.unusedVariables false

namespace Go.Proofs.YtcmpeppjopdeaaaDoor
open Go.RowKit

theorem u8_eta (c : UInt8) : UInt8.ofNat c.toNat = c := by simp
theorem cat2 (X Y : List UInt8) : (⟨X.toArray⟩ : ByteArray) ++ ⟨Y.toArray⟩ = ⟨(X ++ Y).toArray⟩ := by
  apply ByteArray.ext
  simp
theorem size_of (X : List UInt8) : (⟨X.toArray⟩ : ByteArray).size = X.length := by rw [Lib.size_eq]
theorem ext_list (s : ByteArray) (i j n : Nat) (h : j = i + n) : s.extract i j = ⟨((s.data.toList.drop i).take n).toArray⟩ := by
  subst h
  apply ByteArray.ext
  apply Array.ext'
  rw [ByteArray.data_extract, Array.toList_extract, List.extract_eq_take_drop]
  simp
theorem ext_one (s : ByteArray) (j : Nat) (h : j < s.size) : s.extract j (j + 1) = ⟨[UInt8.ofNat (nx s.data.toList j)].toArray⟩ := by
  have hl : j < s.data.toList.length := by rw [← Lib.size_eq]; exact h
  rw [ext_list s j (j + 1) 1 rfl, List.drop_eq_getElem_cons hl, nx_get hl, u8_eta]
  rfl
theorem ret_s {a b : ByteArray} (h : a = b) : Ending.returned (.string a) = .returned (.string b) := by rw [h]

/-- k is n, put between 0 and m. -/
def Clip (n : Int) (m k : Nat) : Prop := (n < 0 ∧ k = 0) ∨ (0 ≤ n ∧ n ≤ m ∧ n = k) ∨ ((m : Int) < n ∧ k = m)
theorem clip_ex (n : Int) (m : Nat) : ∃ k, Clip n m k ∧ k ≤ m := by
  by_cases h1 : n < 0
  · exact ⟨0, .inl ⟨h1, rfl⟩, by omega⟩
  · by_cases h2 : n ≤ m
    · exact ⟨n.toNat, .inr (.inl ⟨by omega, h2, by omega⟩), by omega⟩
    · exact ⟨m, .inr (.inr ⟨by omega, rfl⟩), by omega⟩

theorem part_of (s : ByteArray) (f t k : Nat) (h : t = f + k) : (⟨((s.data.toList.take t).drop f).toArray⟩ : ByteArray) = s.extract f t := by
  rw [ext_list s f t k h, h, List.drop_take]
  congr 3
  omega

end Go.Proofs.YtcmpeppjopdeaaaDoor
