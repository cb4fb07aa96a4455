/- Digits of the document's answer. -/
import Derived.Test.YtpggidkcifnhjaaDoorDecE
set_option linter.unusedSimpArgs false
set_option linter.unusedVariables false

namespace Go.Proofs.YtpggidkcifnhjaaDoor
open Go.RowKit

theorem padL_len (n least : Nat) : (padL n least).length = max (digs n).length least := by
  simp [padL]; omega
theorem padL_nth (n least j : Nat) : nth (padL n least) j = nth (digs n) j := by
  unfold nth padL
  rw [List.getD_eq_getElem?_getD, List.getD_eq_getElem?_getD, List.getElem?_append]
  split
  · rfl
  · rename_i h
    rw [List.getElem?_eq_none (by omega : (digs n).length ≤ j), List.getElem?_replicate]
    split <;> rfl
theorem padL_lt (n least : Nat) : ∀ d ∈ padL n least, d < 10 := by
  intro d hd
  rcases List.mem_append.1 hd with h | h
  · exact digs_lt n d h
  · rw [(List.mem_replicate.1 h).2]; omega

theorem dig_step {T : List Nat} {m j d : Nat} (hl : T.length = m) (hj : j < m) (hd : nth T j = d) : (⟨(lettersOf [d] ++ lettersOf (T.take j).reverse).toArray⟩ : ByteArray) = ⟨(lettersOf (T.take (j + 1)).reverse).toArray⟩ := by
  have h : T.take (j + 1) = T.take j ++ [d] := by
    rw [List.take_succ_eq_append_getElem (by omega)]
    congr 2
    rw [← hd, nth_get (by omega)]
  rw [h, List.reverse_append]
  simp [lettersOf]

end Go.Proofs.YtpggidkcifnhjaaDoor
