/- Contract of dec.digits. -/
import Derived.Test.YtpggidkcifnhjaaDecC
import Derived.Laws.BytesArg
set_option linter.unusedSimpArgs false
set_option linter.unusedVariables false

namespace Go.Proofs.Ytpggidkcifnhjaa
open Go.RowKit

/-- A digit's letter, as a cell. -/
def C8 (d : Nat) : Value := .int .u8 ((48 + d : Nat) : Int)
/-- A number's digits, so many at least, the least one first. -/
def padL (n least : Nat) : List Nat := digs n ++ List.replicate (least - (digs n).length) 0

theorem padL_step {m k least : Nat} (h : m ≠ 0 ∨ k < least) (hk : True) : digs m ++ List.replicate (least - k - (digs m).length) 0 = m % 10 :: (digs (m / 10) ++ List.replicate (least - (k + 1) - (digs (m / 10)).length) 0) := by
  by_cases hm : m = 0
  · subst hm
    have hk : k < least := by omega
    simp only [digs_zero, List.nil_append, List.length_nil, Nat.sub_zero, Nat.zero_mod, Nat.zero_div]
    rw [show least - k = (least - (k + 1)) + 1 from by omega, List.replicate_succ]
  · rw [digs_pos hm]
    simp only [List.cons_append, List.length_cons]
    rw [show least - k - ((digs (m / 10)).length + 1) = least - (k + 1) - (digs (m / 10)).length from by omega]

/-- The text of digits that stand the least one first. -/
def lettersOf (L : List Nat) : List UInt8 := L.map fun d => UInt8.ofNat (48 + d)
def dgText (n least : Nat) : List UInt8 := lettersOf (padL n least).reverse

theorem one8 (d : Nat) : ∀ u ∈ [C8 d], u.oneCell' = true := by
  intro u hu
  simp at hu
  subst hu
  rfl

/-- The front and the end of T, exchanged up to i. -/
def mir (T : List Nat) (i : Nat) : List Nat := (List.range T.length).map fun j => if j < i ∨ T.length - 1 - j < i then nth T (T.length - 1 - j) else nth T j
theorem mir_len (T : List Nat) (i : Nat) : (mir T i).length = T.length := by simp [mir]
theorem mir_nth {T : List Nat} {i j : Nat} (hj : j < T.length) : nth (mir T i) j = if j < i ∨ T.length - 1 - j < i then nth T (T.length - 1 - j) else nth T j := by
  simp [nth, mir, List.getD, hj]
theorem nth_get {T : List Nat} {j : Nat} (h : j < T.length) : nth T j = T[j] := by simp [nth, List.getD, h]
theorem mir_zero (T : List Nat) : mir T 0 = T := by
  apply List.ext_getElem
  · exact mir_len T 0
  · intro j h1 h2
    rw [← nth_get h1, mir_nth h2, if_neg (by omega), nth_get h2]
theorem mir_end {T : List Nat} {i k : Nat} (hik : i + k + 1 = T.length) (h : k ≤ i) : mir T i = T.reverse := by
  apply List.ext_getElem
  · simp [mir_len]
  · intro j h1 h2
    have hj : j < T.length := by simpa [mir_len] using h1
    rw [← nth_get h1, mir_nth hj]
    rw [List.getElem_reverse]
    by_cases hc : j < i ∨ T.length - 1 - j < i
    · rw [if_pos hc, nth_get (by omega)]
    · rw [if_neg hc, nth_get hj]
      congr 1
      omega
theorem mir_empty {T : List Nat} (h : T.length = 0) : mir T 0 = T.reverse := by
  have : T = [] := List.eq_nil_of_length_eq_zero h
  subst this
  rfl
theorem mir_step {T : List Nat} {i k : Nat} (hik : i + k + 1 = T.length) (h : i < k) : ((mir T i).set i (nth T k)).set k (nth T i) = mir T (i + 1) := by
  apply List.ext_getElem
  · simp [mir_len]
  · intro j h1 h2
    have hj : j < T.length := by simpa [mir_len] using h2
    rw [← nth_get h2, mir_nth hj, List.getElem_set]
    by_cases hk : k = j
    · subst hk
      rw [if_pos rfl, if_pos (by omega)]
      congr 1
      omega
    · rw [if_neg hk, List.getElem_set]
      by_cases hi : i = j
      · subst hi
        rw [if_pos rfl, if_pos (by omega)]
        congr 1
        omega
      · rw [if_neg hi, ← nth_get (by simpa [mir_len] using hj), mir_nth hj]
        by_cases hc : j < i ∨ T.length - 1 - j < i
        · rw [if_pos hc, if_pos (by omega)]
        · rw [if_neg hc, if_neg (by omega)]

theorem mapc_getD {A : List Nat} {j : Nat} (h : j < A.length) : (A.map fun d => ((48 + d : Nat) : Int)).getD j 0 = ((48 + nth A j : Nat) : Int) := by simp [nth, List.getD, h]
theorem c8_cell {L : List Nat} {j : Nat} (h : j < L.length) : (L.map C8)[j]? = some (.int .u8 ((48 + nth L j : Nat) : Int)) := by simp [nth, List.getD, h, C8]

theorem own_form {w : World} {base e size n : Nat} {v : Value} {xs : List Value} (h : w.ownsRow base e size v n xs) : ∃ p cap, v = .slice p n cap ∧ n ≤ cap ∧ cap ≤ 9223372036854775807 ∧ (0 < n → ∃ g, p = some ⟨g, 0, none⟩ ∧ base ≤ g ∧ g < w.heap.size) := by
  rcases h.2 with ⟨rfl, rfl⟩ | ⟨g, cap, cur, rfl, hg, hh, hn, hm, r⟩
  · exact ⟨none, 0, rfl, Nat.le_refl _, by omega, fun h => by omega⟩
  · refine ⟨_, cap, rfl, hn, hm, fun _ => ⟨g, rfl, hg, ?_⟩⟩
    rcases Nat.lt_or_ge g w.heap.size with h' | h'
    · exact h'
    · rw [Array.getElem?_eq_none h'] at hh; cases hh

end Go.Proofs.Ytpggidkcifnhjaa
