/- Tokens of a text, in plain lists of bytes: what the program and the document's answer both compute. -/
import Derived.Test.YtipnedgmmpdpjaaDoorBase
import Derived.Test.YtipnedgmmpdpjaaDoorShelf
set_option linter.unusedSimpArgs false
set_option linter.unusedVariables false
namespace Go.Proofs.YtipnedgmmpdpjaaDoor
open Go.RowKit

/-- The byte at a place; 0 behind the end. -/
def nx (L : List UInt8) (i : Nat) : Nat := (L.getD i 0).toNat
def dgB (c : Nat) : Bool := decide (48 ≤ c) && decide (c ≤ 57)
def upB (c : Nat) : Bool := decide (65 ≤ c) && decide (c ≤ 90)
def nmB (c : Nat) : Bool := upB c || dgB c
/-- How many bytes from a place on are of a kind. -/
def runN (p : Nat → Bool) (L : List UInt8) (i : Nat) : Nat := ((L.drop i).takeWhile fun c => p c.toNat).length

theorem nx_lt (L : List UInt8) (i : Nat) : nx L i < 256 := (L.getD i 0).toNat_lt
theorem nx_get {L : List UInt8} {i : Nat} (h : i < L.length) : nx L i = L[i].toNat := by simp [nx, List.getD, h]
theorem nx_end {L : List UInt8} {i : Nat} (h : L.length ≤ i) : nx L i = 0 := by simp [nx, List.getD, List.getElem?_eq_none h]
theorem nx_drop (L : List UInt8) (i j : Nat) : nx (L.drop i) j = nx L (i + j) := by simp [nx, List.getD, List.getElem?_drop]
theorem lt_of_nx {L : List UInt8} {i : Nat} (h : nx L i ≠ 0) : i < L.length := by
  rcases Nat.lt_or_ge i L.length with h' | h'
  · exact h'
  · exact absurd (nx_end h') h

theorem run_step {p : Nat → Bool} (h0 : p 0 = false) (L : List UInt8) (i : Nat) : runN p L i = if p (nx L i) then runN p L (i + 1) + 1 else 0 := by
  unfold runN
  rcases Nat.lt_or_ge i L.length with h | h
  · rw [List.drop_eq_getElem_cons h, List.takeWhile_cons, nx_get h]
    split <;> simp
  · rw [List.drop_of_length_le h, nx_end h, h0]
    simp
theorem run_le (p : Nat → Bool) (L : List UInt8) (i : Nat) : runN p L i ≤ L.length - i := by
  have := (List.takeWhile_sublist (fun c : UInt8 => p c.toNat) (l := L.drop i)).length_le
  simpa [runN] using this
theorem run_stop {p : Nat → Bool} (h0 : p 0 = false) (L : List UInt8) : ∀ (n i : Nat), n = L.length - i → p (nx L (i + runN p L i)) = false := by
  intro n
  induction n with
  | zero =>
    intro i hn
    rw [nx_end (by omega), h0]
  | succ n ih =>
    intro i hn
    by_cases hp : p (nx L i) = true
    · have := ih (i + 1) (by omega)
      rw [run_step h0 L i, if_pos hp]
      rw [show i + (runN p L (i + 1) + 1) = i + 1 + runN p L (i + 1) by omega]
      exact this
    · rw [run_step h0 L i, if_neg hp]
      simpa using hp
theorem run_end {p : Nat → Bool} (h0 : p 0 = false) (L : List UInt8) (i : Nat) : p (nx L (i + runN p L i)) = false := run_stop h0 L _ i rfl

/-- A number's length; 0: a point ends it. -/
def numN (L : List UInt8) (i : Nat) : Nat := if nx L (i + runN dgB L i) = 46 then (if runN dgB L (i + runN dgB L i + 1) = 0 then 0 else runN dgB L i + 1 + runN dgB L (i + runN dgB L i + 1)) else runN dgB L i

/-- The text behind a quote, and how many bytes it has with the quote at its end. -/
def quo : List UInt8 → Option (List UInt8 × Nat)
  | [] => none
  | [c] => if c.toNat = 34 then some ([], 1) else none
  | c :: d :: r => if c.toNat = 34 then (if d.toNat = 34 then (match quo r with | some (t, n) => some (c :: t, n + 2) | none => none) else some ([], 1)) else (match quo (d :: r) with | some (t, n) => some (c :: t, n + 1) | none => none)

def sREF : List UInt8 := [35, 82, 69, 70, 33]
def sgs : List (List UInt8) := [[60, 62], [60, 61], [62, 61], [60], [62], [61], [43], [45], [42], [47], [38], [40], [41], [44], [58]]
/-- The sign at a text's beginning; empty: there is none. -/
def sgn (l : List UInt8) : List UInt8 := (sgs.find? fun x => Lib.hasPrefix l x).getD []

/-- A token: kind, text, place. -/
abbrev Tk := Int × List UInt8 × Nat
/-- The token at a place, and how many bytes it has. -/
def tok (L : List UInt8) (i : Nat) : Option (Int × List UInt8 × Nat) :=
  if dgB (nx L i) then (if numN L i = 0 then none else some (1, (L.drop i).take (numN L i), numN L i))
  else if upB (nx L i) then some (3, (L.drop i).take (runN nmB L i), runN nmB L i)
  else if nx L i = 34 then (match quo (L.drop (i + 1)) with | some (t, n) => some (2, t, n + 1) | none => none)
  else if Lib.hasPrefix (L.drop i) sREF then some (5, sREF, 5)
  else if sgn (L.drop i) = [] then none else some (4, sgn (L.drop i), (sgn (L.drop i)).length)

def splF (L : List UInt8) : Nat → Nat → Option (List Tk) × Nat
  | 0, _ => (some [], 0)
  | f + 1, i =>
    if L.length ≤ i then (some [], 0)
    else if nx L i = 32 then splF L f (i + 1)
    else match tok L i with
      | none => (none, i)
      | some (k, t, n) => match splF L f (i + n) with
        | (some r, x) => (some ((k, t, i) :: r), x)
        | (none, x) => (none, x)
/-- The tokens from a place on, or where there is none. -/
def spl (L : List UInt8) (i : Nat) : Option (List Tk) × Nat := splF L (L.length + 1 - i) i

theorem quo_pos : ∀ (l : List UInt8) (t : List UInt8) (n : Nat), quo l = some (t, n) → 1 ≤ n ∧ n ≤ l.length ∧ t.length + 1 ≤ n
  | [], t, n, h => by simp [quo] at h
  | [c], t, n, h => by
    simp only [quo] at h
    split at h
    · cases h; simp
    · cases h
  | c :: d :: r, t, n, h => by
    have i1 := quo_pos r
    have i2 := quo_pos (d :: r)
    simp only [quo] at h
    split at h
    · split at h
      · split at h
        · rename_i t' n' e
          cases h
          have := i1 t' n' e
          simp
          omega
        · cases h
      · cases h
        simp
    · split at h
      · rename_i t' n' e
        cases h
        have := i2 t' n' e
        simp at this ⊢
        omega
      · cases h
theorem hasPrefix_len {l p : List UInt8} (h : Lib.hasPrefix l p = true) : p.length ≤ l.length := by
  unfold Lib.hasPrefix at h
  exact (List.isPrefixOf_iff_prefix.1 h).length_le
theorem sgn_prefix (l : List UInt8) (h : sgn l ≠ []) : Lib.hasPrefix l (sgn l) = true := by
  unfold sgn at h ⊢
  cases e : sgs.find? fun x => Lib.hasPrefix l x with
  | none => rw [e] at h; exact absurd rfl h
  | some x => have := List.find?_some e; simpa using this
theorem sgn_len (l : List UInt8) : (sgn l).length ≤ 2 := by
  unfold sgn
  cases e : sgs.find? fun x => Lib.hasPrefix l x with
  | none => simp
  | some x =>
    have := List.mem_of_find?_eq_some e
    simp only [sgs, List.mem_cons, List.not_mem_nil, or_false] at this
    rcases this with rfl | rfl | rfl | rfl | rfl | rfl | rfl | rfl | rfl | rfl | rfl | rfl | rfl | rfl | rfl
    all_goals simp
theorem tok_pos {L : List UInt8} {i : Nat} (hi : i < L.length) {k : Int} {t : List UInt8} {n : Nat} (h : tok L i = some (k, t, n)) : 1 ≤ n ∧ i + n ≤ L.length ∧ t.length ≤ n := by
  unfold tok at h
  split at h
  · split at h
    · cases h
    · rename_i h0
      cases h
      refine ⟨by omega, ?_, by simp; omega⟩
      unfold numN at h0 ⊢
      have r1 := run_le dgB L i
      have r2 := run_le dgB L (i + runN dgB L i + 1)
      split
      · rename_i e
        have := lt_of_nx (L := L) (i := i + runN dgB L i) (by omega)
        split <;> omega
      · omega
  · split at h
    · rename_i h0
      cases h
      have r1 := run_le nmB L i
      have r2 := run_step (p := nmB) (by decide) L i
      rw [if_pos (by simp [nmB, h0])] at r2
      exact ⟨by omega, by omega, by simp; omega⟩
    · split at h
      · split at h
        · rename_i t' n' e
          cases h
          have := quo_pos _ _ _ e
          simp at this
          omega
        · cases h
      · split at h
        · rename_i h0
          cases h
          have := hasPrefix_len h0
          simp [sREF] at this ⊢
          omega
        · split at h
          · cases h
          · rename_i h0
            cases h
            have := hasPrefix_len (sgn_prefix _ h0)
            have h1 : 1 ≤ (sgn (L.drop i)).length := by
              cases hs : sgn (L.drop i) with
              | nil => exact absurd hs h0
              | cons => simp
            simp at this
            omega
theorem splF_more (L : List UInt8) : ∀ (f g i : Nat), L.length + 1 - i ≤ f → L.length + 1 - i ≤ g → splF L f i = splF L g i := by
  intro f
  induction f with
  | zero =>
    intro g i hf hg
    cases g with
    | zero => rfl
    | succ g => rw [splF, splF, if_pos (by omega)]
  | succ f ih =>
    intro g i hf hg
    cases g with
    | zero => rw [splF, splF, if_pos (by omega)]
    | succ g =>
      rw [splF, splF]
      split
      · rfl
      · rename_i hl
        rw [ih g (i + 1) (by omega) (by omega)]
        split
        · rfl
        · cases ht : tok L i with
          | none => rfl
          | some x =>
            obtain ⟨k, t, n⟩ := x
            have := (tok_pos (by omega) ht).1
            simp only []
            rw [ih g (i + n) (by omega) (by omega)]
theorem spl_step (L : List UInt8) (i : Nat) (h : i < L.length) : spl L i = if nx L i = 32 then spl L (i + 1)
    else match tok L i with
      | none => (none, i)
      | some (k, t, n) => match spl L (i + n) with
        | (some r, x) => (some ((k, t, i) :: r), x)
        | (none, x) => (none, x) := by
  conv => lhs; unfold spl
  rw [show L.length + 1 - i = (L.length - i) + 1 by omega, splF, if_neg (by omega)]
  unfold spl
  rw [splF_more L (L.length - i) (L.length + 1 - (i + 1)) (i + 1) (by omega) (by omega)]
  split
  · rfl
  · cases ht : tok L i with
    | none => rfl
    | some x =>
      obtain ⟨k, t, n⟩ := x
      have := (tok_pos h ht).1
      simp only []
      rw [splF_more L (L.length - i) (L.length + 1 - (i + n)) (i + n) (by omega) (by omega)]
theorem spl_end (L : List UInt8) (i : Nat) (h : L.length ≤ i) : spl L i = (some [], 0) := by
  unfold spl
  cases e : L.length + 1 - i with
  | zero => rfl
  | succ f => rw [splF, if_pos h]
end Go.Proofs.YtipnedgmmpdpjaaDoor
