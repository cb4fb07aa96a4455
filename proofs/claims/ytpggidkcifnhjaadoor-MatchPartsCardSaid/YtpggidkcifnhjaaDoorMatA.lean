/- Conditions on values: the plain law of patterns. -/
import Derived.Test.YtpggidkcifnhjaaDoorRow
import Derived.Test.YtpggidkcifnhjaaDoorShelf
set_option linter.unusedSimpArgs false
set_option linter.unusedVariables false

namespace Go.Proofs.YtpggidkcifnhjaaDoor
open Go.RowKit

/-- A byte as a number. -/
def btN (L : List UInt8) (j : Nat) : Nat := (L.getD j 0).toNat
theorem btN_lt (L : List UInt8) (j : Nat) : btN L j < 256 := by unfold btN; exact (L.getD j 0).toNat_lt
theorem btN_str (s : ByteArray) (i : Nat) (h : i < s.size) : ((s[i].toNat : Nat) : Int) = (btN s.data.toList i : Int) := by
  have hl : i < s.data.toList.length := by rw [← Lib.size_eq]; exact h
  unfold btN
  rw [List.getD_eq_getElem?_getD, List.getElem?_eq_getElem hl]
  rfl
theorem btN_get {L : List UInt8} {i : Nat} (h : i < L.length) : btN L i = L[i].toNat := by simp [btN, List.getD, h]

/-- A part of a pattern: its kind (0 a byte, 1 any one, 2 any ones), and its byte. -/
abbrev Sg := Nat × Nat
def lowN (c : Nat) : Nat := if 65 ≤ c ∧ c ≤ 90 then c + 32 else c
theorem lowN_lt {c : Nat} (h : c < 256) : lowN c < 256 := by unfold lowN; split <;> omega
def low (x : Sg) : Sg := (x.1, lowN x.2)
/-- The parts that a text's bytes from a place on are. -/
def sgF (L : List UInt8) : Nat → Nat → List Sg
  | 0, _ => []
  | f + 1, i => if i < L.length then
      (if btN L i = 126 ∧ (i + 1 < L.length ∧ (btN L (i + 1) = 63 ∨ btN L (i + 1) = 42 ∨ btN L (i + 1) = 126)) then (0, btN L (i + 1)) :: sgF L f (i + 2)
       else (if btN L i = 63 then (1, 0) else if btN L i = 42 then (2, 0) else (0, btN L i)) :: sgF L f (i + 1))
    else []
def sgs (L : List UInt8) : List Sg := sgF L L.length 0
theorem sgF_end {L : List UInt8} {f i : Nat} (h : L.length ≤ i) : sgF L f i = [] := by
  cases f with
  | zero => rfl
  | succ f => rw [sgF, if_neg (by omega)]
theorem sgF_fuel (L : List UInt8) : ∀ f g i, L.length ≤ i + f → L.length ≤ i + g → sgF L f i = sgF L g i
  | 0, g, i, hf, _ => by rw [sgF_end (by omega), sgF_end (by omega)]
  | f + 1, 0, i, _, hg => by rw [sgF_end (by omega), sgF_end (by omega)]
  | f + 1, g + 1, i, hf, hg => by
    rw [sgF, sgF]
    split
    · split
      · rw [sgF_fuel L f g (i + 2) (by omega) (by omega)]
      · rw [sgF_fuel L f g (i + 1) (by omega) (by omega)]
    · rfl
/-- From a place on, whatever fuel. -/
def sgT (L : List UInt8) (i : Nat) : List Sg := sgF L (L.length - i) i
theorem sgT_end {L : List UInt8} {i : Nat} (h : L.length ≤ i) : sgT L i = [] := sgF_end h
theorem sgT_tilde {L : List UInt8} {i : Nat} (h : btN L i = 126) (h1 : i + 1 < L.length) (h2 : btN L (i + 1) = 63 ∨ btN L (i + 1) = 42 ∨ btN L (i + 1) = 126) : sgT L i = (0, btN L (i + 1)) :: sgT L (i + 2) := by
  unfold sgT
  rw [show L.length - i = (L.length - i - 1) + 1 from by omega, sgF, if_pos (by omega), if_pos ⟨h, h1, h2⟩, sgF_fuel L _ (L.length - (i + 2)) (i + 2) (by omega) (by omega)]
theorem sgT_one {L : List UInt8} {i : Nat} (hi : i < L.length) (h : ¬ (btN L i = 126 ∧ (i + 1 < L.length ∧ (btN L (i + 1) = 63 ∨ btN L (i + 1) = 42 ∨ btN L (i + 1) = 126)))) : sgT L i = (if btN L i = 63 then (1, 0) else if btN L i = 42 then (2, 0) else (0, btN L i)) :: sgT L (i + 1) := by
  unfold sgT
  rw [show L.length - i = (L.length - i - 1) + 1 from by omega, sgF, if_pos hi, if_neg h, sgF_fuel L _ (L.length - (i + 1)) (i + 1) (by omega) (by omega)]
theorem sgF_len (L : List UInt8) : ∀ f i, (sgF L f i).length ≤ f
  | 0, i => Nat.le_refl _
  | f + 1, i => by
    rw [sgF]
    split
    · split
      · rw [List.length_cons]; have := sgF_len L f (i + 2); omega
      · rw [List.length_cons]; have := sgF_len L f (i + 1); omega
    · simp
theorem sgs_len (L : List UInt8) : (sgs L).length ≤ L.length := sgF_len L _ _
theorem sgF_ok (L : List UInt8) : ∀ f i, ∀ x ∈ sgF L f i, x.1 ≤ 2 ∧ x.2 < 256
  | 0, i, x, h => by cases h
  | f + 1, i, x, h => by
    rw [sgF] at h
    split at h
    · split at h
      · rcases List.mem_cons.1 h with rfl | h
        · exact ⟨Nat.zero_le _, btN_lt _ _⟩
        · exact sgF_ok L f _ x h
      · rcases List.mem_cons.1 h with h | h
        · have := btN_lt L i
          split at h
          · subst h; decide
          · split at h
            · subst h; decide
            · subst h; exact ⟨Nat.zero_le _, this⟩
        · exact sgF_ok L f _ x h
    · cases h
theorem sgs_ok (L : List UInt8) : ∀ x ∈ sgs L, x.1 ≤ 2 ∧ x.2 < 256 := sgF_ok L _ _

/-! Do the first i signs stand for the first k bytes? -/
section
variable (p : Nat → Sg) (s : Nat → Nat)
def rowT (r : Nat → Bool) (x : Sg) : Nat → Bool
  | 0 => decide (x.1 = 2) && r 0
  | k + 1 => if x.1 = 2 then r (k + 1) || rowT r x k else r k && (decide (x.1 = 1) || decide (x.2 = s k))
def TT : Nat → Nat → Bool
  | 0 => fun k => decide (k = 0)
  | i + 1 => rowT s (TT i) (p i)
theorem TT_s0 (i : Nat) : TT p s (i + 1) 0 = (decide ((p i).1 = 2) && TT p s i 0) := rfl
theorem TT_ss (i k : Nat) : TT p s (i + 1) (k + 1) = if (p i).1 = 2 then TT p s i (k + 1) || TT p s (i + 1) k else TT p s i k && (decide ((p i).1 = 1) || decide ((p i).2 = s k)) := rfl
/-- What the program keeps: the sign any ones stands already where it begins. -/
def PP (i k : Nat) : Bool := if (p i).1 = 2 then TT p s (i + 1) k else TT p s i k
/-- The next row, when i signs have been looked at. -/
def NX (k i : Nat) : Nat → Bool
  | 0 => decide (0 < i) && (decide ((p 0).1 = 2) && PP p s 0 k)
  | j + 1 => (decide (j + 1 < i) && (decide ((p (j + 1)).1 = 2) && PP p s (j + 1) k)) || (decide (j < i) && (PP p s j k && (!decide ((p j).1 = 2) && (decide ((p j).1 = 1) || decide ((p j).2 = s k)))))
/-- A row opened. -/
def OP (f : Nat → Bool) : Nat → Bool
  | 0 => f 0
  | j + 1 => f (j + 1) || (OP f j && decide ((p j).1 = 2))
theorem PP_0 (j : Nat) : OP p (fun j => decide (j = 0)) j = PP p s j 0 := by
  have h : ∀ j, OP p (fun j => decide (j = 0)) j = TT p s j 0 := by
    intro j
    induction j with
    | zero => rfl
    | succ j ih => rw [OP, ih, TT_s0]; simp [Bool.and_comm]
  rw [h]
  unfold PP
  split
  · rename_i h2
    rw [TT_s0, decide_eq_true h2]
    rfl
  · rfl
theorem PP_s (n k : Nat) : ∀ j, j ≤ n → (p n).1 ≠ 2 → OP p (NX p s k n) j = PP p s j (k + 1) := by
  intro j
  induction j with
  | zero =>
    intro _ hn
    unfold OP NX
    unfold PP
    by_cases h2 : (p 0).1 = 2
    · have hn0 : 0 < n := by
        rcases Nat.eq_zero_or_pos n with h | h
        · subst h; exact absurd h2 hn
        · exact h
      rw [if_pos h2, if_pos h2, decide_eq_true hn0, decide_eq_true h2, TT_ss, if_pos h2]
      simp [TT]
    · rw [if_neg h2, decide_eq_false h2]
      simp only [Bool.false_and, Bool.and_false]
      rw [if_neg h2]
      rfl
  | succ j ih =>
    intro hj hn
    have ih' := ih (by omega) hn
    rw [OP, ih', NX]
    rw [decide_eq_true (show j < n by omega)]
    by_cases hp : (p j).1 = 2
    · have e1 : PP p s j (k + 1) = TT p s (j + 1) (k + 1) := by unfold PP; rw [if_pos hp]
      rw [e1, decide_eq_true hp]
      by_cases h2 : (p (j + 1)).1 = 2
      · have hlt : j + 1 < n := by
          rcases Nat.lt_or_ge (j + 1) n with h | h
          · exact h
          · exfalso; apply hn; rw [show n = j + 1 from by omega]; exact h2
        have e2 : PP p s (j + 1) (k + 1) = TT p s (j + 2) (k + 1) := by unfold PP; rw [if_pos h2]
        have e3 : PP p s (j + 1) k = TT p s (j + 2) k := by unfold PP; rw [if_pos h2]
        rw [e2, e3, decide_eq_true h2, decide_eq_true hlt, TT_ss p s (j + 1), if_pos h2]
        cases TT p s (j + 1) (k + 1) <;> cases TT p s (j + 1 + 1) k <;> simp
      · have e2 : PP p s (j + 1) (k + 1) = TT p s (j + 1) (k + 1) := by unfold PP; rw [if_neg h2]
        rw [e2, decide_eq_false h2]
        simp
    · have e0 : PP p s j k = TT p s j k := by unfold PP; rw [if_neg hp]
      have e1 : TT p s (j + 1) (k + 1) = (TT p s j k && (decide ((p j).1 = 1) || decide ((p j).2 = s k))) := by rw [TT_ss, if_neg hp]
      rw [e0, decide_eq_false hp]
      by_cases h2 : (p (j + 1)).1 = 2
      · have hlt : j + 1 < n := by
          rcases Nat.lt_or_ge (j + 1) n with h | h
          · exact h
          · exfalso; apply hn; rw [show n = j + 1 from by omega]; exact h2
        have e2 : PP p s (j + 1) (k + 1) = TT p s (j + 2) (k + 1) := by unfold PP; rw [if_pos h2]
        have e3 : PP p s (j + 1) k = TT p s (j + 2) k := by unfold PP; rw [if_pos h2]
        rw [e2, e3, decide_eq_true h2, decide_eq_true hlt, TT_ss p s (j + 1), if_pos h2, e1]
        generalize TT p s (j + 2) k = a
        generalize TT p s j k = b
        generalize decide ((p j).1 = 1) = c
        generalize decide ((p j).2 = s k) = d
        generalize PP p s j (k + 1) = e
        cases a <;> cases b <;> cases c <;> cases d <;> cases e <;> rfl
      · have e2 : PP p s (j + 1) (k + 1) = TT p s (j + 1) (k + 1) := by unfold PP; rw [if_neg h2]
        rw [e2, decide_eq_false h2, e1]
        simp
theorem PP_end {n k : Nat} (hn : (p n).1 ≠ 2) : PP p s n k = TT p s n k := by unfold PP; rw [if_neg hn]
end
end Go.Proofs.YtpggidkcifnhjaaDoor
