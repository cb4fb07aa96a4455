/- Contracts of package dec: unit, read. -/
import Derived.Test.YtfkfajgfkgeicaaDoorDecA
import Derived.Test.YtfkfajgfkgeicaaDoorShelf
import Derived.Lib.ConvBytes
set_option linter.unusedSimpArgs false
set_option linter.unusedVariables false

namespace Go.Proofs.YtfkfajgfkgeicaaDoor
open Go.RowKit

def U64 : Nat := 18446744073709551616
/-- One digit more of a number that is read. -/
def rdStep (o : Option Nat) (c : UInt8) : Option Nat :=
  match o with
  | none => none
  | some n => if 48 ≤ c.toNat ∧ c.toNat ≤ 57 ∧ n * 10 + (c.toNat - 48) < U64 then some (n * 10 + (c.toNat - 48)) else none
def rdFrom (o : Option Nat) (L : List UInt8) : Option Nat := L.foldl rdStep o
def rdV (L : List UInt8) : Nat := (rdFrom (some 0) L).getD 0
def rdOk (L : List UInt8) : Bool := (rdFrom (some 0) L).isSome && !L.isEmpty

theorem rdFrom_none (L : List UInt8) : rdFrom none L = none := by
  induction L with
  | nil => rfl
  | cons c L ih => simpa [rdFrom, rdStep] using ih

/-- A byte as a number. -/
def byt (L : List UInt8) (j : Nat) : Nat := (L.getD j 0).toNat
theorem byt_lt (L : List UInt8) (j : Nat) : byt L j < 256 := by unfold byt; exact (L.getD j 0).toNat_lt
theorem drop_byte (L : List UInt8) (j : Nat) (h : j < L.length) : L.drop j = UInt8.ofNat (byt L j) :: L.drop (j + 1) := by
  rw [List.drop_eq_getElem_cons h]
  congr 1
  simp [byt, List.getD, h]
theorem rd_yes (n c : Nat) (L : List UInt8) (hc : c < 256) (h1 : 48 ≤ c) (h2 : c ≤ 57) (h3 : n * 10 + (c - 48) < U64) : rdFrom (some n) (UInt8.ofNat c :: L) = rdFrom (some (n * 10 + (c - 48))) L := by
  have e : (UInt8.ofNat c).toNat = c := by simp; omega
  show rdFrom (rdStep (some n) _) L = _
  simp only [rdStep, e]
  rw [if_pos ⟨h1, h2, h3⟩]
theorem rd_no (n c : Nat) (L : List UInt8) (hc : c < 256) (h : ¬ (48 ≤ c ∧ c ≤ 57 ∧ n * 10 + (c - 48) < U64)) : rdFrom (some n) (UInt8.ofNat c :: L) = none := by
  have e : (UInt8.ofNat c).toNat = c := by simp; omega
  show rdFrom (rdStep (some n) _) L = _
  simp only [rdStep, e]
  rw [if_neg h, rdFrom_none]

end Go.Proofs.YtfkfajgfkgeicaaDoor
