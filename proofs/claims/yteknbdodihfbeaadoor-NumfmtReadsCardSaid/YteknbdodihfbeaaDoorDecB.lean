/- Contracts of package dec: unit, read. -/
import Derived.Test.YteknbdodihfbeaaDoorDecA
import Derived.Test.YteknbdodihfbeaaDoorShelf
import Derived.Lib.ConvBytes
set_option linter.unusedSimpArgs false
set_option linter.unusedVariables false

namespace Go.Proofs.YteknbdodihfbeaaDoor
open Go.RowKit

def U64 : Nat := 18446744073709551616
/-- One digit more of a number that is read. -/
def rdStep (o : Option Nat) (c : UInt8) : Option Nat :=
  match o with
  | none => none
  | some n => if 48 ≤ c.toNat ∧ c.toNat ≤ 57 ∧ n * 10 + (c.toNat - 48) < U64 then some (n * 10 + (c.toNat - 48)) else none
def rdFrom (o : Option Nat) (L : List UInt8) : Option Nat := L.foldl rdStep o
def rdV (L : List UInt8) : Nat := (rdFrom (some 0) L).getD 0
def rdOk (L : List UInt8) : Bool := (rdFrom (some 0) L).isSome && !L.isEmpty

theorem rdFrom_none (L : List UInt8) : rdFrom none L = none := by
  induction L with
  | nil => rfl
  | cons c L ih => simpa [rdFrom, rdStep] using ih

/-- A byte as a number. -/
def byt (L : List UInt8) (j : Nat) : Nat := (L.getD j 0).toNat
theorem byt_lt (L : List UInt8) (j : Nat) : byt L j < 256 := by unfold byt; exact (L.getD j 0).toNat_lt
theorem drop_byte (L : List UInt8) (j : Nat) (h : j < L.length) : L.drop j = UInt8.ofNat (byt L j) :: L.drop (j + 1) := by
  rw [List.drop_eq_getElem_cons h]
  congr 1
  simp [byt, List.getD, h]
theorem rd_yes (n c : Nat) (L : List UInt8) (hc : c < 256) (h1 : 48 ≤ c) (h2 : c ≤ 57) (h3 : n * 10 + (c - 48) < U64) : rdFrom (some n) (UInt8.ofNat c :: L) = rdFrom (some (n * 10 + (c - 48))) L := by
  have e : (UInt8.ofNat c).toNat = c := by simp; omega
  show rdFrom (rdStep (some n) _) L = _
  simp only [rdStep, e]
  rw [if_pos ⟨h1, h2, h3⟩]
theorem rd_no (n c : Nat) (L : List UInt8) (hc : c < 256) (h : ¬ (48 ≤ c ∧ c ≤ 57 ∧ n * 10 + (c - 48) < U64)) : rdFrom (some n) (UInt8.ofNat c :: L) = none := by
  have e : (UInt8.ofNat c).toNat = c := by simp; omega
  show rdFrom (rdStep (some n) _) L = _
  simp only [rdStep, e]
  rw [if_neg h, rdFrom_none]

theorem mul64_any (x y hi lo : Nat) (yi : Int) (hyi : yi = (y : Int)) (hx : x < U64) (hy : y < U64) (h : x * y = hi * U64 + lo) (hlo : lo < U64) (w : World) :
    Calls Tryd.prog 37 #[.int .u64 x, .int .u64 yi] w fun e w' => e = .returned (.tuple #[.int .u64 (hi : Int), .int .u64 (lo : Int)]) ∧ w = w' := by
  subst hyi
  unfold U64 at hx hy h hlo
  have e1 : x * y / 18446744073709551616 = hi := by rw [h, Nat.add_comm, Nat.add_mul_div_right _ _ (by omega), Nat.div_eq_of_lt hlo]; omega
  have e2 : x * y % 18446744073709551616 = lo := by rw [h, Nat.add_comm, Nat.add_mul_mod_self_right, Nat.mod_eq_of_lt hlo]
  have := Tryd.bits_Mul64 x y hx hy w
  rw [e1, e2] at this
  exact this.mono fun e w' ⟨h1, h2⟩ => ⟨h1, h2.symm⟩

set_option maxRecDepth 100000 in
set_option maxHeartbeats 1000000 in
theorem unit_any (k : Int) (w : World) : Calls Tryd.prog 40 #[.int .i64 k] w fun e w' => e = .returned (.int .u64 ((10 ^ (6 - (min (max k 0) 6)).toNat : Nat) : Int)) ∧ w = w' := by
  obtain ⟨m, hm, hm6⟩ : ∃ m : Nat, (6 - (min (max k 0) 6)).toNat = m ∧ m ≤ 6 := ⟨_, rfl, by omega⟩
  rw [hm]
  have hk : (6 : Int) - min (max k 0) 6 = (m : Int) := by omega
  clear hm
  go_enter Tryd.func40, Tryd.ntmps40
  go_wp2_with fail
  go_loopg [3, 8] m (fun g v3 v8 wr => wr = w ∧ ∃ i u : Nat, i + g = m ∧ v8 = .int .i64 i ∧ v3 = .int .u64 u ∧ u = 10 ^ i)
  case atStart => exact ⟨rfl, 0, 1, by omega, rfl, rfl, rfl⟩
  case round =>
    obtain ⟨rfl, i, u, hi, rfl, rfl, hu⟩ := hrel
    have HU := Lib.hid hu
    have hub : i < 6 → u ≤ 100000 := fun h => by
      rw [hu]
      exact Nat.le_trans (Nat.pow_le_pow_right (by omega) (by omega : i ≤ 5)) (by decide)
    clear hu
    by_cases hgo : i < m
    · have hub' := hub (by omega)
      clear hub
      go_wp2
      go_roundg (gk - 1)
      case measure => omega
      case rel => exact ⟨rfl, i + 1, u * 10, by omega, by go_num, by go_num, by rw [HU.out, Nat.pow_succ]⟩
    · have e : i = m := by omega
      subst e
      clear hub
      go_wp2
      go_ret
      exact ⟨by rw [← HU.out]; rfl, rfl⟩

end Go.Proofs.YteknbdodihfbeaaDoor
