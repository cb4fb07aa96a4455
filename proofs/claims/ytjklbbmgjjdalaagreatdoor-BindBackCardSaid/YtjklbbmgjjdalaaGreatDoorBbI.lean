/- Contracts of package dec: part, sign, Add, Sub, Neg. Contract of dec.Parse. Contract of dec.digits. Contracts of dec.Text, and of Div where the number of two words has one; the law's helper awake. What the document's Parse reads, as a plain function, and that it is what Parse reads; and that a number's text reads as the number. -/
import Derived.Test.YtjklbbmgjjdalaaGreatDoorBbH
import Derived.Test.YtjklbbmgjjdalaaGreatDoorBbA
import Derived.Lib.ConvBytes
import Derived.Deep.DeepCutAuto
import Derived.Laws.BytesArg
import Derived.Lib.TrimByte
set_option linter.unusedSimpArgs false
set_option linter.unusedVariables false
namespace Go.Proofs.YtjklbbmgjjdalaaGreatDoor
open Go.RowKit
def sv (mi : Bool) (x : Nat) : Int := if mi then -(x : Int) else (x : Int)
def inR (z : Int) : Bool := decide (-9223372036854775808 ≤ z) && decide (z ≤ 9223372036854775807)
def okV (z : Int) : Int := if inR z then z else 0
def okE (z : Int) : Int := if inR z then 0 else 31
theorem toBad_is (mi : Bool) (x : Nat) : toBad mi x = !inR (sv mi x) := by
  unfold toBad inR sv M63
  cases mi
  · simp only [Bool.not_false, Bool.true_and, Bool.false_eq_true, if_false]
    rw [Bool.eq_iff_iff]
    simp
    omega
  · simp only [Bool.not_true, Bool.false_and, Bool.or_false, if_true]
    rw [Bool.eq_iff_iff]
    simp
    omega
theorem toV_is (mi : Bool) (x : Nat) : toV mi x = okV (sv mi x) := by
  unfold toV okV
  rw [toBad_is]
  cases inR (sv mi x) <;> simp [sv]
theorem toE_is (mi : Bool) (x : Nat) : toE mi x = okE (sv mi x) := by
  unfold toE okE
  rw [toBad_is]
  cases inR (sv mi x) <;> simp
end Go.Proofs.YtjklbbmgjjdalaaGreatDoor
namespace Go.Proofs.YtjklbbmgjjdalaaGreatDoor
open Go.RowKit
def prsMi (L : List UInt8) : Bool := Lib.hasPrefix L [45]
theorem trimPrefix_len (s p : List UInt8) : (Lib.trimPrefix s p).length ≤ s.length := by
  unfold Lib.trimPrefix
  split <;> simp
end Go.Proofs.YtjklbbmgjjdalaaGreatDoor
namespace Go.Proofs.YtjklbbmgjjdalaaGreatDoor
open Go.RowKit
def padL (n least : Nat) : List Nat := digs n ++ List.replicate (least - (digs n).length) 0
def lettersOf (L : List Nat) : List UInt8 := L.map fun d => UInt8.ofNat (48 + d)
def dgText (n least : Nat) : List UInt8 := lettersOf (padL n least).reverse
end Go.Proofs.YtjklbbmgjjdalaaGreatDoor
namespace Go.Proofs.YtjklbbmgjjdalaaGreatDoor
open Go.RowKit
def txt (d : Int) : List UInt8 :=
  (if d < 0 then [45] else []) ++ dgText (d.natAbs / 1000000) 1 ++ (if 0 < d.natAbs % 1000000 then 46 :: Lib.trimRightB (dgText (d.natAbs % 1000000) 6) 48 else [])
theorem cat2 (X Y : List UInt8) : (⟨X.toArray⟩ : ByteArray) ++ ⟨Y.toArray⟩ = ⟨(X ++ Y).toArray⟩ := by
  apply ByteArray.ext
  simp
end Go.Proofs.YtjklbbmgjjdalaaGreatDoor
namespace Go.Proofs.YtjklbbmgjjdalaaGreatDoor
open Go.RowKit
def rp : List UInt8 → Nat → Int → Nat → Option (Nat × Int × Nat)
  | [], n, p, k => some (n, p, k)
  | c :: r, n, p, k => if c.toNat = 46 ∧ p < 0 then rp r n 0 k else if 48 ≤ c.toNat ∧ c.toNat ≤ 57 then (if p < 0 then rp r (c.toNat - 48 + 10 * n) p (k + 1) else rp r (c.toNat - 48 + 10 * n) (p + 1) k) else none
def rpOk (o : Option (Nat × Int × Nat)) : Bool := match o with | none => false | some (_, p, k) => !decide (k = 0) && (!decide (p = 0) && decide (p ≤ 6))
def rpN (o : Option (Nat × Int × Nat)) : Nat := match o with | none => 0 | some (n, p, _) => n * 10 ^ (6 - (max p 0).toNat)
def rprsOk (L : List UInt8) : Bool := rpOk (rp (Lib.trimPrefix L [45]) 0 (-1) 0) && inR (sv (prsMi L) (rpN (rp (Lib.trimPrefix L [45]) 0 (-1) 0)))
def rprsV (L : List UInt8) : Int := if rprsOk L then sv (prsMi L) (rpN (rp (Lib.trimPrefix L [45]) 0 (-1) 0)) else 0
end Go.Proofs.YtjklbbmgjjdalaaGreatDoor
