/- Conditions: Count. -/
import Derived.Test.YtpggidkcifnhjaaDoorMatO
set_option linter.unusedSimpArgs false
set_option linter.unusedVariables false

namespace Go.Proofs.YtpggidkcifnhjaaDoor
open Go.RowKit

/-- A value: its kind, its number, its text; its cells. -/
structure Vl where
  k : Int
  n : Int
  t : ByteArray
def vlE (v : Vl) : List Value := [.int .i64 v.k, .int .i64 v.n, .string v.t]
theorem vlE_len (v : Vl) : (vlE v).length = 3 := rfl
def vlOk (v : Vl) : Prop := (v.k = 0 ∨ v.k = 1 ∨ v.k = 2 ∨ v.k = 3) ∧ v.t.size ≤ 900 ∧ -9223372036854775808 ≤ v.n ∧ v.n ≤ 9223372036854775807
/-- Of how many values a condition holds. -/
def cntB (q : Nat) (nb : Bool) (num : Int) (L : List Sg) (Vs : List Vl) : Nat := (Vs.filter fun v => isB q nb num L v.k v.n v.t).length

end Go.Proofs.YtpggidkcifnhjaaDoor
