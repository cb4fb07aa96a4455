/- Contract of quadrilleref01.To. -/
import Derived.Test.YtfkfajgfkgeicaaDoorRefG
set_option linter.unusedSimpArgs false
set_option linter.unusedVariables false

namespace Go.Proofs.YtfkfajgfkgeicaaDoor
open Go.RowKit

def M63 : Nat := 9223372036854775808
/-- Is a number with a sign too great for an int64? -/
def toBad (mi : Bool) (x : Nat) : Bool := decide (M63 < x) || (!mi && !decide (x < M63))
def toV (mi : Bool) (x : Nat) : Int := if toBad mi x then 0 else if mi then -(x : Int) else (x : Int)
def toE (mi : Bool) (x : Nat) : Int := if toBad mi x then 31 else 0

theorem from_most (w : World) : Calls Tryd.prog 42 #[.int .i64 (-9223372036854775808)] w (RetI true M63 w) := by
  have h := from_any (-9223372036854775808) (by omega) (by omega) w
  have e1 : decide ((-9223372036854775808 : Int) < 0) = true := by decide
  have e2 : (-9223372036854775808 : Int).natAbs = M63 := rfl
  rw [e1, e2] at h
  exact h

theorem field_N (m : Bool) (p : Option Addr) (n c : Nat) (w : World) : (Instr.field 70 (.agg #[.bool m, .slice p n c]) 1).run Tryd.prog w = .ok (.slice p n c) w := by kernel_rfl
theorem dval_drop_le (L : List Nat) (k : Nat) : dval (L.drop k) ≤ dval L := by
  rcases take_le L k with h | h
  · have h1 : dval (L.drop k) ≤ 10 ^ k * dval (L.drop k) := Nat.le_mul_of_pos_left _ (Nat.pow_pos (by omega))
    omega
  · rw [List.drop_of_length_le (by omega)]
    exact Nat.zero_le _

end Go.Proofs.YtfkfajgfkgeicaaDoor
