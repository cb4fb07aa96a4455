/- Contract of quadrilleref01.Sum. -/
import Derived.Test.YteknbdodihfbeaaDoorRefF
set_option linter.unusedSimpArgs false
set_option linter.unusedVariables false

namespace Go.Proofs.YteknbdodihfbeaaDoor
open Go.RowKit
attribute [local go_sem ↓] Go.wp_at_zero Go.wp_at_succ

/-- The sign and the size of a sum. -/
def sumM (ma : Bool) (a : Nat) (mb : Bool) (b : Nat) : Bool := if ma = mb then ma else if a < b then mb else ma
def sumN (ma : Bool) (a : Nat) (mb : Bool) (b : Nat) : Nat := if ma = mb then a + b else if a < b then b - a else a - b

end Go.Proofs.YteknbdodihfbeaaDoor
