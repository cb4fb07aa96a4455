/- Text of the document's answer: the walk. -/
import Derived.Test.YteknbdodihfbeaaDoorDecQ
set_option linter.unusedSimpArgs false
set_option linter.unusedVariables false

namespace Go.Proofs.YteknbdodihfbeaaDoor
open Go.RowKit

theorem refDigits_1 (p : Option Addr) (n cap : Nat) (x : Nat) (hn : n ≤ 200) (w : World) (hA : RdN w p n cap (digs x)) :
    Calls Tryd.prog 30 #[.slice p n cap, .int .i64 1] w fun e w' => e = .returned (.string ⟨(dgText x 1).toArray⟩) ∧ Below w.heap.size w w' := refDigits_any p n cap x 1 hn (by omega) w hA
theorem refDigits_6 (p : Option Addr) (n cap : Nat) (x : Nat) (hn : n ≤ 200) (w : World) (hA : RdN w p n cap (digs x)) :
    Calls Tryd.prog 30 #[.slice p n cap, .int .i64 6] w fun e w' => e = .returned (.string ⟨(dgText x 6).toArray⟩) ∧ Below w.heap.size w w' := refDigits_any p n cap x 6 hn (by omega) w hA

end Go.Proofs.YteknbdodihfbeaaDoor
