/- CSV: the walk of CsvWrites at rows that came in. -/
import Derived.Test.YthgeajmggbakbaaDoorCsvT
import Derived.Test.YthgeajmggbakbaaDoorCsvL
set_option linter.unusedSimpArgs false
set_option linter.unusedVariables false
namespace Go.Proofs.YthgeajmggbakbaaDoor
open Go.RowKit

theorem writes_of {H : Type} {enc : TypeId × Value → H} {base : Nat} {spare : Nat → Bool} {held : Bool} {f1 : Nat} {v1 : Value} {x1 : DataW H × List MemPlace} (w : World) (hsh : w.ShapedOpen Tryd.prog)
    (h1 : DataW.trod enc Tryd.prog w base spare held f1 24 [v1] = some x1) (hb : Rows.uptoBulk x1.1 ≤ 1048576) :
    Calls Tryd.prog 5 #[v1] w fun e w' => e = .returned (.bool true) ∧ Below w.heap.size w w' := by
  obtain ⟨p, n, cap, Ls, rfl, hc, hn, hR, hz⟩ := open_rows h1
  exact writes_walk p n cap Ls w hsh hR hn (Nat.le_trans hz hb)
end Go.Proofs.YthgeajmggbakbaaDoor
