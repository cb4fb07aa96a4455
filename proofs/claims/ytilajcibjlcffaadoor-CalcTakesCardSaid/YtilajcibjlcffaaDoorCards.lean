/-
  DERIVED. GIVEN WITH THE SEED: THE CARDS: each row of YtilajcibjlcffaaDoorRows.lean that lists a variable, with what it lists TIED to the program's text (the seventh form; the later family's looks); each row that meets fmt, with fmt's text TOLD by the authors' own Lean function (tested against real Go, not proved from fmt's source: count such statements apart). THE CARD IS WHAT COUNTS. Prove the row's statement (the work); the ties are given (YtilajcibjlcffaaDoorTie.lean); close each card by the builder's one call (the guide's Derived/Test/ToyasCard.lean, 'card_holds'). Laid BY PROGRAM, IN A SANDBOX (cutbox-door.mjs). By AI agents, Wed Nov 11 2026. No macro, syntax, notation, axiom, sorry.
-/
import Derived.Test.YtilajcibjlcffaaDoorRows
import GoSem.ClaimSeven
namespace Go.Proofs.YtilajcibjlcffaaDoor
namespace Rows

/-- THE TIED CARD OF 'quadrillelaw23.CalcTakes'. -/
def calcTakesCard : Claim7 := { stood := { row := calcTakesRow, standIns := [], harness := (true, "bf7e17cf86b87a1e48b87837820ac8d341915da0f6ca06b52817e82e3de791b3"), looks := false }, kinds := [], alts := [], laidByText := true, laidKinds := [.data, .pinned], laidTests := true, laidLooks := .later }
def CalcTakesCardSaid : Prop := Claim7.holds Tryd.pinned (.plain (OpenSpec.ofChange calcTakesSpec)) calcTakesCard

/-- THE SECOND FORM's CARD OF 'quadrillelaw23.CalcTakes'. -/
def calcTakesUptoCard : Claim7 := { stood := { row := calcTakesUptoRow, standIns := [], harness := (true, "bf7e17cf86b87a1e48b87837820ac8d341915da0f6ca06b52817e82e3de791b3"), looks := false }, kinds := [], alts := [], laidByText := true, laidKinds := [.data, .pinned], laidTests := true, laidLooks := .later }
def CalcTakesUptoCardSaid : Prop := Claim7.holds Tryd.pinned (.plain (OpenSpec.upto calcTakesSpec)) calcTakesUptoCard
end Rows
end Go.Proofs.YtilajcibjlcffaaDoor
