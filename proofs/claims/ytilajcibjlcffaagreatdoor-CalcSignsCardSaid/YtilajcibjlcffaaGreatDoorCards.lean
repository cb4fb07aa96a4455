/-
  DERIVED. GIVEN WITH THE SEED: THE CARDS: each row of YtilajcibjlcffaaGreatDoorRows.lean that lists a variable, with what it lists TIED to the program's text (the seventh form; the later family's looks); each row that meets fmt, with fmt's text TOLD by the authors' own Lean function (tested against real Go, not proved from fmt's source: count such statements apart). THE CARD IS WHAT COUNTS. Prove the row's statement (the work); the ties are given (YtilajcibjlcffaaGreatDoorTie.lean); close each card by the builder's one call (the guide's Derived/Test/ToyasCard.lean, 'card_holds'). Laid BY PROGRAM, IN A SANDBOX (cutbox-door.mjs). By AI agents, Wed Nov 11 2026. No macro, syntax, notation, axiom, sorry.
-/
import Derived.Test.YtilajcibjlcffaaGreatDoorRows
import GoSem.ClaimSeven
namespace Go.Proofs.YtilajcibjlcffaaGreatDoor
namespace Rows

/-- THE TIED CARD OF 'quadrillelaw23.CalcSigns'. -/
def calcSignsCard : Claim7 := { stood := { row := calcSignsRow, standIns := [], harness := (true, "9403d48e983407c79de98cd44563f67922532b30a9d70da91e66b47c415227ed"), looks := false }, kinds := [], alts := [], laidByText := true, laidKinds := [.data, .pinned], laidTests := true, laidLooks := .later }
def CalcSignsCardSaid : Prop := Claim7.holds Tryz.pinned (.plain (OpenSpec.ofChange calcSignsSpec)) calcSignsCard

/-- THE SECOND FORM's CARD OF 'quadrillelaw23.CalcSigns'. -/
def calcSignsUptoCard : Claim7 := { stood := { row := calcSignsUptoRow, standIns := [], harness := (true, "9403d48e983407c79de98cd44563f67922532b30a9d70da91e66b47c415227ed"), looks := false }, kinds := [], alts := [], laidByText := true, laidKinds := [.data, .pinned], laidTests := true, laidLooks := .later }
def CalcSignsUptoCardSaid : Prop := Claim7.holds Tryz.pinned (.plain (OpenSpec.upto calcSignsSpec)) calcSignsUptoCard
end Rows
end Go.Proofs.YtilajcibjlcffaaGreatDoor
