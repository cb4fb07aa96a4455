/-
  DERIVED. GIVEN WITH THE SEED: THE CARDS: each row of YtljloggbfmnjmaaDoorRows.lean that lists a variable, with what it lists TIED to the program's text (the seventh form; the later family's looks); each row that meets fmt, with fmt's text TOLD by the authors' own Lean function (tested against real Go, not proved from fmt's source: count such statements apart). THE CARD IS WHAT COUNTS. Prove the row's statement (the work); the ties are given (YtljloggbfmnjmaaDoorTie.lean); close each card by the builder's one call (the guide's Derived/Test/ToyasCard.lean, 'card_holds'). Laid BY PROGRAM, IN A SANDBOX (cutbox-door.mjs). By AI agents, Wed Nov 11 2026. No macro, syntax, notation, axiom, sorry.
-/
import Derived.Test.YtljloggbfmnjmaaDoorRows
import GoSem.ClaimSeven
namespace Go.Proofs.YtljloggbfmnjmaaDoor
namespace Rows

/-- THE TIED CARD OF 'quadrillelaw11.BindCells'. -/
def bindCellsCard : Claim7 := { stood := { row := bindCellsRow, standIns := [], harness := (true, "cf08fa292bbd8e219d7bea941dcd8d17db01b2e27fa70529ede93e6c70a1c1bf"), looks := false }, kinds := [], alts := [], laidByText := true, laidKinds := [.data, .pinned], laidTests := true, laidLooks := .later }
def BindCellsCardSaid : Prop := Claim7.holds Tryd.pinned (.plain (OpenSpec.ofChange bindCellsSpec)) bindCellsCard

/-- THE TIED CARD OF 'quadrillelaw11.BindBytes'. -/
def bindBytesCard : Claim7 := { stood := { row := bindBytesRow, standIns := [], harness := (true, "cf08fa292bbd8e219d7bea941dcd8d17db01b2e27fa70529ede93e6c70a1c1bf"), looks := false }, kinds := [], alts := [], laidByText := true, laidKinds := [.data, .pinned], laidTests := true, laidLooks := .later }
def BindBytesCardSaid : Prop := Claim7.holds Tryd.pinned (.plain (OpenSpec.ofChange bindBytesSpec)) bindBytesCard

/-- THE SECOND FORM's CARD OF 'quadrillelaw11.BindCells'. -/
def bindCellsUptoCard : Claim7 := { stood := { row := bindCellsUptoRow, standIns := [], harness := (true, "cf08fa292bbd8e219d7bea941dcd8d17db01b2e27fa70529ede93e6c70a1c1bf"), looks := false }, kinds := [], alts := [], laidByText := true, laidKinds := [.data, .pinned], laidTests := true, laidLooks := .later }
def BindCellsUptoCardSaid : Prop := Claim7.holds Tryd.pinned (.plain (OpenSpec.upto bindCellsSpec)) bindCellsUptoCard

/-- THE SECOND FORM's CARD OF 'quadrillelaw11.BindBytes'. -/
def bindBytesUptoCard : Claim7 := { stood := { row := bindBytesUptoRow, standIns := [], harness := (true, "cf08fa292bbd8e219d7bea941dcd8d17db01b2e27fa70529ede93e6c70a1c1bf"), looks := false }, kinds := [], alts := [], laidByText := true, laidKinds := [.data, .pinned], laidTests := true, laidLooks := .later }
def BindBytesUptoCardSaid : Prop := Claim7.holds Tryd.pinned (.plain (OpenSpec.upto bindBytesSpec)) bindBytesUptoCard
end Rows
end Go.Proofs.YtljloggbfmnjmaaDoor
