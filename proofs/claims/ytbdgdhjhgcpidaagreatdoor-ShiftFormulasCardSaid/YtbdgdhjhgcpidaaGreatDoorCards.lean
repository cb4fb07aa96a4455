/-
  DERIVED. GIVEN WITH THE SEED: THE CARDS: each row of YtbdgdhjhgcpidaaGreatDoorRows.lean that lists a variable, with what it lists TIED to the program's text (the seventh form; the later family's looks); each row that meets fmt, with fmt's text TOLD by the authors' own Lean function (tested against real Go, not proved from fmt's source: count such statements apart). THE CARD IS WHAT COUNTS. Prove the row's statement (the work); the ties are given (YtbdgdhjhgcpidaaGreatDoorTie.lean); close each card by the builder's one call (the guide's Derived/Test/ToyasCard.lean, 'card_holds'). Laid BY PROGRAM, IN A SANDBOX (cutbox-door.mjs). By AI agents, Wed Nov 11 2026. No macro, syntax, notation, axiom, sorry.
-/
import Derived.Test.YtbdgdhjhgcpidaaGreatDoorRows
import GoSem.ClaimSeven
namespace Go.Proofs.YtbdgdhjhgcpidaaGreatDoor
namespace Rows

/-- THE TIED CARD OF 'quadrillelaw34.ShiftCells'. -/
def shiftCellsCard : Claim7 := { stood := { row := shiftCellsRow, standIns := [], harness := (true, "6c053435e261aae02c4e46dbdcbefa34f49bc1da99754f655f0691d750d4054d"), looks := false }, kinds := [], alts := [], laidByText := true, laidKinds := [.data, .pinned], laidTests := true, laidLooks := .later }
def ShiftCellsCardSaid : Prop := Claim7.holds Tryz.pinned (.plain (OpenSpec.ofChange shiftCellsSpec)) shiftCellsCard

/-- THE TIED CARD OF 'quadrillelaw34.ShiftFormulas'. -/
def shiftFormulasCard : Claim7 := { stood := { row := shiftFormulasRow, standIns := [], harness := (true, "6c053435e261aae02c4e46dbdcbefa34f49bc1da99754f655f0691d750d4054d"), looks := false }, kinds := [], alts := [], laidByText := true, laidKinds := [.data, .pinned], laidTests := true, laidLooks := .later }
def ShiftFormulasCardSaid : Prop := Claim7.holds Tryz.pinned (.plain (OpenSpec.ofChange shiftFormulasSpec)) shiftFormulasCard

/-- THE SECOND FORM's CARD OF 'quadrillelaw34.ShiftCells'. -/
def shiftCellsUptoCard : Claim7 := { stood := { row := shiftCellsUptoRow, standIns := [], harness := (true, "6c053435e261aae02c4e46dbdcbefa34f49bc1da99754f655f0691d750d4054d"), looks := false }, kinds := [], alts := [], laidByText := true, laidKinds := [.data, .pinned], laidTests := true, laidLooks := .later }
def ShiftCellsUptoCardSaid : Prop := Claim7.holds Tryz.pinned (.plain (OpenSpec.upto shiftCellsSpec)) shiftCellsUptoCard

/-- THE SECOND FORM's CARD OF 'quadrillelaw34.ShiftFormulas'. -/
def shiftFormulasUptoCard : Claim7 := { stood := { row := shiftFormulasUptoRow, standIns := [], harness := (true, "6c053435e261aae02c4e46dbdcbefa34f49bc1da99754f655f0691d750d4054d"), looks := false }, kinds := [], alts := [], laidByText := true, laidKinds := [.data, .pinned], laidTests := true, laidLooks := .later }
def ShiftFormulasUptoCardSaid : Prop := Claim7.holds Tryz.pinned (.plain (OpenSpec.upto shiftFormulasSpec)) shiftFormulasUptoCard
end Rows
end Go.Proofs.YtbdgdhjhgcpidaaGreatDoor
