/-
  DERIVED. GIVEN WITH THE SEED: THE CARDS: each row of YthgeajmggbakbaaDoorRows.lean that lists a variable, with what it lists TIED to the program's text (the seventh form; the later family's looks); each row that meets fmt, with fmt's text TOLD by the authors' own Lean function (tested against real Go, not proved from fmt's source: count such statements apart). THE CARD IS WHAT COUNTS. Prove the row's statement (the work); the ties are given (YthgeajmggbakbaaDoorTie.lean); close each card by the builder's one call (the guide's Derived/Test/ToyasCard.lean, 'card_holds'). Laid BY PROGRAM, IN A SANDBOX (cutbox-door.mjs). By AI agents, Wed Nov 11 2026. No macro, syntax, notation, axiom, sorry.
-/
import Derived.Test.YthgeajmggbakbaaDoorRows
import GoSem.ClaimSeven
namespace Go.Proofs.YthgeajmggbakbaaDoor
namespace Rows

/-- THE TIED CARD OF 'quadrillelaw33.CsvCells'. -/
def csvCellsCard : Claim7 := { stood := { row := csvCellsRow, standIns := [], harness := (true, "75b4f1b4197033d2e9ba546ca056e4d7c18f1963d35460a23ef331a4030904c2"), looks := false }, kinds := [], alts := [], laidByText := true, laidKinds := [.data, .pinned], laidTests := true, laidLooks := .later }
def CsvCellsCardSaid : Prop := Claim7.holds Tryd.pinned (.plain (OpenSpec.ofChange csvCellsSpec)) csvCellsCard

/-- THE TIED CARD OF 'quadrillelaw33.CsvReads'. -/
def csvReadsCard : Claim7 := { stood := { row := csvReadsRow, standIns := [], harness := (true, "75b4f1b4197033d2e9ba546ca056e4d7c18f1963d35460a23ef331a4030904c2"), looks := false }, kinds := [], alts := [], laidByText := true, laidKinds := [.data, .pinned], laidTests := true, laidLooks := .later }
def CsvReadsCardSaid : Prop := Claim7.holds Tryd.pinned (.plain (OpenSpec.ofChange csvReadsSpec)) csvReadsCard

/-- THE TIED CARD OF 'quadrillelaw33.CsvWrites'. -/
def csvWritesCard : Claim7 := { stood := { row := csvWritesRow, standIns := [], harness := (true, "75b4f1b4197033d2e9ba546ca056e4d7c18f1963d35460a23ef331a4030904c2"), looks := false }, kinds := [], alts := [], laidByText := true, laidKinds := [.data, .pinned], laidTests := true, laidLooks := .later }
def CsvWritesCardSaid : Prop := Claim7.holds Tryd.pinned (.plain (OpenSpec.ofChange csvWritesSpec)) csvWritesCard

/-- THE SECOND FORM's CARD OF 'quadrillelaw33.CsvCells'. -/
def csvCellsUptoCard : Claim7 := { stood := { row := csvCellsUptoRow, standIns := [], harness := (true, "75b4f1b4197033d2e9ba546ca056e4d7c18f1963d35460a23ef331a4030904c2"), looks := false }, kinds := [], alts := [], laidByText := true, laidKinds := [.data, .pinned], laidTests := true, laidLooks := .later }
def CsvCellsUptoCardSaid : Prop := Claim7.holds Tryd.pinned (.plain (OpenSpec.upto csvCellsSpec)) csvCellsUptoCard

/-- THE SECOND FORM's CARD OF 'quadrillelaw33.CsvReads'. -/
def csvReadsUptoCard : Claim7 := { stood := { row := csvReadsUptoRow, standIns := [], harness := (true, "75b4f1b4197033d2e9ba546ca056e4d7c18f1963d35460a23ef331a4030904c2"), looks := false }, kinds := [], alts := [], laidByText := true, laidKinds := [.data, .pinned], laidTests := true, laidLooks := .later }
def CsvReadsUptoCardSaid : Prop := Claim7.holds Tryd.pinned (.plain (OpenSpec.upto csvReadsSpec)) csvReadsUptoCard

/-- THE SECOND FORM's CARD OF 'quadrillelaw33.CsvWrites'. -/
def csvWritesUptoCard : Claim7 := { stood := { row := csvWritesUptoRow, standIns := [], harness := (true, "75b4f1b4197033d2e9ba546ca056e4d7c18f1963d35460a23ef331a4030904c2"), looks := false }, kinds := [], alts := [], laidByText := true, laidKinds := [.data, .pinned], laidTests := true, laidLooks := .later }
def CsvWritesUptoCardSaid : Prop := Claim7.holds Tryd.pinned (.plain (OpenSpec.upto csvWritesSpec)) csvWritesUptoCard
end Rows
end Go.Proofs.YthgeajmggbakbaaDoor
