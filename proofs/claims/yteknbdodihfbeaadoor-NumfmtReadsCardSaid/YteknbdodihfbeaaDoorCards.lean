/-
  DERIVED. GIVEN WITH THE SEED: THE CARDS: each row of YteknbdodihfbeaaDoorRows.lean that lists a variable, with what it lists TIED to the program's text (the seventh form; the later family's looks); each row that meets fmt, with fmt's text TOLD by the authors' own Lean function (tested against real Go, not proved from fmt's source: count such statements apart). THE CARD IS WHAT COUNTS. Prove the row's statement (the work); the ties are given (YteknbdodihfbeaaDoorTie.lean); close each card by the builder's one call (the guide's Derived/Test/ToyasCard.lean, 'card_holds'). Laid BY PROGRAM, IN A SANDBOX (cutbox-door.mjs). By AI agents, Wed Nov 11 2026. No macro, syntax, notation, axiom, sorry.
-/
import Derived.Test.YteknbdodihfbeaaDoorRows
import GoSem.ClaimSeven
namespace Go.Proofs.YteknbdodihfbeaaDoor
namespace Rows

/-- THE TIED CARD OF 'quadrillelaw40.NumfmtReads'. -/
def numfmtReadsCard : Claim7 := { stood := { row := numfmtReadsRow, standIns := [], harness := (true, "e32f65dfbbd36d61f4be48326168e7412ff6376f8e2940d5c00a47720ea3a011"), looks := false }, kinds := [], alts := [], laidByText := true, laidKinds := [.data, .pinned], laidTests := true, laidLooks := .later }
def NumfmtReadsCardSaid : Prop := Claim7.holds Tryd.pinned (.plain (OpenSpec.ofChange numfmtReadsSpec)) numfmtReadsCard

/-- THE TIED CARD OF 'quadrillelaw40.NumfmtWrites'. -/
def numfmtWritesCard : Claim7 := { stood := { row := numfmtWritesRow, standIns := [], harness := (true, "e32f65dfbbd36d61f4be48326168e7412ff6376f8e2940d5c00a47720ea3a011"), looks := false }, kinds := [], alts := [], laidByText := true, laidKinds := [.data, .pinned], laidTests := true, laidLooks := .later }
def NumfmtWritesCardSaid : Prop := Claim7.holds Tryd.pinned (.plain (OpenSpec.ofChange numfmtWritesSpec)) numfmtWritesCard

/-- THE TIED CARD OF 'quadrillelaw40.NumfmtPlain'. -/
def numfmtPlainCard : Claim7 := { stood := { row := numfmtPlainRow, standIns := [], harness := (true, "e32f65dfbbd36d61f4be48326168e7412ff6376f8e2940d5c00a47720ea3a011"), looks := false }, kinds := [], alts := [], laidByText := true, laidKinds := [.data, .pinned], laidTests := true, laidLooks := .later }
def NumfmtPlainCardSaid : Prop := Claim7.holds Tryd.pinned (.plain (OpenSpec.ofChange numfmtPlainSpec)) numfmtPlainCard

/-- THE SECOND FORM's CARD OF 'quadrillelaw40.NumfmtReads'. -/
def numfmtReadsUptoCard : Claim7 := { stood := { row := numfmtReadsUptoRow, standIns := [], harness := (true, "e32f65dfbbd36d61f4be48326168e7412ff6376f8e2940d5c00a47720ea3a011"), looks := false }, kinds := [], alts := [], laidByText := true, laidKinds := [.data, .pinned], laidTests := true, laidLooks := .later }
def NumfmtReadsUptoCardSaid : Prop := Claim7.holds Tryd.pinned (.plain (OpenSpec.upto numfmtReadsSpec)) numfmtReadsUptoCard

/-- THE SECOND FORM's CARD OF 'quadrillelaw40.NumfmtWrites'. -/
def numfmtWritesUptoCard : Claim7 := { stood := { row := numfmtWritesUptoRow, standIns := [], harness := (true, "e32f65dfbbd36d61f4be48326168e7412ff6376f8e2940d5c00a47720ea3a011"), looks := false }, kinds := [], alts := [], laidByText := true, laidKinds := [.data, .pinned], laidTests := true, laidLooks := .later }
def NumfmtWritesUptoCardSaid : Prop := Claim7.holds Tryd.pinned (.plain (OpenSpec.upto numfmtWritesSpec)) numfmtWritesUptoCard

/-- THE SECOND FORM's CARD OF 'quadrillelaw40.NumfmtPlain'. -/
def numfmtPlainUptoCard : Claim7 := { stood := { row := numfmtPlainUptoRow, standIns := [], harness := (true, "e32f65dfbbd36d61f4be48326168e7412ff6376f8e2940d5c00a47720ea3a011"), looks := false }, kinds := [], alts := [], laidByText := true, laidKinds := [.data, .pinned], laidTests := true, laidLooks := .later }
def NumfmtPlainUptoCardSaid : Prop := Claim7.holds Tryd.pinned (.plain (OpenSpec.upto numfmtPlainSpec)) numfmtPlainUptoCard
end Rows
end Go.Proofs.YteknbdodihfbeaaDoor
