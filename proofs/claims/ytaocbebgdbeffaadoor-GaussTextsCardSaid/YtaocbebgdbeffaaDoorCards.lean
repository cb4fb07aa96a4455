/-
  DERIVED. GIVEN WITH THE SEED: THE CARDS: each row of YtaocbebgdbeffaaDoorRows.lean that lists a variable, with what it lists TIED to the program's text (the seventh form; the later family's looks); each row that meets fmt, with fmt's text TOLD by the authors' own Lean function (tested against real Go, not proved from fmt's source: count such statements apart). THE CARD IS WHAT COUNTS. Prove the row's statement (the work); the ties are given (YtaocbebgdbeffaaDoorTie.lean); close each card by the builder's one call (the guide's Derived/Test/ToyasCard.lean, 'card_holds'). Laid BY PROGRAM, IN A SANDBOX (cutbox-door.mjs). By AI agents, Wed Nov 11 2026. No macro, syntax, notation, axiom, sorry.
-/
import Derived.Test.YtaocbebgdbeffaaDoorRows
import GoSem.ClaimSeven
namespace Go.Proofs.YtaocbebgdbeffaaDoor
namespace Rows

/-- THE TIED CARD OF 'quadrillelaw02.GaussParts'. -/
def gaussPartsCard : Claim7 := { stood := { row := gaussPartsRow, standIns := [], harness := (true, "ff6f7d9a0ad3500889894a0679eb5ff9ab4ad762900149e3a16b7d8b75646325"), looks := false }, kinds := [], alts := [], laidByText := true, laidKinds := [.data, .pinned], laidTests := true, laidLooks := .later }
def GaussPartsCardSaid : Prop := Claim7.holds Tryd.pinned (.plain (OpenSpec.ofChange gaussPartsSpec)) gaussPartsCard

/-- THE TIED CARD OF 'quadrillelaw02.GaussTexts'. -/
def gaussTextsCard : Claim7 := { stood := { row := gaussTextsRow, standIns := [], harness := (true, "ff6f7d9a0ad3500889894a0679eb5ff9ab4ad762900149e3a16b7d8b75646325"), looks := false }, kinds := [], alts := [], laidByText := true, laidKinds := [.data, .pinned], laidTests := true, laidLooks := .later }
def GaussTextsCardSaid : Prop := Claim7.holds Tryd.pinned (.plain (OpenSpec.ofChange gaussTextsSpec)) gaussTextsCard

/-- THE TIED CARD OF 'quadrillelaw02.GaussNorms'. -/
def gaussNormsCard : Claim7 := { stood := { row := gaussNormsRow, standIns := [], harness := (true, "ff6f7d9a0ad3500889894a0679eb5ff9ab4ad762900149e3a16b7d8b75646325"), looks := false }, kinds := [], alts := [], laidByText := true, laidKinds := [.data, .pinned], laidTests := true, laidLooks := .later }
def GaussNormsCardSaid : Prop := Claim7.holds Tryd.pinned (.plain (OpenSpec.ofChange gaussNormsSpec)) gaussNormsCard

/-- THE TIED CARD OF 'quadrillelaw02.GaussReckons'. -/
def gaussReckonsCard : Claim7 := { stood := { row := gaussReckonsRow, standIns := [], harness := (true, "ff6f7d9a0ad3500889894a0679eb5ff9ab4ad762900149e3a16b7d8b75646325"), looks := false }, kinds := [], alts := [], laidByText := true, laidKinds := [.data, .pinned], laidTests := true, laidLooks := .later }
def GaussReckonsCardSaid : Prop := Claim7.holds Tryd.pinned (.plain (OpenSpec.ofChange gaussReckonsSpec)) gaussReckonsCard

/-- THE SECOND FORM's CARD OF 'quadrillelaw02.GaussParts'. -/
def gaussPartsUptoCard : Claim7 := { stood := { row := gaussPartsUptoRow, standIns := [], harness := (true, "ff6f7d9a0ad3500889894a0679eb5ff9ab4ad762900149e3a16b7d8b75646325"), looks := false }, kinds := [], alts := [], laidByText := true, laidKinds := [.data, .pinned], laidTests := true, laidLooks := .later }
def GaussPartsUptoCardSaid : Prop := Claim7.holds Tryd.pinned (.plain (OpenSpec.upto gaussPartsSpec)) gaussPartsUptoCard

/-- THE SECOND FORM's CARD OF 'quadrillelaw02.GaussTexts'. -/
def gaussTextsUptoCard : Claim7 := { stood := { row := gaussTextsUptoRow, standIns := [], harness := (true, "ff6f7d9a0ad3500889894a0679eb5ff9ab4ad762900149e3a16b7d8b75646325"), looks := false }, kinds := [], alts := [], laidByText := true, laidKinds := [.data, .pinned], laidTests := true, laidLooks := .later }
def GaussTextsUptoCardSaid : Prop := Claim7.holds Tryd.pinned (.plain (OpenSpec.upto gaussTextsSpec)) gaussTextsUptoCard

/-- THE SECOND FORM's CARD OF 'quadrillelaw02.GaussNorms'. -/
def gaussNormsUptoCard : Claim7 := { stood := { row := gaussNormsUptoRow, standIns := [], harness := (true, "ff6f7d9a0ad3500889894a0679eb5ff9ab4ad762900149e3a16b7d8b75646325"), looks := false }, kinds := [], alts := [], laidByText := true, laidKinds := [.data, .pinned], laidTests := true, laidLooks := .later }
def GaussNormsUptoCardSaid : Prop := Claim7.holds Tryd.pinned (.plain (OpenSpec.upto gaussNormsSpec)) gaussNormsUptoCard

/-- THE SECOND FORM's CARD OF 'quadrillelaw02.GaussReckons'. -/
def gaussReckonsUptoCard : Claim7 := { stood := { row := gaussReckonsUptoRow, standIns := [], harness := (true, "ff6f7d9a0ad3500889894a0679eb5ff9ab4ad762900149e3a16b7d8b75646325"), looks := false }, kinds := [], alts := [], laidByText := true, laidKinds := [.data, .pinned], laidTests := true, laidLooks := .later }
def GaussReckonsUptoCardSaid : Prop := Claim7.holds Tryd.pinned (.plain (OpenSpec.upto gaussReckonsSpec)) gaussReckonsUptoCard
end Rows
end Go.Proofs.YtaocbebgdbeffaaDoor
