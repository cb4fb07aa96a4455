/-
  DERIVED. GIVEN WITH THE SEED: THE CARDS: each row of YtjklbbmgjjdalaaGreatDoorRows.lean that lists a variable, with what it lists TIED to the program's text (the seventh form; the later family's looks); each row that meets fmt, with fmt's text TOLD by the authors' own Lean function (tested against real Go, not proved from fmt's source: count such statements apart). THE CARD IS WHAT COUNTS. Prove the row's statement (the work); the ties are given (YtjklbbmgjjdalaaGreatDoorTie.lean); close each card by the builder's one call (the guide's Derived/Test/ToyasCard.lean, 'card_holds'). Laid BY PROGRAM, IN A SANDBOX (cutbox-door.mjs). By AI agents, Wed Nov 11 2026. No macro, syntax, notation, axiom, sorry.
-/
import Derived.Test.YtjklbbmgjjdalaaGreatDoorRows
import GoSem.ClaimSeven
namespace Go.Proofs.YtjklbbmgjjdalaaGreatDoor
namespace Rows

/-- THE TIED CARD OF 'quadrillelaw11.BindFormulas'. -/
def bindFormulasCard : Claim7 := { stood := { row := bindFormulasRow, standIns := [], harness := (true, "3c853e85237cc5064014e8af5faddd63f9fed334303c55e85e6d10ab13955f1d"), looks := false }, kinds := [], alts := [], laidByText := true, laidKinds := [.data, .pinned], laidTests := true, laidLooks := .later }
def BindFormulasCardSaid : Prop := Claim7.holds Tryz.pinned (.plain (OpenSpec.ofChange bindFormulasSpec)) bindFormulasCard

/-- THE TIED CARD OF 'quadrillelaw11.BindBack'. -/
def bindBackCard : Claim7 := { stood := { row := bindBackRow, standIns := [], harness := (true, "3c853e85237cc5064014e8af5faddd63f9fed334303c55e85e6d10ab13955f1d"), looks := false }, kinds := [], alts := [], laidByText := true, laidKinds := [.data, .pinned], laidTests := true, laidLooks := .later }
def BindBackCardSaid : Prop := Claim7.holds Tryz.pinned (.plain (OpenSpec.ofChange bindBackSpec)) bindBackCard

/-- THE SECOND FORM's CARD OF 'quadrillelaw11.BindFormulas'. -/
def bindFormulasUptoCard : Claim7 := { stood := { row := bindFormulasUptoRow, standIns := [], harness := (true, "3c853e85237cc5064014e8af5faddd63f9fed334303c55e85e6d10ab13955f1d"), looks := false }, kinds := [], alts := [], laidByText := true, laidKinds := [.data, .pinned], laidTests := true, laidLooks := .later }
def BindFormulasUptoCardSaid : Prop := Claim7.holds Tryz.pinned (.plain (OpenSpec.upto bindFormulasSpec)) bindFormulasUptoCard

/-- THE SECOND FORM's CARD OF 'quadrillelaw11.BindBack'. -/
def bindBackUptoCard : Claim7 := { stood := { row := bindBackUptoRow, standIns := [], harness := (true, "3c853e85237cc5064014e8af5faddd63f9fed334303c55e85e6d10ab13955f1d"), looks := false }, kinds := [], alts := [], laidByText := true, laidKinds := [.data, .pinned], laidTests := true, laidLooks := .later }
def BindBackUptoCardSaid : Prop := Claim7.holds Tryz.pinned (.plain (OpenSpec.upto bindBackSpec)) bindBackUptoCard
end Rows
end Go.Proofs.YtjklbbmgjjdalaaGreatDoor
