/-
  DERIVED. GIVEN WITH THE SEED: THE CARDS: each row of YtpggidkcifnhjaaDoorRows.lean that lists a variable, with what it lists TIED to the program's text (the seventh form; the later family's looks); each row that meets fmt, with fmt's text TOLD by the authors' own Lean function (tested against real Go, not proved from fmt's source: count such statements apart). THE CARD IS WHAT COUNTS. Prove the row's statement (the work); the ties are given (YtpggidkcifnhjaaDoorTie.lean); close each card by the builder's one call (the guide's Derived/Test/ToyasCard.lean, 'card_holds'). Laid BY PROGRAM, IN A SANDBOX (cutbox-door.mjs). By AI agents, Wed Nov 11 2026. No macro, syntax, notation, axiom, sorry.
-/
import Derived.Test.YtpggidkcifnhjaaDoorRows
import GoSem.ClaimSeven
namespace Go.Proofs.YtpggidkcifnhjaaDoor
namespace Rows

/-- THE TIED CARD OF 'quadrillelaw35.MatchParts'. -/
def matchPartsCard : Claim7 := { stood := { row := matchPartsRow, standIns := [], harness := (true, "7fbf2100e677131cddbfcf49eaa2d3e9bee7c160386e7eeb53dfadd26372de1f"), looks := false }, kinds := [], alts := [], laidByText := true, laidKinds := [.data, .pinned], laidTests := true, laidLooks := .later }
def MatchPartsCardSaid : Prop := Claim7.holds Tryd.pinned (.plain (OpenSpec.ofChange matchPartsSpec)) matchPartsCard

/-- THE SECOND FORM's CARD OF 'quadrillelaw35.MatchParts'. -/
def matchPartsUptoCard : Claim7 := { stood := { row := matchPartsUptoRow, standIns := [], harness := (true, "7fbf2100e677131cddbfcf49eaa2d3e9bee7c160386e7eeb53dfadd26372de1f"), looks := false }, kinds := [], alts := [], laidByText := true, laidKinds := [.data, .pinned], laidTests := true, laidLooks := .later }
def MatchPartsUptoCardSaid : Prop := Claim7.holds Tryd.pinned (.plain (OpenSpec.upto matchPartsSpec)) matchPartsUptoCard
end Rows
end Go.Proofs.YtpggidkcifnhjaaDoor
