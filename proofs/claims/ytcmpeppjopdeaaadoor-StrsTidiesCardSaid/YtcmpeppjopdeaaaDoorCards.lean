/-
  DERIVED. GIVEN WITH THE SEED: THE CARDS: each row of YtcmpeppjopdeaaaDoorRows.lean that lists a variable, with what it lists TIED to the program's text (the seventh form; the later family's looks); each row that meets fmt, with fmt's text TOLD by the authors' own Lean function (tested against real Go, not proved from fmt's source: count such statements apart). THE CARD IS WHAT COUNTS. Prove the row's statement (the work); the ties are given (YtcmpeppjopdeaaaDoorTie.lean); close each card by the builder's one call (the guide's Derived/Test/ToyasCard.lean, 'card_holds'). Laid BY PROGRAM, IN A SANDBOX (cutbox-door.mjs). By AI agents, Wed Nov 11 2026. No macro, syntax, notation, axiom, sorry.
-/
import Derived.Test.YtcmpeppjopdeaaaDoorRows
import GoSem.ClaimSeven
namespace Go.Proofs.YtcmpeppjopdeaaaDoor
namespace Rows

/-- THE TIED CARD OF 'quadrillelaw37.StrsTidies'. -/
def strsTidiesCard : Claim7 := { stood := { row := strsTidiesRow, standIns := [], harness := (true, "9364f7a500d69cfca8629d62cfd06811301c9d48b5dc5e08ee43b22d36ea361d"), looks := false }, kinds := [], alts := [], laidByText := true, laidKinds := [.data, .pinned], laidTests := true, laidLooks := .later }
def StrsTidiesCardSaid : Prop := Claim7.holds Tryd.pinned (.plain (OpenSpec.ofChange strsTidiesSpec)) strsTidiesCard

/-- THE SECOND FORM's CARD OF 'quadrillelaw37.StrsTidies'. -/
def strsTidiesUptoCard : Claim7 := { stood := { row := strsTidiesUptoRow, standIns := [], harness := (true, "9364f7a500d69cfca8629d62cfd06811301c9d48b5dc5e08ee43b22d36ea361d"), looks := false }, kinds := [], alts := [], laidByText := true, laidKinds := [.data, .pinned], laidTests := true, laidLooks := .later }
def StrsTidiesUptoCardSaid : Prop := Claim7.holds Tryd.pinned (.plain (OpenSpec.upto strsTidiesSpec)) strsTidiesUptoCard
end Rows
end Go.Proofs.YtcmpeppjopdeaaaDoor
