/-
  DERIVED. GIVEN WITH THE SEED: THE CARDS: each row of YtgmbfbddfjecpaaDoorRows.lean that lists a variable, with what it lists TIED to the program's text (the seventh form; the later family's looks); each row that meets fmt, with fmt's text TOLD by the authors' own Lean function (tested against real Go, not proved from fmt's source: count such statements apart). THE CARD IS WHAT COUNTS. Prove the row's statement (the work); the ties are given (YtgmbfbddfjecpaaDoorTie.lean); close each card by the builder's one call (the guide's Derived/Test/ToyasCard.lean, 'card_holds'). Laid BY PROGRAM, IN A SANDBOX (cutbox-door.mjs). By AI agents, Wed Nov 11 2026. No macro, syntax, notation, axiom, sorry.
-/
import Derived.Test.YtgmbfbddfjecpaaDoorRows
import GoSem.ClaimSeven
namespace Go.Proofs.YtgmbfbddfjecpaaDoor
namespace Rows

/-- THE TIED CARD OF 'quadrillelaw01.DecTexts'. -/
def decTextsCard : Claim7 := { stood := { row := decTextsRow, standIns := [], harness := (true, "85baf833527565caa5e07c0e6aaa3340c6d66ca94026e3597c4663a729c935ad"), looks := false }, kinds := [], alts := [], laidByText := true, laidKinds := [.data, .pinned], laidTests := true, laidLooks := .later }
def DecTextsCardSaid : Prop := Claim7.holds Tryd.pinned (.plain (OpenSpec.ofChange decTextsSpec)) decTextsCard

/-- THE TIED CARD OF 'quadrillelaw01.DecProducts'. -/
def decProductsCard : Claim7 := { stood := { row := decProductsRow, standIns := [], harness := (true, "85baf833527565caa5e07c0e6aaa3340c6d66ca94026e3597c4663a729c935ad"), looks := false }, kinds := [], alts := [], laidByText := true, laidKinds := [.data, .pinned], laidTests := true, laidLooks := .later }
def DecProductsCardSaid : Prop := Claim7.holds Tryd.pinned (.plain (OpenSpec.ofChange decProductsSpec)) decProductsCard

/-- THE TIED CARD OF 'quadrillelaw01.DecWholes'. -/
def decWholesCard : Claim7 := { stood := { row := decWholesRow, standIns := [], harness := (true, "85baf833527565caa5e07c0e6aaa3340c6d66ca94026e3597c4663a729c935ad"), looks := false }, kinds := [], alts := [], laidByText := true, laidKinds := [.data, .pinned], laidTests := true, laidLooks := .later }
def DecWholesCardSaid : Prop := Claim7.holds Tryd.pinned (.plain (OpenSpec.ofChange decWholesSpec)) decWholesCard

/-- THE TIED CARD OF 'quadrillelaw01.DecBack'. -/
def decBackCard : Claim7 := { stood := { row := decBackRow, standIns := [], harness := (true, "85baf833527565caa5e07c0e6aaa3340c6d66ca94026e3597c4663a729c935ad"), looks := false }, kinds := [], alts := [], laidByText := true, laidKinds := [.data, .pinned], laidTests := true, laidLooks := .later }
def DecBackCardSaid : Prop := Claim7.holds Tryd.pinned (.plain (OpenSpec.ofChange decBackSpec)) decBackCard

/-- THE TIED CARD OF 'quadrillelaw01.DecSums'. -/
def decSumsCard : Claim7 := { stood := { row := decSumsRow, standIns := [], harness := (true, "85baf833527565caa5e07c0e6aaa3340c6d66ca94026e3597c4663a729c935ad"), looks := false }, kinds := [], alts := [], laidByText := true, laidKinds := [.data, .pinned], laidTests := true, laidLooks := .later }
def DecSumsCardSaid : Prop := Claim7.holds Tryd.pinned (.plain (OpenSpec.ofChange decSumsSpec)) decSumsCard

/-- THE TIED CARD OF 'quadrillelaw01.DecRounds'. -/
def decRoundsCard : Claim7 := { stood := { row := decRoundsRow, standIns := [], harness := (true, "85baf833527565caa5e07c0e6aaa3340c6d66ca94026e3597c4663a729c935ad"), looks := false }, kinds := [], alts := [], laidByText := true, laidKinds := [.data, .pinned], laidTests := true, laidLooks := .later }
def DecRoundsCardSaid : Prop := Claim7.holds Tryd.pinned (.plain (OpenSpec.ofChange decRoundsSpec)) decRoundsCard

/-- THE SECOND FORM's CARD OF 'quadrillelaw01.DecTexts'. -/
def decTextsUptoCard : Claim7 := { stood := { row := decTextsUptoRow, standIns := [], harness := (true, "85baf833527565caa5e07c0e6aaa3340c6d66ca94026e3597c4663a729c935ad"), looks := false }, kinds := [], alts := [], laidByText := true, laidKinds := [.data, .pinned], laidTests := true, laidLooks := .later }
def DecTextsUptoCardSaid : Prop := Claim7.holds Tryd.pinned (.plain (OpenSpec.upto decTextsSpec)) decTextsUptoCard

/-- THE SECOND FORM's CARD OF 'quadrillelaw01.DecProducts'. -/
def decProductsUptoCard : Claim7 := { stood := { row := decProductsUptoRow, standIns := [], harness := (true, "85baf833527565caa5e07c0e6aaa3340c6d66ca94026e3597c4663a729c935ad"), looks := false }, kinds := [], alts := [], laidByText := true, laidKinds := [.data, .pinned], laidTests := true, laidLooks := .later }
def DecProductsUptoCardSaid : Prop := Claim7.holds Tryd.pinned (.plain (OpenSpec.upto decProductsSpec)) decProductsUptoCard

/-- THE SECOND FORM's CARD OF 'quadrillelaw01.DecWholes'. -/
def decWholesUptoCard : Claim7 := { stood := { row := decWholesUptoRow, standIns := [], harness := (true, "85baf833527565caa5e07c0e6aaa3340c6d66ca94026e3597c4663a729c935ad"), looks := false }, kinds := [], alts := [], laidByText := true, laidKinds := [.data, .pinned], laidTests := true, laidLooks := .later }
def DecWholesUptoCardSaid : Prop := Claim7.holds Tryd.pinned (.plain (OpenSpec.upto decWholesSpec)) decWholesUptoCard

/-- THE SECOND FORM's CARD OF 'quadrillelaw01.DecBack'. -/
def decBackUptoCard : Claim7 := { stood := { row := decBackUptoRow, standIns := [], harness := (true, "85baf833527565caa5e07c0e6aaa3340c6d66ca94026e3597c4663a729c935ad"), looks := false }, kinds := [], alts := [], laidByText := true, laidKinds := [.data, .pinned], laidTests := true, laidLooks := .later }
def DecBackUptoCardSaid : Prop := Claim7.holds Tryd.pinned (.plain (OpenSpec.upto decBackSpec)) decBackUptoCard

/-- THE SECOND FORM's CARD OF 'quadrillelaw01.DecSums'. -/
def decSumsUptoCard : Claim7 := { stood := { row := decSumsUptoRow, standIns := [], harness := (true, "85baf833527565caa5e07c0e6aaa3340c6d66ca94026e3597c4663a729c935ad"), looks := false }, kinds := [], alts := [], laidByText := true, laidKinds := [.data, .pinned], laidTests := true, laidLooks := .later }
def DecSumsUptoCardSaid : Prop := Claim7.holds Tryd.pinned (.plain (OpenSpec.upto decSumsSpec)) decSumsUptoCard

/-- THE SECOND FORM's CARD OF 'quadrillelaw01.DecRounds'. -/
def decRoundsUptoCard : Claim7 := { stood := { row := decRoundsUptoRow, standIns := [], harness := (true, "85baf833527565caa5e07c0e6aaa3340c6d66ca94026e3597c4663a729c935ad"), looks := false }, kinds := [], alts := [], laidByText := true, laidKinds := [.data, .pinned], laidTests := true, laidLooks := .later }
def DecRoundsUptoCardSaid : Prop := Claim7.holds Tryd.pinned (.plain (OpenSpec.upto decRoundsSpec)) decRoundsUptoCard
end Rows
end Go.Proofs.YtgmbfbddfjecpaaDoor
