/-
  DERIVED. GIVEN WITH THE SEED: THE CARDS: each row of YtfkfajgfkgeicaaDoorRows.lean that lists a variable, with what it lists TIED to the program's text (the seventh form; the later family's looks); each row that meets fmt, with fmt's text TOLD by the authors' own Lean function (tested against real Go, not proved from fmt's source: count such statements apart). THE CARD IS WHAT COUNTS. Prove the row's statement (the work); the ties are given (YtfkfajgfkgeicaaDoorTie.lean); close each card by the builder's one call (the guide's Derived/Test/ToyasCard.lean, 'card_holds'). Laid BY PROGRAM, IN A SANDBOX (cutbox-door.mjs). By AI agents, Wed Nov 11 2026. No macro, syntax, notation, axiom, sorry.
-/
import Derived.Test.YtfkfajgfkgeicaaDoorRows
import GoSem.ClaimSeven
namespace Go.Proofs.YtfkfajgfkgeicaaDoor
namespace Rows

/-- THE TIED CARD OF 'quadrillelaw09.TreeSigns'. -/
def treeSignsCard : Claim7 := { stood := { row := treeSignsRow, standIns := [], harness := (true, "7c67d2cb0b55d405fd26780db886ba9729431669cab820f136fab6ff31108799"), looks := false }, kinds := [], alts := [], laidByText := true, laidKinds := [.data, .pinned], laidTests := true, laidLooks := .later }
def TreeSignsCardSaid : Prop := Claim7.holds Tryd.pinned (.plain (OpenSpec.ofChange treeSignsSpec)) treeSignsCard

/-- THE TIED CARD OF 'quadrillelaw09.TreePrints'. -/
def treePrintsCard : Claim7 := { stood := { row := treePrintsRow, standIns := [], harness := (true, "7c67d2cb0b55d405fd26780db886ba9729431669cab820f136fab6ff31108799"), looks := false }, kinds := [], alts := [], laidByText := true, laidKinds := [.data, .pinned], laidTests := true, laidLooks := .later }
def TreePrintsCardSaid : Prop := Claim7.holds Tryd.pinned (.plain (OpenSpec.ofChange treePrintsSpec)) treePrintsCard

/-- THE TIED CARD OF 'quadrillelaw09.TreeRight'. -/
def treeRightCard : Claim7 := { stood := { row := treeRightRow, standIns := [], harness := (true, "7c67d2cb0b55d405fd26780db886ba9729431669cab820f136fab6ff31108799"), looks := false }, kinds := [], alts := [], laidByText := true, laidKinds := [.data, .pinned], laidTests := true, laidLooks := .later }
def TreeRightCardSaid : Prop := Claim7.holds Tryd.pinned (.plain (OpenSpec.ofChange treeRightSpec)) treeRightCard

/-- THE SECOND FORM's CARD OF 'quadrillelaw09.TreeSigns'. -/
def treeSignsUptoCard : Claim7 := { stood := { row := treeSignsUptoRow, standIns := [], harness := (true, "7c67d2cb0b55d405fd26780db886ba9729431669cab820f136fab6ff31108799"), looks := false }, kinds := [], alts := [], laidByText := true, laidKinds := [.data, .pinned], laidTests := true, laidLooks := .later }
def TreeSignsUptoCardSaid : Prop := Claim7.holds Tryd.pinned (.plain (OpenSpec.upto treeSignsSpec)) treeSignsUptoCard

/-- THE SECOND FORM's CARD OF 'quadrillelaw09.TreePrints'. -/
def treePrintsUptoCard : Claim7 := { stood := { row := treePrintsUptoRow, standIns := [], harness := (true, "7c67d2cb0b55d405fd26780db886ba9729431669cab820f136fab6ff31108799"), looks := false }, kinds := [], alts := [], laidByText := true, laidKinds := [.data, .pinned], laidTests := true, laidLooks := .later }
def TreePrintsUptoCardSaid : Prop := Claim7.holds Tryd.pinned (.plain (OpenSpec.upto treePrintsSpec)) treePrintsUptoCard

/-- THE SECOND FORM's CARD OF 'quadrillelaw09.TreeRight'. -/
def treeRightUptoCard : Claim7 := { stood := { row := treeRightUptoRow, standIns := [], harness := (true, "7c67d2cb0b55d405fd26780db886ba9729431669cab820f136fab6ff31108799"), looks := false }, kinds := [], alts := [], laidByText := true, laidKinds := [.data, .pinned], laidTests := true, laidLooks := .later }
def TreeRightUptoCardSaid : Prop := Claim7.holds Tryd.pinned (.plain (OpenSpec.upto treeRightSpec)) treeRightUptoCard
end Rows
end Go.Proofs.YtfkfajgfkgeicaaDoor
