/-
  No cell of these rows narrows 'for every input' (looked for: loops, veiled, ifaces, maps, wideKeys, modest, calm, conditions, laid).
  DERIVED. THE GIVEN ROWS OF THIS SEAT. 3 by the template 'for every input the law returns true; each argument reads behind the call as it read before'; 0 by the template 'total and deterministic' (their statements: YtcmpeppjopdeaaaTotals.lean).
  GIVEN WITH THE SEED: the statements are not yours to turn. If you find one false, say at which input.
  Laid BY PROGRAM, IN A SANDBOX (cutbox-rows.mjs): the forced cells as the released guide's own fill.sh prints them over the translation f7eaac593e63cd0c… (all of the seat's roots in one cut). By AI agents, Wed Nov 11 2026. No macro, syntax, notation, axiom, sorry.
-/
import Derived.Test.YtcmpeppjopdeaaaChecked
import GoSem.Claim
import GoSem.ClaimJoined
import GoSem.ClaimMapViews
import Derived.JoinedTies
import Derived.KernelRfl
namespace Go.Proofs.Ytcmpeppjopdeaaa
/- THE CELL 'sum', in the pinned program and in every row, IS THE sha256 OF THE DUMP (.gsa) THAT YtcmpeppjopdeaaaProg.lean LOADS. Nothing in Lean hashes anything: it is a label: what it is worth is what the hold of that sum in a sandbox is worth. -/
noncomputable def Try.pinned : Pinned := { name := "ytcmpeppjopdeaaa", sum := "f7eaac593e63cd0c056ab7e86841697787c9263dc39f0f19f4b7b900e0719774", checked := Try.checked }
namespace Rows
def none {H : Type} : Left H := { results := [], args := [] }

/-- 'quadrillelaw37.StrsDistances': WHATEVER THE INPUT: true; the input reads as it did. -/
def strsDistancesSpec : ChangeSpec := { name := "strsDistances", fn := fun _ => fun
  | [d1, d2] => { results := [.lit (.bool true)], args := [d1, d2] }
  | _ => none }
def strsDistancesRow : OpenClaim := { program := "ytcmpeppjopdeaaa", sum := "f7eaac593e63cd0c056ab7e86841697787c9263dc39f0f19f4b7b900e0719774", func := "quadrille/quadrillelaw37.StrsDistances", spec := "strsDistances", inPlace := ["internal/bytealg.IndexByteString", "internal/bytealg.IndexString", "internal/abi.NoEscape"], named := ["internal/bytealg.MaxLen"], apart := false }
def StrsDistancesSaid : Prop := strsDistancesRow.holds Try.pinned (OpenSpec.ofChange strsDistancesSpec)

/-- ITS FALSE NEIGHBOUR: 'it returns false'. Refute it at one input. -/
def strsDistancesWrong : ChangeSpec := { name := "strsDistances", fn := fun _ => fun
  | [d1, d2] => { results := [.lit (.bool false)], args := [d1, d2] }
  | _ => none }
def StrsDistancesWrongFalsely : Prop := strsDistancesRow.holds Try.pinned (OpenSpec.ofChange strsDistancesWrong)

/-- 'quadrillelaw37.StrsParts': WHATEVER THE INPUT: true; the input reads as it did. -/
def strsPartsSpec : ChangeSpec := { name := "strsParts", fn := fun _ => fun
  | [d1, d2, d3] => { results := [.lit (.bool true)], args := [d1, d2, d3] }
  | _ => none }
def strsPartsRow : OpenClaim := { program := "ytcmpeppjopdeaaa", sum := "f7eaac593e63cd0c056ab7e86841697787c9263dc39f0f19f4b7b900e0719774", func := "quadrille/quadrillelaw37.StrsParts", spec := "strsParts", inPlace := ["internal/bytealg.IndexByteString", "internal/bytealg.IndexString", "internal/abi.NoEscape"], named := ["internal/bytealg.MaxLen"], apart := false }
def StrsPartsSaid : Prop := strsPartsRow.holds Try.pinned (OpenSpec.ofChange strsPartsSpec)

/-- ITS FALSE NEIGHBOUR: 'it returns false'. Refute it at one input. -/
def strsPartsWrong : ChangeSpec := { name := "strsParts", fn := fun _ => fun
  | [d1, d2, d3] => { results := [.lit (.bool false)], args := [d1, d2, d3] }
  | _ => none }
def StrsPartsWrongFalsely : Prop := strsPartsRow.holds Try.pinned (OpenSpec.ofChange strsPartsWrong)

/-- 'quadrillelaw37.StrsFinds': WHATEVER THE INPUT: true; the input reads as it did. -/
def strsFindsSpec : ChangeSpec := { name := "strsFinds", fn := fun _ => fun
  | [d1, d2, d3] => { results := [.lit (.bool true)], args := [d1, d2, d3] }
  | _ => none }
def strsFindsRow : OpenClaim := { program := "ytcmpeppjopdeaaa", sum := "f7eaac593e63cd0c056ab7e86841697787c9263dc39f0f19f4b7b900e0719774", func := "quadrille/quadrillelaw37.StrsFinds", spec := "strsFinds", inPlace := ["internal/bytealg.IndexByteString", "internal/bytealg.IndexString", "internal/abi.NoEscape"], named := ["internal/bytealg.MaxLen"], apart := false }
def StrsFindsSaid : Prop := strsFindsRow.holds Try.pinned (OpenSpec.ofChange strsFindsSpec)

/-- ITS FALSE NEIGHBOUR: 'it returns false'. Refute it at one input. -/
def strsFindsWrong : ChangeSpec := { name := "strsFinds", fn := fun _ => fun
  | [d1, d2, d3] => { results := [.lit (.bool false)], args := [d1, d2, d3] }
  | _ => none }
def StrsFindsWrongFalsely : Prop := strsFindsRow.holds Try.pinned (OpenSpec.ofChange strsFindsWrong)

/- THE SECOND FORM. 'bulk': how many values and letters a reading holds, each counted each time it is reached (what is shared counts as often as it is met; a slice's spare places count too). A statement '..UptoSaid' is the law's where the arguments, and the package variables that the reading takes, are together of bulk at most 1048576: NARROWER than '..Said'. Prove '..Said' where nothing that the law and all that it calls make is longer than what came in: it says more and counts as full. Else prove '..UptoSaid'. A law counts once. -/
mutual
def uptoBulk {H : Type} : DataW H → Nat
  | .lit (.string bytes) => bytes.length + 1
  | .lit _ => 1
  | .nil => 1
  | .ptr d => uptoBulk d + 1
  | .slice elems spare => uptoBulkAll elems + uptoBulkAll spare + 1
  | .agg parts => uptoBulkAll parts + 1
  | .iface _ d => uptoBulk d + 1
  | .map entries => uptoBulkEntries entries + 1
  | .held _ => 1
def uptoBulkAll {H : Type} : List (DataW H) → Nat
  | [] => 0
  | d :: r => uptoBulk d + uptoBulkAll r
def uptoBulkEntries {H : Type} : List (Lit × DataW H) → Nat
  | [] => 0
  | x :: r => uptoBulkEntry x + uptoBulkEntries r
def uptoBulkEntry {H : Type} : Lit × DataW H → Nat
  | (.string bytes, d) => bytes.length + uptoBulk d + 1
  | (_, d) => uptoBulk d + 1
 end
def uptoSmall : (H : Type) → List (DataW H) → Bool := fun _ ds => decide (uptoBulkAll ds ≤ 1048576)
def OpenSpec.upto (s : _root_.Go.ChangeSpec) : _root_.Go.OpenSpec := { _root_.Go.OpenSpec.ofChange s with cond := some uptoSmall }

/-- 'quadrillelaw37.StrsDistances', WHERE WHAT IT READS IS OF BULK AT MOST 1048576: true; the input reads as it did. -/
def strsDistancesUptoRow : OpenClaim := { program := "ytcmpeppjopdeaaa", sum := "f7eaac593e63cd0c056ab7e86841697787c9263dc39f0f19f4b7b900e0719774", func := "quadrille/quadrillelaw37.StrsDistances", spec := "strsDistances", inPlace := ["internal/bytealg.IndexByteString", "internal/bytealg.IndexString", "internal/abi.NoEscape"], named := ["internal/bytealg.MaxLen"], apart := false, narrowed := true }
def StrsDistancesUptoSaid : Prop := strsDistancesUptoRow.holds Try.pinned (OpenSpec.upto strsDistancesSpec)

/-- 'quadrillelaw37.StrsParts', WHERE WHAT IT READS IS OF BULK AT MOST 1048576: true; the input reads as it did. -/
def strsPartsUptoRow : OpenClaim := { program := "ytcmpeppjopdeaaa", sum := "f7eaac593e63cd0c056ab7e86841697787c9263dc39f0f19f4b7b900e0719774", func := "quadrille/quadrillelaw37.StrsParts", spec := "strsParts", inPlace := ["internal/bytealg.IndexByteString", "internal/bytealg.IndexString", "internal/abi.NoEscape"], named := ["internal/bytealg.MaxLen"], apart := false, narrowed := true }
def StrsPartsUptoSaid : Prop := strsPartsUptoRow.holds Try.pinned (OpenSpec.upto strsPartsSpec)

/-- 'quadrillelaw37.StrsFinds', WHERE WHAT IT READS IS OF BULK AT MOST 1048576: true; the input reads as it did. -/
def strsFindsUptoRow : OpenClaim := { program := "ytcmpeppjopdeaaa", sum := "f7eaac593e63cd0c056ab7e86841697787c9263dc39f0f19f4b7b900e0719774", func := "quadrille/quadrillelaw37.StrsFinds", spec := "strsFinds", inPlace := ["internal/bytealg.IndexByteString", "internal/bytealg.IndexString", "internal/abi.NoEscape"], named := ["internal/bytealg.MaxLen"], apart := false, narrowed := true }
def StrsFindsUptoSaid : Prop := strsFindsUptoRow.holds Try.pinned (OpenSpec.upto strsFindsSpec)

end Rows
end Go.Proofs.Ytcmpeppjopdeaaa
