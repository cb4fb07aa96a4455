/- Trees over cells by stamps: what the document's reader takes (plain), and that the program's take is the same with the stamps' check. -/
import Derived.Test.YtljloggbfmnjmaaDoorTnC
import Derived.Test.YtljloggbfmnjmaaDoorWirH
set_option linter.unusedSimpArgs false
set_option linter.unusedVariables false
namespace Go.Proofs.YtljloggbfmnjmaaDoor
open Go.RowKit Go.Joins

/-- A node's own part, with no check of its stamps. -/
def hdQ (k : Nat) (S : Option (List UInt8)) : Hd :=
  if k = 1 then ⟨wrap64 ((numR S).1 : Nat), [], rfZ, rfZ, true, (numR S).2⟩
  else if k = 2 ∨ k = 6 ∨ k = 7 then ⟨0, (bytR S).1, rfZ, rfZ, true, (bytR S).2⟩
  else if k = 3 then ⟨0, [], (prR S).1, rfZ, true, (prR S).2⟩
  else if k = 4 then ⟨0, [], (prR S).1, (prR (prR S).2).1, true, (prR (prR S).2).2⟩
  else ⟨0, [], rfZ, rfZ, true, S⟩
/-- A tree that bytes begin with, its stamps unchecked. -/
def rkN : Nat → List UInt8 → Option (Bn × List UInt8)
  | 0, _ => none
  | d + 1, L => match intR 8 (some L) with
    | (_, none) => none
    | (k, some L1) => if k = 0 then none else
      (match cP k (hdQ k (some L1)).S with
        | (_, none) => none
        | (c, some L3) => (tkL (rkN d) c L3).map fun x => (.mk k (hdQ k (some L1)).u (hdQ k (some L1)).t (hdQ k (some L1)).f (hdQ k (some L1)).g x.1, x.2))
/-- May two stamps be? -/
def rtP (x : Rfp) : Bool := rtI x.1 && rtI x.2
theorem tkF_pr (S : Option (List UInt8)) : tkF S = (((prR S).1, rtP (prR S).1), (prR S).2) := rfl
end Go.Proofs.YtljloggbfmnjmaaDoor
