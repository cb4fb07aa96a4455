/- The parser: 'call'. Printed by gen_par.py. -/
import Derived.Test.YtjklbbmgjjdalaaGreatDoorBbQ
import Derived.Test.YtjklbbmgjjdalaaGreatDoorBbW
import Derived.Lib.ConvBytes
set_option linter.unusedSimpArgs false
set_option linter.unusedVariables false
namespace Go.Proofs.YtjklbbmgjjdalaaGreatDoor
open Go.RowKit Go.Joins
structure KeptL (base b : Nat) (w : World) where
  v : World
  h : ∀ k, k < base → k ≠ b → v.heap[k]? = w.heap[k]?
instance (base b : Nat) (w : World) : Nonempty (KeptL base b w) := ⟨⟨w, fun _ _ _ => rfl⟩⟩
theorem KeptL.cell {base b : Nat} {w : World} {k o : Nat} {u : Value} (hk : k < base) (hb : k ≠ b) (hc : w.cell? ⟨k, o, none⟩ = some u) : ∀ x : KeptL base b w, x.v.cell? ⟨k, o, none⟩ = some u := fun x => by
  rw [← hc]
  unfold World.cell?
  rw [x.h k hk hb]
theorem keptL_drew (base b : Nat) (w : World) : ∃ x : KeptL base b w, w.drew = x.v := ⟨⟨w.drew, fun _ _ _ => rfl⟩, rfl⟩
def okR (base : Nat) (w : World) (v : Value) (k : Nat) : Prop := base ≤ k ∧ k < w.heap.size ∧ v.ownBlock ≠ some k
end Go.Proofs.YtjklbbmgjjdalaaGreatDoor
