/- Small lemmas for walks over worlds that a contract leaves as a variable: side conditions on blocks as equations of addresses, which the walk decides by linear arithmetic. -/
import Derived.Test.YtjklbbmgjjdalaaGreatDoorRows
import Derived.WalkKit
import Derived.WalkSpells
import Derived.WalkLawsBesides
import Derived.Handy
import Derived.Deep.QuietTactic
import Derived.BigQuiet
import Derived.Deep.RegionHeld3
import Derived.Deep.DrawnRows
import Derived.Lib.Hide
set_option linter.unusedSimpArgs false
set_option linter.unusedVariables false

namespace Go.Proofs.YtjklbbmgjjdalaaGreatDoor
open Go.RowKit

/-- 'b is below n', as an equation of addresses. -/
abbrev Lo (b n : Nat) : Prop := (⟨b + 1 - n, 0, none⟩ : Addr) = ⟨0, 0, none⟩
theorem lo_lt {b n : Nat} (h : Lo b n) : b < n := by
  have := congrArg Addr.block h
  simp only at this
  omega

@[go_sem] theorem cell_past_lo (w : World) (o : Obj) (n i : Nat) (h : (⟨n + 1 - w.heap.size, 0, none⟩ : Addr) = ⟨0, 0, none⟩) : (w.alloc o).cell? ⟨n, i, none⟩ = w.cell? ⟨n, i, none⟩ :=
  World.cell?_alloc_past (w := w) o n i (lo_lt h)
@[go_sem] theorem frozen_past_lo (w : World) (o : Obj) (n i : Nat) (h : (⟨n + 1 - w.heap.size, 0, none⟩ : Addr) = ⟨0, 0, none⟩) : (w.alloc o).frozen? ⟨n, i, none⟩ = w.frozen? ⟨n, i, none⟩ :=
  World.frozen?_alloc_past (w := w) o n i (lo_lt h)

/-- What a contract's 'Below' says of old cells and marks, and of the size. -/
theorem bcell {W w1 : World} {n : Nat} (hb : Below W.heap.size W w1) (hn : W.heap.size = n) :
    (∀ b o, (⟨b + 1 - n, 0, none⟩ : Addr) = ⟨0, 0, none⟩ → w1.cell? ⟨b, o, none⟩ = W.cell? ⟨b, o, none⟩) ∧ (∀ b o, (⟨b + 1 - n, 0, none⟩ : Addr) = ⟨0, 0, none⟩ → w1.frozen? ⟨b, o, none⟩ = W.frozen? ⟨b, o, none⟩) ∧ n ≤ w1.heap.size := by
  subst hn
  exact ⟨fun b o h => hb.cell (p := ⟨b, o, none⟩) (lo_lt h), fun b o h => hb.frozen (p := ⟨b, o, none⟩) (lo_lt h), hb.size⟩

theorem bel_drewN {B : Nat} {a w : World} (h : Below B a w) (n : Nat) : Below B a (w.drewN n) := ⟨h.os, h.tape, h.output, h.size, h.block⟩
/-- A contract's 'Below', joined to what is known of the world ahead of the call. -/
theorem bel_call {B : Nat} {a w w' : World} (hb : Below w.heap.size w w') (h : Below B a w) (hB : B ≤ w.heap.size) : Below B a w' := h.trans (hb.mono hB)
end Go.Proofs.YtjklbbmgjjdalaaGreatDoor
