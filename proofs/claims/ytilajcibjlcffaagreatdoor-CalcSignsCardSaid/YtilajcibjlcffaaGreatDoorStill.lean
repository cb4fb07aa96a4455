/- A region that draws its order, reads, calls callees that leave the world alone, and ends in a forced tail (a store, an append): walked by the quick rules of a quiet region. No function of the program. -/
import Derived.Test.YtilajcibjlcffaaGreatDoorBase
import Derived.StillTailTactics
import Derived.Deep.QuietTactic
import Derived.BigQuiet
set_option linter.unusedSimpArgs false
set_option linter.unusedVariables false

namespace Go.Proofs.YtilajcibjlcffaaGreatDoor
open Go.RowKit

/-- A quiet walk in one world alone is a still one. -/
theorem still_of_quiet {P : Program} {ops : Array Oper} {w : World} {Q : Act → Prop} : ∀ (l : List Oper) (a : Act), wpQuiet P ops (fun w' => w' = w) Q l a → wpStill P ops w Q l a
  | [], a, h => h
  | o :: rest, a, h => by
    unfold wpQuiet at h
    unfold wpStill
    by_cases hw : Region.wanted o (yielded ops a.tmps) = true
    · rw [if_pos hw] at h ⊢
      obtain ⟨v, h1, h2⟩ := h
      have h1 := h1 w rfl
      have h2 := still_of_quiet rest _ h2
      unfold Oper.quietAt at h1
      unfold Oper.still
      generalize (execOp a.eval o).run P w = r at *
      cases r with
      | ok n w1 =>
        cases n with
        | value u =>
          obtain ⟨rfl, rfl⟩ := h1
          exact ⟨rfl, h2⟩
        | skip =>
          obtain ⟨rfl, rfl⟩ := h1
          exact ⟨rfl, h2⟩
        | enter f args =>
          obtain ⟨rfl, hc⟩ := h1
          exact ⟨rfl, v, hc, h2⟩
        | _ => exact h1.elim
      | _ => exact h1.elim
    · rw [if_neg hw] at h ⊢
      exact still_of_quiet rest _ h
end Go.Proofs.YtilajcibjlcffaaGreatDoor
