/- A region that keeps the text's order, whose operations only read and whose callees end in Below, walked by the quick rules of a quiet region. No function of the program. -/
import Derived.Test.YtjklbbmgjjdalaaGreatDoorBase
import Derived.StillTailTactics
import Derived.Deep.QuietTactic
import Derived.BigQuiet
import Derived.Lib.QuietBelow
set_option linter.unusedSimpArgs false
set_option linter.unusedVariables false
namespace Go.Proofs.YtjklbbmgjjdalaaGreatDoor
open Go.RowKit
theorem list_of_quiet {P : Program} {ops : Array Oper} {C : World → Prop} {Q : Exit → Act → World → Prop} : ∀ (l : List Oper) (a : Act) (w : World), C w → wpQuiet P ops C (fun a' => ∀ w', C w' → Q .normal a' w') l a → wpList P ops Q l a w
  | [], a, w, hC, h => h w hC
  | o :: rest, a, w, hC, h => by
    unfold wpQuiet at h
    unfold wpList
    by_cases hw : Region.wanted o (yielded ops a.tmps) = true
    · rw [if_pos hw] at h ⊢
      obtain ⟨v, h1, h2⟩ := h
      have h1 := h1 w hC
      have h2 := fun w' hC' => list_of_quiet rest (a.put o.dst v) w' hC' h2
      refine .inl ?_
      unfold Oper.quietAt at h1
      unfold Oper.wp
      generalize (execOp a.eval o).run P w = r at *
      cases r with
      | ok n w1 =>
        cases n with
        | value u =>
          obtain ⟨rfl, rfl⟩ := h1
          exact h2 _ hC
        | skip =>
          obtain ⟨rfl, rfl⟩ := h1
          exact h2 _ hC
        | enter f args =>
          obtain ⟨rfl, h1⟩ := h1
          refine Calls.mono h1 ?_
          rintro e w' ⟨rfl, hC1⟩
          exact h2 _ hC1
        | _ => exact h1.elim
      | _ => exact h1.elim
    · rw [if_neg hw] at h ⊢
      exact list_of_quiet rest _ w hC h
theorem wp_region_plain_below {P : Program} {id : Nat} {Q : Exit → Act → World → Prop} {a : Act} {w : World} {l : List Oper}
    (h : wpQuiet P l.toArray (fun w' => ∃ p : Regrown, w' = Go.Sort.grow (redrawn w p.d) p.os) (fun a' => ∀ w', (∃ p : Regrown, w' = Go.Sort.grow (redrawn w p.d) p.os) → Q .normal a' w') l a) : (Code.region id l.toArray false).wp P Q a w :=
  wp_region_lit (list_of_quiet l a w ⟨⟨w.drawn, #[]⟩, by rw [Go.Sort.grow_empty]; rfl⟩ h)
end Go.Proofs.YtjklbbmgjjdalaaGreatDoor
