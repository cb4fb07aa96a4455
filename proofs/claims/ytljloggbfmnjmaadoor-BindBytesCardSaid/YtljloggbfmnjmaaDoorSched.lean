/- A region that draws its order, walked in one order of the prover's choice: its reads as soon as they may come up, by the quick rules; whatever else, one after the other, by the walk. No function of the program. -/
import Derived.Test.YtljloggbfmnjmaaDoorQuickH
import Derived.OrdersHeld
set_option linter.unusedSimpArgs false
set_option linter.unusedVariables false
namespace Go.Proofs.YtljloggbfmnjmaaDoor
open Go.RowKit

/-- Operations that only read. -/
def readB (o : Oper) : Bool := match o.op with
  | .move _ | .assign _ | .pick _ _ _ | .load _ _ | .binOp _ _ _ _ _ | .unOp _ _ _ | .convert _ _ _ | .fieldAddr _ _ _ | .field _ _ _ | .indexAddr _ _ _ | .index _ _ _ | .extract _ _ | .build _ _ => true
  | _ => false
theorem val_bind {P : Program} {α : Type} {s : Sem α} {f : α → Value} {w w' : World} {n : Next} (h : (do pure (Next.value (f (← s))) : Sem Next).run P w = .ok n w') : ∃ v, n = .value v := by
  simp only [Sem.run_bind, Result.andThen] at h
  cases hs : s.run P w with
  | ok v w1 =>
    rw [hs] at h
    simp at h
    exact ⟨f v, h.1.symm⟩
  | _ => rw [hs] at h; simp at h
theorem read_value {P : Program} {o : Oper} {e : Operand → Value} {w w' : World} {n : Next} (h : readB o = true) (hr : (execOp e o).run P w = .ok n w') : ∃ v, n = .value v := by
  unfold readB at h
  unfold execOp at hr
  cases hop : o.op <;> rw [hop] at h hr <;> simp only [Bool.false_eq_true] at h
  all_goals first
    | exact val_bind (f := id) hr
    | exact val_bind (f := fun b => if b = true then _ else _) hr
    | (simp at hr; exact ⟨_, hr.1.symm⟩)

section
variable {P : Program} {ops : Array Oper} {md : Region.Mode} {S : World → Prop} {QQ : Act → World → Prop}
/-- The ending of a region: it goes on, and this holds. -/
def OnlyOn (QQ : Act → World → Prop) : Exit → Act → World → Prop := fun e a w => e = .normal ∧ QQ a w

theorem read_yields {o : Oper} {a : Act} {K : Act → Prop} (hrd : readB o = true) (hw : Region.wanted o (yielded ops a.tmps) = true) (hS : ∃ w, S w) (h : o.quiet P a S K) : ∃ v, YieldsIf P ops S o v a ∧ K (a.put o.dst v) := by
  obtain ⟨v, h1, h2⟩ := h
  refine ⟨v, .inl ⟨hw, fun w hw' => ?_⟩, h2⟩
  have h3 := h1 w hw'
  unfold Oper.quietAt at h3
  cases hr : (execOp a.eval o).run P w with
  | ok n w1 =>
    rw [hr] at h3
    obtain ⟨u, rfl⟩ := read_value hrd hr
    obtain ⟨rfl, rfl⟩ := h3
    rfl
  | _ => rw [hr] at h3; exact h3.elim
/-- One read, taken first. -/
theorem take_read {i : Nat} {o : Oper} {fuel : Nat} {listed : Array Bool} {a : Act} {w : World} {rest : List Oper} {K : Act → Prop} (hi : ops[i]? = some o) (hns : Region.noSelect ops = true) (hrd : readB o = true)
    (hf : Region.free md ops listed i = true) (hr : (Region.ready md ops listed).contains i = true) (hS : S w) (h : wpQuiet P ops S K (o :: rest) a)
    (hK : ∀ a', wpQuiet P ops S K rest a' → wpAnyH P md ops (OnlyOn QQ) S fuel (listed.setIfInBounds i true) a' w) : wpAnyH P md ops (OnlyOn QQ) S (fuel + 1) listed a w := by
  have key : ∃ v, YieldsIf P ops S o v a ∧ wpQuiet P ops S K rest (a.put o.dst v) := by
    unfold wpQuiet at h
    by_cases hw : Region.wanted o (yielded ops a.tmps) = true
    · rw [if_pos hw] at h
      exact read_yields hrd hw ⟨w, hS⟩ h
    · rw [if_neg hw] at h
      exact ⟨undef, .inr ⟨by simpa using hw, rfl⟩, h⟩
  obtain ⟨v, hy, hk⟩ := key
  exact wpAnyH_first hi (Region.noSelect_spec hns) (fun c a w h => by cases h.1) fuel listed a w (Region.free_spec hi hf) (by simpa using hr) hy hS (hK _ hk)
theorem wp_loud {o : Oper} {a : Act} {w : World} {K K' : Act → World → Prop} {Q Q' : Exit → Act → World → Prop} (h : ∀ a w, K a w → K' a w) (hp : ∀ c a w, ¬ Q (.panic c) a w) (ho : ¬ LetsOut Q) (hh : o.wp P a w K Q) : o.wp P a w K' Q' := by
  unfold Oper.wp at *
  generalize (execOp a.eval o).run P w = r at *
  cases r with
  | ok n w' =>
    cases n <;> simp only [Oper.upon] at hh ⊢ <;>
      first
        | exact h _ _ hh
        | exact Calls.mono hh (fun e w'' he => by
            cases e with
            | returned v => exact h _ _ he
            | panicked c => exact absurd he (hp _ _ _)
            | outgrown => exact absurd he ho)
        | exact Rows.mono hh (fun _ _ he => h _ _ he)
  | halt x w' =>
    cases x <;> simp only [Oper.upon] at hh ⊢
    case panic => exact absurd hh (hp _ _ _)
/-- One operation that is alone: by the walk. -/
theorem take_loud {i : Nat} {o : Oper} {fuel : Nat} {listed : Array Bool} {a : Act} {w : World} {K : Act → World → Prop} (hi : ops[i]? = some o) (hr : Region.ready md ops listed = [i])
    (h : wpList P ops (OnlyOn fun a' w' => S w' ∧ K a' w') [o] a w)
    (hK : ∀ a' w', S w' → K a' w' → wpAnyH P md ops (OnlyOn QQ) S fuel (listed.setIfInBounds i true) a' w') : wpAnyH P md ops (OnlyOn QQ) S (fuel + 1) listed a w := by
  refine ⟨fun h0 => (by rw [hr] at h0; cases h0), fun j hj => ?_⟩
  rw [hr] at hj
  obtain rfl : j = i := by simpa using hj
  unfold wpOp
  simp only [hi]
  unfold wpList at h
  by_cases hw : Region.wanted o (yielded ops a.tmps) = true
  · rw [if_pos hw] at h ⊢
    have ho : ¬ LetsOut (OnlyOn fun a' w' => S w' ∧ K a' w') := fun ⟨_, _, h⟩ => by cases h.1
    rcases h with h | ⟨_, h⟩
    · refine .inl (wp_loud (fun a' w' h' => ?_) (fun c a w h => by cases h.1) ho h)
      obtain ⟨_, h1, h2⟩ := h'
      exact ⟨h1, hK _ _ h1 h2⟩
    · exact absurd h ho
  · rw [if_neg hw] at h ⊢
    obtain ⟨_, h1, h2⟩ := h
    exact ⟨h1, hK _ _ h1 h2⟩
end

/-- The operations of these numbers. -/
def pick (l : List Oper) (is : List Nat) : List Oper := is.filterMap fun i => l[i]?
/-- May these reads come up one after the other? -/
def readsOK (md : Region.Mode) (ops : Array Oper) : List Nat → Array Bool → Bool
  | [], _ => true
  | i :: r, listed => (match ops[i]? with | some o => readB o | none => false) && (Region.free md ops listed i && ((Region.ready md ops listed).contains i && readsOK md ops r (listed.setIfInBounds i true)))
def marked (listed : Array Bool) (is : List Nat) : Array Bool := is.foldl (fun l i => l.setIfInBounds i true) listed
def segsOK (md : Region.Mode) (ops : Array Oper) : List (List Nat × Nat) → List Nat → Array Bool → Bool
  | [], last, listed => readsOK md ops last listed && (Region.ready md ops (marked listed last)).isEmpty
  | (rs, k) :: more, last, listed => readsOK md ops rs listed && ((ops[k]?).isSome && (Region.ready md ops (marked listed rs) == [k] && segsOK md ops more last ((marked listed rs).setIfInBounds k true)))
def segCount : List (List Nat × Nat) → List Nat → Nat
  | [], last => last.length
  | (rs, _) :: more, last => rs.length + (segCount more last + 1)
def wpSeg (P : Program) (l : List Oper) (S : World → Prop) (QQ : Act → World → Prop) : List (List Nat × Nat) → List Nat → Act → World → Prop
  | [], last, a, w => wpQuiet P l.toArray S (fun a' => QQ a' w) (pick l last) a
  | (rs, k) :: more, last, a, w => wpQuiet P l.toArray S (fun a' => wpList P l.toArray (OnlyOn fun a'' w'' => S w'' ∧ wpSeg P l S QQ more last a'' w'') (pick l [k]) a' w) (pick l rs) a

section
variable {P : Program} {l : List Oper} {md : Region.Mode} {S : World → Prop} {QQ : Act → World → Prop}
theorem reads_go {K : Act → Prop} {fuel : Nat} {w : World} (hns : Region.noSelect l.toArray = true) (hS : S w) : ∀ (rs : List Nat) (listed : Array Bool) (a : Act), readsOK md l.toArray rs listed = true →
    wpQuiet P l.toArray S K (pick l rs) a → (∀ a', K a' → wpAnyH P md l.toArray (OnlyOn QQ) S fuel (marked listed rs) a' w) → wpAnyH P md l.toArray (OnlyOn QQ) S (rs.length + fuel) listed a w
  | [], listed, a, _, h, hK => by
    rw [List.length_nil, Nat.zero_add]
    exact hK a h
  | i :: r, listed, a, hB, h, hK => by
    unfold readsOK at hB
    simp only [Bool.and_eq_true] at hB
    obtain ⟨h1, h2, h3, h4⟩ := hB
    cases ho : l.toArray[i]? with
    | none => rw [ho] at h1; cases h1
    | some o =>
      rw [ho] at h1
      have hl : l[i]? = some o := by simpa using ho
      have hp : pick l (i :: r) = o :: pick l r := by unfold pick; rw [List.filterMap_cons, hl]
      rw [hp] at h
      rw [List.length_cons, Nat.add_right_comm]
      exact take_read ho hns h1 h2 h3 hS h (fun a' h' => reads_go hns hS r _ a' h4 h' hK)
theorem segs_go (hns : Region.noSelect l.toArray = true) : ∀ (sch : List (List Nat × Nat)) (last : List Nat) (listed : Array Bool) (a : Act) (w : World), S w → segsOK md l.toArray sch last listed = true →
    wpSeg P l S QQ sch last a w → wpAnyH P md l.toArray (OnlyOn QQ) S (segCount sch last) listed a w
  | [], last, listed, a, w, hS, hB, h => by
    unfold segsOK at hB
    simp only [Bool.and_eq_true] at hB
    obtain ⟨h1, h2⟩ := hB
    unfold wpSeg at h
    unfold segCount
    rw [← Nat.add_zero last.length]
    exact reads_go (fuel := 0) hns hS last listed a h1 h (fun a' h' => ⟨by simpa using h2, rfl, h'⟩)
  | (rs, k) :: more, last, listed, a, w, hS, hB, h => by
    unfold segsOK at hB
    simp only [Bool.and_eq_true] at hB
    obtain ⟨h1, h2, h3, h4⟩ := hB
    obtain ⟨o, ho⟩ := Option.isSome_iff_exists.1 h2
    have hl : l[k]? = some o := by simpa using ho
    have hp : pick l [k] = [o] := by unfold pick; rw [List.filterMap_cons, hl]; rfl
    unfold wpSeg at h
    unfold segCount
    refine reads_go hns hS rs listed a h1 h (fun a' h' => ?_)
    rw [hp] at h'
    exact take_loud ho (by simpa using h3) h' (fun a'' w'' hS' hk => segs_go hns more last _ a'' w'' hS' h4 hk)
/-- THE RULE: the schedule is checked by the kernel. -/
theorem wp_region_sched {id : Nat} {Q : Exit → Act → World → Prop} {a : Act} {w : World} (S : World → Prop) (sch : List (List Nat × Nat)) (last : List Nat) (hm : P.follows .mixedOrders = true) (hns : Region.noSelect l.toArray = true)
    (hB : segsOK .any l.toArray sch last (Array.replicate l.toArray.size false) = true) (hc : segCount sch last = l.toArray.size) (hS : S w.drew)
    (h : wpSeg P l S (Q .normal) sch last a w.drew) : (Code.region id l.toArray true).wp P Q a w := by
  have h1 := segs_go (md := .any) hns sch last _ a w.drew hS hB h
  rw [hc] at h1
  have h2 := wpAny_of_held _ _ _ _ h1
  refine Code.wp_mono (fun e a' w' h' => ?_) (wp_region_any hm h2)
  obtain ⟨rfl, h'⟩ := h'
  exact h'
end
end Go.Proofs.YtljloggbfmnjmaaDoor
