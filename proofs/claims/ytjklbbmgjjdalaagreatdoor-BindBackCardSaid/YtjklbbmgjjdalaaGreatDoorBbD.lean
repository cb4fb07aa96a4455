/- A region that draws its order, walked in one order of the prover's choice: its reads as soon as they may come up, by the quick rules; whatever else, one after the other, by the walk. No function of the program. A region that draws its order and whose last operation is a store that turns what the region reads: as in the text Sched, what is kept is asked for ahead of the store alone. No function of the program. -/
import Derived.Test.YtjklbbmgjjdalaaGreatDoorBbC
import Derived.OrdersHeld
set_option linter.unusedSimpArgs false
set_option linter.unusedVariables false
namespace Go.Proofs.YtjklbbmgjjdalaaGreatDoor
open Go.RowKit
def readB (o : Oper) : Bool := match o.op with
  | .move _ | .assign _ | .pick _ _ _ | .load _ _ | .binOp _ _ _ _ _ | .unOp _ _ _ | .convert _ _ _ | .fieldAddr _ _ _ | .field _ _ _ | .indexAddr _ _ _ | .index _ _ _ | .extract _ _ | .build _ _ => true
  | _ => false
theorem val_bind {P : Program} {α : Type} {s : Sem α} {f : α → Value} {w w' : World} {n : Next} (h : (do pure (Next.value (f (← s))) : Sem Next).run P w = .ok n w') : ∃ v, n = .value v := by
  simp only [Sem.run_bind, Result.andThen] at h
  cases hs : s.run P w with
  | ok v w1 =>
    rw [hs] at h
    simp at h
    exact ⟨f v, h.1.symm⟩
  | _ => rw [hs] at h; simp at h
theorem read_value {P : Program} {o : Oper} {e : Operand → Value} {w w' : World} {n : Next} (h : readB o = true) (hr : (execOp e o).run P w = .ok n w') : ∃ v, n = .value v := by
  unfold readB at h
  unfold execOp at hr
  cases hop : o.op <;> rw [hop] at h hr <;> simp only [Bool.false_eq_true] at h
  all_goals first
    | exact val_bind (f := id) hr
    | exact val_bind (f := fun b => if b = true then _ else _) hr
    | (simp at hr; exact ⟨_, hr.1.symm⟩)
section
variable {P : Program} {ops : Array Oper} {md : Region.Mode} {S : World → Prop} {QQ : Act → World → Prop}
def OnlyOn (QQ : Act → World → Prop) : Exit → Act → World → Prop := fun e a w => e = .normal ∧ QQ a w
theorem read_yields {o : Oper} {a : Act} {K : Act → Prop} (hrd : readB o = true) (hw : Region.wanted o (yielded ops a.tmps) = true) (hS : ∃ w, S w) (h : o.quiet P a S K) : ∃ v, YieldsIf P ops S o v a ∧ K (a.put o.dst v) := by
  obtain ⟨v, h1, h2⟩ := h
  refine ⟨v, .inl ⟨hw, fun w hw' => ?_⟩, h2⟩
  have h3 := h1 w hw'
  unfold Oper.quietAt at h3
  cases hr : (execOp a.eval o).run P w with
  | ok n w1 =>
    rw [hr] at h3
    obtain ⟨u, rfl⟩ := read_value hrd hr
    obtain ⟨rfl, rfl⟩ := h3
    rfl
  | _ => rw [hr] at h3; exact h3.elim
theorem take_read {i : Nat} {o : Oper} {fuel : Nat} {listed : Array Bool} {a : Act} {w : World} {rest : List Oper} {K : Act → Prop} (hi : ops[i]? = some o) (hns : Region.noSelect ops = true) (hrd : readB o = true)
    (hf : Region.free md ops listed i = true) (hr : (Region.ready md ops listed).contains i = true) (hS : S w) (h : wpQuiet P ops S K (o :: rest) a)
    (hK : ∀ a', wpQuiet P ops S K rest a' → wpAnyH P md ops (OnlyOn QQ) S fuel (listed.setIfInBounds i true) a' w) : wpAnyH P md ops (OnlyOn QQ) S (fuel + 1) listed a w := by
  have key : ∃ v, YieldsIf P ops S o v a ∧ wpQuiet P ops S K rest (a.put o.dst v) := by
    unfold wpQuiet at h
    by_cases hw : Region.wanted o (yielded ops a.tmps) = true
    · rw [if_pos hw] at h
      exact read_yields hrd hw ⟨w, hS⟩ h
    · rw [if_neg hw] at h
      exact ⟨undef, .inr ⟨by simpa using hw, rfl⟩, h⟩
  obtain ⟨v, hy, hk⟩ := key
  exact wpAnyH_first hi (Region.noSelect_spec hns) (fun c a w h => by cases h.1) fuel listed a w (Region.free_spec hi hf) (by simpa using hr) hy hS (hK _ hk)
theorem wp_loud {o : Oper} {a : Act} {w : World} {K K' : Act → World → Prop} {Q Q' : Exit → Act → World → Prop} (h : ∀ a w, K a w → K' a w) (hp : ∀ c a w, ¬ Q (.panic c) a w) (ho : ¬ LetsOut Q) (hh : o.wp P a w K Q) : o.wp P a w K' Q' := by
  unfold Oper.wp at *
  generalize (execOp a.eval o).run P w = r at *
  cases r with
  | ok n w' =>
    cases n <;> simp only [Oper.upon] at hh ⊢ <;>
      first
        | exact h _ _ hh
        | exact Calls.mono hh (fun e w'' he => by
            cases e with
            | returned v => exact h _ _ he
            | panicked c => exact absurd he (hp _ _ _)
            | outgrown => exact absurd he ho)
        | exact Rows.mono hh (fun _ _ he => h _ _ he)
  | halt x w' =>
    cases x <;> simp only [Oper.upon] at hh ⊢
    case panic => exact absurd hh (hp _ _ _)
theorem take_loud {i : Nat} {o : Oper} {fuel : Nat} {listed : Array Bool} {a : Act} {w : World} {K : Act → World → Prop} (hi : ops[i]? = some o) (hr : Region.ready md ops listed = [i])
    (h : wpList P ops (OnlyOn fun a' w' => S w' ∧ K a' w') [o] a w)
    (hK : ∀ a' w', S w' → K a' w' → wpAnyH P md ops (OnlyOn QQ) S fuel (listed.setIfInBounds i true) a' w') : wpAnyH P md ops (OnlyOn QQ) S (fuel + 1) listed a w := by
  refine ⟨fun h0 => (by rw [hr] at h0; cases h0), fun j hj => ?_⟩
  rw [hr] at hj
  obtain rfl : j = i := by simpa using hj
  unfold wpOp
  simp only [hi]
  unfold wpList at h
  by_cases hw : Region.wanted o (yielded ops a.tmps) = true
  · rw [if_pos hw] at h ⊢
    have ho : ¬ LetsOut (OnlyOn fun a' w' => S w' ∧ K a' w') := fun ⟨_, _, h⟩ => by cases h.1
    rcases h with h | ⟨_, h⟩
    · refine .inl (wp_loud (fun a' w' h' => ?_) (fun c a w h => by cases h.1) ho h)
      obtain ⟨_, h1, h2⟩ := h'
      exact ⟨h1, hK _ _ h1 h2⟩
    · exact absurd h ho
  · rw [if_neg hw] at h ⊢
    obtain ⟨_, h1, h2⟩ := h
    exact ⟨h1, hK _ _ h1 h2⟩
end
def pick (l : List Oper) (is : List Nat) : List Oper := is.filterMap fun i => l[i]?
def readsOK (md : Region.Mode) (ops : Array Oper) : List Nat → Array Bool → Bool
  | [], _ => true
  | i :: r, listed => (match ops[i]? with | some o => readB o | none => false) && (Region.free md ops listed i && ((Region.ready md ops listed).contains i && readsOK md ops r (listed.setIfInBounds i true)))
def marked (listed : Array Bool) (is : List Nat) : Array Bool := is.foldl (fun l i => l.setIfInBounds i true) listed
def segsOK (md : Region.Mode) (ops : Array Oper) : List (List Nat × Nat) → List Nat → Array Bool → Bool
  | [], last, listed => readsOK md ops last listed && (Region.ready md ops (marked listed last)).isEmpty
  | (rs, k) :: more, last, listed => readsOK md ops rs listed && ((ops[k]?).isSome && (Region.ready md ops (marked listed rs) == [k] && segsOK md ops more last ((marked listed rs).setIfInBounds k true)))
def segCount : List (List Nat × Nat) → List Nat → Nat
  | [], last => last.length
  | (rs, _) :: more, last => rs.length + (segCount more last + 1)
def wpSeg (P : Program) (l : List Oper) (S : World → Prop) (QQ : Act → World → Prop) : List (List Nat × Nat) → List Nat → Act → World → Prop
  | [], last, a, w => wpQuiet P l.toArray S (fun a' => QQ a' w) (pick l last) a
  | (rs, k) :: more, last, a, w => wpQuiet P l.toArray S (fun a' => wpList P l.toArray (OnlyOn fun a'' w'' => S w'' ∧ wpSeg P l S QQ more last a'' w'') (pick l [k]) a' w) (pick l rs) a
section
variable {P : Program} {l : List Oper} {md : Region.Mode} {S : World → Prop} {QQ : Act → World → Prop}
theorem reads_go {K : Act → Prop} {fuel : Nat} {w : World} (hns : Region.noSelect l.toArray = true) (hS : S w) : ∀ (rs : List Nat) (listed : Array Bool) (a : Act), readsOK md l.toArray rs listed = true →
    wpQuiet P l.toArray S K (pick l rs) a → (∀ a', K a' → wpAnyH P md l.toArray (OnlyOn QQ) S fuel (marked listed rs) a' w) → wpAnyH P md l.toArray (OnlyOn QQ) S (rs.length + fuel) listed a w
  | [], listed, a, _, h, hK => by
    rw [List.length_nil, Nat.zero_add]
    exact hK a h
  | i :: r, listed, a, hB, h, hK => by
    unfold readsOK at hB
    simp only [Bool.and_eq_true] at hB
    obtain ⟨h1, h2, h3, h4⟩ := hB
    cases ho : l.toArray[i]? with
    | none => rw [ho] at h1; cases h1
    | some o =>
      rw [ho] at h1
      have hl : l[i]? = some o := by simpa using ho
      have hp : pick l (i :: r) = o :: pick l r := by unfold pick; rw [List.filterMap_cons, hl]
      rw [hp] at h
      rw [List.length_cons, Nat.add_right_comm]
      exact take_read ho hns h1 h2 h3 hS h (fun a' h' => reads_go hns hS r _ a' h4 h' hK)
theorem segs_go (hns : Region.noSelect l.toArray = true) : ∀ (sch : List (List Nat × Nat)) (last : List Nat) (listed : Array Bool) (a : Act) (w : World), S w → segsOK md l.toArray sch last listed = true →
    wpSeg P l S QQ sch last a w → wpAnyH P md l.toArray (OnlyOn QQ) S (segCount sch last) listed a w
  | [], last, listed, a, w, hS, hB, h => by
    unfold segsOK at hB
    simp only [Bool.and_eq_true] at hB
    obtain ⟨h1, h2⟩ := hB
    unfold wpSeg at h
    unfold segCount
    rw [← Nat.add_zero last.length]
    exact reads_go (fuel := 0) hns hS last listed a h1 h (fun a' h' => ⟨by simpa using h2, rfl, h'⟩)
  | (rs, k) :: more, last, listed, a, w, hS, hB, h => by
    unfold segsOK at hB
    simp only [Bool.and_eq_true] at hB
    obtain ⟨h1, h2, h3, h4⟩ := hB
    obtain ⟨o, ho⟩ := Option.isSome_iff_exists.1 h2
    have hl : l[k]? = some o := by simpa using ho
    have hp : pick l [k] = [o] := by unfold pick; rw [List.filterMap_cons, hl]; rfl
    unfold wpSeg at h
    unfold segCount
    refine reads_go hns hS rs listed a h1 h (fun a' h' => ?_)
    rw [hp] at h'
    exact take_loud ho (by simpa using h3) h' (fun a'' w'' hS' hk => segs_go hns more last _ a'' w'' hS' h4 hk)
theorem wp_region_sched {id : Nat} {Q : Exit → Act → World → Prop} {a : Act} {w : World} (S : World → Prop) (sch : List (List Nat × Nat)) (last : List Nat) (hm : P.follows .mixedOrders = true) (hns : Region.noSelect l.toArray = true)
    (hB : segsOK .any l.toArray sch last (Array.replicate l.toArray.size false) = true) (hc : segCount sch last = l.toArray.size) (hS : S w.drew)
    (h : wpSeg P l S (Q .normal) sch last a w.drew) : (Code.region id l.toArray true).wp P Q a w := by
  have h1 := segs_go (md := .any) hns sch last _ a w.drew hS hB h
  rw [hc] at h1
  have h2 := wpAny_of_held _ _ _ _ h1
  refine Code.wp_mono (fun e a' w' h' => ?_) (wp_region_any hm h2)
  obtain ⟨rfl, h'⟩ := h'
  exact h'
end
end Go.Proofs.YtjklbbmgjjdalaaGreatDoor
namespace Go.Proofs.YtjklbbmgjjdalaaGreatDoor
open Go.RowKit
section
variable {P : Program} {ops : Array Oper} {md : Region.Mode} {Q : Exit → Act → World → Prop} {T : World → Prop} {kst : Nat}
def KeptT (T : World → Prop) (kst : Nat) (listed : Array Bool) (w : World) : Prop := listed.getD kst false = true ∨ T w
def ClosedL (md : Region.Mode) (ops : Array Oper) (listed : Array Bool) : Prop :=
  ∀ (k : Nat) (ok : Oper), ops[k]? = some ok → listed.getD k false = true → ∀ e ∈ ok.after, Region.binds md e = true → listed.getD e.on false = true
theorem closed_set {listed : Array Bool} {i : Nat} (hc : ClosedL md ops listed) (hr : i ∈ Region.ready md ops listed) : ClosedL md ops (listed.setIfInBounds i true) := by
  intro k ok hk hl e he hb
  by_cases hik : i = k
  · subst hik
    obtain ⟨_, oi, hoi, hall⟩ := mem_ready.1 hr
    rw [hk] at hoi
    cases hoi
    exact getD_set_true (hall e he hb)
  · rw [getD_set_ne false hik] at hl
    exact getD_set_true (hc k ok hk hl e he hb)
def waits (md : Region.Mode) (ops : Array Oper) (kst : Nat) : Nat → Nat → Bool
  | 0, i => i == kst
  | n + 1, i => i == kst || (List.range ops.size).any fun k => (match ops[k]? with | some o => o.after.any fun e => Region.binds md e && e.on == i | none => false) && waits md ops kst n k
theorem waits_listed {listed : Array Bool} (hc : ClosedL md ops listed) (hk : listed.getD kst false = true) : ∀ (n i : Nat), waits md ops kst n i = true → listed.getD i false = true
  | 0, i, h => by
    unfold waits at h
    obtain rfl : i = kst := by simpa using h
    exact hk
  | n + 1, i, h => by
    unfold waits at h
    rw [Bool.or_eq_true] at h
    rcases h with h | h
    · obtain rfl : i = kst := by simpa using h
      exact hk
    · obtain ⟨k, _, h2⟩ := List.any_eq_true.1 h
      rw [Bool.and_eq_true] at h2
      obtain ⟨h2, h3⟩ := h2
      cases ho : ops[k]? with
      | none => rw [ho] at h2; cases h2
      | some o =>
        rw [ho] at h2
        obtain ⟨e, he, h4⟩ := Array.any_eq_true'.1 h2
        rw [Bool.and_eq_true] at h4
        obtain ⟨h4, h5⟩ := h4
        obtain rfl : e.on = i := by simpa using h5
        exact hc k o ho (waits_listed hc hk n k h3) e he h4
theorem kept_ready {listed : Array Bool} {i n : Nat} {w : World} (hw : waits md ops kst n i = true) (hc : ClosedL md ops listed) (hr : i ∈ Region.ready md ops listed) (h : KeptT T kst listed w) : T w := by
  rcases h with h | h
  · have h1 := waits_listed hc h n i hw
    have h2 := (mem_ready.1 hr).1
    simp only [Array.getD_eq_getD_getElem?] at h1 h2
    cases hl : listed[i]? with
    | none => rw [hl] at h1; cases h1
    | some b =>
      rw [hl] at h1 h2
      simp at h1 h2
      rw [h1] at h2; cases h2
  · exact h
theorem kept_set {listed : Array Bool} {i : Nat} {w : World} (hne : i ≠ kst) : KeptT T kst (listed.setIfInBounds i true) w ↔ KeptT T kst listed w := by
  unfold KeptT
  rw [getD_set_ne false hne]
def wpAnyK (P : Program) (md : Region.Mode) (ops : Array Oper) (Q : Exit → Act → World → Prop) (T : World → Prop) (kst : Nat) : Nat → Array Bool → Act → World → Prop
  | 0, listed, a, w => Region.ready md ops listed = [] ∧ Q .normal a w
  | fuel + 1, listed, a, w =>
    (Region.ready md ops listed = [] → Q .normal a w) ∧
    ∀ i ∈ Region.ready md ops listed, wpOp P ops Q i (fun a' w' => KeptT T kst (listed.setIfInBounds i true) w' ∧ wpAnyK P md ops Q T kst fuel (listed.setIfInBounds i true) a' w') a w
theorem wpAny_of_K : ∀ (fuel : Nat) (listed : Array Bool) (a : Act) (w : World), wpAnyK P md ops Q T kst fuel listed a w → wpAny P md ops Q fuel listed a w
  | 0, _, _, _, h => h
  | fuel + 1, _, _, _, h => ⟨h.1, fun i hi => wpOp_mono (fun a' w' h' => wpAny_of_K fuel _ a' w' h'.2) (h.2 i hi)⟩
theorem wpAnyK_first {i n : Nat} {oi : Oper} {v : Value} (hi : ops[i]? = some oi) (hsel : ∀ (j : Nat) (o : Oper) cs b, ops[j]? = some o → o.op ≠ .select cs b)
    (hQ : ∀ c a w, Q (.panic c) (a.put oi.dst v) w → Q (.panic c) a w) (hw : waits md ops kst n i = true) (hne : i ≠ kst) :
    ∀ (fuel : Nat) (listed : Array Bool) (a : Act) (w : World), ClosedL md ops listed →
      (∀ j oj, ops[j]? = some oj → j ≠ i → listed.getD j true = false → (∀ e ∈ oj.after, Region.binds md e = true → e.on ≠ i) → oi.apart ops oj = true) →
      i ∈ Region.ready md ops listed → YieldsIf P ops T oi v a → KeptT T kst listed w →
      wpAnyK P md ops Q T kst fuel (listed.setIfInBounds i true) (a.put oi.dst v) w → wpAnyK P md ops Q T kst (fuel + 1) listed a w := by
  intro fuel
  induction fuel with
  | zero =>
    intro listed a w hc _ hr hy hS H
    refine ⟨fun h => (by rw [h] at hr; cases hr), fun j hj => ?_⟩
    by_cases hji : j = i
    · subst hji; exact hy.wpOp hi (kept_ready hw hc hr hS) ⟨(kept_set hne).2 hS, H⟩
    · have := ready_mono hj hji
      rw [H.1] at this
      cases this
  | succ fuel ih =>
    intro listed a w hc hfree hr hy hS H
    refine ⟨fun h => (by rw [h] at hr; cases hr), fun j hj => ?_⟩
    by_cases hji : j = i
    · subst hji; exact hy.wpOp hi (kept_ready hw hc hr hS) ⟨(kept_set hne).2 hS, H⟩
    · have h1 := H.2 j (ready_mono hj hji)
      obtain ⟨hjun, oj, hoj, hall⟩ := mem_ready.1 hj
      have hnot : ∀ e ∈ oj.after, Region.binds md e = true → e.on ≠ i := fun e he hb heq => by
        have h1 := hall e he hb
        have h0 := (mem_ready.1 hr).1
        rw [heq] at h1
        rcases Nat.lt_or_ge i listed.size with h' | h'
        · simp [h'] at h0 h1; rw [h0] at h1; cases h1
        · simp [Array.getElem?_eq_none h'] at h1
      have h2 := wpOp_putIf hoj (hfree j oj hoj hji hjun hnot) (fun cs b => hsel i oi cs b hi) (fun cs b => hsel j oj cs b hoj) hQ hy h1
      have hfree' : ∀ k ok, ops[k]? = some ok → k ≠ i → (listed.setIfInBounds j true).getD k true = false →
          (∀ e ∈ ok.after, Region.binds md e = true → e.on ≠ i) → oi.apart ops ok = true := fun k ok hk hki hun hno => by
        refine hfree k ok hk hki ?_ hno
        by_cases hjk : j = k
        · subst hjk; exact hjun
        · rw [getD_set_ne true hjk] at hun; exact hun
      refine wpOp_mono (fun a' w' h3 => ?_) h2
      obtain ⟨hy', hS', H'⟩ := h3
      rw [Array.setIfInBounds_comm _ _ (fun h => hji h.symm)] at H' hS'
      have hS2 := (kept_set hne).1 hS'
      exact ⟨hS2, ih _ a' w' (closed_set hc hj) hfree' (ready_mono hr (fun h => hji h.symm)) hy' hS2 H'⟩
theorem take_readK {QQ : Act → World → Prop} {i n : Nat} {o : Oper} {fuel : Nat} {listed : Array Bool} {a : Act} {w : World} {rest : List Oper} {K : Act → Prop} (hi : ops[i]? = some o) (hns : Region.noSelect ops = true) (hrd : readB o = true)
    (hwt : waits md ops kst n i = true) (hne : i ≠ kst) (hc : ClosedL md ops listed)
    (hf : Region.free md ops listed i = true) (hr : (Region.ready md ops listed).contains i = true) (hS : T w) (h : wpQuiet P ops T K (o :: rest) a)
    (hK : ∀ a', wpQuiet P ops T K rest a' → wpAnyK P md ops (OnlyOn QQ) T kst fuel (listed.setIfInBounds i true) a' w) : wpAnyK P md ops (OnlyOn QQ) T kst (fuel + 1) listed a w := by
  have key : ∃ v, YieldsIf P ops T o v a ∧ wpQuiet P ops T K rest (a.put o.dst v) := by
    unfold wpQuiet at h
    by_cases hw : Region.wanted o (yielded ops a.tmps) = true
    · rw [if_pos hw] at h
      exact read_yields hrd hw ⟨w, hS⟩ h
    · rw [if_neg hw] at h
      exact ⟨undef, .inr ⟨by simpa using hw, rfl⟩, h⟩
  obtain ⟨v, hy, hk⟩ := key
  exact wpAnyK_first hi (Region.noSelect_spec hns) (fun c a w h => by cases h.1) hwt hne fuel listed a w hc (Region.free_spec hi hf) (by simpa using hr) hy (.inr hS) (hK _ hk)
theorem take_loudK {QQ : Act → World → Prop} {i : Nat} {o : Oper} {fuel : Nat} {listed : Array Bool} {a : Act} {w : World} {K : Act → World → Prop} (hi : ops[i]? = some o) (hr : Region.ready md ops listed = [i])
    (h : wpList P ops (OnlyOn K) [o] a w)
    (hK : ∀ a' w', K a' w' → KeptT T kst (listed.setIfInBounds i true) w' ∧ wpAnyK P md ops (OnlyOn QQ) T kst fuel (listed.setIfInBounds i true) a' w') : wpAnyK P md ops (OnlyOn QQ) T kst (fuel + 1) listed a w := by
  refine ⟨fun h0 => (by rw [hr] at h0; cases h0), fun j hj => ?_⟩
  rw [hr] at hj
  obtain rfl : j = i := by simpa using hj
  unfold wpOp
  simp only [hi]
  unfold wpList at h
  by_cases hw : Region.wanted o (yielded ops a.tmps) = true
  · rw [if_pos hw] at h ⊢
    have ho : ¬ LetsOut (OnlyOn K) := fun ⟨_, _, h⟩ => by cases h.1
    rcases h with h | ⟨_, h⟩
    · refine .inl (wp_loud (fun a' w' h' => ?_) (fun c a w h => by cases h.1) ho h)
      exact hK _ _ h'.2
    · exact absurd h ho
  · rw [if_neg hw] at h ⊢
    exact hK _ _ h.2
end
def readsOKK (md : Region.Mode) (ops : Array Oper) (kst : Nat) : List Nat → Array Bool → Bool
  | [], _ => true
  | i :: r, listed => (match ops[i]? with | some o => readB o | none => false) && ((waits md ops kst ops.size i && i != kst) && (Region.free md ops listed i && ((Region.ready md ops listed).contains i && readsOKK md ops kst r (listed.setIfInBounds i true))))
def segsOKK (md : Region.Mode) (ops : Array Oper) (kst : Nat) : List (List Nat × Nat) → List Nat → Array Bool → Bool
  | [], last, listed => readsOKK md ops kst last listed && ((ops[kst]?).isSome && ((Region.ready md ops (marked listed last) == [kst] && decide (kst < (marked listed last).size)) && (Region.ready md ops ((marked listed last).setIfInBounds kst true)).isEmpty))
  | (rs, k) :: more, last, listed => readsOKK md ops kst rs listed && ((ops[k]?).isSome && (Region.ready md ops (marked listed rs) == [k] && segsOKK md ops kst more last ((marked listed rs).setIfInBounds k true)))
def segCountK : List (List Nat × Nat) → List Nat → Nat
  | [], last => last.length + 1
  | (rs, _) :: more, last => rs.length + (segCountK more last + 1)
def wpSegK (P : Program) (l : List Oper) (T : World → Prop) (QQ : Act → World → Prop) (kst : Nat) : List (List Nat × Nat) → List Nat → Act → World → Prop
  | [], last, a, w => wpQuiet P l.toArray T (fun a' => wpList P l.toArray (OnlyOn QQ) (pick l [kst]) a' w) (pick l last) a
  | (rs, k) :: more, last, a, w => wpQuiet P l.toArray T (fun a' => wpList P l.toArray (OnlyOn fun a'' w'' => T w'' ∧ wpSegK P l T QQ kst more last a'' w'') (pick l [k]) a' w) (pick l rs) a
section
variable {P : Program} {l : List Oper} {md : Region.Mode} {T : World → Prop} {QQ : Act → World → Prop} {kst : Nat}
theorem reads_goK {K : Act → Prop} {fuel : Nat} {w : World} (hns : Region.noSelect l.toArray = true) (hS : T w) : ∀ (rs : List Nat) (listed : Array Bool) (a : Act), ClosedL md l.toArray listed → readsOKK md l.toArray kst rs listed = true →
    wpQuiet P l.toArray T K (pick l rs) a → (∀ a', ClosedL md l.toArray (marked listed rs) → K a' → wpAnyK P md l.toArray (OnlyOn QQ) T kst fuel (marked listed rs) a' w) → wpAnyK P md l.toArray (OnlyOn QQ) T kst (rs.length + fuel) listed a w
  | [], listed, a, hc, _, h, hK => by
    rw [List.length_nil, Nat.zero_add]
    exact hK a hc h
  | i :: r, listed, a, hc, hB, h, hK => by
    unfold readsOKK at hB
    simp only [Bool.and_eq_true] at hB
    obtain ⟨h1, ⟨h5, h6⟩, h2, h3, h4⟩ := hB
    cases ho : l.toArray[i]? with
    | none => rw [ho] at h1; cases h1
    | some o =>
      rw [ho] at h1
      have hl : l[i]? = some o := by simpa using ho
      have hp : pick l (i :: r) = o :: pick l r := by unfold pick; rw [List.filterMap_cons, hl]
      rw [hp] at h
      rw [List.length_cons, Nat.add_right_comm]
      exact take_readK ho hns h1 h5 (by simpa using h6) hc h2 h3 hS h (fun a' h' => reads_goK hns hS r _ a' (closed_set hc (by simpa using h3)) h4 h' hK)
theorem segs_goK (hns : Region.noSelect l.toArray = true) : ∀ (sch : List (List Nat × Nat)) (last : List Nat) (listed : Array Bool) (a : Act) (w : World), ClosedL md l.toArray listed → T w → segsOKK md l.toArray kst sch last listed = true →
    wpSegK P l T QQ kst sch last a w → wpAnyK P md l.toArray (OnlyOn QQ) T kst (segCountK sch last) listed a w
  | [], last, listed, a, w, hc, hS, hB, h => by
    unfold segsOKK at hB
    simp only [Bool.and_eq_true] at hB
    obtain ⟨h1, h2, ⟨h3, h4⟩, h5⟩ := hB
    obtain ⟨o, ho⟩ := Option.isSome_iff_exists.1 h2
    have hl : l[kst]? = some o := by simpa using ho
    have hp : pick l [kst] = [o] := by unfold pick; rw [List.filterMap_cons, hl]; rfl
    unfold wpSegK at h
    unfold segCountK
    refine reads_goK hns hS last listed a hc h1 h (fun a' hc' h' => ?_)
    rw [hp] at h'
    refine take_loudK ho (by simpa using h3) h' (fun a'' w'' hk => ?_)
    refine ⟨.inl ?_, by simpa using h5, rfl, hk⟩
    have h4' : kst < (marked listed last).size := by simpa using h4
    simp [Array.getD_eq_getD_getElem?, h4']
  | (rs, k) :: more, last, listed, a, w, hc, hS, hB, h => by
    unfold segsOKK at hB
    simp only [Bool.and_eq_true] at hB
    obtain ⟨h1, h2, h3, h4⟩ := hB
    obtain ⟨o, ho⟩ := Option.isSome_iff_exists.1 h2
    have hl : l[k]? = some o := by simpa using ho
    have hp : pick l [k] = [o] := by unfold pick; rw [List.filterMap_cons, hl]; rfl
    unfold wpSegK at h
    unfold segCountK
    refine reads_goK hns hS rs listed a hc h1 h (fun a' hc' h' => ?_)
    rw [hp] at h'
    have h3' : Region.ready md l.toArray (marked listed rs) = [k] := by simpa using h3
    exact take_loudK ho h3' h' (fun a'' w'' hk => ⟨.inr hk.1, segs_goK hns more last _ a'' w'' (closed_set hc' (by rw [h3']; exact List.mem_singleton_self k)) hk.1 h4 hk.2⟩)
theorem closed_none {n : Nat} {ops : Array Oper} : ClosedL md ops (Array.replicate n false) := by
  intro k ok _ h
  by_cases hk : k < n
  · simp [Array.getD_eq_getD_getElem?, hk] at h
  · simp [Array.getD_eq_getD_getElem?, hk] at h
theorem wp_region_schedT {id : Nat} {Q : Exit → Act → World → Prop} {a : Act} {w : World} (T : World → Prop) (kst : Nat) (sch : List (List Nat × Nat)) (last : List Nat) (hm : P.follows .mixedOrders = true) (hns : Region.noSelect l.toArray = true)
    (hB : segsOKK .any l.toArray kst sch last (Array.replicate l.toArray.size false) = true) (hc : segCountK sch last = l.toArray.size) (hS : T w.drew)
    (h : wpSegK P l T (Q .normal) kst sch last a w.drew) : (Code.region id l.toArray true).wp P Q a w := by
  have h1 := segs_goK (md := .any) hns sch last _ a w.drew closed_none hS hB h
  rw [hc] at h1
  have h2 := wpAny_of_K _ _ _ _ h1
  refine Code.wp_mono (fun e a' w' h' => ?_) (wp_region_any hm h2)
  obtain ⟨rfl, h'⟩ := h'
  exact h'
end
end Go.Proofs.YtjklbbmgjjdalaaGreatDoor
