/- Trees over cells by stamps: the program's take is the document's with the stamps' check (plain). -/
import Derived.Test.YtjklbbmgjjdalaaGreatDoorBbY
set_option linter.unusedSimpArgs false
set_option linter.unusedVariables false
namespace Go.Proofs.YtjklbbmgjjdalaaGreatDoor.Bd
open Go.RowKit Go.Joins
def stO (k : Int) (f g : Rfp) : Bool := if k = 3 then rtP f else if k = 4 then rtP f && rtP g else true
mutual
def stB : Bn → Bool
  | .mk k _ _ f g a => stO k f g && stBL a
def stBL : List Bn → Bool
  | [] => true
  | c :: r => stB c && stBL r
end
theorem tkL_filter {F F' : List UInt8 → Option (Bn × List UInt8)} (h : ∀ L, F' L = (F L).bind fun x => if stB x.1 = true then some x else none) : ∀ c L, tkL F' c L = (tkL F c L).bind fun x => if stBL x.1 = true then some x else none
  | 0, L => by simp [tkL, stBL]
  | c + 1, L => by
    rw [tkL_succ, tkL_succ, h L]
    cases F L with
    | none => rfl
    | some x =>
      simp only [Option.bind_some]
      cases hs : stB x.1 with
      | false =>
        simp only [Bool.false_eq_true, if_false, Option.bind_none]
        cases tkL F c x.2 with
        | none => rfl
        | some y => simp [stBL, hs]
      | true =>
        simp only [if_true, Option.bind_some]
        rw [tkL_filter h c x.2]
        cases tkL F c x.2 with
        | none => rfl
        | some y =>
          cases hl : stBL y.1 <;> simp [stBL, hs, hl]
theorem bytR_3 (S : Option (List UInt8)) (k : Nat) (h3 : k ≠ 3) (h4 : k ≠ 4) : hdP k S = hdQ k S := by
  unfold hdP hdQ
  simp [h3, h4]
theorem map_filter {F F' : List UInt8 → Option (Bn × List UInt8)} (h : ∀ L, F' L = (F L).bind fun x => if stB x.1 = true then some x else none) (k : Int) (u : Int) (t : List UInt8) (f g : Rfp) (c : Nat) (L : List UInt8) (ho : stO k f g = true) :
    ((tkL F' c L).map fun x => ((.mk k u t f g x.1 : Bn), x.2)) = ((tkL F c L).map fun x => ((.mk k u t f g x.1 : Bn), x.2)).bind fun x => if stB x.1 = true then some x else none := by
  rw [tkL_filter h]
  cases tkL F c L with
  | none => rfl
  | some y => cases hl : stBL y.1 <;> simp [stB, ho, hl]
theorem map_lost (F : List UInt8 → Option (Bn × List UInt8)) (k : Int) (u : Int) (t : List UInt8) (f g : Rfp) (c : Nat) (L : List UInt8) (ho : stO k f g = false) :
    none = ((tkL F c L).map fun x => ((.mk k u t f g x.1 : Bn), x.2)).bind fun x => if stB x.1 = true then some x else none := by
  cases tkL F c L with
  | none => rfl
  | some y => simp [stB, ho]
theorem tkN_is : ∀ d L, tkN d L = (rkN d L).bind fun x => if stB x.1 = true then some x else none
  | 0, L => rfl
  | d + 1, L => by
    rw [tkN, rkN]
    obtain ⟨⟨k, O⟩, hi⟩ : ∃ x, intR 8 (some L) = x := ⟨_, rfl⟩
    rw [hi]
    cases O with
    | none => rfl
    | some L1 =>
      simp only
      by_cases hk : k = 0
      · rw [if_pos hk, if_pos hk]; rfl
      rw [if_neg hk, if_neg hk]
      have key : ∀ (h1 h2 : Hd), h1.ok = true → h1.S = h2.S → h1.u = h2.u → h1.t = h2.t → h1.f = h2.f → h1.g = h2.g → stO k h2.f h2.g = true →
          (if h1.ok = true then (match cP k h1.S with
            | (_, none) => none
            | (c, some L3) => (tkL (tkN d) c L3).map fun (x : List Bn × List UInt8) => ((.mk k h1.u h1.t h1.f h1.g x.1 : Bn), x.2)) else none) =
          (match cP k h2.S with
            | (_, none) => none
            | (c, some L3) => (tkL (rkN d) c L3).map fun (x : List Bn × List UInt8) => ((.mk k h2.u h2.t h2.f h2.g x.1 : Bn), x.2)).bind fun x => if stB x.1 = true then some x else none := by
        intro h1 h2 e1 e2 e3 e4 e5 e6 ho
        rw [if_pos e1, e2, e3, e4, e5, e6]
        obtain ⟨⟨c, O3⟩, hc⟩ : ∃ x, cP k h2.S = x := ⟨_, rfl⟩
        rw [hc]
        cases O3 with
        | none => rfl
        | some L3 => exact map_filter (tkN_is d) _ _ _ _ _ _ _ ho
      have lost : ∀ (h1 h2 : Hd), h1.ok = false → stO k h2.f h2.g = false →
          (if h1.ok = true then (match cP k h1.S with
            | (_, none) => none
            | (c, some L3) => (tkL (tkN d) c L3).map fun (x : List Bn × List UInt8) => ((.mk k h1.u h1.t h1.f h1.g x.1 : Bn), x.2)) else none) =
          (match cP k h2.S with
            | (_, none) => none
            | (c, some L3) => (tkL (rkN d) c L3).map fun (x : List Bn × List UInt8) => ((.mk k h2.u h2.t h2.f h2.g x.1 : Bn), x.2)).bind fun x => if stB x.1 = true then some x else none := by
        intro h1 h2 e1 ho
        rw [if_neg (by rw [e1]; decide)]
        obtain ⟨⟨c, O3⟩, hc⟩ : ∃ x, cP k h2.S = x := ⟨_, rfl⟩
        rw [hc]
        cases O3 with
        | none => rfl
        | some L3 => exact map_lost _ _ _ _ _ _ _ _ ho
      by_cases h3 : k = 3
      · subst h3
        cases hr : rtP (prR (some L1)).1 with
        | true => exact key (hdP 3 (some L1)) (hdQ 3 (some L1)) hr rfl rfl rfl rfl rfl hr
        | false => exact lost (hdP 3 (some L1)) (hdQ 3 (some L1)) hr hr
      by_cases h4 : k = 4
      · subst h4
        cases hr : rtP (prR (some L1)).1 with
        | false =>
          have e : hdP 4 (some L1) = ⟨0, [], (tkF (some L1)).1.1, rfZ, false, (tkF (some L1)).2⟩ := by
            show (if (tkF (some L1)).1.2 = true then _ else _) = _
            rw [if_neg (show ¬ (tkF (some L1)).1.2 = true by show ¬ rtP (prR (some L1)).1 = true; rw [hr]; decide)]
          rw [e]
          refine lost _ (hdQ 4 (some L1)) rfl ?_
          show (rtP (prR (some L1)).1 && _) = false
          rw [hr]; rfl
        | true =>
          have e : hdP 4 (some L1) = ⟨0, [], (tkF (some L1)).1.1, (tkF (tkF (some L1)).2).1.1, (tkF (tkF (some L1)).2).1.2, (tkF (tkF (some L1)).2).2⟩ := by
            show (if (tkF (some L1)).1.2 = true then _ else _) = _
            rw [if_pos (show (tkF (some L1)).1.2 = true from hr)]
          rw [e]
          cases hr2 : rtP (prR (prR (some L1)).2).1 with
          | true => exact key _ (hdQ 4 (some L1)) hr2 rfl rfl rfl rfl rfl (by show (rtP (prR (some L1)).1 && rtP (prR (prR (some L1)).2).1) = true; rw [hr, hr2]; rfl)
          | false => exact lost _ (hdQ 4 (some L1)) hr2 (by show (rtP (prR (some L1)).1 && rtP (prR (prR (some L1)).2).1) = false; rw [hr, hr2]; rfl)
      rw [bytR_3 _ k h3 h4]
      have hok : (hdQ k (some L1)).ok = true := by unfold hdQ; repeat' split
                                                   all_goals rfl
      exact key _ _ hok rfl rfl rfl rfl rfl (by unfold stO; rw [if_neg (by omega), if_neg (by omega)])
end Go.Proofs.YtjklbbmgjjdalaaGreatDoor.Bd
