/- Tokens of printed trees: plain part: a text of tokens is cut into them. Tokens of printed trees: plain part: a printed tree is cut into its tokens. The parser in memory: its block, its tokens; 'is'. The parser: 'sign'. The parser: its contracts; chains of signs of one level: plain part. -/
import Derived.Test.YtbdgdhjhgcpidaaGreatDoorSfB
import Derived.Test.YtbdgdhjhgcpidaaGreatDoorSfK
import Derived.Test.YtbdgdhjhgcpidaaGreatDoorSfJ
import Derived.Test.YtbdgdhjhgcpidaaGreatDoorSfN
import Derived.Test.YtbdgdhjhgcpidaaGreatDoorSfO
import Derived.Test.YtbdgdhjhgcpidaaGreatDoorSfQ
set_option linter.unusedSimpArgs false
set_option linter.unusedVariables false
namespace Go.Proofs.YtbdgdhjhgcpidaaGreatDoor
open Go.RowKit Go.Joins
abbrev Tw := Int × Bs
def tw (x : Tks.Tk) : Tw := (x.1, x.2.1)
def tkP (L : Bs) : Option (List Tw) := (Tks.spl L 0).1.map (List.map tw)
theorem run_drop (p : Nat → Bool) (L : Bs) (i j : Nat) : Tks.runN p (L.drop i) j = Tks.runN p L (i + j) := by
  unfold Tks.runN
  rw [List.drop_drop]
theorem num_drop (L : Bs) (i j : Nat) : Tks.numN (L.drop i) j = Tks.numN L (i + j) := by
  unfold Tks.numN
  simp only [run_drop, Tks.nx_drop]
  have e : i + (j + Tks.runN Tks.dgB L (i + j)) = i + j + Tks.runN Tks.dgB L (i + j) := by omega
  have e1 : i + (j + Tks.runN Tks.dgB L (i + j) + 1) = i + j + Tks.runN Tks.dgB L (i + j) + 1 := by omega
  rw [e, e1]
theorem tok_drop (L : Bs) (i : Nat) : Tks.tok (L.drop i) 0 = Tks.tok L i := by
  unfold Tks.tok
  simp only [run_drop, num_drop, Tks.nx_drop, List.drop_drop, Nat.add_zero, Nat.zero_add, Nat.add_comm 1 i]
theorem spl_drop : ∀ (n : Nat) (L : Bs) (i : Nat), L.length - i ≤ n → (Tks.spl L i).1.map (List.map tw) = tkP (L.drop i) := by
  intro n
  induction n with
  | zero =>
    intro L i h
    unfold tkP
    rw [Tks.spl_end L i (by omega), Tks.spl_end (L.drop i) 0 (by rw [List.length_drop]; omega)]
  | succ n ih =>
    intro L i h
    by_cases hi : L.length ≤ i
    · unfold tkP
      rw [Tks.spl_end L i (by omega), Tks.spl_end (L.drop i) 0 (by rw [List.length_drop]; omega)]
    · unfold tkP
      have e0 : Tks.nx (L.drop i) 0 = Tks.nx L i := by rw [Tks.nx_drop]; rfl
      rw [Tks.spl_step L i (by omega), Tks.spl_step (L.drop i) 0 (by rw [List.length_drop]; omega), tok_drop, e0]
      by_cases h32 : Tks.nx L i = 32
      · rw [if_pos h32, if_pos h32, ih L (i + 1) (by omega), ih (L.drop i) (0 + 1) (by rw [List.length_drop]; omega), List.drop_drop, Nat.zero_add]
      · rw [if_neg h32, if_neg h32]
        cases ht : Tks.tok L i with
        | none => rfl
        | some x =>
          obtain ⟨k, t, m⟩ := x
          have hp := (Tks.tok_pos (by omega) ht).1
          have h1 := ih L (i + m) (by omega)
          have h2 := ih (L.drop i) (0 + m) (by rw [List.length_drop]; omega)
          rw [List.drop_drop, Nat.zero_add, ← h1] at h2
          simp only [Nat.zero_add]
          cases h3 : Tks.spl L (i + m) with
          | mk a b =>
            cases h4 : Tks.spl (L.drop i) m with
            | mk a' b' =>
              rw [h3, h4] at h2
              cases a with
              | none =>
                cases a' with
                | none => rfl
                | some a' => cases h2
              | some a =>
                cases a' with
                | none => cases h2
                | some a' =>
                  simp only [Option.map_some, Option.some.injEq] at h2
                  simp only [Option.map_some, List.map_cons, h2]
                  rfl
theorem tkP_nil : tkP [] = some [] := by
  unfold tkP
  rw [Tks.spl_end [] 0 (by simp)]
  rfl
theorem tkP_tok {w r : Bs} {k : Int} {t : Bs} (hw : w ≠ []) (h32 : Tks.nx (w ++ r) 0 ≠ 32) (ht : Tks.tok (w ++ r) 0 = some (k, t, w.length)) : tkP (w ++ r) = (tkP r).map ((k, t) :: ·) := by
  have hl : 0 < (w ++ r).length := by cases w with | nil => exact absurd rfl hw | cons => simp
  have h := spl_drop (w ++ r).length (w ++ r) w.length (by omega)
  rw [List.drop_append_of_le_length (Nat.le_refl _), List.drop_length, List.nil_append] at h
  unfold tkP at h ⊢
  rw [Tks.spl_step _ 0 hl, if_neg h32, ht]
  simp only [Nat.zero_add]
  rw [← h]
  cases h3 : Tks.spl (w ++ r) w.length with
  | mk a b => cases a <;> rfl
theorem nx_app0 (w r : Bs) : Tks.nx (w ++ r) w.length = Tks.nx r 0 := by
  unfold Tks.nx
  simp [List.getD, List.getElem?_append_right]
theorem nx_cons (c : UInt8) (r : Bs) : Tks.nx (c :: r) 0 = c.toNat := rfl
theorem run_all {p : Nat → Bool} (h0 : p 0 = false) : ∀ (a s : Bs), a.all (fun c => p c.toNat) = true → p (Tks.nx s 0) = false → Tks.runN p (a ++ s) 0 = a.length := by
  intro a s ha hs
  unfold Tks.runN
  rw [List.drop_zero]
  induction a with
  | nil =>
    cases s with
    | nil => rfl
    | cons c s => rw [nx_cons] at hs; simp [List.takeWhile_cons, hs]
  | cons c a ih =>
    rw [List.all_cons, Bool.and_eq_true] at ha
    rw [List.cons_append, List.takeWhile_cons, if_pos ha.1, List.length_cons, List.length_cons, ih ha.2]
def Sep (r : Bs) : Prop := Tks.dgB (Tks.nx r 0) = false ∧ Tks.upB (Tks.nx r 0) = false ∧ Tks.nx r 0 ≠ 46 ∧ Tks.nx r 0 ≠ 34
def Ope (r : Bs) : Prop := Tks.nx r 0 ≠ 61 ∧ Tks.nx r 0 ≠ 62
theorem Sep.nil : Sep [] := ⟨rfl, rfl, by decide, by decide⟩
def NumW (w : Bs) : Prop := ∃ a b, w = a ++ b ∧ a ≠ [] ∧ a.all (fun c => Tks.dgB c.toNat) = true ∧ (b = [] ∨ ∃ c, b = 46 :: c ∧ c ≠ [] ∧ c.all (fun c => Tks.dgB c.toNat) = true)
def NamW (w : Bs) : Prop := ∃ c r, w = c :: r ∧ Tks.upB c.toNat = true ∧ r.all (fun c => Tks.nmB c.toNat) = true
theorem tk_num {w r : Bs} (hw : NumW w) (hr : Sep r) : tkP (w ++ r) = (tkP r).map ((1, w) :: ·) := by
  obtain ⟨a, b, rfl, ha, hd, hb⟩ := hw
  obtain ⟨c0, a', rfl⟩ : ∃ c0 a', a = c0 :: a' := by cases a with | nil => exact absurd rfl ha | cons x y => exact ⟨x, y, rfl⟩
  have hc0 : Tks.dgB c0.toNat = true := by rw [List.all_cons, Bool.and_eq_true] at hd; exact hd.1
  have h0 : Tks.nx (c0 :: a' ++ b ++ r) 0 = c0.toNat := rfl
  have hn : Tks.numN (c0 :: a' ++ b ++ r) 0 = (c0 :: a' ++ b).length := by
    unfold Tks.numN
    rw [Nat.zero_add]
    rcases hb with rfl | ⟨c, rfl, hc, hcd⟩
    · rw [List.append_nil, run_all (by rfl) _ _ hd hr.1, nx_app0, if_neg hr.2.2.1]
    · rw [List.append_assoc, run_all (by rfl) (c0 :: a') (46 :: c ++ r) hd (by rw [List.cons_append, nx_cons]; rfl), nx_app0]
      rw [if_pos (by rfl)]
      have e : Tks.runN Tks.dgB (c0 :: a' ++ (46 :: c ++ r)) ((c0 :: a').length + 1) = c.length := by
        have := run_drop Tks.dgB (c0 :: a' ++ (46 :: c ++ r)) ((c0 :: a').length + 1) 0
        rw [Nat.add_zero] at this
        rw [← this, ← List.drop_drop, List.drop_append_of_le_length (Nat.le_refl _), List.drop_length, List.nil_append]
        exact run_all (by rfl) c r hcd hr.1
      rw [e, if_neg (by cases c with | nil => exact absurd rfl hc | cons => simp)]
      simp
      omega
  refine tkP_tok (by simp) (by rw [h0]; intro e; rw [e] at hc0; cases hc0) ?_
  unfold Tks.tok
  rw [h0, if_pos hc0, hn, if_neg (by simp), List.drop_zero, List.take_append_of_le_length (Nat.le_refl _), List.take_length]
theorem tk_nam {w r : Bs} (hw : NamW w) (hr : Sep r) : tkP (w ++ r) = (tkP r).map ((3, w) :: ·) := by
  obtain ⟨c0, a, rfl, hc0, ha⟩ := hw
  have h0 : Tks.nx (c0 :: a ++ r) 0 = c0.toNat := rfl
  have hd : Tks.dgB c0.toNat = false := by
    unfold Tks.upB at hc0
    unfold Tks.dgB
    simp only [Bool.and_eq_true, decide_eq_true_eq] at hc0
    rw [Bool.and_eq_false_iff]
    exact .inr (decide_eq_false (by omega))
  have hn : Tks.runN Tks.nmB (c0 :: a ++ r) 0 = (c0 :: a).length := by
    refine run_all (by rfl) _ _ ?_ ?_
    · rw [List.all_cons, ha]; simp [Tks.nmB, hc0]
    · unfold Tks.nmB; rw [hr.1, hr.2.1]; rfl
  refine tkP_tok (by simp) (by rw [h0]; intro e; rw [e] at hc0; cases hc0) ?_
  unfold Tks.tok
  rw [h0, if_neg (by rw [hd]; simp), if_pos hc0, hn, List.drop_zero, List.take_append_of_le_length (Nat.le_refl _), List.take_length]
theorem quo_dbl (r : Bs) (hr : Tks.nx r 0 ≠ 34) : ∀ t : Bs, Tks.quo (dblT t ++ 34 :: r) = some (t, (dblT t).length + 1)
  | [] => by
    cases r with
    | nil => rfl
    | cons c r =>
      rw [nx_cons] at hr
      show Tks.quo (34 :: c :: r) = _
      rw [Tks.quo, if_pos (by rfl), if_neg hr]
      rfl
  | c :: t => by
    have ih := quo_dbl r hr t
    unfold dblT
    split
    · rename_i h
      subst h
      show Tks.quo (34 :: 34 :: (dblT t ++ 34 :: r)) = _
      rw [Tks.quo, if_pos (by rfl), if_pos (by rfl), ih]
      simp
    · rename_i h
      have h34 : ¬ c.toNat = 34 := fun e => h (UInt8.toNat_inj.1 e)
      obtain ⟨d, q, hq⟩ : ∃ d q, dblT t ++ 34 :: r = d :: q := by
        cases hx : dblT t with
        | nil => exact ⟨_, _, rfl⟩
        | cons x y => exact ⟨_, _, rfl⟩
      show Tks.quo (c :: (dblT t ++ 34 :: r)) = _
      rw [hq] at ih ⊢
      rw [Tks.quo, if_neg h34, ih]
      simp
theorem tk_quo {t r : Bs} (hr : Sep r) : tkP (quoT t ++ r) = (tkP r).map ((2, t) :: ·) := by
  have h0 : Tks.nx (quoT t ++ r) 0 = 34 := rfl
  refine tkP_tok (by unfold quoT; simp) (by rw [h0]; decide) ?_
  have e : (quoT t ++ r).drop (0 + 1) = dblT t ++ 34 :: r := by unfold quoT; simp
  unfold Tks.tok
  rw [h0, if_neg (by decide), if_neg (by decide), if_pos rfl, e, quo_dbl r hr.2.2.2]
  unfold quoT
  simp
theorem tk_ref (r : Bs) : tkP (refBs ++ r) = (tkP r).map ((5, refBs) :: ·) := by
  have h0 : Tks.nx (refBs ++ r) 0 = 35 := rfl
  refine tkP_tok (by decide) (by rw [h0]; decide) ?_
  have hp : Lib.hasPrefix (refBs ++ r) Tks.sREF = true := by
    show ([35, 82, 69, 70, 33] : Bs).isPrefixOf (35 :: 82 :: 69 :: 70 :: 33 :: r) = true
    simp [List.isPrefixOf]
  unfold Tks.tok
  rw [h0, if_neg (by decide), if_neg (by decide), if_neg (by decide), List.drop_zero, hp, if_pos rfl]
  rfl
theorem sgn_app {s : Bs} (hs : s ∈ Tks.sgs) {r : Bs} (hr : s = [60] ∨ s = [62] → Ope r) : Tks.sgn (s ++ r) = s := by
  simp only [Tks.sgs, List.mem_cons, List.not_mem_nil, or_false] at hs
  have key : ∀ c : UInt8, c.toNat ≠ 61 → c.toNat ≠ 62 → ((61 : UInt8) == c) = false ∧ ((62 : UInt8) == c) = false := fun c h1 h2 =>
    ⟨by rw [beq_eq_false_iff_ne]; rintro rfl; exact h1 rfl, by rw [beq_eq_false_iff_ne]; rintro rfl; exact h2 rfl⟩
  rcases hs with rfl | rfl | rfl | rfl | rfl | rfl | rfl | rfl | rfl | rfl | rfl | rfl | rfl | rfl | rfl
  all_goals first
    | (simp [Tks.sgn, Tks.sgs, Lib.hasPrefix, List.find?, List.isPrefixOf]; done)
    | (have h := hr (by simp)
       cases r with
       | nil => rfl
       | cons c r =>
         have hk := key c h.1 h.2
         simp [Tks.sgn, Tks.sgs, Lib.hasPrefix, List.find?, List.isPrefixOf, hk.1, hk.2]; done)
theorem sgs_nx {s : Bs} (hs : s ∈ Tks.sgs) (r : Bs) : (s ++ r ≠ [] ∧ Tks.dgB (Tks.nx (s ++ r) 0) = false ∧ Tks.upB (Tks.nx (s ++ r) 0) = false ∧ Tks.nx (s ++ r) 0 ≠ 34 ∧ Tks.nx (s ++ r) 0 ≠ 32 ∧ Tks.nx (s ++ r) 0 ≠ 46 ∧ Tks.nx (s ++ r) 0 ≠ 35) ∧ s ≠ [] := by
  simp only [Tks.sgs, List.mem_cons, List.not_mem_nil, or_false] at hs
  rcases hs with rfl | rfl | rfl | rfl | rfl | rfl | rfl | rfl | rfl | rfl | rfl | rfl | rfl | rfl | rfl
  all_goals exact ⟨⟨by simp, by rfl, by rfl, by rw [List.cons_append, nx_cons]; decide, by rw [List.cons_append, nx_cons]; decide, by rw [List.cons_append, nx_cons]; decide, by rw [List.cons_append, nx_cons]; decide⟩, by simp⟩
theorem sep_sign {s : Bs} (hs : s ∈ Tks.sgs) (r : Bs) : Sep (s ++ r) := ⟨(sgs_nx hs r).1.2.1, (sgs_nx hs r).1.2.2.1, (sgs_nx hs r).1.2.2.2.2.2.1, (sgs_nx hs r).1.2.2.2.1⟩
theorem tk_sgn {s : Bs} (hs : s ∈ Tks.sgs) {r : Bs} (hr : s = [60] ∨ s = [62] → Ope r) : tkP (s ++ r) = (tkP r).map ((4, s) :: ·) := by
  obtain ⟨⟨h1, h2, h3, h4, h5, h6, h7⟩, hne⟩ := sgs_nx hs r
  have e := sgn_app hs hr
  refine tkP_tok hne h5 ?_
  have hp : Lib.hasPrefix (s ++ r) Tks.sREF = false := by
    cases hp : Lib.hasPrefix (s ++ r) Tks.sREF with
    | false => rfl
    | true =>
      obtain ⟨q, hq⟩ := List.isPrefixOf_iff_prefix.1 hp
      rw [← hq] at h7
      exact absurd rfl h7
  unfold Tks.tok
  rw [if_neg (by rw [h2]; simp), if_neg (by rw [h3]; simp), if_neg h4, List.drop_zero, hp, if_neg (by simp), e, if_neg hne]
end Go.Proofs.YtbdgdhjhgcpidaaGreatDoor
namespace Go.Proofs.YtbdgdhjhgcpidaaGreatDoor
open Go.RowKit Go.Joins
def OkC (k : Int) : Prop := rtC (cC k) (cR k) = true
inductive Fm : Nd → Prop
  | num (u : Int) (h1 : 0 ≤ u) (h2 : u ≤ 9223372036854775807) : Fm (.mk 1 u [] 0 0 [])
  | txt (t : Bs) : Fm (.mk 2 0 t 0 0 [])
  | ref (f : Int) (h : OkC f) : Fm (.mk 3 0 [] f 0 [])
  | rng (f o : Int) (h1 : OkC f) (h2 : OkC o) : Fm (.mk 4 0 [] f o [])
  | neg (a : Nd) (h : Fm a) : Fm (.mk 5 0 [] 0 0 [a])
  | bin (t : Bs) (a b : Nd) (ht : 1 ≤ lvS t) (h1 : Fm a) (h2 : Fm b) : Fm (.mk 6 0 t 0 0 [a, b])
  | cal (t : Bs) (ar : List Nd) (ht : nameB t = true) (hl : ar.length ≤ 16) (h : ∀ c ∈ ar, Fm c) : Fm (.mk 7 0 t 0 0 ar)
  | flt : Fm (.mk 8 0 [] 0 0 [])
mutual
def tkN (nm : Int → Bs) : Nd → Int → List Tw
  | .mk k u t f o a, least =>
    if hdS k t < least then (4, [40]) :: (tkB nm k u t f o (tkAt nm a 0 5) (tkAt nm a 0 (lvS t)) (tkAt nm a 1 (lvS t + 1)) (tkT nm a) ++ [(4, [41])])
    else tkB nm k u t f o (tkAt nm a 0 5) (tkAt nm a 0 (lvS t)) (tkAt nm a 1 (lvS t + 1)) (tkT nm a)
def tkAt (nm : Int → Bs) : List Nd → Nat → Int → List Tw
  | [], _, _ => []
  | c :: r, i, l => if i = 0 then tkN nm c l else tkAt nm r (i - 1) l
def tkT (nm : Int → Bs) : List Nd → List Tw
  | [] => []
  | c :: r => (4, [44]) :: (tkN nm c 1 ++ tkT nm r)
def tkB (nm : Int → Bs) (k u : Int) (t : Bs) (f o : Int) (m5 l6 r6 al : List Tw) : List Tw :=
  if k = 1 then [(1, txt u)] else if k = 2 then [(2, t)] else if k = 3 then [(3, nm f)] else if k = 4 then [(3, nm f), (4, [58]), (3, nm o)]
  else if k = 5 then (4, [45]) :: m5 else if k = 6 then l6 ++ (4, t) :: r6 else if k = 7 then (3, t) :: (4, [40]) :: (al.drop 1 ++ [(4, [41])]) else [(5, refBs)]
end
theorem lvS_sgs {t : Bs} (h : 1 ≤ lvS t) : t ∈ Tks.sgs := by
  unfold lvS at h
  split at h
  · rename_i hm
    simp only [sgS, if_pos, sg1, List.mem_cons, List.not_mem_nil, or_false] at hm
    rcases hm with rfl | rfl | rfl | rfl | rfl | rfl
    all_goals decide
  · split at h
    · rename_i hm
      simp [sgS, sg2] at hm
      subst hm
      decide
    · split at h
      · rename_i hm
        simp [sgS, sg3] at hm
        rcases hm with rfl | rfl
        all_goals decide
      · split at h
        · rename_i hm
          simp [sgS, sg4] at hm
          rcases hm with rfl | rfl
          all_goals decide
        · omega
theorem lvS_pos (t : Bs) : 0 ≤ lvS t ∧ lvS t ≤ 4 := by
  unfold lvS
  repeat' split
  all_goals omega
theorem hdS_pos (k : Int) (t : Bs) : 0 ≤ hdS k t ∧ hdS k t ≤ 6 := by
  have := lvS_pos t
  unfold hdS
  repeat' split
  all_goals omega
theorem prN_split (nm : Int → Bs) (n : Nd) (least : Int) : prN nm n least = if hdS n.kind n.text < least then 40 :: (prN nm n 0 ++ [41]) else prN nm n 0 := by
  cases n with
  | mk k u t f o a =>
    have h0 := hdS_pos k t
    rw [prN, prN, if_neg (show ¬ hdS k t < 0 by omega)]
    rfl
theorem tkN_split (nm : Int → Bs) (n : Nd) (least : Int) : tkN nm n least = if hdS n.kind n.text < least then (4, [40]) :: (tkN nm n 0 ++ [(4, [41])]) else tkN nm n 0 := by
  cases n with
  | mk k u t f o a =>
    have h0 := hdS_pos k t
    rw [tkN, tkN, if_neg (show ¬ hdS k t < 0 by omega)]
    rfl
section
variable (nm : Int → Bs)
theorem pr_rng (f o : Int) : prN nm (.mk 4 0 [] f o []) 0 = nm f ++ 58 :: nm o := rfl
theorem pr_neg (a : Nd) : prN nm (.mk 5 0 [] 0 0 [a]) 0 = 45 :: prN nm a 5 := by
  rw [prN, if_neg (by have := hdS_pos 5 []; omega)]
  unfold prB
  rw [prAt]
  rfl
theorem pr_bin (t : Bs) (a b : Nd) : prN nm (.mk 6 0 t 0 0 [a, b]) 0 = prN nm a (lvS t) ++ t ++ prN nm b (lvS t + 1) := by
  rw [prN, if_neg (by have := hdS_pos 6 t; omega)]
  unfold prB
  rw [prAt, prAt, prAt, prAt]
  rfl
theorem pr_cal (t : Bs) (ar : List Nd) : prN nm (.mk 7 0 t 0 0 ar) 0 = t ++ 40 :: ((prT nm ar).drop 1 ++ [41]) := by
  rw [prN, if_neg (by have := hdS_pos 7 t; omega)]
  unfold prB
  rfl
theorem tk_num' (u : Int) : tkN nm (.mk 1 u [] 0 0 []) 0 = [(1, txt u)] := rfl
theorem tk_txt' (t : Bs) : tkN nm (.mk 2 0 t 0 0 []) 0 = [(2, t)] := rfl
theorem tk_ref' (f : Int) : tkN nm (.mk 3 0 [] f 0 []) 0 = [(3, nm f)] := rfl
theorem tk_rng' (f o : Int) : tkN nm (.mk 4 0 [] f o []) 0 = [(3, nm f), (4, [58]), (3, nm o)] := rfl
theorem tk_neg' (a : Nd) : tkN nm (.mk 5 0 [] 0 0 [a]) 0 = (4, [45]) :: tkN nm a 5 := by
  rw [tkN, if_neg (by have := hdS_pos 5 []; omega)]
  unfold tkB
  rw [tkAt]
  rfl
theorem tk_bin' (t : Bs) (a b : Nd) : tkN nm (.mk 6 0 t 0 0 [a, b]) 0 = tkN nm a (lvS t) ++ (4, t) :: tkN nm b (lvS t + 1) := by
  rw [tkN, if_neg (by have := hdS_pos 6 t; omega)]
  unfold tkB
  rw [tkAt, tkAt, tkAt, tkAt]
  rfl
theorem tk_cal' (t : Bs) (ar : List Nd) : tkN nm (.mk 7 0 t 0 0 ar) 0 = (3, t) :: (4, [40]) :: ((tkT nm ar).drop 1 ++ [(4, [41])]) := by
  rw [tkN, if_neg (by have := hdS_pos 7 t; omega)]
  unfold tkB
  rfl
theorem tk_flt' : tkN nm (.mk 8 0 [] 0 0 []) 0 = [(5, refBs)] := rfl
end
theorem digs_lt10 (n : Nat) : ∀ d ∈ digs n, d < 10 := by
  have key : ∀ (f n : Nat), ∀ d ∈ digsF f n, d < 10 := by
    intro f
    induction f with
    | zero => intro n d h; cases h
    | succ f ih =>
      intro n d h
      unfold digsF at h
      split at h
      · cases h
      · rcases List.mem_cons.1 h with rfl | h
        · omega
        · exact ih _ _ h
  exact key _ _
theorem dgText_dgs (n least : Nat) : (dgText n least).all (fun c => Tks.dgB c.toNat) = true := by
  rw [List.all_eq_true]
  intro c hc
  unfold dgText lettersOf at hc
  rw [List.mem_map] at hc
  obtain ⟨d, hd, rfl⟩ := hc
  rw [List.mem_reverse] at hd
  unfold padL at hd
  have h10 : d < 10 := by
    rcases List.mem_append.1 hd with h | h
    · exact digs_lt10 n d h
    · have := List.eq_of_mem_replicate h
      omega
  unfold Tks.dgB
  rw [UInt8.toNat_ofNat']
  simp
  omega
theorem trimB_all (L : Bs) (c : UInt8) (p : UInt8 → Bool) (h : L.all p = true) : (Lib.trimRightB L c).all p = true := by
  rw [List.all_eq_true] at h ⊢
  intro x hx
  unfold Lib.trimRightB at hx
  rw [List.mem_reverse] at hx
  exact h x (List.mem_reverse.1 ((List.dropWhile_sublist _).subset hx))
theorem dropW_nil (p : UInt8 → Bool) : ∀ (L : Bs), L.dropWhile p = [] → ∀ x ∈ L, p x = true
  | [], _, x, hx => by cases hx
  | c :: L, h, x, hx => by
    rw [List.dropWhile_cons] at h
    split at h
    · rename_i hp
      rcases List.mem_cons.1 hx with rfl | hx
      · exact hp
      · exact dropW_nil p L h x hx
    · cases h
theorem trimB_ne {L : Bs} {c x : UInt8} (hx : x ∈ L) (hc : x ≠ c) : Lib.trimRightB L c ≠ [] := by
  unfold Lib.trimRightB
  intro e
  rw [List.reverse_eq_nil_iff] at e
  have := dropW_nil _ _ e x (List.mem_reverse.2 hx)
  simp at this
  exact hc this
theorem digs_nz : ∀ (f n : Nat), n < f → n ≠ 0 → ∃ d ∈ digsF f n, d ≠ 0 := by
  intro f
  induction f with
  | zero => intro n h; omega
  | succ f ih =>
    intro n h h0
    unfold digsF
    rw [if_neg h0]
    by_cases hm : n % 10 = 0
    · obtain ⟨d, hd, hd0⟩ := ih (n / 10) (by omega) (by omega)
      exact ⟨d, List.mem_cons_of_mem _ hd, hd0⟩
    · exact ⟨n % 10, by simp, hm⟩
theorem num_txt {u : Int} (h : 0 ≤ u) : NumW (txt u) := by
  refine ⟨dgText (u.natAbs / 1000000) 1, if 0 < u.natAbs % 1000000 then 46 :: Lib.trimRightB (dgText (u.natAbs % 1000000) 6) 48 else [], ?_, ?_, dgText_dgs _ _, ?_⟩
  · unfold txt
    rw [if_neg (by omega), List.nil_append]
  · intro e
    have h1 : 0 < (padL (u.natAbs / 1000000) 1).length := by unfold padL; rw [List.length_append, List.length_replicate]; omega
    have e2 := congrArg List.length e
    simp only [dgText, lettersOf, List.length_map, List.length_reverse, List.length_nil] at e2
    omega
  · split
    · rename_i hr
      refine .inr ⟨_, rfl, ?_, trimB_all _ _ _ (dgText_dgs _ _)⟩
      obtain ⟨d, hd, hd0⟩ := digs_nz (u.natAbs % 1000000 + 1) (u.natAbs % 1000000) (by omega) (by omega)
      have h10 := digs_lt10 (u.natAbs % 1000000) d hd
      refine trimB_ne (x := UInt8.ofNat (48 + d)) ?_ ?_
      · unfold dgText lettersOf padL
        rw [List.mem_map]
        exact ⟨d, by simp only [List.mem_reverse, List.mem_append]; exact .inl hd, rfl⟩
      · intro e
        have := congrArg UInt8.toNat e
        rw [UInt8.toNat_ofNat'] at this
        simp at this
        omega
    · exact .inl rfl
theorem nam_of_nameB {t : Bs} (h : nameB t = true) : NamW t := by
  unfold nameB at h
  simp only [Bool.and_eq_true, decide_eq_true_eq] at h
  obtain ⟨h1, h2, _⟩ := h
  cases t with
  | nil => exact absurd rfl h2
  | cons c r =>
    refine ⟨c, r, rfl, ?_, ?_⟩
    · have := h1 0 (by simp)
      unfold okB at this
      simpa [btN, Tks.upB] using this
    · rw [List.all_eq_true]
      intro x hx
      obtain ⟨i, hi, rfl⟩ := List.getElem_of_mem hx
      have := h1 (i + 1) (by simp; omega)
      unfold okB at this
      rw [btN_get (by simp; omega)] at this
      simpa [Tks.nmB, Tks.upB, Tks.dgB] using this
theorem ope_of {c : UInt8} (h : c.toNat < 60 ∨ 62 < c.toNat) (r : Bs) : Ope (c :: r) := by
  unfold Ope
  rw [nx_cons]
  omega
theorem ope_nam {w : Bs} (h : NamW w) (r : Bs) : Ope (w ++ r) := by
  obtain ⟨c, q, rfl, hc, _⟩ := h
  refine ope_of (.inr ?_) _
  unfold Tks.upB at hc
  simp at hc
  omega
theorem ope_num {w : Bs} (h : NumW w) (r : Bs) : Ope (w ++ r) := by
  obtain ⟨a, b, rfl, ha, hd, _⟩ := h
  cases a with
  | nil => exact absurd rfl ha
  | cons c a =>
    refine ope_of (.inl ?_) _
    rw [List.all_cons, Bool.and_eq_true] at hd
    have := hd.1
    unfold Tks.dgB at this
    simp at this
    omega
theorem prN_ope (nm : Int → Bs) (hnm : ∀ k, OkC k → NamW (nm k)) : ∀ {n : Nd}, Fm n → ∀ least r, Ope (prN nm n least ++ r) := by
  intro n h
  have key : (∀ r, Ope (prN nm n 0 ++ r)) → ∀ least r, Ope (prN nm n least ++ r) := by
    intro h0 least r
    rw [prN_split]
    split
    · exact ope_of (.inl (by decide)) _
    · exact h0 r
  induction h with
  | num u h1 h2 => exact key (fun r => ope_num (num_txt h1) r)
  | txt t => exact key (fun r => ope_of (.inl (by decide)) _)
  | ref f h => exact key (fun r => ope_nam (hnm f h) r)
  | rng f o h1 h2 => exact key (fun r => by rw [pr_rng, List.append_assoc]; exact ope_nam (hnm f h1) _)
  | neg a h ih => exact key (fun r => by rw [pr_neg]; exact ope_of (.inl (by decide)) _)
  | bin t a b ht h1 h2 i1 i2 =>
    refine key (fun r => ?_)
    rw [pr_bin, List.append_assoc, List.append_assoc]
    refine i1 ?_ _ _
    intro h0 least r
    rw [prN_split]
    split
    · exact ope_of (.inl (by decide)) _
    · exact h0 r
  | cal t ar ht hl h ih => exact key (fun r => by rw [pr_cal, List.append_assoc]; exact ope_nam (nam_of_nameB ht) _)
  | flt => exact key (fun r => ope_of (.inl (by decide)) _)
theorem sgs_br : ([40] : Bs) ∈ Tks.sgs ∧ ([41] : Bs) ∈ Tks.sgs ∧ ([44] : Bs) ∈ Tks.sgs ∧ ([45] : Bs) ∈ Tks.sgs ∧ ([58] : Bs) ∈ Tks.sgs := by decide
def Tok (w : Bs) (l : List Tw) (r : Bs) : Prop := tkP (w ++ r) = (tkP r).map (l ++ ·)
theorem Tok.app {w1 w2 : Bs} {l1 l2 : List Tw} {r : Bs} (h1 : Tok w1 l1 (w2 ++ r)) (h2 : Tok w2 l2 r) : Tok (w1 ++ w2) (l1 ++ l2) r := by
  unfold Tok at *
  rw [List.append_assoc, h1, h2, Option.map_map]
  congr 1
  funext x
  simp
theorem Tok.one {w : Bs} {x : Tw} {r : Bs} (h : tkP (w ++ r) = (tkP r).map (x :: ·)) : Tok w [x] r := h
theorem tok_sgn {s : Bs} (hs : s ∈ Tks.sgs) {r : Bs} (hr : s = [60] ∨ s = [62] → Ope r) : Tok s [(4, s)] r := tk_sgn hs hr
theorem tok_br {c : UInt8} (hs : [c] ∈ Tks.sgs) (h : c.toNat < 60 ∨ 62 < c.toNat) (r : Bs) : Tok [c] [(4, [c])] r := tok_sgn hs (fun e => by
  rcases e with e | e
  · cases e; exact absurd h (by decide)
  · cases e; exact absurd h (by decide))
theorem sep_br {c : UInt8} (hs : [c] ∈ Tks.sgs) (r : Bs) : Sep (c :: r) := sep_sign hs r
theorem tok_key (nm : Int → Bs) {n : Nd} (h0 : ∀ r, Sep r → Tok (prN nm n 0) (tkN nm n 0) r) : ∀ least r, Sep r → Tok (prN nm n least) (tkN nm n least) r := by
  intro least r hr
  rw [prN_split, tkN_split]
  split
  · have h1 := Tok.app (w1 := [40]) (w2 := prN nm n 0 ++ [41]) (tok_br sgs_br.1 (by decide) _) (Tok.app (h0 ([41] ++ r) (sep_br sgs_br.2.1 r)) (tok_br (c := 41) (r := r) sgs_br.2.1 (by decide)))
    exact h1
  · exact h0 r hr
theorem tok_list (nm : Int → Bs) : ∀ (ar : List Nd), (∀ c ∈ ar, ∀ least r, Sep r → Tok (prN nm c least) (tkN nm c least) r) → ∀ r, Sep r → Tok (prT nm ar) (tkT nm ar) r
  | [], _, r, _ => by
    unfold Tok
    rw [prT, tkT]
    simp
  | c :: ar, h, r, hr => by
    rw [prT, tkT]
    have hs : Sep (prT nm ar ++ r) := by
      cases ar with
      | nil => rw [prT]; exact hr
      | cons d ar => rw [prT]; exact sep_br sgs_br.2.2.1 _
    exact Tok.app (w1 := [44]) (l1 := [(4, [44])]) (tok_br sgs_br.2.2.1 (by decide) _) (Tok.app (h c (by simp) 1 _ hs) (tok_list nm ar (fun x hx => h x (by simp [hx])) r hr))
theorem tok_args (nm : Int → Bs) (ar : List Nd) (h : ∀ c ∈ ar, ∀ least r, Sep r → Tok (prN nm c least) (tkN nm c least) r) (r : Bs) (hr : Sep r) : Tok ((prT nm ar).drop 1) ((tkT nm ar).drop 1) r := by
  cases ar with
  | nil => rw [prT, tkT]; unfold Tok; simp
  | cons c ar =>
    rw [prT, tkT, List.drop_succ_cons, List.drop_zero, List.drop_succ_cons, List.drop_zero]
    have hs : Sep (prT nm ar ++ r) := by
      cases ar with
      | nil => rw [prT]; exact hr
      | cons d ar => rw [prT]; exact sep_br sgs_br.2.2.1 _
    exact Tok.app (h c (by simp) 1 _ hs) (tok_list nm ar (fun x hx => h x (by simp [hx])) r hr)
theorem tok_tree (nm : Int → Bs) (hnm : ∀ k, OkC k → NamW (nm k)) : ∀ {n : Nd}, Fm n → ∀ least r, Sep r → Tok (prN nm n least) (tkN nm n least) r := by
  intro n h
  induction h with
  | num u h1 h2 => exact tok_key nm (fun r hr => tk_num (num_txt h1) hr)
  | txt t => exact tok_key nm (fun r hr => tk_quo hr)
  | ref f h => exact tok_key nm (fun r hr => tk_nam (hnm f h) hr)
  | rng f o h1 h2 =>
    refine tok_key nm (fun r hr => ?_)
    exact Tok.app (w1 := nm f) (w2 := [58] ++ nm o) (l1 := [(3, nm f)]) (tk_nam (hnm f h1) (sep_br sgs_br.2.2.2.2 _)) (Tok.app (l1 := [(4, [58])]) (l2 := [(3, nm o)]) (tok_br sgs_br.2.2.2.2 (by decide) _) (tk_nam (hnm o h2) hr))
  | neg a h ih =>
    refine tok_key nm (fun r hr => ?_)
    rw [pr_neg, tk_neg']
    exact Tok.app (w1 := [45]) (l1 := [(4, [45])]) (tok_br sgs_br.2.2.2.1 (by decide) _) (ih 5 r hr)
  | bin t a b ht h1 h2 i1 i2 =>
    refine tok_key nm (fun r hr => ?_)
    rw [pr_bin, tk_bin', List.append_assoc]
    exact Tok.app (i1 _ _ (by rw [List.append_assoc]; exact sep_sign (lvS_sgs ht) _)) (Tok.app (l1 := [(4, t)]) (tok_sgn (lvS_sgs ht) (fun _ => prN_ope nm hnm h2 _ _)) (i2 _ r hr))
  | cal t ar ht hl h ih =>
    refine tok_key nm (fun r hr => ?_)
    rw [pr_cal, tk_cal']
    exact Tok.app (w1 := t) (l1 := [(3, t)]) (tk_nam (nam_of_nameB ht) (sep_br sgs_br.1 _)) (Tok.app (w1 := [40]) (l1 := [(4, [40])]) (tok_br sgs_br.1 (by decide) _) (Tok.app (tok_args nm ar ih _ (sep_br sgs_br.2.1 r)) (tok_br sgs_br.2.1 (by decide) r)))
  | flt => exact tok_key nm (fun r hr => tk_ref r)
theorem tkP_tree (nm : Int → Bs) (hnm : ∀ k, OkC k → NamW (nm k)) {n : Nd} (h : Fm n) : tkP (prN nm n 1) = some (tkN nm n 1) := by
  have h1 := tok_tree nm hnm h 1 [] Sep.nil
  unfold Tok at h1
  rw [tkP_nil, List.append_nil] at h1
  rw [h1]
  simp
end Go.Proofs.YtbdgdhjhgcpidaaGreatDoor
namespace Go.Proofs.YtbdgdhjhgcpidaaGreatDoor
open Go.RowKit Go.Joins
abbrev tPs : TypeId := 114
def Psr (w : World) (b : Nat) (q : Option Addr) (nT cT i : Nat) : Prop := BlkC w b #[.slice q nT cT, .int .i64 i, .int .i64 0] tPs
def TkR (w : World) (b : Nat) (q : Option Addr) (Ts : List Tks.Tk) : Prop := Ts = [] ∨ ∃ g, q = some ⟨g, 0, none⟩ ∧ g ≠ b ∧ g < w.heap.size ∧ ∀ (j : Nat) (x : Tks.Tk), Ts[j]? = some x → w.cell? ⟨g, j * 3, none⟩ = some (.int .i64 x.1) ∧ w.cell? ⟨g, j * 3 + 1, none⟩ = some (.string ⟨x.2.1.toArray⟩) ∧ w.cell? ⟨g, j * 3 + 2, none⟩ = some (.int .i64 (x.2.2 : Int))
theorem TkR.off {w w' : World} {b : Nat} {q : Option Addr} {Ts : List Tks.Tk} (h : TkR w b q Ts) (ho : Off b w w') : TkR w' b q Ts := by
  rcases h with h | ⟨g, h1, h2, h3, h4⟩
  · exact .inl h
  · refine .inr ⟨g, h1, h2, Nat.lt_of_lt_of_le h3 ho.size, fun j x hx => ?_⟩
    obtain ⟨k1, k2, k3⟩ := h4 j x hx
    exact ⟨ho.cell h2 k1, ho.cell h2 k2, ho.cell h2 k3⟩
theorem TkR.at {w : World} {b : Nat} {q : Option Addr} {Ts : List Tks.Tk} (h : TkR w b q Ts) {j : Nat} {x : Tks.Tk} (hx : Ts[j]? = some x) : ∃ g, q = some ⟨g, 0, none⟩ ∧ g ≠ b ∧ g < w.heap.size ∧ w.cell? ⟨g, j * 3, none⟩ = some (.int .i64 x.1) ∧ w.cell? ⟨g, j * 3 + 1, none⟩ = some (.string ⟨x.2.1.toArray⟩) ∧ w.cell? ⟨g, j * 3 + 2, none⟩ = some (.int .i64 (x.2.2 : Int)) := by
  rcases h with h | ⟨g, h1, h2, h3, h4⟩
  · rw [h] at hx; cases hx
  · exact ⟨g, h1, h2, h3, h4 j x hx⟩
theorem Psr.set {w : World} {b : Nat} {q : Option Addr} {nT cT i : Nat} (h : Psr w b q nT cT i) (j : Nat) : Psr (w.setCell ⟨b, 1, none⟩ (.int .i64 j)) b q nT cT j := block_setCell h _
theorem Psr.setz {w : World} {b : Nat} {q : Option Addr} {nT cT i : Nat} (h : Psr w b q nT cT i) (z : Int) (j : Nat) (e : z = (j : Int)) : Psr (w.setCell ⟨b, 1, none⟩ (.int .i64 z)) b q nT cT j := by rw [e]; exact h.set j
theorem Psr.below {w w' : World} {b : Nat} {q : Option Addr} {nT cT i : Nat} (h : Psr w b q nT cT i) (hb : Below w.heap.size w w') : Psr w' b q nT cT i := BlkC.below h hb
theorem Psr.cells {w : World} {b : Nat} {q : Option Addr} {nT cT i : Nat} (h : Psr w b q nT cT i) : w.cell? ⟨b, 0, none⟩ = some (.slice q nT cT) ∧ w.cell? ⟨b, 1, none⟩ = some (.int .i64 i) ∧ w.cell? ⟨b, 2, none⟩ = some (.int .i64 0) ∧ w.frozen? ⟨b, 1, none⟩ = false := ⟨BlkC.cell h 0 _ rfl, BlkC.cell h 1 _ rfl, BlkC.cell h 2 _ rfl, BlkC.fz h 1⟩
def isB (Ts : List Tks.Tk) (i : Nat) (s : Bs) : Bool := match Ts[i]? with
  | some x => decide (x.1 = 4) && decide (x.2.1 = s)
  | none => false
def IsP (b : Nat) (q : Option Addr) (nT cT i : Nat) (R : Bool) (w : World) (e : Ending) (w' : World) : Prop := e = .returned (.bool R) ∧ Psr w' b q nT cT (if R = true then i + 1 else i) ∧ Off b w w'
set_option maxRecDepth 100000 in
set_option maxHeartbeats 4000000 in
theorem is_any (b : Nat) (q : Option Addr) (cT i : Nat) (Ts : List Tks.Tk) (s : Bs) (w : World) (hp : Psr w b q Ts.length cT i) (ht : TkR w b q Ts) (hl : Ts.length ≤ 1000) :
    Calls Tryz.prog 104 #[.pointer (some ⟨b, 0, none⟩), .string ⟨s.toArray⟩] w (IsP b q Ts.length cT i (isB Ts i s) w) := by
  obtain ⟨p0, p1, p2, pf⟩ := hp.cells
  have HP := Lib.hid hp
  have r0 := cell_regrown p0
  have r1 := cell_regrown p1
  have hBR : ∀ dd os, Below w.heap.size w (Go.Sort.grow (redrawn w dd) os) := fun dd os => below_regrown w dd os
  obtain ⟨n, hn⟩ : ∃ n, Ts.length = n := ⟨_, rfl⟩
  cases hx : Ts[i]? with
  | none =>
    have hi : ¬ (i : Int) < (n : Int) := by
      have := List.getElem?_eq_none_iff.1 hx
      omega
    rw [show isB Ts i s = false from by unfold isB; rw [hx]]
    rw [hn] at r0 HP ⊢
    clear hp ht p0 p1 p2 pf hx hn
    go_enter Tryz.func104, Tryz.ntmps104
    go_upto_region 1 with fail
    refine wp_region_quiet_below (by kernel_rfl) (by kernel_rfl) ?_
    repeat (go_big_quiet_step (fail))
    refine wpQuiet_nil ?_
    intro _ hw'
    obtain ⟨⟨dz, osz⟩, hw''⟩ := hw'
    subst hw''
    have HPz := Lib.hid (HP.out.below (hBR dz osz))
    have hbz := hBR dz osz
    clear r0 r1 hBR
    go_wp2_with fail
    go_ret
    exact ⟨rfl, HPz.out, Off.of_below hbz⟩
  | some x =>
    have hi : (i : Int) < (n : Int) := by
      have := (List.getElem?_eq_some_iff.1 hx).1
      omega
    have hi2 : i < n := by omega
    obtain ⟨g, rfl, hgb, _, k0, k1, _⟩ := ht.at hx
    have r2 := cell_regrown k0
    have r3 := cell_regrown k1
    obtain ⟨kx, tx, ax⟩ := x
    simp only at r2 r3
    have hib : isB Ts i s = (decide (kx = 4) && decide (tx = s)) := by unfold isB; rw [hx]
    rw [hib]
    rw [hn] at r0 HP hl ⊢
    clear hp ht p0 p1 p2 pf hx hib k0 k1
    by_cases hk : kx = 4
    · subst hk
      by_cases hs : tx = s
      · subst hs
        rw [decide_eq_true rfl, decide_eq_true rfl]
        go_enter Tryz.func104, Tryz.ntmps104
        go_upto_region 1 with fail
        refine wp_region_quiet_below (by kernel_rfl) (by kernel_rfl) ?_
        repeat (go_big_quiet_step (fail))
        refine wpQuiet_nil ?_
        intro _ hw'
        obtain ⟨⟨dz, osz⟩, hw''⟩ := hw'
        subst hw''
        have HPz := Lib.hid (HP.out.below (hBR dz osz))
        have HOz := Lib.hid (Off.of_below (b := b) (hBR dz osz))
        clear r0 r1 r2 r3 hBR
        generalize Go.Sort.grow (redrawn w dz) osz = wz at HPz HOz ⊢
        obtain ⟨_, c1, _, cf⟩ := HPz.out.cells
        have f1 : IntKind.i64.wrap ((i : Int) + 1) = (i : Int) + 1 := IntWalk.i64_in _ (by omega)
        go_wp2_with fail
        go_ret
        exact ⟨rfl, HPz.out.setz ((i : Int) + 1) (i + 1) (by omega), HOz.out.set _ _⟩
      · rw [decide_eq_false hs]
        have hse : (tx == s) = false := by simpa using hs
        go_enter Tryz.func104, Tryz.ntmps104
        go_upto_region 1 with fail
        refine wp_region_quiet_below (by kernel_rfl) (by kernel_rfl) ?_
        repeat (go_big_quiet_step (fail))
        refine wpQuiet_nil ?_
        intro _ hw'
        obtain ⟨⟨dz, osz⟩, hw''⟩ := hw'
        subst hw''
        have HPz := Lib.hid (HP.out.below (hBR dz osz))
        have HOz := Lib.hid (Off.of_below (b := b) (hBR dz osz))
        clear r0 r1 r2 r3 hBR
        go_wp2_with fail
        go_ret
        exact ⟨rfl, HPz.out, HOz.out⟩
    · rw [decide_eq_false hk]
      have hke : (kx == 4) = false := by simpa using hk
      go_enter Tryz.func104, Tryz.ntmps104
      go_upto_region 1 with fail
      refine wp_region_quiet_below (by kernel_rfl) (by kernel_rfl) ?_
      repeat (go_big_quiet_step (fail))
      refine wpQuiet_nil ?_
      intro _ hw'
      obtain ⟨⟨dz, osz⟩, hw''⟩ := hw'
      subst hw''
      have HPz := Lib.hid (HP.out.below (hBR dz osz))
      have HOz := Lib.hid (Off.of_below (b := b) (hBR dz osz))
      clear r0 r1 r2 r3 hBR
      go_wp2_with fail
      go_ret
      exact ⟨rfl, HPz.out, HOz.out⟩
end Go.Proofs.YtbdgdhjhgcpidaaGreatDoor
namespace Go.Proofs.YtbdgdhjhgcpidaaGreatDoor
open Go.RowKit Go.Joins
def sgO (Ts : List Tks.Tk) (i : Nat) (lv : Int) : Bs := match Ts[i]? with
  | some x => if x.1 = 4 ∧ x.2.1 ∈ sgS lv then x.2.1 else []
  | none => []
theorem sgO_yes {Ts : List Tks.Tk} {i : Nat} {lv : Int} {s : Bs} (h : isB Ts i s = true) (hs : s ∈ sgS lv) : sgO Ts i lv = s := by
  unfold isB at h
  unfold sgO
  cases hx : Ts[i]? with
  | none => rw [hx] at h; cases h
  | some x =>
    rw [hx] at h
    simp only [Bool.and_eq_true, decide_eq_true_eq] at h
    obtain ⟨h1, rfl⟩ := h
    simp only [h1, hs, and_self, if_true]
theorem sgO_no {Ts : List Tks.Tk} {i : Nat} {lv : Int} (h : ∀ s ∈ sgS lv, isB Ts i s = false) : sgO Ts i lv = [] := by
  unfold sgO
  cases hx : Ts[i]? with
  | none => rfl
  | some x =>
    simp only []
    split
    · rename_i hh
      have := h _ hh.2
      unfold isB at this
      rw [hx] at this
      simp [hh.1] at this
    · rfl
theorem sgS_ne (lv : Int) : ∀ s ∈ sgS lv, s ≠ [] := by
  intro s hs
  unfold sgS at hs
  repeat' split at hs
  all_goals simp [sg1, sg2, sg3, sg4] at hs
  all_goals (rcases hs with rfl | rfl | rfl | rfl | rfl | rfl) <;> simp
theorem sgS_l10 (lv : Int) : (sgS lv).length ≤ 10 := by
  unfold sgS
  repeat' split
  all_goals simp [sg1, sg2, sg3, sg4]
theorem psr_ne {w : World} {b : Nat} {q : Option Addr} {nT cT i : Nat} (h : Psr w b q nT cT i) {g o : Nat} {x : ByteArray} (hc : w.cell? ⟨g, o, none⟩ = some (.string x)) : g ≠ b := by
  rintro rfl
  have hb : w.heap[g]? = some (.cells #[.slice q nT cT, .int .i64 i, .int .i64 0] tPs (0, 0)) := h
  rw [cell_of_block hb] at hc
  match o, hc with
  | 0, hc => cases hc
  | 1, hc => cases hc
  | 2, hc => cases hc
  | o + 3, hc => simp at hc
def SgP (b : Nat) (q : Option Addr) (nT cT i : Nat) (O : Bs) (w : World) (e : Ending) (w' : World) : Prop := e = .returned (.string ⟨O.toArray⟩) ∧ Psr w' b q nT cT (if O = [] then i else i + 1) ∧ Off b w w'
set_option maxRecDepth 100000 in
set_option maxHeartbeats 4000000 in
theorem psign_any (b : Nat) (q : Option Addr) (cT i : Nat) (Ts : List Tks.Tk) (lv : Int) (w : World) (hp : Psr w b q Ts.length cT i) (ht : TkR w b q Ts) (hl : Ts.length ≤ 1000) :
    Calls Tryz.prog 79 #[.pointer (some ⟨b, 0, none⟩), .int .i64 lv] w (SgP b q Ts.length cT i (sgO Ts i lv) w) := by
  have HSG := Lib.hid (fun W => signs_any lv W)
  have HIS := Lib.hid (fun s W hp' ht' => is_any b q cT i Ts s W hp' ht' hl)
  have HP := Lib.hid hp
  have HT := Lib.hid ht
  obtain ⟨O, hO⟩ : ∃ O, sgO Ts i lv = O := ⟨_, rfl⟩
  have HY : Hid (∀ s ∈ sgS lv, isB Ts i s = true → O = s) := fun s hs h => by rw [← hO]; exact sgO_yes h hs
  have HN : Hid ((∀ s ∈ sgS lv, isB Ts i s = false) → O = []) := fun h => by rw [← hO]; exact sgO_no h
  have HNE := Lib.hid (sgS_ne lv)
  have h10 := sgS_l10 lv
  obtain ⟨n, hn⟩ : ∃ n, Ts.length = n := ⟨_, rfl⟩
  rw [hO]
  clear hO hp ht
  obtain ⟨L, hL⟩ : ∃ L, sgS lv = L := ⟨_, rfl⟩
  rw [hL] at HSG HY HN HNE h10
  rw [hn] at HP HIS ⊢
  clear hL hn hl
  go_enter Tryz.func79, Tryz.ntmps79
  go_wp2_with fail
  refine (HSG.out _).mono ?_
  rintro e w1 ⟨⟨p, cap, rfl, hrd⟩, hb1⟩
  have HRD := Lib.hid hrd
  have HP1 := Lib.hid (HP.out.below hb1)
  have HO1 := Lib.hid (Off.of_below (b := b) hb1)
  have HT1 := Lib.hid (HT.out.off HO1.out)
  obtain ⟨m, hm⟩ : ∃ m, L.length = m := ⟨_, rfl⟩
  have HLM := Lib.hid hm
  rw [hm] at HRD h10 ⊢
  clear hrd hb1 hm HSG HP HT
  go_wp2_with fail
  go_loopg [10] m (fun g v10 wr => ∃ j : Nat, j + g = m ∧ v10 = .int .i64 j ∧ Psr wr b q n cT i ∧ Off b w1 wr ∧ ∀ k : Nat, k < j → isB Ts i (L.getD k []) = false)
  case atStart => exact ⟨0, by omega, rfl, HP1.out, Off.refl _ _, fun k hk => by omega⟩
  case round =>
    obtain ⟨j, hjg, rfl, hpr, hor, hno⟩ := hrel
    have HPR := Lib.hid hpr
    have HOR := Lib.hid hor
    have HNO := Lib.hid hno
    clear hpr hor hno
    by_cases hj : j < m
    · have hjj : (j : Int) < (m : Int) := by omega
      obtain ⟨g, off, rfl, _, hc1⟩ := cell_st HRD.out hj
      have hgb := psr_ne HP1.out hc1
      have hc := HOR.out.cell hgb hc1
      have HME : Hid (L.getD j [] ∈ L) := by
        unfold Hid
        rw [List.getD_eq_getElem?_getD, List.getElem?_eq_getElem (by rw [HLM.out]; exact hj)]
        exact List.getElem_mem _
      have HN2 : Hid (isB Ts i (L.getD j []) = false → ∀ k : Nat, k < j + 1 → isB Ts i (L.getD k []) = false) := fun h k hk => by
        by_cases hkj : k < j
        · exact HNO.out k hkj
        · obtain rfl : k = j := by omega
          exact h
      have HCI := Lib.hid (HIS.out (L.getD j []) wr HPR.out (HT1.out.off HOR.out))
      have HYJ := Lib.hid (HY.out (L.getD j []) HME.out)
      have HNJ := Lib.hid (HNE.out (L.getD j []) HME.out)
      generalize L.getD j [] = x at hc HCI HYJ HNJ HN2
      clear hc1 HME
      go_wp2_with fail
      refine HCI.out.mono ?_
      rintro e w2 ⟨rfl, hp2, ho2⟩
      cases hib : isB Ts i x with
      | true =>
        rw [hib, if_pos rfl] at hp2
        have HPE : Hid (Psr w2 b q n cT (if O = [] then i else i + 1)) := by
          unfold Hid
          rw [HYJ.out hib, if_neg HNJ.out]
          exact hp2
        have HOE : Hid (Off b w w2) := HO1.out.trans (HOR.out.trans ho2)
        have HOX : Hid (O = x) := HYJ.out hib
        clear hib hp2 ho2 hc
        go_wp2_with fail
        go_ret
        exact ⟨by rw [HOX.out]; rfl, HPE.out, HOE.out⟩
      | false =>
        rw [hib, if_neg (by simp)] at hp2
        have HPE := Lib.hid hp2
        have HOE : Hid (Off b w1 w2) := HOR.out.trans ho2
        have HNX := Lib.hid (HN2.out hib)
        clear hib hp2 ho2 hc
        go_wp2_with fail
        go_roundg (gk - 1)
        case measure => omega
        case rel => exact ⟨j + 1, by omega, by go_num, HPE.out, HOE.out, HNX.out⟩
    · obtain rfl : j = m := by omega
      have hjj : ¬ (j : Int) < (j : Int) := by omega
      have HON : Hid (O = []) := HN.out (fun s hs => by
        obtain ⟨k, hk, e⟩ := List.mem_iff_getElem.1 hs
        have := HNO.out k (by rw [HLM.out] at hk; exact hk)
        rw [List.getD_eq_getElem?_getD, List.getElem?_eq_getElem hk] at this
        rw [← e]
        exact this)
      have HPE : Hid (Psr wr b q n cT (if O = [] then i else i + 1)) := by
        unfold Hid
        rw [HON.out, if_pos rfl]
        exact HPR.out
      have HOE : Hid (Off b w wr) := HO1.out.trans HOR.out
      go_wp2_with fail
      go_ret
      exact ⟨by rw [HON.out]; rfl, HPE.out, HOE.out⟩
end Go.Proofs.YtbdgdhjhgcpidaaGreatDoor
namespace Go.Proofs.YtbdgdhjhgcpidaaGreatDoor
open Go.RowKit Go.Joins
structure PSt (ws w : World) (b : Nat) (q : Option Addr) (Ts : List Tks.Tk) (cT i : Nat) : Prop where
  psr : Psr w b q Ts.length cT i
  tks : TkR w b q Ts
  len : Ts.length ≤ 1000
  sh : ws.ShapedOpen Tryz.prog
  bel : Below ws.heap.size ws w
  hb : ws.heap.size ≤ b
theorem PSt.off {ws w w' : World} {b : Nat} {q : Option Addr} {Ts : List Tks.Tk} {cT i j : Nat} (h : PSt ws w b q Ts cT i) (ho : Off b w w') (hp : Psr w' b q Ts.length cT j) : PSt ws w' b q Ts cT j :=
  ⟨hp, h.tks.off ho, h.len, h.sh, h.bel.trans (ho.below h.hb h.bel.size), h.hb⟩
theorem Off.psr {w w' : World} {b : Nat} {q : Option Addr} {n cT i : Nat} (h : Psr w b q n cT i) (hb : Below w.heap.size w w') : Psr w' b q n cT i := h.below hb
theorem PSt.below {ws w w' : World} {b : Nat} {q : Option Addr} {Ts : List Tks.Tk} {cT i : Nat} (h : PSt ws w b q Ts cT i) (hb : Below w.heap.size w w') : PSt ws w' b q Ts cT i := h.off (Off.of_below hb) (h.psr.below hb)
theorem PSt.shaped {ws w : World} {b : Nat} {q : Option Addr} {Ts : List Tks.Tk} {cT i : Nat} (h : PSt ws w b q Ts cT i) : w.ShapedOpen Tryz.prog := shaped_below h.sh h.bel
theorem PSt.lt {ws w : World} {b : Nat} {q : Option Addr} {Ts : List Tks.Tk} {cT i : Nat} (h : PSt ws w b q Ts cT i) : b < w.heap.size := lt_some h.psr
def RestOk (lv : Int) : List Tw → Prop
  | [] => True
  | x :: _ => x.1 = 4 ∧ x.2 ≠ [40] ∧ x.2 ≠ [58] ∧ ∀ l, lv ≤ l → x.2 ∉ sgS l
theorem RestOk.up {lv lv' : Int} (h : lv ≤ lv') : ∀ {r : List Tw}, RestOk lv r → RestOk lv' r
  | [], _ => trivial
  | x :: _, ⟨h1, h2, h3, h4⟩ => ⟨h1, h2, h3, fun l hl => h4 l (by omega)⟩
def ResN (w : World) (n : Nd) (e : Ending) (w' : World) : Prop := ∃ p cap, e = .returned (.agg (Cel.ndA n p n.args.length cap)) ∧ ∀ d, dpN n ≤ d + 1 → Cel.RdP w' (fun k => w.heap.size ≤ k ∧ k < w'.heap.size) d n p n.args.length
def PaP (b : Nat) (q : Option Addr) (nT cT i k : Nat) (n : Nd) (w : World) (e : Ending) (w' : World) : Prop := ResN w n e w' ∧ Psr w' b q nT cT (i + k) ∧ Off b w w'
def At (Ts : List Tks.Tk) (i : Nat) (l : List Tw) : Prop := (Ts.drop i).map tw = l
theorem At.get {Ts : List Tks.Tk} {i : Nat} {x : Tw} {l : List Tw} (h : At Ts i (x :: l)) : ∃ y, Ts[i]? = some y ∧ tw y = x ∧ At Ts (i + 1) l := by
  unfold At at h ⊢
  have hlt : i < Ts.length := by
    have := congrArg List.length h
    simp at this
    omega
  rw [List.drop_eq_getElem_cons hlt, List.map_cons] at h
  simp only [List.cons.injEq] at h
  exact ⟨Ts[i], List.getElem?_eq_getElem hlt, h.1, h.2⟩
theorem At.nil {Ts : List Tks.Tk} {i : Nat} (h : At Ts i []) : Ts[i]? = none := by
  unfold At at h
  have := congrArg List.length h
  simp at this
  rw [List.getElem?_eq_none_iff]
  omega
theorem At.app {Ts : List Tks.Tk} : ∀ {l r : List Tw} {i : Nat}, At Ts i (l ++ r) → At Ts (i + l.length) r
  | [], r, i, h => h
  | x :: l, r, i, h => by
    obtain ⟨_, _, _, h2⟩ := At.get (l := l ++ r) h
    have := At.app h2
    rw [List.length_cons, show i + (l.length + 1) = i + 1 + l.length from by omega]
    exact this
theorem At.lt {Ts : List Tks.Tk} {i : Nat} {l : List Tw} (h : At Ts i l) (hi : i ≤ Ts.length) : i + l.length = Ts.length := by
  unfold At at h
  have := congrArg List.length h
  simp at this
  omega
theorem At.le {Ts : List Tks.Tk} {i : Nat} {x : Tw} {l : List Tw} (h : At Ts i (x :: l)) : i + 1 ≤ Ts.length := by
  obtain ⟨y, h1, _⟩ := h.get
  have := (List.getElem?_eq_some_iff.1 h1).1
  omega
theorem isB_head {Ts : List Tks.Tk} {i : Nat} {x : Tw} {l : List Tw} (h : At Ts i (x :: l)) (s : Bs) : isB Ts i s = (decide (x.1 = 4) && decide (x.2 = s)) := by
  obtain ⟨y, h1, h2, _⟩ := h.get
  unfold isB
  rw [h1, ← h2]
  rfl
theorem isB_nil {Ts : List Tks.Tk} {i : Nat} (h : At Ts i []) (s : Bs) : isB Ts i s = false := by
  unfold isB
  rw [h.nil]
theorem isB_rest {Ts : List Tks.Tk} {i : Nat} {lv : Int} : ∀ {r : List Tw}, At Ts i r → RestOk lv r → isB Ts i [40] = false ∧ isB Ts i [58] = false ∧ ∀ l, lv ≤ l → sgO Ts i l = []
  | [], h, _ => ⟨isB_nil h _, isB_nil h _, fun l _ => by unfold sgO; rw [h.nil]⟩
  | x :: r, h, ⟨h1, h2, h3, h4⟩ => by
    refine ⟨by rw [isB_head h, decide_eq_false h2, Bool.and_false], by rw [isB_head h, decide_eq_false h3, Bool.and_false], fun l hl => ?_⟩
    refine sgO_no (fun s hs => ?_)
    have hne : decide (x.2 = s) = false := decide_eq_false (fun e => h4 l hl (by rw [e]; exact hs))
    rw [isB_head h, hne, Bool.and_false]
theorem sgO_head {Ts : List Tks.Tk} {i : Nat} {t : Bs} {l : List Tw} {lv : Int} (h : At Ts i ((4, t) :: l)) (ht : t ∈ sgS lv) : sgO Ts i lv = t := by
  refine sgO_yes ?_ ht
  rw [isB_head h]
  simp
theorem lvS_in {t : Bs} (h : 1 ≤ lvS t) : t ∈ sgS (lvS t) := by
  unfold lvS at h ⊢
  split
  · assumption
  · rename_i h1
    rw [if_neg h1] at h
    split
    · assumption
    · rename_i h2
      rw [if_neg h2] at h
      split
      · assumption
      · rename_i h3
        rw [if_neg h3] at h
        split
        · assumption
        · rename_i h4
          rw [if_neg h4] at h
          omega
theorem sgS_lv {t : Bs} {l : Int} (h : t ∈ sgS l) : lvS t = l ∧ 1 ≤ l ∧ l ≤ 4 := by
  unfold sgS at h
  split at h
  · rename_i e
    simp only [sg1, List.mem_cons, List.not_mem_nil, or_false] at h
    subst e
    rcases h with rfl | rfl | rfl | rfl | rfl | rfl <;> decide
  · split at h
    · rename_i e
      simp only [sg2, List.mem_cons, List.not_mem_nil, or_false] at h
      subst e
      subst h
      decide
    · split at h
      · rename_i e
        simp only [sg3, List.mem_cons, List.not_mem_nil, or_false] at h
        subst e
        rcases h with rfl | rfl <;> decide
      · split at h
        · rename_i e
          simp only [sg4, List.mem_cons, List.not_mem_nil, or_false] at h
          subst e
          rcases h with rfl | rfl <;> decide
        · cases h
theorem rest_sign {t : Bs} (ht : 1 ≤ lvS t) (r : List Tw) : RestOk (lvS t + 1) ((4, t) :: r) := by
  refine ⟨rfl, ?_, ?_, fun l hl hm => ?_⟩
  · rintro rfl
    exact absurd ht (by decide)
  · rintro rfl
    exact absurd ht (by decide)
  · have : lvS t = l := (sgS_lv hm).1
    omega
theorem rest_shut (lv : Int) (r : List Tw) : RestOk lv ((4, [41]) :: r) := by
  refine ⟨rfl, by decide, by decide, fun l hl hm => ?_⟩
  have := (sgS_lv hm).2.1
  have h2 := (sgS_lv hm).1
  rw [← h2] at this
  exact absurd this (by decide)
theorem rest_comma (lv : Int) (r : List Tw) : RestOk lv ((4, [44]) :: r) := by
  refine ⟨rfl, by decide, by decide, fun l hl hm => ?_⟩
  have := (sgS_lv hm).2.1
  have h2 := (sgS_lv hm).1
  rw [← h2] at this
  exact absurd this (by decide)
def foldS (x : Nd) (l : List (Bs × Nd)) : Nd := l.foldl (fun a y => .mk 6 0 y.1 0 0 [a, y.2]) x
theorem foldS_snoc (x : Nd) (l : List (Bs × Nd)) (t : Bs) (b : Nd) : foldS x (l ++ [(t, b)]) = .mk 6 0 t 0 0 [foldS x l, b] := by unfold foldS; rw [List.foldl_append]; rfl
def tkS (lv : Int) : List (Bs × Nd) → List Tw
  | [] => []
  | y :: r => (4, y.1) :: (tkN nmS y.2 (lv + 1) ++ tkS lv r)
theorem tkS_app (lv : Int) : ∀ a b : List (Bs × Nd), tkS lv (a ++ b) = tkS lv a ++ tkS lv b
  | [], b => rfl
  | y :: r, b => by rw [List.cons_append, tkS, tkS, tkS_app lv r b]; simp
theorem dpN_bin (t : Bs) (a b : Nd) : dpN (.mk 6 0 t 0 0 [a, b]) = max (dpN a) (dpN b) + 1 := by
  rw [dpN, dpL, dpL, dpL]
  omega
theorem dpN_one (k : Int) (t : Bs) (a : Nd) : dpN (.mk k 0 t 0 0 [a]) = dpN a + 1 := by
  rw [dpN, dpL, dpL]
  omega
theorem wtN_bin (t : Bs) (a b : Nd) : wtN a < wtN (.mk 6 0 t 0 0 [a, b]) ∧ wtN b < wtN (.mk 6 0 t 0 0 [a, b]) := by
  rw [wtN, wtL, wtL, wtL]
  omega
theorem spine (lv : Int) (hlv : lv ≤ 4) {n : Nd} (h : Fm n) : ∃ (x : Nd) (l : List (Bs × Nd)), n = foldS x l ∧ Fm x ∧ hdS x.kind x.text ≠ lv ∧ (∀ y ∈ l, lvS y.1 = lv ∧ 1 ≤ lvS y.1 ∧ Fm y.2 ∧ wtN y.2 < wtN n) ∧ ((l = [] ∧ x = n) ∨ wtN x < wtN n) ∧ tkN nmS n lv = tkN nmS x (lv + 1) ++ tkS lv l := by
  have key : ∀ m : Nd, hdS m.kind m.text ≠ lv → tkN nmS m lv = tkN nmS m (lv + 1) := fun m hm => by
    rw [tkN_split, tkN_split nmS m (lv + 1)]
    by_cases h : hdS m.kind m.text < lv
    · rw [if_pos h, if_pos (by omega)]
    · rw [if_neg h, if_neg (by omega)]
  have self : ∀ m : Nd, Fm m → hdS m.kind m.text ≠ lv → ∃ (x : Nd) (l : List (Bs × Nd)), m = foldS x l ∧ Fm x ∧ hdS x.kind x.text ≠ lv ∧ (∀ y ∈ l, lvS y.1 = lv ∧ 1 ≤ lvS y.1 ∧ Fm y.2 ∧ wtN y.2 < wtN m) ∧ ((l = [] ∧ x = m) ∨ wtN x < wtN m) ∧ tkN nmS m lv = tkN nmS x (lv + 1) ++ tkS lv l := fun m h hm =>
    ⟨m, [], rfl, h, hm, (fun y hy => by cases hy), .inl ⟨rfl, rfl⟩, by rw [key m hm]; simp [tkS]⟩
  induction h with
  | bin t a b ht h1 h2 i1 i2 =>
    by_cases hh : lvS t = lv
    · have hw := wtN_bin t a b
      have e : tkN nmS (.mk 6 0 t 0 0 [a, b]) lv = tkN nmS a lv ++ (4, t) :: tkN nmS b (lv + 1) := by
        rw [tkN_split, if_neg (by show ¬ lvS t < lv; omega), tk_bin', hh]
      obtain ⟨x, l, e1, hx, hxl, hl, hlx, hlt2⟩ := i1
      refine ⟨x, l ++ [(t, b)], by rw [foldS_snoc, ← e1], hx, hxl, fun y hy => ?_, .inr ?_, ?_⟩
      · rcases List.mem_append.1 hy with hy | hy
        · obtain ⟨k1, k2, k3, k4⟩ := hl y hy
          exact ⟨k1, k2, k3, by omega⟩
        · obtain rfl := List.mem_singleton.1 hy
          exact ⟨hh, ht, h2, hw.2⟩
      · rcases hlx with ⟨_, rfl⟩ | hlx <;> omega
      · rw [e, hlt2, tkS_app]
        simp [tkS]
    · exact self _ (.bin t a b ht h1 h2) hh
  | num u h1 h2 => exact self _ (.num u h1 h2) (by show (6 : Int) ≠ lv; omega)
  | txt t => exact self _ (.txt t) (by show (6 : Int) ≠ lv; omega)
  | ref f h => exact self _ (.ref f h) (by show (6 : Int) ≠ lv; omega)
  | rng f o h1 h2 => exact self _ (.rng f o h1 h2) (by show (6 : Int) ≠ lv; omega)
  | neg a h ih => exact self _ (.neg a h) (by show (5 : Int) ≠ lv; omega)
  | cal t ar ht hl h ih => exact self _ (.cal t ar ht hl h) (by show (6 : Int) ≠ lv; omega)
  | flt => exact self _ .flt (by show (6 : Int) ≠ lv; omega)
def BinC (n : Nd) (lv : Int) : Prop := ∀ (ws w : World) (b : Nat) (q : Option Addr) (cT i : Nat) (Ts : List Tks.Tk) (rest : List Tw), PSt ws w b q Ts cT i → At Ts i (tkN nmS n lv ++ rest) → RestOk lv rest →
  Calls Tryz.prog 60 #[.pointer (some ⟨b, 0, none⟩), .int .i64 lv] w (PaP b q Ts.length cT i (tkN nmS n lv).length n w)
def UnC (n : Nd) : Prop := ∀ (ws w : World) (b : Nat) (q : Option Addr) (cT i : Nat) (Ts : List Tks.Tk) (rest : List Tw), PSt ws w b q Ts cT i → At Ts i (tkN nmS n 5 ++ rest) → RestOk 5 rest →
  Calls Tryz.prog 78 #[.pointer (some ⟨b, 0, none⟩)] w (PaP b q Ts.length cT i (tkN nmS n 5).length n w)
def PrC (n : Nd) : Prop := ∀ (ws w : World) (b : Nat) (q : Option Addr) (cT i : Nat) (Ts : List Tks.Tk) (rest : List Tw), PSt ws w b q Ts cT i → At Ts i (tkN nmS n 5 ++ rest) → RestOk 5 rest →
  Calls Tryz.prog 105 #[.pointer (some ⟨b, 0, none⟩)] w (PaP b q Ts.length cT i (tkN nmS n 5).length n w)
theorem rdp_one {W : World} {n c : Nd} {g : Nat} {p : Option Addr} {l cp : Nat} {T : TypeId} (hn : n.args = [c]) (hg : BlkC W g (Cel.ndA c p l cp) T) {N : Nat} (h1 : N ≤ g) (h2 : g < W.heap.size) (hd : dpN n = dpN c + 1)
    (hc : ∀ d, dpN c ≤ d + 1 → Cel.RdP W (fun k => N ≤ k ∧ k < W.heap.size) d c p l) : ∀ d, dpN n ≤ d + 1 → Cel.RdP W (fun k => N ≤ k ∧ k < W.heap.size) d n (some ⟨g, 0, none⟩) 1 := by
  intro d hdd
  have hd0 : 1 ≤ dpN c := by cases c; rw [dpN]; omega
  cases d with
  | zero => omega
  | succ d =>
    refine ⟨by rw [hn]; rfl, .inr ⟨g, 0, rfl, ⟨h1, h2⟩, fun j x hx => ?_⟩⟩
    rw [hn] at hx
    match j, hx with
    | 0, hx =>
      simp only [List.getElem?_cons_zero, Option.some.injEq] at hx
      subst hx
      refine ⟨p, l, cp, fun k u hu => ?_, hc d (by omega)⟩
      have := BlkC.cell hg k u (by show (Cel.ndC c p l cp).toArray[k]? = some u; rw [List.getElem?_toArray]; exact hu)
      rw [show 0 + 0 * 8 + k = k from by omega]
      exact this
    | j + 1, hx => simp at hx
theorem rdp_two' {ok : Nat → Prop} {W : World} {n a c : Nd} {g : Nat} {p p' : Option Addr} {l l' cp cp' : Nat} {T : TypeId} (hn : n.args = [a, c]) (hg : BlkC W g (Cel.ndC a p l cp ++ Cel.ndC c p' l' cp').toArray T) (h1 : ok g) (hd : dpN n = max (dpN a) (dpN c) + 1)
    (ha : ∀ d, dpN a ≤ d + 1 → Cel.RdP W ok d a p l) (hc : ∀ d, dpN c ≤ d + 1 → Cel.RdP W ok d c p' l') : ∀ d, dpN n ≤ d + 1 → Cel.RdP W ok d n (some ⟨g, 0, none⟩) 2 := by
  intro d hdd
  have hd0 : 1 ≤ dpN c := by cases c; rw [dpN]; omega
  cases d with
  | zero => omega
  | succ d =>
    refine ⟨by rw [hn]; rfl, .inr ⟨g, 0, rfl, h1, fun j x hx => ?_⟩⟩
    rw [hn] at hx
    match j, hx with
    | 0, hx =>
      simp only [List.getElem?_cons_zero, Option.some.injEq] at hx
      subst hx
      refine ⟨p, l, cp, fun k u hu => ?_, ha d (by omega)⟩
      have hk : k < (Cel.ndC a p l cp).length := (List.getElem?_eq_some_iff.1 hu).1
      have := BlkC.cell hg k u (by rw [List.getElem?_toArray, List.getElem?_append_left hk]; exact hu)
      rw [show 0 + 0 * 8 + k = k from by omega]
      exact this
    | 1, hx =>
      simp only [List.getElem?_cons_succ, List.getElem?_cons_zero, Option.some.injEq] at hx
      subst hx
      refine ⟨p', l', cp', fun k u hu => ?_, hc d (by omega)⟩
      have := BlkC.cell hg (8 + k) u (by rw [List.getElem?_toArray, List.getElem?_append_right (by show 8 ≤ 8 + k; omega)]; rw [← hu]; congr 1; show 8 + k - 8 = k; omega)
      rw [show 0 + 1 * 8 + k = 8 + k from by omega]
      exact this
    | j + 2, hx => simp at hx
theorem rdp_leaf (W : World) (ok : Nat → Prop) {n : Nd} (hn : n.args = []) (p : Option Addr) : ∀ d, Cel.RdP W ok d n p 0
  | 0 => ⟨hn, rfl⟩
  | d + 1 => ⟨by rw [hn]; rfl, .inl rfl⟩
theorem Off.bc {b k : Nat} {w w' : World} {cs : Array Value} {t : TypeId} (h : Off b w w') (hk : k ≠ b) (hc : BlkC w k cs t) : BlkC w' k cs t := h.blk hk hc
theorem res_store {b : Nat} {q : Option Addr} {nT cT i k : Nat} {w W : World} {n : Nd} {p : Option Addr} {l cp : Nat} {C : Array Value} (h1 : BlkC W w.heap.size C Cel.tPn) (hC : C.size = 8) (hp : Psr W b q nT cT (i + k)) (ho : Off b w W) (hb : b < w.heap.size) (hl : n.args.length = l)
    (hk : ∀ d, dpN n ≤ d + 1 → Cel.RdP W (fun k => w.heap.size < k ∧ k < W.heap.size) d n p l) :
    BlkC (W.setCells w.heap.size 0 (Cel.ndA n p l cp).toList) w.heap.size (Cel.ndA n p l cp) Cel.tPn ∧ PaP b q nT cT i k n w (.returned (.agg (Cel.ndA n p l cp))) (W.setCells w.heap.size 0 (Cel.ndA n p l cp).toList) := by
  have hz := (store_below (Nat.zero_le w.heap.size) (Cel.ndA n p l cp).toList 0 W (Below.refl 0 W)).size
  refine ⟨store_block h1 _ (by rw [hC]; rfl), ⟨p, cp, by rw [hl], fun d hd => ?_⟩, (store_other (by omega) _ _ _).trans hp, ho.set_cells (Nat.le_refl _) _ _⟩
  rw [hl]
  exact (hk d hd).carry (fun k hk' => ⟨⟨by omega, by omega⟩, store_other (by omega) _ _ _⟩)
theorem prim_head {n : Nd} (h : Fm n) (hk : n.kind ≠ 5) {Ts : List Tks.Tk} {i : Nat} {rest : List Tw} (hat : At Ts i (tkN nmS n 5 ++ rest)) : isB Ts i [45] = false := by
  have key : ∀ x l, At Ts i (x :: l) → (x.1 ≠ 4 ∨ x.2 ≠ [45]) → isB Ts i [45] = false := fun x l h1 h2 => by
    rw [isB_head h1]
    rcases h2 with h2 | h2
    · rw [decide_eq_false h2]; rfl
    · rw [decide_eq_false h2, Bool.and_false]
  rw [tkN_split] at hat
  cases h with
  | num u h1 h2 => exact key _ _ hat (.inl (by show (1 : Int) ≠ 4; omega))
  | txt t => exact key _ _ hat (.inl (by show (2 : Int) ≠ 4; omega))
  | ref f h => exact key _ _ hat (.inl (by show (3 : Int) ≠ 4; omega))
  | rng f o h1 h2 => exact key _ _ hat (.inl (by show (3 : Int) ≠ 4; omega))
  | neg a h => exact absurd rfl hk
  | bin t a c ht h1 h2 =>
    rw [if_pos (by have := lvS_pos t; show lvS t < 5; omega)] at hat
    exact key _ _ hat (.inr (by decide))
  | cal t ar ht hl h =>
    rw [if_neg (by show ¬ (6 : Int) < 5; omega), tk_cal'] at hat
    exact key _ _ hat (.inl (by show (3 : Int) ≠ 4; omega))
  | flt => exact key _ _ hat (.inl (by show (5 : Int) ≠ 4; omega))
theorem rest_tkS {lv : Int} {l : List (Bs × Nd)} (hl : ∀ y ∈ l, lvS y.1 = lv ∧ 1 ≤ lvS y.1) {rest : List Tw} (hr : RestOk lv rest) : RestOk (lv + 1) (tkS lv l ++ rest) := by
  cases l with
  | nil => exact hr.up (by omega)
  | cons y l =>
    obtain ⟨h1, h2⟩ := hl y (by simp)
    have := rest_sign h2 (tkN nmS y.2 (lv + 1) ++ tkS lv l ++ rest)
    rw [h1] at this
    exact this
end Go.Proofs.YtbdgdhjhgcpidaaGreatDoor
