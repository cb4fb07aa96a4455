/- Tokens of printed trees: plain part: a printed tree is cut into its tokens. Contracts of the small functions of both texts: a byte, a digit, a letter, a run, a beginning. Contracts of number and run. Contracts of strings.Builder's WriteByte and String at a builder of the call's own. -/
import Derived.Test.YtigmcoelkkihkaaGreatDoorPwJ
import Derived.Test.YtigmcoelkkihkaaGreatDoorPwA
import Derived.Deep.DeepCutAuto
import Derived.Deep.LoopGhost
import Derived.WalkMore
import Derived.ScopeJumps
import Derived.Test.YtigmcoelkkihkaaGreatDoorBase
import Derived.Test.YtigmcoelkkihkaaGreatDoorShelf
import Derived.Lib.Builder
import Derived.OwnWalk
import Derived.Laws.AppendOwnNone
import Derived.Laws.OwnMore
set_option linter.unusedSimpArgs false
set_option linter.unusedVariables false
namespace Go.Proofs.YtigmcoelkkihkaaGreatDoor
open Go.RowKit Go.Joins

/-- The number of a cell that may be. -/
def OkC (k : Int) : Prop := rtC (cC k) (cR k) = true
/-- A formula that may be read: what its kind doesn't have is nothing. -/
inductive Fm : Nd → Prop
  | num (u : Int) (h1 : 0 ≤ u) (h2 : u ≤ 9223372036854775807) : Fm (.mk 1 u [] 0 0 [])
  | txt (t : Bs) : Fm (.mk 2 0 t 0 0 [])
  | ref (f : Int) (h : OkC f) : Fm (.mk 3 0 [] f 0 [])
  | rng (f o : Int) (h1 : OkC f) (h2 : OkC o) : Fm (.mk 4 0 [] f o [])
  | neg (a : Nd) (h : Fm a) : Fm (.mk 5 0 [] 0 0 [a])
  | bin (t : Bs) (a b : Nd) (ht : 1 ≤ lvS t) (h1 : Fm a) (h2 : Fm b) : Fm (.mk 6 0 t 0 0 [a, b])
  | cal (t : Bs) (ar : List Nd) (ht : nameB t = true) (hl : ar.length ≤ 16) (h : ∀ c ∈ ar, Fm c) : Fm (.mk 7 0 t 0 0 ar)
  | flt : Fm (.mk 8 0 [] 0 0 [])
mutual
/-- A tree as tokens. -/
def tkN (nm : Int → Bs) : Nd → Int → List Tw
  | .mk k u t f o a, least =>
    if hdS k t < least then (4, [40]) :: (tkB nm k u t f o (tkAt nm a 0 5) (tkAt nm a 0 (lvS t)) (tkAt nm a 1 (lvS t + 1)) (tkT nm a) ++ [(4, [41])])
    else tkB nm k u t f o (tkAt nm a 0 5) (tkAt nm a 0 (lvS t)) (tkAt nm a 1 (lvS t + 1)) (tkT nm a)
def tkAt (nm : Int → Bs) : List Nd → Nat → Int → List Tw
  | [], _, _ => []
  | c :: r, i, l => if i = 0 then tkN nm c l else tkAt nm r (i - 1) l
def tkT (nm : Int → Bs) : List Nd → List Tw
  | [] => []
  | c :: r => (4, [44]) :: (tkN nm c 1 ++ tkT nm r)
def tkB (nm : Int → Bs) (k u : Int) (t : Bs) (f o : Int) (m5 l6 r6 al : List Tw) : List Tw :=
  if k = 1 then [(1, txt u)] else if k = 2 then [(2, t)] else if k = 3 then [(3, nm f)] else if k = 4 then [(3, nm f), (4, [58]), (3, nm o)]
  else if k = 5 then (4, [45]) :: m5 else if k = 6 then l6 ++ (4, t) :: r6 else if k = 7 then (3, t) :: (4, [40]) :: (al.drop 1 ++ [(4, [41])]) else [(5, refBs)]
end
theorem lvS_sgs {t : Bs} (h : 1 ≤ lvS t) : t ∈ Tks.sgs := by
  unfold lvS at h
  split at h
  · rename_i hm
    simp only [sgS, if_pos, sg1, List.mem_cons, List.not_mem_nil, or_false] at hm
    rcases hm with rfl | rfl | rfl | rfl | rfl | rfl
    all_goals decide
  · split at h
    · rename_i hm
      simp [sgS, sg2] at hm
      subst hm
      decide
    · split at h
      · rename_i hm
        simp [sgS, sg3] at hm
        rcases hm with rfl | rfl
        all_goals decide
      · split at h
        · rename_i hm
          simp [sgS, sg4] at hm
          rcases hm with rfl | rfl
          all_goals decide
        · omega
theorem lvS_pos (t : Bs) : 0 ≤ lvS t ∧ lvS t ≤ 4 := by
  unfold lvS
  repeat' split
  all_goals omega
theorem hdS_pos (k : Int) (t : Bs) : 0 ≤ hdS k t ∧ hdS k t ≤ 6 := by
  have := lvS_pos t
  unfold hdS
  repeat' split
  all_goals omega
theorem prN_split (nm : Int → Bs) (n : Nd) (least : Int) : prN nm n least = if hdS n.kind n.text < least then 40 :: (prN nm n 0 ++ [41]) else prN nm n 0 := by
  cases n with
  | mk k u t f o a =>
    have h0 := hdS_pos k t
    rw [prN, prN, if_neg (show ¬ hdS k t < 0 by omega)]
    rfl
theorem tkN_split (nm : Int → Bs) (n : Nd) (least : Int) : tkN nm n least = if hdS n.kind n.text < least then (4, [40]) :: (tkN nm n 0 ++ [(4, [41])]) else tkN nm n 0 := by
  cases n with
  | mk k u t f o a =>
    have h0 := hdS_pos k t
    rw [tkN, tkN, if_neg (show ¬ hdS k t < 0 by omega)]
    rfl
section
variable (nm : Int → Bs)
theorem pr_num (u : Int) : prN nm (.mk 1 u [] 0 0 []) 0 = txt u := rfl
theorem pr_txt (t : Bs) : prN nm (.mk 2 0 t 0 0 []) 0 = quoT t := rfl
theorem pr_ref (f : Int) : prN nm (.mk 3 0 [] f 0 []) 0 = nm f := rfl
theorem pr_rng (f o : Int) : prN nm (.mk 4 0 [] f o []) 0 = nm f ++ 58 :: nm o := rfl
theorem pr_neg (a : Nd) : prN nm (.mk 5 0 [] 0 0 [a]) 0 = 45 :: prN nm a 5 := by
  rw [prN, if_neg (by have := hdS_pos 5 []; omega)]
  unfold prB
  rw [prAt]
  rfl
theorem pr_bin (t : Bs) (a b : Nd) : prN nm (.mk 6 0 t 0 0 [a, b]) 0 = prN nm a (lvS t) ++ t ++ prN nm b (lvS t + 1) := by
  rw [prN, if_neg (by have := hdS_pos 6 t; omega)]
  unfold prB
  rw [prAt, prAt, prAt, prAt]
  rfl
theorem pr_cal (t : Bs) (ar : List Nd) : prN nm (.mk 7 0 t 0 0 ar) 0 = t ++ 40 :: ((prT nm ar).drop 1 ++ [41]) := by
  rw [prN, if_neg (by have := hdS_pos 7 t; omega)]
  unfold prB
  rfl
theorem pr_flt : prN nm (.mk 8 0 [] 0 0 []) 0 = refBs := rfl
theorem tk_num' (u : Int) : tkN nm (.mk 1 u [] 0 0 []) 0 = [(1, txt u)] := rfl
theorem tk_txt' (t : Bs) : tkN nm (.mk 2 0 t 0 0 []) 0 = [(2, t)] := rfl
theorem tk_ref' (f : Int) : tkN nm (.mk 3 0 [] f 0 []) 0 = [(3, nm f)] := rfl
theorem tk_rng' (f o : Int) : tkN nm (.mk 4 0 [] f o []) 0 = [(3, nm f), (4, [58]), (3, nm o)] := rfl
theorem tk_neg' (a : Nd) : tkN nm (.mk 5 0 [] 0 0 [a]) 0 = (4, [45]) :: tkN nm a 5 := by
  rw [tkN, if_neg (by have := hdS_pos 5 []; omega)]
  unfold tkB
  rw [tkAt]
  rfl
theorem tk_bin' (t : Bs) (a b : Nd) : tkN nm (.mk 6 0 t 0 0 [a, b]) 0 = tkN nm a (lvS t) ++ (4, t) :: tkN nm b (lvS t + 1) := by
  rw [tkN, if_neg (by have := hdS_pos 6 t; omega)]
  unfold tkB
  rw [tkAt, tkAt, tkAt, tkAt]
  rfl
theorem tk_cal' (t : Bs) (ar : List Nd) : tkN nm (.mk 7 0 t 0 0 ar) 0 = (3, t) :: (4, [40]) :: ((tkT nm ar).drop 1 ++ [(4, [41])]) := by
  rw [tkN, if_neg (by have := hdS_pos 7 t; omega)]
  unfold tkB
  rfl
theorem tk_flt' : tkN nm (.mk 8 0 [] 0 0 []) 0 = [(5, refBs)] := rfl
end
theorem digs_lt10 (n : Nat) : ∀ d ∈ digs n, d < 10 := by
  have key : ∀ (f n : Nat), ∀ d ∈ digsF f n, d < 10 := by
    intro f
    induction f with
    | zero => intro n d h; cases h
    | succ f ih =>
      intro n d h
      unfold digsF at h
      split at h
      · cases h
      · rcases List.mem_cons.1 h with rfl | h
        · omega
        · exact ih _ _ h
  exact key _ _
theorem dgText_dgs (n least : Nat) : (dgText n least).all (fun c => Tks.dgB c.toNat) = true := by
  rw [List.all_eq_true]
  intro c hc
  unfold dgText lettersOf at hc
  rw [List.mem_map] at hc
  obtain ⟨d, hd, rfl⟩ := hc
  rw [List.mem_reverse] at hd
  unfold padL at hd
  have h10 : d < 10 := by
    rcases List.mem_append.1 hd with h | h
    · exact digs_lt10 n d h
    · have := List.eq_of_mem_replicate h
      omega
  unfold Tks.dgB
  rw [UInt8.toNat_ofNat']
  simp
  omega
theorem trimB_all (L : Bs) (c : UInt8) (p : UInt8 → Bool) (h : L.all p = true) : (Lib.trimRightB L c).all p = true := by
  rw [List.all_eq_true] at h ⊢
  intro x hx
  unfold Lib.trimRightB at hx
  rw [List.mem_reverse] at hx
  exact h x (List.mem_reverse.1 ((List.dropWhile_sublist _).subset hx))
theorem dropW_nil (p : UInt8 → Bool) : ∀ (L : Bs), L.dropWhile p = [] → ∀ x ∈ L, p x = true
  | [], _, x, hx => by cases hx
  | c :: L, h, x, hx => by
    rw [List.dropWhile_cons] at h
    split at h
    · rename_i hp
      rcases List.mem_cons.1 hx with rfl | hx
      · exact hp
      · exact dropW_nil p L h x hx
    · cases h
theorem trimB_ne {L : Bs} {c x : UInt8} (hx : x ∈ L) (hc : x ≠ c) : Lib.trimRightB L c ≠ [] := by
  unfold Lib.trimRightB
  intro e
  rw [List.reverse_eq_nil_iff] at e
  have := dropW_nil _ _ e x (List.mem_reverse.2 hx)
  simp at this
  exact hc this
theorem digs_nz : ∀ (f n : Nat), n < f → n ≠ 0 → ∃ d ∈ digsF f n, d ≠ 0 := by
  intro f
  induction f with
  | zero => intro n h; omega
  | succ f ih =>
    intro n h h0
    unfold digsF
    rw [if_neg h0]
    by_cases hm : n % 10 = 0
    · obtain ⟨d, hd, hd0⟩ := ih (n / 10) (by omega) (by omega)
      exact ⟨d, List.mem_cons_of_mem _ hd, hd0⟩
    · exact ⟨n % 10, by simp, hm⟩
theorem num_txt {u : Int} (h : 0 ≤ u) : NumW (txt u) := by
  refine ⟨dgText (u.natAbs / 1000000) 1, if 0 < u.natAbs % 1000000 then 46 :: Lib.trimRightB (dgText (u.natAbs % 1000000) 6) 48 else [], ?_, ?_, dgText_dgs _ _, ?_⟩
  · unfold txt
    rw [if_neg (by omega), List.nil_append]
  · intro e
    have h1 : 0 < (padL (u.natAbs / 1000000) 1).length := by unfold padL; rw [List.length_append, List.length_replicate]; omega
    have e2 := congrArg List.length e
    simp only [dgText, lettersOf, List.length_map, List.length_reverse, List.length_nil] at e2
    omega
  · split
    · rename_i hr
      refine .inr ⟨_, rfl, ?_, trimB_all _ _ _ (dgText_dgs _ _)⟩
      obtain ⟨d, hd, hd0⟩ := digs_nz (u.natAbs % 1000000 + 1) (u.natAbs % 1000000) (by omega) (by omega)
      have h10 := digs_lt10 (u.natAbs % 1000000) d hd
      refine trimB_ne (x := UInt8.ofNat (48 + d)) ?_ ?_
      · unfold dgText lettersOf padL
        rw [List.mem_map]
        exact ⟨d, by simp only [List.mem_reverse, List.mem_append]; exact .inl hd, rfl⟩
      · intro e
        have := congrArg UInt8.toNat e
        rw [UInt8.toNat_ofNat'] at this
        simp at this
        omega
    · exact .inl rfl
theorem nam_of_nameB {t : Bs} (h : nameB t = true) : NamW t := by
  unfold nameB at h
  simp only [Bool.and_eq_true, decide_eq_true_eq] at h
  obtain ⟨h1, h2, _⟩ := h
  cases t with
  | nil => exact absurd rfl h2
  | cons c r =>
    refine ⟨c, r, rfl, ?_, ?_⟩
    · have := h1 0 (by simp)
      unfold okB at this
      simpa [btN, Tks.upB] using this
    · rw [List.all_eq_true]
      intro x hx
      obtain ⟨i, hi, rfl⟩ := List.getElem_of_mem hx
      have := h1 (i + 1) (by simp; omega)
      unfold okB at this
      rw [btN_get (by simp; omega)] at this
      simpa [Tks.nmB, Tks.upB, Tks.dgB] using this
theorem ope_of {c : UInt8} (h : c.toNat < 60 ∨ 62 < c.toNat) (r : Bs) : Ope (c :: r) := by
  unfold Ope
  rw [nx_cons]
  omega
theorem ope_nam {w : Bs} (h : NamW w) (r : Bs) : Ope (w ++ r) := by
  obtain ⟨c, q, rfl, hc, _⟩ := h
  refine ope_of (.inr ?_) _
  unfold Tks.upB at hc
  simp at hc
  omega
theorem ope_num {w : Bs} (h : NumW w) (r : Bs) : Ope (w ++ r) := by
  obtain ⟨a, b, rfl, ha, hd, _⟩ := h
  cases a with
  | nil => exact absurd rfl ha
  | cons c a =>
    refine ope_of (.inl ?_) _
    rw [List.all_cons, Bool.and_eq_true] at hd
    have := hd.1
    unfold Tks.dgB at this
    simp at this
    omega
/-- A part begins with no sign that may be drawn to another one. -/
theorem prN_ope (nm : Int → Bs) (hnm : ∀ k, OkC k → NamW (nm k)) : ∀ {n : Nd}, Fm n → ∀ least r, Ope (prN nm n least ++ r) := by
  intro n h
  have key : (∀ r, Ope (prN nm n 0 ++ r)) → ∀ least r, Ope (prN nm n least ++ r) := by
    intro h0 least r
    rw [prN_split]
    split
    · exact ope_of (.inl (by decide)) _
    · exact h0 r
  induction h with
  | num u h1 h2 => exact key (fun r => ope_num (num_txt h1) r)
  | txt t => exact key (fun r => ope_of (.inl (by decide)) _)
  | ref f h => exact key (fun r => ope_nam (hnm f h) r)
  | rng f o h1 h2 => exact key (fun r => by rw [pr_rng, List.append_assoc]; exact ope_nam (hnm f h1) _)
  | neg a h ih => exact key (fun r => by rw [pr_neg]; exact ope_of (.inl (by decide)) _)
  | bin t a b ht h1 h2 i1 i2 =>
    refine key (fun r => ?_)
    rw [pr_bin, List.append_assoc, List.append_assoc]
    refine i1 ?_ _ _
    intro h0 least r
    rw [prN_split]
    split
    · exact ope_of (.inl (by decide)) _
    · exact h0 r
  | cal t ar ht hl h ih => exact key (fun r => by rw [pr_cal, List.append_assoc]; exact ope_nam (nam_of_nameB ht) _)
  | flt => exact key (fun r => ope_of (.inl (by decide)) _)
theorem sgs_br : ([40] : Bs) ∈ Tks.sgs ∧ ([41] : Bs) ∈ Tks.sgs ∧ ([44] : Bs) ∈ Tks.sgs ∧ ([45] : Bs) ∈ Tks.sgs ∧ ([58] : Bs) ∈ Tks.sgs := by decide
/-- The tokens of a text that begins so. -/
def Tok (w : Bs) (l : List Tw) (r : Bs) : Prop := tkP (w ++ r) = (tkP r).map (l ++ ·)
theorem Tok.app {w1 w2 : Bs} {l1 l2 : List Tw} {r : Bs} (h1 : Tok w1 l1 (w2 ++ r)) (h2 : Tok w2 l2 r) : Tok (w1 ++ w2) (l1 ++ l2) r := by
  unfold Tok at *
  rw [List.append_assoc, h1, h2, Option.map_map]
  congr 1
  funext x
  simp
theorem Tok.one {w : Bs} {x : Tw} {r : Bs} (h : tkP (w ++ r) = (tkP r).map (x :: ·)) : Tok w [x] r := h
theorem tok_sgn {s : Bs} (hs : s ∈ Tks.sgs) {r : Bs} (hr : s = [60] ∨ s = [62] → Ope r) : Tok s [(4, s)] r := tk_sgn hs hr
theorem tok_br {c : UInt8} (hs : [c] ∈ Tks.sgs) (h : c.toNat < 60 ∨ 62 < c.toNat) (r : Bs) : Tok [c] [(4, [c])] r := tok_sgn hs (fun e => by
  rcases e with e | e
  · cases e; exact absurd h (by decide)
  · cases e; exact absurd h (by decide))
theorem sep_br {c : UInt8} (hs : [c] ∈ Tks.sgs) (r : Bs) : Sep (c :: r) := sep_sign hs r
theorem tok_key (nm : Int → Bs) {n : Nd} (h0 : ∀ r, Sep r → Tok (prN nm n 0) (tkN nm n 0) r) : ∀ least r, Sep r → Tok (prN nm n least) (tkN nm n least) r := by
  intro least r hr
  rw [prN_split, tkN_split]
  split
  · have h1 := Tok.app (w1 := [40]) (w2 := prN nm n 0 ++ [41]) (tok_br sgs_br.1 (by decide) _) (Tok.app (h0 ([41] ++ r) (sep_br sgs_br.2.1 r)) (tok_br (c := 41) (r := r) sgs_br.2.1 (by decide)))
    exact h1
  · exact h0 r hr
theorem tok_list (nm : Int → Bs) : ∀ (ar : List Nd), (∀ c ∈ ar, ∀ least r, Sep r → Tok (prN nm c least) (tkN nm c least) r) → ∀ r, Sep r → Tok (prT nm ar) (tkT nm ar) r
  | [], _, r, _ => by
    unfold Tok
    rw [prT, tkT]
    simp
  | c :: ar, h, r, hr => by
    rw [prT, tkT]
    have hs : Sep (prT nm ar ++ r) := by
      cases ar with
      | nil => rw [prT]; exact hr
      | cons d ar => rw [prT]; exact sep_br sgs_br.2.2.1 _
    exact Tok.app (w1 := [44]) (l1 := [(4, [44])]) (tok_br sgs_br.2.2.1 (by decide) _) (Tok.app (h c (by simp) 1 _ hs) (tok_list nm ar (fun x hx => h x (by simp [hx])) r hr))
theorem tok_args (nm : Int → Bs) (ar : List Nd) (h : ∀ c ∈ ar, ∀ least r, Sep r → Tok (prN nm c least) (tkN nm c least) r) (r : Bs) (hr : Sep r) : Tok ((prT nm ar).drop 1) ((tkT nm ar).drop 1) r := by
  cases ar with
  | nil => rw [prT, tkT]; unfold Tok; simp
  | cons c ar =>
    rw [prT, tkT, List.drop_succ_cons, List.drop_zero, List.drop_succ_cons, List.drop_zero]
    have hs : Sep (prT nm ar ++ r) := by
      cases ar with
      | nil => rw [prT]; exact hr
      | cons d ar => rw [prT]; exact sep_br sgs_br.2.2.1 _
    exact Tok.app (h c (by simp) 1 _ hs) (tok_list nm ar (fun x hx => h x (by simp [hx])) r hr)
/-- The tokens of a printed tree. -/
theorem tok_tree (nm : Int → Bs) (hnm : ∀ k, OkC k → NamW (nm k)) : ∀ {n : Nd}, Fm n → ∀ least r, Sep r → Tok (prN nm n least) (tkN nm n least) r := by
  intro n h
  induction h with
  | num u h1 h2 => exact tok_key nm (fun r hr => tk_num (num_txt h1) hr)
  | txt t => exact tok_key nm (fun r hr => tk_quo hr)
  | ref f h => exact tok_key nm (fun r hr => tk_nam (hnm f h) hr)
  | rng f o h1 h2 =>
    refine tok_key nm (fun r hr => ?_)
    exact Tok.app (w1 := nm f) (w2 := [58] ++ nm o) (l1 := [(3, nm f)]) (tk_nam (hnm f h1) (sep_br sgs_br.2.2.2.2 _)) (Tok.app (l1 := [(4, [58])]) (l2 := [(3, nm o)]) (tok_br sgs_br.2.2.2.2 (by decide) _) (tk_nam (hnm o h2) hr))
  | neg a h ih =>
    refine tok_key nm (fun r hr => ?_)
    rw [pr_neg, tk_neg']
    exact Tok.app (w1 := [45]) (l1 := [(4, [45])]) (tok_br sgs_br.2.2.2.1 (by decide) _) (ih 5 r hr)
  | bin t a b ht h1 h2 i1 i2 =>
    refine tok_key nm (fun r hr => ?_)
    rw [pr_bin, tk_bin', List.append_assoc]
    exact Tok.app (i1 _ _ (by rw [List.append_assoc]; exact sep_sign (lvS_sgs ht) _)) (Tok.app (l1 := [(4, t)]) (tok_sgn (lvS_sgs ht) (fun _ => prN_ope nm hnm h2 _ _)) (i2 _ r hr))
  | cal t ar ht hl h ih =>
    refine tok_key nm (fun r hr => ?_)
    rw [pr_cal, tk_cal']
    exact Tok.app (w1 := t) (l1 := [(3, t)]) (tk_nam (nam_of_nameB ht) (sep_br sgs_br.1 _)) (Tok.app (w1 := [40]) (l1 := [(4, [40])]) (tok_br sgs_br.1 (by decide) _) (Tok.app (tok_args nm ar ih _ (sep_br sgs_br.2.1 r)) (tok_br sgs_br.2.1 (by decide) r)))
  | flt => exact tok_key nm (fun r hr => tk_ref r)
/-- A printed tree's tokens. -/
theorem tkP_tree (nm : Int → Bs) (hnm : ∀ k, OkC k → NamW (nm k)) {n : Nd} (h : Fm n) : tkP (prN nm n 1) = some (tkN nm n 1) := by
  have h1 := tok_tree nm hnm h 1 [] Sep.nil
  unfold Tok at h1
  rw [tkP_nil, List.append_nil] at h1
  rw [h1]
  simp
end Go.Proofs.YtigmcoelkkihkaaGreatDoor
namespace Go.Proofs.YtigmcoelkkihkaaGreatDoor.Tks
open Go.RowKit

theorem nx_str (s : ByteArray) (i : Nat) (h : i < s.size) : ((s[i].toNat : Nat) : Int) = (nx s.data.toList i : Int) := by
  have hl : i < s.data.toList.length := by rw [← Lib.size_eq]; exact h
  rw [nx_get hl]
  simp [ByteArray.getElem_eq_getElem_data]
theorem ret_u8 {a b : Int} (h : a = b) : Ending.returned (.int .u8 a) = .returned (.int .u8 b) := by rw [h]
theorem ret_i64 {a b : Int} (h : a = b) : Ending.returned (.int .i64 a) = .returned (.int .i64 b) := by rw [h]
theorem ret_b {a b : Bool} (h : a = b) : Ending.returned (.bool a) = .returned (.bool b) := by rw [h]

set_option maxHeartbeats 400000 in
theorem next_any (s : ByteArray) (i : Nat) (hs : s.size ≤ 100000) (w : World) :
    Calls Tryz.prog 44 #[.string s, .int .i64 i] w fun e w' => e = .returned (.int .u8 (nx s.data.toList i : Int)) ∧ w = w' := by
  by_cases h : i < s.size
  · have H := Lib.hid (nx_str s i h)
    go_enter Tryz.func44, Tryz.ntmps44
    go_wp2
    go_ret
    exact ⟨ret_u8 H.out, rfl⟩
  · have H := Lib.hid (nx_end (L := s.data.toList) (i := i) (by rw [← Lib.size_eq]; omega))
    have h' : s.size ≤ i := by omega
    go_enter Tryz.func44, Tryz.ntmps44
    go_wp2
    go_ret
    exact ⟨ret_u8 (by rw [H.out]; rfl), rfl⟩

set_option maxHeartbeats 400000 in
theorem digit_any (c : Nat) (w : World) : Calls Tryz.prog 68 #[.int .u8 c] w fun e w' => e = .returned (.bool (dgB c)) ∧ w = w' := by
  by_cases h1 : (48 : Int) ≤ (c : Int)
  · by_cases h2 : (c : Int) ≤ 57
    · have H := Lib.hid (show dgB c = true by simp [dgB]; omega)
      go_enter Tryz.func68, Tryz.ntmps68
      go_wp2
      go_ret
      exact ⟨ret_b H.out.symm, rfl⟩
    · have H := Lib.hid (show dgB c = false by simp [dgB]; omega)
      go_enter Tryz.func68, Tryz.ntmps68
      go_wp2
      go_ret
      exact ⟨ret_b H.out.symm, rfl⟩
  · have H := Lib.hid (show dgB c = false by simp [dgB]; omega)
    go_enter Tryz.func68, Tryz.ntmps68
    go_wp2
    go_ret
    exact ⟨ret_b H.out.symm, rfl⟩

set_option maxHeartbeats 400000 in
theorem letter_any (c : Nat) (w : World) : Calls Tryz.prog 70 #[.int .u8 c] w fun e w' => e = .returned (.bool (upB c)) ∧ w = w' := by
  by_cases h1 : (65 : Int) ≤ (c : Int)
  · by_cases h2 : (c : Int) ≤ 90
    · have H := Lib.hid (show upB c = true by simp [upB]; omega)
      go_enter Tryz.func70, Tryz.ntmps70
      go_wp2
      go_ret
      exact ⟨ret_b H.out.symm, rfl⟩
    · have H := Lib.hid (show upB c = false by simp [upB]; omega)
      go_enter Tryz.func70, Tryz.ntmps70
      go_wp2
      go_ret
      exact ⟨ret_b H.out.symm, rfl⟩
  · have H := Lib.hid (show upB c = false by simp [upB]; omega)
    go_enter Tryz.func70, Tryz.ntmps70
    go_wp2
    go_ret
    exact ⟨ret_b H.out.symm, rfl⟩

/-- The contracts as a walk offers them: the answer's name is the caller's. -/
theorem next_at (s : ByteArray) (i c : Nat) (hs : s.size ≤ 100000) (h : nx s.data.toList i = c) (w : World) :
    Calls Tryz.prog 44 #[.string s, .int .i64 i] w fun e w' => e = .returned (.int .u8 (c : Int)) ∧ w = w' := h ▸ next_any s i hs w
theorem digit_yes (c : Nat) (h : dgB c = true) (w : World) : Calls Tryz.prog 68 #[.int .u8 c] w fun e w' => e = .returned (.bool true) ∧ w = w' := h ▸ digit_any c w
theorem digit_no (c : Nat) (h : dgB c = false) (w : World) : Calls Tryz.prog 68 #[.int .u8 c] w fun e w' => e = .returned (.bool false) ∧ w = w' := h ▸ digit_any c w
theorem letter_yes (c : Nat) (h : upB c = true) (w : World) : Calls Tryz.prog 70 #[.int .u8 c] w fun e w' => e = .returned (.bool true) ∧ w = w' := h ▸ letter_any c w
theorem letter_no (c : Nat) (h : upB c = false) (w : World) : Calls Tryz.prog 70 #[.int .u8 c] w fun e w' => e = .returned (.bool false) ∧ w = w' := h ▸ letter_any c w

set_option maxRecDepth 100000 in
set_option maxHeartbeats 1000000 in
theorem name_any (s : ByteArray) (i : Nat) (hs : s.size ≤ 100000) (hi : i ≤ 100000) (w : World) :
    Calls Tryz.prog 71 #[.string s, .int .i64 i] w fun e w' => e = .returned (.int .i64 ((i + runN nmB s.data.toList i : Nat) : Int)) ∧ w = w' := by
  have HE := Lib.hid (show runN nmB s.data.toList i + i ≤ i + runN nmB s.data.toList i by omega)
  obtain ⟨n, hn⟩ : ∃ n, i + runN nmB s.data.toList i = n := ⟨_, rfl⟩
  have hn2 : n ≤ 200000 := by have := run_le nmB s.data.toList i; rw [← Lib.size_eq] at this; omega
  rw [hn]
  have HN := Lib.hid hn
  clear hn HE
  go_enter Tryz.func71, Tryz.ntmps71
  go_wp2_with fail
  go_loop [1] (fun v => ∃ k : Nat, v = .int .i64 k ∧ k ≤ n ∧ k + runN nmB s.data.toList k = n) (fun v => n - (intOf v).toNat)
  case atStart => exact ⟨i, rfl, by have := HN.out; omega, HN.out⟩
  case round =>
    obtain ⟨k, rfl, hk, hr⟩ := hrel
    have HR := Lib.hid hr
    clear hr
    obtain ⟨c, hc⟩ : ∃ c, nx s.data.toList k = c := ⟨_, rfl⟩
    have HC := Lib.hid hc
    clear hc
    have HS := Lib.hid (run_step (p := nmB) (by decide) s.data.toList k)
    rcases hu : upB c with _ | _
    · rcases hd : dgB c with _ | _
      · have HU := Lib.hid hu
        have HD := Lib.hid hd
        clear hu hd
        have hkn : k = n := by have h1 := HS.out; rw [HC.out, if_neg (by simp [nmB, HU.out, HD.out])] at h1; have := HR.out; omega
        have HK := Lib.hid hkn
        clear hkn
        go_wp2_with fail
        refine (next_at s k c hs HC.out _).mono ?_
        rintro e w1 ⟨rfl, rfl⟩
        go_wp2_with fail
        refine (letter_no c HU.out _).mono ?_
        rintro e w1 ⟨rfl, rfl⟩
        go_wp2_with fail
        refine (next_at s k c hs HC.out _).mono ?_
        rintro e w1 ⟨rfl, rfl⟩
        go_wp2_with fail
        refine (digit_no c HD.out _).mono ?_
        rintro e w1 ⟨rfl, rfl⟩
        go_wp2_with fail
        go_ret
        exact ⟨ret_i64 (by rw [HK.out]), rfl⟩
      · have HU := Lib.hid hu
        have HD := Lib.hid hd
        clear hu hd
        have hkn : k + 1 + runN nmB s.data.toList (k + 1) = n := by have h1 := HS.out; rw [HC.out, if_pos (by simp [nmB, HD.out])] at h1; have := HR.out; omega
        have HK := Lib.hid hkn
        clear hkn
        go_wp2_with fail
        refine (next_at s k c hs HC.out _).mono ?_
        rintro e w1 ⟨rfl, rfl⟩
        go_wp2_with fail
        refine (letter_no c HU.out _).mono ?_
        rintro e w1 ⟨rfl, rfl⟩
        go_wp2_with fail
        refine (next_at s k c hs HC.out _).mono ?_
        rintro e w1 ⟨rfl, rfl⟩
        go_wp2_with fail
        refine (digit_yes c HD.out _).mono ?_
        rintro e w1 ⟨rfl, rfl⟩
        go_wp2_with fail
        go_round
        case rel => exact ⟨k + 1, by go_num, by have := HK.out; omega, HK.out⟩
        case measure => have := HK.out; simp [intOf]; omega
    · have HU := Lib.hid hu
      clear hu
      have hkn : k + 1 + runN nmB s.data.toList (k + 1) = n := by have h1 := HS.out; rw [HC.out, if_pos (by simp [nmB, HU.out])] at h1; have := HR.out; omega
      have HK := Lib.hid hkn
      clear hkn
      go_wp2_with fail
      refine (next_at s k c hs HC.out _).mono ?_
      rintro e w1 ⟨rfl, rfl⟩
      go_wp2_with fail
      refine (letter_yes c HU.out _).mono ?_
      rintro e w1 ⟨rfl, rfl⟩
      go_wp2_with fail
      go_round
      case rel => exact ⟨k + 1, by go_num, by have := HK.out; omega, HK.out⟩
      case measure => have := HK.out; simp [intOf]; omega
end Go.Proofs.YtigmcoelkkihkaaGreatDoor.Tks
namespace Go.Proofs.YtigmcoelkkihkaaGreatDoor.Tks
open Go.RowKit

theorem next_z (s : ByteArray) (z : Int) (i c : Nat) (hs : s.size ≤ 100000) (hz : z = (i : Int)) (h : nx s.data.toList i = c) (w : World) :
    Calls Tryz.prog 44 #[.string s, .int .i64 z] w fun e w' => e = .returned (.int .u8 (c : Int)) ∧ w = w' := by
  subst hz
  exact next_at s i c hs h w

/-- As Q; by a goto to a label: what J says of it. -/
def jumps (J : Nat → Act → World → Prop) (Q : Exit → Act → World → Prop) : Exit → Act → World → Prop
  | .goto l, a, w => J l a w
  | e, a, w => Q e a w
theorem jumps_ret {J : Nat → Act → World → Prop} {Q : Exit → Act → World → Prop} {a : Act} {w : World} : jumps J Q .ret a w = Q .ret a w := rfl
theorem jumps_goto {J : Nat → Act → World → Prop} {Q : Exit → Act → World → Prop} {l : Nat} {a : Act} {w : World} : jumps J Q (.goto l) a w = J l a w := rfl

/-- A scope with several labels: what holds at each jump, and a measure that each pass lowers. -/
theorem wp_scope_many {P : Program} {a : Act} {w : World} {Q : Exit → Act → World → Prop} {c : Code} (J : Nat → Act → World → Prop) (m : Nat → Act → World → Nat) (M : Nat)
    (first : c.wp P (jumps (fun l a' w' => J l a' w' ∧ m l a' w' < M) Q) a w)
    (pass : ∀ l a w, J l a w → ∃ rest, findLabel c l = some rest ∧ rest.wp P (jumps (fun l' a' w' => J l' a' w' ∧ m l' a' w' < m l a w) Q) a w) : (Code.scope c).wp P Q a w := by
  intro b k cs
  have hg : ∀ l rest, findLabel c l = some rest → gotoIn l (.inScope c :: k) = some (.code rest :: .inScope c :: k) := fun l rest h => by simp [gotoIn, h]
  have key : ∀ n l a w, m l a w = n → J l a w → ∃ rest e a' w', findLabel c l = some rest ∧ Q e a' w' ∧ Arrives P (lone (b.at a (.code rest :: .inScope c :: k)) cs w) b k cs e a' w' := by
    intro n
    induction n using Nat.strongRecOn with
    | _ n ih =>
      intro l a w hn hJ
      obtain ⟨rest, hf, hp⟩ := pass l a w hJ
      obtain ⟨e, a1, w1, hq, harr⟩ := hp b (.inScope c :: k) cs
      refine ⟨rest, ?_⟩
      cases e with
      | normal => exact ⟨.normal, a1, w1, hf, hq, Steps.trans harr (.one step_inScope)⟩
      | exit id => exact ⟨.exit id, a1, w1, hf, hq, fun k' hk => harr k' (by simp [exitTo, hk])⟩
      | goto l' =>
        obtain ⟨hJ', hlt⟩ := hq
        obtain ⟨rest2, e2, a2, w2, hf2, hq2, harr2⟩ := ih _ (by omega) l' a1 w1 rfl hJ'
        exact ⟨e2, a2, w2, hf, hq2, .of_steps (harr _ (hg _ _ hf2)) harr2⟩
      | ret => exact ⟨_, a1, w1, hf, hq, harr⟩
      | panic ch => exact ⟨_, a1, w1, hf, hq, harr⟩
      | outgrown => exact ⟨_, a1, w1, hf, hq, harr⟩
  obtain ⟨e, a1, w1, hq, harr⟩ := first b (.inScope c :: k) cs
  cases e with
  | normal => exact ⟨.normal, a1, w1, hq, .head step_scope (Steps.trans harr (.one step_inScope))⟩
  | exit id => exact ⟨.exit id, a1, w1, hq, fun k' hk => .head step_scope (harr k' (by simp [exitTo, hk]))⟩
  | goto l' =>
    obtain ⟨hJ', hlt⟩ := hq
    obtain ⟨rest2, e2, a2, w2, hf2, hq2, harr2⟩ := key _ l' a1 w1 rfl hJ'
    exact ⟨e2, a2, w2, hq2, .of_steps (.head step_scope (harr _ (hg _ _ hf2))) harr2⟩
  | ret => exact ⟨_, a1, w1, hq, .of_steps (.one step_scope) harr⟩
  | panic ch => exact ⟨_, a1, w1, hq, .of_steps (.one step_scope) harr⟩
  | outgrown => exact ⟨_, a1, w1, hq, .of_steps (.one step_scope) harr⟩

theorem dg46 : dgB 46 = false := by decide
theorem run_yes {p : Nat → Bool} (h0 : p 0 = false) {L : List UInt8} {k c : Nat} (hc : nx L k = c) (h : p c = true) : runN p L k = runN p L (k + 1) + 1 := by rw [run_step h0, hc, if_pos h]
theorem run_no {p : Nat → Bool} (h0 : p 0 = false) {L : List UInt8} {k c : Nat} (hc : nx L k = c) (h : p c = false) : runN p L k = 0 := by rw [run_step h0, hc, if_neg (by simp [h])]

/-- Where the number ends that begins at a place; 0: a point ends it. -/
def NumR (L : List UInt8) (n1 r : Nat) : Prop := (nx L n1 ≠ 46 ∧ r = n1) ∨ (nx L n1 = 46 ∧ dgB (nx L (n1 + 1)) = false ∧ r = 0) ∨ (nx L n1 = 46 ∧ dgB (nx L (n1 + 1)) = true ∧ r = n1 + 1 + runN dgB L (n1 + 1))

set_option maxRecDepth 100000 in
set_option maxHeartbeats 2000000 in
theorem number_core (s : ByteArray) (i n1 r : Nat) (hs : s.size ≤ 100000) (hi : i ≤ 100000) (hn : i + runN dgB s.data.toList i = n1) (hr : NumR s.data.toList n1 r) (w : World) :
    Calls Tryz.prog 69 #[.string s, .int .i64 i] w fun e w' => e = .returned (.int .i64 r) ∧ w = w' := by
  have HN := Lib.hid hn
  have HR := Lib.hid hr
  have hn1 : n1 ≤ 200000 := by have := run_le dgB s.data.toList i; rw [← Lib.size_eq] at this; omega
  clear hn hr
  go_enter Tryz.func69, Tryz.ntmps69
  go_wp2_with fail
  refine wp_scope_many (fun l a' w' => w = w' ∧ ∃ k : Nat, k ≤ 500000 ∧ (∃ u2 u3 u5 u6 u7 u8 u9 u10 u11 u12 u13 u14 u15 u16 u17 u18 u19 u20 u21 u22 u23 u24 u25 u26 u27 u28 u29 : Value, a' = { tmps := #[.string s, .int .i64 k, u2, u3, .int .i64 0, u5, u6, u7, u8, u9, u10, u11, u12, u13, u14, u15, u16, u17, u18, u19, u20, u21, u22, u23, u24, u25, u26, u27, u28, u29], defers := [] }) ∧ ((l = 0 ∧ k ≤ n1 ∧ k + runN dgB s.data.toList k = n1) ∨ (l = 1 ∧ dgB (nx s.data.toList k) = true ∧ k + runN dgB s.data.toList k = r))) (fun _ a' _ => 600000 - (intOf (a'.tmps.getD 1 undef)).toNat) 600000 ?first ?pass
  · go_wp2_with fail
    go_step3
    have hk : i ≤ n1 := by have := HN.out; omega
    obtain ⟨k, hki⟩ : ∃ k, i = k := ⟨_, rfl⟩
    subst hki
    have HK := Lib.hid HN.out
    have hk5 : i ≤ 500000 := by omega
    obtain ⟨k, hki⟩ : ∃ k, k = i := ⟨_, rfl⟩
    rw [← hki] at hk5 hk HK
    rw [← hki]
    clear hki
    have hMM : 600000 - k ≤ 600000 := by omega
    obtain ⟨c, hc⟩ : ∃ c, nx s.data.toList k = c := ⟨_, rfl⟩
    rcases hd : dgB c with _ | _
    · have hkn : k = n1 := by have := run_no (p := dgB) (by decide) hc hd; have := HK.out; omega
      have HD := Lib.hid hd
      have HC := Lib.hid hc
      have HKN := Lib.hid hkn
      clear hd hc hkn
      go_wp2_with fail
      refine (next_z s _ k c hs (by omega) HC.out _).mono ?_
      rintro e w1 ⟨rfl, rfl⟩
      go_wp2_with fail
      refine (digit_no c HD.out _).mono ?_
      rintro e w1 ⟨rfl, rfl⟩
      rcases HR.out with ⟨h1, h2⟩ | ⟨h1, h2, h3⟩ | ⟨h1, h2, h3⟩
      · rw [← HKN.out, HC.out] at h1
        have h46 : (((c : Nat) : Int) != 46) = true := by simp; omega
        have H2 := Lib.hid h2
        clear h1 h2
        go_wp2_with fail
        refine (next_z s _ k c hs (by omega) HC.out _).mono ?_
        rintro e w1 ⟨rfl, rfl⟩
        go_wp2_with fail
        simp only [jumps_ret]
        go_ret
        exact ⟨ret_i64 (by rw [H2.out, HKN.out]), rfl⟩
      · rw [← HKN.out, HC.out] at h1
        have h46 : (((c : Nat) : Int) != 46) = false := by simp; omega
        have H3 := Lib.hid h3
        obtain ⟨c2, hc2⟩ : ∃ c2, nx s.data.toList (k + 1) = c2 := ⟨_, rfl⟩
        rw [← HKN.out, hc2] at h2
        have H2 := Lib.hid h2
        have HC2 := Lib.hid hc2
        clear h1 h2 h3 hc2
        go_wp2_with fail
        refine (next_z s _ k c hs (by omega) HC.out _).mono ?_
        rintro e w1 ⟨rfl, rfl⟩
        go_wp2_with fail
        refine (next_z s _ (k + 1) c2 hs (by omega) HC2.out _).mono ?_
        rintro e w1 ⟨rfl, rfl⟩
        go_wp2_with fail
        refine (digit_no c2 H2.out _).mono ?_
        rintro e w1 ⟨rfl, rfl⟩
        go_wp2_with fail
        simp only [jumps_ret]
        go_ret
        exact ⟨ret_i64 (by rw [H3.out]; rfl), rfl⟩
      · rw [← HKN.out, HC.out] at h1
        have h46 : (((c : Nat) : Int) != 46) = false := by simp; omega
        rw [← HKN.out] at h3
        have H3 := Lib.hid h3
        obtain ⟨c2, hc2⟩ : ∃ c2, nx s.data.toList (k + 1) = c2 := ⟨_, rfl⟩
        rw [← HKN.out, hc2] at h2
        have H2 := Lib.hid h2
        have HC2 := Lib.hid hc2
        obtain ⟨c3, hc3⟩ : ∃ c3, nx s.data.toList (k + 1 + 1) = c3 := ⟨_, rfl⟩
        rcases hd3 : dgB c3 with _ | _
        · have H4 : Hid (r = k + 1 + 1) := by unfold Hid; rw [H3.out, run_yes (p := dgB) (by decide) hc2 h2, run_no (p := dgB) (by decide) hc3 hd3]
          have HD3 := Lib.hid hd3
          have HC3 := Lib.hid hc3
          clear h1 h2 h3 hc2 hc3 hd3
          go_wp2_with fail
          refine (next_z s _ k c hs (by omega) HC.out _).mono ?_
          rintro e w1 ⟨rfl, rfl⟩
          go_wp2_with fail
          refine (next_z s _ (k + 1) c2 hs (by omega) HC2.out _).mono ?_
          rintro e w1 ⟨rfl, rfl⟩
          go_wp2_with fail
          refine (digit_yes c2 H2.out _).mono ?_
          rintro e w1 ⟨rfl, rfl⟩
          go_wp2_with fail
          go_step3
          go_wp2_with fail
          refine (next_z s _ (k + 1 + 1) c3 hs (by omega) HC3.out _).mono ?_
          rintro e w1 ⟨rfl, rfl⟩
          go_wp2_with fail
          refine (digit_no c3 HD3.out _).mono ?_
          rintro e w1 ⟨rfl, rfl⟩
          go_wp2_with fail
          simp only [jumps_ret]
          go_ret
          exact ⟨ret_i64 (by rw [H4.out]; go_num), rfl⟩
        · have H4 : Hid (k + 1 + 1 + runN dgB s.data.toList (k + 1 + 1) = r) := by unfold Hid; rw [H3.out, run_yes (p := dgB) (by decide) hc2 h2]; omega
          have HD3 := Lib.hid hd3
          have HC3 := Lib.hid hc3
          clear h1 h2 h3 hc2 hc3 hd3
          go_wp2_with fail
          refine (next_z s _ k c hs (by omega) HC.out _).mono ?_
          rintro e w1 ⟨rfl, rfl⟩
          go_wp2_with fail
          refine (next_z s _ (k + 1) c2 hs (by omega) HC2.out _).mono ?_
          rintro e w1 ⟨rfl, rfl⟩
          go_wp2_with fail
          refine (digit_yes c2 H2.out _).mono ?_
          rintro e w1 ⟨rfl, rfl⟩
          go_wp2_with fail
          go_step3
          go_wp2_with fail
          refine (next_z s _ (k + 1 + 1) c3 hs (by omega) HC3.out _).mono ?_
          rintro e w1 ⟨rfl, rfl⟩
          go_wp2_with fail
          refine (digit_yes c3 HD3.out _).mono ?_
          rintro e w1 ⟨rfl, rfl⟩
          go_wp2_with fail
          go_step3
          refine ⟨⟨rfl, k + 1 + 1, by omega, ⟨_, _, _, _, _, _, _, _, _, _, _, _, _, _, _, _, _, _, _, _, _, _, _, _, _, _, _, by first | rfl | (congr 3; go_num) | go_num⟩, .inr ⟨rfl, by rw [HC3.out]; exact HD3.out, H4.out⟩⟩, by simp [intOf]; omega⟩
    · have hkn : k + 1 + runN dgB s.data.toList (k + 1) = n1 := by have := run_yes (p := dgB) (by decide) hc hd; have := HK.out; omega
      have HD := Lib.hid hd
      have HC := Lib.hid hc
      have HKN := Lib.hid hkn
      clear hd hc hkn
      go_wp2_with fail
      refine (next_z s _ k c hs (by omega) HC.out _).mono ?_
      rintro e w1 ⟨rfl, rfl⟩
      go_wp2_with fail
      refine (digit_yes c HD.out _).mono ?_
      rintro e w1 ⟨rfl, rfl⟩
      go_wp2_with fail
      go_step3
      have hk9 : k + 1 ≤ n1 := by have := HKN.out; omega
      refine ⟨⟨rfl, k + 1, by omega, ⟨_, _, _, _, _, _, _, _, _, _, _, _, _, _, _, _, _, _, _, _, _, _, _, _, _, _, _, by first | rfl | (congr 3; go_num) | go_num⟩, .inl ⟨rfl, hk9, HKN.out⟩⟩, by simp [intOf]; omega⟩
  · rintro l a' w' ⟨rfl, k, hk5, ⟨u2, u3, u5, u6, u7, u8, u9, u10, u11, u12, u13, u14, u15, u16, u17, u18, u19, u20, u21, u22, u23, u24, u25, u26, u27, u28, u29, rfl⟩, ⟨rfl, hk, hr1⟩ | ⟨rfl, hd, hr1⟩⟩
    · refine ⟨_, rfl, ?_⟩
      have HK := Lib.hid hr1
      clear hr1
      obtain ⟨c, hc⟩ : ∃ c, nx s.data.toList k = c := ⟨_, rfl⟩
      rcases hd : dgB c with _ | _
      · have hkn : k = n1 := by have := run_no (p := dgB) (by decide) hc hd; have := HK.out; omega
        have HD := Lib.hid hd
        have HC := Lib.hid hc
        have HKN := Lib.hid hkn
        clear hd hc hkn
        go_wp2_with fail
        refine (next_z s _ k c hs (by omega) HC.out _).mono ?_
        rintro e w1 ⟨rfl, rfl⟩
        go_wp2_with fail
        refine (digit_no c HD.out _).mono ?_
        rintro e w1 ⟨rfl, rfl⟩
        rcases HR.out with ⟨h1, h2⟩ | ⟨h1, h2, h3⟩ | ⟨h1, h2, h3⟩
        · rw [← HKN.out, HC.out] at h1
          have h46 : (((c : Nat) : Int) != 46) = true := by simp; omega
          have H2 := Lib.hid h2
          clear h1 h2
          go_wp2_with fail
          refine (next_z s _ k c hs (by omega) HC.out _).mono ?_
          rintro e w1 ⟨rfl, rfl⟩
          go_wp2_with fail
          simp only [jumps_ret]
          go_ret
          exact ⟨ret_i64 (by rw [H2.out, HKN.out]), rfl⟩
        · rw [← HKN.out, HC.out] at h1
          have h46 : (((c : Nat) : Int) != 46) = false := by simp; omega
          have H3 := Lib.hid h3
          obtain ⟨c2, hc2⟩ : ∃ c2, nx s.data.toList (k + 1) = c2 := ⟨_, rfl⟩
          rw [← HKN.out, hc2] at h2
          have H2 := Lib.hid h2
          have HC2 := Lib.hid hc2
          clear h1 h2 h3 hc2
          go_wp2_with fail
          refine (next_z s _ k c hs (by omega) HC.out _).mono ?_
          rintro e w1 ⟨rfl, rfl⟩
          go_wp2_with fail
          refine (next_z s _ (k + 1) c2 hs (by omega) HC2.out _).mono ?_
          rintro e w1 ⟨rfl, rfl⟩
          go_wp2_with fail
          refine (digit_no c2 H2.out _).mono ?_
          rintro e w1 ⟨rfl, rfl⟩
          go_wp2_with fail
          simp only [jumps_ret]
          go_ret
          exact ⟨ret_i64 (by rw [H3.out]; rfl), rfl⟩
        · rw [← HKN.out, HC.out] at h1
          have h46 : (((c : Nat) : Int) != 46) = false := by simp; omega
          rw [← HKN.out] at h3
          have H3 := Lib.hid h3
          obtain ⟨c2, hc2⟩ : ∃ c2, nx s.data.toList (k + 1) = c2 := ⟨_, rfl⟩
          rw [← HKN.out, hc2] at h2
          have H2 := Lib.hid h2
          have HC2 := Lib.hid hc2
          obtain ⟨c3, hc3⟩ : ∃ c3, nx s.data.toList (k + 1 + 1) = c3 := ⟨_, rfl⟩
          rcases hd3 : dgB c3 with _ | _
          · have H4 : Hid (r = k + 1 + 1) := by unfold Hid; rw [H3.out, run_yes (p := dgB) (by decide) hc2 h2, run_no (p := dgB) (by decide) hc3 hd3]
            have HD3 := Lib.hid hd3
            have HC3 := Lib.hid hc3
            clear h1 h2 h3 hc2 hc3 hd3
            go_wp2_with fail
            refine (next_z s _ k c hs (by omega) HC.out _).mono ?_
            rintro e w1 ⟨rfl, rfl⟩
            go_wp2_with fail
            refine (next_z s _ (k + 1) c2 hs (by omega) HC2.out _).mono ?_
            rintro e w1 ⟨rfl, rfl⟩
            go_wp2_with fail
            refine (digit_yes c2 H2.out _).mono ?_
            rintro e w1 ⟨rfl, rfl⟩
            go_wp2_with fail
            go_step3
            go_wp2_with fail
            refine (next_z s _ (k + 1 + 1) c3 hs (by omega) HC3.out _).mono ?_
            rintro e w1 ⟨rfl, rfl⟩
            go_wp2_with fail
            refine (digit_no c3 HD3.out _).mono ?_
            rintro e w1 ⟨rfl, rfl⟩
            go_wp2_with fail
            simp only [jumps_ret]
            go_ret
            exact ⟨ret_i64 (by rw [H4.out]; go_num), rfl⟩
          · have H4 : Hid (k + 1 + 1 + runN dgB s.data.toList (k + 1 + 1) = r) := by unfold Hid; rw [H3.out, run_yes (p := dgB) (by decide) hc2 h2]; omega
            have HD3 := Lib.hid hd3
            have HC3 := Lib.hid hc3
            clear h1 h2 h3 hc2 hc3 hd3
            go_wp2_with fail
            refine (next_z s _ k c hs (by omega) HC.out _).mono ?_
            rintro e w1 ⟨rfl, rfl⟩
            go_wp2_with fail
            refine (next_z s _ (k + 1) c2 hs (by omega) HC2.out _).mono ?_
            rintro e w1 ⟨rfl, rfl⟩
            go_wp2_with fail
            refine (digit_yes c2 H2.out _).mono ?_
            rintro e w1 ⟨rfl, rfl⟩
            go_wp2_with fail
            go_step3
            go_wp2_with fail
            refine (next_z s _ (k + 1 + 1) c3 hs (by omega) HC3.out _).mono ?_
            rintro e w1 ⟨rfl, rfl⟩
            go_wp2_with fail
            refine (digit_yes c3 HD3.out _).mono ?_
            rintro e w1 ⟨rfl, rfl⟩
            go_wp2_with fail
            go_step3
            refine ⟨⟨rfl, k + 1 + 1, by omega, ⟨_, _, _, _, _, _, _, _, _, _, _, _, _, _, _, _, _, _, _, _, _, _, _, _, _, _, _, by first | rfl | (congr 3; go_num) | go_num⟩, .inr ⟨rfl, by rw [HC3.out]; exact HD3.out, H4.out⟩⟩, by simp [intOf]; omega⟩
      · have hkn : k + 1 + runN dgB s.data.toList (k + 1) = n1 := by have := run_yes (p := dgB) (by decide) hc hd; have := HK.out; omega
        have HD := Lib.hid hd
        have HC := Lib.hid hc
        have HKN := Lib.hid hkn
        clear hd hc hkn
        go_wp2_with fail
        refine (next_z s _ k c hs (by omega) HC.out _).mono ?_
        rintro e w1 ⟨rfl, rfl⟩
        go_wp2_with fail
        refine (digit_yes c HD.out _).mono ?_
        rintro e w1 ⟨rfl, rfl⟩
        go_wp2_with fail
        go_step3
        have hk9 : k + 1 ≤ n1 := by have := HKN.out; omega
        refine ⟨⟨rfl, k + 1, by omega, ⟨_, _, _, _, _, _, _, _, _, _, _, _, _, _, _, _, _, _, _, _, _, _, _, _, _, _, _, by first | rfl | (congr 3; go_num) | go_num⟩, .inl ⟨rfl, hk9, HKN.out⟩⟩, by simp [intOf]; omega⟩
    · refine ⟨_, rfl, ?_⟩
      obtain ⟨c0, hc0⟩ : ∃ c, nx s.data.toList k = c := ⟨_, rfl⟩
      rw [hc0] at hd
      obtain ⟨c, hc⟩ : ∃ c, nx s.data.toList (k + 1) = c := ⟨_, rfl⟩
      rcases hd2 : dgB c with _ | _
      · have H4 : Hid (r = k + 1) := by unfold Hid; rw [← hr1, run_yes (p := dgB) (by decide) hc0 hd, run_no (p := dgB) (by decide) hc hd2]
        have HD2 := Lib.hid hd2
        have HC := Lib.hid hc
        clear hd hc0 hr1 hc hd2
        go_wp2_with fail
        refine (next_z s _ (k + 1) c hs (by omega) HC.out _).mono ?_
        rintro e w1 ⟨rfl, rfl⟩
        go_wp2_with fail
        refine (digit_no c HD2.out _).mono ?_
        rintro e w1 ⟨rfl, rfl⟩
        go_wp2_with fail
        simp only [jumps_ret]
        go_ret
        exact ⟨ret_i64 (by rw [H4.out]; go_num), rfl⟩
      · have H4 : Hid (k + 1 + runN dgB s.data.toList (k + 1) = r) := by unfold Hid; rw [← hr1, run_yes (p := dgB) (by decide) hc0 hd]; omega
        have HD2 := Lib.hid hd2
        have HC := Lib.hid hc
        clear hd hc0 hr1
        have hk9 : k + 1 ≤ 500000 := by
          have := lt_of_nx (L := s.data.toList) (i := k + 1) (by rw [hc]; intro e; rw [e] at hd2; exact absurd hd2 (by decide))
          rw [← Lib.size_eq] at this
          omega
        clear hc hd2
        go_wp2_with fail
        refine (next_z s _ (k + 1) c hs (by omega) HC.out _).mono ?_
        rintro e w1 ⟨rfl, rfl⟩
        go_wp2_with fail
        refine (digit_yes c HD2.out _).mono ?_
        rintro e w1 ⟨rfl, rfl⟩
        go_wp2_with fail
        go_step3
        refine ⟨⟨rfl, k + 1, by omega, ⟨_, _, _, _, _, _, _, _, _, _, _, _, _, _, _, _, _, _, _, _, _, _, _, _, _, _, _, by first | rfl | (congr 3; go_num) | go_num⟩, .inr ⟨rfl, by rw [HC.out]; exact HD2.out, H4.out⟩⟩, by simp [intOf]; omega⟩

theorem numR_of (L : List UInt8) (i : Nat) (hd : dgB (nx L i) = true) : NumR L (i + runN dgB L i) (if numN L i = 0 then 0 else i + numN L i) := by
  have h0 := run_yes (p := dgB) (by decide) (L := L) (k := i) rfl hd
  unfold NumR
  by_cases h : nx L (i + runN dgB L i) = 46
  · by_cases h2 : dgB (nx L (i + runN dgB L i + 1)) = true
    · have h3 := run_yes (p := dgB) (by decide) (L := L) (k := i + runN dgB L i + 1) rfl h2
      have e : numN L i = runN dgB L i + 1 + runN dgB L (i + runN dgB L i + 1) := by unfold numN; rw [if_pos h, if_neg (by omega)]
      exact .inr (.inr ⟨h, h2, by rw [if_neg (by omega)]; omega⟩)
    · have h2 : dgB (nx L (i + runN dgB L i + 1)) = false := by simpa using h2
      have h3 := run_no (p := dgB) (by decide) (L := L) (k := i + runN dgB L i + 1) rfl h2
      have e : numN L i = 0 := by unfold numN; rw [if_pos h, if_pos h3]
      exact .inr (.inl ⟨h, h2, by rw [if_pos e]⟩)
  · have e : numN L i = runN dgB L i := by unfold numN; rw [if_neg h]
    exact .inl ⟨h, by rw [if_neg (by omega)]; omega⟩
/-- number, where a digit stands. -/
theorem number_any (s : ByteArray) (i r : Nat) (hs : s.size ≤ 100000) (hi : i ≤ 100000) (hd : dgB (nx s.data.toList i) = true) (hr : (if numN s.data.toList i = 0 then 0 else i + numN s.data.toList i) = r) (w : World) :
    Calls Tryz.prog 69 #[.string s, .int .i64 i] w fun e w' => e = .returned (.int .i64 r) ∧ w = w' :=
  number_core s i _ r hs hi rfl (hr ▸ numR_of _ i hd) w
end Go.Proofs.YtigmcoelkkihkaaGreatDoor.Tks
namespace Go.Proofs.YtigmcoelkkihkaaGreatDoor.Tks
open Go.RowKit

abbrev tBd : TypeId := 86
theorem info_bd : (Tryz.prog.info? 86).map (fun i => i.size) = some 2 := by kernel_rfl
theorem lies_bd : liesAt Tryz.prog Tryz.prog.depth 86 (2 / Tryz.prog.cellsOf 86) 0 86 1 = true := by kernel_rfl
theorem info_u8b : (Tryz.prog.info? 5).map (fun i => (i.zero, i.size, i.bytes)) = some (some (.int .u8 0), 1, 1) := by kernel_rfl

set_option maxHeartbeats 1000000 in
set_option maxRecDepth 100000 in
theorem copyCheck_used (b : Nat) (w : World) (h0 : w.cell? ⟨b, 0, none⟩ = some (.pointer (some ⟨b, 0, none⟩))) :
    Calls Tryz.prog 87 #[.pointer (some ⟨b, 0, none⟩)] w fun e w' => e = .returned (.tuple #[]) ∧ w' = w := by
  obtain ⟨j, hj, _⟩ := Option.map_eq_some_iff.1 info_bd
  go_enter Tryz.func87, Tryz.ntmps87
  go_wp2
  rw [Lib.run_neq_ptr_same w _ Tryz.underlying83 hj]
  go_wp2
  go_end0
  exact ⟨rfl, rfl⟩

set_option maxHeartbeats 1000000 in
set_option maxRecDepth 100000 in
theorem copyCheck_fresh (b : Nat) (w : World) (h0 : w.cell? ⟨b, 0, none⟩ = some (.pointer none)) (hsh : w.shape? b = some (tBd, 2)) (hfz : w.frozen? ⟨b, 0, none⟩ = false) :
    Calls Tryz.prog 87 #[.pointer (some ⟨b, 0, none⟩)] w fun e w' => e = .returned (.tuple #[]) ∧ w' = w.setCell ⟨b, 0, none⟩ (.pointer (some ⟨b, 0, none⟩)) := by
  obtain ⟨j, hj, hjs⟩ := Option.map_eq_some_iff.1 info_bd
  go_enter Tryz.func87, Tryz.ntmps87
  go_wp2
  rw [Lib.run_to_unsafe w ⟨b, 0, none⟩ Tryz.underlying83 Tryz.underlying140 hj (by rw [hjs]; decide) hsh (Nat.zero_lt_succ 1)]
  simp only [Result.andThen]
  rw [Oper.upon_value]
  go_wp2
  rw [run_callFunc_extern Tryz.func101 (by kernel_rfl) (by kernel_rfl) (by kernel_rfl) (e := Extern.AbiNoEscape.same) (by kernel_rfl)]
  rw [Lib.run_noEscape]
  simp only [Result.andThen]
  rw [Oper.upon_value]
  go_wp2
  rw [Lib.run_from_unsafe w ⟨b, 0, none⟩ Tryz.underlying140 Tryz.underlying83 hj hsh lies_bd]
  simp only [Result.andThen]
  rw [Oper.upon_value]
  go_wp2
  go_end0
  exact ⟨rfl, rfl⟩

theorem copyCheck_any (B b : Nat) (bs : List Value) (w : World) (h : Lib.IsBuilder tBd 5 B b bs w) :
    Calls Tryz.prog 87 #[.pointer (some ⟨b, 0, none⟩)] w fun e w' => e = .returned (.tuple #[]) ∧ Lib.BuilderAt tBd 5 B b (.pointer (some ⟨b, 0, none⟩)) bs w' ∧ Below B w w' := by
  rcases h with h | h
  · refine (copyCheck_fresh b w h.cell0 h.shape h.frozen0).mono ?_
    rintro e w' ⟨rfl, rfl⟩
    exact ⟨rfl, h.used _, (Below.refl B w).setCell (p := ⟨b, 0, none⟩) h.1 _⟩
  · refine (copyCheck_used b w h.cell0).mono ?_
    rintro e w' ⟨rfl, rfl⟩
    exact ⟨rfl, h, Below.refl B _⟩

set_option maxHeartbeats 2000000 in
set_option maxRecDepth 100000 in
theorem writeByte_any (B b : Nat) (bs : List Value) (c : Int) (w : World) (h : Lib.IsBuilder tBd 5 B b bs w) (hlen : bs.length ≤ 1000000) (hBw : B ≤ w.heap.size) :
    Calls Tryz.prog 63 #[.pointer (some ⟨b, 0, none⟩), .int .u8 c] w fun e w' => e = .returned .nilIface ∧ Lib.BuilderAt tBd 5 B b (.pointer (some ⟨b, 0, none⟩)) (bs ++ [.int .u8 c]) w' ∧ Below B w w' := by
  obtain ⟨i0, hi, hz0, hz1, hz2⟩ := info_parts info_u8b
  go_enter Tryz.func63, Tryz.ntmps63
  go_wp2_with (go_at_call 87; refine (copyCheck_any B b bs _ h).mono ?_)
  rintro e w1 ⟨rfl, h1, hb1⟩
  obtain ⟨hB, v, hbk, hown, hne⟩ := h1
  have c0 : w1.cell? ⟨b, 0, none⟩ = some (.pointer (some ⟨b, 0, none⟩)) := by rw [Lib.cell_of_heap hbk]; rfl
  have c1 : w1.cell? ⟨b, 1, none⟩ = some v := by rw [Lib.cell_of_heap hbk]; rfl
  go_wp2_with (at_builtin; refine wpList_append_own _ rfl _ _ 84 rfl B 5 i0 (.int .u8 0) 1 1 Tryz.underlying84 hi hz0 hz1 hz2 rfl (by decide) _ _ _ rfl (hown.alloc _) ⟨w1.heap.size, 0, none⟩ 1 1 [.int .u8 c] rfl rfl ?c1 ?c2 ?c3 ?c4 ?c5 ?_)
  case c1 =>
    intro j u hj
    match j, hj with
    | 0, hj => simp at hj; subst hj; simp [Addr.add]
  case c2 => intro u hu; simp at hu; subst hu; rfl
  case c3 => unfold maxLen; omega
  case c4 => omega
  case c5 => have := hb1.size; simp; omega
  intro v' w2 hown' hgrow _
  have hlt : b < w1.heap.size := by
    rcases Nat.lt_or_ge b w1.heap.size with h' | h'
    · exact h'
    · simp [Array.getElem?_eq_none h'] at hbk
  have hb2 : w2.heap[b]? = some (.cells #[.pointer (some ⟨b, 0, none⟩), v] tBd (0, 0)) := by
    rw [hgrow.block b (by simp; omega) (fun e => hne e.symm), Lib.alloc_old w1 _ b hlt]
    exact hbk
  have d0 : w2.cell? ⟨b, 0, none⟩ = some (.pointer (some ⟨b, 0, none⟩)) := by rw [Lib.cell_of_heap hb2]; rfl
  have d1 : w2.cell? ⟨b, 1, none⟩ = some v := by rw [Lib.cell_of_heap hb2]; rfl
  have f1 : w2.frozen? ⟨b, 1, none⟩ = false := Lib.frozen_of_heap hb2 1
  obtain ⟨g, cap, rfl⟩ : ∃ g cap, v' = .slice (some ⟨g, 0, none⟩) (bs.length + 1) cap := by
    rcases hown'.2 with ⟨_, h0⟩ | ⟨g, cap, cur, hv, _⟩
    · omega
    · exact ⟨g, cap, hv⟩
  go_wp2
  go_ret
  refine ⟨rfl, ?_, ?_⟩
  · exact Lib.BuilderAt.put (T := tBd) (e := 5) hB hb2 (bs' := bs ++ [.int .u8 c]) (by simpa using hown') (by decide)
  · exact ((hb1.alloc (by have := hb1.size; omega) _).grown hgrow (by have := hb1.size; simp; omega) (fun k hk => (hown.lt k hk).1)).setCell (p := ⟨b, 1, none⟩) hB _

theorem bd_fresh (B : Nat) (w : World) (hB : B ≤ w.heap.size) : Lib.IsBuilder tBd 5 B w.heap.size [] (w.alloc (.cells #[.pointer none, .slice none 0 0] tBd)) :=
  .inl ⟨hB, .slice none 0 0, heap_alloc_new w _, World.ownsRow_nil _ _ _ _, by intro h; cases h⟩
theorem bd_string (B b : Nat) (l : List UInt8) (w : World) (h : Lib.IsBuilder tBd 5 B b (Lib.byteCells l) w) (hBw : B ≤ w.heap.size) :
    Calls Tryz.prog 43 #[.pointer (some ⟨b, 0, none⟩)] w fun e w' => e = .returned (.string ⟨l.toArray⟩) ∧ Below B w w' := Tryz.Builder_String_any B b l w h hBw
end Go.Proofs.YtigmcoelkkihkaaGreatDoor.Tks
