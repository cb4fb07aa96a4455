/- Numfmt: what both texts write: the plain law. -/
import Derived.Test.YteknbdodihfbeaaDoorNumG
import Derived.Test.YteknbdodihfbeaaDoorDecI
set_option linter.unusedSimpArgs false
set_option linter.unusedVariables false
namespace Go.Proofs.YteknbdodihfbeaaDoor
open Go.RowKit Go.Joins

/-- A comma ahead of each three digits. -/
def grp : Bool → Bs → Bs
  | _, [] => []
  | fi, c :: r => (if fi = false ∧ (r.length + 1) % 3 = 0 then [44] else []) ++ c :: grp false r
theorem grp_three (x y z : UInt8) : ∀ (a : Bs) (fi : Bool), (fi = false ∨ a ≠ []) → grp fi (a ++ [x, y, z]) = grp fi a ++ [44, x, y, z]
  | [], fi, h => by
    have hf : fi = false := by
      rcases h with h | h
      · exact h
      · exact absurd rfl h
    subst hf
    simp [grp]
  | c :: r, fi, _ => by
    show (if fi = false ∧ ((r ++ [x, y, z]).length + 1) % 3 = 0 then [44] else []) ++ c :: grp false (r ++ [x, y, z]) = ((if fi = false ∧ (r.length + 1) % 3 = 0 then [44] else []) ++ c :: grp false r) ++ [44, x, y, z]
    rw [grp_three x y z r false (.inl rfl)]
    have e : ((r ++ [x, y, z]).length + 1) % 3 = (r.length + 1) % 3 := by simp; omega
    rw [e]
    simp
theorem grp_few (a : Bs) (h : a.length ≤ 3) : grp true a = a := by
  match a, h with
  | [], _ => rfl
  | [x], _ => rfl
  | [x, y], _ => rfl
  | [x, y, z], _ => rfl
/-- The digits ahead of the point and behind it, as the program finds them in a number's text. -/
def lfP (f : Fm) (T : Bs) : Bs := List.replicate (f.n - (Lib.trimLeftB (Lib.cut (Lib.trimPrefix T [45]) [46]).1 48).length) 48 ++ Lib.trimLeftB (Lib.cut (Lib.trimPrefix T [45]) [46]).1 48
def rtP (f : Fm) (T : Bs) : Bs := (Lib.cut (Lib.trimPrefix T [45]) [46]).2.1 ++ List.replicate (f.p - (Lib.cut (Lib.trimPrefix T [45]) [46]).2.1.length) 48
def wrap (f : Fm) (mi : Bool) (l r : Bs) : Bs := f.hd ++ ((if mi then [45] else []) ++ ((if f.cm then grp true l else l) ++ (if 0 < f.p + f.o ∧ r ≠ [] then 46 :: r else []) ++ (if f.pc then [37] else []))) ++ f.tl
def bodyP (f : Fm) (d : Int) : Bs := wrap f (Lib.hasPrefix (txt d) [45]) (lfP f (txt d)) (rtP f (txt d))
/-- How many digits behind the point stay. -/
def kpN (f : Fm) (r : Nat) : Nat := max f.p (Lib.trimRightB (dgText r 6) 48).length
def bodyR (f : Fm) (d : Int) : Bs := wrap f (decide (d < 0)) (dgText (d.natAbs / 1000000) f.n) ((dgText (d.natAbs % 1000000) 6).take (kpN f (d.natAbs % 1000000)))
theorem letters_cons (a : Nat) (L : List Nat) : lettersOf (a :: L) = UInt8.ofNat (48 + a) :: lettersOf L := rfl
theorem letters_rep (k : Nat) : lettersOf (List.replicate k 0) = List.replicate k 48 := by simp [lettersOf]
theorem letters_app (A B : List Nat) : lettersOf (A ++ B) = lettersOf A ++ lettersOf B := by simp [lettersOf]
theorem dgText_pad (q n : Nat) : dgText q n = List.replicate (n - (dgText q 0).length) 48 ++ dgText q 0 := by
  unfold dgText padL
  rw [Nat.zero_sub, List.replicate_zero, List.append_nil, List.reverse_append, List.reverse_replicate, letters_app, letters_rep]
  simp [lettersOf]
theorem trimLeft_one (q : Nat) : Lib.trimLeftB (dgText q 1) 48 = dgText q 0 := by
  by_cases h : q = 0
  · subst h
    decide
  · have e : dgText q 1 = dgText q 0 := by
      unfold dgText padL
      rw [digs_pos h]
      simp
    rw [e]
    unfold dgText padL
    rw [Nat.zero_sub, List.replicate_zero, List.append_nil]
    rcases List.eq_nil_or_concat (digs q) with h1 | ⟨l, d, h1⟩
    · exact absurd (digs_nil.1 h1) h
    · have hl := digs_last q
      rw [h1] at hl
      have hd : d ≠ 0 := by simpa using hl
      have h10 := digs_lt q d (by rw [h1]; simp)
      rw [h1, List.concat_eq_append, List.reverse_append]
      show Lib.trimLeftB (UInt8.ofNat (48 + d) :: _) 48 = _
      unfold Lib.trimLeftB
      rw [List.dropWhile_cons_of_neg]
      · rfl
      · intro e
        have := congrArg UInt8.toNat (eq_of_beq e)
        rw [letter_toNat h10] at this
        have h48 : (48 : UInt8).toNat = 48 := rfl
        omega
theorem trimPrefix_neg {A : Bs} (b : Bool) (h : (45 : UInt8) ∉ A) : Lib.hasPrefix ((if b then [45] else []) ++ A) [45] = b ∧ Lib.trimPrefix ((if b then [45] else []) ++ A) [45] = A := by
  cases b with
  | true => exact ⟨rfl, rfl⟩
  | false =>
    have e : Lib.hasPrefix A [45] = false := by
      cases A with
      | nil => rfl
      | cons a r =>
        have : a ≠ 45 := fun e => h (by rw [e]; exact List.mem_cons_self ..)
        simp [Lib.hasPrefix, List.isPrefixOf, Ne.symm this]
    refine ⟨e, ?_⟩
    show Lib.trimPrefix A [45] = A
    unfold Lib.trimPrefix
    rw [e]
    rfl
theorem trimR_dg {r : Nat} {c : UInt8} (hc : c.toNat < 48) : c ∉ Lib.trimRightB (dgText r 6) 48 := by
  intro h
  obtain ⟨g, hg⟩ := trim_split (dgText r 6) 48
  exact dg_ne (dgText_dg r 6) hc (by rw [hg]; exact List.mem_append.2 (.inl h))
theorem cut_txt (d : Int) : Lib.hasPrefix (txt d) [45] = decide (d < 0) ∧ (Lib.cut (Lib.trimPrefix (txt d) [45]) [46]).1 = dgText (d.natAbs / 1000000) 1 ∧ (Lib.cut (Lib.trimPrefix (txt d) [45]) [46]).2.1 = Lib.trimRightB (dgText (d.natAbs % 1000000) 6) 48 := by
  unfold txt
  generalize d.natAbs / 1000000 = q
  generalize d.natAbs % 1000000 = r
  have e0 : (if d < 0 then [45] else [] : Bs) = if decide (d < 0) = true then [45] else [] := by simp
  rw [e0]
  generalize decide (d < 0) = b
  rw [List.append_assoc]
  have hd : ∀ c : UInt8, c.toNat < 48 → c ∉ dgText q 1 := fun c hc => dg_ne (dgText_dg q 1) hc
  have h45 : (45 : UInt8) ∉ dgText q 1 ++ (if 0 < r then 46 :: Lib.trimRightB (dgText r 6) 48 else []) := by
    rw [List.mem_append]
    rintro (h | h)
    · exact hd 45 (by decide) h
    · split at h
      · rcases List.mem_cons.1 h with h | h
        · exact absurd h (by decide)
        · exact trimR_dg (by decide) h
      · simp at h
  obtain ⟨p1, p2⟩ := trimPrefix_neg b h45
  rw [p1, p2]
  refine ⟨rfl, ?_⟩
  by_cases hr : 0 < r
  · rw [if_pos hr, cut_at 46 _ _ (hd 46 (by decide))]
    exact ⟨rfl, rfl⟩
  · have hr0 : r = 0 := by omega
    subst hr0
    rw [if_neg hr, List.append_nil]
    rcases cut_one 46 (dgText q 1) with ⟨h1, h2⟩ | ⟨A, B, h1, h2, h3⟩
    · rw [h2]
      exact ⟨rfl, show ([] : Bs) = Lib.trimRightB (dgText 0 6) 48 by decide⟩
    · exact absurd (show (46 : UInt8) ∈ dgText q 1 by rw [h1]; simp) (hd 46 (by decide))
theorem take_trim (r p : Nat) (hr : r < 1000000) (hp : p ≤ 6) : Lib.trimRightB (dgText r 6) 48 ++ List.replicate (p - (Lib.trimRightB (dgText r 6) 48).length) 48 = (dgText r 6).take (max p (Lib.trimRightB (dgText r 6) 48).length) := by
  obtain ⟨g, hg⟩ := trim_split (dgText r 6) 48
  have h6 := dgText_six hr
  generalize Lib.trimRightB (dgText r 6) 48 = U at hg ⊢
  rw [hg] at h6 ⊢
  have hl : U.length + g = 6 := by simpa using h6
  rw [List.take_append, List.take_of_length_le (by omega), List.take_replicate]
  congr 2
  omega
/-- Both write the same. -/
theorem body_same (f : Fm) (d : Int) (hp : f.p ≤ 6) : bodyP f d = bodyR f d := by
  obtain ⟨h1, h2, h3⟩ := cut_txt d
  unfold bodyP bodyR lfP rtP kpN
  rw [h1, h2, h3, trimLeft_one, ← dgText_pad, take_trim _ _ (Nat.mod_lt _ (by omega)) hp]
/-- A number times a hundred; a number at so many places. -/
def mulZ (d : Int) : Int := sv (decide (d < 0) != decide ((100000000 : Int) < 0)) (rdiv (d.natAbs * (100000000 : Int).natAbs) 1000000)
def rndZ (d k : Int) : Int := sv (decide (d < 0)) (rdiv d.natAbs (uN k) * uN k)
/-- What Write makes of a number: the text; the error. -/
def wrV (B : Fm → Int → Bs) (f : Fm) (d : Int) : Bs × Int :=
  if f.pc = true ∧ okE (mulZ d) ≠ 0 then ([], okE (mulZ d))
  else if okE (rndZ (if f.pc then okV (mulZ d) else d) ((f.p + f.o : Nat) : Int)) ≠ 0 then ([], okE (rndZ (if f.pc then okV (mulZ d) else d) ((f.p + f.o : Nat) : Int)))
  else (B f (okV (rndZ (if f.pc then okV (mulZ d) else d) ((f.p + f.o : Nat) : Int))), 0)
theorem wr_same (f : Fm) (d : Int) (hp : f.p ≤ 6) : wrV bodyP f d = wrV bodyR f d := by
  unfold wrV
  rw [body_same f _ hp]
/-- The pattern with six places writes a number as its text. -/
theorem body_plain (d : Int) : bodyR ⟨[], [], 1, 0, 6, false, false⟩ d = txt d := by
  unfold bodyR wrap kpN txt
  have ht : (dgText (d.natAbs % 1000000) 6).take (max 0 (Lib.trimRightB (dgText (d.natAbs % 1000000) 6) 48).length) = Lib.trimRightB (dgText (d.natAbs % 1000000) 6) 48 := by
    rw [← take_trim _ 0 (Nat.mod_lt _ (by omega)) (by omega)]
    simp
  simp only [ht]
  have hr : (0 < 0 + 6 ∧ Lib.trimRightB (dgText (d.natAbs % 1000000) 6) 48 ≠ []) ↔ 0 < d.natAbs % 1000000 := by
    constructor
    · rintro ⟨_, h⟩
      rcases Nat.eq_zero_or_pos (d.natAbs % 1000000) with h0 | h0
      · rw [h0] at h
        exact absurd (by decide) h
      · exact h0
    · intro h
      refine ⟨by omega, fun e => ?_⟩
      obtain ⟨C, y, hC, hy⟩ := trim_last (dgText (d.natAbs % 1000000) 6) 48 (dgText_some (by omega))
      rw [e] at hC
      simp at hC
  simp only [hr]
  simp
theorem wr_plain (d : Int) (h1 : -9223372036854775808 ≤ d) (h2 : d ≤ 9223372036854775807) : wrV bodyR ⟨[], [], 1, 0, 6, false, false⟩ d = (txt d, 0) := by
  have hu : uN ((0 + 6 : Nat) : Int) = 1 := by decide
  have hz : rndZ d ((0 + 6 : Nat) : Int) = d := by
    unfold rndZ
    rw [hu]
    have : rdiv d.natAbs 1 = d.natAbs := by unfold rdiv; simp [Nat.mod_one]
    rw [this, Nat.mul_one]
    unfold sv
    by_cases hd : d < 0
    · rw [decide_eq_true hd, if_pos rfl]; omega
    · rw [decide_eq_false hd, if_neg (by decide)]; omega
  unfold wrV
  simp only [Bool.false_eq_true, false_and, if_false, hz]
  rw [okE_yes h1 h2, okV_yes h1 h2, if_neg (by simp), body_plain]
end Go.Proofs.YteknbdodihfbeaaDoor
