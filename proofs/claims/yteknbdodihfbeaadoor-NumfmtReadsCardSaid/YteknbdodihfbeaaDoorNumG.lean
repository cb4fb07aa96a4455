/- Numfmt: the program's and the document's Parse read the same patterns, and alike: the plain law. -/
import Derived.Test.YteknbdodihfbeaaDoorNumE
import Derived.Test.YteknbdodihfbeaaDoorDecS
set_option linter.unusedSimpArgs false
set_option linter.unusedVariables false
namespace Go.Proofs.YteknbdodihfbeaaDoor
open Go.RowKit Go.Joins

/-- The signs' loop over a run of signs. -/
def gmF : Bool → Bs → Nat → Bool → Rm → Option (Nat × Bool × Rm)
  | _, [], pl, pt, f => some (pl, pt, f)
  | first, c :: r, pl, pt, f => match rfS first c.toNat (btN r 0) pl pt f with
    | none => none
    | some (pl', pt', f') => gmF false r pl' pt' f'
theorem rfS_nx (first : Bool) (c a b pl : Nat) (pt : Bool) (f : Rm) (h : (a = 48 ∨ a = 35) ↔ (b = 48 ∨ b = 35)) : rfS first c a pl pt f = rfS first c b pl pt f := by
  unfold rfS
  simp only [h]
theorem rfF_run (tl : Bs) (ht : sgB (btN tl 0) = false) : ∀ (M : Bs) (first : Bool) (pl : Nat) (pt : Bool) (f : Rm), (∀ c ∈ M, sgB c.toNat = true) →
    rfF first (M ++ tl) pl pt f = (gmF first M pl pt f).map fun x => (x.1, x.2.1, x.2.2, tl)
  | [], first, pl, pt, f, _ => by
    cases tl with
    | nil => rfl
    | cons c r =>
      have h : sgB c.toNat = false := ht
      show rfF first (c :: r) pl pt f = _
      unfold rfF gmF
      rw [if_pos h]
      rfl
  | c :: r, first, pl, pt, f, hM => by
    have hc : sgB c.toNat = true := hM c (List.mem_cons_self ..)
    show rfF first (c :: (r ++ tl)) pl pt f = _
    have hn : rfS first c.toNat (btN (r ++ tl) 0) pl pt f = rfS first c.toNat (btN r 0) pl pt f := by
      cases r with
      | nil =>
        refine rfS_nx _ _ _ _ _ _ _ ?_
        show (btN tl 0 = 48 ∨ btN tl 0 = 35) ↔ (0 = 48 ∨ 0 = 35)
        constructor
        · intro h
          exfalso
          rcases h with h | h <;> rw [h] at ht <;> exact absurd ht (by decide)
        · intro h
          omega
      | cons a b => rfl
    unfold rfF gmF
    rw [if_neg (by rw [hc]; simp), hn]
    cases rfS first c.toNat (btN r 0) pl pt f with
    | none => rfl
    | some x =>
      obtain ⟨pl', pt', f'⟩ := x
      exact rfF_run tl ht r false pl' pt' f' fun c h => hM c (List.mem_cons_of_mem _ h)
theorem gm4 (first : Bool) (M : Bs) (pt : Bool) (f : Rm) : gmF first M 4 pt f = if M = [] then some (4, pt, f) else none := by
  cases M with
  | nil => rfl
  | cons c r =>
    have h : rfS first c.toNat (btN r 0) 4 pt f = none := by
      unfold rfS
      simp
    rw [gmF, h, if_neg (by simp)]
theorem suf_cons (c : UInt8) (r : Bs) : Lib.hasSuffix (c :: r) [37] = ((decide (c = 37) && decide (r = [])) || Lib.hasSuffix r [37]) := by
  rw [Bool.eq_iff_iff]
  simp only [Lib.hasSuffix, List.isSuffixOf_iff_suffix, Bool.or_eq_true, Bool.and_eq_true, decide_eq_true_eq, List.suffix_cons_iff]
  constructor
  · rintro (h | h)
    · injection h with h1 h2
      exact .inl ⟨h1.symm, h2.symm⟩
    · exact .inr h
  · rintro (⟨rfl, rfl⟩ | h)
    · exact .inl rfl
    · exact .inr h
theorem suf_ne {r : Bs} (h : Lib.hasSuffix r [37] = true) : r ≠ [] := by
  rintro rfl
  exact absurd h (by decide)
theorem trim_cons (c : UInt8) (r : Bs) : Lib.trimSuffix (c :: r) [37] = if c = 37 ∧ r = [] then [] else c :: Lib.trimSuffix r [37] := by
  unfold Lib.trimSuffix
  rw [suf_cons]
  by_cases h : c = 37 ∧ r = []
  · obtain ⟨rfl, rfl⟩ := h
    rfl
  · rw [if_neg h]
    have e : (decide (c = 37) && decide (r = [])) = false := by
      rw [Bool.and_eq_false_iff]
      by_cases h1 : c = 37
      · exact .inr (decide_eq_false fun h2 => h ⟨h1, h2⟩)
      · exact .inl (decide_eq_false h1)
    rw [e, Bool.false_or]
    by_cases h2 : Lib.hasSuffix r [37] = true
    · rw [if_pos h2, if_pos h2]
      have := suf_ne h2
      cases r with
      | nil => exact absurd rfl this
      | cons a b => simp
    · rw [if_neg h2, if_neg h2]
theorem cut_cons (c : UInt8) (r : Bs) : Lib.cut (c :: r) [46] = if c = 46 then ([], r, true) else (c :: (Lib.cut r [46]).1, (Lib.cut r [46]).2.1, (Lib.cut r [46]).2.2) := by
  by_cases h : c = 46
  · subst h
    rw [if_pos rfl]
    exact cut_at 46 [] r (by simp)
  · rw [if_neg h]
    rcases cut_one 46 r with ⟨h1, h2⟩ | ⟨A, B, rfl, h1, h2⟩
    · rw [h2]
      rcases cut_one 46 (c :: r) with ⟨h3, h4⟩ | ⟨A, B, h3, h4, h5⟩
      · rw [h4]
      · exfalso
        have : (46 : UInt8) ∈ c :: r := by rw [h3]; simp
        rcases List.mem_cons.1 this with h6 | h6
        · exact h h6.symm
        · exact h1 h6
    · rw [h2]
      exact cut_at 46 (c :: A) B (by
        intro h3
        rcases List.mem_cons.1 h3 with h6 | h6
        · exact h h6.symm
        · exact h1 h6)
theorem cut_nil : Lib.cut [] [46] = ([], [], false) := by decide
theorem u8_ne {c : UInt8} {k : UInt8} (h : c ≠ k) : c.toNat ≠ k.toNat := fun e => h (UInt8.toNat_inj.1 e)
abbrev dP (x : Nat × Bool × Rm) : Bool × Rm := (x.2.1, x.2.2)
/-- The signs behind the point. -/
theorem gmB : ∀ (M : Bs) (pl : Nat) (f : Rm), (∀ c ∈ M, sgB c.toNat = true) → (pl = 2 ∧ f.r1 = 0 ∨ pl = 3 ∧ 0 < f.r1) → f.pc = false →
    (gmF false M pl true f).map dP = (ptF (Lib.trimSuffix M [37]) f.r0 f.r1).map fun po => (true, { f with r0 := po.1, r1 := po.2, pc := Lib.hasSuffix M [37] })
  | [], pl, f, _, hp, hpc => by
    obtain ⟨hd, tl, a0, a1, r0, r1, cm, pc⟩ := f
    simp only at hpc
    subst hpc
    rfl
  | c :: r, pl, f, hM, hp, hpc => by
    have hr : ∀ c ∈ r, sgB c.toNat = true := fun c h => hM c (List.mem_cons_of_mem _ h)
    have hc := sgB_of (hM c (List.mem_cons_self ..))
    rw [trim_cons, suf_cons]
    by_cases h37 : c = 37
    · subst h37
      have e : rfS false (37 : UInt8).toNat (btN r 0) pl true f = some (4, true, { f with pc := true }) := by
        unfold rfS
        have : pl < 4 := by omega
        simp [this]
      rw [gmF, e]
      show (gmF false r 4 true { f with pc := true }).map dP = _
      rw [gm4]
      by_cases hr0 : r = []
      · subst hr0
        rfl
      · rw [if_neg hr0, if_neg (fun h => hr0 h.2)]
        show none = _
        rw [ptF, if_neg (by simp), if_neg (by simp)]
        rfl
    · have h37' := u8_ne h37
      rw [if_neg (fun h => h37 h.1), decide_eq_false h37, Bool.false_and, Bool.false_or]
      rw [gmF, ptF]
      by_cases h48 : c.toNat = 48
      · rcases hp with ⟨rfl, h0⟩ | ⟨rfl, h0⟩
        · have e : rfS false c.toNat (btN r 0) 2 true f = some (2, true, { f with r0 := f.r0 + 1 }) := by
            unfold rfS
            simp [h48]
          rw [e, if_pos ⟨h48, h0⟩]
          exact gmB r 2 { f with r0 := f.r0 + 1 } hr (.inl ⟨rfl, h0⟩) hpc
        · have e : rfS false c.toNat (btN r 0) 3 true f = none := by
            unfold rfS
            simp [h48]
          rw [e, if_neg (by omega), if_neg (by omega)]
          rfl
      · rw [if_neg (fun h => h48 h.1)]
        by_cases h35 : c.toNat = 35
        · have e : rfS false c.toNat (btN r 0) pl true f = some (3, true, { f with r1 := f.r1 + 1 }) := by
            unfold rfS
            have h1 : pl ≠ 0 := by omega
            have h2 : pl = 2 ∨ pl = 3 := by omega
            simp [h35, h1, h2]
          rw [e, if_pos h35]
          exact gmB r 3 { f with r1 := f.r1 + 1 } hr (.inr ⟨rfl, by show 0 < f.r1 + 1; omega⟩) hpc
        · have e : rfS false c.toNat (btN r 0) pl true f = none := by
            unfold rfS
            have h1 : ¬ pl ≤ 1 := by omega
            have h37'' : c.toNat ≠ 37 := h37'
            simp [h35, h48, h1, h37'']
          rw [e, if_neg h35]
          rfl
/-- How many #. -/
def hnN : Bs → Nat
  | [] => 0
  | c :: r => (if c.toNat = 35 then 1 else 0) + hnN r
/-- What the program makes of the signs. -/
def gA (first : Bool) (M : Bs) (f : Rm) : Option (Bool × Rm) :=
  match whF first (Lib.cut (Lib.trimSuffix M [37]) [46]).1 f.cm f.a0 with
  | none => none
  | some (cm, n) =>
    if (Lib.cut (Lib.trimSuffix M [37]) [46]).2.2 = true then (ptF (Lib.cut (Lib.trimSuffix M [37]) [46]).2.1 f.r0 f.r1).map fun po => (true, { f with a0 := n, a1 := f.a1 + hnN (Lib.cut (Lib.trimSuffix M [37]) [46]).1, cm := cm, r0 := po.1, r1 := po.2, pc := Lib.hasSuffix M [37] })
    else some (false, { f with a0 := n, a1 := f.a1 + hnN (Lib.cut (Lib.trimSuffix M [37]) [46]).1, cm := cm, pc := Lib.hasSuffix M [37] })
/-- All the signs. -/
theorem gmA : ∀ (M : Bs) (first : Bool) (pl : Nat) (f : Rm), (∀ c ∈ M, sgB c.toNat = true) → (pl = 0 ∧ f.a0 = 0 ∨ pl = 1 ∧ 0 < f.a0) → f.pc = false → f.r1 = 0 →
    (gmF first M pl false f).map dP = gA first M f
  | [], first, pl, f, _, hp, hpc, hr1 => by
    obtain ⟨hd, tl, a0, a1, r0, r1, cm, pc⟩ := f
    simp only at hpc
    subst hpc
    rfl
  | c :: r, first, pl, f, hM, hp, hpc, hr1 => by
    have hr : ∀ c ∈ r, sgB c.toNat = true := fun c h => hM c (List.mem_cons_of_mem _ h)
    have hc := sgB_of (hM c (List.mem_cons_self ..))
    have hple : pl ≤ 1 := by omega
    by_cases h37 : c = 37
    · subst h37
      have e : rfS first (37 : UInt8).toNat (btN r 0) pl false f = some (4, false, { f with pc := true }) := by
        unfold rfS
        have : pl < 4 := by omega
        simp [this]
      rw [gmF, e]
      show (gmF false r 4 false { f with pc := true }).map dP = _
      rw [gm4]
      unfold gA
      rw [trim_cons, suf_cons]
      by_cases hr0 : r = []
      · subst hr0
        rfl
      · rw [if_neg hr0, if_neg (fun h => hr0 h.2), cut_cons, if_neg (by decide)]
        show none = _
        rw [whF, if_neg (by simp), if_neg (by simp), if_neg (by simp), if_neg (by simp)]
    · have h37' : c.toNat ≠ 37 := u8_ne h37
      by_cases h46 : c = 46
      · subst h46
        have e : rfS first (46 : UInt8).toNat (btN r 0) pl false f = some (2, true, f) := by
          unfold rfS
          simp [hple]
        rw [gmF, e]
        show (gmF false r 2 true f).map dP = _
        rw [gmB r 2 f hr (.inl ⟨rfl, hr1⟩) hpc]
        unfold gA
        rw [trim_cons, suf_cons, if_neg (by simp), cut_cons, if_pos rfl]
        rfl
      · have h46' : c.toNat ≠ 46 := u8_ne h46
        unfold gA
        rw [trim_cons, suf_cons, if_neg (fun h => h37 h.1), cut_cons, if_neg h46, decide_eq_false h37, Bool.false_and, Bool.false_or]
        simp only []
        rw [whF, gmF]
        by_cases h44 : c.toNat = 44
        · rw [if_pos h44]
          by_cases hcm : f.cm = true
          · have e : rfS first c.toNat (btN r 0) pl false f = none := by
              unfold rfS
              simp [h44, hcm]
            rw [e, if_pos (.inl hcm)]
            rfl
          · by_cases hfi : first = true
            · have e : rfS first c.toNat (btN r 0) pl false f = none := by
                unfold rfS
                simp [h44, hfi]
              rw [e, if_pos (.inr (.inl hfi))]
              rfl
            · have hcm' : f.cm = false := by simpa using hcm
              have hfi' : first = false := by simpa using hfi
              by_cases hnx : btN r 0 = 48 ∨ btN r 0 = 35
              · have e : rfS first c.toNat (btN r 0) pl false f = some (pl, false, { f with cm := true }) := by
                  unfold rfS
                  simp [h44, hcm', hfi', hple, hnx]
                rw [e]
                show (gmF false r pl false { f with cm := true }).map dP = _
                rw [gmA r false pl { f with cm := true } hr hp hpc hr1]
                have hl : (Lib.cut (Lib.trimSuffix r [37]) [46]).1 ≠ [] := by
                  cases r with
                  | nil => exact absurd hnx (by decide)
                  | cons a b =>
                    have ha : btN (a :: b) 0 = a.toNat := rfl
                    rw [ha] at hnx
                    have a1 : a ≠ 37 := by rintro rfl; exact absurd hnx (by decide)
                    have a2 : a ≠ 46 := by rintro rfl; exact absurd hnx (by decide)
                    rw [trim_cons, if_neg (fun h => a1 h.1), cut_cons, if_neg a2]
                    simp
                rw [if_neg (by rintro (h | h | h); exact hcm h; exact hfi h; exact hl h)]
                unfold gA
                have h35 : c.toNat ≠ 35 := by omega
                simp only [hnN, if_neg h35, Nat.zero_add]
              · have e : rfS first c.toNat (btN r 0) pl false f = none := by
                  unfold rfS
                  simp [h44, hnx]
                rw [e]
                show none = _
                by_cases hl : (Lib.cut (Lib.trimSuffix r [37]) [46]).1 = []
                · rw [if_pos (.inr (.inr hl))]
                · rw [if_neg (by rintro (h | h | h); exact hcm h; exact hfi h; exact hl h)]
                  have hw : whF false (Lib.cut (Lib.trimSuffix r [37]) [46]).1 true f.a0 = none := by
                    cases r with
                    | nil => exact absurd (by decide) hl
                    | cons a b =>
                      have ha : btN (a :: b) 0 = a.toNat := rfl
                      rw [ha] at hnx
                      have hsa := sgB_of (hr a (List.mem_cons_self ..))
                      rw [trim_cons] at hl ⊢
                      by_cases h1 : a = 37 ∧ b = []
                      · rw [if_pos h1] at hl
                        exact absurd (by decide) hl
                      · rw [if_neg h1] at hl ⊢
                        rw [cut_cons] at hl ⊢
                        by_cases h2 : a = 46
                        · rw [if_pos h2] at hl
                          exact absurd rfl hl
                        · rw [if_neg h2]
                          have h2' : a.toNat ≠ 46 := u8_ne h2
                          show whF false (a :: _) true f.a0 = none
                          rw [whF]
                          by_cases h3 : a.toNat = 44
                          · rw [if_pos h3, if_pos (.inl rfl)]
                          · rw [if_neg h3, if_neg (by omega), if_neg (by omega), if_neg (by omega)]
                  rw [hw]
        · rw [if_neg h44]
          by_cases h35 : c.toNat = 35
          · rcases hp with ⟨rfl, h0⟩ | ⟨rfl, h0⟩
            · have e : rfS first c.toNat (btN r 0) 0 false f = some (0, false, { f with a1 := f.a1 + 1 }) := by
                unfold rfS
                simp [h35]
              rw [e, if_neg (by omega), if_neg (by omega), if_pos h35]
              show (gmF false r 0 false { f with a1 := f.a1 + 1 }).map dP = _
              rw [gmA r false 0 { f with a1 := f.a1 + 1 } hr (.inl ⟨rfl, h0⟩) hpc hr1]
              unfold gA
              simp only [hnN, if_pos h35, Nat.add_assoc]
            · have e : rfS first c.toNat (btN r 0) 1 false f = none := by
                unfold rfS
                simp [h35]
              rw [e, if_pos ⟨h35, h0⟩]
              rfl
          · have h48 : c.toNat = 48 := by omega
            have e : rfS first c.toNat (btN r 0) pl false f = some (1, false, { f with a0 := f.a0 + 1 }) := by
              unfold rfS
              simp [h48, hple]
            rw [e, if_neg (fun h => h35 h.1), if_pos h48]
            show (gmF false r 1 false { f with a0 := f.a0 + 1 }).map dP = _
            rw [gmA r false 1 { f with a0 := f.a0 + 1 } hr (.inr ⟨rfl, by show 0 < f.a0 + 1; omega⟩) hpc hr1]
            unfold gA
            simp only [hnN, if_neg h35, Nat.zero_add]
theorem whF_grow : ∀ (l : Bs) (first cm : Bool) (n : Nat) (cm' : Bool) (n' : Nat), whF first l cm n = some (cm', n') → n ≤ n'
  | [], _, _, _, _, _, h => by
    injection h with h
    injection h with h1 h2
    omega
  | c :: r, first, cm, n, cm', n', h => by
    rw [whF] at h
    by_cases h1 : c.toNat = 44
    · rw [if_pos h1] at h
      by_cases h2 : cm = true ∨ first = true ∨ r = []
      · rw [if_pos h2] at h
        cases h
      · rw [if_neg h2] at h
        exact whF_grow r _ _ _ _ _ h
    · rw [if_neg h1] at h
      by_cases h2 : c.toNat = 35 ∧ 0 < n
      · rw [if_pos h2] at h
        cases h
      · rw [if_neg h2] at h
        by_cases h3 : c.toNat = 48
        · rw [if_pos h3] at h
          have := whF_grow r _ _ _ _ _ h
          omega
        · rw [if_neg h3] at h
          by_cases h4 : c.toNat = 35
          · rw [if_pos h4] at h
            exact whF_grow r _ _ _ _ _ h
          · rw [if_neg h4] at h
            cases h
theorem whF_some {l : Bs} {cm' : Bool} {n' : Nat} (h : whF true l false 0 = some (cm', n')) : n' + hnN l = 0 ↔ l = [] := by
  cases l with
  | nil =>
    injection h with h
    injection h with h1 h2
    exact ⟨fun _ => rfl, fun _ => by show n' + 0 = 0; omega⟩
  | cons c r =>
    refine ⟨fun h0 => ?_, fun h0 => by cases h0⟩
    exfalso
    rw [whF] at h
    by_cases h1 : c.toNat = 44
    · rw [if_pos h1, if_pos (.inr (.inl rfl))] at h
      cases h
    · rw [if_neg h1, if_neg (by omega)] at h
      by_cases h3 : c.toNat = 48
      · rw [if_pos h3] at h
        have := whF_grow r _ _ _ _ _ h
        omega
      · rw [if_neg h3] at h
        by_cases h4 : c.toNat = 35
        · unfold hnN at h0
          rw [if_pos h4] at h0
          omega
        · rw [if_neg h4] at h
          cases h
theorem ptF_sum : ∀ (r : Bs) (p o p' o' : Nat), ptF r p o = some (p', o') → p' + o' = p + o + r.length
  | [], _, _, _, _, h => by
    injection h with h
    injection h with h1 h2
    show _ = _ + 0
    omega
  | c :: r, p, o, p', o', h => by
    rw [ptF] at h
    by_cases h1 : c.toNat = 48 ∧ o = 0
    · rw [if_pos h1] at h
      have := ptF_sum r _ _ _ _ h
      rw [List.length_cons]
      omega
    · rw [if_neg h1] at h
      by_cases h2 : c.toNat = 35
      · rw [if_pos h2] at h
        have := ptF_sum r _ _ _ _ h
        rw [List.length_cons]
        omega
      · rw [if_neg h2] at h
        cases h
theorem pt_some {r : Bs} {p o : Nat} (h : ptF r 0 0 = some (p, o)) : p + o = 0 ↔ r = [] := by
  have := ptF_sum r _ _ _ _ h
  rw [← List.length_eq_zero_iff]
  omega
theorem cut_no (s : Bs) : (Lib.cut s [46]).2.2 = false → (Lib.cut s [46]).2.1 = [] := by
  intro h
  rcases cut_one 46 s with ⟨h1, h2⟩ | ⟨A, B, h0, h1, h2⟩
  · rw [h2]
  · rw [h2] at h
    cases h
/-- A pattern of the document's, as the program keeps it. -/
def toFm (g : Rm) : Fm := ⟨g.hd, g.tl, g.a0, g.r0, g.r1, g.cm, g.pc⟩
theorem mid_run (L : Bs) : L.drop (frN L) = midB L ++ L.drop (toN L) ∧ (∀ c ∈ midB L, sgB c.toNat = true) ∧ sgB (btN (L.drop (toN L)) 0) = false := by
  have key : ∀ K : Bs, K = K.take (rnS true K) ++ K.drop (rnS true K) ∧ (∀ c ∈ K.take (rnS true K), sgB c.toNat = true) ∧ sgB (btN (K.drop (rnS true K)) 0) = false := by
    intro K
    induction K with
    | nil => exact ⟨rfl, by simp, by decide⟩
    | cons a b ih =>
      by_cases h : sgB a.toNat = true
      · have e : rnS true (a :: b) = rnS true b + 1 := by
          unfold rnS
          rw [List.takeWhile_cons_of_pos (by simp [h])]
          rfl
        rw [e]
        refine ⟨by simp, fun c hc => ?_, ih.2.2⟩
        rw [List.take_succ_cons] at hc
        rcases List.mem_cons.1 hc with rfl | hc
        · exact h
        · exact ih.2.1 c hc
      · have e : rnS true (a :: b) = 0 := by
          unfold rnS
          rw [List.takeWhile_cons_of_neg (by simp [h])]
          rfl
        rw [e]
        exact ⟨rfl, by simp, by show sgB a.toNat = false; simpa using h⟩
  have k := key (L.drop (frN L))
  have e1 : midB L = (L.drop (frN L)).take (rnS true (L.drop (frN L))) := by
    unfold midB toN
    rw [show frN L + rnS true (L.drop (frN L)) - frN L = rnS true (L.drop (frN L)) by omega]
  have e2 : L.drop (toN L) = (L.drop (frN L)).drop (rnS true (L.drop (frN L))) := by
    unfold toN
    rw [List.drop_drop]
  rw [e1, e2]
  exact k
set_option maxHeartbeats 1000000 in
/-- Both read the same patterns, and alike. -/
theorem prs_same (L : Bs) : (rprs L).map toFm = prsP L := by
  obtain ⟨h1, h2, h3⟩ := mid_run L
  have hg := gmA (midB L) true 0 ⟨L.take (frN L), [], 0, 0, 0, 0, false, false⟩ h2 (.inl ⟨rfl, rfl⟩) rfl rfl
  have hr := rfF_run (L.drop (toN L)) h3 (midB L) true 0 false ⟨L.take (frN L), [], 0, 0, 0, 0, false, false⟩ h2
  unfold rprs prsP prs1 lefB
  rw [h1, hr]
  clear hr
  unfold gA at hg
  simp only [] at hg
  have hcn := cut_no (Lib.trimSuffix (midB L) [37])
  generalize Lib.cut (Lib.trimSuffix (midB L) [37]) [46] = lf at hg hcn ⊢
  obtain ⟨l, r, pt⟩ := lf
  simp only [] at hg hcn ⊢
  generalize gmF true (midB L) 0 false ⟨L.take (frN L), [], 0, 0, 0, 0, false, false⟩ = G at hg ⊢
  generalize Lib.hasSuffix (midB L) [37] = pc at hg ⊢
  generalize L.take (frN L) = hd at hg ⊢
  generalize L.drop (toN L) = tl at hg ⊢
  cases hW : whF true l false 0 with
  | none =>
    rw [hW] at hg
    have hG : G = none := by
      cases G with
      | none => rfl
      | some x => cases hg
    subst hG
    show none = _
    split
    · split <;> rfl
    · rfl
  | some cn =>
    obtain ⟨cm, n⟩ := cn
    have hws := whF_some hW
    rw [hW] at hg
    simp only [] at hg
    cases pt with
    | false =>
      have hrn := hcn rfl
      subst hrn
      rw [if_neg (by decide)] at hg
      obtain ⟨pl, hG⟩ : ∃ pl, G = some (pl, false, ⟨hd, [], n, 0 + hnN l, 0, 0, cm, pc⟩) := by
        cases G with
        | none => cases hg
        | some x =>
          obtain ⟨pl, pt, f⟩ := x
          injection hg with hg
          injection hg with e1 e2
          exact ⟨pl, by rw [show pt = false from e1, show f = _ from e2]⟩
      subst hG
      simp only [Option.map_some, Nat.zero_add, if_true]
      by_cases hn : noS tl = true
      · rw [if_pos hn]
        by_cases h64 : L.length ≤ 64
        · rw [if_pos h64]
          by_cases hl : l = []
          · rw [if_pos hl, if_pos (by right; right; left; exact hws.2 hl)]
            rfl
          · rw [if_neg hl, if_neg]
            · rfl
            · rintro (h | h | h | h | h)
              · rw [hn] at h; cases h
              · omega
              · exact hl (hws.1 h)
              · omega
              · exact absurd h.1 (by decide)
        · rw [if_neg h64, if_pos (by right; left; omega)]
          rfl
      · rw [if_neg hn, if_pos (by left; simpa using hn)]
        rfl
    | true =>
      rw [if_pos rfl] at hg
      cases hP : ptF r 0 0 with
      | none =>
        rw [hP] at hg
        have hG : G = none := by
          cases G with
          | none => rfl
          | some x => cases hg
        subst hG
        show none = _
        by_cases hn : noS tl = true
        · rw [if_pos hn]
          by_cases h64 : L.length ≤ 64
          · rw [if_pos h64]
            simp only []
            by_cases hl : l = []
            · rw [if_pos hl]
            · rw [if_neg hl, if_neg (show ¬ true = false by decide)]
          · rw [if_neg h64]
        · rw [if_neg hn]
      | some po =>
        obtain ⟨p, o⟩ := po
        rw [hP] at hg
        obtain ⟨pl, hG⟩ : ∃ pl, G = some (pl, true, ⟨hd, [], n, 0 + hnN l, p, o, cm, pc⟩) := by
          cases G with
          | none => cases hg
          | some x =>
            obtain ⟨pl, pt, f⟩ := x
            injection hg with hg
            injection hg with e1 e2
            exact ⟨pl, by rw [show pt = true from e1, show f = _ from e2]⟩
        subst hG
        have hpo : p + o = 0 ↔ r = [] := pt_some hP
        simp only [Option.map_some, Nat.zero_add, if_true]
        by_cases hn : noS tl = true
        · rw [if_pos hn]
          by_cases h64 : L.length ≤ 64
          · rw [if_pos h64]
            by_cases hl : l = []
            · rw [if_pos hl, if_pos (by right; right; left; exact hws.2 hl)]
              rfl
            · rw [if_neg hl, if_neg (show ¬ true = false by decide)]
              by_cases hb : r = [] ∨ 6 < p + o
              · rw [if_pos hb, if_pos]
                · rfl
                · rcases hb with h | h
                  · right; right; right; right; exact ⟨trivial, hpo.2 h⟩
                  · right; right; right; left; exact h
              · rw [if_neg hb, if_neg]
                · rfl
                · rintro (h | h | h | h | h)
                  · rw [hn] at h; cases h
                  · omega
                  · exact hl (hws.1 h)
                  · exact hb (.inr h)
                  · exact hb (.inl (hpo.1 h.2))
          · rw [if_neg h64, if_pos (by right; left; omega)]
            rfl
        · rw [if_neg hn, if_pos (by left; simpa using hn)]
          rfl
end Go.Proofs.YteknbdodihfbeaaDoor
