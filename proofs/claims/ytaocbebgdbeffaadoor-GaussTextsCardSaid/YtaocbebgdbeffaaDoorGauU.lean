/- Parse of whole complex numbers agrees with the document's; the law GaussTexts: the walk. -/
import Derived.Test.YtaocbebgdbeffaaDoorGauT
set_option linter.unusedSimpArgs false
set_option linter.unusedVariables false
namespace Go.Proofs.YtaocbebgdbeffaaDoor
open Go.RowKit

theorem lpm_app (X Y : List UInt8) : ∀ k, k ≤ X.length → lpm (X ++ Y) k = lpm X k
  | 0, _ => rfl
  | k + 1, h => by
    have e : byt (X ++ Y) k = byt X k := by
      unfold byt
      rw [List.getD_eq_getElem?_getD, List.getD_eq_getElem?_getD, List.getElem?_append_left (by omega)]
    rw [lpm, lpm, e, lpm_app X Y k (by omega)]
theorem lpm_dig {X D : List UInt8} (hD : ∀ c ∈ D, 48 ≤ c.toNat ∧ c.toNat ≤ 57) : lpm (X ++ D) (X ++ D).length = lpm X X.length := by
  rw [List.length_append, lpm_skip D.length, lpm_app X D _ (Nat.le_refl _)]
  intro j h1 h2
  have e : byt (X ++ D) j = (D.getD (j - X.length) 0).toNat := by
    unfold byt
    rw [List.getD_eq_getElem?_getD, List.getD_eq_getElem?_getD, List.getElem?_append_right h1]
  have hj : j - X.length < D.length := by omega
  have := hD (D[j - X.length]) (List.getElem_mem hj)
  rw [e]
  rw [List.getD_eq_getElem?_getD, List.getElem?_eq_getElem hj]
  simp only [Option.getD_some]
  omega
theorem lpm_snoc (P : List UInt8) (c : UInt8) (h : c.toNat = 43 ∨ c.toNat = 45) : lpm (P ++ [c]) (P ++ [c]).length = (P.length : Int) := by
  have e : byt (P ++ [c]) P.length = c.toNat := by
    unfold byt
    rw [List.getD_eq_getElem?_getD, List.getElem?_append_right (Nat.le_refl _)]
    simp
  rw [show (P ++ [c]).length = P.length + 1 from by simp, lpm_yes (by rw [e]; exact h)]
theorem dgT_dig (b : Int) (h : b.natAbs ≤ 1048576) : ∀ c ∈ dgT b, 48 ≤ c.toNat ∧ c.toNat ≤ 57 := by
  rcases dgT_or h with ⟨hd, _⟩ | ⟨hd, _⟩
  · rw [hd]; exact (fun c hc => nomatch hc)
  · rw [hd]; exact dcL_dig _ (by omega)
/-- What stands for the second part, read. -/
theorem im_back {b : Int} (hb : b ≠ 0) (h : b.natAbs ≤ 1048576) {IM0 IM : List UInt8} (h0 : IM0 = sgn b ++ dgT b) (hp : (IM0 = [] ∧ IM = [49]) ∨ (IM0 = [45] ∧ IM = [45, 49]) ∨ (IM0 ≠ [] ∧ IM0 ≠ [45] ∧ IM = IM0)) : IM = sgL b := by
  by_cases h1 : b = 1
  · subst h1
    have e : IM0 = [] := h0
    subst e
    rcases hp with ⟨_, h⟩ | ⟨h, _⟩ | ⟨h, _⟩
    · rw [h]; rfl
    · cases h
    · exact absurd rfl h
  · by_cases h2 : b = -1
    · subst h2
      have e : IM0 = [45] := h0
      subst e
      rcases hp with ⟨h, _⟩ | ⟨_, h⟩ | ⟨_, h, _⟩
      · cases h
      · rw [h]; rfl
      · exact absurd rfl h
    · have e : IM0 = sgL b := by
        rw [h0, sgL_sgn]
        unfold dgT
        rw [if_neg (by omega)]
      have hne : sgL b ≠ [] := by
        rw [sgL_sgn]
        have := dcL_ne b.natAbs
        simp [this]
      have hne2 : sgL b ≠ [45] := by
        rw [sgL_sgn]
        have h3 := dcL_ne b.natAbs
        unfold sgn
        split
        · simpa using h3
        · intro h4
          have := dcL_dig b.natAbs (by omega) 45 (by simpa using (show (45 : UInt8) ∈ [] ++ dcL b.natAbs by rw [h4]; simp))
          exact absurd this.1 (by decide)
      rw [e] at hp
      rcases hp with ⟨h, _⟩ | ⟨h, _⟩ | ⟨_, _, h⟩
      · exact absurd h hne
      · exact absurd h hne2
      · exact h
theorem parts_ztxt {a b : Int} {F RE IM0 IM : List UInt8} (hf : Fit a b) (hb : b ≠ 0) (hF : F ++ [105] = ztxt a b) (hp : pgParts F RE IM0 IM) : RE = sgL a ∧ IM = sgL b := by
  obtain ⟨f1, f2, f3, f4⟩ := hf
  obtain ⟨hp1, hp2⟩ := hp
  by_cases ha : a = 0
  · subst ha
    have e : F = sgn b ++ dgT b := by
      have : ztxt 0 b = (sgn b ++ dgT b) ++ [105] := by unfold ztxt; rw [if_neg hb, if_pos rfl, tailL_eq hb]; simp
      rw [this] at hF
      exact List.append_cancel_right hF
    have hl : lpm F F.length ≤ 0 := by
      rw [e, lpm_dig (dgT_dig b (by omega))]
      unfold sgn
      split
      · decide
      · decide
    rcases hp1 with ⟨_, h1, h2⟩ | ⟨h, _⟩
    · exact ⟨by rw [h1]; rfl, im_back hb (by omega) (by rw [h2, e]) hp2⟩
    · omega
  · obtain ⟨m, hm, hm2⟩ : ∃ m : UInt8, mid b = [m] ∧ ((m = 43 ∧ 0 < b) ∨ (m = 45 ∧ b < 0)) := by
      unfold mid
      by_cases h : b < 0
      · exact ⟨45, by rw [if_pos h], .inr ⟨rfl, h⟩⟩
      · exact ⟨43, by rw [if_neg h], .inl ⟨rfl, by omega⟩⟩
    have hm3 : m.toNat = 43 ∨ m.toNat = 45 := by rcases hm2 with ⟨rfl, _⟩ | ⟨rfl, _⟩ <;> decide
    have e : F = (sgL a ++ [m]) ++ dgT b := by
      have : ztxt a b = ((sgL a ++ [m]) ++ dgT b) ++ [105] := by rw [ztxt_two ha hb, hm, sgL_sgn]; simp
      rw [this] at hF
      exact List.append_cancel_right hF
    have hl : lpm F F.length = ((sgL a).length : Int) := by
      rw [e, lpm_dig (dgT_dig b (by omega)), lpm_snoc _ _ hm3]
    have hpos : 0 < (sgL a).length := by
      rw [sgL_sgn, List.length_append]
      have := List.length_pos_iff.2 (dcL_ne a.natAbs)
      omega
    rcases hp1 with ⟨h, _⟩ | ⟨_, h1, h2⟩
    · omega
    · rw [hl, Int.toNat_natCast] at h1 h2
      have e2 : F = sgL a ++ (m :: dgT b) := by rw [e]; simp
      refine ⟨by rw [h1, e2, List.take_left], ?_⟩
      rw [e2, List.drop_left] at h2
      have hi : IM0 = sgn b ++ dgT b := by
        rw [h2]
        unfold sgn
        rcases hm2 with ⟨rfl, hs⟩ | ⟨rfl, hs⟩
        · rw [if_neg (by omega)]
          simp [Lib.trimPrefix, Lib.hasPrefix]
        · rw [if_pos hs]
          simp [Lib.trimPrefix, Lib.hasPrefix]
      exact im_back hb (by omega) hi hp2
theorem ztxt_i {a b : Int} (hf : Fit a b) : b = 0 ↔ ¬ ∃ F, ztxt a b = F ++ [105] := by
  obtain ⟨f1, f2, f3, f4⟩ := hf
  constructor
  · rintro rfl ⟨F, hF⟩
    have e : ztxt a 0 = sgn a ++ dcL a.natAbs := by unfold ztxt; rw [if_pos rfl, sgL_sgn]
    rw [e] at hF
    have hne := dcL_ne a.natAbs
    have h1 := congrArg List.getLast? hF
    rw [List.getLast?_append, List.getLast?_append] at h1
    rw [List.getLast?_eq_some_getLast hne] at h1
    simp at h1
    have := dcL_dig a.natAbs (by omega) 105 (by rw [← h1]; exact List.getLast_mem hne)
    exact absurd this.2 (by decide)
  · intro h
    by_cases hb : b = 0
    · exact hb
    · exfalso
      apply h
      by_cases ha : a = 0
      · subst ha
        exact ⟨sgn b ++ dgT b, by unfold ztxt; rw [if_neg hb, if_pos rfl, tailL_eq hb]; simp⟩
      · exact ⟨sgn a ++ (dcL a.natAbs ++ (mid b ++ dgT b)), by rw [ztxt_two ha hb]; simp⟩
theorem prOk_of {L : List UInt8} {a b : Int} (hf : Fit a b) (h : ztxt a b = L) : prOk L = true ∧ prV L = (a, b) := by
  have h1 : prX L = (a, b) := by rw [← h]; exact prX_ztxt hf
  have h2 : prOk L = true := by
    unfold prOk
    rw [h1]
    simp only [Bool.and_eq_true, decide_eq_true_eq]
    exact ⟨hf, h⟩
  refine ⟨h2, ?_⟩
  unfold prV
  rw [if_pos h2, h1]
theorem of_prOk {L : List UInt8} (h : prOk L = true) : Fit (prX L).1 (prX L).2 ∧ ztxt (prX L).1 (prX L).2 = L := by
  unfold prOk at h
  simpa only [Bool.and_eq_true, decide_eq_true_eq] using h
theorem prOk_no {L : List UInt8} (h : ¬ prOk L = true) : prOk L = false ∧ prV L = (0, 0) := by
  refine ⟨by simpa using h, ?_⟩
  unfold prV
  rw [if_neg h]
theorem pg_eq {L F RE IM0 IM : List UInt8} (hF : L = F ++ [105]) (hp : pgParts F RE IM0 IM) : pgOk L RE IM = prOk L ∧ pgV L RE IM = prV L := by
  by_cases h : pgOk L RE IM = true
  · have hv : pgV L RE IM = (nbV RE, nbV IM) := by unfold pgV; rw [if_pos h]
    have h' := h
    unfold pgOk at h'
    simp only [Bool.and_eq_true, decide_eq_true_eq] at h'
    have b1 := nbV_b RE
    have b2 := nbV_b IM
    obtain ⟨p1, p2⟩ := prOk_of (a := nbV RE) (b := nbV IM) ⟨b1.1, b1.2, b2.1, b2.2⟩ h'.2.2
    rw [h, hv, p1, p2]
    exact ⟨rfl, rfl⟩
  · have hn : ¬ prOk L = true := by
      intro hpr
      obtain ⟨hf, ht⟩ := of_prOk hpr
      have hb : (prX L).2 ≠ 0 := fun hb => (ztxt_i hf).1 hb ⟨F, by rw [ht]; exact hF⟩
      obtain ⟨r1, r2⟩ := parts_ztxt hf hb (by rw [ht]; exact hF.symm) hp
      obtain ⟨f1, f2, f3, f4⟩ := hf
      have n1 := nb_sgL f1 f2
      have n2 := nb_sgL f3 f4
      apply h
      unfold pgOk
      rw [r1, r2, n1.1, n1.2, n2.1, n2.2, ht]
      simp
    obtain ⟨p1, p2⟩ := prOk_no hn
    have : pgOk L RE IM = false := by simpa using h
    refine ⟨by rw [this, p1], ?_⟩
    unfold pgV
    rw [p2, if_neg h]
theorem nb_eq {L : List UInt8} (hF : ¬ ∃ F, L = F ++ [105]) : nbOk L = prOk L ∧ (nbV L, (0 : Int)) = prV L := by
  by_cases h : nbOk L = true
  · obtain ⟨h1, h2, h3⟩ := nbOk_yes h
    obtain ⟨p1, p2⟩ := prOk_of (L := L) (a := nbV L) (b := 0) ⟨h2, h3, by omega, by omega⟩ (by unfold ztxt; rw [if_pos rfl]; exact h1)
    rw [h, p1, p2]
    exact ⟨rfl, rfl⟩
  · have hn : ¬ prOk L = true := by
      intro hpr
      obtain ⟨hf, ht⟩ := of_prOk hpr
      have hb : (prX L).2 = 0 := (ztxt_i hf).2 (fun ⟨F, h⟩ => hF ⟨F, by rw [← ht]; exact h⟩)
      rw [hb] at ht
      have e : ztxt (prX L).1 0 = sgL (prX L).1 := by unfold ztxt; rw [if_pos rfl]
      obtain ⟨f1, f2, f3, f4⟩ := hf
      exact h (by rw [← ht, e]; exact (nb_sgL f1 f2).1)
    obtain ⟨p1, p2⟩ := prOk_no hn
    have h' : nbOk L = false := by simpa using h
    rw [h', nbOk_no h', p1, p2]
    exact ⟨rfl, rfl⟩
end Go.Proofs.YtaocbebgdbeffaaDoor
