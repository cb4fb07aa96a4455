/- Plain law: the document's Parse reads what Text writes, and so does the program's. -/
import Derived.Test.YtaocbebgdbeffaaDoorGauS
set_option linter.unusedSimpArgs false
set_option linter.unusedVariables false
namespace Go.Proofs.YtaocbebgdbeffaaDoor
open Go.RowKit

theorem byt_drop (L : List UInt8) (p j : Nat) : byt (L.drop p) j = byt L (p + j) := by
  unfold byt
  simp [List.getD, List.getElem?_drop]
theorem drop_lt {L : List UInt8} {p : Nat} {c : UInt8} {r : List UInt8} (h : L.drop p = c :: r) : p < L.length ∧ byt L p = c.toNat ∧ L.drop (p + 1) = r := by
  have hl : p < L.length := by
    rcases Nat.lt_or_ge p L.length with h' | h'
    · exact h'
    · rw [List.drop_of_length_le h'] at h; cases h
  refine ⟨hl, ?_, ?_⟩
  · have := byt_drop L p 0
    rw [h] at this
    exact this.symm
  · rw [← List.drop_drop, h]
    rfl
theorem wD_run {L T : List UInt8} (hT : T = [] ∨ ∃ c r, T = c :: r ∧ ¬ (48 ≤ c.toNat ∧ c.toNat ≤ 57)) : ∀ (D : List UInt8) (f i n : Nat), (∀ c ∈ D, 48 ≤ c.toNat ∧ c.toNat ≤ 57) → D.length ≤ f → L.drop i = D ++ T →
    wD L f i n = (D.foldl (fun n c => n * 10 + (c.toNat - 48)) n, i + D.length)
  | [], f, i, n, _, _, h => by
    rw [wD_no]
    · rfl
    · rintro ⟨h1, h2, h3⟩
      rw [List.nil_append] at h
      rcases hT with rfl | ⟨c, r, rfl, hc⟩
      · rw [List.drop_eq_nil_iff] at h
        omega
      · have := (drop_lt h).2.1
        rw [this] at h2 h3
        exact hc ⟨h2, h3⟩
  | c :: D, 0, i, n, _, hl, h => by simp at hl
  | c :: D, f + 1, i, n, hc, hl, h => by
    obtain ⟨h1, h2, h3⟩ := drop_lt (r := D ++ T) h
    have hcc := hc c (by simp)
    rw [wD_yes h1 (by omega) (by omega), wD_run hT D f (i + 1) _ (fun x hx => hc x (by simp [hx])) (by simpa using hl) h3, h2]
    simp only [List.foldl_cons, List.length_cons]
    rw [show i + 1 + D.length = i + (D.length + 1) from by omega]
theorem fold_dcL : ∀ (n : Nat), n ≤ 100000000 → (dcL n).foldl (fun n c => n * 10 + (c.toNat - 48)) 0 = n := by
  intro n
  induction n using Nat.strongRecOn with
  | _ n ih =>
    intro hn
    by_cases h : n < 10
    · rw [dcL_small h]
      simp only [List.foldl_cons, List.foldl_nil, chr_toNat h]
      omega
    · rw [dcL_step h (by omega), List.foldl_append, ih (n / 10) (by omega) (by omega)]
      simp only [List.foldl_cons, List.foldl_nil, chr_toNat (show n % 10 < 10 by omega)]
      omega
theorem word_at {L s D T : List UInt8} {p n : Nat} (hd : L.drop p = s ++ (D ++ T)) (hs : s = [] ∨ s = [43] ∨ s = [45]) (hD : (D = [] ∧ n = 1) ∨ (D = dcL n ∧ n ≤ 1048576))
    (hT : T = [] ∨ ∃ c r, T = c :: r ∧ ¬ (48 ≤ c.toNat ∧ c.toNat ≤ 57)) (h0 : s = [] → ∀ c r, D ++ T = c :: r → c ≠ 43 ∧ c ≠ 45) :
    wE L p = p + s.length + D.length ∧ wV L p = if s = [45] then -(n : Int) else (n : Int) := by
  have hF : wF L p = p + s.length ∧ ((p < L.length ∧ byt L p = 45) ↔ s = [45]) := by
    unfold wF
    rcases hs with rfl | rfl | rfl
    · have hn : ¬ (p < L.length ∧ (byt L p = 45 ∨ byt L p = 43)) := by
        rintro ⟨h1, h2⟩
        cases hx : D ++ T with
        | nil =>
          rw [hx] at hd
          have := List.drop_eq_nil_iff.1 hd
          omega
        | cons c r =>
          have h3 := h0 rfl c r hx
          rw [hx] at hd
          have h4 := (drop_lt (r := r) hd).2.1
          rw [h4] at h2
          rcases h2 with h2 | h2
          · exact h3.2 (UInt8.toNat_inj.1 h2)
          · exact h3.1 (UInt8.toNat_inj.1 h2)
      rw [if_neg hn]
      refine ⟨rfl, ?_⟩
      constructor
      · intro h; exact absurd ⟨h.1, .inl h.2⟩ hn
      · intro h; cases h
    · obtain ⟨h1, h2, _⟩ := drop_lt (c := 43) (r := D ++ T) hd
      rw [if_pos ⟨h1, .inr h2⟩]
      refine ⟨rfl, ?_⟩
      constructor
      · intro h; rw [h2] at h; exact absurd h.2 (by decide)
      · intro h; cases h
    · obtain ⟨h1, h2, _⟩ := drop_lt (c := 45) (r := D ++ T) hd
      rw [if_pos ⟨h1, .inl h2⟩]
      exact ⟨rfl, fun _ => rfl, fun _ => ⟨h1, h2⟩⟩
  have hdd : L.drop (p + s.length) = D ++ T := by
    rw [← List.drop_drop, hd, List.drop_left]
  have hDd : (∀ c ∈ D, 48 ≤ c.toNat ∧ c.toNat ≤ 57) ∧ D.length ≤ 8 := by
    rcases hD with ⟨rfl, _⟩ | ⟨rfl, hn⟩
    · exact ⟨(fun c hc => nomatch hc), by simp⟩
    · exact ⟨dcL_dig n (by omega), by have := dcL_7 hn; omega⟩
  have hW := wD_run hT D 8 (p + s.length) 0 hDd.1 hDd.2 hdd
  have hN : wN L p = n := by
    unfold wN
    rw [hF.1, hW]
    rcases hD with ⟨rfl, rfl⟩ | ⟨rfl, hn⟩
    · simp
    · have := List.length_pos_iff.2 (dcL_ne n)
      rw [if_neg (by simp only; omega)]
      exact fold_dcL n (by omega)
  refine ⟨?_, ?_⟩
  · unfold wE
    rw [hF.1, hW]
  · unfold wV
    rw [hN]
    by_cases h : s = [45]
    · rw [if_pos h, if_pos (hF.2.2 h)]
    · rw [if_neg h, if_neg (fun h' => h (hF.2.1 h'))]

/-- The digits of a second part. -/
def dgT (b : Int) : List UInt8 := if b.natAbs = 1 then [] else dcL b.natAbs
def sgn (a : Int) : List UInt8 := if a < 0 then [45] else []
theorem sgL_sgn (a : Int) : sgL a = sgn a ++ dcL a.natAbs := rfl
theorem tailL_eq {b : Int} (h : b ≠ 0) : tailL b = sgn b ++ (dgT b ++ [105]) := by
  unfold tailL dgT
  by_cases h1 : b = 1
  · subst h1; rfl
  · rw [if_neg h1]
    by_cases h2 : b = -1
    · subst h2; rfl
    · rw [if_neg h2, if_neg (by omega), sgL_sgn]
      simp
/-- The sign between two parts. -/
def mid (b : Int) : List UInt8 := if b < 0 then [45] else [43]
theorem ztxt_two {a b : Int} (ha : a ≠ 0) (hb : b ≠ 0) : ztxt a b = sgn a ++ (dcL a.natAbs ++ (mid b ++ (dgT b ++ [105]))) := by
  unfold ztxt
  rw [if_neg hb, if_neg ha, tailL_eq hb, sgL_sgn]
  unfold mid sgn
  by_cases h : 0 < b
  · simp [h, show ¬ b < 0 by omega]
  · simp [h, show b < 0 by omega]
theorem sgn_or (a : Int) : sgn a = [] ∨ sgn a = [43] ∨ sgn a = [45] := by unfold sgn; split <;> simp
theorem sgn_45 (a : Int) : (sgn a = [45]) = (a < 0) := by
  unfold sgn
  split <;> simp [*]
theorem mid_or (a : Int) : mid a = [] ∨ mid a = [43] ∨ mid a = [45] := by unfold mid; split <;> simp
theorem mid_45 (a : Int) : (mid a = [45]) = (a < 0) := by
  unfold mid
  split <;> simp [*]
theorem dgT_or {b : Int} (h : b.natAbs ≤ 1048576) : (dgT b = [] ∧ b.natAbs = 1) ∨ (dgT b = dcL b.natAbs ∧ b.natAbs ≤ 1048576) := by
  unfold dgT
  split
  · exact .inl ⟨rfl, by assumption⟩
  · exact .inr ⟨rfl, h⟩
theorem sign_back {s : List UInt8} {a : Int} (h : (s = [45]) = (a < 0)) : (if s = [45] then -((a.natAbs : Nat) : Int) else ((a.natAbs : Nat) : Int)) = a := by
  by_cases hs : s = [45]
  · rw [if_pos hs]
    rw [h] at hs
    omega
  · rw [if_neg hs]
    rw [h] at hs
    omega
theorem dcL_no_sign {n : Nat} (h : n ≤ 1048576) {c : UInt8} {r T : List UInt8} (he : dcL n ++ T = c :: r) : c ≠ 43 ∧ c ≠ 45 := by
  cases hd : dcL n with
  | nil => exact absurd hd (dcL_ne n)
  | cons x y =>
    rw [hd] at he
    simp only [List.cons_append, List.cons.injEq] at he
    have := dcL_dig n (by omega) x (by rw [hd]; simp)
    rw [he.1] at this
    constructor
    · rintro rfl; exact absurd this.1 (by decide)
    · rintro rfl; exact absurd this.1 (by decide)
theorem hi_dig : ∃ c r, [(105 : UInt8)] = c :: r ∧ ¬ (48 ≤ c.toNat ∧ c.toNat ≤ 57) := ⟨105, [], rfl, by decide⟩

theorem prX_ztxt {a b : Int} (hf : Fit a b) : prX (ztxt a b) = (a, b) := by
  obtain ⟨h1, h2, h3, h4⟩ := hf
  by_cases hb : b = 0
  · subst hb
    have e : ztxt a 0 = sgn a ++ (dcL a.natAbs ++ []) := by unfold ztxt; rw [if_pos rfl, sgL_sgn]; simp
    obtain ⟨w1, w2⟩ := word_at (L := ztxt a 0) (p := 0) (n := a.natAbs) (by rw [List.drop_zero]; exact e) (sgn_or a) (.inr ⟨rfl, by omega⟩) (.inl rfl) (fun _ c r h => dcL_no_sign (by omega) h)
    rw [sign_back (sgn_45 _)] at w2
    have hl : wE (ztxt a 0) 0 = (ztxt a 0).length := by
      rw [w1, e]
      simp
    unfold prX
    rw [hl, if_neg (by omega), if_neg (by omega), w2]
  · by_cases ha : a = 0
    · subst ha
      have e : ztxt 0 b = sgn b ++ (dgT b ++ [105]) := by unfold ztxt; rw [if_neg hb, if_pos rfl, tailL_eq hb]
      obtain ⟨w1, w2⟩ := word_at (L := ztxt 0 b) (p := 0) (n := b.natAbs) (by rw [List.drop_zero]; exact e) (sgn_or b) (dgT_or (by omega)) (.inr hi_dig) (fun _ c r h => by
        rcases dgT_or (b := b) (by omega) with ⟨hd, _⟩ | ⟨hd, _⟩
        · rw [hd] at h
          simp only [List.nil_append, List.cons.injEq] at h
          rw [← h.1]
          decide
        · rw [hd] at h
          exact dcL_no_sign (by omega) h)
      rw [sign_back (sgn_45 _)] at w2
      have hdr : (ztxt 0 b).drop (wE (ztxt 0 b) 0) = [105] := by
        rw [w1, e, show 0 + (sgn b).length + (dgT b).length = (sgn b ++ dgT b).length from by simp, ← List.append_assoc, List.drop_left]
      obtain ⟨d1, d2, _⟩ := drop_lt hdr
      unfold prX
      rw [if_pos ⟨d1, d2⟩, w2]
    · have e := ztxt_two ha hb
      obtain ⟨c, r, hcr, hcd⟩ : ∃ c r, mid b ++ (dgT b ++ [105]) = c :: r ∧ ¬ (48 ≤ c.toNat ∧ c.toNat ≤ 57) ∧ c.toNat ≠ 105 := by
        unfold mid
        split
        · exact ⟨45, dgT b ++ [105], rfl, by decide, by decide⟩
        · exact ⟨43, dgT b ++ [105], rfl, by decide, by decide⟩
      obtain ⟨w1, w2⟩ := word_at (L := ztxt a b) (p := 0) (n := a.natAbs) (by rw [List.drop_zero]; exact e) (sgn_or a) (.inr ⟨rfl, by omega⟩) (.inr ⟨c, r, hcr, hcd.1⟩) (fun _ c r h => dcL_no_sign (by omega) h)
      rw [sign_back (sgn_45 _)] at w2
      have hdr : (ztxt a b).drop (wE (ztxt a b) 0) = mid b ++ (dgT b ++ [105]) := by
        rw [w1, e, show 0 + (sgn a).length + (dcL a.natAbs).length = (sgn a ++ dcL a.natAbs).length from by simp, ← List.append_assoc, List.drop_left]
      obtain ⟨v1, v2⟩ := word_at (n := b.natAbs) hdr (mid_or b) (dgT_or (by omega)) (.inr hi_dig) (fun h => by
        exfalso
        unfold mid at h
        split at h <;> cases h)
      rw [sign_back (mid_45 _)] at v2
      rw [hcr] at hdr
      obtain ⟨d1, d2, _⟩ := drop_lt hdr
      unfold prX
      rw [if_neg (by rw [d2]; exact fun h => hcd.2 h.2), if_pos d1, w2, v2]
end Go.Proofs.YtaocbebgdbeffaaDoor
