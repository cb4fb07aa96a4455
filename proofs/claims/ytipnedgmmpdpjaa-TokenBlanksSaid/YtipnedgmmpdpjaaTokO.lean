/- More blanks between tokens: the plain law, second part. -/
import Derived.Test.YtipnedgmmpdpjaaTokN
set_option linter.unusedSimpArgs false
set_option linter.unusedVariables false
namespace Go.Proofs.Ytipnedgmmpdpjaa
open Go.RowKit

theorem agr_pre {M L : List UInt8} {q a n : Nat} (h : Agr M q L a n) (p : List UInt8) (hp : p.length ≤ n) : Lib.hasPrefix (M.drop q) p = Lib.hasPrefix (L.drop a) p := by
  have e := h.eq
  have key : ∀ X : List UInt8, Lib.hasPrefix X p = Lib.hasPrefix (X.take n) p := by
    intro X
    unfold Lib.hasPrefix
    cases h1 : p.isPrefixOf X with
    | true =>
      have h2 := List.isPrefixOf_iff_prefix.1 h1
      obtain ⟨r, rfl⟩ := h2
      rw [List.take_append]
      symm
      rw [List.isPrefixOf_iff_prefix, List.take_of_length_le hp]
      exact List.prefix_append _ _
    | false =>
      cases h2 : p.isPrefixOf (X.take n) with
      | false => rfl
      | true =>
        have h3 := (List.isPrefixOf_iff_prefix.1 h2).trans (List.take_prefix n X)
        rw [List.isPrefixOf_iff_prefix.2 h3] at h1
        cases h1
  rw [key (M.drop q), e, ← key]
theorem nx_ne {L : List UInt8} {i c : Nat} (h : nx L i = c) (hc : c ≠ 0) : i < L.length := lt_of_nx (by omega)

/-- A token is one wherever the same bytes stand, and the same byte or a blank behind them. -/
theorem tok_agr {M L : List UInt8} {q a n : Nat} {k : Int} {t : List UInt8} (h : tok L a = some (k, t, n)) (hA : Agr M q L a n) (hn1 : 1 ≤ n) (hN : nx M (q + n) = nx L (a + n) ∨ nx M (q + n) = 32) : tok M q = some (k, t, n) := by
  have h0 := hA.2.2 0 (by omega)
  simp only [Nat.add_zero] at h0
  have hall := hA.2.2
  unfold tok at h ⊢
  rw [h0]
  split at h
  · rename_i hd
    rw [if_pos hd]
    split at h
    · cases h
    · rename_i hn0
      simp only [Option.some.injEq, Prod.mk.injEq] at h
      obtain ⟨rfl, h2, h3⟩ := h
      have key : numN M q = n := by
        unfold numN at h3 ⊢
        obtain ⟨r, hr⟩ : ∃ r, runN dgB L a = r := ⟨_, rfl⟩
        rw [hr] at h3
        by_cases h46 : nx L (a + r) = 46
        · rw [if_pos h46] at h3
          obtain ⟨m, hm⟩ : ∃ m, runN dgB L (a + r + 1) = m := ⟨_, rfl⟩
          rw [hm] at h3
          by_cases hm0 : m = 0
          · rw [if_pos hm0] at h3; omega
          · rw [if_neg hm0] at h3
            have r1 : runN dgB M q = r := run_agr (by decide) (by decide) hr (fun j hj => hall j (by omega)) (.inl (hall r (by omega)))
            have r2 : runN dgB M (q + r + 1) = m := run_agr (by decide) (by decide) hm (fun j hj => by have := hall (r + 1 + j) (by omega); rw [show q + r + 1 + j = q + (r + 1 + j) by omega, show a + r + 1 + j = a + (r + 1 + j) by omega]; exact this) (by rw [show q + r + 1 + m = q + n by omega, show a + r + 1 + m = a + n by omega]; exact hN)
            rw [r1, hall r (by omega), if_pos h46, r2, if_neg hm0]
            exact h3
        · rw [if_neg h46] at h3
          have r1 : runN dgB M q = r := run_agr (by decide) (by decide) hr (fun j hj => hall j (by omega)) (by rw [h3]; exact hN)
          rw [r1, if_neg (by rw [h3]; rw [h3] at h46; rcases hN with e | e <;> omega)]
          exact h3
      rw [key, if_neg (by omega), hA.eq, ← h3, h2]
  · rename_i hd
    rw [if_neg hd]
    split at h
    · rename_i hu
      rw [if_pos hu]
      simp only [Option.some.injEq, Prod.mk.injEq] at h
      obtain ⟨rfl, h2, h3⟩ := h
      have r1 : runN nmB M q = n := run_agr (by decide) (by decide) h3 (fun j hj => hall j hj) hN
      rw [r1, hA.eq, ← h3, h2]
    · rename_i hu
      rw [if_neg hu]
      split at h
      · rename_i hq
        rw [if_pos hq]
        cases hx : quo (L.drop (a + 1)) with
        | none => rw [hx] at h; cases h
        | some x =>
          obtain ⟨t', m⟩ := x
          rw [hx] at h
          simp only [Option.some.injEq, Prod.mk.injEq] at h
          obtain ⟨rfl, h2, h3⟩ := h
          have h34 := quo_next L m (a + 1) t' hx
          have := quo_agr m L M (a + 1) (q + 1) t' hx (by have := hA.1; omega) (fun i hi => by have := hall (i + 1) (by omega); rw [show q + 1 + i = q + (i + 1) by omega, show a + 1 + i = a + (i + 1) by omega]; exact this) (by rw [show q + 1 + m = q + n by omega]; rw [show a + 1 + m = a + n by omega] at h34; rcases hN with e | e <;> omega)
          rw [this]
          simp only [h2, h3]
      · rename_i hq
        rw [if_neg hq]
        split at h
        · rename_i hp
          simp only [Option.some.injEq, Prod.mk.injEq] at h
          obtain ⟨rfl, h2, h3⟩ := h
          subst h3
          rw [agr_pre hA sREF (by decide), if_pos hp, h2]
        · rename_i hp
          split at h
          · cases h
          · rename_i hs
            simp only [Option.some.injEq, Prod.mk.injEq] at h
            obtain ⟨rfl, h2, h3⟩ := h
            have hsg : sgn (M.drop q) = sgn (L.drop a) := by
              rw [sgn_F, sgn_F, h0]
              have hl := sgn_len (L.drop a)
              have hcase : n = 1 ∨ n = 2 := by omega
              rcases hcase with rfl | rfl
              · rcases hN with e | e
                · rw [e]
                · rw [e]
                  exact sgF_blank _ _ (by rw [← sgn_F]; exact h3)
              · rw [hall 1 (by omega)]
            have hne : Lib.hasPrefix (M.drop q) sREF = false := by
              have hc := sgn_F L a
              cases hx : Lib.hasPrefix (M.drop q) sREF with
              | false => rfl
              | true =>
                exfalso
                have hM0 : nx M q = 35 := by
                  have h5 := pre_one M q 35 (by decide)
                  have h6 : Lib.hasPrefix (M.drop q) [35] = true := by
                    unfold Lib.hasPrefix at hx ⊢
                    have h7 := List.isPrefixOf_iff_prefix.1 hx
                    exact List.isPrefixOf_iff_prefix.2 (List.IsPrefix.trans (by exact ⟨[82, 69, 70, 33], rfl⟩) h7)
                  rw [h6] at h5
                  simpa using h5.symm
                rw [hc, ← h0, hM0] at hs
                exact hs (by simp [sgF, sgs, List.find?_cons, m1])
            rw [hsg, hne]
            rw [if_neg (by simp), if_neg hs, h3, h2]

theorem tok_32 (L : List UInt8) (i : Nat) (h : nx L i = 32) : tok L i = none := by
  unfold tok
  have hp : Lib.hasPrefix (L.drop i) sREF = false := by
    cases hx : Lib.hasPrefix (L.drop i) sREF with
    | false => rfl
    | true =>
      exfalso
      have h5 := pre_one L i 35 (by decide)
      have h6 : Lib.hasPrefix (L.drop i) [35] = true := by
        unfold Lib.hasPrefix at hx ⊢
        have h7 := List.isPrefixOf_iff_prefix.1 hx
        exact List.isPrefixOf_iff_prefix.2 (List.IsPrefix.trans (by exact ⟨[82, 69, 70, 33], rfl⟩) h7)
      rw [h6, h] at h5
      exact absurd h5 (by decide)
  rw [h, sgn_F, h, hp]
  rw [if_neg (by decide), if_neg (by decide), if_neg (by decide), if_neg (by decide), if_pos (by simp [sgF, sgs, List.find?_cons, m1])]

/-- Blanks are passed by. -/
theorem spl_skip (L : List UInt8) : ∀ (n i : Nat), (∀ j, j < n → nx L (i + j) = 32) → spl L i = spl L (i + n) := by
  intro n
  induction n with
  | zero => intro i _; rfl
  | succ n ih =>
    intro i h
    have e := h 0 (by omega)
    rw [Nat.add_zero] at e
    have e2 := ih (i + 1) (fun j hj => by have := h (j + 1) (by omega); rw [show i + 1 + j = i + (j + 1) by omega]; exact this)
    rw [show i + 1 + n = i + (n + 1) by omega] at e2
    exact (spl_blank L i e).trans e2
theorem splF_zero (L : List UInt8) : ∀ (f i : Nat) (Ts : List Tk) (x : Nat), splF L f i = (some Ts, x) → x = 0 := by
  intro f
  induction f with
  | zero => intro i Ts x h; simp only [splF, Prod.mk.injEq] at h; exact h.2.symm
  | succ f ih =>
    intro i Ts x h
    rw [splF] at h
    split at h
    · simp only [Prod.mk.injEq] at h; exact h.2.symm
    · split at h
      · exact ih _ _ _ h
      · cases ht : tok L i with
        | none => rw [ht] at h; simp at h
        | some y =>
          obtain ⟨k, t, n⟩ := y
          rw [ht] at h
          simp only [] at h
          cases hs : splF L f (i + n) with
          | mk o z =>
            rw [hs] at h
            cases o with
            | none => simp at h
            | some r =>
              simp only [Prod.mk.injEq, Option.some.injEq] at h
              rw [← h.2]
              exact ih _ _ _ hs
theorem spl_zero (L : List UInt8) (i : Nat) (Ts : List Tk) (x : Nat) (h : spl L i = (some Ts, x)) : x = 0 := splF_zero L _ i Ts x h
/-- What the first of the tokens from a place on says. -/
theorem spl_head (L : List UInt8) : ∀ (f i : Nat), f = L.length - i → ∀ (Ts : List Tk) (x : Nat), spl L i = (some Ts, x) → match Ts with
    | [] => x = 0 ∧ (∀ j, i ≤ j → j < L.length → nx L j = 32)
    | (k, t, b) :: r => i ≤ b ∧ b < L.length ∧ (∀ j, i ≤ j → j < b → nx L j = 32) ∧ ∃ n, tok L b = some (k, t, n) ∧ spl L (b + n) = (some r, x) := by
  intro f
  induction f with
  | zero =>
    intro i hi Ts x h
    rw [spl_end L i (by omega)] at h
    simp only [Prod.mk.injEq, Option.some.injEq] at h
    obtain ⟨rfl, rfl⟩ := h
    exact ⟨rfl, fun j h1 h2 => by omega⟩
  | succ f ih =>
    intro i hi Ts x h
    by_cases h32 : nx L i = 32
    · rw [spl_blank L i h32] at h
      have := ih (i + 1) (by omega) Ts x h
      cases Ts with
      | nil =>
        refine ⟨this.1, fun j h1 h2 => ?_⟩
        rcases Nat.lt_or_ge i j with h3 | h3
        · exact this.2 j (by omega) h2
        · rw [show j = i by omega]; exact h32
      | cons T r =>
        obtain ⟨k, t, b⟩ := T
        obtain ⟨h1, h2, h3, h4⟩ := this
        refine ⟨by omega, h2, fun j g1 g2 => ?_, h4⟩
        rcases Nat.lt_or_ge i j with g3 | g3
        · exact h3 j (by omega) g2
        · rw [show j = i by omega]; exact h32
    · have hil : i < L.length := by omega
      cases ht : tok L i with
      | none =>
        rw [spl_none L i hil h32 ht] at h
        simp at h
      | some y =>
        obtain ⟨k, t, n⟩ := y
        rw [spl_some L i hil h32 ht] at h
        cases hs : spl L (i + n) with
        | mk o z =>
          rw [hs] at h
          cases o with
          | none => simp [sm] at h
          | some r =>
            simp only [sm, Prod.mk.injEq, Option.some.injEq] at h
            obtain ⟨rfl, rfl⟩ := h
            exact ⟨Nat.le_refl _, hil, fun j g1 g2 => by omega, n, ht, hs⟩

def blk (B : List UInt8) (i : Nat) : Nat := nx B i % 4
/-- The text from a place on with more blanks, and its tokens' places. -/
def outR (L B : List UInt8) : Nat → List Tk → Nat → List UInt8
  | a, [], i => L.drop a ++ List.replicate (blk B i) 32
  | a, (_, _, b) :: r, i => (L.drop a).take (b - a) ++ List.replicate (blk B i) 32 ++ outR L B b r (i + 1)
def wantR (B : List UInt8) : Nat → Nat → List Tk → Nat → List Tk
  | _, _, [], _ => []
  | p, a, (k, t, b) :: r, i => (k, t, p + (b - a) + blk B i) :: wantR B (p + (b - a) + blk B i) b r (i + 1)

theorem wantR_cons (B : List UInt8) (p a : Nat) (k : Int) (t : List UInt8) (b : Nat) (r : List Tk) (i : Nat) : wantR B p a ((k, t, b) :: r) i = (k, t, p + (b - a) + blk B i) :: wantR B (p + (b - a) + blk B i) b r (i + 1) := rfl
theorem outR_head (L B : List UInt8) (a : Nat) (Ts : List Tk) (i n : Nat) (k : Int) (t : List UInt8) (ha : a < L.length) (hn : 1 ≤ n) (hs : spl L (a + n) = (some Ts, 0)) : nx (outR L B a Ts i) 0 = nx L a := by
  cases Ts with
  | nil =>
    unfold outR
    rw [nx_app_l _ _ 0 (by simp; omega), nx_drop, Nat.add_zero]
  | cons T r =>
    obtain ⟨k2, t2, b⟩ := T
    obtain ⟨h1, h2, _⟩ := spl_head L _ (a + n) rfl _ _ hs
    unfold outR
    rw [nx_app_l _ _ 0 (by simp; omega), nx_app_l _ _ 0 (by simp; omega), nx_piece _ _ _ _ (by omega), Nat.add_zero]

theorem spl_out (L B : List UInt8) : ∀ (Ts : List Tk) (a n i : Nat) (k : Int) (t P : List UInt8), a < L.length → nx L a ≠ 32 → tok L a = some (k, t, n) → spl L (a + n) = (some Ts, 0) →
    spl (P ++ outR L B a Ts i) P.length = (some ((k, t, P.length) :: wantR B P.length a Ts i), 0) := by
  intro Ts
  induction Ts with
  | nil =>
    intro a n i k t P ha h32 ht hs
    have hp := tok_pos ha ht
    obtain ⟨_, hb⟩ := spl_head L _ (a + n) rfl _ _ hs
    obtain ⟨Y, hY⟩ : ∃ Y, outR L B a [] i = Y := ⟨_, rfl⟩
    have hYl : Y.length = (L.length - a) + blk B i := by rw [← hY]; simp [outR]
    have hY1 : ∀ j, j < L.length - a → nx Y j = nx L (a + j) := fun j hj => by rw [← hY]; unfold outR; rw [nx_app_l _ _ j (by simp; omega), nx_drop]
    have hY2 : ∀ j, L.length - a ≤ j → j < Y.length → nx Y j = 32 := fun j h1 h2 => by
      rw [← hY]
      unfold outR
      have := nx_app_r (L.drop a) (List.replicate (blk B i) (32 : UInt8)) (j - (L.length - a))
      rw [List.length_drop, show L.length - a + (j - (L.length - a)) = j by omega] at this
      rw [this, nx_rep _ _ (by omega)]
    rw [hY]
    have hA : Agr (P ++ Y) P.length L a n := ⟨by simp; omega, by omega, fun j hj => by rw [nx_app_r, hY1 j (by omega)]⟩
    have hN : nx (P ++ Y) (P.length + n) = nx L (a + n) ∨ nx (P ++ Y) (P.length + n) = 32 := by
      rw [nx_app_r]
      rcases Nat.lt_or_ge n (L.length - a) with h | h
      · exact .inl (hY1 n h)
      · rcases Nat.lt_or_ge n Y.length with h' | h'
        · exact .inr (hY2 n h h')
        · left; rw [nx_end h', nx_end (by omega)]
    have h0 : nx (P ++ Y) P.length = nx L a := by have := hA.2.2 0 (by omega); simpa using this
    rw [spl_some (P ++ Y) P.length (by simp; omega) (by rw [h0]; exact h32) (tok_agr ht hA hp.1 hN)]
    have hskip := spl_skip (P ++ Y) (Y.length - n) (P.length + n) (fun j hj => by
      rw [show P.length + n + j = P.length + (n + j) by omega, nx_app_r]
      rcases Nat.lt_or_ge (n + j) (L.length - a) with h | h
      · rw [hY1 _ h]; exact hb (a + (n + j)) (by omega) (by omega)
      · exact hY2 _ h (by omega))
    rw [hskip, spl_end _ _ (by simp; omega)]
    rfl
  | cons T r ih =>
    intro a n i k t P ha h32 ht hs
    obtain ⟨k2, t2, b⟩ := T
    have hp := tok_pos ha ht
    obtain ⟨h1, h2, h3, n2, ht2, hs2⟩ := spl_head L _ (a + n) rfl _ _ hs
    have hp2 := tok_pos h2 ht2
    have hb32 : nx L b ≠ 32 := by intro e; rw [tok_32 L b e] at ht2; cases ht2
    obtain ⟨Z, hZ⟩ : ∃ Z, outR L B b r (i + 1) = Z := ⟨_, rfl⟩
    have hZ0 : nx Z 0 = nx L b := by rw [← hZ]; exact outR_head L B b r (i + 1) n2 k2 t2 h2 hp2.1 hs2
    obtain ⟨X, hX⟩ : ∃ X, (L.drop a).take (b - a) = X := ⟨_, rfl⟩
    have hXl : X.length = b - a := by rw [← hX]; simp; omega
    have hX1 : ∀ j, j < b - a → nx X j = nx L (a + j) := fun j hj => by rw [← hX]; exact nx_piece L a (b - a) j hj
    obtain ⟨c, hc⟩ : ∃ c, blk B i = c := ⟨_, rfl⟩
    have hout : outR L B a ((k2, t2, b) :: r) i = X ++ List.replicate c 32 ++ Z := by unfold outR; rw [hX, hc, hZ]
    have hY1 : ∀ j, j < b - a → nx (X ++ List.replicate c 32 ++ Z) j = nx L (a + j) := fun j hj => by rw [nx_app_l _ _ j (by simp; omega), nx_app_l _ _ j (by omega), hX1 j hj]
    have hY2 : ∀ j, b - a ≤ j → j < b - a + c → nx (X ++ List.replicate c 32 ++ Z) j = 32 := fun j g1 g2 => by
      rw [nx_app_l _ _ j (by simp; omega)]
      have := nx_app_r X (List.replicate c (32 : UInt8)) (j - (b - a))
      rw [hXl, show b - a + (j - (b - a)) = j by omega] at this
      rw [this, nx_rep _ _ (by omega)]
    have hY3 : nx (X ++ List.replicate c 32 ++ Z) (b - a + c) = nx L b := by
      have := nx_app_r (X ++ List.replicate c (32 : UInt8)) Z 0
      rw [List.length_append, List.length_replicate, hXl, Nat.add_zero] at this
      rw [this, hZ0]
    rw [hout]
    obtain ⟨Y, hY⟩ : ∃ Y, X ++ List.replicate c 32 ++ Z = Y := ⟨_, rfl⟩
    rw [hY] at hY1 hY2 hY3
    have hYl : b - a + c < Y.length := by
      have : b - a + c < Y.length ∨ Y.length ≤ b - a + c := by omega
      rcases this with h | h
      · exact h
      · rw [nx_end h] at hY3
        exfalso
        rw [← hZ] at hY
        have := congrArg List.length hY
        have hzl : 0 < (outR L B b r (i + 1)).length := by
          cases r with
          | nil => unfold outR; simp; omega
          | cons T2 r2 =>
            obtain ⟨k3, t3, b3⟩ := T2
            obtain ⟨g1, g2, _⟩ := spl_head L _ (b + n2) rfl _ _ hs2
            unfold outR
            simp
            omega
        simp [hXl] at this
        omega
    rw [hY]
    have hA : Agr (P ++ Y) P.length L a n := ⟨by simp; omega, by omega, fun j hj => by rw [nx_app_r, hY1 j (by omega)]⟩
    have hN : nx (P ++ Y) (P.length + n) = nx L (a + n) ∨ nx (P ++ Y) (P.length + n) = 32 := by
      rw [nx_app_r]
      rcases Nat.lt_or_ge n (b - a) with h | h
      · exact .inl (hY1 n h)
      · rcases Nat.eq_zero_or_pos c with h' | h'
        · left
          rw [show n = b - a + c by omega, hY3]
          congr 1
          omega
        · exact .inr (hY2 n h (by omega))
    have h0 : nx (P ++ Y) P.length = nx L a := by have := hA.2.2 0 (by omega); simpa using this
    rw [spl_some (P ++ Y) P.length (by simp; omega) (by rw [h0]; exact h32) (tok_agr ht hA hp.1 hN)]
    have hskip := spl_skip (P ++ Y) (b - a + c - n) (P.length + n) (fun j hj => by
      rw [show P.length + n + j = P.length + (n + j) by omega, nx_app_r]
      rcases Nat.lt_or_ge (n + j) (b - a) with h | h
      · rw [hY1 _ h]; exact h3 (a + (n + j)) (by omega) (by omega)
      · exact hY2 _ h (by omega))
    rw [hskip]
    have hPl : (P ++ (X ++ List.replicate c 32)).length = P.length + n + (b - a + c - n) := by simp; omega
    have := ih b n2 (i + 1) k2 t2 (P ++ (X ++ List.replicate c 32)) h2 hb32 ht2 hs2
    rw [hZ, List.append_assoc, hY, hPl] at this
    rw [this]
    rw [wantR_cons, hc, show P.length + (b - a) + c = P.length + n + (b - a + c - n) by omega]
    rfl

/-- The law: with more blanks the same tokens come, further on. -/
theorem spl_more (L B : List UInt8) (Ts : List Tk) (x : Nat) (h : spl L 0 = (some Ts, x)) : spl (outR L B 0 Ts 0) 0 = (some (wantR B 0 0 Ts 0), 0) := by
  cases Ts with
  | nil =>
    obtain ⟨_, hb⟩ := spl_head L _ 0 rfl _ _ h
    have hskip := spl_skip (outR L B 0 [] 0) (L.length + blk B 0) 0 (fun j hj => by
      unfold outR
      rw [Nat.zero_add, List.drop_zero]
      rcases Nat.lt_or_ge j L.length with h1 | h1
      · rw [nx_app_l _ _ j h1]; exact hb j (by omega) h1
      · have := nx_app_r L (List.replicate (blk B 0) (32 : UInt8)) (j - L.length)
        rw [show L.length + (j - L.length) = j by omega] at this
        rw [this, nx_rep _ _ (by omega)])
    rw [hskip, spl_end _ _ (by simp [outR])]
    rfl
  | cons T r =>
    obtain ⟨k, t, b⟩ := T
    obtain ⟨h1, h2, h3, n, ht, hs⟩ := spl_head L _ 0 rfl _ _ h
    have hx : x = 0 := spl_zero L 0 _ x h
    subst hx
    have hb32 : nx L b ≠ 32 := by intro e; rw [tok_32 L b e] at ht; cases ht
    have := spl_out L B r b n 1 k t ((L.drop 0).take (b - 0) ++ List.replicate (blk B 0) 32) h2 hb32 ht hs
    have hl : ((L.drop 0).take (b - 0) ++ List.replicate (blk B 0) (32 : UInt8)).length = b + blk B 0 := by simp; omega
    rw [hl] at this
    have hskip := spl_skip (outR L B 0 ((k, t, b) :: r) 0) (b + blk B 0) 0 (fun j hj => by
      unfold outR
      rw [nx_app_l _ _ _ (by rw [hl]; omega), Nat.zero_add]
      rcases Nat.lt_or_ge j b with g1 | g1
      · rw [nx_app_l _ _ j (by simp; omega), nx_piece _ _ _ _ (by omega), Nat.zero_add]; exact h3 j (by omega) g1
      · have := nx_app_r ((L.drop 0).take (b - 0)) (List.replicate (blk B 0) (32 : UInt8)) (j - b)
        rw [show ((L.drop 0).take (b - 0)).length = b by simp; omega, show b + (j - b) = j by omega] at this
        rw [this, nx_rep _ _ (by omega)])
    rw [hskip, Nat.zero_add]
    show spl _ _ = (some ((k, t, 0 + (b - 0) + blk B 0) :: wantR B (0 + (b - 0) + blk B 0) b r 1), 0)
    rw [show 0 + (b - 0) + blk B 0 = b + blk B 0 by omega]
    exact this
end Go.Proofs.Ytipnedgmmpdpjaa
