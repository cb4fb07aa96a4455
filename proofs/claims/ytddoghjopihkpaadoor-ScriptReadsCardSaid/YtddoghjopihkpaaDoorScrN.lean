/- Script: the plain law: a number's letters are read; words. No function of the program. -/
import Derived.Test.YtddoghjopihkpaaDoorScrD
set_option linter.unusedSimpArgs false
set_option linter.unusedVariables false
namespace Go.Proofs.YtddoghjopihkpaaDoor
open Go.RowKit

theorem chr_nat (d : Nat) (h : d < 10) : (chr d).toNat = 48 + d := by
  unfold chr
  simp
  omega
theorem nmF_snoc (L : Bs) : ∀ (m : Nat) (c : UInt8), nmF m (L ++ [c]) = (nmF m L).bind fun v => nmF v [c] := by
  induction L with
  | nil => intro m c; rfl
  | cons x r ih =>
    intro m c
    rw [List.cons_append, nmF, nmF]
    split
    · exact ih _ c
    · rfl
theorem nmF_one (v d : Nat) (h : d < 10) (hv : 10 * v + d ≤ 1048576) : nmF v [chr d] = some (10 * v + d) := by
  have e := chr_nat d h
  rw [nmF, if_pos (by rw [e]; omega), e, show 48 + d - 48 = d from by omega]
  rfl
theorem nmF_dc : ∀ (f n : Nat), n < 10 ^ (f + 1) → n ≤ 1048576 → nmF 0 (dcF f n) = some n
  | 0, n, h, h2 => by
    have := nmF_one 0 n (by simpa using h) (by omega)
    simpa [dcF] using this
  | f + 1, n, h, h2 => by
    rw [dcF]
    by_cases h10 : n < 10
    · rw [if_pos h10]
      have := nmF_one 0 n h10 (by omega)
      simpa using this
    · rw [if_neg h10, nmF_snoc, nmF_dc f (n / 10) (by rw [Nat.pow_succ] at h; omega) (by omega)]
      show nmF (n / 10) [chr (n % 10)] = some n
      rw [nmF_one (n / 10) (n % 10) (by omega) (by omega)]
      congr 1
      omega
theorem dcF_ne : ∀ (f n : Nat), dcF f n ≠ []
  | 0, n => by simp [dcF]
  | f + 1, n => by rw [dcF]; split <;> simp
theorem dcF_head : ∀ (f n : Nat), 1 ≤ n → n < 10 ^ (f + 1) → btN (dcF f n) 0 ≠ 48
  | 0, n, h, h2 => by
    have h3 : n < 10 := by simpa using h2
    have := chr_nat n h3
    unfold btN
    simp only [dcF, List.getD_cons_zero]
    omega
  | f + 1, n, h, h2 => by
    rw [dcF]
    by_cases h10 : n < 10
    · rw [if_pos h10]
      have := chr_nat n h10
      unfold btN
      simp only [List.getD_cons_zero]
      omega
    · rw [if_neg h10]
      have ih := dcF_head f (n / 10) (by omega) (by rw [Nat.pow_succ] at h2; omega)
      have hp : 0 < (dcF f (n / 10)).length := List.length_pos_iff.2 (dcF_ne _ _)
      unfold btN at ih ⊢
      rw [List.getD_eq_getElem?_getD] at ih ⊢
      rw [List.getElem?_append_left hp]
      exact ih
theorem dcF_one : ∀ (f n : Nat), n < 10 → dcF f n = [chr n]
  | 0, n, _ => rfl
  | f + 1, n, h => by rw [dcF, if_pos h]
theorem nmb_dc (n : Nat) (h : n ≤ 1048576) : nmb (dcL n) = some n := by
  unfold nmb
  have hne : dcL n ≠ [] := dcF_ne 15 n
  rw [if_neg hne, if_neg, show dcL n = dcF 15 n from rfl]
  · exact nmF_dc 15 n (Nat.lt_of_le_of_lt h (by decide)) h
  · rintro ⟨h1, h2⟩
    rcases Nat.lt_or_ge n 10 with h10 | h10
    · rw [show dcL n = dcF 15 n from rfl, dcF_one 15 n h10] at h1
      simp at h1
    · exact dcF_head 15 n (by omega) (Nat.lt_of_le_of_lt h (by decide)) h2
/-- No blank. -/
def plainW (L : Bs) : Prop := ∀ c ∈ L, c ≠ 32
theorem chr_sp (d : Nat) (h : d < 10) : chr d ≠ 32 := by
  intro e
  have := chr_nat d h
  rw [e] at this
  have h32 : (32 : UInt8).toNat = 32 := rfl
  omega
theorem dcF_plain : ∀ (f n : Nat), n < 10 ^ (f + 1) → plainW (dcF f n)
  | 0, n, h => by
    intro c hc
    simp only [dcF, List.mem_singleton] at hc
    subst hc
    exact chr_sp n (by simpa using h)
  | f + 1, n, h => by
    rw [dcF]
    by_cases h10 : n < 10
    · rw [if_pos h10]
      intro c hc
      rw [List.mem_singleton] at hc
      subst hc
      exact chr_sp n h10
    · rw [if_neg h10]
      intro c hc
      rcases List.mem_append.1 hc with hc | hc
      · exact dcF_plain f (n / 10) (by rw [Nat.pow_succ] at h; omega) c hc
      · rw [List.mem_singleton] at hc
        subst hc
        exact chr_sp _ (by omega)
theorem dcL_plain (n : Nat) (h : n ≤ 1048576) : plainW (dcL n) := dcF_plain 15 n (Nat.lt_of_le_of_lt h (by decide))
theorem wd_word (A R : Bs) (h : plainW A) : wd (A ++ 32 :: R) = A ∧ rs (A ++ 32 :: R) = R := by
  induction A with
  | nil => exact ⟨rfl, rfl⟩
  | cons c A ih =>
    have hc : c ≠ 32 := h c (by simp)
    have := ih (fun x hx => h x (by simp [hx]))
    rw [List.cons_append, wd, rs, if_neg hc, if_neg hc, this.1, this.2]
    exact ⟨rfl, rfl⟩
theorem wd_all (A : Bs) (h : plainW A) : wd A = A ∧ rs A = [] := by
  induction A with
  | nil => exact ⟨rfl, rfl⟩
  | cons c A ih =>
    have hc : c ≠ 32 := h c (by simp)
    have := ih (fun x hx => h x (by simp [hx]))
    rw [wd, rs, if_neg hc, if_neg hc, this.1, this.2]
    exact ⟨rfl, rfl⟩
theorem sp_one (A : Bs) (h : plainW A) : sp32 A = [A] := by
  induction A with
  | nil => rfl
  | cons c A ih =>
    have hc : c ≠ 32 := h c (by simp)
    rw [sp32, if_neg hc, ih (fun x hx => h x (by simp [hx]))]
    rfl
theorem sp_more (A R : Bs) (h : plainW A) : sp32 (A ++ 32 :: R) = A :: sp32 R := by
  induction A with
  | nil => rw [List.nil_append, sp32, if_pos rfl]
  | cons c A ih =>
    have hc : c ≠ 32 := h c (by simp)
    rw [List.cons_append, sp32, if_neg hc, ih (fun x hx => h x (by simp [hx]))]
    rfl
theorem nbs_one (n : Nat) (h : n ≤ 1048576) : nbs 1 (dcL n) = some [n] := by
  unfold nbs
  rw [sp_one _ (dcL_plain n h), if_pos (by rfl)]
  simp only [nums, nmb_dc n h]
theorem nbs_three (a b c : Nat) (ha : a ≤ 1048576) (hb : b ≤ 1048576) (hc : c ≤ 1048576) : nbs 3 (dcL a ++ 32 :: (dcL b ++ 32 :: dcL c)) = some [a, b, c] := by
  unfold nbs
  rw [sp_more _ _ (dcL_plain a ha), sp_more _ _ (dcL_plain b hb), sp_one _ (dcL_plain c hc), if_pos (by rfl)]
  simp only [nums, nmb_dc a ha, nmb_dc b hb, nmb_dc c hc]
end Go.Proofs.YtddoghjopihkpaaDoor
