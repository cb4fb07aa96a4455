/- Plain law: what the program's Parse reads, and what the document's reads. -/
import Derived.Test.YtaocbebgdbeffaaDoorGauP
set_option linter.unusedSimpArgs false
set_option linter.unusedVariables false
namespace Go.Proofs.YtaocbebgdbeffaaDoor
open Go.RowKit

theorem chr_toNat {d : Nat} (h : d < 10) : (chr d).toNat = 48 + d := by
  unfold chr
  simp
  omega
theorem chr_of {c : UInt8} (h1 : 48 ≤ c.toNat) (h2 : c.toNat ≤ 57) : chr (c.toNat - 48) = c := by
  unfold chr
  rw [show 48 + (c.toNat - 48) = c.toNat from by omega]
  simp
theorem nm_app : ∀ (X Y : List UInt8) (n : Nat), nmF (X ++ Y) n = (nmF X n).bind (nmF Y)
  | [], Y, n => rfl
  | c :: X, Y, n => by
    rw [List.cons_append, nmF, nmF]
    split
    · exact nm_app X Y _
    · rfl
theorem nm_grow : ∀ (R : List UInt8) (n v : Nat), 1 ≤ n → n ≤ 10485769 → nmF R n = some v → dcL v = dcL n ++ R ∧ v ≤ 10485769
  | [], n, v, h1, h2, h => by
    simp only [nmF, Option.some.injEq] at h
    subst h
    simp [h2]
  | c :: r, n, v, h1, h2, h => by
    rw [nmF] at h
    split at h
    · rename_i hc
      have := nm_grow r (10 * n + (c.toNat - 48)) v (by omega) (by omega) h
      refine ⟨?_, this.2⟩
      rw [this.1, dcL_step (n := 10 * n + (c.toNat - 48)) (by omega) (by omega), show (10 * n + (c.toNat - 48)) / 10 = n from by omega, show (10 * n + (c.toNat - 48)) % 10 = c.toNat - 48 from by omega, chr_of hc.1 hc.2.1]
      simp
    · cases h
theorem dcL_ne (n : Nat) : dcL n ≠ [] := by
  unfold dcL
  rw [dcF]
  split <;> simp
theorem dcL_dig : ∀ (n : Nat), n ≤ 100000000 → ∀ c ∈ dcL n, 48 ≤ c.toNat ∧ c.toNat ≤ 57 := by
  intro n
  induction n using Nat.strongRecOn with
  | _ n ih =>
    intro hn c hc
    by_cases h : n < 10
    · rw [dcL_small h] at hc
      simp only [List.mem_singleton] at hc
      subst hc
      rw [chr_toNat h]
      omega
    · rw [dcL_step h (by omega)] at hc
      simp only [List.mem_append, List.mem_singleton] at hc
      rcases hc with hc | rfl
      · exact ih (n / 10) (by omega) (by omega) c hc
      · rw [chr_toNat (by omega)]
        omega
theorem dcL_head : ∀ (n : Nat), 1 ≤ n → n ≤ 100000000 → ∃ c r, dcL n = c :: r ∧ c.toNat ≠ 48 := by
  intro n
  induction n using Nat.strongRecOn with
  | _ n ih =>
    intro h1 hn
    by_cases h : n < 10
    · exact ⟨chr n, [], dcL_small h, by rw [chr_toNat h]; omega⟩
    · obtain ⟨c, r, hc, h48⟩ := ih (n / 10) (by omega) (by omega) (by omega)
      exact ⟨c, r ++ [chr (n % 10)], by rw [dcL_step h (by omega), hc]; rfl, h48⟩
theorem nm_dcL : ∀ (n : Nat), n ≤ 1048576 → nmF (dcL n) 0 = some n := by
  intro n
  induction n using Nat.strongRecOn with
  | _ n ih =>
    intro hn
    by_cases h : n < 10
    · rw [dcL_small h, nmF, chr_toNat h, if_pos (by omega), nmF]
      congr 1
      omega
    · rw [dcL_step h (by omega), nm_app, ih (n / 10) (by omega) (by omega)]
      show nmF [chr (n % 10)] (n / 10) = some n
      rw [nmF, chr_toNat (by omega), if_pos (by omega), nmF]
      congr 1
      omega
theorem dcL_7 {n : Nat} (h : n ≤ 1048576) : (dcL n).length ≤ 7 := by
  have e : dcL n = dcF 6 n := dcF_any 15 6 n (by omega) (by omega)
  rw [e]
  exact dcF_len 6 n

/-! number -/
theorem pre_minus (L : List UInt8) : (Lib.hasPrefix L [45] = true ∧ ∃ r, L = 45 :: r ∧ Lib.trimPrefix L [45] = r) ∨ (Lib.hasPrefix L [45] = false ∧ Lib.trimPrefix L [45] = L) := by
  cases L with
  | nil => exact .inr ⟨rfl, rfl⟩
  | cons c r =>
    by_cases h : c = 45
    · subst h
      exact .inl ⟨by simp [Lib.hasPrefix], r, rfl, by simp [Lib.trimPrefix, Lib.hasPrefix]⟩
    · have hf : Lib.hasPrefix (c :: r) [45] = false := by
        cases hx : Lib.hasPrefix (c :: r) [45] with
        | false => rfl
        | true =>
          exfalso
          simp [Lib.hasPrefix] at hx
          first | exact h hx | exact h hx.symm
      exact .inr ⟨hf, by unfold Lib.trimPrefix; rw [hf]; rfl⟩
theorem canon {R : List UInt8} {n : Nat} (h : nmF R 0 = some n) (hR : R ≠ []) (hM : n ≤ 1048576) (h48 : ¬ (1 < R.length ∧ byt R 0 = 48)) : dcL n = R := by
  cases R with
  | nil => exact absurd rfl hR
  | cons c r =>
    rw [nmF] at h
    split at h
    · rename_i hc
      have hb : byt (c :: r) 0 = c.toNat := rfl
      rw [hb] at h48
      by_cases h0 : c.toNat = 48
      · have hr : r = [] := by
          cases r with
          | nil => rfl
          | cons a b => exact absurd ⟨by simp, h0⟩ h48
        subst hr
        simp only [nmF, Option.some.injEq] at h
        have hn : n = c.toNat - 48 := by omega
        rw [hn, dcL_small (by omega), chr_of hc.1 hc.2.1]
      · have := (nm_grow r (10 * 0 + (c.toNat - 48)) n (by omega) (by omega) h).1
        rw [this, dcL_small (by omega), show 10 * 0 + (c.toNat - 48) = c.toNat - 48 from by omega, chr_of hc.1 hc.2.1]
        rfl
    · cases h
theorem nbOk_yes {L : List UInt8} (h : nbOk L = true) : sgL (nbV L) = L ∧ -1048576 ≤ nbV L ∧ nbV L ≤ 1048576 := by
  have hv := h
  unfold nbV
  rw [if_pos h]
  unfold nbOk at hv
  cases hn : nmF (Lib.trimPrefix L [45]) 0 with
  | none => rw [hn] at hv; cases hv
  | some n =>
    rw [hn] at hv
    simp only [Bool.and_eq_true, Bool.not_eq_true', decide_eq_true_eq, Bool.and_eq_false_iff, decide_eq_false_iff_not, List.isEmpty_eq_false_iff] at hv
    obtain ⟨hR, hM, h48, h0⟩ := hv
    have hc := canon hn hR hM (fun ⟨a, b⟩ => by rcases h48 with h | h <;> contradiction)
    rcases pre_minus L with ⟨hp, r, rfl, ht⟩ | ⟨hp, ht⟩
    · rw [ht] at hc
      rw [if_pos hp]
      have hn0 : n ≠ 0 := by
        rcases h0 with h | h
        · rw [hp] at h; cases h
        · exact h
      simp only [Option.getD_some]
      refine ⟨?_, by omega, by omega⟩
      unfold sgL
      rw [if_pos (by omega), show (-(n : Int)).natAbs = n from by omega, hc]
      rfl
    · rw [ht] at hc
      rw [hp]
      simp only [Option.getD_some, Bool.false_eq_true, if_false]
      refine ⟨?_, by omega, by omega⟩
      unfold sgL
      rw [if_neg (by omega), show ((n : Int)).natAbs = n from by omega, hc]
      rfl
theorem nbOk_no {L : List UInt8} (h : nbOk L = false) : nbV L = 0 := by
  unfold nbV
  rw [h]
  rfl
theorem dcL_first48 {n : Nat} (h : n ≤ 1048576) : ¬ (1 < (dcL n).length ∧ byt (dcL n) 0 = 48) := by
  rintro ⟨h1, h2⟩
  by_cases hn : n < 10
  · rw [dcL_small hn] at h1
    simp at h1
  · obtain ⟨c, r, hc, h48⟩ := dcL_head n (by omega) (by omega)
    rw [hc] at h2
    exact h48 h2
theorem nb_sgL {a : Int} (h1 : -1048576 ≤ a) (h2 : a ≤ 1048576) : nbOk (sgL a) = true ∧ nbV (sgL a) = a := by
  have hn := nm_dcL a.natAbs (by omega)
  have hf := dcL_first48 (n := a.natAbs) (by omega)
  have hne := dcL_ne a.natAbs
  by_cases hneg : a < 0
  · have e : sgL a = 45 :: dcL a.natAbs := by unfold sgL; rw [if_pos hneg]; rfl
    have hp : Lib.hasPrefix (sgL a) [45] = true := by rw [e]; simp [Lib.hasPrefix]
    have ht : Lib.trimPrefix (sgL a) [45] = dcL a.natAbs := by rw [e]; simp [Lib.trimPrefix, Lib.hasPrefix]
    have hok : nbOk (sgL a) = true := by
      unfold nbOk
      rw [ht, hn, hp]
      simp only [Bool.and_eq_true, Bool.not_eq_true', decide_eq_true_eq, Bool.and_eq_false_iff, decide_eq_false_iff_not, List.isEmpty_eq_false_iff]
      exact ⟨hne, by omega, by
        by_cases h : 1 < (dcL a.natAbs).length
        · exact .inr fun h' => hf ⟨h, h'⟩
        · exact .inl h, .inr (by omega)⟩
    refine ⟨hok, ?_⟩
    unfold nbV
    rw [if_pos hok, if_pos hp, ht, hn]
    simp only [Option.getD_some]
    omega
  · have e : sgL a = dcL a.natAbs := by unfold sgL; rw [if_neg hneg]; rfl
    have hd := dcL_dig a.natAbs (by omega)
    have hnp : Lib.hasPrefix (sgL a) [45] = false ∧ Lib.trimPrefix (sgL a) [45] = sgL a := by
      rcases pre_minus (sgL a) with ⟨_, r, hr, _⟩ | h
      · rw [e] at hr
        have := hd 45 (by rw [hr]; simp)
        exact absurd this.1 (by decide)
      · exact h
    have hok : nbOk (sgL a) = true := by
      unfold nbOk
      rw [hnp.2, hnp.1, e, hn]
      simp only [Bool.and_eq_true, Bool.not_eq_true', decide_eq_true_eq, Bool.and_eq_false_iff, decide_eq_false_iff_not, List.isEmpty_eq_false_iff]
      exact ⟨hne, by omega, by
        by_cases h : 1 < (dcL a.natAbs).length
        · exact .inr fun h' => hf ⟨h, h'⟩
        · exact .inl h, by simp⟩
    refine ⟨hok, ?_⟩
    unfold nbV
    rw [if_pos hok, hnp.1, hnp.2, e, hn]
    simp only [Option.getD_some, Bool.false_eq_true, if_false]
    omega
end Go.Proofs.YtaocbebgdbeffaaDoor
