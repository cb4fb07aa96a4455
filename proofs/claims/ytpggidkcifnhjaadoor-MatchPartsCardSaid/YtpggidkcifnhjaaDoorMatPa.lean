/- Conditions: the plain law of MatchParts. -/
import Derived.Test.YtpggidkcifnhjaaDoorMatQ
import Derived.Test.YtpggidkcifnhjaaDoorDecU
set_option linter.unusedSimpArgs false
set_option linter.unusedVariables false

namespace Go.Proofs.YtpggidkcifnhjaaDoor
open Go.RowKit

theorem prC_eq (L : List UInt8) : prC (61 :: L) = (5, L) := by
  unfold prC
  simp [Lib.hasPrefix, Lib.trimPrefix, List.isPrefixOf]
theorem prC_ne (L : List UInt8) : prC (60 :: 62 :: L) = (0, L) := by
  unfold prC
  simp [Lib.hasPrefix, Lib.trimPrefix, List.isPrefixOf]
theorem prC_less (c : UInt8) (L : List UInt8) (h1 : c ≠ 61) (h2 : c ≠ 62) : prC (60 :: c :: L) = (3, c :: L) := by
  unfold prC
  simp [Lib.hasPrefix, Lib.trimPrefix, List.isPrefixOf, h1.symm, h2.symm]
theorem prC_more (c : UInt8) (L : List UInt8) (h1 : c ≠ 61) : prC (62 :: c :: L) = (4, c :: L) := by
  unfold prC
  simp [Lib.hasPrefix, Lib.trimPrefix, List.isPrefixOf, h1.symm]
theorem dgText_digit (n least : Nat) : ∀ c ∈ dgText n least, 48 ≤ c.toNat ∧ c.toNat ≤ 57 := by
  intro c hc
  unfold dgText lettersOf padL at hc
  obtain ⟨d, hd, rfl⟩ := List.mem_map.1 hc
  have h10 : d < 10 := by
    rcases List.mem_append.1 (List.mem_reverse.1 hd) with h | h
    · exact digs_lt n d h
    · rw [(List.mem_replicate.1 h).2]; decide
  have : (UInt8.ofNat (48 + d)).toNat = 48 + d := by simp; omega
  omega
theorem dgText_neq (n : Nat) (least : Nat) (h : 0 < least) : dgText n least ≠ [] := by
  intro e
  have h2 : (dgText n least).length = 0 := by rw [e]; rfl
  unfold dgText lettersOf padL at h2
  simp only [List.length_map, List.length_reverse, List.length_append, List.length_replicate] at h2
  omega
theorem txt_head (d : Int) : ∃ c r, txt d = c :: r ∧ c ≠ 61 ∧ c ≠ 62 := by
  unfold txt
  by_cases h : d < 0
  · rw [if_pos h]
    exact ⟨45, _, rfl, by decide, by decide⟩
  · rw [if_neg h]
    have hn := dgText_neq (d.natAbs / 1000000) 1 (by decide)
    have hd := dgText_digit (d.natAbs / 1000000) 1
    cases hL : dgText (d.natAbs / 1000000) 1 with
    | nil => exact absurd hL hn
    | cons c r =>
      rw [hL] at hd
      have := hd c (by simp)
      exact ⟨c, _, rfl, fun e => by subst e; simp at this, fun e => by subst e; simp at this⟩
theorem parts_law (k x : Int) (t : ByteArray) (n : Int) : (if isB 3 true n [] k x t then 1 else 0) + (if isB 5 true n [] k x t then 1 else 0) + (if isB 4 true n [] k x t then 1 else 0) = if numB k t then (1 : Nat) else 0 := by
  unfold isB
  cases numB k t
  · simp [soB]
  · simp [soB]
    rcases Int.lt_trichotomy (Val.numV k x t) n with h | h | h
    · have h1 : ¬ Val.numV k x t = n := by omega
      have h2 : ¬ n < Val.numV k x t := by omega
      simp [h, h1, h2]
    · subst h; simp
    · have h1 : ¬ Val.numV k x t = n := by omega
      have h2 : ¬ Val.numV k x t < n := by omega
      simp [h, h1, h2]
theorem other_law (nb : Bool) (num : Int) (L : List Sg) (k x : Int) (t : ByteArray) : isB 0 nb num L k x t = !isB 5 nb num L k x t := by
  unfold isB
  cases nb <;> simp
end Go.Proofs.YtpggidkcifnhjaaDoor
