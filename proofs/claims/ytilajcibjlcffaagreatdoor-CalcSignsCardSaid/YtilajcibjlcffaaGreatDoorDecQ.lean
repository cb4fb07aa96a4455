/- Text of the document's answer: the plain part. -/
import Derived.Test.YtilajcibjlcffaaGreatDoorDecP
set_option linter.unusedSimpArgs false
set_option linter.unusedVariables false

namespace Go.Proofs.YtilajcibjlcffaaGreatDoor
open Go.RowKit

theorem trim_split (L : List UInt8) (c : UInt8) : ∃ g, L = Lib.trimRightB L c ++ List.replicate g c := by
  refine ⟨(L.reverse.takeWhile (· == c)).length, ?_⟩
  have h1 : L.reverse.takeWhile (· == c) = List.replicate (L.reverse.takeWhile (· == c)).length c := by
    refine List.eq_replicate_iff.2 ⟨rfl, fun b hb => ?_⟩
    have := List.all_takeWhile (p := (· == c)) (l := L.reverse)
    rw [List.all_eq_true] at this
    simpa using this b hb
  have h2 := List.takeWhile_append_dropWhile (p := (· == c)) (l := L.reverse)
  have h3 := congrArg List.reverse h2
  rw [List.reverse_append, List.reverse_reverse, h1, List.reverse_replicate] at h3
  unfold Lib.trimRightB
  exact h3.symm
theorem trim_last (L : List UInt8) (c : UInt8) (h : ∃ x ∈ L, x ≠ c) : ∃ C y, Lib.trimRightB L c = C ++ [y] ∧ y ≠ c := by
  unfold Lib.trimRightB
  cases hd : L.reverse.dropWhile (· == c) with
  | nil =>
    obtain ⟨x, hx, hne⟩ := h
    have h2 := List.takeWhile_append_dropWhile (p := (· == c)) (l := L.reverse)
    rw [hd, List.append_nil] at h2
    have h3 := List.all_takeWhile (p := (· == c)) (l := L.reverse)
    rw [h2, List.all_eq_true] at h3
    exact absurd (by simpa using h3 x (List.mem_reverse.2 hx)) hne
  | cons y r =>
    refine ⟨r.reverse, y, by simp, ?_⟩
    have h2 := List.head?_dropWhile_not (· == c) L.reverse
    rw [hd] at h2
    simpa using h2
theorem digs_some {n : Nat} (h : n ≠ 0) : ∃ d ∈ digs n, d ≠ 0 := by
  rcases List.eq_nil_or_concat (digs n) with h1 | ⟨l, d, h1⟩
  · exact absurd (digs_nil.1 h1) h
  · refine ⟨d, by rw [h1]; simp, ?_⟩
    intro e
    have := digs_last n
    rw [h1, e] at this
    simp at this
theorem dgText_some {n least : Nat} (h : n ≠ 0) : ∃ x ∈ dgText n least, x ≠ 48 := by
  obtain ⟨d, hd, h0⟩ := digs_some h
  have h10 := digs_lt n d hd
  refine ⟨UInt8.ofNat (48 + d), ?_, ?_⟩
  · unfold dgText lettersOf padL
    exact List.mem_map.2 ⟨d, List.mem_reverse.2 (List.mem_append.2 (.inl hd)), rfl⟩
  · intro e
    have := congrArg UInt8.toNat e
    simp at this
    omega
end Go.Proofs.YtilajcibjlcffaaGreatDoor
