/- Contracts of quoted, in both texts. -/
import Derived.Test.YtipnedgmmpdpjaaDoorTokC
import Derived.Test.YtipnedgmmpdpjaaDoorTokW
import Derived.LoopTactic
set_option linter.unusedSimpArgs false
set_option linter.unusedVariables false
namespace Go.Proofs.YtipnedgmmpdpjaaDoor
open Go.RowKit

/-- Bytes ahead of what is read, and how many more. -/
def qm (p : List UInt8) (n : Nat) : Option (List UInt8 × Nat) → Option (List UInt8 × Nat)
  | none => none
  | some (t, m) => some (p ++ t, m + n)
theorem qm_qm (p q : List UInt8) (n m : Nat) (x : Option (List UInt8 × Nat)) : qm p n (qm q m x) = qm (p ++ q) (m + n) x := by
  cases x with
  | none => rfl
  | some x => obtain ⟨t, k⟩ := x; simp [qm]; omega
theorem qm_nil (x : Option (List UInt8 × Nat)) : qm [] 0 x = x := by
  cases x with
  | none => rfl
  | some x => rfl

theorem quo_end (L : List UInt8) (j : Nat) (h : L.length ≤ j) : quo (L.drop j) = none := by
  rw [List.drop_of_length_le h]
  rfl
theorem u8_eta (c : UInt8) : UInt8.ofNat c.toNat = c := by simp
theorem quo_other (L : List UInt8) (j : Nat) (h : j < L.length) (hc : nx L j ≠ 34) : quo (L.drop j) = qm [UInt8.ofNat (nx L j)] 1 (quo (L.drop (j + 1))) := by
  rw [nx_get h] at hc ⊢
  rw [u8_eta, List.drop_eq_getElem_cons h]
  cases hd : L.drop (j + 1) with
  | nil => simp [quo, hc, qm]
  | cons d r =>
    rw [quo]
    rw [if_neg hc]
    cases quo (d :: r) with
    | none => rfl
    | some x => obtain ⟨t, n⟩ := x; simp [qm]
theorem quo_close (L : List UInt8) (j : Nat) (hc : nx L j = 34) (h2 : nx L (j + 1) ≠ 34) : quo (L.drop j) = some ([], 1) := by
  have h := lt_of_nx (L := L) (i := j) (by omega)
  rw [nx_get h] at hc
  rw [List.drop_eq_getElem_cons h]
  rcases Nat.lt_or_ge (j + 1) L.length with h1 | h1
  · rw [nx_get h1] at h2
    rw [List.drop_eq_getElem_cons h1, quo]
    simp [hc, h2]
  · rw [List.drop_of_length_le h1, quo]
    simp [hc]
theorem quo_two (L : List UInt8) (j : Nat) (hc : nx L j = 34) (h2 : nx L (j + 1) = 34) : quo (L.drop j) = qm [UInt8.ofNat 34] 2 (quo (L.drop (j + 2))) := by
  have h := lt_of_nx (L := L) (i := j) (by omega)
  have h1 := lt_of_nx (L := L) (i := j + 1) (by omega)
  rw [nx_get h] at hc
  rw [nx_get h1] at h2
  rw [List.drop_eq_getElem_cons h, List.drop_eq_getElem_cons h1, quo]
  rw [if_pos hc, if_pos h2, ← u8_eta L[j], hc]
  cases quo (L.drop (j + 1 + 1)) with
  | none => rfl
  | some x => obtain ⟨t, n⟩ := x; simp [qm]
theorem bc_snoc (l : List UInt8) (c : Nat) (h : c < 256) : Lib.byteCells l ++ [.int .u8 (c : Int)] = Lib.byteCells (l ++ [UInt8.ofNat c]) := by
  simp [Lib.byteCells]
  omega
theorem bc_len (l : List UInt8) : (Lib.byteCells l).length = l.length := by simp [Lib.byteCells]

/-- What quoted hands back. -/
def RetQ (i : Nat) (R : Option (List UInt8 × Nat)) (W : World) (e : Ending) (w' : World) : Prop := Below W.heap.size W w' ∧ match R with
  | none => e = .returned (.tuple #[.string ⟨#[]⟩, .int .i64 0])
  | some (t, m) => e = .returned (.tuple #[.string ⟨t.toArray⟩, .int .i64 ((i + 1 + m : Nat) : Int)])
theorem retq_none {i : Nat} {R : Option (List UInt8 × Nat)} {W w' : World} (h : R = none) (hb : Below W.heap.size W w') : RetQ i R W (.returned (.tuple #[.string ⟨#[]⟩, .int .i64 0])) w' := by subst h; exact ⟨hb, rfl⟩
theorem retq_some {i m : Nat} {z : Int} {t : List UInt8} {R : Option (List UInt8 × Nat)} {W w' : World} (h : R = some (t, m)) (hz : z = ((i + 1 + m : Nat) : Int)) (hb : Below W.heap.size W w') : RetQ i R W (.returned (.tuple #[.string ⟨t.toArray⟩, .int .i64 z])) w' := by subst h hz; exact ⟨hb, rfl⟩
end Go.Proofs.YtipnedgmmpdpjaaDoor
