/- Contract of dec.Parse. -/
import Derived.Test.YteknbdodihfbeaaDoorDecB
import Derived.Deep.DeepCutAuto
set_option linter.unusedSimpArgs false
set_option linter.unusedVariables false

namespace Go.Proofs.YteknbdodihfbeaaDoor
open Go.RowKit

theorem shaped_below {P : Program} {w w' : World} (h : w.ShapedOpen P) (hb : Below w.heap.size w w') : w'.ShapedOpen P := h.keptBut (hb.frame (fun _ => False)) (fun _ h => h.elim)

/-- What Parse reads. -/
def prsMi (L : List UInt8) : Bool := Lib.hasPrefix L [45]
def prsA (L : List UInt8) : List UInt8 := (Lib.cut (Lib.trimPrefix L [45]) [46]).1
def prsB (L : List UInt8) : List UInt8 := if (Lib.cut (Lib.trimPrefix L [45]) [46]).2.2 then (Lib.cut (Lib.trimPrefix L [45]) [46]).2.1 else [48]
def prsN (L : List UInt8) : Nat := rdV (prsA L) * 1000000 + rdV (prsB L) * 10 ^ (6 - (prsB L).length)
def prsOk (L : List UInt8) : Bool := rdOk (prsA L) && (rdOk (prsB L) && (decide ((prsB L).length ≤ 6) && (decide (prsN L < U64) && inR (sv (prsMi L) (prsN L)))))
def prsV (L : List UInt8) : Int := if prsOk L then sv (prsMi L) (prsN L) else 0

theorem rd_lt : ∀ (L : List UInt8) (n v : Nat), rdFrom (some n) L = some v → v < (n + 1) * 10 ^ L.length
  | [], n, v, h => by
    have : some n = some v := h
    cases this
    simp
  | c :: L, n, v, h => by
    have h1 : rdFrom (rdStep (some n) c) L = some v := h
    simp only [rdStep] at h1
    split at h1
    · rename_i hc
      have ih := rd_lt L _ v h1
      refine Nat.lt_of_lt_of_le ih ?_
      rw [List.length_cons, Nat.pow_succ, Nat.mul_comm (10 ^ L.length), ← Nat.mul_assoc]
      exact Nat.mul_le_mul_right _ (by omega)
    · rw [rdFrom_none] at h1
      cases h1
theorem rdV_lt (L : List UInt8) : rdV L < 10 ^ L.length := by
  unfold rdV
  cases h : rdFrom (some 0) L with
  | none => exact Nat.pow_pos (by omega)
  | some v => simpa using rd_lt L 0 v h
theorem rdV_u64 (L : List UInt8) : rdV L < U64 := by
  have key : ∀ (L : List UInt8) (n v : Nat), n < U64 → rdFrom (some n) L = some v → v < U64 := by
    intro L
    induction L with
    | nil =>
      intro n v hn h
      have : some n = some v := h
      cases this
      exact hn
    | cons c L ih =>
      intro n v hn h
      have h1 : rdFrom (rdStep (some n) c) L = some v := h
      simp only [rdStep] at h1
      split at h1
      · rename_i hc
        exact ih _ v hc.2.2 h1
      · rw [rdFrom_none] at h1
        cases h1
  unfold rdV
  cases h : rdFrom (some 0) L with
  | none => unfold U64; simp
  | some v => exact key L 0 v (by unfold U64; omega) h
theorem cut_len1 (s sep : List UInt8) : (Lib.cut s sep).1.length ≤ s.length := by
  unfold Lib.cut
  split
  · simp; omega
  · exact Nat.le_refl _
theorem cut_len2 (s sep : List UInt8) : (Lib.cut s sep).2.1.length ≤ s.length := by
  unfold Lib.cut
  split
  · simp
  · simp
theorem trimPrefix_len (s p : List UInt8) : (Lib.trimPrefix s p).length ≤ s.length := by
  unfold Lib.trimPrefix
  split <;> simp

theorem unit_at (l u : Nat) (hl : l ≤ 6) (hu : u = 10 ^ (6 - l)) (w : World) : Calls Tryd.prog 40 #[.int .i64 l] w fun e w' => e = .returned (.int .u64 (u : Int)) ∧ w = w' := by
  have := unit_any (l : Int) w
  rw [show (6 - min (max (l : Int) 0) 6).toNat = 6 - l from by omega, ← hu] at this
  exact this
theorem unit_at0 (w : World) : Calls Tryd.prog 40 #[.int .i64 0] w fun e w' => e = .returned (.int .u64 1000000) ∧ w = w' := unit_at 0 1000000 (by omega) (by decide) w

theorem cutPrefix_any (s : ByteArray) (mi : Bool) (R : List UInt8) (h1 : Lib.hasPrefix s.data.toList [45] = mi) (h2 : Lib.trimPrefix s.data.toList [45] = R) (w : World) :
    Calls Tryd.prog 21 #[.string s, .string ⟨#[45]⟩] w fun e w' => e = .returned (.tuple #[.string ⟨R.toArray⟩, .bool mi]) ∧ w = w' := by
  subst h1 h2
  exact (Tryd.strings_CutPrefix s ⟨#[45]⟩ w).mono fun e w' ⟨h1, h2⟩ => ⟨h1, h2.symm⟩
theorem cut_point (R A B : List UInt8) (pt : Bool) (h : Lib.cut R [46] = (A, B, pt)) (hlen : R.length ≤ 1000000) (w : World) (hsh : w.ShapedOpen Tryd.prog) :
    Calls Tryd.prog 14 #[.string ⟨R.toArray⟩, .string ⟨#[46]⟩] w fun e w' => e = .returned (.tuple #[.string ⟨A.toArray⟩, .string ⟨B.toArray⟩, .bool pt]) ∧ Below w.heap.size w w' := by
  refine (Tryd.strings_Cut_shaped ⟨R.toArray⟩ ⟨#[46]⟩ w hsh (by rw [Lib.size_eq]; simp; omega)).mono fun e w' ⟨h1, n, h2⟩ => ?_
  have e1 : (⟨R.toArray⟩ : ByteArray).data.toList = R := by simp
  have e2 : (⟨#[46]⟩ : ByteArray).data.toList = [46] := rfl
  rw [e1, e2, h] at h1
  subst h2
  exact ⟨h1, bel_drewN (Below.refl _ _) _⟩

end Go.Proofs.YteknbdodihfbeaaDoor
