/- Trees: token.Quote. Printed by gen_treu.py. Trees: a builder's writers, which leave nodes alone; WriteByte, deferred. -/
import Derived.Test.YtjklbbmgjjdalaaGreatDoorBqJ
import Derived.Lib.Replace
import Derived.Lib.ReplaceLaws
import Derived.Test.YtjklbbmgjjdalaaGreatDoorBqI
import Derived.Test.YtjklbbmgjjdalaaGreatDoorBqB
import Derived.Defers
set_option linter.unusedSimpArgs false
set_option linter.unusedVariables false
namespace Go.Proofs.YtjklbbmgjjdalaaGreatDoor
open Go.RowKit
theorem rk_other (new : List UInt8) (b : UInt8) (hb : b ≠ 34) (l : List UInt8) : ∀ k, Lib.replaceK [34] new k (b :: l) = b :: Lib.replaceK [34] new k l := by
  intro k
  cases k with
  | zero => rfl
  | succ k =>
    have hp : List.isPrefixOf [(34 : UInt8)] (b :: l) = false := by
      simp [List.isPrefixOf]
      intro e
      exact hb e.symm
    have hi : Lib.index (b :: l) [34] = if Lib.index l [34] == -1 then -1 else Lib.index l [34] + 1 := by
      conv => lhs; unfold Lib.index
      rw [hp]
      rfl
    have hge := Lib.index_ge l [34]
    by_cases h : (Lib.index l [34] == -1) = true
    · rw [Lib.replaceK, Lib.replaceK, hi, if_pos h, if_pos h]
      rfl
    · have h2 : ¬ ((Lib.index l [34] + 1) == -1) = true := by
        intro e
        have := beq_iff_eq.1 e
        omega
      rw [Lib.replaceK, Lib.replaceK, hi, if_neg h, if_neg h2, if_neg h]
      obtain ⟨n, hn⟩ : ∃ n : Nat, Lib.index l [34] = (n : Int) := by
        have : Lib.index l [34] ≠ -1 := fun e => h (by rw [e]; rfl)
        exact ⟨(Lib.index l [34]).toNat, by omega⟩
      rw [hn, show ((n : Int) + 1).toNat = n + 1 by omega, show ((n : Int)).toNat = n by omega]
      simp
theorem rk_hit (new : List UInt8) (l : List UInt8) (k : Nat) : Lib.replaceK [34] new (k + 1) (34 :: l) = new ++ Lib.replaceK [34] new k l := by
  have hi : Lib.index (34 :: l) [34] = ((0 : Nat) : Int) := by unfold Lib.index; simp [List.isPrefixOf]
  rw [Lib.replaceK_hit [34] new k (34 :: l) 0 hi]
  simp
theorem rk_dblT : ∀ l : List UInt8, Lib.replaceK [34] [34, 34] (l.count 34) l = dblT l
  | [] => rfl
  | c :: r => by
    by_cases h : c = 34
    · subst h
      rw [List.count_cons_self, rk_hit, rk_dblT r]
      simp [dblT]
    · rw [List.count_cons_of_ne h, rk_other _ c h, rk_dblT r]
      simp [dblT, h]
theorem replaceAll_dblT (l : List UInt8) : Lib.replaceAll l [34] [34, 34] = dblT l := by
  unfold Lib.replaceAll Lib.replace Lib.replaceNum
  rw [if_neg (by decide), if_pos (.inl (by omega)), Lib.count_one]
  exact rk_dblT l
theorem countB_one (s : ByteArray) : Lib.countB s ⟨#[34]⟩ ≤ s.size := by
  have := Lib.countB_mul_le ⟨#[34]⟩ (by decide) s.size s (Nat.le_refl _)
  have e : (⟨#[34]⟩ : ByteArray).size = 1 := rfl
  rw [e, Nat.mul_one] at this
  exact this
set_option maxRecDepth 100000 in
set_option maxHeartbeats 1000000 in
theorem quote_any (s : ByteArray) (hs : s.size ≤ 1100000) (w : World) (hsh : w.ShapedOpen Tryz.prog) :
    Calls Tryz.prog 99 #[.string s] w fun e w' => e = .returned (.string ⟨(quoT s.data.toList).toArray⟩) ∧ Below w.heap.size w w' := by
  have hc := countB_one s
  have HC := Lib.hid (Tryz.strings_ReplaceAll_shaped s ⟨#[34]⟩ ⟨#[34, 34]⟩ w hsh (by omega) (by decide) (by have e : (⟨#[34, 34]⟩ : ByteArray).size = 2 := rfl; rw [e]; omega))
  have e1 : Lib.replaceAll s.data.toList (⟨#[34]⟩ : ByteArray).data.toList (⟨#[34, 34]⟩ : ByteArray).data.toList = dblT s.data.toList := replaceAll_dblT _
  rw [e1] at HC
  have hl : (dblT s.data.toList).length ≤ 2200000 := by have := dblT_len s.data.toList; rw [← Lib.size_eq] at this; omega
  obtain ⟨D, hD⟩ : ∃ D, dblT s.data.toList = D := ⟨_, rfl⟩
  rw [hD] at HC hl
  have HD : Hid (quoT s.data.toList = 34 :: (D ++ [34])) := by unfold Hid quoT; rw [hD]
  have hz1 : (⟨D.toArray⟩ : ByteArray).size ≤ 2200000 := by rw [Lib.size_eq]; exact hl
  have hz2 : (⟨#[34]⟩ : ByteArray).size = 1 := rfl
  have HX : Hid ((⟨#[34]⟩ : ByteArray) ++ ⟨D.toArray⟩ ++ ⟨#[34]⟩ = ⟨(34 :: (D ++ [34])).toArray⟩) := by
    unfold Hid
    rw [show (⟨#[34]⟩ : ByteArray) = ⟨[34].toArray⟩ from rfl, cat2, cat2]
    rfl
  have hz3 : ((⟨#[34]⟩ : ByteArray) ++ ⟨D.toArray⟩).size ≤ 2200001 := by
    rw [show (⟨#[34]⟩ : ByteArray) = ⟨[34].toArray⟩ from rfl, cat2, Lib.size_eq]
    simp
    omega
  clear hc e1 hD hsh
  go_enter Tryz.func99, Tryz.ntmps99
  go_wp2_with fail
  refine HC.out.mono ?_
  rintro e w1 ⟨rfl, hb⟩
  go_wp2_with fail
  go_ret
  exact ⟨by rw [HD.out, ← HX.out]; rfl, hb⟩
end Go.Proofs.YtjklbbmgjjdalaaGreatDoor
namespace Go.Proofs.YtjklbbmgjjdalaaGreatDoor
open Go.RowKit Go.Joins
theorem BuilderAt_below {T e : TypeId} {B b : Nat} {p : Value} {bs : List Value} {w w' : World} (h : Lib.BuilderAt T e B b p bs w) (hb : Below w.heap.size w w') : Lib.BuilderAt T e B b p bs w' := by
  have hlt := h.lt
  obtain ⟨h1, v, h2, h3, h4⟩ := h
  exact ⟨h1, v, (hb.block b hlt).trans h2, row_below h3 hb, h4⟩
theorem IsBuilder_below {T e : TypeId} {B b : Nat} {bs : List Value} {w w' : World} (h : Lib.IsBuilder T e B b bs w) (hb : Below w.heap.size w w') : Lib.IsBuilder T e B b bs w' := by
  rcases h with h | h
  · exact .inl (BuilderAt_below h hb)
  · exact .inr (BuilderAt_below h hb)
end Go.Proofs.YtjklbbmgjjdalaaGreatDoor
