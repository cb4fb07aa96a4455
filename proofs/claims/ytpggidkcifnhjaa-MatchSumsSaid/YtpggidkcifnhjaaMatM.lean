/- Conditions: the document's Is: numbers; patterns that are the same or not. -/
import Derived.Test.YtpggidkcifnhjaaMatL
set_option linter.unusedSimpArgs false
set_option linter.unusedVariables false
namespace Go.Proofs.Ytpggidkcifnhjaa
open Go.RowKit

theorem cmpB_is : ∀ (a b : List UInt8), Lib.compareBytes a b = if Op.bytesLess a b = true then -1 else if a = b then 0 else 1
  | [], [] => by simp [Lib.compareBytes, Op.bytesLess]
  | [], _ :: _ => by simp [Lib.compareBytes, Op.bytesLess]
  | _ :: _, [] => by simp [Lib.compareBytes, Op.bytesLess]
  | x :: a, y :: b => by
    have ih := cmpB_is a b
    simp only [Lib.compareBytes, Op.bytesLess, ih]
    by_cases h : x < y
    · simp [h]
    · by_cases h' : y < x
      · have hne : x ≠ y := fun e => by subst e; exact h h'
        simp [h, h', hne]
      · have hxy : x = y := UInt8.le_antisymm (UInt8.not_lt.1 h') (UInt8.not_lt.1 h)
        subst hxy
        simp

set_option maxRecDepth 100000 in
set_option maxHeartbeats 8000000 in
theorem ris_num (q : Nat) (hq : q < 6) (num : Int) (L0 : List Sg) (p : Option Addr) (cap ln : Nat) (k n : Int) (t : ByteArray) (hk : k = 0 ∨ k = 1 ∨ k = 2 ∨ k = 3) (ht : t.size ≤ 900) (w : World) :
    Calls Try.prog 8 #[.agg #[.string (sgB q), .bool true, .int .i64 num, .slice p ln cap], .agg #[.int .i64 k, .int .i64 n, .string t]] w fun e w' => e = .returned (.bool (isB q true num L0 k n t)) ∧ Below w.heap.size w w' := by
  have HN := Lib.hid (fun W => Val.refNumber_any k n t hk ht W)
  have HV : Hid (isB q true num L0 k n t = if q = 5 ∨ q = 0 then ((numB k t && decide (Val.numV k n t = num)) == decide (q = 5)) else numB k t && soB q (decide (Val.numV k n t < num)) (decide (num < Val.numV k n t))) := by
    unfold Hid isB
    rw [if_pos rfl]
  obtain ⟨r, hr⟩ : ∃ r, isB q true num L0 k n t = r := ⟨_, rfl⟩
  rw [hr] at HV ⊢
  obtain ⟨d, hd⟩ : ∃ d, Val.numV k n t = d := ⟨_, rfl⟩
  rw [hd] at HV HN
  have HNB : Hid (numB k t = (decide (k = 1) || (decide (k = 2) && decide (Val.numK k t = 0)))) := by
    unfold Hid numB Val.numK
    rcases hk with rfl | rfl | rfl | rfl
    · rfl
    · rfl
    · cases prsOk t.data.toList <;> rfl
    · rfl
  obtain ⟨kk, hkk⟩ : ∃ kk, Val.numK k t = kk := ⟨_, rfl⟩
  rw [hkk] at HN HNB
  obtain ⟨mm, hmm⟩ : ∃ mm, Val.numM k n = mm := ⟨_, rfl⟩
  rw [hmm] at HN
  obtain ⟨tt, htt⟩ : ∃ tt, Val.numT k t = tt := ⟨_, rfl⟩
  rw [htt] at HN
  rw [HNB.out] at HV
  have hcase : k = 0 ∨ k = 3 ∨ k = 1 ∨ (k = 2 ∧ kk = 0) ∨ (k = 2 ∧ kk ≠ 0) := by omega
  have HS := Lib.hid (fun a b W => so_any q hq a b W)
  clear hr hd hkk hmm htt ht hk HNB
  by_cases hqo : q = 5 ∨ q = 0
  · have HV2 : Hid (r = (((decide (k = 1) || (decide (k = 2) && decide (kk = 0))) && decide (d = num)) == decide (q = 5))) := by
      have := HV.out
      rw [if_pos hqo] at this
      exact this
    clear HV HS
    by_cases hdn : d = num
    · have hdb : (d == num) = true := by simp [hdn]
      rcases hcase with rfl | rfl | rfl | ⟨rfl, hk0⟩ | ⟨rfl, hk0⟩
      all_goals
        rcases hqo with rfl | rfl
        all_goals
          have hV := HV2.out
          simp [hdn] at hV
          try simp [hk0] at hV
          subst hV
          try (have hkb : (kk == 0) = true := by simp [hk0])
          try (have hkb : (kk == 0) = false := by simp [hk0])
          try clear hk0
          simp only [sgB]
          go_enter Try.func8, Try.ntmps8
          go_wp2_with fail
          refine (HN.out _).mono ?_
          rintro e w1 ⟨rfl, hb1⟩
          obtain ⟨hc1, hf1, hz1⟩ := bcell hb1 (by first | (simp only [World.size_alloc, World.size_setCell, World.size_drew]; rfl) | rfl)
          go_wp2_with fail
          go_ret
          exact ⟨by first | rfl | simp, by (repeat' (first | (with_reducible exact Below.refl _ _) | (with_reducible assumption) | (with_reducible refine Below.alloc ?_ ?_ _) | (with_reducible refine bel_drewN ?_ _) | (with_reducible refine Below.drew ?_) | (with_reducible refine Below.setCell ?_ ?_ _) | (with_reducible refine bel_call ‹_› ?_ ?_) | go_size))⟩
    · have hdb : (d == num) = false := by simp [hdn]
      rcases hcase with rfl | rfl | rfl | ⟨rfl, hk0⟩ | ⟨rfl, hk0⟩
      all_goals
        rcases hqo with rfl | rfl
        all_goals
          have hV := HV2.out
          simp [hdn] at hV
          try simp [hk0] at hV
          subst hV
          try (have hkb : (kk == 0) = true := by simp [hk0])
          try (have hkb : (kk == 0) = false := by simp [hk0])
          try clear hk0
          simp only [sgB]
          go_enter Try.func8, Try.ntmps8
          go_wp2_with fail
          refine (HN.out _).mono ?_
          rintro e w1 ⟨rfl, hb1⟩
          obtain ⟨hc1, hf1, hz1⟩ := bcell hb1 (by first | (simp only [World.size_alloc, World.size_setCell, World.size_drew]; rfl) | rfl)
          go_wp2_with fail
          go_ret
          exact ⟨by first | rfl | simp, by (repeat' (first | (with_reducible exact Below.refl _ _) | (with_reducible assumption) | (with_reducible refine Below.alloc ?_ ?_ _) | (with_reducible refine bel_drewN ?_ _) | (with_reducible refine Below.drew ?_) | (with_reducible refine Below.setCell ?_ ?_ _) | (with_reducible refine bel_call ‹_› ?_ ?_) | go_size))⟩
  · have HV2 : Hid (r = ((decide (k = 1) || (decide (k = 2) && decide (kk = 0))) && soB q (decide (d < num)) (decide (num < d)))) := by
      have := HV.out
      rw [if_neg hqo] at this
      exact this
    obtain ⟨hs1, hs2⟩ := sg_order q hq hqo
    obtain ⟨sg, hsgb⟩ : ∃ sg, sgB q = sg := ⟨_, rfl⟩
    rw [hsgb] at hs1 hs2 HS ⊢
    have HSS := Lib.hid (fun W => HS.out (decide (d < num)) (decide (num < d)) W)
    obtain ⟨o, ho⟩ : ∃ o, soB q (decide (d < num)) (decide (num < d)) = o := ⟨_, rfl⟩
    rw [ho] at HSS HV2
    clear HV HS hqo hsgb ho
    rcases hcase with rfl | rfl | rfl | ⟨rfl, hk0⟩ | ⟨rfl, hk0⟩
    all_goals
      have hV := HV2.out
      simp at hV
      try simp [hk0] at hV
      subst hV
      try (have hkb : (kk == 0) = true := by simp [hk0])
      try (have hkb : (kk == 0) = false := by simp [hk0])
      try clear hk0
      go_enter Try.func8, Try.ntmps8
      go_wp2_with fail
      refine (HN.out _).mono ?_
      rintro e w1 ⟨rfl, hb1⟩
      obtain ⟨hc1, hf1, hz1⟩ := bcell hb1 (by first | (simp only [World.size_alloc, World.size_setCell, World.size_drew]; rfl) | rfl)
      go_wp2_with fail
      try (refine (HSS.out _).mono ?_; rintro e w2 ⟨rfl, rfl⟩; go_wp2_with fail)
      go_ret
      exact ⟨rfl, by (repeat' (first | (with_reducible exact Below.refl _ _) | (with_reducible assumption) | (with_reducible refine Below.alloc ?_ ?_ _) | (with_reducible refine bel_drewN ?_ _) | (with_reducible refine Below.drew ?_) | (with_reducible refine Below.setCell ?_ ?_ _) | (with_reducible refine bel_call ‹_› ?_ ?_) | go_size))⟩
end Go.Proofs.Ytpggidkcifnhjaa
