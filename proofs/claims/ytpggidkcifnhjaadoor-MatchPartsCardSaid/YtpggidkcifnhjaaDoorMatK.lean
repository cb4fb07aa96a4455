/- Conditions: the program's Is, its other ways. -/
import Derived.Test.YtpggidkcifnhjaaDoorMatJ
set_option linter.unusedSimpArgs false
set_option linter.unusedVariables false

namespace Go.Proofs.YtpggidkcifnhjaaDoor
open Go.RowKit

set_option maxRecDepth 100000 in
set_option maxHeartbeats 4000000 in
/-- A condition on numbers: the same, or not. -/
theorem is_numSame (q : Nat) (hq : q = 5 ∨ q = 0) (num : Int) (L : List Sg) (p : Option Addr) (cap ln : Nat) (k n : Int) (t : ByteArray) (hk : k = 0 ∨ k = 1 ∨ k = 2 ∨ k = 3) (ht : t.size ≤ 900) (w : World) (hsh : w.ShapedOpen Tryd.prog) :
    Calls Tryd.prog 8 #[.agg #[.string (sgB q), .bool true, .int .i64 num, .slice p ln cap], .agg #[.int .i64 k, .int .i64 n, .string t]] w fun e w' => e = .returned (.bool (isB q true num L k n t)) ∧ Below w.heap.size w w' := by
  have HN : Hid (∀ W, Below w.heap.size w W → Calls Tryd.prog 16 #[.agg #[.int .i64 k, .int .i64 n, .string t]] W fun e w' => e = .returned (.tuple #[.int .i64 (Val.numV k n t), .agg #[.int .i64 (Val.numK k t), .int .i64 (Val.numM k n), .string (Val.numT k t)]]) ∧ Below W.heap.size W w') := fun W hW => Val.number_any k n t hk ht W (shaped_below hsh hW)
  have HV : Hid (isB q true num L k n t = ((numB k t && decide (Val.numV k n t = num)) == decide (q = 5))) := by
    unfold Hid isB
    rw [if_pos rfl, if_pos hq]
  obtain ⟨r, hr⟩ : ∃ r, isB q true num L k n t = r := ⟨_, rfl⟩
  rw [hr] at HV ⊢
  obtain ⟨d, hd⟩ : ∃ d, Val.numV k n t = d := ⟨_, rfl⟩
  rw [hd] at HV HN
  have HNB : Hid (numB k t = (decide (k = 1) || (decide (k = 2) && decide (Val.numK k t = 0)))) := by
    unfold Hid numB Val.numK
    rcases hk with rfl | rfl | rfl | rfl
    · rfl
    · rfl
    · cases prsOk t.data.toList <;> rfl
    · rfl
  obtain ⟨kk, hkk⟩ : ∃ kk, Val.numK k t = kk := ⟨_, rfl⟩
  rw [hkk] at HN HNB
  obtain ⟨mm, hmm⟩ : ∃ mm, Val.numM k n = mm := ⟨_, rfl⟩
  rw [hmm] at HN
  obtain ⟨tt, htt⟩ : ∃ tt, Val.numT k t = tt := ⟨_, rfl⟩
  rw [htt] at HN
  rw [HNB.out] at HV
  have hcase : k = 0 ∨ k = 3 ∨ k = 1 ∨ (k = 2 ∧ kk = 0) ∨ (k = 2 ∧ kk ≠ 0) := by omega
  clear hsh hr hd hkk hmm htt ht hk HNB
  rcases hcase with rfl | rfl | rfl | ⟨rfl, hk0⟩ | ⟨rfl, hk0⟩
  · rcases hq with rfl | rfl
    all_goals
      have hV := HV.out
      obtain rfl : r = _ := hV
      simp only [sgB]
      clear HV
      go_enter Tryd.func8, Tryd.ntmps8
      go_wp2_with fail
      refine (HN.out _ (by (repeat' (first | (with_reducible exact Below.refl _ _) | (with_reducible assumption) | (with_reducible refine Below.alloc ?_ ?_ _) | (with_reducible refine bel_drewN ?_ _) | (with_reducible refine Below.drew ?_) | (with_reducible refine Below.setCell ?_ ?_ _) | (with_reducible refine bel_call ‹_› ?_ ?_) | go_size)))).mono ?_
      rintro e w1 ⟨rfl, hb1⟩
      obtain ⟨hc1, hf1, hz1⟩ := bcell hb1 (by first | (simp only [World.size_alloc, World.size_setCell, World.size_drew]; rfl) | rfl)
      go_wp2_with fail
      go_ret
      exact ⟨by simp, by (repeat' (first | (with_reducible exact Below.refl _ _) | (with_reducible assumption) | (with_reducible refine Below.alloc ?_ ?_ _) | (with_reducible refine bel_drewN ?_ _) | (with_reducible refine Below.drew ?_) | (with_reducible refine Below.setCell ?_ ?_ _) | (with_reducible refine bel_call ‹_› ?_ ?_) | go_size))⟩
  · rcases hq with rfl | rfl
    all_goals
      have hV := HV.out
      obtain rfl : r = _ := hV
      simp only [sgB]
      clear HV
      go_enter Tryd.func8, Tryd.ntmps8
      go_wp2_with fail
      refine (HN.out _ (by (repeat' (first | (with_reducible exact Below.refl _ _) | (with_reducible assumption) | (with_reducible refine Below.alloc ?_ ?_ _) | (with_reducible refine bel_drewN ?_ _) | (with_reducible refine Below.drew ?_) | (with_reducible refine Below.setCell ?_ ?_ _) | (with_reducible refine bel_call ‹_› ?_ ?_) | go_size)))).mono ?_
      rintro e w1 ⟨rfl, hb1⟩
      obtain ⟨hc1, hf1, hz1⟩ := bcell hb1 (by first | (simp only [World.size_alloc, World.size_setCell, World.size_drew]; rfl) | rfl)
      go_wp2_with fail
      go_ret
      exact ⟨by simp, by (repeat' (first | (with_reducible exact Below.refl _ _) | (with_reducible assumption) | (with_reducible refine Below.alloc ?_ ?_ _) | (with_reducible refine bel_drewN ?_ _) | (with_reducible refine Below.drew ?_) | (with_reducible refine Below.setCell ?_ ?_ _) | (with_reducible refine bel_call ‹_› ?_ ?_) | go_size))⟩
  · by_cases hdn : d = num
    · rcases hq with rfl | rfl
      all_goals
        have hV := HV.out
        obtain rfl : r = _ := hV
        have hdb : (d == num) = true := by simp [hdn]
        simp only [sgB]
        clear HV
        go_enter Tryd.func8, Tryd.ntmps8
        go_wp2_with fail
        refine (HN.out _ (by (repeat' (first | (with_reducible exact Below.refl _ _) | (with_reducible assumption) | (with_reducible refine Below.alloc ?_ ?_ _) | (with_reducible refine bel_drewN ?_ _) | (with_reducible refine Below.drew ?_) | (with_reducible refine Below.setCell ?_ ?_ _) | (with_reducible refine bel_call ‹_› ?_ ?_) | go_size)))).mono ?_
        rintro e w1 ⟨rfl, hb1⟩
        obtain ⟨hc1, hf1, hz1⟩ := bcell hb1 (by first | (simp only [World.size_alloc, World.size_setCell, World.size_drew]; rfl) | rfl)
        go_wp2_with fail
        go_ret
        exact ⟨by simp [hdn], by (repeat' (first | (with_reducible exact Below.refl _ _) | (with_reducible assumption) | (with_reducible refine Below.alloc ?_ ?_ _) | (with_reducible refine bel_drewN ?_ _) | (with_reducible refine Below.drew ?_) | (with_reducible refine Below.setCell ?_ ?_ _) | (with_reducible refine bel_call ‹_› ?_ ?_) | go_size))⟩
    · rcases hq with rfl | rfl
      all_goals
        have hV := HV.out
        obtain rfl : r = _ := hV
        have hdb : (d == num) = false := by simp [hdn]
        simp only [sgB]
        clear HV
        go_enter Tryd.func8, Tryd.ntmps8
        go_wp2_with fail
        refine (HN.out _ (by (repeat' (first | (with_reducible exact Below.refl _ _) | (with_reducible assumption) | (with_reducible refine Below.alloc ?_ ?_ _) | (with_reducible refine bel_drewN ?_ _) | (with_reducible refine Below.drew ?_) | (with_reducible refine Below.setCell ?_ ?_ _) | (with_reducible refine bel_call ‹_› ?_ ?_) | go_size)))).mono ?_
        rintro e w1 ⟨rfl, hb1⟩
        obtain ⟨hc1, hf1, hz1⟩ := bcell hb1 (by first | (simp only [World.size_alloc, World.size_setCell, World.size_drew]; rfl) | rfl)
        go_wp2_with fail
        go_ret
        exact ⟨by simp [hdn], by (repeat' (first | (with_reducible exact Below.refl _ _) | (with_reducible assumption) | (with_reducible refine Below.alloc ?_ ?_ _) | (with_reducible refine bel_drewN ?_ _) | (with_reducible refine Below.drew ?_) | (with_reducible refine Below.setCell ?_ ?_ _) | (with_reducible refine bel_call ‹_› ?_ ?_) | go_size))⟩
  · have hkb : (kk == 0) = true := by simp [hk0]
    by_cases hdn : d = num
    · rcases hq with rfl | rfl
      all_goals
        have hV := HV.out
        obtain rfl : r = _ := hV
        have hdb : (d == num) = true := by simp [hdn]
        simp only [sgB]
        have HK := Lib.hid hk0
        clear hk0
        clear HV
        go_enter Tryd.func8, Tryd.ntmps8
        go_wp2_with fail
        refine (HN.out _ (by (repeat' (first | (with_reducible exact Below.refl _ _) | (with_reducible assumption) | (with_reducible refine Below.alloc ?_ ?_ _) | (with_reducible refine bel_drewN ?_ _) | (with_reducible refine Below.drew ?_) | (with_reducible refine Below.setCell ?_ ?_ _) | (with_reducible refine bel_call ‹_› ?_ ?_) | go_size)))).mono ?_
        rintro e w1 ⟨rfl, hb1⟩
        obtain ⟨hc1, hf1, hz1⟩ := bcell hb1 (by first | (simp only [World.size_alloc, World.size_setCell, World.size_drew]; rfl) | rfl)
        go_wp2_with fail
        go_ret
        exact ⟨by simp [hdn, HK.out], by (repeat' (first | (with_reducible exact Below.refl _ _) | (with_reducible assumption) | (with_reducible refine Below.alloc ?_ ?_ _) | (with_reducible refine bel_drewN ?_ _) | (with_reducible refine Below.drew ?_) | (with_reducible refine Below.setCell ?_ ?_ _) | (with_reducible refine bel_call ‹_› ?_ ?_) | go_size))⟩
    · rcases hq with rfl | rfl
      all_goals
        have hV := HV.out
        obtain rfl : r = _ := hV
        have hdb : (d == num) = false := by simp [hdn]
        simp only [sgB]
        have HK := Lib.hid hk0
        clear hk0
        clear HV
        go_enter Tryd.func8, Tryd.ntmps8
        go_wp2_with fail
        refine (HN.out _ (by (repeat' (first | (with_reducible exact Below.refl _ _) | (with_reducible assumption) | (with_reducible refine Below.alloc ?_ ?_ _) | (with_reducible refine bel_drewN ?_ _) | (with_reducible refine Below.drew ?_) | (with_reducible refine Below.setCell ?_ ?_ _) | (with_reducible refine bel_call ‹_› ?_ ?_) | go_size)))).mono ?_
        rintro e w1 ⟨rfl, hb1⟩
        obtain ⟨hc1, hf1, hz1⟩ := bcell hb1 (by first | (simp only [World.size_alloc, World.size_setCell, World.size_drew]; rfl) | rfl)
        go_wp2_with fail
        go_ret
        exact ⟨by simp [hdn, HK.out], by (repeat' (first | (with_reducible exact Below.refl _ _) | (with_reducible assumption) | (with_reducible refine Below.alloc ?_ ?_ _) | (with_reducible refine bel_drewN ?_ _) | (with_reducible refine Below.drew ?_) | (with_reducible refine Below.setCell ?_ ?_ _) | (with_reducible refine bel_call ‹_› ?_ ?_) | go_size))⟩
  · have hkb : (kk == 0) = false := by simp [hk0]
    rcases hq with rfl | rfl
    all_goals
      have hV := HV.out
      obtain rfl : r = _ := hV
      simp only [sgB]
      have HK := Lib.hid hk0
      clear hk0
      clear HV
      go_enter Tryd.func8, Tryd.ntmps8
      go_wp2_with fail
      refine (HN.out _ (by (repeat' (first | (with_reducible exact Below.refl _ _) | (with_reducible assumption) | (with_reducible refine Below.alloc ?_ ?_ _) | (with_reducible refine bel_drewN ?_ _) | (with_reducible refine Below.drew ?_) | (with_reducible refine Below.setCell ?_ ?_ _) | (with_reducible refine bel_call ‹_› ?_ ?_) | go_size)))).mono ?_
      rintro e w1 ⟨rfl, hb1⟩
      obtain ⟨hc1, hf1, hz1⟩ := bcell hb1 (by first | (simp only [World.size_alloc, World.size_setCell, World.size_drew]; rfl) | rfl)
      go_wp2_with fail
      go_ret
      exact ⟨by simp [HK.out], by (repeat' (first | (with_reducible exact Below.refl _ _) | (with_reducible assumption) | (with_reducible refine Below.alloc ?_ ?_ _) | (with_reducible refine bel_drewN ?_ _) | (with_reducible refine Below.drew ?_) | (with_reducible refine Below.setCell ?_ ?_ _) | (with_reducible refine bel_call ‹_› ?_ ?_) | go_size))⟩

set_option maxRecDepth 100000 in
set_option maxHeartbeats 4000000 in
/-- A condition that is a pattern: nothing, numbers and errors. -/
theorem is_patPlain (q : Nat) (hq : q < 6) (num : Int) (L : List Sg) (p : Option Addr) (cap : Nat) (k n : Int) (t : ByteArray) (hk : k = 0 ∨ k = 1 ∨ k = 3) (hlen : L.length ≤ 1000) (w : World) :
    Calls Tryd.prog 8 #[.agg #[.string (sgB q), .bool false, .int .i64 num, .slice p L.length cap], .agg #[.int .i64 k, .int .i64 n, .string t]] w fun e w' => e = .returned (.bool (isB q false num L k n t)) ∧ Below w.heap.size w w' := by
  obtain ⟨r, hr⟩ : ∃ r, isB q false num L k n t = r := ⟨_, rfl⟩
  rw [hr]
  have HR := Lib.hid hr
  unfold isB at HR
  clear hr
  obtain ⟨ln, hln⟩ : ∃ ln, L.length = ln := ⟨_, rfl⟩
  rw [hln] at HR hlen ⊢
  clear hln
  by_cases h0 : ln = 0
  · subst h0
    obtain rfl | rfl | rfl | rfl | rfl | rfl : q = 0 ∨ q = 1 ∨ q = 2 ∨ q = 3 ∨ q = 4 ∨ q = 5 := by omega
    all_goals
      rcases hk with rfl | rfl | rfl
      all_goals
        have hR := HR.out
        simp at hR
        subst hR
        simp only [sgB]
        go_enter Tryd.func8, Tryd.ntmps8
        go_wp2_with fail
        try (go_quiet (fail); go_wp2_with fail)
        go_ret
        exact ⟨rfl, by (repeat' (first | (with_reducible exact Below.refl _ _) | (with_reducible assumption) | (with_reducible refine Below.alloc ?_ ?_ _) | (with_reducible refine bel_drewN ?_ _) | (with_reducible refine Below.drew ?_) | (with_reducible refine Below.setCell ?_ ?_ _) | (with_reducible refine bel_call ‹_› ?_ ?_) | go_size))⟩
  · have hl0 : ((ln : Int) == 0) = false := by simp; omega
    obtain rfl | rfl | rfl | rfl | rfl | rfl : q = 0 ∨ q = 1 ∨ q = 2 ∨ q = 3 ∨ q = 4 ∨ q = 5 := by omega
    all_goals
      rcases hk with rfl | rfl | rfl
      all_goals
        have hR := HR.out
        simp [h0] at hR
        subst hR
        simp only [sgB]
        go_enter Tryd.func8, Tryd.ntmps8
        go_wp2_with fail
        try (go_quiet (fail); go_wp2_with fail)
        go_ret
        exact ⟨rfl, by (repeat' (first | (with_reducible exact Below.refl _ _) | (with_reducible assumption) | (with_reducible refine Below.alloc ?_ ?_ _) | (with_reducible refine bel_drewN ?_ _) | (with_reducible refine Below.drew ?_) | (with_reducible refine Below.setCell ?_ ?_ _) | (with_reducible refine bel_call ‹_› ?_ ?_) | go_size))⟩
end Go.Proofs.YtpggidkcifnhjaaDoor
