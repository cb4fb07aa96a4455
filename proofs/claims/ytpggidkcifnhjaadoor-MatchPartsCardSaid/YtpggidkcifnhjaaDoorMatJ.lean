/- Conditions: the program's Is. -/
import Derived.Test.YtpggidkcifnhjaaDoorMatI
import Derived.Test.YtpggidkcifnhjaaDoorTelB
import Derived.Lib.QuietBelow
set_option linter.unusedSimpArgs false
set_option linter.unusedVariables false

namespace Go.Proofs.YtpggidkcifnhjaaDoor
open Go.RowKit

/-- Is a value a number, or a text that is one? -/
def numB (k : Int) (t : ByteArray) : Bool := decide (k = 1) || (decide (k = 2) && prsOk t.data.toList)
/-- How two texts of small letters compare. -/
def cmpS (L : List Sg) (t : ByteArray) : Int := Lib.compareBytes (lowL t.data.toList) (plL L)
/-- Does a condition hold of a value? -/
def isB (q : Nat) (nb : Bool) (num : Int) (L : List Sg) (k n : Int) (t : ByteArray) : Bool :=
  if nb then
    (if q = 5 ∨ q = 0 then (numB k t && decide (Val.numV k n t = num)) == decide (q = 5)
     else numB k t && soB q (decide (Val.numV k n t < num)) (decide (num < Val.numV k n t)))
  else if q = 5 ∨ q = 0 then (if k = 0 then decide (L.length = 0) else decide (k = 2) && fitB L t.data.toList) == decide (q = 5)
  else decide (k = 2) && soB q (decide (cmpS L t < 0)) (decide (0 < cmpS L t))
theorem sg_order (q : Nat) (hq : q < 6) (h : ¬ (q = 5 ∨ q = 0)) : ((sgB q).toList == [61]) = false ∧ ((sgB q).toList == [60, 62]) = false := by
  obtain rfl | rfl | rfl | rfl : q = 1 ∨ q = 2 ∨ q = 3 ∨ q = 4 := by omega
  all_goals exact ⟨by rw [Lib.toList_data]; decide, by rw [Lib.toList_data]; decide⟩
theorem of_small (n : Int) (w : World) : Calls Tryd.prog 12 #[.int .i64 n] w fun e w' => e = .returned (.agg #[.int .i64 1, .int .i64 n, .string ⟨#[]⟩]) ∧ Below w.heap.size w w' := Val.of_any n w
theorem cmp_nums (d num : Int) (w : World) : Calls Tryd.prog 17 #[.agg #[.int .i64 1, .int .i64 d, .string ⟨#[]⟩], .agg #[.int .i64 1, .int .i64 num, .string ⟨#[]⟩]] w fun e w' => e = .returned (.tuple #[.int .i64 (if d < num then -1 else if num < d then 1 else 0), .agg #[.int .i64 0, .int .i64 0, .string ByteArray.empty]]) ∧ Below w.heap.size w w' :=
  Val.compare_any 1 d ⟨#[]⟩ 1 num ⟨#[]⟩ w

set_option maxRecDepth 100000 in
set_option maxHeartbeats 4000000 in
/-- A condition on numbers that compares. -/
theorem is_numOrder (q : Nat) (hq : q < 6) (hqo : ¬ (q = 5 ∨ q = 0)) (num : Int) (L : List Sg) (p : Option Addr) (cap ln : Nat) (k n : Int) (t : ByteArray) (hk : k = 0 ∨ k = 1 ∨ k = 2 ∨ k = 3) (ht : t.size ≤ 900) (w : World) (hsh : w.ShapedOpen Tryd.prog) :
    Calls Tryd.prog 8 #[.agg #[.string (sgB q), .bool true, .int .i64 num, .slice p ln cap], .agg #[.int .i64 k, .int .i64 n, .string t]] w fun e w' => e = .returned (.bool (isB q true num L k n t)) ∧ Below w.heap.size w w' := by
  have HN : Hid (∀ W, Below w.heap.size w W → Calls Tryd.prog 16 #[.agg #[.int .i64 k, .int .i64 n, .string t]] W fun e w' => e = .returned (.tuple #[.int .i64 (Val.numV k n t), .agg #[.int .i64 (Val.numK k t), .int .i64 (Val.numM k n), .string (Val.numT k t)]]) ∧ Below W.heap.size W w') := fun W hW => Val.number_any k n t hk ht W (shaped_below hsh hW)
  have HV : Hid (isB q true num L k n t = (numB k t && soB q (decide (Val.numV k n t < num)) (decide (num < Val.numV k n t)))) := by
    unfold Hid isB
    rw [if_pos rfl, if_neg hqo]
  obtain ⟨r, hr⟩ : ∃ r, isB q true num L k n t = r := ⟨_, rfl⟩
  rw [hr] at HV ⊢
  obtain ⟨d, hd⟩ : ∃ d, Val.numV k n t = d := ⟨_, rfl⟩
  rw [hd] at HV HN
  have hsg := sg_order q hq hqo
  have HH := Lib.hid (fun m W => holds_any q hq m W)
  have HNB : Hid (numB k t = (decide (k = 1) || (decide (k = 2) && decide (Val.numK k t = 0)))) := by
    unfold Hid numB Val.numK
    rcases hk with rfl | rfl | rfl | rfl
    · rfl
    · rfl
    · cases prsOk t.data.toList <;> rfl
    · rfl
  obtain ⟨kk, hkk⟩ : ∃ kk, Val.numK k t = kk := ⟨_, rfl⟩
  rw [hkk] at HN HNB
  obtain ⟨mm, hmm⟩ : ∃ mm, Val.numM k n = mm := ⟨_, rfl⟩
  rw [hmm] at HN
  obtain ⟨tt, htt⟩ : ∃ tt, Val.numT k t = tt := ⟨_, rfl⟩
  rw [htt] at HN
  obtain ⟨sg, hsgb⟩ : ∃ sg, sgB q = sg := ⟨_, rfl⟩
  rw [hsgb] at hsg HH ⊢
  obtain ⟨hs1, hs2⟩ := hsg
  clear hsh hr hd hkk hmm htt hsgb ht hqo
  have hcase : (k = 0 ∨ k = 3) ∨ k = 1 ∨ (k = 2 ∧ kk = 0) ∨ (k = 2 ∧ kk ≠ 0) := by omega
  have HC : Hid (r = (numB k t && soB q (decide ((if d < num then (-1 : Int) else if num < d then 1 else 0) < 0)) (decide (0 < (if d < num then (-1 : Int) else if num < d then 1 else 0))))) := by
    have e1 : decide ((if d < num then (-1 : Int) else if num < d then 1 else 0) < 0) = decide (d < num) := by
      rw [Bool.eq_iff_iff]; simp only [decide_eq_true_eq]; split
      · omega
      · split <;> omega
    have e2 : decide (0 < (if d < num then (-1 : Int) else if num < d then 1 else 0)) = decide (num < d) := by
      rw [Bool.eq_iff_iff]; simp only [decide_eq_true_eq]; split
      · omega
      · split <;> omega
    unfold Hid
    rw [e1, e2]
    exact HV.out
  obtain ⟨m, hm⟩ : ∃ m : Int, (if d < num then (-1 : Int) else if num < d then 1 else 0) = m := ⟨_, rfl⟩
  have HCM := Lib.hid (fun W => cmp_nums d num W)
  rw [hm] at HC HCM
  clear hm hk HV
  rcases hcase with h | rfl | ⟨rfl, hk0⟩ | ⟨rfl, hk0⟩
  · have hr : r = false := by
      rw [HC.out, HNB.out]
      rcases h with rfl | rfl <;> rfl
    subst hr
    clear HC HNB
    rcases h with rfl | rfl
    all_goals
      go_enter Tryd.func8, Tryd.ntmps8
      go_wp2_with fail
      refine (HN.out _ (by (repeat' (first | (with_reducible exact Below.refl _ _) | (with_reducible assumption) | (with_reducible refine Below.alloc ?_ ?_ _) | (with_reducible refine bel_drewN ?_ _) | (with_reducible refine Below.drew ?_) | (with_reducible refine Below.setCell ?_ ?_ _) | (with_reducible refine bel_call ‹_› ?_ ?_) | go_size)))).mono ?_
      rintro e w1 ⟨rfl, hb1⟩
      obtain ⟨hc1, hf1, hz1⟩ := bcell hb1 (by first | (simp only [World.size_alloc, World.size_setCell, World.size_drew]; rfl) | rfl)
      go_wp2_with fail
      have hbx : Below w.heap.size w (w1.alloc (.cells #[.int .i64 kk, .int .i64 mm, .string tt] 28)) := by (repeat' (first | (with_reducible exact Below.refl _ _) | (with_reducible assumption) | (with_reducible refine Below.alloc ?_ ?_ _) | (with_reducible refine bel_drewN ?_ _) | (with_reducible refine Below.drew ?_) | (with_reducible refine Below.setCell ?_ ?_ _) | (with_reducible refine bel_call ‹_› ?_ ?_) | go_size))
      have q1 : (w1.alloc (.cells #[.int .i64 kk, .int .i64 mm, .string tt] 28)).cell? ⟨w.heap.size, 0, none⟩ = some (.string sg) := by go_simp
      have q2 : (w1.alloc (.cells #[.int .i64 kk, .int .i64 mm, .string tt] 28)).cell? ⟨w.heap.size, 2, none⟩ = some (.int .i64 num) := by go_simp
      have hzx : w.heap.size + 1 < (w1.alloc (.cells #[.int .i64 kk, .int .i64 mm, .string tt] 28)).heap.size := by rw [World.size_alloc]; omega
      generalize (w1.alloc (.cells #[.int .i64 kk, .int .i64 mm, .string tt] 28)) = wx at hbx q1 q2 hzx ⊢
      clear hb1 hc1 hf1 hz1
      go_region_held3 (fun w' => w'.cell? ⟨w.heap.size, 0, none⟩ = some (.string sg) ∧ w'.cell? ⟨w.heap.size, 2, none⟩ = some (.int .i64 num)) (first | (go_simp; done) | go_keep) (first | (go_at_call 17; refine (HCM.out _).mono ?_; rintro e w3 ⟨rfl, hb3⟩; obtain ⟨hc3, hf3, hz3⟩ := bcell hb3 (by first | (simp only [World.size_alloc, World.size_setCell, World.size_drew]; rfl) | rfl)) | (go_at_call 12; refine (of_small _ _).mono ?_; rintro e w2 ⟨rfl, hb2⟩; obtain ⟨hc2, hf2, hz2⟩ := bcell hb2 (by first | (simp only [World.size_alloc, World.size_setCell, World.size_drew]; rfl) | rfl)))
      all_goals go_wp2_with fail
      all_goals go_ret
      all_goals exact ⟨rfl, by (repeat' (first | (with_reducible exact Below.refl _ _) | (with_reducible assumption) | (with_reducible refine Below.alloc ?_ ?_ _) | (with_reducible refine bel_drewN ?_ _) | (with_reducible refine Below.drew ?_) | (with_reducible refine Below.setCell ?_ ?_ _) | (with_reducible refine bel_call ‹_› ?_ ?_) | go_size))⟩
  · have hr : r = soB q (decide (m < 0)) (decide (0 < m)) := by
      rw [HC.out, HNB.out]
      rfl
    subst hr
    clear HC HNB
    go_enter Tryd.func8, Tryd.ntmps8
    go_wp2_with fail
    refine (HN.out _ (by (repeat' (first | (with_reducible exact Below.refl _ _) | (with_reducible assumption) | (with_reducible refine Below.alloc ?_ ?_ _) | (with_reducible refine bel_drewN ?_ _) | (with_reducible refine Below.drew ?_) | (with_reducible refine Below.setCell ?_ ?_ _) | (with_reducible refine bel_call ‹_› ?_ ?_) | go_size)))).mono ?_
    rintro e w1 ⟨rfl, hb1⟩
    obtain ⟨hc1, hf1, hz1⟩ := bcell hb1 (by first | (simp only [World.size_alloc, World.size_setCell, World.size_drew]; rfl) | rfl)
    go_wp2_with fail
    have hbx : Below w.heap.size w (w1.alloc (.cells #[.int .i64 kk, .int .i64 mm, .string tt] 28)) := by (repeat' (first | (with_reducible exact Below.refl _ _) | (with_reducible assumption) | (with_reducible refine Below.alloc ?_ ?_ _) | (with_reducible refine bel_drewN ?_ _) | (with_reducible refine Below.drew ?_) | (with_reducible refine Below.setCell ?_ ?_ _) | (with_reducible refine bel_call ‹_› ?_ ?_) | go_size))
    have q1 : (w1.alloc (.cells #[.int .i64 kk, .int .i64 mm, .string tt] 28)).cell? ⟨w.heap.size, 0, none⟩ = some (.string sg) := by go_simp
    have q2 : (w1.alloc (.cells #[.int .i64 kk, .int .i64 mm, .string tt] 28)).cell? ⟨w.heap.size, 2, none⟩ = some (.int .i64 num) := by go_simp
    have hzx : w.heap.size + 1 < (w1.alloc (.cells #[.int .i64 kk, .int .i64 mm, .string tt] 28)).heap.size := by rw [World.size_alloc]; omega
    generalize (w1.alloc (.cells #[.int .i64 kk, .int .i64 mm, .string tt] 28)) = wx at hbx q1 q2 hzx ⊢
    clear hb1 hc1 hf1 hz1
    go_region_held3 (fun w' => w'.cell? ⟨w.heap.size, 0, none⟩ = some (.string sg) ∧ w'.cell? ⟨w.heap.size, 2, none⟩ = some (.int .i64 num)) (first | (go_simp; done) | go_keep) (first | (go_at_call 17; refine (HCM.out _).mono ?_; rintro e w3 ⟨rfl, hb3⟩; obtain ⟨hc3, hf3, hz3⟩ := bcell hb3 (by first | (simp only [World.size_alloc, World.size_setCell, World.size_drew]; rfl) | rfl)) | (go_at_call 12; refine (of_small _ _).mono ?_; rintro e w2 ⟨rfl, hb2⟩; obtain ⟨hc2, hf2, hz2⟩ := bcell hb2 (by first | (simp only [World.size_alloc, World.size_setCell, World.size_drew]; rfl) | rfl)))
    all_goals go_wp2_with fail
    all_goals refine (HH.out m _).mono ?_
    all_goals rintro e w9 ⟨rfl, rfl⟩
    all_goals go_wp2_with fail
    all_goals go_ret
    all_goals exact ⟨rfl, by (repeat' (first | (with_reducible exact Below.refl _ _) | (with_reducible assumption) | (with_reducible refine Below.alloc ?_ ?_ _) | (with_reducible refine bel_drewN ?_ _) | (with_reducible refine Below.drew ?_) | (with_reducible refine Below.setCell ?_ ?_ _) | (with_reducible refine bel_call ‹_› ?_ ?_) | go_size))⟩
  · have hr : r = soB q (decide (m < 0)) (decide (0 < m)) := by
      rw [HC.out, HNB.out, decide_eq_true hk0]
      rfl
    have hk1 : (kk == 0) = true := by simp [hk0]
    clear hk0
    subst hr
    clear HC HNB
    go_enter Tryd.func8, Tryd.ntmps8
    go_wp2_with fail
    refine (HN.out _ (by (repeat' (first | (with_reducible exact Below.refl _ _) | (with_reducible assumption) | (with_reducible refine Below.alloc ?_ ?_ _) | (with_reducible refine bel_drewN ?_ _) | (with_reducible refine Below.drew ?_) | (with_reducible refine Below.setCell ?_ ?_ _) | (with_reducible refine bel_call ‹_› ?_ ?_) | go_size)))).mono ?_
    rintro e w1 ⟨rfl, hb1⟩
    obtain ⟨hc1, hf1, hz1⟩ := bcell hb1 (by first | (simp only [World.size_alloc, World.size_setCell, World.size_drew]; rfl) | rfl)
    go_wp2_with fail
    have hbx : Below w.heap.size w (w1.alloc (.cells #[.int .i64 kk, .int .i64 mm, .string tt] 28)) := by (repeat' (first | (with_reducible exact Below.refl _ _) | (with_reducible assumption) | (with_reducible refine Below.alloc ?_ ?_ _) | (with_reducible refine bel_drewN ?_ _) | (with_reducible refine Below.drew ?_) | (with_reducible refine Below.setCell ?_ ?_ _) | (with_reducible refine bel_call ‹_› ?_ ?_) | go_size))
    have q1 : (w1.alloc (.cells #[.int .i64 kk, .int .i64 mm, .string tt] 28)).cell? ⟨w.heap.size, 0, none⟩ = some (.string sg) := by go_simp
    have q2 : (w1.alloc (.cells #[.int .i64 kk, .int .i64 mm, .string tt] 28)).cell? ⟨w.heap.size, 2, none⟩ = some (.int .i64 num) := by go_simp
    have hzx : w.heap.size + 1 < (w1.alloc (.cells #[.int .i64 kk, .int .i64 mm, .string tt] 28)).heap.size := by rw [World.size_alloc]; omega
    generalize (w1.alloc (.cells #[.int .i64 kk, .int .i64 mm, .string tt] 28)) = wx at hbx q1 q2 hzx ⊢
    clear hb1 hc1 hf1 hz1
    go_region_held3 (fun w' => w'.cell? ⟨w.heap.size, 0, none⟩ = some (.string sg) ∧ w'.cell? ⟨w.heap.size, 2, none⟩ = some (.int .i64 num)) (first | (go_simp; done) | go_keep) (first | (go_at_call 17; refine (HCM.out _).mono ?_; rintro e w3 ⟨rfl, hb3⟩; obtain ⟨hc3, hf3, hz3⟩ := bcell hb3 (by first | (simp only [World.size_alloc, World.size_setCell, World.size_drew]; rfl) | rfl)) | (go_at_call 12; refine (of_small _ _).mono ?_; rintro e w2 ⟨rfl, hb2⟩; obtain ⟨hc2, hf2, hz2⟩ := bcell hb2 (by first | (simp only [World.size_alloc, World.size_setCell, World.size_drew]; rfl) | rfl)))
    all_goals go_wp2_with fail
    all_goals refine (HH.out m _).mono ?_
    all_goals rintro e w9 ⟨rfl, rfl⟩
    all_goals go_wp2_with fail
    all_goals go_ret
    all_goals exact ⟨rfl, by (repeat' (first | (with_reducible exact Below.refl _ _) | (with_reducible assumption) | (with_reducible refine Below.alloc ?_ ?_ _) | (with_reducible refine bel_drewN ?_ _) | (with_reducible refine Below.drew ?_) | (with_reducible refine Below.setCell ?_ ?_ _) | (with_reducible refine bel_call ‹_› ?_ ?_) | go_size))⟩
  · have hr : r = false := by
      rw [HC.out, HNB.out, decide_eq_false hk0]
      rfl
    subst hr
    have hk1 : (kk == 0) = false := by simp [hk0]
    clear HC HNB hk0
    go_enter Tryd.func8, Tryd.ntmps8
    go_wp2_with fail
    refine (HN.out _ (by (repeat' (first | (with_reducible exact Below.refl _ _) | (with_reducible assumption) | (with_reducible refine Below.alloc ?_ ?_ _) | (with_reducible refine bel_drewN ?_ _) | (with_reducible refine Below.drew ?_) | (with_reducible refine Below.setCell ?_ ?_ _) | (with_reducible refine bel_call ‹_› ?_ ?_) | go_size)))).mono ?_
    rintro e w1 ⟨rfl, hb1⟩
    obtain ⟨hc1, hf1, hz1⟩ := bcell hb1 (by first | (simp only [World.size_alloc, World.size_setCell, World.size_drew]; rfl) | rfl)
    go_wp2_with fail
    have hbx : Below w.heap.size w (w1.alloc (.cells #[.int .i64 kk, .int .i64 mm, .string tt] 28)) := by (repeat' (first | (with_reducible exact Below.refl _ _) | (with_reducible assumption) | (with_reducible refine Below.alloc ?_ ?_ _) | (with_reducible refine bel_drewN ?_ _) | (with_reducible refine Below.drew ?_) | (with_reducible refine Below.setCell ?_ ?_ _) | (with_reducible refine bel_call ‹_› ?_ ?_) | go_size))
    have q1 : (w1.alloc (.cells #[.int .i64 kk, .int .i64 mm, .string tt] 28)).cell? ⟨w.heap.size, 0, none⟩ = some (.string sg) := by go_simp
    have q2 : (w1.alloc (.cells #[.int .i64 kk, .int .i64 mm, .string tt] 28)).cell? ⟨w.heap.size, 2, none⟩ = some (.int .i64 num) := by go_simp
    have hzx : w.heap.size + 1 < (w1.alloc (.cells #[.int .i64 kk, .int .i64 mm, .string tt] 28)).heap.size := by rw [World.size_alloc]; omega
    generalize (w1.alloc (.cells #[.int .i64 kk, .int .i64 mm, .string tt] 28)) = wx at hbx q1 q2 hzx ⊢
    clear hb1 hc1 hf1 hz1
    go_region_held3 (fun w' => w'.cell? ⟨w.heap.size, 0, none⟩ = some (.string sg) ∧ w'.cell? ⟨w.heap.size, 2, none⟩ = some (.int .i64 num)) (first | (go_simp; done) | go_keep) (first | (go_at_call 17; refine (HCM.out _).mono ?_; rintro e w3 ⟨rfl, hb3⟩; obtain ⟨hc3, hf3, hz3⟩ := bcell hb3 (by first | (simp only [World.size_alloc, World.size_setCell, World.size_drew]; rfl) | rfl)) | (go_at_call 12; refine (of_small _ _).mono ?_; rintro e w2 ⟨rfl, hb2⟩; obtain ⟨hc2, hf2, hz2⟩ := bcell hb2 (by first | (simp only [World.size_alloc, World.size_setCell, World.size_drew]; rfl) | rfl)))
    all_goals go_wp2_with fail
    all_goals go_ret
    all_goals exact ⟨rfl, by (repeat' (first | (with_reducible exact Below.refl _ _) | (with_reducible assumption) | (with_reducible refine Below.alloc ?_ ?_ _) | (with_reducible refine bel_drewN ?_ _) | (with_reducible refine Below.drew ?_) | (with_reducible refine Below.setCell ?_ ?_ _) | (with_reducible refine bel_call ‹_› ?_ ?_) | go_size))⟩
end Go.Proofs.YtpggidkcifnhjaaDoor
