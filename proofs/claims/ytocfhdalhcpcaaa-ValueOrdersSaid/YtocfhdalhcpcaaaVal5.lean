/- ValueOrders: the walk. -/
import Derived.Test.YtocfhdalhcpcaaaVal3
import Derived.Deep.DeepCutAuto
set_option linter.unusedSimpArgs false
set_option linter.unusedVariables false
namespace Go.Proofs.Ytocfhdalhcpcaaa
open Go.RowKit
attribute [local go_sem ↓] Go.wp_at_zero Go.wp_at_succ

theorem same_any (k n : Int) (s : ByteArray) (k' n' : Int) (s' : ByteArray) (r : Bool) (hr : decide (k = k' ∧ n = n' ∧ s.toList = s'.toList) = r) (w : World) :
    Calls Try.prog 10 #[.agg #[.int .i64 k, .int .i64 n, .string s], .agg #[.int .i64 k', .int .i64 n', .string s']] w fun e w' => e = .returned (.bool r) ∧ Below w.heap.size w w' := by
  subst hr
  go_enter Try.func10, Try.ntmps10
  go_wp2
  all_goals go_returns
  all_goals refine ⟨?_, by (repeat' (first | (with_reducible exact Below.refl _ _) | (with_reducible assumption) | (with_reducible refine Below.alloc ?_ ?_ _) | (with_reducible refine bel_drewN ?_ _) | (with_reducible refine Below.drew ?_) | (with_reducible refine Below.setCell ?_ ?_ _) | (with_reducible refine bel_call ‹_› ?_ ?_) | go_size))⟩
  all_goals simp_all

set_option maxHeartbeats 2000000 in
theorem orders_same (k n : Int) (s : ByteArray) (w : World) (hr : rightB k n s = true) (hr' : rightB k n s = true) :
    Calls Try.prog 3 #[.agg #[.int .i64 k, .int .i64 n, .string s], .agg #[.int .i64 k, .int .i64 n, .string s]] w fun e w' => e = .returned (.bool true) ∧ Below w.heap.size w w' := by
  go_enter Try.func3, Try.ntmps3
  go_upto_region 3 with (go_at_call 5; refine (right_any _ _ _ _).mono ?_; rintro e w1 ⟨rfl, hb⟩; obtain ⟨hc, hf, hz⟩ := bcell hb (by first | (simp only [World.size_alloc, World.size_setCell, World.size_drew]; rfl) | rfl))
  go_cut [5, 6] (fun s5 s6 wx => ∃ g : Nat, s5 = .int .i64 (cmpN k n s k n s) ∧ s6 = .pointer (some ⟨g, 0, none⟩) ∧ wx.cell? ⟨w.heap.size, 0, none⟩ = some (.int .i64 k) ∧ wx.cell? ⟨w.heap.size, 1, none⟩ = some (.int .i64 n) ∧ wx.cell? ⟨w.heap.size, 2, none⟩ = some (.string s) ∧ wx.cell? ⟨w.heap.size + 1, 0, none⟩ = some (.int .i64 k) ∧ wx.cell? ⟨w.heap.size + 1, 1, none⟩ = some (.int .i64 n) ∧ wx.cell? ⟨w.heap.size + 1, 2, none⟩ = some (.string s) ∧ wx.cell? ⟨g, 0, none⟩ = some (.int .i64 (cmpK k k)) ∧ wx.cell? ⟨g, 1, none⟩ = some (.int .i64 (cmpM k n k n)) ∧ wx.cell? ⟨g, 2, none⟩ = some (.string (cmpT k s k s)) ∧ Below w.heap.size w wx ∧ w.heap.size + 2 ≤ g ∧ g + 1 ≤ wx.heap.size)
  case first =>
    go_region_held3 (fun w' => w'.cell? ⟨w.heap.size, 0, none⟩ = some (.int .i64 k) ∧ w'.cell? ⟨w.heap.size, 1, none⟩ = some (.int .i64 n) ∧ w'.cell? ⟨w.heap.size, 2, none⟩ = some (.string s) ∧ w'.cell? ⟨w.heap.size + 1, 0, none⟩ = some (.int .i64 k) ∧ w'.cell? ⟨w.heap.size + 1, 1, none⟩ = some (.int .i64 n) ∧ w'.cell? ⟨w.heap.size + 1, 2, none⟩ = some (.string s)) (first | (go_simp; done) | go_keep) (first | (go_at_call 8; refine (to_any _ _ _ _).mono ?_; rintro e w1 ⟨rfl, hb⟩; obtain ⟨hc, hf, hz⟩ := bcell hb (by first | (simp only [World.size_alloc, World.size_setCell, World.size_drew]; rfl) | rfl)) | (go_at_call 7; refine (compare_any _ _ _ _ _ _ _).mono ?_; rintro e w1 ⟨rfl, hb⟩; obtain ⟨hc, hf, hz⟩ := bcell hb (by first | (simp only [World.size_alloc, World.size_setCell, World.size_drew]; rfl) | rfl)))
    all_goals go_wp2_with fail
    all_goals go_meet
    all_goals refine ⟨_, rfl, rfl, ?_, ?_, ?_, ?_, ?_, ?_, ?_, ?_, ?_, ?_, ?_, ?_⟩
    all_goals first | (go_simp; done) | omega | (simp only [World.size_alloc, World.size_setCell, World.size_drew]; omega) | skip
    all_goals (repeat' (first | (with_reducible exact Below.refl _ _) | (with_reducible assumption) | (with_reducible refine Below.alloc ?_ ?_ _) | (with_reducible refine bel_drewN ?_ _) | (with_reducible refine Below.drew ?_) | (with_reducible refine Below.setCell ?_ ?_ _) | (with_reducible refine bel_call ‹_› ?_ ?_) | go_size))
  case rest =>
    obtain ⟨g, rfl, rfl, c0, c1, c2, c3, c4, c5, d0, d1, d2, hbw, hg1, hg2⟩ := hcut
    clear hr hr'
    go_wp2_with fail
    refine (refCompare_any _ _ _ _ _ _ _).mono ?_
    rintro e w2 ⟨rfl, hb⟩
    obtain ⟨hc, hf, hz⟩ := bcell hb (by first | (simp only [World.size_alloc, World.size_setCell, World.size_drew]; rfl) | rfl)
    go_wp2_with fail
    go_region_held3 (fun w' => w'.cell? ⟨w.heap.size, 0, none⟩ = some (.int .i64 k) ∧ w'.cell? ⟨w.heap.size, 1, none⟩ = some (.int .i64 n) ∧ w'.cell? ⟨w.heap.size, 2, none⟩ = some (.string s) ∧ w'.cell? ⟨w.heap.size + 1, 0, none⟩ = some (.int .i64 k) ∧ w'.cell? ⟨w.heap.size + 1, 1, none⟩ = some (.int .i64 n) ∧ w'.cell? ⟨w.heap.size + 1, 2, none⟩ = some (.string s) ∧ w'.cell? ⟨g, 0, none⟩ = some (.int .i64 (cmpK k k)) ∧ w'.cell? ⟨g, 1, none⟩ = some (.int .i64 (cmpM k n k n)) ∧ w'.cell? ⟨g, 2, none⟩ = some (.string (cmpT k s k s)) ∧ w'.cell? ⟨w2.heap.size, 0, none⟩ = some (.int .i64 (cmpK k k)) ∧ w'.cell? ⟨w2.heap.size, 1, none⟩ = some (.int .i64 (cmpM k n k n)) ∧ w'.cell? ⟨w2.heap.size, 2, none⟩ = some (.string (cmpT k s k s))) (first | (go_simp; done) | go_keep) (first | (go_at_call 8; refine (to_any _ _ _ _).mono ?_; rintro e w1 ⟨rfl, hb⟩; obtain ⟨hc, hf, hz⟩ := bcell hb (by first | (simp only [World.size_alloc, World.size_setCell, World.size_drew]; rfl) | rfl)) | (go_at_call 10; refine (same_any k n s k n s true (by simp) _).mono ?_; rintro e w1 ⟨rfl, hb⟩; obtain ⟨hc, hf, hz⟩ := bcell hb (by first | (simp only [World.size_alloc, World.size_setCell, World.size_drew]; rfl) | rfl)) | (go_at_call 6; refine (awake_any _).mono ?_; rintro e w1 ⟨rfl, hb⟩; obtain ⟨hc, hf, hz⟩ := bcell hb (by first | (simp only [World.size_alloc, World.size_setCell, World.size_drew]; rfl) | rfl)))
    all_goals go_wp2_with fail
    all_goals go_ret
    all_goals exact ⟨rfl, by (repeat' (first | (with_reducible exact Below.refl _ _) | (with_reducible assumption) | (with_reducible refine Below.alloc ?_ ?_ _) | (with_reducible refine bel_drewN ?_ _) | (with_reducible refine Below.drew ?_) | (with_reducible refine Below.setCell ?_ ?_ _) | (with_reducible refine bel_call ‹_› ?_ ?_) | go_size))⟩
set_option maxHeartbeats 2000000 in
theorem orders_kind (k n : Int) (s : ByteArray) (k' n' : Int) (s' : ByteArray) (w : World) (hr : rightB k n s = true) (hr' : rightB k' n' s' = true) (hne : ¬ k = k') :
    Calls Try.prog 3 #[.agg #[.int .i64 k, .int .i64 n, .string s], .agg #[.int .i64 k', .int .i64 n', .string s']] w fun e w' => e = .returned (.bool true) ∧ Below w.heap.size w w' := by
  go_enter Try.func3, Try.ntmps3
  go_upto_region 3 with (go_at_call 5; refine (right_any _ _ _ _).mono ?_; rintro e w1 ⟨rfl, hb⟩; obtain ⟨hc, hf, hz⟩ := bcell hb (by first | (simp only [World.size_alloc, World.size_setCell, World.size_drew]; rfl) | rfl))
  go_cut [5, 6] (fun s5 s6 wx => ∃ g : Nat, s5 = .int .i64 (cmpN k n s k' n' s') ∧ s6 = .pointer (some ⟨g, 0, none⟩) ∧ wx.cell? ⟨w.heap.size, 0, none⟩ = some (.int .i64 k) ∧ wx.cell? ⟨w.heap.size, 1, none⟩ = some (.int .i64 n) ∧ wx.cell? ⟨w.heap.size, 2, none⟩ = some (.string s) ∧ wx.cell? ⟨w.heap.size + 1, 0, none⟩ = some (.int .i64 k') ∧ wx.cell? ⟨w.heap.size + 1, 1, none⟩ = some (.int .i64 n') ∧ wx.cell? ⟨w.heap.size + 1, 2, none⟩ = some (.string s') ∧ wx.cell? ⟨g, 0, none⟩ = some (.int .i64 (cmpK k k')) ∧ wx.cell? ⟨g, 1, none⟩ = some (.int .i64 (cmpM k n k' n')) ∧ wx.cell? ⟨g, 2, none⟩ = some (.string (cmpT k s k' s')) ∧ Below w.heap.size w wx ∧ w.heap.size + 2 ≤ g ∧ g + 1 ≤ wx.heap.size)
  case first =>
    go_region_held3 (fun w' => w'.cell? ⟨w.heap.size, 0, none⟩ = some (.int .i64 k) ∧ w'.cell? ⟨w.heap.size, 1, none⟩ = some (.int .i64 n) ∧ w'.cell? ⟨w.heap.size, 2, none⟩ = some (.string s) ∧ w'.cell? ⟨w.heap.size + 1, 0, none⟩ = some (.int .i64 k') ∧ w'.cell? ⟨w.heap.size + 1, 1, none⟩ = some (.int .i64 n') ∧ w'.cell? ⟨w.heap.size + 1, 2, none⟩ = some (.string s')) (first | (go_simp; done) | go_keep) (first | (go_at_call 8; refine (to_any _ _ _ _).mono ?_; rintro e w1 ⟨rfl, hb⟩; obtain ⟨hc, hf, hz⟩ := bcell hb (by first | (simp only [World.size_alloc, World.size_setCell, World.size_drew]; rfl) | rfl)) | (go_at_call 7; refine (compare_any _ _ _ _ _ _ _).mono ?_; rintro e w1 ⟨rfl, hb⟩; obtain ⟨hc, hf, hz⟩ := bcell hb (by first | (simp only [World.size_alloc, World.size_setCell, World.size_drew]; rfl) | rfl)))
    all_goals go_wp2_with fail
    all_goals go_meet
    all_goals refine ⟨_, rfl, rfl, ?_, ?_, ?_, ?_, ?_, ?_, ?_, ?_, ?_, ?_, ?_, ?_⟩
    all_goals first | (go_simp; done) | omega | (simp only [World.size_alloc, World.size_setCell, World.size_drew]; omega) | skip
    all_goals (repeat' (first | (with_reducible exact Below.refl _ _) | (with_reducible assumption) | (with_reducible refine Below.alloc ?_ ?_ _) | (with_reducible refine bel_drewN ?_ _) | (with_reducible refine Below.drew ?_) | (with_reducible refine Below.setCell ?_ ?_ _) | (with_reducible refine bel_call ‹_› ?_ ?_) | go_size))
  case rest =>
    obtain ⟨g, rfl, rfl, c0, c1, c2, c3, c4, c5, d0, d1, d2, hbw, hg1, hg2⟩ := hcut
    clear hr hr'
    go_wp2_with fail
    refine (refCompare_any _ _ _ _ _ _ _).mono ?_
    rintro e w2 ⟨rfl, hb⟩
    obtain ⟨hc, hf, hz⟩ := bcell hb (by first | (simp only [World.size_alloc, World.size_setCell, World.size_drew]; rfl) | rfl)
    go_wp2_with fail
    go_region_held3 (fun w' => w'.cell? ⟨w.heap.size, 0, none⟩ = some (.int .i64 k) ∧ w'.cell? ⟨w.heap.size, 1, none⟩ = some (.int .i64 n) ∧ w'.cell? ⟨w.heap.size, 2, none⟩ = some (.string s) ∧ w'.cell? ⟨w.heap.size + 1, 0, none⟩ = some (.int .i64 k') ∧ w'.cell? ⟨w.heap.size + 1, 1, none⟩ = some (.int .i64 n') ∧ w'.cell? ⟨w.heap.size + 1, 2, none⟩ = some (.string s') ∧ w'.cell? ⟨g, 0, none⟩ = some (.int .i64 (cmpK k k')) ∧ w'.cell? ⟨g, 1, none⟩ = some (.int .i64 (cmpM k n k' n')) ∧ w'.cell? ⟨g, 2, none⟩ = some (.string (cmpT k s k' s')) ∧ w'.cell? ⟨w2.heap.size, 0, none⟩ = some (.int .i64 (cmpK k k')) ∧ w'.cell? ⟨w2.heap.size, 1, none⟩ = some (.int .i64 (cmpM k n k' n')) ∧ w'.cell? ⟨w2.heap.size, 2, none⟩ = some (.string (cmpT k s k' s'))) (first | (go_simp; done) | go_keep) (first | (go_at_call 8; refine (to_any _ _ _ _).mono ?_; rintro e w1 ⟨rfl, hb⟩; obtain ⟨hc, hf, hz⟩ := bcell hb (by first | (simp only [World.size_alloc, World.size_setCell, World.size_drew]; rfl) | rfl)) | (go_at_call 10; refine (same_any k n s k' n' s' false (by simp [hne]) _).mono ?_; rintro e w1 ⟨rfl, hb⟩; obtain ⟨hc, hf, hz⟩ := bcell hb (by first | (simp only [World.size_alloc, World.size_setCell, World.size_drew]; rfl) | rfl)) | (go_at_call 6; refine (awake_any _).mono ?_; rintro e w1 ⟨rfl, hb⟩; obtain ⟨hc, hf, hz⟩ := bcell hb (by first | (simp only [World.size_alloc, World.size_setCell, World.size_drew]; rfl) | rfl)))
    all_goals go_wp2_with fail
    all_goals go_ret
    all_goals exact ⟨rfl, by (repeat' (first | (with_reducible exact Below.refl _ _) | (with_reducible assumption) | (with_reducible refine Below.alloc ?_ ?_ _) | (with_reducible refine bel_drewN ?_ _) | (with_reducible refine Below.drew ?_) | (with_reducible refine Below.setCell ?_ ?_ _) | (with_reducible refine bel_call ‹_› ?_ ?_) | go_size))⟩
set_option maxHeartbeats 2000000 in
theorem orders_num (k n : Int) (s : ByteArray) (n' : Int) (s' : ByteArray) (w : World) (hr : rightB k n s = true) (hr' : rightB k n' s' = true) (hne : ¬ n = n') :
    Calls Try.prog 3 #[.agg #[.int .i64 k, .int .i64 n, .string s], .agg #[.int .i64 k, .int .i64 n', .string s']] w fun e w' => e = .returned (.bool true) ∧ Below w.heap.size w w' := by
  go_enter Try.func3, Try.ntmps3
  go_upto_region 3 with (go_at_call 5; refine (right_any _ _ _ _).mono ?_; rintro e w1 ⟨rfl, hb⟩; obtain ⟨hc, hf, hz⟩ := bcell hb (by first | (simp only [World.size_alloc, World.size_setCell, World.size_drew]; rfl) | rfl))
  go_cut [5, 6] (fun s5 s6 wx => ∃ g : Nat, s5 = .int .i64 (cmpN k n s k n' s') ∧ s6 = .pointer (some ⟨g, 0, none⟩) ∧ wx.cell? ⟨w.heap.size, 0, none⟩ = some (.int .i64 k) ∧ wx.cell? ⟨w.heap.size, 1, none⟩ = some (.int .i64 n) ∧ wx.cell? ⟨w.heap.size, 2, none⟩ = some (.string s) ∧ wx.cell? ⟨w.heap.size + 1, 0, none⟩ = some (.int .i64 k) ∧ wx.cell? ⟨w.heap.size + 1, 1, none⟩ = some (.int .i64 n') ∧ wx.cell? ⟨w.heap.size + 1, 2, none⟩ = some (.string s') ∧ wx.cell? ⟨g, 0, none⟩ = some (.int .i64 (cmpK k k)) ∧ wx.cell? ⟨g, 1, none⟩ = some (.int .i64 (cmpM k n k n')) ∧ wx.cell? ⟨g, 2, none⟩ = some (.string (cmpT k s k s')) ∧ Below w.heap.size w wx ∧ w.heap.size + 2 ≤ g ∧ g + 1 ≤ wx.heap.size)
  case first =>
    go_region_held3 (fun w' => w'.cell? ⟨w.heap.size, 0, none⟩ = some (.int .i64 k) ∧ w'.cell? ⟨w.heap.size, 1, none⟩ = some (.int .i64 n) ∧ w'.cell? ⟨w.heap.size, 2, none⟩ = some (.string s) ∧ w'.cell? ⟨w.heap.size + 1, 0, none⟩ = some (.int .i64 k) ∧ w'.cell? ⟨w.heap.size + 1, 1, none⟩ = some (.int .i64 n') ∧ w'.cell? ⟨w.heap.size + 1, 2, none⟩ = some (.string s')) (first | (go_simp; done) | go_keep) (first | (go_at_call 8; refine (to_any _ _ _ _).mono ?_; rintro e w1 ⟨rfl, hb⟩; obtain ⟨hc, hf, hz⟩ := bcell hb (by first | (simp only [World.size_alloc, World.size_setCell, World.size_drew]; rfl) | rfl)) | (go_at_call 7; refine (compare_any _ _ _ _ _ _ _).mono ?_; rintro e w1 ⟨rfl, hb⟩; obtain ⟨hc, hf, hz⟩ := bcell hb (by first | (simp only [World.size_alloc, World.size_setCell, World.size_drew]; rfl) | rfl)))
    all_goals go_wp2_with fail
    all_goals go_meet
    all_goals refine ⟨_, rfl, rfl, ?_, ?_, ?_, ?_, ?_, ?_, ?_, ?_, ?_, ?_, ?_, ?_⟩
    all_goals first | (go_simp; done) | omega | (simp only [World.size_alloc, World.size_setCell, World.size_drew]; omega) | skip
    all_goals (repeat' (first | (with_reducible exact Below.refl _ _) | (with_reducible assumption) | (with_reducible refine Below.alloc ?_ ?_ _) | (with_reducible refine bel_drewN ?_ _) | (with_reducible refine Below.drew ?_) | (with_reducible refine Below.setCell ?_ ?_ _) | (with_reducible refine bel_call ‹_› ?_ ?_) | go_size))
  case rest =>
    obtain ⟨g, rfl, rfl, c0, c1, c2, c3, c4, c5, d0, d1, d2, hbw, hg1, hg2⟩ := hcut
    clear hr hr'
    go_wp2_with fail
    refine (refCompare_any _ _ _ _ _ _ _).mono ?_
    rintro e w2 ⟨rfl, hb⟩
    obtain ⟨hc, hf, hz⟩ := bcell hb (by first | (simp only [World.size_alloc, World.size_setCell, World.size_drew]; rfl) | rfl)
    go_wp2_with fail
    go_region_held3 (fun w' => w'.cell? ⟨w.heap.size, 0, none⟩ = some (.int .i64 k) ∧ w'.cell? ⟨w.heap.size, 1, none⟩ = some (.int .i64 n) ∧ w'.cell? ⟨w.heap.size, 2, none⟩ = some (.string s) ∧ w'.cell? ⟨w.heap.size + 1, 0, none⟩ = some (.int .i64 k) ∧ w'.cell? ⟨w.heap.size + 1, 1, none⟩ = some (.int .i64 n') ∧ w'.cell? ⟨w.heap.size + 1, 2, none⟩ = some (.string s') ∧ w'.cell? ⟨g, 0, none⟩ = some (.int .i64 (cmpK k k)) ∧ w'.cell? ⟨g, 1, none⟩ = some (.int .i64 (cmpM k n k n')) ∧ w'.cell? ⟨g, 2, none⟩ = some (.string (cmpT k s k s')) ∧ w'.cell? ⟨w2.heap.size, 0, none⟩ = some (.int .i64 (cmpK k k)) ∧ w'.cell? ⟨w2.heap.size, 1, none⟩ = some (.int .i64 (cmpM k n k n')) ∧ w'.cell? ⟨w2.heap.size, 2, none⟩ = some (.string (cmpT k s k s'))) (first | (go_simp; done) | go_keep) (first | (go_at_call 8; refine (to_any _ _ _ _).mono ?_; rintro e w1 ⟨rfl, hb⟩; obtain ⟨hc, hf, hz⟩ := bcell hb (by first | (simp only [World.size_alloc, World.size_setCell, World.size_drew]; rfl) | rfl)) | (go_at_call 10; refine (same_any k n s k n' s' false (by simp [hne]) _).mono ?_; rintro e w1 ⟨rfl, hb⟩; obtain ⟨hc, hf, hz⟩ := bcell hb (by first | (simp only [World.size_alloc, World.size_setCell, World.size_drew]; rfl) | rfl)) | (go_at_call 6; refine (awake_any _).mono ?_; rintro e w1 ⟨rfl, hb⟩; obtain ⟨hc, hf, hz⟩ := bcell hb (by first | (simp only [World.size_alloc, World.size_setCell, World.size_drew]; rfl) | rfl)))
    all_goals go_wp2_with fail
    all_goals go_ret
    all_goals exact ⟨rfl, by (repeat' (first | (with_reducible exact Below.refl _ _) | (with_reducible assumption) | (with_reducible refine Below.alloc ?_ ?_ _) | (with_reducible refine bel_drewN ?_ _) | (with_reducible refine Below.drew ?_) | (with_reducible refine Below.setCell ?_ ?_ _) | (with_reducible refine bel_call ‹_› ?_ ?_) | go_size))⟩
set_option maxHeartbeats 2000000 in
theorem orders_text (k n : Int) (s : ByteArray) (s' : ByteArray) (w : World) (hr : rightB k n s = true) (hr' : rightB k n s' = true) (hne : ¬ s.toList = s'.toList) :
    Calls Try.prog 3 #[.agg #[.int .i64 k, .int .i64 n, .string s], .agg #[.int .i64 k, .int .i64 n, .string s']] w fun e w' => e = .returned (.bool true) ∧ Below w.heap.size w w' := by
  go_enter Try.func3, Try.ntmps3
  go_upto_region 3 with (go_at_call 5; refine (right_any _ _ _ _).mono ?_; rintro e w1 ⟨rfl, hb⟩; obtain ⟨hc, hf, hz⟩ := bcell hb (by first | (simp only [World.size_alloc, World.size_setCell, World.size_drew]; rfl) | rfl))
  go_cut [5, 6] (fun s5 s6 wx => ∃ g : Nat, s5 = .int .i64 (cmpN k n s k n s') ∧ s6 = .pointer (some ⟨g, 0, none⟩) ∧ wx.cell? ⟨w.heap.size, 0, none⟩ = some (.int .i64 k) ∧ wx.cell? ⟨w.heap.size, 1, none⟩ = some (.int .i64 n) ∧ wx.cell? ⟨w.heap.size, 2, none⟩ = some (.string s) ∧ wx.cell? ⟨w.heap.size + 1, 0, none⟩ = some (.int .i64 k) ∧ wx.cell? ⟨w.heap.size + 1, 1, none⟩ = some (.int .i64 n) ∧ wx.cell? ⟨w.heap.size + 1, 2, none⟩ = some (.string s') ∧ wx.cell? ⟨g, 0, none⟩ = some (.int .i64 (cmpK k k)) ∧ wx.cell? ⟨g, 1, none⟩ = some (.int .i64 (cmpM k n k n)) ∧ wx.cell? ⟨g, 2, none⟩ = some (.string (cmpT k s k s')) ∧ Below w.heap.size w wx ∧ w.heap.size + 2 ≤ g ∧ g + 1 ≤ wx.heap.size)
  case first =>
    go_region_held3 (fun w' => w'.cell? ⟨w.heap.size, 0, none⟩ = some (.int .i64 k) ∧ w'.cell? ⟨w.heap.size, 1, none⟩ = some (.int .i64 n) ∧ w'.cell? ⟨w.heap.size, 2, none⟩ = some (.string s) ∧ w'.cell? ⟨w.heap.size + 1, 0, none⟩ = some (.int .i64 k) ∧ w'.cell? ⟨w.heap.size + 1, 1, none⟩ = some (.int .i64 n) ∧ w'.cell? ⟨w.heap.size + 1, 2, none⟩ = some (.string s')) (first | (go_simp; done) | go_keep) (first | (go_at_call 8; refine (to_any _ _ _ _).mono ?_; rintro e w1 ⟨rfl, hb⟩; obtain ⟨hc, hf, hz⟩ := bcell hb (by first | (simp only [World.size_alloc, World.size_setCell, World.size_drew]; rfl) | rfl)) | (go_at_call 7; refine (compare_any _ _ _ _ _ _ _).mono ?_; rintro e w1 ⟨rfl, hb⟩; obtain ⟨hc, hf, hz⟩ := bcell hb (by first | (simp only [World.size_alloc, World.size_setCell, World.size_drew]; rfl) | rfl)))
    all_goals go_wp2_with fail
    all_goals go_meet
    all_goals refine ⟨_, rfl, rfl, ?_, ?_, ?_, ?_, ?_, ?_, ?_, ?_, ?_, ?_, ?_, ?_⟩
    all_goals first | (go_simp; done) | omega | (simp only [World.size_alloc, World.size_setCell, World.size_drew]; omega) | skip
    all_goals (repeat' (first | (with_reducible exact Below.refl _ _) | (with_reducible assumption) | (with_reducible refine Below.alloc ?_ ?_ _) | (with_reducible refine bel_drewN ?_ _) | (with_reducible refine Below.drew ?_) | (with_reducible refine Below.setCell ?_ ?_ _) | (with_reducible refine bel_call ‹_› ?_ ?_) | go_size))
  case rest =>
    obtain ⟨g, rfl, rfl, c0, c1, c2, c3, c4, c5, d0, d1, d2, hbw, hg1, hg2⟩ := hcut
    clear hr hr'
    go_wp2_with fail
    refine (refCompare_any _ _ _ _ _ _ _).mono ?_
    rintro e w2 ⟨rfl, hb⟩
    obtain ⟨hc, hf, hz⟩ := bcell hb (by first | (simp only [World.size_alloc, World.size_setCell, World.size_drew]; rfl) | rfl)
    go_wp2_with fail
    go_region_held3 (fun w' => w'.cell? ⟨w.heap.size, 0, none⟩ = some (.int .i64 k) ∧ w'.cell? ⟨w.heap.size, 1, none⟩ = some (.int .i64 n) ∧ w'.cell? ⟨w.heap.size, 2, none⟩ = some (.string s) ∧ w'.cell? ⟨w.heap.size + 1, 0, none⟩ = some (.int .i64 k) ∧ w'.cell? ⟨w.heap.size + 1, 1, none⟩ = some (.int .i64 n) ∧ w'.cell? ⟨w.heap.size + 1, 2, none⟩ = some (.string s') ∧ w'.cell? ⟨g, 0, none⟩ = some (.int .i64 (cmpK k k)) ∧ w'.cell? ⟨g, 1, none⟩ = some (.int .i64 (cmpM k n k n)) ∧ w'.cell? ⟨g, 2, none⟩ = some (.string (cmpT k s k s')) ∧ w'.cell? ⟨w2.heap.size, 0, none⟩ = some (.int .i64 (cmpK k k)) ∧ w'.cell? ⟨w2.heap.size, 1, none⟩ = some (.int .i64 (cmpM k n k n)) ∧ w'.cell? ⟨w2.heap.size, 2, none⟩ = some (.string (cmpT k s k s'))) (first | (go_simp; done) | go_keep) (first | (go_at_call 8; refine (to_any _ _ _ _).mono ?_; rintro e w1 ⟨rfl, hb⟩; obtain ⟨hc, hf, hz⟩ := bcell hb (by first | (simp only [World.size_alloc, World.size_setCell, World.size_drew]; rfl) | rfl)) | (go_at_call 10; refine (same_any k n s k n s' false (by simp [hne]) _).mono ?_; rintro e w1 ⟨rfl, hb⟩; obtain ⟨hc, hf, hz⟩ := bcell hb (by first | (simp only [World.size_alloc, World.size_setCell, World.size_drew]; rfl) | rfl)) | (go_at_call 6; refine (awake_any _).mono ?_; rintro e w1 ⟨rfl, hb⟩; obtain ⟨hc, hf, hz⟩ := bcell hb (by first | (simp only [World.size_alloc, World.size_setCell, World.size_drew]; rfl) | rfl)))
    all_goals go_wp2_with fail
    all_goals go_ret
    all_goals exact ⟨rfl, by (repeat' (first | (with_reducible exact Below.refl _ _) | (with_reducible assumption) | (with_reducible refine Below.alloc ?_ ?_ _) | (with_reducible refine bel_drewN ?_ _) | (with_reducible refine Below.drew ?_) | (with_reducible refine Below.setCell ?_ ?_ _) | (with_reducible refine bel_call ‹_› ?_ ?_) | go_size))⟩
set_option maxHeartbeats 1000000 in
theorem orders_not (k n : Int) (s : ByteArray) (k' n' : Int) (s' : ByteArray) (w : World) (hr : rightB k n s = false ∨ (rightB k n s = true ∧ rightB k' n' s' = false)) :
    Calls Try.prog 3 #[.agg #[.int .i64 k, .int .i64 n, .string s], .agg #[.int .i64 k', .int .i64 n', .string s']] w fun e w' => e = .returned (.bool true) ∧ Below w.heap.size w w' := by
  rcases hr with hr | ⟨hr, hr'⟩
  all_goals go_enter Try.func3, Try.ntmps3
  all_goals go_wp2_with (first | (go_at_call 5; refine (right_any _ _ _ _).mono ?_; rintro e w1 ⟨rfl, hb⟩; obtain ⟨hc, hf, hz⟩ := bcell hb (by first | (simp only [World.size_alloc, World.size_setCell, World.size_drew]; rfl) | rfl)) | (go_at_call 6; refine (awake_any _).mono ?_; rintro e w1 ⟨rfl, hb⟩; obtain ⟨hc, hf, hz⟩ := bcell hb (by first | (simp only [World.size_alloc, World.size_setCell, World.size_drew]; rfl) | rfl)))
  all_goals go_ret
  all_goals exact ⟨rfl, by (repeat' (first | (with_reducible exact Below.refl _ _) | (with_reducible assumption) | (with_reducible refine Below.alloc ?_ ?_ _) | (with_reducible refine bel_drewN ?_ _) | (with_reducible refine Below.drew ?_) | (with_reducible refine Below.setCell ?_ ?_ _) | (with_reducible refine bel_call ‹_› ?_ ?_) | go_size))⟩

theorem orders_walk (k n : Int) (s : ByteArray) (k' n' : Int) (s' : ByteArray) (w : World) :
    Calls Try.prog 3 #[.agg #[.int .i64 k, .int .i64 n, .string s], .agg #[.int .i64 k', .int .i64 n', .string s']] w fun e w' => e = .returned (.bool true) ∧ Below w.heap.size w w' := by
  cases hr : rightB k n s
  · exact orders_not k n s k' n' s' w (.inl hr)
  cases hr' : rightB k' n' s'
  · exact orders_not k n s k' n' s' w (.inr ⟨hr, hr'⟩)
  by_cases h1 : k = k'
  · subst h1
    by_cases h2 : n = n'
    · subst h2
      by_cases h3 : s = s'
      · subst h3
        exact orders_same k n s w hr hr'
      · exact orders_text k n s s' w hr hr' (fun e => h3 (by rw [Lib.toList_data, Lib.toList_data] at e; exact ByteArray.ext (Array.toList_inj.1 e)))
    · exact orders_num k n s n' s' w hr hr' h2
  · exact orders_kind k n s k' n' s' w hr hr' h1
end Go.Proofs.Ytocfhdalhcpcaaa
