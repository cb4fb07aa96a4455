/- The law ValueTells: the walk. -/
import Derived.Test.YtocfhdalhcpcaaaDoorTelB
import Derived.Deep.DeepCutAuto
set_option linter.unusedSimpArgs false
set_option linter.unusedVariables false
namespace Go.Proofs.YtocfhdalhcpcaaaDoor.Val
open Go.RowKit

set_option maxRecDepth 100000 in
set_option maxHeartbeats 2000000 in
theorem tells_yes (k n : Int) (s : ByteArray) (hr : rightB k n s = true) (hn1 : -9223372036854775808 ≤ n) (hn2 : n ≤ 9223372036854775807) (w : World) (hsh : w.ShapedOpen Tryd.prog) :
    Calls Tryd.prog 3 #[.agg #[.int .i64 k, .int .i64 n, .string s]] w fun e w' => e = .returned (.bool true) ∧ Below w.heap.size w w' := by
  have HSH := Lib.hid hsh
  clear hsh
  have hk : k = 0 ∨ k = 1 ∨ k = 2 ∨ k = 3 := by
    simp [rightB] at hr
    omega
  have hs : s.size ≤ 900 := by
    simp [rightB] at hr
    omega
  have CN := Lib.hid (fun W hW => number_any k n s hk hs W hW)
  have CR := Lib.hid (fun W => refNumber_any k n s hk hs W)
  have CS := Lib.hid (fun W => string_any k n s hn1 hn2 W)
  have CH := Lib.hid (fun W => show_any k n s hn1 hn2 W)
  have CG := Lib.hid (fun W => refShow_any k n s hn1 hn2 W)
  have HB := Lib.hid hr
  clear hn1 hn2 hk hs hr
  go_enter Tryd.func3, Tryd.ntmps3
  go_wp2_with fail
  refine (right_any k n s _).mono ?_
  rw [HB.out]
  rintro e w1 ⟨rfl, hb1⟩
  obtain ⟨hc1, hf1, hz1⟩ := bcell hb1 (by first | (simp only [World.size_alloc, World.size_setCell, World.size_drew]; rfl) | rfl)
  go_wp2_with fail
  refine (to_any k n s _).mono ?_
  rintro e w2 ⟨rfl, hb2⟩
  obtain ⟨hc2, hf2, hz2⟩ := bcell hb2 (by first | (simp only [World.size_alloc, World.size_setCell, World.size_drew]; rfl) | rfl)
  go_wp2_with fail
  refine (CN.out _ (shaped_below HSH.out (by (repeat' (first | (with_reducible exact Below.refl _ _) | (with_reducible assumption) | (with_reducible refine Below.alloc ?_ ?_ _) | (with_reducible refine bel_drewN ?_ _) | (with_reducible refine Below.drew ?_) | (with_reducible refine Below.setCell ?_ ?_ _) | (with_reducible refine bel_call ‹_› ?_ ?_) | go_size))))).mono ?_
  rintro e w3 ⟨rfl, hb3⟩
  obtain ⟨hc3, hf3, hz3⟩ := bcell hb3 (by first | (simp only [World.size_alloc, World.size_setCell, World.size_drew]; rfl) | rfl)
  go_wp2_with fail
  refine (CR.out _).mono ?_
  rintro e w4 ⟨rfl, hb4⟩
  obtain ⟨hc4, hf4, hz4⟩ := bcell hb4 (by first | (simp only [World.size_alloc, World.size_setCell, World.size_drew]; rfl) | rfl)
  go_wp2_with fail
  refine (CS.out _).mono ?_
  rintro e w5 ⟨rfl, hb5⟩
  obtain ⟨hc5, hf5, hz5⟩ := bcell hb5 (by first | (simp only [World.size_alloc, World.size_setCell, World.size_drew]; rfl) | rfl)
  go_wp2_with fail
  refine (CG.out _).mono ?_
  rintro e w6 ⟨rfl, hb6⟩
  obtain ⟨hc6, hf6, hz6⟩ := bcell hb6 (by first | (simp only [World.size_alloc, World.size_setCell, World.size_drew]; rfl) | rfl)
  go_upto_if 38 with fail
  go_cut [10] (fun v10 wx => v10 = .string ⟨(strL k n s).toArray⟩ ∧ wx.cell? ⟨w.heap.size, 0, none⟩ = some (.int .i64 k) ∧ wx.cell? ⟨w.heap.size, 1, none⟩ = some (.int .i64 n) ∧ wx.cell? ⟨w.heap.size, 2, none⟩ = some (.string s) ∧ wx.cell? ⟨w2.heap.size, 0, none⟩ = some (.int .i64 k) ∧ wx.cell? ⟨w2.heap.size, 1, none⟩ = some (.int .i64 n) ∧ wx.cell? ⟨w2.heap.size, 2, none⟩ = some (.string s) ∧ wx.cell? ⟨w3.heap.size, 0, none⟩ = some (.int .i64 (numK k s)) ∧ wx.cell? ⟨w3.heap.size, 1, none⟩ = some (.int .i64 (numM k n)) ∧ wx.cell? ⟨w3.heap.size, 2, none⟩ = some (.string (numT k s)) ∧ wx.cell? ⟨w4.heap.size, 0, none⟩ = some (.int .i64 (numK k s)) ∧ wx.cell? ⟨w4.heap.size, 1, none⟩ = some (.int .i64 (numM k n)) ∧ wx.cell? ⟨w4.heap.size, 2, none⟩ = some (.string (numT k s)) ∧ wx.cell? ⟨w5.heap.size, 0, none⟩ = some (.int .i64 (strK k)) ∧ wx.cell? ⟨w5.heap.size, 1, none⟩ = some (.int .i64 (strM k n)) ∧ wx.cell? ⟨w5.heap.size, 2, none⟩ = some (.string (strT k s)) ∧ wx.cell? ⟨w6.heap.size, 0, none⟩ = some (.int .i64 (strK k)) ∧ wx.cell? ⟨w6.heap.size, 1, none⟩ = some (.int .i64 (strM k n)) ∧ wx.cell? ⟨w6.heap.size, 2, none⟩ = some (.string (strT k s)) ∧ Below w.heap.size w wx ∧ w6.heap.size + 1 ≤ wx.heap.size)
  case first =>
    by_cases hk3 : k = 3
    · subst hk3
      have E2 := Lib.hid (show strK 3 = 3 from rfl)
      have E3 := Lib.hid (show strM 3 n = n from rfl)
      have E4 := Lib.hid (show strT 3 s = s from rfl)
      go_wp2_with fail
      all_goals try (go_region; go_wp2)
      all_goals go_meet
      all_goals refine ⟨rfl, ?_, ?_, ?_, ?_, ?_, ?_, ?_, ?_, ?_, ?_, ?_, ?_, ?_, ?_, ?_, ?_, ?_, ?_, ?_, ?_⟩
      all_goals first | (go_simp; done) | (rw [E2.out]; go_simp; done) | (rw [E3.out]; go_simp; done) | (rw [E4.out]; go_simp; done) | (simp only [World.size_alloc, World.size_setCell, World.size_drew]; omega) | skip
      all_goals (repeat' (first | (with_reducible exact Below.refl _ _) | (with_reducible assumption) | (with_reducible refine Below.alloc ?_ ?_ _) | (with_reducible refine bel_drewN ?_ _) | (with_reducible refine Below.drew ?_) | (with_reducible refine Below.setCell ?_ ?_ _) | (with_reducible refine bel_call ‹_› ?_ ?_) | go_size))
    · have e1 : strL k n s = shwL k n s := if_neg hk3
      have E1 := Lib.hid e1
      have E2 := Lib.hid (show strK k = 0 from if_neg hk3)
      have E3 := Lib.hid (show strM k n = 0 from if_neg hk3)
      have E4 := Lib.hid (show strT k s = ⟨#[]⟩ from if_neg hk3)
      have hk' : (k == 3) = false := by simp [hk3]
      clear e1 hk3
      go_wp2_with fail
      all_goals go_meet
      all_goals refine ⟨by rw [E1.out], ?_, ?_, ?_, ?_, ?_, ?_, ?_, ?_, ?_, ?_, ?_, ?_, ?_, ?_, ?_, ?_, ?_, ?_, ?_, ?_⟩
      all_goals first | (go_simp; done) | (rw [E2.out]; go_simp; done) | (rw [E3.out]; go_simp; done) | (rw [E4.out]; go_simp; done) | (simp only [World.size_alloc, World.size_setCell, World.size_drew]; omega) | skip
      all_goals (repeat' (first | (with_reducible exact Below.refl _ _) | (with_reducible assumption) | (with_reducible refine Below.alloc ?_ ?_ _) | (with_reducible refine bel_drewN ?_ _) | (with_reducible refine Below.drew ?_) | (with_reducible refine Below.setCell ?_ ?_ _) | (with_reducible refine bel_call ‹_› ?_ ?_) | go_size))
  case rest =>
    obtain ⟨rfl, r0, r1, r2, r3, r4, r5, r6, r7, r8, r9, r10, r11, r12, r13, r14, r15, r16, r17, hbx, hzx⟩ := hcut
    have hq6 : w.heap.size ≤ w2.heap.size ∧ w2.heap.size < w3.heap.size ∧ w3.heap.size < w4.heap.size ∧ w4.heap.size < w5.heap.size ∧ w5.heap.size < w6.heap.size ∧ w.heap.size < wc.heap.size ∧ w2.heap.size < wc.heap.size ∧ w3.heap.size < wc.heap.size ∧ w4.heap.size < wc.heap.size ∧ w5.heap.size < wc.heap.size ∧ w6.heap.size < wc.heap.size := by omega
    obtain ⟨q1, q2, q3, q4, q5, q6, q7, q8, q9, q10, q11⟩ := hq6
    clear hc1 hf1 hc2 hf2 hc3 hf3 hc4 hf4 hc5 hf5 hc6 hf6 hb1 hb2 hb3 hb4 hb5 hb6
    go_wp2_with fail
    go_region_held3 (fun w' => w'.cell? ⟨w.heap.size, 0, none⟩ = some (.int .i64 k) ∧ w'.cell? ⟨w.heap.size, 1, none⟩ = some (.int .i64 n) ∧ w'.cell? ⟨w.heap.size, 2, none⟩ = some (.string s) ∧ w'.cell? ⟨w2.heap.size, 0, none⟩ = some (.int .i64 k) ∧ w'.cell? ⟨w2.heap.size, 1, none⟩ = some (.int .i64 n) ∧ w'.cell? ⟨w2.heap.size, 2, none⟩ = some (.string s) ∧ w'.cell? ⟨w3.heap.size, 0, none⟩ = some (.int .i64 (numK k s)) ∧ w'.cell? ⟨w3.heap.size, 1, none⟩ = some (.int .i64 (numM k n)) ∧ w'.cell? ⟨w3.heap.size, 2, none⟩ = some (.string (numT k s)) ∧ w'.cell? ⟨w4.heap.size, 0, none⟩ = some (.int .i64 (numK k s)) ∧ w'.cell? ⟨w4.heap.size, 1, none⟩ = some (.int .i64 (numM k n)) ∧ w'.cell? ⟨w4.heap.size, 2, none⟩ = some (.string (numT k s)) ∧ w'.cell? ⟨w5.heap.size, 0, none⟩ = some (.int .i64 (strK k)) ∧ w'.cell? ⟨w5.heap.size, 1, none⟩ = some (.int .i64 (strM k n)) ∧ w'.cell? ⟨w5.heap.size, 2, none⟩ = some (.string (strT k s)) ∧ w'.cell? ⟨w6.heap.size, 0, none⟩ = some (.int .i64 (strK k)) ∧ w'.cell? ⟨w6.heap.size, 1, none⟩ = some (.int .i64 (strM k n)) ∧ w'.cell? ⟨w6.heap.size, 2, none⟩ = some (.string (strT k s))) (exact ⟨(Below.cell (B := wc.heap.size) (w := wc) (p := ⟨w.heap.size, 0, none⟩) (by (repeat' (first | (with_reducible exact Below.refl _ _) | (with_reducible assumption) | (with_reducible refine Below.alloc ?_ ?_ _) | (with_reducible refine bel_drewN ?_ _) | (with_reducible refine Below.drew ?_) | (with_reducible refine Below.setCell ?_ ?_ _) | (with_reducible refine bel_call ‹_› ?_ ?_) | go_size))) (by show _ < _; omega)).trans r0, (Below.cell (B := wc.heap.size) (w := wc) (p := ⟨w.heap.size, 1, none⟩) (by (repeat' (first | (with_reducible exact Below.refl _ _) | (with_reducible assumption) | (with_reducible refine Below.alloc ?_ ?_ _) | (with_reducible refine bel_drewN ?_ _) | (with_reducible refine Below.drew ?_) | (with_reducible refine Below.setCell ?_ ?_ _) | (with_reducible refine bel_call ‹_› ?_ ?_) | go_size))) (by show _ < _; omega)).trans r1, (Below.cell (B := wc.heap.size) (w := wc) (p := ⟨w.heap.size, 2, none⟩) (by (repeat' (first | (with_reducible exact Below.refl _ _) | (with_reducible assumption) | (with_reducible refine Below.alloc ?_ ?_ _) | (with_reducible refine bel_drewN ?_ _) | (with_reducible refine Below.drew ?_) | (with_reducible refine Below.setCell ?_ ?_ _) | (with_reducible refine bel_call ‹_› ?_ ?_) | go_size))) (by show _ < _; omega)).trans r2, (Below.cell (B := wc.heap.size) (w := wc) (p := ⟨w2.heap.size, 0, none⟩) (by (repeat' (first | (with_reducible exact Below.refl _ _) | (with_reducible assumption) | (with_reducible refine Below.alloc ?_ ?_ _) | (with_reducible refine bel_drewN ?_ _) | (with_reducible refine Below.drew ?_) | (with_reducible refine Below.setCell ?_ ?_ _) | (with_reducible refine bel_call ‹_› ?_ ?_) | go_size))) (by show _ < _; omega)).trans r3, (Below.cell (B := wc.heap.size) (w := wc) (p := ⟨w2.heap.size, 1, none⟩) (by (repeat' (first | (with_reducible exact Below.refl _ _) | (with_reducible assumption) | (with_reducible refine Below.alloc ?_ ?_ _) | (with_reducible refine bel_drewN ?_ _) | (with_reducible refine Below.drew ?_) | (with_reducible refine Below.setCell ?_ ?_ _) | (with_reducible refine bel_call ‹_› ?_ ?_) | go_size))) (by show _ < _; omega)).trans r4, (Below.cell (B := wc.heap.size) (w := wc) (p := ⟨w2.heap.size, 2, none⟩) (by (repeat' (first | (with_reducible exact Below.refl _ _) | (with_reducible assumption) | (with_reducible refine Below.alloc ?_ ?_ _) | (with_reducible refine bel_drewN ?_ _) | (with_reducible refine Below.drew ?_) | (with_reducible refine Below.setCell ?_ ?_ _) | (with_reducible refine bel_call ‹_› ?_ ?_) | go_size))) (by show _ < _; omega)).trans r5, (Below.cell (B := wc.heap.size) (w := wc) (p := ⟨w3.heap.size, 0, none⟩) (by (repeat' (first | (with_reducible exact Below.refl _ _) | (with_reducible assumption) | (with_reducible refine Below.alloc ?_ ?_ _) | (with_reducible refine bel_drewN ?_ _) | (with_reducible refine Below.drew ?_) | (with_reducible refine Below.setCell ?_ ?_ _) | (with_reducible refine bel_call ‹_› ?_ ?_) | go_size))) (by show _ < _; omega)).trans r6, (Below.cell (B := wc.heap.size) (w := wc) (p := ⟨w3.heap.size, 1, none⟩) (by (repeat' (first | (with_reducible exact Below.refl _ _) | (with_reducible assumption) | (with_reducible refine Below.alloc ?_ ?_ _) | (with_reducible refine bel_drewN ?_ _) | (with_reducible refine Below.drew ?_) | (with_reducible refine Below.setCell ?_ ?_ _) | (with_reducible refine bel_call ‹_› ?_ ?_) | go_size))) (by show _ < _; omega)).trans r7, (Below.cell (B := wc.heap.size) (w := wc) (p := ⟨w3.heap.size, 2, none⟩) (by (repeat' (first | (with_reducible exact Below.refl _ _) | (with_reducible assumption) | (with_reducible refine Below.alloc ?_ ?_ _) | (with_reducible refine bel_drewN ?_ _) | (with_reducible refine Below.drew ?_) | (with_reducible refine Below.setCell ?_ ?_ _) | (with_reducible refine bel_call ‹_› ?_ ?_) | go_size))) (by show _ < _; omega)).trans r8, (Below.cell (B := wc.heap.size) (w := wc) (p := ⟨w4.heap.size, 0, none⟩) (by (repeat' (first | (with_reducible exact Below.refl _ _) | (with_reducible assumption) | (with_reducible refine Below.alloc ?_ ?_ _) | (with_reducible refine bel_drewN ?_ _) | (with_reducible refine Below.drew ?_) | (with_reducible refine Below.setCell ?_ ?_ _) | (with_reducible refine bel_call ‹_› ?_ ?_) | go_size))) (by show _ < _; omega)).trans r9, (Below.cell (B := wc.heap.size) (w := wc) (p := ⟨w4.heap.size, 1, none⟩) (by (repeat' (first | (with_reducible exact Below.refl _ _) | (with_reducible assumption) | (with_reducible refine Below.alloc ?_ ?_ _) | (with_reducible refine bel_drewN ?_ _) | (with_reducible refine Below.drew ?_) | (with_reducible refine Below.setCell ?_ ?_ _) | (with_reducible refine bel_call ‹_› ?_ ?_) | go_size))) (by show _ < _; omega)).trans r10, (Below.cell (B := wc.heap.size) (w := wc) (p := ⟨w4.heap.size, 2, none⟩) (by (repeat' (first | (with_reducible exact Below.refl _ _) | (with_reducible assumption) | (with_reducible refine Below.alloc ?_ ?_ _) | (with_reducible refine bel_drewN ?_ _) | (with_reducible refine Below.drew ?_) | (with_reducible refine Below.setCell ?_ ?_ _) | (with_reducible refine bel_call ‹_› ?_ ?_) | go_size))) (by show _ < _; omega)).trans r11, (Below.cell (B := wc.heap.size) (w := wc) (p := ⟨w5.heap.size, 0, none⟩) (by (repeat' (first | (with_reducible exact Below.refl _ _) | (with_reducible assumption) | (with_reducible refine Below.alloc ?_ ?_ _) | (with_reducible refine bel_drewN ?_ _) | (with_reducible refine Below.drew ?_) | (with_reducible refine Below.setCell ?_ ?_ _) | (with_reducible refine bel_call ‹_› ?_ ?_) | go_size))) (by show _ < _; omega)).trans r12, (Below.cell (B := wc.heap.size) (w := wc) (p := ⟨w5.heap.size, 1, none⟩) (by (repeat' (first | (with_reducible exact Below.refl _ _) | (with_reducible assumption) | (with_reducible refine Below.alloc ?_ ?_ _) | (with_reducible refine bel_drewN ?_ _) | (with_reducible refine Below.drew ?_) | (with_reducible refine Below.setCell ?_ ?_ _) | (with_reducible refine bel_call ‹_› ?_ ?_) | go_size))) (by show _ < _; omega)).trans r13, (Below.cell (B := wc.heap.size) (w := wc) (p := ⟨w5.heap.size, 2, none⟩) (by (repeat' (first | (with_reducible exact Below.refl _ _) | (with_reducible assumption) | (with_reducible refine Below.alloc ?_ ?_ _) | (with_reducible refine bel_drewN ?_ _) | (with_reducible refine Below.drew ?_) | (with_reducible refine Below.setCell ?_ ?_ _) | (with_reducible refine bel_call ‹_› ?_ ?_) | go_size))) (by show _ < _; omega)).trans r14, (Below.cell (B := wc.heap.size) (w := wc) (p := ⟨w6.heap.size, 0, none⟩) (by (repeat' (first | (with_reducible exact Below.refl _ _) | (with_reducible assumption) | (with_reducible refine Below.alloc ?_ ?_ _) | (with_reducible refine bel_drewN ?_ _) | (with_reducible refine Below.drew ?_) | (with_reducible refine Below.setCell ?_ ?_ _) | (with_reducible refine bel_call ‹_› ?_ ?_) | go_size))) (by show _ < _; omega)).trans r15, (Below.cell (B := wc.heap.size) (w := wc) (p := ⟨w6.heap.size, 1, none⟩) (by (repeat' (first | (with_reducible exact Below.refl _ _) | (with_reducible assumption) | (with_reducible refine Below.alloc ?_ ?_ _) | (with_reducible refine bel_drewN ?_ _) | (with_reducible refine Below.drew ?_) | (with_reducible refine Below.setCell ?_ ?_ _) | (with_reducible refine bel_call ‹_› ?_ ?_) | go_size))) (by show _ < _; omega)).trans r16, (Below.cell (B := wc.heap.size) (w := wc) (p := ⟨w6.heap.size, 2, none⟩) (by (repeat' (first | (with_reducible exact Below.refl _ _) | (with_reducible assumption) | (with_reducible refine Below.alloc ?_ ?_ _) | (with_reducible refine bel_drewN ?_ _) | (with_reducible refine Below.drew ?_) | (with_reducible refine Below.setCell ?_ ?_ _) | (with_reducible refine bel_call ‹_› ?_ ?_) | go_size))) (by show _ < _; omega)).trans r17⟩) (first
      | (go_at_call 6; refine (to_any _ _ _ _).mono ?_; rintro e wq ⟨rfl, hbq⟩; obtain ⟨hcq, hfq, hzq⟩ := bcell hbq (by first | (simp only [World.size_alloc, World.size_setCell, World.size_drew]; rfl) | rfl))
      | (go_at_call 11; refine (CH.out _).mono ?_; rintro e wq ⟨rfl, hbq⟩; obtain ⟨hcq, hfq, hzq⟩ := bcell hbq (by first | (simp only [World.size_alloc, World.size_setCell, World.size_drew]; rfl) | rfl))
      | (go_at_call 10; refine (CG.out _).mono ?_; rintro e wq ⟨rfl, hbq⟩; obtain ⟨hcq, hfq, hzq⟩ := bcell hbq (by first | (simp only [World.size_alloc, World.size_setCell, World.size_drew]; rfl) | rfl))
      | (go_at_call 5; refine (awake_any _).mono ?_; rintro e wq ⟨rfl, hbq⟩; obtain ⟨hcq, hfq, hzq⟩ := bcell hbq (by first | (simp only [World.size_alloc, World.size_setCell, World.size_drew]; rfl) | rfl)))
    all_goals go_wp2_with fail
    all_goals go_ret
    all_goals exact ⟨rfl, by (repeat' (first | (with_reducible exact Below.refl _ _) | (with_reducible assumption) | (with_reducible refine Below.alloc ?_ ?_ _) | (with_reducible refine bel_drewN ?_ _) | (with_reducible refine Below.drew ?_) | (with_reducible refine Below.setCell ?_ ?_ _) | (with_reducible refine bel_call ‹_› ?_ ?_) | go_size))⟩

set_option maxRecDepth 100000 in
set_option maxHeartbeats 1000000 in
theorem tells_no (k n : Int) (s : ByteArray) (hr : rightB k n s = false) (w : World) :
    Calls Tryd.prog 3 #[.agg #[.int .i64 k, .int .i64 n, .string s]] w fun e w' => e = .returned (.bool true) ∧ Below w.heap.size w w' := by
  go_enter Tryd.func3, Tryd.ntmps3
  go_wp2_with fail
  refine (right_any k n s _).mono ?_
  rw [hr]
  rintro e w1 ⟨rfl, hb1⟩
  obtain ⟨hc1, hf1, hz1⟩ := bcell hb1 (by first | (simp only [World.size_alloc, World.size_setCell, World.size_drew]; rfl) | rfl)
  go_wp2_with fail
  refine (awake_any _).mono ?_
  rintro e w2 ⟨rfl, hb2⟩
  obtain ⟨hc2, hf2, hz2⟩ := bcell hb2 (by first | (simp only [World.size_alloc, World.size_setCell, World.size_drew]; rfl) | rfl)
  go_wp2_with fail
  go_ret
  exact ⟨rfl, by (repeat' (first | (with_reducible exact Below.refl _ _) | (with_reducible assumption) | (with_reducible refine Below.alloc ?_ ?_ _) | (with_reducible refine bel_drewN ?_ _) | (with_reducible refine Below.drew ?_) | (with_reducible refine Below.setCell ?_ ?_ _) | (with_reducible refine bel_call ‹_› ?_ ?_) | go_size))⟩

theorem tells_walk (k n : Int) (s : ByteArray) (hn1 : -9223372036854775808 ≤ n) (hn2 : n ≤ 9223372036854775807) (w : World) (hsh : w.ShapedOpen Tryd.prog) :
    Calls Tryd.prog 3 #[.agg #[.int .i64 k, .int .i64 n, .string s]] w fun e w' => e = .returned (.bool true) ∧ Below w.heap.size w w' := by
  cases hr : rightB k n s
  · exact tells_no k n s hr w
  · exact tells_yes k n s hr hn1 hn2 w hsh
end Go.Proofs.YtocfhdalhcpcaaaDoor.Val
