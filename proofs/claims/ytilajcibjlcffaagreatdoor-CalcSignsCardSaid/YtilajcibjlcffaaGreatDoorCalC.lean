/- Functions of formulas: the law's example: the small parts. -/
import Derived.Test.YtilajcibjlcffaaGreatDoorCalB
import Derived.Test.YtilajcibjlcffaaGreatDoorGauG
import Derived.Test.YtilajcibjlcffaaGreatDoorGauD
import Derived.Test.YtilajcibjlcffaaGreatDoorResR
set_option linter.unusedSimpArgs false
set_option linter.unusedVariables false

namespace Go.Proofs.YtilajcibjlcffaaGreatDoor.Gau
open Go.RowKit Go.Joins

abbrev tVl : TypeId := 28
abbrev tAr : TypeId := 38
set_option maxRecDepth 100000 in
set_option maxHeartbeats 1000000 in
theorem str_any (s : ByteArray) (w : World) : Calls Tryz.prog 13 #[.string s] w fun e w' => e = .returned (.agg #[.int .i64 2, .int .i64 0, .string s]) ∧ Below w.heap.size w w' := by
  go_enter Tryz.func13, Tryz.ntmps13
  go_wp2
  all_goals go_returns
  all_goals exact ⟨rfl, by (repeat' (first | (with_reducible exact Below.refl _ _) | (with_reducible assumption) | (with_reducible refine Below.alloc ?_ ?_ _) | (with_reducible refine bel_drewN ?_ _) | (with_reducible refine Below.drew ?_) | (with_reducible refine Below.setCell ?_ ?_ _) | (with_reducible refine bel_call ‹_› ?_ ?_) | go_size))⟩
set_option maxRecDepth 100000 in
set_option maxHeartbeats 1000000 in
theorem one_any (k n : Int) (s : ByteArray) (w : World) : Calls Tryz.prog 12 #[.agg #[.int .i64 k, .int .i64 n, .string s]] w fun e w' => (∃ g, e = .returned (.agg #[.bool false, .slice (some ⟨g, 0, none⟩) 1 1]) ∧ w'.heap[g]? = some (.cells #[.int .i64 k, .int .i64 n, .string s] tVl (0, 0))) ∧ Below w.heap.size w w' := by
  go_enter Tryz.func12, Tryz.ntmps12
  go_wp2
  refine bodyPost_ret (v := .agg #[.bool false, .slice (some ⟨w.heap.size + 1 + 1, 0, none⟩) 1 1]) (by simp only [results, Tryz.results12]; go_simp) rfl ⟨⟨w.heap.size + 1 + 1, rfl, ?_⟩, by (repeat' (first | (with_reducible exact Below.refl _ _) | (with_reducible assumption) | (with_reducible refine Below.alloc ?_ ?_ _) | (with_reducible refine bel_drewN ?_ _) | (with_reducible refine Below.drew ?_) | (with_reducible refine Below.setCell ?_ ?_ _) | (with_reducible refine bel_call ‹_› ?_ ?_) | go_size))⟩
  simp only [World.alloc, Array.getElem?_push, Array.size_push]
  (repeat (first | rfl | (rw [if_neg (by omega)]) | (rw [if_pos (by omega)])))
set_option maxRecDepth 100000 in
set_option maxHeartbeats 1000000 in
theorem first_any (g : Nat) (k n : Int) (s : ByteArray) (w : World) (h : w.heap[g]? = some (.cells #[.int .i64 k, .int .i64 n, .string s] tVl (0, 0))) : Calls Tryz.prog 36 #[.agg #[.bool false, .slice (some ⟨g, 0, none⟩) 1 1]] w fun e w' => e = .returned (.agg #[.int .i64 k, .int .i64 n, .string s]) ∧ Below w.heap.size w w' := by
  have c0 : w.cell? ⟨g, 0, none⟩ = some (.int .i64 k) := by rw [cell_of_block h]; rfl
  have c1 : w.cell? ⟨g, 1, none⟩ = some (.int .i64 n) := by rw [cell_of_block h]; rfl
  have c2 : w.cell? ⟨g, 2, none⟩ = some (.string s) := by rw [cell_of_block h]; rfl
  have hg := lt_some h
  clear h
  go_enter Tryz.func36, Tryz.ntmps36
  go_wp2
  refine bodyPost_ret (v := .agg #[.int .i64 k, .int .i64 n, .string s]) (by simp only [results, Tryz.results36]; go_simp) rfl ⟨rfl, by (repeat' (first | (with_reducible exact Below.refl _ _) | (with_reducible assumption) | (with_reducible refine Below.alloc ?_ ?_ _) | (with_reducible refine bel_drewN ?_ _) | (with_reducible refine Below.drew ?_) | (with_reducible refine Below.setCell ?_ ?_ _) | (with_reducible refine bel_call ‹_› ?_ ?_) | go_size))⟩
set_option maxRecDepth 100000 in
set_option maxHeartbeats 1000000 in
theorem failed_any (k n : Int) (s : ByteArray) (w : World) : Calls Tryz.prog 15 #[.agg #[.int .i64 k, .int .i64 n, .string s]] w fun e w' => e = .returned (.bool (k == 3)) ∧ Below w.heap.size w w' := by
  go_enter Tryz.func15, Tryz.ntmps15
  go_wp2
  all_goals go_ret
  all_goals exact ⟨rfl, by (repeat' (first | (with_reducible exact Below.refl _ _) | (with_reducible assumption) | (with_reducible refine Below.alloc ?_ ?_ _) | (with_reducible refine bel_drewN ?_ _) | (with_reducible refine Below.drew ?_) | (with_reducible refine Below.setCell ?_ ?_ _) | (with_reducible refine bel_call ‹_› ?_ ?_) | go_size))⟩
set_option maxRecDepth 100000 in
set_option maxHeartbeats 1000000 in
theorem show_2 (s : ByteArray) (w : World) : Calls Tryz.prog 75 #[.agg #[.int .i64 2, .int .i64 0, .string s]] w fun e w' => e = .returned (.string s) ∧ Below w.heap.size w w' := by
  go_enter Tryz.func75, Tryz.ntmps75
  go_wp2
  all_goals go_ret
  all_goals exact ⟨rfl, by (repeat' (first | (with_reducible exact Below.refl _ _) | (with_reducible assumption) | (with_reducible refine Below.alloc ?_ ?_ _) | (with_reducible refine bel_drewN ?_ _) | (with_reducible refine Below.drew ?_) | (with_reducible refine Below.setCell ?_ ?_ _) | (with_reducible refine bel_call ‹_› ?_ ?_) | go_size))⟩
set_option maxRecDepth 100000 in
set_option maxHeartbeats 1000000 in
theorem string_2 (s : ByteArray) (w : World) : Calls Tryz.prog 44 #[.agg #[.int .i64 2, .int .i64 0, .string s]] w fun e w' => e = .returned (.tuple #[.string s, .agg #[.int .i64 0, .int .i64 0, .string ⟨#[]⟩]]) ∧ Below w.heap.size w w' := by
  go_enter Tryz.func44, Tryz.ntmps44
  go_wp2_with fail
  refine (show_2 s _).mono ?_
  rintro e w1 ⟨rfl, hb⟩
  obtain ⟨hc, hf, hz⟩ := bcell hb (by first | (simp only [World.size_alloc, World.size_setCell, World.size_drew]; rfl) | rfl)
  go_wp2_with fail
  refine bodyPost_ret (v := .tuple #[.string s, .agg #[.int .i64 0, .int .i64 0, .string ⟨#[]⟩]]) (by simp only [results, Tryz.results44]; go_simp) rfl ⟨rfl, by (repeat' (first | (with_reducible exact Below.refl _ _) | (with_reducible assumption) | (with_reducible refine Below.alloc ?_ ?_ _) | (with_reducible refine bel_drewN ?_ _) | (with_reducible refine Below.drew ?_) | (with_reducible refine Below.setCell ?_ ?_ _) | (with_reducible refine bel_call ‹_› ?_ ?_) | go_size))⟩

/-! The second number of the example. -/
theorem dl_c (w : World) : Calls Tryz.prog 118 #[.string ⟨#[51, 45, 52]⟩] w fun e w' => e = .returned (.tuple #[.int .i32 52, .int .i64 1]) ∧ w = w' :=
  decodeLast_ascii ⟨#[51, 45, 52]⟩ 2 rfl (by decide) 52 (by decide) rfl (by omega) w
theorem dl_d (w : World) : Calls Tryz.prog 118 #[.string ⟨#[51, 45]⟩] w fun e w' => e = .returned (.tuple #[.int .i32 45, .int .i64 1]) ∧ w = w' :=
  decodeLast_ascii ⟨#[51, 45]⟩ 1 rfl (by decide) 45 (by decide) rfl (by omega) w
theorem ir_d (w : World) : Calls Tryz.prog 114 #[.string ⟨#[43, 45]⟩, .int .i32 45] w fun e w' => e = .returned (.int .i64 1) ∧ w = w' :=
  (Tryz.strings_IndexRune_ascii ⟨#[43, 45]⟩ 45 w (by omega) (by omega)).mono fun e w' ⟨h1, h2⟩ => ⟨h1.trans (by rfl), h2.symm⟩
set_option maxRecDepth 100000 in
set_option maxHeartbeats 1000000 in
theorem lastAny_b (w : World) : Calls Tryz.prog 105 #[.string ⟨#[51, 45, 52]⟩, .string ⟨#[43, 45]⟩] w fun e w' => e = .returned (.int .i64 1) ∧ w = w' := by
  have x1 : (⟨#[51, 45, 52]⟩ : ByteArray).extract 0 3 = ⟨#[51, 45, 52]⟩ := rfl
  have x2 : (⟨#[51, 45, 52]⟩ : ByteArray).extract 0 2 = ⟨#[51, 45]⟩ := rfl
  have z1 : (⟨#[51, 45, 52]⟩ : ByteArray).size = 3 := rfl
  go_enter Tryz.func105, Tryz.ntmps105
  go_wp2_with fail
  refine (su_a _).mono ?_
  rintro e w1 ⟨rfl, rfl⟩
  go_wp2_with fail
  refine wp_loop_rounds 2 ?_
  rw [rounds_succ]
  go_wp2_with fail
  refine (dl_c _).mono ?_
  rintro e w1 ⟨rfl, rfl⟩
  go_wp2_with fail
  refine (ir_a _).mono ?_
  rintro e w1 ⟨rfl, rfl⟩
  go_wp2_with fail
  rw [rounds_succ]
  go_wp2_with fail
  refine (dl_d _).mono ?_
  rintro e w1 ⟨rfl, rfl⟩
  go_wp2_with fail
  refine (ir_d _).mono ?_
  rintro e w1 ⟨rfl, rfl⟩
  go_wp2_with fail
  go_ret
  exact ⟨rfl, rfl⟩
theorem nb_4m (w : World) : Calls Tryz.prog 104 #[.string ⟨#[45, 52]⟩] w fun e w' => e = .returned (.tuple #[.int .i64 (-4), .bool true]) ∧ Below w.heap.size w w' := number_any ⟨#[45, 52]⟩ (by decide) w
theorem cs_b (w : World) : Calls Tryz.prog 103 #[.string ⟨#[51, 45, 52, 105]⟩, .string ⟨#[105]⟩] w fun e w' => e = .returned (.tuple #[.string ⟨#[51, 45, 52]⟩, .bool true]) ∧ w = w' :=
  (Tryz.strings_CutSuffix ⟨#[51, 45, 52, 105]⟩ ⟨#[105]⟩ w (by decide)).mono fun e w' ⟨h1, h2⟩ => ⟨h1.trans (by rfl), h2.symm⟩
theorem tp_b (w : World) : Calls Tryz.prog 106 #[.string ⟨#[45, 52]⟩, .string ⟨#[43]⟩] w fun e w' => e = .returned (.string ⟨#[45, 52]⟩) ∧ w = w' :=
  (Tryz.strings_TrimPrefix ⟨#[45, 52]⟩ ⟨#[43]⟩ w).mono fun e w' ⟨h1, h2⟩ => ⟨h1.trans (by rfl), h2.symm⟩
theorem tx_b (x y : Nat) (hx : IsF x 3) (hy : IsF y (-4)) (w : World) : Calls Tryz.prog 66 #[.complex .f64 x y] w fun e w' => e = .returned (.string ⟨#[51, 45, 52, 105]⟩) ∧ Below w.heap.size w w' :=
  ztext_any x y 3 (-4) hx hy (by omega) (by omega) (by omega) (by omega) w
set_option maxRecDepth 100000 in
set_option maxHeartbeats 1000000 in
theorem parse_b (w : World) : Calls Tryz.prog 92 #[.string ⟨#[51, 45, 52, 105]⟩] w fun e w' => e = .returned (.tuple #[.complex .f64 (floatOfInt .f64 3) (floatOfInt .f64 (-4)), .bool true]) ∧ Below w.heap.size w w' := by
  have TX := Lib.hid (fun W => tx_b (floatOfInt .f64 3) (floatOfInt .f64 (-4)) (isF_of (by decide)) (isF_of (by decide)) W)
  have x1 : (⟨#[51, 45, 52]⟩ : ByteArray).extract 0 1 = ⟨#[51]⟩ := rfl
  have x2 : (⟨#[51, 45, 52]⟩ : ByteArray).extract 1 3 = ⟨#[45, 52]⟩ := rfl
  have z1 : (⟨#[51, 45, 52]⟩ : ByteArray).size = 3 := rfl
  go_enter Tryz.func92, Tryz.ntmps92
  go_wp2_with fail
  refine (cs_b _).mono ?_
  rintro e w1 ⟨rfl, rfl⟩
  go_wp2_with fail
  refine (lastAny_b _).mono ?_
  rintro e w1 ⟨rfl, rfl⟩
  go_wp2_with fail
  go_region_with (go_at_call 106; refine (tp_b _).mono ?_; rintro e w1 ⟨rfl, rfl⟩)
  all_goals
    go_wp2_with fail
    refine (nb_3 _).mono ?_
    rintro e w2 ⟨rfl, hb2⟩
    obtain ⟨_, _, hs2⟩ := bcell hb2 (by first | (simp only [World.size_alloc, World.size_setCell, World.size_drew]; rfl) | rfl)
    go_wp2_with fail
    refine (nb_4m _).mono ?_
    rintro e w3 ⟨rfl, hb3⟩
    obtain ⟨_, _, hs3⟩ := bcell hb3 (by first | (simp only [World.size_alloc, World.size_setCell, World.size_drew]; rfl) | rfl)
    have hbw : Below w.heap.size w w3 := by (repeat' (first | (with_reducible exact Below.refl _ _) | (with_reducible assumption) | (with_reducible refine Below.alloc ?_ ?_ _) | (with_reducible refine bel_drewN ?_ _) | (with_reducible refine Below.drew ?_) | (with_reducible refine Below.setCell ?_ ?_ _) | (with_reducible refine bel_call ‹_› ?_ ?_) | go_size))
    go_wp2_with fail
    refine (TX.out _).mono ?_
    rintro e w4 ⟨rfl, hb4⟩
    obtain ⟨_, _, hs4⟩ := bcell hb4 (by first | (simp only [World.size_alloc, World.size_setCell, World.size_drew]; rfl) | rfl)
    go_wp2_with fail
    go_ret2
    exact ⟨rfl, by (repeat' (first | (with_reducible exact Below.refl _ _) | (with_reducible assumption) | (with_reducible refine Below.alloc ?_ ?_ _) | (with_reducible refine bel_drewN ?_ _) | (with_reducible refine Below.drew ?_) | (with_reducible refine Below.setCell ?_ ?_ _) | (with_reducible refine bel_call ‹_› ?_ ?_) | go_size))⟩
end Go.Proofs.YtilajcibjlcffaaGreatDoor.Gau
