/- Whole complex numbers: the chapter's example is read; the law's helper awake. -/
import Derived.Test.YtilajcibjlcffaaGreatDoorGauC
set_option linter.unusedSimpArgs false
set_option linter.unusedVariables false

namespace Go.Proofs.YtilajcibjlcffaaGreatDoor.Gau
open Go.RowKit

set_option maxRecDepth 100000 in
set_option maxHeartbeats 1000000 in
theorem decodeLast_ascii (s : ByteArray) (k : Nat) (h : s.size = k + 1) (hb : s.size ≤ 100000) (c : Nat) (hlt : k < s.size) (hc : ((s[k]'hlt).toNat : Int) = (c : Int)) (hc2 : c < 128) (w : World) :
    Calls Tryz.prog 118 #[.string s] w fun e w' => e = .returned (.tuple #[.int .i32 (c : Int), .int .i64 1]) ∧ w = w' := by
  have hne : ((s.size : Int) == 0) = false := beq_eq_false_iff_ne.2 (by omega)
  have hc3 : ((s[k]'hlt).toNat : Int) < 128 := by omega
  go_enter Tryz.func118, Tryz.ntmps118
  go_wp2_with fail
  go_ret2
  exact ⟨rfl, rfl⟩

theorem dl_a (w : World) : Calls Tryz.prog 118 #[.string ⟨#[51, 43, 52]⟩] w fun e w' => e = .returned (.tuple #[.int .i32 52, .int .i64 1]) ∧ w = w' :=
  decodeLast_ascii ⟨#[51, 43, 52]⟩ 2 rfl (by decide) 52 (by decide) rfl (by omega) w
theorem dl_b (w : World) : Calls Tryz.prog 118 #[.string ⟨#[51, 43]⟩] w fun e w' => e = .returned (.tuple #[.int .i32 43, .int .i64 1]) ∧ w = w' :=
  decodeLast_ascii ⟨#[51, 43]⟩ 1 rfl (by decide) 43 (by decide) rfl (by omega) w
theorem ir_a (w : World) : Calls Tryz.prog 114 #[.string ⟨#[43, 45]⟩, .int .i32 52] w fun e w' => e = .returned (.int .i64 (-1)) ∧ w = w' :=
  (Tryz.strings_IndexRune_ascii ⟨#[43, 45]⟩ 52 w (by omega) (by omega)).mono fun e w' ⟨h1, h2⟩ => ⟨h1.trans (by rfl), h2.symm⟩
theorem ir_b (w : World) : Calls Tryz.prog 114 #[.string ⟨#[43, 45]⟩, .int .i32 43] w fun e w' => e = .returned (.int .i64 0) ∧ w = w' :=
  (Tryz.strings_IndexRune_ascii ⟨#[43, 45]⟩ 43 w (by omega) (by omega)).mono fun e w' ⟨h1, h2⟩ => ⟨h1.trans (by rfl), h2.symm⟩
theorem su_a (w : World) : Calls Tryz.prog 115 #[.int .i64 3] w fun e w' => e = .returned (.bool false) ∧ w = w' :=
  (Tryz.strings_shouldUseASCIISet 3 w).mono fun e w' ⟨h1, h2⟩ => ⟨h1.trans (by rfl), h2.symm⟩

set_option maxRecDepth 100000 in
set_option maxHeartbeats 1000000 in
theorem lastAny_a (w : World) : Calls Tryz.prog 105 #[.string ⟨#[51, 43, 52]⟩, .string ⟨#[43, 45]⟩] w fun e w' => e = .returned (.int .i64 1) ∧ w = w' := by
  have x1 : (⟨#[51, 43, 52]⟩ : ByteArray).extract 0 3 = ⟨#[51, 43, 52]⟩ := rfl
  have x2 : (⟨#[51, 43, 52]⟩ : ByteArray).extract 0 2 = ⟨#[51, 43]⟩ := rfl
  have z1 : (⟨#[51, 43, 52]⟩ : ByteArray).size = 3 := rfl
  go_enter Tryz.func105, Tryz.ntmps105
  go_wp2_with fail
  refine (su_a _).mono ?_
  rintro e w1 ⟨rfl, rfl⟩
  go_wp2_with fail
  refine wp_loop_rounds 2 ?_
  rw [rounds_succ]
  go_wp2_with fail
  refine (dl_a _).mono ?_
  rintro e w1 ⟨rfl, rfl⟩
  go_wp2_with fail
  refine (ir_a _).mono ?_
  rintro e w1 ⟨rfl, rfl⟩
  go_wp2_with fail
  rw [rounds_succ]
  go_wp2_with fail
  refine (dl_b _).mono ?_
  rintro e w1 ⟨rfl, rfl⟩
  go_wp2_with fail
  refine (ir_b _).mono ?_
  rintro e w1 ⟨rfl, rfl⟩
  go_wp2_with fail
  go_ret
  exact ⟨rfl, rfl⟩

/-- The numbers of the example. -/
theorem nb_3 (w : World) : Calls Tryz.prog 104 #[.string ⟨#[51]⟩] w fun e w' => e = .returned (.tuple #[.int .i64 3, .bool true]) ∧ Below w.heap.size w w' := number_any ⟨#[51]⟩ (by decide) w
theorem nb_4 (w : World) : Calls Tryz.prog 104 #[.string ⟨#[52]⟩] w fun e w' => e = .returned (.tuple #[.int .i64 4, .bool true]) ∧ Below w.heap.size w w' := number_any ⟨#[52]⟩ (by decide) w
theorem cs_a (w : World) : Calls Tryz.prog 103 #[.string ⟨#[51, 43, 52, 105]⟩, .string ⟨#[105]⟩] w fun e w' => e = .returned (.tuple #[.string ⟨#[51, 43, 52]⟩, .bool true]) ∧ w = w' :=
  (Tryz.strings_CutSuffix ⟨#[51, 43, 52, 105]⟩ ⟨#[105]⟩ w (by decide)).mono fun e w' ⟨h1, h2⟩ => ⟨h1.trans (by rfl), h2.symm⟩
theorem tp_a (w : World) : Calls Tryz.prog 106 #[.string ⟨#[43, 52]⟩, .string ⟨#[43]⟩] w fun e w' => e = .returned (.string ⟨#[52]⟩) ∧ w = w' :=
  (Tryz.strings_TrimPrefix ⟨#[43, 52]⟩ ⟨#[43]⟩ w).mono fun e w' ⟨h1, h2⟩ => ⟨h1.trans (by rfl), h2.symm⟩
theorem tx_a (x y : Nat) (hx : IsF x 3) (hy : IsF y 4) (w : World) : Calls Tryz.prog 66 #[.complex .f64 x y] w fun e w' => e = .returned (.string ⟨#[51, 43, 52, 105]⟩) ∧ Below w.heap.size w w' :=
  ztext_any x y 3 4 hx hy (by omega) (by omega) (by omega) (by omega) w

set_option maxRecDepth 100000 in
set_option maxHeartbeats 1000000 in
theorem parse_a (w : World) : Calls Tryz.prog 92 #[.string ⟨#[51, 43, 52, 105]⟩] w fun e w' => e = .returned (.tuple #[.complex .f64 (floatOfInt .f64 3) (floatOfInt .f64 4), .bool true]) ∧ Below w.heap.size w w' := by
  have TX := Lib.hid (fun W => tx_a (floatOfInt .f64 3) (floatOfInt .f64 4) (isF_of (by decide)) (isF_of (by decide)) W)
  have x1 : (⟨#[51, 43, 52]⟩ : ByteArray).extract 0 1 = ⟨#[51]⟩ := rfl
  have x2 : (⟨#[51, 43, 52]⟩ : ByteArray).extract 1 3 = ⟨#[43, 52]⟩ := rfl
  have z1 : (⟨#[51, 43, 52]⟩ : ByteArray).size = 3 := rfl
  go_enter Tryz.func92, Tryz.ntmps92
  go_wp2_with fail
  refine (cs_a _).mono ?_
  rintro e w1 ⟨rfl, rfl⟩
  go_wp2_with fail
  refine (lastAny_a _).mono ?_
  rintro e w1 ⟨rfl, rfl⟩
  go_wp2_with fail
  go_region_with (go_at_call 106; refine (tp_a _).mono ?_; rintro e w1 ⟨rfl, rfl⟩)
  all_goals
    go_wp2_with fail
    refine (nb_3 _).mono ?_
    rintro e w2 ⟨rfl, hb2⟩
    obtain ⟨_, _, hs2⟩ := bcell hb2 (by first | (simp only [World.size_alloc, World.size_setCell, World.size_drew]; rfl) | rfl)
    go_wp2_with fail
    refine (nb_4 _).mono ?_
    rintro e w3 ⟨rfl, hb3⟩
    obtain ⟨_, _, hs3⟩ := bcell hb3 (by first | (simp only [World.size_alloc, World.size_setCell, World.size_drew]; rfl) | rfl)
    have hbw : Below w.heap.size w w3 := by (repeat' (first | (with_reducible exact Below.refl _ _) | (with_reducible assumption) | (with_reducible refine Below.alloc ?_ ?_ _) | (with_reducible refine bel_drewN ?_ _) | (with_reducible refine Below.drew ?_) | (with_reducible refine Below.setCell ?_ ?_ _) | (with_reducible refine bel_call ‹_› ?_ ?_) | go_size))
    go_wp2_with fail
    refine (TX.out _).mono ?_
    rintro e w4 ⟨rfl, hb4⟩
    obtain ⟨_, _, hs4⟩ := bcell hb4 (by first | (simp only [World.size_alloc, World.size_setCell, World.size_drew]; rfl) | rfl)
    go_wp2_with fail
    go_ret2
    exact ⟨rfl, by (repeat' (first | (with_reducible exact Below.refl _ _) | (with_reducible assumption) | (with_reducible refine Below.alloc ?_ ?_ _) | (with_reducible refine bel_drewN ?_ _) | (with_reducible refine Below.drew ?_) | (with_reducible refine Below.setCell ?_ ?_ _) | (with_reducible refine bel_call ‹_› ?_ ?_) | go_size))⟩

/-- Two numbers in a row. -/
theorem rdz_two (w : World) (x y u v cap : Nat) (a b c d : Int) (hx : IsF x a) (hy : IsF y b) (hu : IsF u c) (hv : IsF v d) (hab : -1048576 ≤ a ∧ a ≤ 1048576 ∧ -1048576 ≤ b ∧ b ≤ 1048576) (hcd : -1048576 ≤ c ∧ c ≤ 1048576 ∧ -1048576 ≤ d ∧ d ≤ 1048576) (g : Nat) (hg : g < w.heap.size)
    (c0 : w.cell? ⟨g, 0, none⟩ = some (.complex .f64 x y)) (c1 : w.cell? ⟨g, 1, none⟩ = some (.complex .f64 u v)) : RdZ w (some ⟨g, 0, none⟩) 2 [(a, b), (c, d)] := by
  refine ⟨rfl, ?_, .inr ⟨g, 0, rfl, hg, ?_⟩⟩
  · intro z hz
    simp only [List.mem_cons, List.not_mem_nil, or_false] at hz
    rcases hz with rfl | rfl
    · exact hab
    · exact hcd
  · intro j h
    match j, h with
    | 0, _ => exact ⟨x, y, c0, hx, hy⟩
    | 1, _ => exact ⟨u, v, c1, hu, hv⟩
    | n + 2, h => simp at h; omega

end Go.Proofs.YtilajcibjlcffaaGreatDoor.Gau
