/- The law GaussNorms: the walk. -/
import Derived.Test.YtaocbebgdbeffaaDoorGauE
set_option linter.unusedSimpArgs false
set_option linter.unusedVariables false
namespace Go.Proofs.YtaocbebgdbeffaaDoor
open Go.RowKit

theorem to_gen (a b : Int) (h : -1048576 ≤ a ∧ a ≤ 1048576 ∧ -1048576 ≤ b ∧ b ≤ 1048576) (w : World) :
    Calls Tryd.prog 13 #[.agg #[.int .i64 a, .int .i64 b]] w fun e w' => e = .returned (.complex .f64 (floatOfInt .f64 a) (floatOfInt .f64 b)) ∧ Below w.heap.size w w' := to_yes a b h.1 h.2.1 h.2.2.1 h.2.2.2 w

/-- The norm of a product. -/
theorem norm_prod (a b c d : Int) : (a * c - b * d) * (a * c - b * d) + (a * d + b * c) * (a * d + b * c) = (a * a + b * b) * (c * c + d * d) := by
  grind

set_option maxRecDepth 100000 in
set_option maxHeartbeats 1000000 in
theorem norms_no (a b c d : Int) (h : ¬ ((-1048576 ≤ a ∧ a ≤ 1048576 ∧ -1048576 ≤ b ∧ b ≤ 1048576) ∧ (-1048576 ≤ c ∧ c ≤ 1048576 ∧ -1048576 ≤ d ∧ d ≤ 1048576))) (w : World) :
    Calls Tryd.prog 5 #[.agg #[.int .i64 a, .int .i64 b], .agg #[.int .i64 c, .int .i64 d]] w fun e w' => e = .returned (.bool true) ∧ Below w.heap.size w w' := by
  have HF := Lib.hid (fun W => fits_any a b W)
  have HG := Lib.hid (fun W => fits_any c d W)
  by_cases h1 : (-1048576 ≤ a ∧ a ≤ 1048576 ∧ -1048576 ≤ b ∧ b ≤ 1048576)
  · have h2 : ¬ (-1048576 ≤ c ∧ c ≤ 1048576 ∧ -1048576 ≤ d ∧ d ≤ 1048576) := fun h2 => h ⟨h1, h2⟩
    rw [decide_eq_true h1] at HF
    rw [decide_eq_false h2] at HG
    clear h h1 h2
    go_enter Tryd.func5, Tryd.ntmps5
    go_wp2_with fail
    refine (HF.out _).mono ?_
    rintro e w1 ⟨rfl, hb1⟩
    obtain ⟨hc1, hf1, hz1⟩ := bcell hb1 (by first | (simp only [World.size_alloc, World.size_setCell, World.size_drew]; rfl) | rfl)
    go_wp2_with fail
    refine (HG.out _).mono ?_
    rintro e w2 ⟨rfl, hb2⟩
    obtain ⟨hc2, hf2, hz2⟩ := bcell hb2 (by first | (simp only [World.size_alloc, World.size_setCell, World.size_drew]; rfl) | rfl)
    go_wp2_with fail
    refine (awake_any _).mono ?_
    rintro e w4 ⟨rfl, hb4⟩
    obtain ⟨hc4, hf4, hz4⟩ := bcell hb4 (by first | (simp only [World.size_alloc, World.size_setCell, World.size_drew]; rfl) | rfl)
    go_wp2_with fail
    go_ret
    exact ⟨rfl, by (repeat' (first | (with_reducible exact Below.refl _ _) | (with_reducible assumption) | (with_reducible refine Below.alloc ?_ ?_ _) | (with_reducible refine bel_drewN ?_ _) | (with_reducible refine Below.drew ?_) | (with_reducible refine Below.setCell ?_ ?_ _) | (with_reducible refine bel_call ‹_› ?_ ?_) | go_size))⟩
  · rw [decide_eq_false h1] at HF
    clear h h1
    go_enter Tryd.func5, Tryd.ntmps5
    go_wp2_with fail
    refine (HF.out _).mono ?_
    rintro e w1 ⟨rfl, hb1⟩
    obtain ⟨hc1, hf1, hz1⟩ := bcell hb1 (by first | (simp only [World.size_alloc, World.size_setCell, World.size_drew]; rfl) | rfl)
    go_wp2_with fail
    refine (awake_any _).mono ?_
    rintro e w4 ⟨rfl, hb4⟩
    obtain ⟨hc4, hf4, hz4⟩ := bcell hb4 (by first | (simp only [World.size_alloc, World.size_setCell, World.size_drew]; rfl) | rfl)
    go_wp2_with fail
    go_ret
    exact ⟨rfl, by (repeat' (first | (with_reducible exact Below.refl _ _) | (with_reducible assumption) | (with_reducible refine Below.alloc ?_ ?_ _) | (with_reducible refine bel_drewN ?_ _) | (with_reducible refine Below.drew ?_) | (with_reducible refine Below.setCell ?_ ?_ _) | (with_reducible refine bel_call ‹_› ?_ ?_) | go_size))⟩

set_option maxRecDepth 100000 in
set_option maxHeartbeats 8000000 in
theorem norms_yes (a b c d : Int) (h1 : (-1048576 ≤ a ∧ a ≤ 1048576 ∧ -1048576 ≤ b ∧ b ≤ 1048576)) (h2 : (-1048576 ≤ c ∧ c ≤ 1048576 ∧ -1048576 ≤ d ∧ d ≤ 1048576)) (w : World) :
    Calls Tryd.prog 5 #[.agg #[.int .i64 a, .int .i64 b], .agg #[.int .i64 c, .int .i64 d]] w fun e w' => e = .returned (.bool true) ∧ Below w.heap.size w w' := by
  have HF := Lib.hid (fun W => fits_any a b W)
  have HG := Lib.hid (fun W => fits_any c d W)
  rw [decide_eq_true h1] at HF
  rw [decide_eq_true h2] at HG
  have fa := isF_of (n := a) (by unfold M53; omega)
  have fb := isF_of (n := b) (by unfold M53; omega)
  have fc := isF_of (n := c) (by unfold M53; omega)
  have fd := isF_of (n := d) (by unfold M53; omega)
  have HN1 := Lib.hid (fun W => norm_any _ _ a b fa fb h1 W)
  have HN2 := Lib.hid (fun W => norm_any _ _ c d fc fd h2 W)
  have HT := Lib.hid (fun W => to_gen a b h1 W)
  have HU := Lib.hid (fun W => to_gen c d h2 W)
  obtain ⟨A, hA⟩ : ∃ A, floatOfInt .f64 a = A := ⟨_, rfl⟩
  obtain ⟨B, hB⟩ : ∃ B, floatOfInt .f64 b = B := ⟨_, rfl⟩
  obtain ⟨C, hC⟩ : ∃ C, floatOfInt .f64 c = C := ⟨_, rfl⟩
  obtain ⟨D, hD⟩ : ∃ D, floatOfInt .f64 d = D := ⟨_, rfl⟩
  rw [hA, hB] at HT HN1
  rw [hC, hD] at HU HN2
  rw [hA] at fa
  rw [hB] at fb
  rw [hC] at fc
  rw [hD] at fd
  have HFF := Lib.hid (And.intro fa (And.intro fb (And.intro fc fd)))
  clear hA hB hC hD
  have H1 := Lib.hid h1
  have H2 := Lib.hid h2
  clear fa fb fc fd h1 h2
  go_enter Tryd.func5, Tryd.ntmps5
  go_wp2_with fail
  refine (HF.out _).mono ?_
  rintro e w1 ⟨rfl, hb1⟩
  obtain ⟨hc1, hf1, hz1⟩ := bcell hb1 (by first | (simp only [World.size_alloc, World.size_setCell, World.size_drew]; rfl) | rfl)
  go_wp2_with fail
  refine (HG.out _).mono ?_
  rintro e w2 ⟨rfl, hb2⟩
  obtain ⟨hc2, hf2, hz2⟩ := bcell hb2 (by first | (simp only [World.size_alloc, World.size_setCell, World.size_drew]; rfl) | rfl)
  go_wp2_with fail
  go_region_held3 (fun w' => w'.cell? ⟨w.heap.size, 0, none⟩ = some (.int .i64 a) ∧ w'.cell? ⟨w.heap.size, 1, none⟩ = some (.int .i64 b) ∧ w'.cell? ⟨w.heap.size + 1, 0, none⟩ = some (.int .i64 c) ∧ w'.cell? ⟨w.heap.size + 1, 1, none⟩ = some (.int .i64 d)) (first | (go_simp; done) | go_keep)
    (first
      | (go_at_call 16; refine (mul_any _ 2 2 [(a, b), (c, d)] (by omega) _ (rdz_two _ _ _ _ _ 2 a b c d HFF.out.1 HFF.out.2.1 HFF.out.2.2.1 HFF.out.2.2.2 H1.out H2.out _ (by first | (simp; done) | (simp; omega)) (by go_simp) (by go_simp))).mono ?_; rintro e w5 ⟨⟨P, Q, rfl, hP, hQ⟩, rfl⟩)
      | (go_at_call 13; have chk := K1; clear chk; refine (HU.out _).mono ?_; rintro e w3 ⟨rfl, hb3⟩; obtain ⟨hc3, hf3, hz3⟩ := bcell hb3 (by first | (simp only [World.size_alloc, World.size_setCell, World.size_drew]; rfl) | rfl))
      | (go_at_call 13; refine (HT.out _).mono ?_; rintro e w3 ⟨rfl, hb3⟩; obtain ⟨hc3, hf3, hz3⟩ := bcell hb3 (by first | (simp only [World.size_alloc, World.size_setCell, World.size_drew]; rfl) | rfl); have K1 : True := trivial))
  have hmul : mulL [(a, b), (c, d)] (1, 0) = if fitB (zmul (a, b) (c, d)) then some (zmul (a, b) (c, d)) else none := by
    have e1 : zmul (1, 0) (a, b) = (a, b) := by simp [zmul]
    have e2 : fitB (a, b) = true := by simp only [fitB, decide_eq_true_eq]; exact H1.out
    simp only [mulL, e1, e2, if_true]
  by_cases hfit : fitB (zmul (a, b) (c, d)) = true
  · rw [if_pos hfit] at hmul
    have e2 : zE (mulL [(a, b), (c, d)] (1, 0)) = 0 := by rw [hmul]; rfl
    have e3 : zV (mulL [(a, b), (c, d)] (1, 0)) = zmul (a, b) (c, d) := by rw [hmul]; rfl
    rw [e3] at hP hQ
    rw [e2]
    obtain ⟨p, hp⟩ : ∃ p, a * c - b * d = p := ⟨_, rfl⟩
    obtain ⟨q, hq⟩ : ∃ q, a * d + b * c = q := ⟨_, rfl⟩
    have ez : zmul (a, b) (c, d) = (p, q) := by simp only [zmul, hp, hq]
    rw [ez] at hP hQ hfit
    simp only [fitB, decide_eq_true_eq] at hfit
    have hnp : p * p + q * q = (a * a + b * b) * (c * c + d * d) := by rw [← norm_prod, hp, hq]
    have bp := sq_bounds p hfit.1 hfit.2.1
    have bq := sq_bounds q hfit.2.2.1 hfit.2.2.2
    have HNP := Lib.hid (fun W => norm_any P Q p q hP hQ hfit W)
    obtain ⟨N1, hN1⟩ : ∃ N1, a * a + b * b = N1 := ⟨_, rfl⟩
    obtain ⟨N2, hN2⟩ : ∃ N2, c * c + d * d = N2 := ⟨_, rfl⟩
    obtain ⟨N, hN⟩ : ∃ N, p * p + q * q = N := ⟨_, rfl⟩
    have bN : 0 ≤ N ∧ N ≤ 2199023255552 := by omega
    rw [hN, hN1, hN2] at hnp
    rw [hN] at HNP
    rw [hN1] at HN1
    rw [hN2] at HN2
    have hw : IntKind.i64.wrap (N1 * N2) = N := by rw [← hnp]; exact IntWalk.i64_in _ (by omega)
    clear hmul e2 e3 hP hQ hp hq ez hnp bp bq hfit hN hN1 hN2 bN HF HG HFF
    go_wp2_with fail
    go_region_held3 (fun w' => w'.cell? ⟨w.heap.size, 0, none⟩ = some (.int .i64 a) ∧ w'.cell? ⟨w.heap.size, 1, none⟩ = some (.int .i64 b) ∧ w'.cell? ⟨w.heap.size + 1, 0, none⟩ = some (.int .i64 c) ∧ w'.cell? ⟨w.heap.size + 1, 1, none⟩ = some (.int .i64 d)) (first | (go_simp; done) | go_keep)
      (first
        | (go_at_call 17; have chk := K4; clear chk; refine (HN2.out _).mono ?_; rintro e w6 ⟨rfl, rfl⟩)
        | (go_at_call 17; have chk := K2; clear chk; refine (HN1.out _).mono ?_; rintro e w6 ⟨rfl, rfl⟩; have K3 : True := trivial)
        | (go_at_call 17; refine (HNP.out _).mono ?_; rintro e w6 ⟨rfl, rfl⟩)
        | (go_at_call 13; have chk := K3; clear chk; refine (HU.out _).mono ?_; rintro e w6 ⟨rfl, hb6⟩; obtain ⟨hc6, hf6, hz6⟩ := bcell hb6 (by first | (simp only [World.size_alloc, World.size_setCell, World.size_drew]; rfl) | rfl); have K4 : True := trivial)
        | (go_at_call 13; refine (HT.out _).mono ?_; rintro e w6 ⟨rfl, hb6⟩; obtain ⟨hc6, hf6, hz6⟩ := bcell hb6 (by first | (simp only [World.size_alloc, World.size_setCell, World.size_drew]; rfl) | rfl); have K2 : True := trivial)
        | (go_at_call 10; refine (awake_any _).mono ?_; rintro e w6 ⟨rfl, hb6⟩; obtain ⟨hc6, hf6, hz6⟩ := bcell hb6 (by first | (simp only [World.size_alloc, World.size_setCell, World.size_drew]; rfl) | rfl)))
    all_goals go_wp2_with fail
    all_goals go_ret
    all_goals exact ⟨rfl, by (repeat' (first | (with_reducible exact Below.refl _ _) | (with_reducible assumption) | (with_reducible refine Below.alloc ?_ ?_ _) | (with_reducible refine bel_drewN ?_ _) | (with_reducible refine Below.drew ?_) | (with_reducible refine Below.setCell ?_ ?_ _) | (with_reducible refine bel_call ‹_› ?_ ?_) | go_size))⟩
  · rw [if_neg hfit] at hmul
    have e2 : zE (mulL [(a, b), (c, d)] (1, 0)) = 31 := by rw [hmul]; rfl
    rw [e2]
    clear hmul e2 hfit hP hQ
    go_wp2_with fail
    first
      | (go_region_with (go_at_call 10; refine (awake_any _).mono ?_; rintro e w6 ⟨rfl, hb6⟩; obtain ⟨hc6, hf6, hz6⟩ := bcell hb6 (by first | (simp only [World.size_alloc, World.size_setCell, World.size_drew]; rfl) | rfl)))
      | fail
    all_goals go_wp2_with fail
    all_goals go_ret
    all_goals exact ⟨rfl, by (repeat' (first | (with_reducible exact Below.refl _ _) | (with_reducible assumption) | (with_reducible refine Below.alloc ?_ ?_ _) | (with_reducible refine bel_drewN ?_ _) | (with_reducible refine Below.drew ?_) | (with_reducible refine Below.setCell ?_ ?_ _) | (with_reducible refine bel_call ‹_› ?_ ?_) | go_size))⟩

theorem norms_walk (a b c d : Int) (w : World) :
    Calls Tryd.prog 5 #[.agg #[.int .i64 a, .int .i64 b], .agg #[.int .i64 c, .int .i64 d]] w fun e w' => e = .returned (.bool true) ∧ Below w.heap.size w w' := by
  by_cases h : (-1048576 ≤ a ∧ a ≤ 1048576 ∧ -1048576 ≤ b ∧ b ≤ 1048576) ∧ (-1048576 ≤ c ∧ c ≤ 1048576 ∧ -1048576 ≤ d ∧ d ≤ 1048576)
  · exact norms_yes a b c d h.1 h.2 w
  · exact norms_no a b c d h w
end Go.Proofs.YtaocbebgdbeffaaDoor
