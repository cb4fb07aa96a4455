/- Mul and Div of the document's answer. -/
import Derived.Test.YtilajcibjlcffaaGreatDoorDivC
set_option linter.unusedSimpArgs false
set_option linter.unusedVariables false

namespace Go.Proofs.YtilajcibjlcffaaGreatDoor
open Go.RowKit

theorem prod_len {x y : Nat} (hx : x < 18446744073709551616) (hy : y < 18446744073709551616) : (digs (x * y)).length ≤ 40 := digs_length_le (Nat.lt_of_lt_of_le (prod_lt hx hy) (by decide))
theorem rdiv_le (n y : Nat) : rdiv n y ≤ n + 1 := by
  unfold rdiv
  have := Nat.div_le_self n y
  split <;> omega

set_option maxRecDepth 100000 in
set_option maxHeartbeats 1000000 in
theorem refMul_any (a b : Int) (ha1 : -9223372036854775808 ≤ a) (ha2 : a ≤ 9223372036854775807) (hb1 : -9223372036854775808 ≤ b) (hb2 : b ≤ 9223372036854775807) (w : World) :
    Calls Tryz.prog 52 #[.int .i64 a, .int .i64 b] w fun e w' => e = .returned (.tuple #[.int .i64 (okV (sv (decide (a < 0) != decide (b < 0)) (rdiv (a.natAbs * b.natAbs) 1000000))), .int .i64 (okE (sv (decide (a < 0) != decide (b < 0)) (rdiv (a.natAbs * b.natAbs) 1000000)))]) ∧ Below w.heap.size w w' := by
  have FA := Lib.hid (fun W => from_any a ha1 ha2 W)
  have FB := Lib.hid (fun W => from_any b hb1 hb2 W)
  have la : (digs a.natAbs).length ≤ 20 := digs_length_le (by omega)
  have lb : (digs b.natAbs).length ≤ 20 := digs_length_le (by omega)
  have lx : a.natAbs < 18446744073709551616 := by omega
  have ly : b.natAbs < 18446744073709551616 := by omega
  obtain ⟨ma, hma⟩ : ∃ ma, decide (a < 0) = ma := ⟨_, rfl⟩
  obtain ⟨mb, hmb⟩ : ∃ mb, decide (b < 0) = mb := ⟨_, rfl⟩
  obtain ⟨x, hx⟩ : ∃ x, a.natAbs = x := ⟨_, rfl⟩
  obtain ⟨y, hy⟩ : ∃ y, b.natAbs = y := ⟨_, rfl⟩
  rw [hma, hx] at FA
  rw [hmb, hy] at FB
  rw [hx] at la lx
  rw [hy] at lb ly
  rw [hma, hmb, hx, hy]
  have LP := Lib.hid (prod_len lx ly)
  have LR0 := (show (digs (rdiv (x * y) 1000000)).length ≤ 50 from digs_length_le (Nat.lt_of_le_of_lt (rdiv_le _ _) (Nat.lt_of_lt_of_le (Nat.add_lt_add_right (prod_lt lx ly) 1) (by decide))))
  obtain ⟨R, hR⟩ : ∃ R, rdiv (x * y) 1000000 = R := ⟨_, rfl⟩
  rw [hR] at LR0 ⊢
  have HR := Lib.hid hR
  have LR := Lib.hid LR0
  have HO := Lib.hid (fun W => of_digs 1000000 (by omega) W)
  have LU := Lib.hid (show (digs 1000000).length ≤ 7 from digs_length_le (by decide))
  clear hR LR0 hma hmb hx hy ha1 ha2 hb1 hb2 lx ly
  go_enter Tryz.func52, Tryz.ntmps52
  go_wp2_with fail
  refine (FA.out _).mono ?_
  rintro e w1 ⟨p1, n1, c1, rfl, h1, hb1⟩
  have hs1 := hb1.size
  have hn1 : n1 ≤ 20 := by rw [← h1.len]; exact la
  have H1 := Lib.hid h1
  clear h1
  go_wp2_with fail
  refine (FB.out _).mono ?_
  rintro e w2 ⟨p2, n2, c2, rfl, h2, hb2⟩
  have hs2 := hb2.size
  have hn2 : n2 ≤ 20 := by rw [← h2.len]; exact lb
  have H2 := Lib.hid h2
  have H12 := Lib.hid (H1.out.below hb2)
  have hbw2 : Below w.heap.size w w2 := bel_call hb2 hb1 (by omega)
  clear h2 hb1 hb2 H1
  go_wp2_with fail
  go_region_held3 (fun w' => w'.cell? ⟨w2.heap.size, 0, none⟩ = some (.bool ma) ∧ w'.cell? ⟨w2.heap.size, 1, none⟩ = some (.slice p1 n1 c1) ∧ w'.cell? ⟨w2.heap.size + 1, 0, none⟩ = some (.bool mb) ∧ w'.cell? ⟨w2.heap.size + 1, 1, none⟩ = some (.slice p2 n2 c2)) (first | (go_simp; done) | go_keep)
    (first
      | (go_at_call 87; refine (HO.out _).mono ?_; rintro e w4 ⟨p4, n4, c4, rfl, h4, hb4, hf4⟩; obtain ⟨hc4, hfz4, hz4⟩ := bcell hb4 (by first | (simp only [World.size_alloc, World.size_setCell, World.size_drew]; rfl) | rfl); have hn4 : n4 ≤ 7 := (by rw [← h4.len]; exact LU.out); have H4 := Lib.hid h4; clear h4 hf4)
      | (go_at_call 86; refine (times_any p1 n1 c1 x p2 n2 c2 y (by omega) (by omega) _ (H12.out.below (by (repeat' (first | (with_reducible exact Below.refl _ _) | (with_reducible assumption) | (with_reducible refine Below.alloc ?_ ?_ _) | (with_reducible refine bel_drewN ?_ _) | (with_reducible refine Below.drew ?_) | (with_reducible refine Below.setCell ?_ ?_ _) | (with_reducible refine bel_call ‹_› ?_ ?_) | go_size)))) (H2.out.below (by (repeat' (first | (with_reducible exact Below.refl _ _) | (with_reducible assumption) | (with_reducible refine Below.alloc ?_ ?_ _) | (with_reducible refine bel_drewN ?_ _) | (with_reducible refine Below.drew ?_) | (with_reducible refine Below.setCell ?_ ?_ _) | (with_reducible refine bel_call ‹_› ?_ ?_) | go_size))))).mono ?_; rintro e w3 ⟨p3, n3, c3, rfl, h3, hb3, hf3⟩; obtain ⟨hc3, hfz3, hz3⟩ := bcell hb3 (by first | (simp only [World.size_alloc, World.size_setCell, World.size_drew]; rfl) | rfl); have hn3 : n3 ≤ 40 := (by rw [← h3.len]; exact LP.out); have H3 := Lib.hid h3; clear h3 hf3)
      | (go_at_call 85; refine (rounded_any p3 n3 c3 (x * y) p4 n4 c4 1000000 (by omega) (by omega) (by omega) _ (H3.out.below (by (repeat' (first | (with_reducible exact Below.refl _ _) | (with_reducible assumption) | (with_reducible refine Below.alloc ?_ ?_ _) | (with_reducible refine bel_drewN ?_ _) | (with_reducible refine Below.drew ?_) | (with_reducible refine Below.setCell ?_ ?_ _) | (with_reducible refine bel_call ‹_› ?_ ?_) | go_size)))) (H4.out.below (by (repeat' (first | (with_reducible exact Below.refl _ _) | (with_reducible assumption) | (with_reducible refine Below.alloc ?_ ?_ _) | (with_reducible refine bel_drewN ?_ _) | (with_reducible refine Below.drew ?_) | (with_reducible refine Below.setCell ?_ ?_ _) | (with_reducible refine bel_call ‹_› ?_ ?_) | go_size))))).mono ?_; rintro e w5 ⟨p5, n5, c5, rfl, h5, hb5, hf5⟩; obtain ⟨hc5, hfz5, hz5⟩ := bcell hb5 (by first | (simp only [World.size_alloc, World.size_setCell, World.size_drew]; rfl) | rfl); rw [HR.out] at h5; have hn5 : n5 ≤ 50 := (by rw [← h5.len]; exact LR.out); have H5 := Lib.hid h5; clear h5 hf5)
      | (go_at_call 57; refine (to_any (!(ma == mb)) p5 n5 c5 R (by omega) _ (H5.out.below (by (repeat' (first | (with_reducible exact Below.refl _ _) | (with_reducible assumption) | (with_reducible refine Below.alloc ?_ ?_ _) | (with_reducible refine bel_drewN ?_ _) | (with_reducible refine Below.drew ?_) | (with_reducible refine Below.setCell ?_ ?_ _) | (with_reducible refine bel_call ‹_› ?_ ?_) | go_size))))).mono ?_; rintro e w6 ⟨rfl, hb6⟩; obtain ⟨hc6, hfz6, hz6⟩ := bcell hb6 (by first | (simp only [World.size_alloc, World.size_setCell, World.size_drew]; rfl) | rfl)))
  go_wp2_with fail
  go_ret2
  refine ⟨?_, by (repeat' (first | (with_reducible exact Below.refl _ _) | (with_reducible assumption) | (with_reducible refine Below.alloc ?_ ?_ _) | (with_reducible refine bel_drewN ?_ _) | (with_reducible refine Below.drew ?_) | (with_reducible refine Below.setCell ?_ ?_ _) | (with_reducible refine bel_call ‹_› ?_ ?_) | go_size))⟩
  rw [← toV_is, ← toE_is]
  rfl

set_option maxRecDepth 100000 in
set_option maxHeartbeats 1000000 in
theorem refDiv_any (a b : Int) (ha1 : -9223372036854775808 ≤ a) (ha2 : a ≤ 9223372036854775807) (hb1 : -9223372036854775808 ≤ b) (hb2 : b ≤ 9223372036854775807) (hb0 : (b == 0) = false) (w : World) :
    Calls Tryz.prog 53 #[.int .i64 a, .int .i64 b] w fun e w' => e = .returned (.tuple #[.int .i64 (okV (sv (decide (a < 0) != decide (b < 0)) (rdiv (a.natAbs * 1000000) b.natAbs))), .int .i64 (okE (sv (decide (a < 0) != decide (b < 0)) (rdiv (a.natAbs * 1000000) b.natAbs)))]) ∧ Below w.heap.size w w' := by
  have FA := Lib.hid (fun W => from_any a ha1 ha2 W)
  have FB := Lib.hid (fun W => from_any b hb1 hb2 W)
  have la : (digs a.natAbs).length ≤ 20 := digs_length_le (by omega)
  have lb : (digs b.natAbs).length ≤ 20 := digs_length_le (by omega)
  have lx : a.natAbs < 18446744073709551616 := by omega
  have ly : b.natAbs < 18446744073709551616 := by omega
  obtain ⟨ma, hma⟩ : ∃ ma, decide (a < 0) = ma := ⟨_, rfl⟩
  obtain ⟨mb, hmb⟩ : ∃ mb, decide (b < 0) = mb := ⟨_, rfl⟩
  obtain ⟨x, hx⟩ : ∃ x, a.natAbs = x := ⟨_, rfl⟩
  obtain ⟨y, hy⟩ : ∃ y, b.natAbs = y := ⟨_, rfl⟩
  rw [hma, hx] at FA
  rw [hmb, hy] at FB
  rw [hx] at la lx
  rw [hy] at lb ly
  rw [hma, hmb, hx, hy]
  have hy0 : 0 < y := by have : b ≠ 0 := by simpa using hb0
                         omega
  have LP := Lib.hid (prod_len lx (show 1000000 < 18446744073709551616 by omega))
  have LR0 := (show (digs (rdiv (x * 1000000) y)).length ≤ 50 from digs_length_le (Nat.lt_of_le_of_lt (rdiv_le _ _) (Nat.lt_of_lt_of_le (Nat.add_lt_add_right (prod_lt lx (show 1000000 < 18446744073709551616 by omega)) 1) (by decide))))
  obtain ⟨R, hR⟩ : ∃ R, rdiv (x * 1000000) y = R := ⟨_, rfl⟩
  rw [hR] at LR0 ⊢
  have HR := Lib.hid hR
  have LR := Lib.hid LR0
  have HO := Lib.hid (fun W => of_digs 1000000 (by omega) W)
  have LU := Lib.hid (show (digs 1000000).length ≤ 7 from digs_length_le (by decide))
  clear hR LR0 hma hmb hx hy ha1 ha2 hb1 hb2 lx ly
  go_enter Tryz.func53, Tryz.ntmps53
  go_wp2_with fail
  refine (FA.out _).mono ?_
  rintro e w1 ⟨p1, n1, c1, rfl, h1, hb1⟩
  have hs1 := hb1.size
  have hn1 : n1 ≤ 20 := by rw [← h1.len]; exact la
  have H1 := Lib.hid h1
  clear h1
  go_wp2_with fail
  refine (FB.out _).mono ?_
  rintro e w2 ⟨p2, n2, c2, rfl, h2, hb2⟩
  have hs2 := hb2.size
  have hn2 : n2 ≤ 20 := by rw [← h2.len]; exact lb
  have H2 := Lib.hid h2
  have H12 := Lib.hid (H1.out.below hb2)
  have hbw2 : Below w.heap.size w w2 := bel_call hb2 hb1 (by omega)
  clear h2 hb1 hb2 H1
  go_wp2_with fail
  go_region_held3 (fun w' => w'.cell? ⟨w2.heap.size, 0, none⟩ = some (.bool ma) ∧ w'.cell? ⟨w2.heap.size, 1, none⟩ = some (.slice p1 n1 c1) ∧ w'.cell? ⟨w2.heap.size + 1, 0, none⟩ = some (.bool mb) ∧ w'.cell? ⟨w2.heap.size + 1, 1, none⟩ = some (.slice p2 n2 c2)) (first | (go_simp; done) | go_keep)
    (first
      | (go_at_call 87; refine (HO.out _).mono ?_; rintro e w4 ⟨p4, n4, c4, rfl, h4, hb4, hf4⟩; obtain ⟨hc4, hfz4, hz4⟩ := bcell hb4 (by first | (simp only [World.size_alloc, World.size_setCell, World.size_drew]; rfl) | rfl); have hn4 : n4 ≤ 7 := (by rw [← h4.len]; exact LU.out); have H4 := Lib.hid h4; clear h4 hf4)
      | (go_at_call 86; refine (times_any p1 n1 c1 x p4 n4 c4 1000000 (by omega) (by omega) _ (H12.out.below (by (repeat' (first | (with_reducible exact Below.refl _ _) | (with_reducible assumption) | (with_reducible refine Below.alloc ?_ ?_ _) | (with_reducible refine bel_drewN ?_ _) | (with_reducible refine Below.drew ?_) | (with_reducible refine Below.setCell ?_ ?_ _) | (with_reducible refine bel_call ‹_› ?_ ?_) | go_size)))) (H4.out.below (by (repeat' (first | (with_reducible exact Below.refl _ _) | (with_reducible assumption) | (with_reducible refine Below.alloc ?_ ?_ _) | (with_reducible refine bel_drewN ?_ _) | (with_reducible refine Below.drew ?_) | (with_reducible refine Below.setCell ?_ ?_ _) | (with_reducible refine bel_call ‹_› ?_ ?_) | go_size))))).mono ?_; rintro e w3 ⟨p3, n3, c3, rfl, h3, hb3, hf3⟩; obtain ⟨hc3, hfz3, hz3⟩ := bcell hb3 (by first | (simp only [World.size_alloc, World.size_setCell, World.size_drew]; rfl) | rfl); have hn3 : n3 ≤ 40 := (by rw [← h3.len]; exact LP.out); have H3 := Lib.hid h3; clear h3 hf3)
      | (go_at_call 85; refine (rounded_any p3 n3 c3 (x * 1000000) p2 n2 c2 y (by omega) (by omega) hy0 _ (H3.out.below (by (repeat' (first | (with_reducible exact Below.refl _ _) | (with_reducible assumption) | (with_reducible refine Below.alloc ?_ ?_ _) | (with_reducible refine bel_drewN ?_ _) | (with_reducible refine Below.drew ?_) | (with_reducible refine Below.setCell ?_ ?_ _) | (with_reducible refine bel_call ‹_› ?_ ?_) | go_size)))) (H2.out.below (by (repeat' (first | (with_reducible exact Below.refl _ _) | (with_reducible assumption) | (with_reducible refine Below.alloc ?_ ?_ _) | (with_reducible refine bel_drewN ?_ _) | (with_reducible refine Below.drew ?_) | (with_reducible refine Below.setCell ?_ ?_ _) | (with_reducible refine bel_call ‹_› ?_ ?_) | go_size))))).mono ?_; rintro e w5 ⟨p5, n5, c5, rfl, h5, hb5, hf5⟩; obtain ⟨hc5, hfz5, hz5⟩ := bcell hb5 (by first | (simp only [World.size_alloc, World.size_setCell, World.size_drew]; rfl) | rfl); rw [HR.out] at h5; have hn5 : n5 ≤ 50 := (by rw [← h5.len]; exact LR.out); have H5 := Lib.hid h5; clear h5 hf5)
      | (go_at_call 57; refine (to_any (!(ma == mb)) p5 n5 c5 R (by omega) _ (H5.out.below (by (repeat' (first | (with_reducible exact Below.refl _ _) | (with_reducible assumption) | (with_reducible refine Below.alloc ?_ ?_ _) | (with_reducible refine bel_drewN ?_ _) | (with_reducible refine Below.drew ?_) | (with_reducible refine Below.setCell ?_ ?_ _) | (with_reducible refine bel_call ‹_› ?_ ?_) | go_size))))).mono ?_; rintro e w6 ⟨rfl, hb6⟩; obtain ⟨hc6, hfz6, hz6⟩ := bcell hb6 (by first | (simp only [World.size_alloc, World.size_setCell, World.size_drew]; rfl) | rfl)))
  go_wp2_with fail
  go_ret2
  refine ⟨?_, by (repeat' (first | (with_reducible exact Below.refl _ _) | (with_reducible assumption) | (with_reducible refine Below.alloc ?_ ?_ _) | (with_reducible refine bel_drewN ?_ _) | (with_reducible refine Below.drew ?_) | (with_reducible refine Below.setCell ?_ ?_ _) | (with_reducible refine bel_call ‹_› ?_ ?_) | go_size))⟩
  rw [← toV_is, ← toE_is]
  rfl

theorem refDiv_zero (a : Int) (w : World) : Calls Tryz.prog 53 #[.int .i64 a, .int .i64 0] w fun e w' => e = .returned (.tuple #[.int .i64 0, .int .i64 32]) ∧ w = w' := by
  go_enter Tryz.func53, Tryz.ntmps53
  go_wp2_with fail
  go_ret2
  exact ⟨rfl, rfl⟩
end Go.Proofs.YtilajcibjlcffaaGreatDoor
