/- Floor and Mod of the document's answer. -/
import Derived.Test.YtgmbfbddfjecpaaDoorDecL
set_option linter.unusedSimpArgs false
set_option linter.unusedVariables false
namespace Go.Proofs.YtgmbfbddfjecpaaDoor
open Go.RowKit

theorem from_mill (w : World) : Calls Tryd.prog 22 #[.int .i64 1000000] w (RetI false 1000000 w) := by
  have h := from_any 1000000 (by omega) (by omega) w
  have e1 : decide ((1000000 : Int) < 0) = false := by decide
  have e2 : (1000000 : Int).natAbs = 1000000 := rfl
  rw [e1, e2] at h
  exact h
theorem of_mill (w : World) : Calls Tryd.prog 23 #[.int .u64 1000000] w (RetN (digs 1000000) w) := of_digs 1000000 (by omega) w
theorem flQ_le (m n : Bool) (x y : Nat) : flQ m n x y ≤ x + 1 := by
  unfold flQ
  have := Nat.div_le_self x y
  split <;> omega
theorem flQ_mul_le (m n : Bool) (x y : Nat) : flQ m n x y * y ≤ x + y := by
  unfold flQ
  have := Nat.div_mul_le_self x y
  split
  · rw [Nat.add_mul]; omega
  · omega

set_option maxRecDepth 100000 in
set_option maxHeartbeats 1000000 in
theorem refFloor_any (a : Int) (ha1 : -9223372036854775808 ≤ a) (ha2 : a ≤ 9223372036854775807) (w : World) :
    Calls Tryd.prog 32 #[.int .i64 a] w fun e w' => e = .returned (.tuple #[.int .i64 (okV (a - a % 1000000)), .int .i64 (okE (a - a % 1000000))]) ∧ Below w.heap.size w w' := by
  have FA := Lib.hid (fun W => from_any a ha1 ha2 W)
  have hkey := floor_key a
  have la : (digs a.natAbs).length ≤ 20 := digs_length_le (by omega)
  have hA : a.natAbs ≤ 9223372036854775808 := by omega
  obtain ⟨ma, hma⟩ : ∃ ma, decide (a < 0) = ma := ⟨_, rfl⟩
  obtain ⟨x, hx⟩ : ∃ x, a.natAbs = x := ⟨_, rfl⟩
  rw [hma, hx] at FA hkey
  rw [hx] at la hA
  have hq1 := flQ_le ma false x 1000000
  have hq2 := flQ_mul_le ma false x 1000000
  obtain ⟨z, hz⟩ : ∃ z, a - a % 1000000 = z := ⟨_, rfl⟩
  rw [hz] at hkey ⊢
  have LQ := Lib.hid (show (digs (flQ ma false x 1000000)).length ≤ 20 from digs_length_le (by omega))
  have LP := Lib.hid (show (digs (flQ ma false x 1000000 * 1000000)).length ≤ 20 from digs_length_le (by omega))
  have LM := Lib.hid (show (digs 1000000).length ≤ 7 from digs_length_le (by decide))
  obtain ⟨Q, hQ⟩ : ∃ Q, flQ ma false x 1000000 = Q := ⟨_, rfl⟩
  rw [hQ] at LQ LP hkey
  have FL := Lib.hid (fun p n cap p2 n2 cap2 hn hm W h1 h2 => floored_any ma p n cap x false p2 n2 cap2 1000000 hn hm (by omega) W h1 h2)
  have hmm : (ma != false) = ma := by cases ma <;> rfl
  rw [hmm, hQ] at FL
  have KEY := Lib.hid hkey
  clear hma hx hz hq1 hq2 hQ hkey ha1 ha2 hmm hA
  go_enter Tryd.func32, Tryd.ntmps32
  go_wp2_with fail
  refine (FA.out _).mono ?_
  rintro e w1 ⟨p1, n1, c1, rfl, h1, hb1⟩
  have hs1 := hb1.size
  have hn1 : n1 ≤ 20 := by rw [← h1.len]; exact la
  have H1 := Lib.hid h1
  clear h1
  go_wp2_with fail
  refine (from_mill _).mono ?_
  rintro e w2 ⟨p2, n2, c2, rfl, h2, hb2⟩
  have hs2 := hb2.size
  have hn2 : n2 ≤ 7 := by rw [← h2.len]; exact LM.out
  have H2 := Lib.hid h2
  clear h2
  go_wp2_with fail
  refine (FL.out p1 n1 c1 p2 n2 c2 (by omega) (by omega) _ (H1.out.below (by (repeat' (first | (with_reducible exact Below.refl _ _) | (with_reducible assumption) | (with_reducible refine Below.alloc ?_ ?_ _) | (with_reducible refine bel_drewN ?_ _) | (with_reducible refine Below.drew ?_) | (with_reducible refine Below.setCell ?_ ?_ _) | (with_reducible refine bel_call ‹_› ?_ ?_) | go_size)))) (H2.out.below (by (repeat' (first | (with_reducible exact Below.refl _ _) | (with_reducible assumption) | (with_reducible refine Below.alloc ?_ ?_ _) | (with_reducible refine bel_drewN ?_ _) | (with_reducible refine Below.drew ?_) | (with_reducible refine Below.setCell ?_ ?_ _) | (with_reducible refine bel_call ‹_› ?_ ?_) | go_size))))).mono ?_
  rintro e w3 ⟨p3, n3, c3, rfl, h3, hb3⟩
  have hs3 := hb3.size
  have hn3 : n3 ≤ 20 := by rw [← h3.len]; exact LQ.out
  have H3 := Lib.hid h3
  have hbw : Below w.heap.size w w3 := bel_call hb3 (bel_call hb2 hb1 (by omega)) (by omega)
  clear h3
  go_wp2_with fail
  go_region_held3 (fun w' => w'.cell? ⟨w3.heap.size, 0, none⟩ = some (.bool ma) ∧ w'.cell? ⟨w3.heap.size, 1, none⟩ = some (.slice p3 n3 c3)) (first | (go_simp; done) | go_keep)
    (first
      | (go_at_call 23; refine (of_mill _).mono ?_; rintro e w4 ⟨p4, n4, c4, rfl, h4, hb4, hf4⟩; obtain ⟨hc4, hfz4, hz4⟩ := bcell hb4 (by first | (simp only [World.size_alloc, World.size_setCell, World.size_drew]; rfl) | rfl); have hn4 : n4 ≤ 7 := (by rw [← h4.len]; exact LM.out); have H4 := Lib.hid h4; clear h4 hf4)
      | (go_at_call 21; refine (times_any p3 n3 c3 Q p4 n4 c4 1000000 (by omega) (by omega) _ (H3.out.below (by (repeat' (first | (with_reducible exact Below.refl _ _) | (with_reducible assumption) | (with_reducible refine Below.alloc ?_ ?_ _) | (with_reducible refine bel_drewN ?_ _) | (with_reducible refine Below.drew ?_) | (with_reducible refine Below.setCell ?_ ?_ _) | (with_reducible refine bel_call ‹_› ?_ ?_) | go_size)))) (H4.out.below (by (repeat' (first | (with_reducible exact Below.refl _ _) | (with_reducible assumption) | (with_reducible refine Below.alloc ?_ ?_ _) | (with_reducible refine bel_drewN ?_ _) | (with_reducible refine Below.drew ?_) | (with_reducible refine Below.setCell ?_ ?_ _) | (with_reducible refine bel_call ‹_› ?_ ?_) | go_size))))).mono ?_; rintro e w5 ⟨p5, n5, c5, rfl, h5, hb5, hf5⟩; obtain ⟨hc5, hfz5, hz5⟩ := bcell hb5 (by first | (simp only [World.size_alloc, World.size_setCell, World.size_drew]; rfl) | rfl); have hn5 : n5 ≤ 20 := (by rw [← h5.len]; exact LP.out); have H5 := Lib.hid h5; clear h5 hf5)
      | (go_at_call 20; refine (to_any ma p5 n5 c5 (Q * 1000000) (by omega) _ (H5.out.below (by (repeat' (first | (with_reducible exact Below.refl _ _) | (with_reducible assumption) | (with_reducible refine Below.alloc ?_ ?_ _) | (with_reducible refine bel_drewN ?_ _) | (with_reducible refine Below.drew ?_) | (with_reducible refine Below.setCell ?_ ?_ _) | (with_reducible refine bel_call ‹_› ?_ ?_) | go_size))))).mono ?_; rintro e w6 ⟨rfl, hb6⟩; obtain ⟨hc6, hfz6, hz6⟩ := bcell hb6 (by first | (simp only [World.size_alloc, World.size_setCell, World.size_drew]; rfl) | rfl)))
  go_wp2_with fail
  go_ret2
  refine ⟨?_, by (repeat' (first | (with_reducible exact Below.refl _ _) | (with_reducible assumption) | (with_reducible refine Below.alloc ?_ ?_ _) | (with_reducible refine bel_drewN ?_ _) | (with_reducible refine Below.drew ?_) | (with_reducible refine Below.setCell ?_ ?_ _) | (with_reducible refine bel_call ‹_› ?_ ?_) | go_size))⟩
  rw [← KEY.out, ← toV_is, ← toE_is]
  rfl
end Go.Proofs.YtgmbfbddfjecpaaDoor
