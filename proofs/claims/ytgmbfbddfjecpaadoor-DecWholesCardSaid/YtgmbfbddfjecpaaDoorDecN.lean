/- Mod of the document's answer. -/
import Derived.Test.YtgmbfbddfjecpaaDoorDecM
set_option linter.unusedSimpArgs false
set_option linter.unusedVariables false
namespace Go.Proofs.YtgmbfbddfjecpaaDoor
open Go.RowKit

theorem field_M (m : Bool) (p : Option Addr) (n c : Nat) (w : World) : (Instr.field 44 (.agg #[.bool m, .slice p n c]) 0).run Tryd.prog w = .ok (.bool m) w := by kernel_rfl

set_option maxRecDepth 100000 in
set_option maxHeartbeats 4000000 in
theorem refMod_core (a b : Int) (ma mb : Bool) (x y Q : Nat) (z : Int) (hb0 : (b == 0) = false)
    (FA : Hid (∀ W, Calls Tryd.prog 22 #[.int .i64 a] W (RetI ma x W)))
    (FB : Hid (∀ W, Calls Tryd.prog 22 #[.int .i64 b] W (RetI mb y W)))
    (LA : Hid ((digs x).length ≤ 20)) (LB : Hid ((digs y).length ≤ 20)) (LQ : Hid ((digs Q).length ≤ 20)) (LP : Hid ((digs (Q * y)).length ≤ 20))
    (FL : Hid (∀ (p : Option Addr) (n cap : Nat) (p2 : Option Addr) (n2 cap2 : Nat), n ≤ 200 → n2 ≤ 200 → ∀ W, RdN W p n cap (digs x) → RdN W p2 n2 cap2 (digs y) → Calls Tryd.prog 52 #[.agg #[.bool ma, .slice p n cap], .agg #[.bool mb, .slice p2 n2 cap2]] W (RetI (ma != mb) Q W)))
    (KEY : Hid (sv ma x + sv (!ma) (Q * y) = z)) (w : World) :
    Calls Tryd.prog 34 #[.int .i64 a, .int .i64 b] w fun e w' => e = .returned (.tuple #[.int .i64 (okV z), .int .i64 (okE z)]) ∧ Below w.heap.size w w' := by
  cases ma <;> cases mb
  · have hfb0 := fun p n c W => field_M false p n c W
    have hfb1 := fun p n c W => field_N false p n c W
    go_enter Tryd.func34, Tryd.ntmps34
    go_wp2_with fail
    refine (FA.out _).mono ?_
    rintro e w1 ⟨p1, n1, c1, rfl, h1, hb1⟩
    have hs1 := hb1.size
    have hn1 : n1 ≤ 20 := by rw [← h1.len]; exact LA.out
    have H1 := Lib.hid h1
    clear h1
    go_wp2_with fail
    refine (FB.out _).mono ?_
    rintro e w2 ⟨p2, n2, c2, rfl, h2, hb2⟩
    have hs2 := hb2.size
    have hn2 : n2 ≤ 20 := by rw [← h2.len]; exact LB.out
    have H2 := Lib.hid h2
    clear h2
    go_wp2_with fail
    refine (FL.out p1 n1 c1 p2 n2 c2 (by omega) (by omega) _ (H1.out.below (by (repeat' (first | (with_reducible exact Below.refl _ _) | (with_reducible assumption) | (with_reducible refine Below.alloc ?_ ?_ _) | (with_reducible refine bel_drewN ?_ _) | (with_reducible refine Below.drew ?_) | (with_reducible refine Below.setCell ?_ ?_ _) | (with_reducible refine bel_call ‹_› ?_ ?_) | go_size)))) (H2.out.below (by (repeat' (first | (with_reducible exact Below.refl _ _) | (with_reducible assumption) | (with_reducible refine Below.alloc ?_ ?_ _) | (with_reducible refine bel_drewN ?_ _) | (with_reducible refine Below.drew ?_) | (with_reducible refine Below.setCell ?_ ?_ _) | (with_reducible refine bel_call ‹_› ?_ ?_) | go_size))))).mono ?_
    rintro e w3 ⟨p3, n3, c3, rfl, h3, hb3⟩
    have hs3 := hb3.size
    have hn3 : n3 ≤ 20 := by rw [← h3.len]; exact LQ.out
    have H3 := Lib.hid h3
    have hbw : Below w.heap.size w w3 := bel_call hb3 (bel_call hb2 hb1 (by omega)) (by omega)
    clear h3
    go_wp2_with fail
    go_region_held3 (fun w' => w'.cell? ⟨w3.heap.size, 0, none⟩ = some (.bool false) ∧ w'.cell? ⟨w3.heap.size, 1, none⟩ = some (.slice p3 n3 c3)) (first | (go_simp; done) | go_keep)
      (first
        | (go_at_call 22; have chk := H5; clear chk; refine (FB.out _).mono ?_; rintro e w6 ⟨p6, n6, c6, rfl, h6, hb6⟩; obtain ⟨hc6, hfz6, hz6⟩ := bcell hb6 (by first | (simp only [World.size_alloc, World.size_setCell, World.size_drew]; rfl) | rfl); have hn6 : n6 ≤ 20 := (by rw [← h6.len]; exact LB.out); have H6 := Lib.hid h6; clear h6)
        | (go_at_call 22; have chk := H4; clear chk; refine (FB.out _).mono ?_; rintro e w5 ⟨p5, n5, c5, rfl, h5, hb5⟩; obtain ⟨hc5, hfz5, hz5⟩ := bcell hb5 (by first | (simp only [World.size_alloc, World.size_setCell, World.size_drew]; rfl) | rfl); have hn5 : n5 ≤ 20 := (by rw [← h5.len]; exact LB.out); have H5 := Lib.hid h5; clear h5)
        | (go_at_call 22; refine (FA.out _).mono ?_; rintro e w4 ⟨p4, n4, c4, rfl, h4, hb4⟩; obtain ⟨hc4, hfz4, hz4⟩ := bcell hb4 (by first | (simp only [World.size_alloc, World.size_setCell, World.size_drew]; rfl) | rfl); have hn4 : n4 ≤ 20 := (by rw [← h4.len]; exact LA.out); have H4 := Lib.hid h4; clear h4)
        | (go_at_call 21; refine (times_any p3 n3 c3 Q p6 n6 c6 y (by omega) (by omega) _ (H3.out.below (by (repeat' (first | (with_reducible exact Below.refl _ _) | (with_reducible assumption) | (with_reducible refine Below.alloc ?_ ?_ _) | (with_reducible refine bel_drewN ?_ _) | (with_reducible refine Below.drew ?_) | (with_reducible refine Below.setCell ?_ ?_ _) | (with_reducible refine bel_call ‹_› ?_ ?_) | go_size)))) (H6.out.below (by (repeat' (first | (with_reducible exact Below.refl _ _) | (with_reducible assumption) | (with_reducible refine Below.alloc ?_ ?_ _) | (with_reducible refine bel_drewN ?_ _) | (with_reducible refine Below.drew ?_) | (with_reducible refine Below.setCell ?_ ?_ _) | (with_reducible refine bel_call ‹_› ?_ ?_) | go_size))))).mono ?_; rintro e w7 ⟨p7, n7, c7, rfl, h7, hb7, hf7⟩; obtain ⟨hc7, hfz7, hz7⟩ := bcell hb7 (by first | (simp only [World.size_alloc, World.size_setCell, World.size_drew]; rfl) | rfl); have hn7 : n7 ≤ 20 := (by rw [← h7.len]; exact LP.out); have H7 := Lib.hid h7; clear h7 hf7)
        | (go_at_call 51; refine (sum_any false p4 n4 c4 x true p7 n7 c7 (Q * y) (by omega) (by omega) _ (H4.out.below (by (repeat' (first | (with_reducible exact Below.refl _ _) | (with_reducible assumption) | (with_reducible refine Below.alloc ?_ ?_ _) | (with_reducible refine bel_drewN ?_ _) | (with_reducible refine Below.drew ?_) | (with_reducible refine Below.setCell ?_ ?_ _) | (with_reducible refine bel_call ‹_› ?_ ?_) | go_size)))) (H7.out.below (by (repeat' (first | (with_reducible exact Below.refl _ _) | (with_reducible assumption) | (with_reducible refine Below.alloc ?_ ?_ _) | (with_reducible refine bel_drewN ?_ _) | (with_reducible refine Below.drew ?_) | (with_reducible refine Below.setCell ?_ ?_ _) | (with_reducible refine bel_call ‹_› ?_ ?_) | go_size))))).mono ?_; rintro e w8 ⟨p8, n8, c8, rfl, h8, hb8⟩; obtain ⟨hc8, hfz8, hz8⟩ := bcell hb8 (by first | (simp only [World.size_alloc, World.size_setCell, World.size_drew]; rfl) | rfl); have hn8 : n8 ≤ 200 := (by rw [← h8.len]; exact sum_len LA.out LP.out); have H8 := Lib.hid h8; clear h8)
        | (go_at_call 20; refine (to_any (sumM false x true (Q * y)) p8 n8 c8 (sumN false x true (Q * y)) hn8 _ (H8.out.below (by (repeat' (first | (with_reducible exact Below.refl _ _) | (with_reducible assumption) | (with_reducible refine Below.alloc ?_ ?_ _) | (with_reducible refine bel_drewN ?_ _) | (with_reducible refine Below.drew ?_) | (with_reducible refine Below.setCell ?_ ?_ _) | (with_reducible refine bel_call ‹_› ?_ ?_) | go_size))))).mono ?_; rintro e w9 ⟨rfl, hb9⟩; obtain ⟨hc9, hfz9, hz9⟩ := bcell hb9 (by first | (simp only [World.size_alloc, World.size_setCell, World.size_drew]; rfl) | rfl)))
    go_wp2_with fail
    go_ret2
    refine ⟨?_, by (repeat' (first | (with_reducible exact Below.refl _ _) | (with_reducible assumption) | (with_reducible refine Below.alloc ?_ ?_ _) | (with_reducible refine bel_drewN ?_ _) | (with_reducible refine Below.drew ?_) | (with_reducible refine Below.setCell ?_ ?_ _) | (with_reducible refine bel_call ‹_› ?_ ?_) | go_size))⟩
    have hk : sv false x + sv true (Q * y) = z := KEY.out
    rw [← hk, ← sv_sum, ← toV_is, ← toE_is]
    rfl
  · have hfb0 := fun p n c W => field_M true p n c W
    have hfb1 := fun p n c W => field_N true p n c W
    go_enter Tryd.func34, Tryd.ntmps34
    go_wp2_with fail
    refine (FA.out _).mono ?_
    rintro e w1 ⟨p1, n1, c1, rfl, h1, hb1⟩
    have hs1 := hb1.size
    have hn1 : n1 ≤ 20 := by rw [← h1.len]; exact LA.out
    have H1 := Lib.hid h1
    clear h1
    go_wp2_with fail
    refine (FB.out _).mono ?_
    rintro e w2 ⟨p2, n2, c2, rfl, h2, hb2⟩
    have hs2 := hb2.size
    have hn2 : n2 ≤ 20 := by rw [← h2.len]; exact LB.out
    have H2 := Lib.hid h2
    clear h2
    go_wp2_with fail
    refine (FL.out p1 n1 c1 p2 n2 c2 (by omega) (by omega) _ (H1.out.below (by (repeat' (first | (with_reducible exact Below.refl _ _) | (with_reducible assumption) | (with_reducible refine Below.alloc ?_ ?_ _) | (with_reducible refine bel_drewN ?_ _) | (with_reducible refine Below.drew ?_) | (with_reducible refine Below.setCell ?_ ?_ _) | (with_reducible refine bel_call ‹_› ?_ ?_) | go_size)))) (H2.out.below (by (repeat' (first | (with_reducible exact Below.refl _ _) | (with_reducible assumption) | (with_reducible refine Below.alloc ?_ ?_ _) | (with_reducible refine bel_drewN ?_ _) | (with_reducible refine Below.drew ?_) | (with_reducible refine Below.setCell ?_ ?_ _) | (with_reducible refine bel_call ‹_› ?_ ?_) | go_size))))).mono ?_
    rintro e w3 ⟨p3, n3, c3, rfl, h3, hb3⟩
    have hs3 := hb3.size
    have hn3 : n3 ≤ 20 := by rw [← h3.len]; exact LQ.out
    have H3 := Lib.hid h3
    have hbw : Below w.heap.size w w3 := bel_call hb3 (bel_call hb2 hb1 (by omega)) (by omega)
    clear h3
    go_wp2_with fail
    go_region_held3 (fun w' => w'.cell? ⟨w3.heap.size, 0, none⟩ = some (.bool true) ∧ w'.cell? ⟨w3.heap.size, 1, none⟩ = some (.slice p3 n3 c3)) (first | (go_simp; done) | go_keep)
      (first
        | (go_at_call 22; have chk := H5; clear chk; refine (FB.out _).mono ?_; rintro e w6 ⟨p6, n6, c6, rfl, h6, hb6⟩; obtain ⟨hc6, hfz6, hz6⟩ := bcell hb6 (by first | (simp only [World.size_alloc, World.size_setCell, World.size_drew]; rfl) | rfl); have hn6 : n6 ≤ 20 := (by rw [← h6.len]; exact LB.out); have H6 := Lib.hid h6; clear h6)
        | (go_at_call 22; have chk := H4; clear chk; refine (FB.out _).mono ?_; rintro e w5 ⟨p5, n5, c5, rfl, h5, hb5⟩; obtain ⟨hc5, hfz5, hz5⟩ := bcell hb5 (by first | (simp only [World.size_alloc, World.size_setCell, World.size_drew]; rfl) | rfl); have hn5 : n5 ≤ 20 := (by rw [← h5.len]; exact LB.out); have H5 := Lib.hid h5; clear h5)
        | (go_at_call 22; refine (FA.out _).mono ?_; rintro e w4 ⟨p4, n4, c4, rfl, h4, hb4⟩; obtain ⟨hc4, hfz4, hz4⟩ := bcell hb4 (by first | (simp only [World.size_alloc, World.size_setCell, World.size_drew]; rfl) | rfl); have hn4 : n4 ≤ 20 := (by rw [← h4.len]; exact LA.out); have H4 := Lib.hid h4; clear h4)
        | (go_at_call 21; refine (times_any p3 n3 c3 Q p6 n6 c6 y (by omega) (by omega) _ (H3.out.below (by (repeat' (first | (with_reducible exact Below.refl _ _) | (with_reducible assumption) | (with_reducible refine Below.alloc ?_ ?_ _) | (with_reducible refine bel_drewN ?_ _) | (with_reducible refine Below.drew ?_) | (with_reducible refine Below.setCell ?_ ?_ _) | (with_reducible refine bel_call ‹_› ?_ ?_) | go_size)))) (H6.out.below (by (repeat' (first | (with_reducible exact Below.refl _ _) | (with_reducible assumption) | (with_reducible refine Below.alloc ?_ ?_ _) | (with_reducible refine bel_drewN ?_ _) | (with_reducible refine Below.drew ?_) | (with_reducible refine Below.setCell ?_ ?_ _) | (with_reducible refine bel_call ‹_› ?_ ?_) | go_size))))).mono ?_; rintro e w7 ⟨p7, n7, c7, rfl, h7, hb7, hf7⟩; obtain ⟨hc7, hfz7, hz7⟩ := bcell hb7 (by first | (simp only [World.size_alloc, World.size_setCell, World.size_drew]; rfl) | rfl); have hn7 : n7 ≤ 20 := (by rw [← h7.len]; exact LP.out); have H7 := Lib.hid h7; clear h7 hf7)
        | (go_at_call 51; refine (sum_any false p4 n4 c4 x true p7 n7 c7 (Q * y) (by omega) (by omega) _ (H4.out.below (by (repeat' (first | (with_reducible exact Below.refl _ _) | (with_reducible assumption) | (with_reducible refine Below.alloc ?_ ?_ _) | (with_reducible refine bel_drewN ?_ _) | (with_reducible refine Below.drew ?_) | (with_reducible refine Below.setCell ?_ ?_ _) | (with_reducible refine bel_call ‹_› ?_ ?_) | go_size)))) (H7.out.below (by (repeat' (first | (with_reducible exact Below.refl _ _) | (with_reducible assumption) | (with_reducible refine Below.alloc ?_ ?_ _) | (with_reducible refine bel_drewN ?_ _) | (with_reducible refine Below.drew ?_) | (with_reducible refine Below.setCell ?_ ?_ _) | (with_reducible refine bel_call ‹_› ?_ ?_) | go_size))))).mono ?_; rintro e w8 ⟨p8, n8, c8, rfl, h8, hb8⟩; obtain ⟨hc8, hfz8, hz8⟩ := bcell hb8 (by first | (simp only [World.size_alloc, World.size_setCell, World.size_drew]; rfl) | rfl); have hn8 : n8 ≤ 200 := (by rw [← h8.len]; exact sum_len LA.out LP.out); have H8 := Lib.hid h8; clear h8)
        | (go_at_call 20; refine (to_any (sumM false x true (Q * y)) p8 n8 c8 (sumN false x true (Q * y)) hn8 _ (H8.out.below (by (repeat' (first | (with_reducible exact Below.refl _ _) | (with_reducible assumption) | (with_reducible refine Below.alloc ?_ ?_ _) | (with_reducible refine bel_drewN ?_ _) | (with_reducible refine Below.drew ?_) | (with_reducible refine Below.setCell ?_ ?_ _) | (with_reducible refine bel_call ‹_› ?_ ?_) | go_size))))).mono ?_; rintro e w9 ⟨rfl, hb9⟩; obtain ⟨hc9, hfz9, hz9⟩ := bcell hb9 (by first | (simp only [World.size_alloc, World.size_setCell, World.size_drew]; rfl) | rfl)))
    go_wp2_with fail
    go_ret2
    refine ⟨?_, by (repeat' (first | (with_reducible exact Below.refl _ _) | (with_reducible assumption) | (with_reducible refine Below.alloc ?_ ?_ _) | (with_reducible refine bel_drewN ?_ _) | (with_reducible refine Below.drew ?_) | (with_reducible refine Below.setCell ?_ ?_ _) | (with_reducible refine bel_call ‹_› ?_ ?_) | go_size))⟩
    have hk : sv false x + sv true (Q * y) = z := KEY.out
    rw [← hk, ← sv_sum, ← toV_is, ← toE_is]
    rfl
  · have hfb0 := fun p n c W => field_M false p n c W
    have hfb1 := fun p n c W => field_N false p n c W
    go_enter Tryd.func34, Tryd.ntmps34
    go_wp2_with fail
    refine (FA.out _).mono ?_
    rintro e w1 ⟨p1, n1, c1, rfl, h1, hb1⟩
    have hs1 := hb1.size
    have hn1 : n1 ≤ 20 := by rw [← h1.len]; exact LA.out
    have H1 := Lib.hid h1
    clear h1
    go_wp2_with fail
    refine (FB.out _).mono ?_
    rintro e w2 ⟨p2, n2, c2, rfl, h2, hb2⟩
    have hs2 := hb2.size
    have hn2 : n2 ≤ 20 := by rw [← h2.len]; exact LB.out
    have H2 := Lib.hid h2
    clear h2
    go_wp2_with fail
    refine (FL.out p1 n1 c1 p2 n2 c2 (by omega) (by omega) _ (H1.out.below (by (repeat' (first | (with_reducible exact Below.refl _ _) | (with_reducible assumption) | (with_reducible refine Below.alloc ?_ ?_ _) | (with_reducible refine bel_drewN ?_ _) | (with_reducible refine Below.drew ?_) | (with_reducible refine Below.setCell ?_ ?_ _) | (with_reducible refine bel_call ‹_› ?_ ?_) | go_size)))) (H2.out.below (by (repeat' (first | (with_reducible exact Below.refl _ _) | (with_reducible assumption) | (with_reducible refine Below.alloc ?_ ?_ _) | (with_reducible refine bel_drewN ?_ _) | (with_reducible refine Below.drew ?_) | (with_reducible refine Below.setCell ?_ ?_ _) | (with_reducible refine bel_call ‹_› ?_ ?_) | go_size))))).mono ?_
    rintro e w3 ⟨p3, n3, c3, rfl, h3, hb3⟩
    have hs3 := hb3.size
    have hn3 : n3 ≤ 20 := by rw [← h3.len]; exact LQ.out
    have H3 := Lib.hid h3
    have hbw : Below w.heap.size w w3 := bel_call hb3 (bel_call hb2 hb1 (by omega)) (by omega)
    clear h3
    go_wp2_with fail
    go_region_held3 (fun w' => w'.cell? ⟨w3.heap.size, 0, none⟩ = some (.bool true) ∧ w'.cell? ⟨w3.heap.size, 1, none⟩ = some (.slice p3 n3 c3)) (first | (go_simp; done) | go_keep)
      (first
        | (go_at_call 22; have chk := H5; clear chk; refine (FB.out _).mono ?_; rintro e w6 ⟨p6, n6, c6, rfl, h6, hb6⟩; obtain ⟨hc6, hfz6, hz6⟩ := bcell hb6 (by first | (simp only [World.size_alloc, World.size_setCell, World.size_drew]; rfl) | rfl); have hn6 : n6 ≤ 20 := (by rw [← h6.len]; exact LB.out); have H6 := Lib.hid h6; clear h6)
        | (go_at_call 22; have chk := H4; clear chk; refine (FB.out _).mono ?_; rintro e w5 ⟨p5, n5, c5, rfl, h5, hb5⟩; obtain ⟨hc5, hfz5, hz5⟩ := bcell hb5 (by first | (simp only [World.size_alloc, World.size_setCell, World.size_drew]; rfl) | rfl); have hn5 : n5 ≤ 20 := (by rw [← h5.len]; exact LB.out); have H5 := Lib.hid h5; clear h5)
        | (go_at_call 22; refine (FA.out _).mono ?_; rintro e w4 ⟨p4, n4, c4, rfl, h4, hb4⟩; obtain ⟨hc4, hfz4, hz4⟩ := bcell hb4 (by first | (simp only [World.size_alloc, World.size_setCell, World.size_drew]; rfl) | rfl); have hn4 : n4 ≤ 20 := (by rw [← h4.len]; exact LA.out); have H4 := Lib.hid h4; clear h4)
        | (go_at_call 21; refine (times_any p3 n3 c3 Q p6 n6 c6 y (by omega) (by omega) _ (H3.out.below (by (repeat' (first | (with_reducible exact Below.refl _ _) | (with_reducible assumption) | (with_reducible refine Below.alloc ?_ ?_ _) | (with_reducible refine bel_drewN ?_ _) | (with_reducible refine Below.drew ?_) | (with_reducible refine Below.setCell ?_ ?_ _) | (with_reducible refine bel_call ‹_› ?_ ?_) | go_size)))) (H6.out.below (by (repeat' (first | (with_reducible exact Below.refl _ _) | (with_reducible assumption) | (with_reducible refine Below.alloc ?_ ?_ _) | (with_reducible refine bel_drewN ?_ _) | (with_reducible refine Below.drew ?_) | (with_reducible refine Below.setCell ?_ ?_ _) | (with_reducible refine bel_call ‹_› ?_ ?_) | go_size))))).mono ?_; rintro e w7 ⟨p7, n7, c7, rfl, h7, hb7, hf7⟩; obtain ⟨hc7, hfz7, hz7⟩ := bcell hb7 (by first | (simp only [World.size_alloc, World.size_setCell, World.size_drew]; rfl) | rfl); have hn7 : n7 ≤ 20 := (by rw [← h7.len]; exact LP.out); have H7 := Lib.hid h7; clear h7 hf7)
        | (go_at_call 51; refine (sum_any true p4 n4 c4 x false p7 n7 c7 (Q * y) (by omega) (by omega) _ (H4.out.below (by (repeat' (first | (with_reducible exact Below.refl _ _) | (with_reducible assumption) | (with_reducible refine Below.alloc ?_ ?_ _) | (with_reducible refine bel_drewN ?_ _) | (with_reducible refine Below.drew ?_) | (with_reducible refine Below.setCell ?_ ?_ _) | (with_reducible refine bel_call ‹_› ?_ ?_) | go_size)))) (H7.out.below (by (repeat' (first | (with_reducible exact Below.refl _ _) | (with_reducible assumption) | (with_reducible refine Below.alloc ?_ ?_ _) | (with_reducible refine bel_drewN ?_ _) | (with_reducible refine Below.drew ?_) | (with_reducible refine Below.setCell ?_ ?_ _) | (with_reducible refine bel_call ‹_› ?_ ?_) | go_size))))).mono ?_; rintro e w8 ⟨p8, n8, c8, rfl, h8, hb8⟩; obtain ⟨hc8, hfz8, hz8⟩ := bcell hb8 (by first | (simp only [World.size_alloc, World.size_setCell, World.size_drew]; rfl) | rfl); have hn8 : n8 ≤ 200 := (by rw [← h8.len]; exact sum_len LA.out LP.out); have H8 := Lib.hid h8; clear h8)
        | (go_at_call 20; refine (to_any (sumM true x false (Q * y)) p8 n8 c8 (sumN true x false (Q * y)) hn8 _ (H8.out.below (by (repeat' (first | (with_reducible exact Below.refl _ _) | (with_reducible assumption) | (with_reducible refine Below.alloc ?_ ?_ _) | (with_reducible refine bel_drewN ?_ _) | (with_reducible refine Below.drew ?_) | (with_reducible refine Below.setCell ?_ ?_ _) | (with_reducible refine bel_call ‹_› ?_ ?_) | go_size))))).mono ?_; rintro e w9 ⟨rfl, hb9⟩; obtain ⟨hc9, hfz9, hz9⟩ := bcell hb9 (by first | (simp only [World.size_alloc, World.size_setCell, World.size_drew]; rfl) | rfl)))
    go_wp2_with fail
    go_ret2
    refine ⟨?_, by (repeat' (first | (with_reducible exact Below.refl _ _) | (with_reducible assumption) | (with_reducible refine Below.alloc ?_ ?_ _) | (with_reducible refine bel_drewN ?_ _) | (with_reducible refine Below.drew ?_) | (with_reducible refine Below.setCell ?_ ?_ _) | (with_reducible refine bel_call ‹_› ?_ ?_) | go_size))⟩
    have hk : sv true x + sv false (Q * y) = z := KEY.out
    rw [← hk, ← sv_sum, ← toV_is, ← toE_is]
    rfl
  · have hfb0 := fun p n c W => field_M true p n c W
    have hfb1 := fun p n c W => field_N true p n c W
    go_enter Tryd.func34, Tryd.ntmps34
    go_wp2_with fail
    refine (FA.out _).mono ?_
    rintro e w1 ⟨p1, n1, c1, rfl, h1, hb1⟩
    have hs1 := hb1.size
    have hn1 : n1 ≤ 20 := by rw [← h1.len]; exact LA.out
    have H1 := Lib.hid h1
    clear h1
    go_wp2_with fail
    refine (FB.out _).mono ?_
    rintro e w2 ⟨p2, n2, c2, rfl, h2, hb2⟩
    have hs2 := hb2.size
    have hn2 : n2 ≤ 20 := by rw [← h2.len]; exact LB.out
    have H2 := Lib.hid h2
    clear h2
    go_wp2_with fail
    refine (FL.out p1 n1 c1 p2 n2 c2 (by omega) (by omega) _ (H1.out.below (by (repeat' (first | (with_reducible exact Below.refl _ _) | (with_reducible assumption) | (with_reducible refine Below.alloc ?_ ?_ _) | (with_reducible refine bel_drewN ?_ _) | (with_reducible refine Below.drew ?_) | (with_reducible refine Below.setCell ?_ ?_ _) | (with_reducible refine bel_call ‹_› ?_ ?_) | go_size)))) (H2.out.below (by (repeat' (first | (with_reducible exact Below.refl _ _) | (with_reducible assumption) | (with_reducible refine Below.alloc ?_ ?_ _) | (with_reducible refine bel_drewN ?_ _) | (with_reducible refine Below.drew ?_) | (with_reducible refine Below.setCell ?_ ?_ _) | (with_reducible refine bel_call ‹_› ?_ ?_) | go_size))))).mono ?_
    rintro e w3 ⟨p3, n3, c3, rfl, h3, hb3⟩
    have hs3 := hb3.size
    have hn3 : n3 ≤ 20 := by rw [← h3.len]; exact LQ.out
    have H3 := Lib.hid h3
    have hbw : Below w.heap.size w w3 := bel_call hb3 (bel_call hb2 hb1 (by omega)) (by omega)
    clear h3
    go_wp2_with fail
    go_region_held3 (fun w' => w'.cell? ⟨w3.heap.size, 0, none⟩ = some (.bool false) ∧ w'.cell? ⟨w3.heap.size, 1, none⟩ = some (.slice p3 n3 c3)) (first | (go_simp; done) | go_keep)
      (first
        | (go_at_call 22; have chk := H5; clear chk; refine (FB.out _).mono ?_; rintro e w6 ⟨p6, n6, c6, rfl, h6, hb6⟩; obtain ⟨hc6, hfz6, hz6⟩ := bcell hb6 (by first | (simp only [World.size_alloc, World.size_setCell, World.size_drew]; rfl) | rfl); have hn6 : n6 ≤ 20 := (by rw [← h6.len]; exact LB.out); have H6 := Lib.hid h6; clear h6)
        | (go_at_call 22; have chk := H4; clear chk; refine (FB.out _).mono ?_; rintro e w5 ⟨p5, n5, c5, rfl, h5, hb5⟩; obtain ⟨hc5, hfz5, hz5⟩ := bcell hb5 (by first | (simp only [World.size_alloc, World.size_setCell, World.size_drew]; rfl) | rfl); have hn5 : n5 ≤ 20 := (by rw [← h5.len]; exact LB.out); have H5 := Lib.hid h5; clear h5)
        | (go_at_call 22; refine (FA.out _).mono ?_; rintro e w4 ⟨p4, n4, c4, rfl, h4, hb4⟩; obtain ⟨hc4, hfz4, hz4⟩ := bcell hb4 (by first | (simp only [World.size_alloc, World.size_setCell, World.size_drew]; rfl) | rfl); have hn4 : n4 ≤ 20 := (by rw [← h4.len]; exact LA.out); have H4 := Lib.hid h4; clear h4)
        | (go_at_call 21; refine (times_any p3 n3 c3 Q p6 n6 c6 y (by omega) (by omega) _ (H3.out.below (by (repeat' (first | (with_reducible exact Below.refl _ _) | (with_reducible assumption) | (with_reducible refine Below.alloc ?_ ?_ _) | (with_reducible refine bel_drewN ?_ _) | (with_reducible refine Below.drew ?_) | (with_reducible refine Below.setCell ?_ ?_ _) | (with_reducible refine bel_call ‹_› ?_ ?_) | go_size)))) (H6.out.below (by (repeat' (first | (with_reducible exact Below.refl _ _) | (with_reducible assumption) | (with_reducible refine Below.alloc ?_ ?_ _) | (with_reducible refine bel_drewN ?_ _) | (with_reducible refine Below.drew ?_) | (with_reducible refine Below.setCell ?_ ?_ _) | (with_reducible refine bel_call ‹_› ?_ ?_) | go_size))))).mono ?_; rintro e w7 ⟨p7, n7, c7, rfl, h7, hb7, hf7⟩; obtain ⟨hc7, hfz7, hz7⟩ := bcell hb7 (by first | (simp only [World.size_alloc, World.size_setCell, World.size_drew]; rfl) | rfl); have hn7 : n7 ≤ 20 := (by rw [← h7.len]; exact LP.out); have H7 := Lib.hid h7; clear h7 hf7)
        | (go_at_call 51; refine (sum_any true p4 n4 c4 x false p7 n7 c7 (Q * y) (by omega) (by omega) _ (H4.out.below (by (repeat' (first | (with_reducible exact Below.refl _ _) | (with_reducible assumption) | (with_reducible refine Below.alloc ?_ ?_ _) | (with_reducible refine bel_drewN ?_ _) | (with_reducible refine Below.drew ?_) | (with_reducible refine Below.setCell ?_ ?_ _) | (with_reducible refine bel_call ‹_› ?_ ?_) | go_size)))) (H7.out.below (by (repeat' (first | (with_reducible exact Below.refl _ _) | (with_reducible assumption) | (with_reducible refine Below.alloc ?_ ?_ _) | (with_reducible refine bel_drewN ?_ _) | (with_reducible refine Below.drew ?_) | (with_reducible refine Below.setCell ?_ ?_ _) | (with_reducible refine bel_call ‹_› ?_ ?_) | go_size))))).mono ?_; rintro e w8 ⟨p8, n8, c8, rfl, h8, hb8⟩; obtain ⟨hc8, hfz8, hz8⟩ := bcell hb8 (by first | (simp only [World.size_alloc, World.size_setCell, World.size_drew]; rfl) | rfl); have hn8 : n8 ≤ 200 := (by rw [← h8.len]; exact sum_len LA.out LP.out); have H8 := Lib.hid h8; clear h8)
        | (go_at_call 20; refine (to_any (sumM true x false (Q * y)) p8 n8 c8 (sumN true x false (Q * y)) hn8 _ (H8.out.below (by (repeat' (first | (with_reducible exact Below.refl _ _) | (with_reducible assumption) | (with_reducible refine Below.alloc ?_ ?_ _) | (with_reducible refine bel_drewN ?_ _) | (with_reducible refine Below.drew ?_) | (with_reducible refine Below.setCell ?_ ?_ _) | (with_reducible refine bel_call ‹_› ?_ ?_) | go_size))))).mono ?_; rintro e w9 ⟨rfl, hb9⟩; obtain ⟨hc9, hfz9, hz9⟩ := bcell hb9 (by first | (simp only [World.size_alloc, World.size_setCell, World.size_drew]; rfl) | rfl)))
    go_wp2_with fail
    go_ret2
    refine ⟨?_, by (repeat' (first | (with_reducible exact Below.refl _ _) | (with_reducible assumption) | (with_reducible refine Below.alloc ?_ ?_ _) | (with_reducible refine bel_drewN ?_ _) | (with_reducible refine Below.drew ?_) | (with_reducible refine Below.setCell ?_ ?_ _) | (with_reducible refine bel_call ‹_› ?_ ?_) | go_size))⟩
    have hk : sv true x + sv false (Q * y) = z := KEY.out
    rw [← hk, ← sv_sum, ← toV_is, ← toE_is]
    rfl

theorem refMod_any (a b : Int) (ha1 : -9223372036854775808 ≤ a) (ha2 : a ≤ 9223372036854775807) (hb1 : -9223372036854775808 ≤ b) (hb2 : b ≤ 9223372036854775807) (w : World) :
    Calls Tryd.prog 34 #[.int .i64 a, .int .i64 b] w fun e w' => e = .returned (.tuple #[.int .i64 (modV a b), .int .i64 (modE b)]) ∧ Below w.heap.size w w' := by
  by_cases h0 : b = 0
  · subst h0
    rw [show modV a 0 = 0 from rfl, show modE 0 = 32 from rfl]
    go_enter Tryd.func34, Tryd.ntmps34
    go_wp2
    go_ret2
    exact ⟨rfl, Below.refl _ _⟩
  · have hin := modV_in a b hb1 hb2
    have hq1 := flQ_le (decide (a < 0)) (decide (b < 0)) a.natAbs b.natAbs
    have hq2 := flQ_mul_le (decide (a < 0)) (decide (b < 0)) a.natAbs b.natAbs
    have h := refMod_core a b (decide (a < 0)) (decide (b < 0)) a.natAbs b.natAbs (flQ (decide (a < 0)) (decide (b < 0)) a.natAbs b.natAbs) (modV a b) (by simpa using h0)
      (Lib.hid (fun W => from_any a ha1 ha2 W)) (Lib.hid (fun W => from_any b hb1 hb2 W)) (Lib.hid (digs_length_le (by omega))) (Lib.hid (digs_length_le (by omega))) (Lib.hid (digs_length_le (by omega))) (Lib.hid (digs_length_le (by omega)))
      (Lib.hid (fun p n cap p2 n2 cap2 hn hm W h1 h2 => floored_any (decide (a < 0)) p n cap a.natAbs (decide (b < 0)) p2 n2 cap2 b.natAbs hn hm (by omega) W h1 h2))
      (Lib.hid (by rw [sv_from]; exact mod_key a b h0)) w
    rw [okV_yes hin.1 hin.2, okE_yes hin.1 hin.2] at h
    rw [show modE b = 0 from if_neg h0]
    exact h
end Go.Proofs.YtgmbfbddfjecpaaDoor
