/- The reference's Add in one formula; the laws DecSums and DecBack: the walks. -/
import Derived.Test.YtilajcibjlcffaaGreatDoorDecF
set_option linter.unusedSimpArgs false
set_option linter.unusedVariables false

namespace Go.Proofs.YtilajcibjlcffaaGreatDoor
open Go.RowKit
attribute [local go_sem ↓] Go.wp_at_zero Go.wp_at_succ

theorem sv_sum (ma : Bool) (a : Nat) (mb : Bool) (b : Nat) : sv (sumM ma a mb b) (sumN ma a mb b) = sv ma a + sv mb b := by
  unfold sv sumM sumN
  by_cases h : a < b
  · cases ma <;> cases mb <;> simp [h] <;> omega
  · cases ma <;> cases mb <;> simp [h] <;> omega
theorem sum_len {ma mb : Bool} {a b : Nat} (ha : (digs a).length ≤ 20) (hb : (digs b).length ≤ 20) : (digs (sumN ma a mb b)).length ≤ 200 := by
  have h1 := dval_lt (digs a) (digs_lt a)
  have h2 := dval_lt (digs b) (digs_lt b)
  rw [dval_digs] at h1 h2
  have h3 : 10 ^ (digs a).length ≤ 10 ^ 20 := Nat.pow_le_pow_right (by omega) ha
  have h4 : 10 ^ (digs b).length ≤ 10 ^ 20 := Nat.pow_le_pow_right (by omega) hb
  refine Nat.le_trans (digs_length_le (k := 21) ?_) (by omega)
  have h5 : sumN ma a mb b ≤ a + b := by
    unfold sumN
    split
    · exact Nat.le_refl _
    · split <;> omega
  have h6 : (10 : Nat) ^ 21 = 10 * 10 ^ 20 := by rw [Nat.pow_succ, Nat.mul_comm]
  omega
theorem sv_from (n : Int) : sv (decide (n < 0)) n.natAbs = n := by
  unfold sv
  by_cases h : n < 0
  · simp [h]; omega
  · simp [h]; omega
theorem sv_not (m : Bool) (n : Nat) : sv (!m) n = -sv m n := by cases m <;> simp [sv]

set_option maxRecDepth 100000 in
set_option maxHeartbeats 1000000 in
theorem refAdd_any (a b : Int) (sub : Bool) (ha1 : -9223372036854775808 ≤ a) (ha2 : a ≤ 9223372036854775807) (hb1 : -9223372036854775808 ≤ b) (hb2 : b ≤ 9223372036854775807) (z : Int) (hz : z = if sub then a - b else a + b) (w : World) :
    Calls Tryz.prog 31 #[.int .i64 a, .int .i64 b, .bool sub] w fun e w' => e = .returned (.tuple #[.int .i64 (okV z), .int .i64 (okE z)]) ∧ Below w.heap.size w w' := by
  have FA := Lib.hid (fun W => from_any a ha1 ha2 W)
  have FB := Lib.hid (fun W => from_any b hb1 hb2 W)
  have la : (digs a.natAbs).length ≤ 20 := digs_length_le (by omega)
  have lb : (digs b.natAbs).length ≤ 20 := digs_length_le (by omega)
  have hs : sv (decide (a < 0)) a.natAbs + sv (if sub then !decide (b < 0) else decide (b < 0)) b.natAbs = z := by
    rw [hz, sv_from]
    cases sub
    · simp [sv_from]
    · simp [sv_not, sv_from]; omega
  obtain ⟨ma, hma⟩ : ∃ ma, decide (a < 0) = ma := ⟨_, rfl⟩
  obtain ⟨mb, hmb⟩ : ∃ mb, decide (b < 0) = mb := ⟨_, rfl⟩
  obtain ⟨x, hx⟩ : ∃ x, a.natAbs = x := ⟨_, rfl⟩
  obtain ⟨y, hy⟩ : ∃ y, b.natAbs = y := ⟨_, rfl⟩
  rw [hma, hmb, hx, hy] at hs
  rw [hma, hx] at FA
  rw [hmb, hy] at FB
  rw [hx] at la
  rw [hy] at lb
  have HS := Lib.hid hs
  clear hma hmb hx hy hs hz ha1 ha2 hb1 hb2
  cases sub
  · have HS2 : Hid (sv ma x + sv mb y = z) := HS.out
    clear HS
    go_enter Tryz.func31, Tryz.ntmps31
    go_wp2_with fail
    refine (FB.out _).mono ?_
    rintro e w1 ⟨p1, n1, c1, rfl, h1, hb1⟩
    have hs1 := hb1.size
    have hn1 : n1 ≤ 20 := by rw [← h1.len]; exact lb
    have H1 := Lib.hid h1
    clear h1
    go_wp2_with fail
    go_region_held3 (fun w' => w'.cell? ⟨w1.heap.size, 0, none⟩ = some (.bool mb) ∧ w'.cell? ⟨w1.heap.size, 1, none⟩ = some (.slice p1 n1 c1)) (first | (go_simp; done) | go_keep)
      (first
        | (go_at_call 56; refine (FA.out _).mono ?_; rintro e w2 ⟨p2, n2, c2, rfl, h2, hb2⟩; obtain ⟨hc2, hf2, hz2⟩ := bcell hb2 (by first | (simp only [World.size_alloc, World.size_setCell, World.size_drew]; rfl) | rfl); have hn2 : n2 ≤ 20 := (by rw [← h2.len]; exact la); have H2 := Lib.hid h2; clear h2)
        | (go_at_call 58; refine (sum_any ma p2 n2 c2 x mb p1 n1 c1 y (by omega) (by omega) _ (H2.out.below (by (repeat' (first | (with_reducible exact Below.refl _ _) | (with_reducible assumption) | (with_reducible refine Below.alloc ?_ ?_ _) | (with_reducible refine bel_drewN ?_ _) | (with_reducible refine Below.drew ?_) | (with_reducible refine Below.setCell ?_ ?_ _) | (with_reducible refine bel_call ‹_› ?_ ?_) | go_size)))) (H1.out.below (by (repeat' (first | (with_reducible exact Below.refl _ _) | (with_reducible assumption) | (with_reducible refine Below.alloc ?_ ?_ _) | (with_reducible refine bel_drewN ?_ _) | (with_reducible refine Below.drew ?_) | (with_reducible refine Below.setCell ?_ ?_ _) | (with_reducible refine bel_call ‹_› ?_ ?_) | go_size))))).mono ?_; rintro e w3 ⟨p3, n3, c3, rfl, h3, hb3⟩; obtain ⟨hc3, hf3, hz3⟩ := bcell hb3 (by first | (simp only [World.size_alloc, World.size_setCell, World.size_drew]; rfl) | rfl); have hn3 : n3 ≤ 200 := (by rw [← h3.len]; exact sum_len la lb); have H3 := Lib.hid h3; clear h3)
        | (go_at_call 57; refine (to_any (sumM ma x mb y) p3 n3 c3 (sumN ma x mb y) hn3 _ (H3.out.below (by (repeat' (first | (with_reducible exact Below.refl _ _) | (with_reducible assumption) | (with_reducible refine Below.alloc ?_ ?_ _) | (with_reducible refine bel_drewN ?_ _) | (with_reducible refine Below.drew ?_) | (with_reducible refine Below.setCell ?_ ?_ _) | (with_reducible refine bel_call ‹_› ?_ ?_) | go_size))))).mono ?_; rintro e w4 ⟨rfl, hb4⟩; obtain ⟨hc4, hf4, hz4⟩ := bcell hb4 (by first | (simp only [World.size_alloc, World.size_setCell, World.size_drew]; rfl) | rfl)))
    go_wp2_with fail
    go_ret2
    refine ⟨?_, by (repeat' (first | (with_reducible exact Below.refl _ _) | (with_reducible assumption) | (with_reducible refine Below.alloc ?_ ?_ _) | (with_reducible refine bel_drewN ?_ _) | (with_reducible refine Below.drew ?_) | (with_reducible refine Below.setCell ?_ ?_ _) | (with_reducible refine bel_call ‹_› ?_ ?_) | go_size))⟩
    rw [← HS2.out, ← sv_sum, ← toV_is, ← toE_is]
    rfl
  · have HS2 : Hid (sv ma x + sv (!mb) y = z) := HS.out
    clear HS
    go_enter Tryz.func31, Tryz.ntmps31
    go_wp2_with fail
    refine (FB.out _).mono ?_
    rintro e w1 ⟨p1, n1, c1, rfl, h1, hb1⟩
    have hs1 := hb1.size
    have hn1 : n1 ≤ 20 := by rw [← h1.len]; exact lb
    have H1 := Lib.hid h1
    clear h1
    go_wp2_with fail
    go_region_held3 (fun w' => w'.cell? ⟨w1.heap.size, 0, none⟩ = some (.bool (!mb)) ∧ w'.cell? ⟨w1.heap.size, 1, none⟩ = some (.slice p1 n1 c1)) (first | (go_simp; done) | go_keep)
      (first
        | (go_at_call 56; refine (FA.out _).mono ?_; rintro e w2 ⟨p2, n2, c2, rfl, h2, hb2⟩; obtain ⟨hc2, hf2, hz2⟩ := bcell hb2 (by first | (simp only [World.size_alloc, World.size_setCell, World.size_drew]; rfl) | rfl); have hn2 : n2 ≤ 20 := (by rw [← h2.len]; exact la); have H2 := Lib.hid h2; clear h2)
        | (go_at_call 58; refine (sum_any ma p2 n2 c2 x (!mb) p1 n1 c1 y (by omega) (by omega) _ (H2.out.below (by (repeat' (first | (with_reducible exact Below.refl _ _) | (with_reducible assumption) | (with_reducible refine Below.alloc ?_ ?_ _) | (with_reducible refine bel_drewN ?_ _) | (with_reducible refine Below.drew ?_) | (with_reducible refine Below.setCell ?_ ?_ _) | (with_reducible refine bel_call ‹_› ?_ ?_) | go_size)))) (H1.out.below (by (repeat' (first | (with_reducible exact Below.refl _ _) | (with_reducible assumption) | (with_reducible refine Below.alloc ?_ ?_ _) | (with_reducible refine bel_drewN ?_ _) | (with_reducible refine Below.drew ?_) | (with_reducible refine Below.setCell ?_ ?_ _) | (with_reducible refine bel_call ‹_› ?_ ?_) | go_size))))).mono ?_; rintro e w3 ⟨p3, n3, c3, rfl, h3, hb3⟩; obtain ⟨hc3, hf3, hz3⟩ := bcell hb3 (by first | (simp only [World.size_alloc, World.size_setCell, World.size_drew]; rfl) | rfl); have hn3 : n3 ≤ 200 := (by rw [← h3.len]; exact sum_len la lb); have H3 := Lib.hid h3; clear h3)
        | (go_at_call 57; refine (to_any (sumM ma x (!mb) y) p3 n3 c3 (sumN ma x (!mb) y) hn3 _ (H3.out.below (by (repeat' (first | (with_reducible exact Below.refl _ _) | (with_reducible assumption) | (with_reducible refine Below.alloc ?_ ?_ _) | (with_reducible refine bel_drewN ?_ _) | (with_reducible refine Below.drew ?_) | (with_reducible refine Below.setCell ?_ ?_ _) | (with_reducible refine bel_call ‹_› ?_ ?_) | go_size))))).mono ?_; rintro e w4 ⟨rfl, hb4⟩; obtain ⟨hc4, hf4, hz4⟩ := bcell hb4 (by first | (simp only [World.size_alloc, World.size_setCell, World.size_drew]; rfl) | rfl)))
    go_wp2_with fail
    go_ret2
    refine ⟨?_, by (repeat' (first | (with_reducible exact Below.refl _ _) | (with_reducible assumption) | (with_reducible refine Below.alloc ?_ ?_ _) | (with_reducible refine bel_drewN ?_ _) | (with_reducible refine Below.drew ?_) | (with_reducible refine Below.setCell ?_ ?_ _) | (with_reducible refine bel_call ‹_› ?_ ?_) | go_size))⟩
    rw [← HS2.out, ← sv_sum, ← toV_is, ← toE_is]
    rfl
end Go.Proofs.YtilajcibjlcffaaGreatDoor
