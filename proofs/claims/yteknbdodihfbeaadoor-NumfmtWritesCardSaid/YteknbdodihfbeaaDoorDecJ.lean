/- Round of the document's answer. -/
import Derived.Test.YteknbdodihfbeaaDoorDecI
set_option linter.unusedSimpArgs false
set_option linter.unusedVariables false

namespace Go.Proofs.YteknbdodihfbeaaDoor
open Go.RowKit

theorem uN_digs (k : Int) : (digs (uN k)).length ≤ 7 := digs_length_le (Nat.lt_of_le_of_lt (uN_le k) (by decide))

set_option maxRecDepth 100000 in
set_option maxHeartbeats 1000000 in
theorem refRound_any (a : Int) (k : Int) (ha1 : -9223372036854775808 ≤ a) (ha2 : a ≤ 9223372036854775807) (w : World) :
    Calls Tryd.prog 26 #[.int .i64 a, .int .i64 k] w fun e w' => e = .returned (.tuple #[.int .i64 (okV (sv (decide (a < 0)) (rdiv a.natAbs (uN k) * uN k))), .int .i64 (okE (sv (decide (a < 0)) (rdiv a.natAbs (uN k) * uN k)))]) ∧ Below w.heap.size w w' := by
  have FA := Lib.hid (fun W => from_any a ha1 ha2 W)
  have la : (digs a.natAbs).length ≤ 20 := digs_length_le (by omega)
  have hA : a.natAbs ≤ 9223372036854775808 := by omega
  have hu1 := uN_pos k
  have hu2 := uN_le k
  have hU : uN k = 10 ^ (6 - (min (max k 0) 6)).toNat := rfl
  obtain ⟨u, hu⟩ : ∃ u, uN k = u := ⟨_, rfl⟩
  obtain ⟨ma, hma⟩ : ∃ ma, decide (a < 0) = ma := ⟨_, rfl⟩
  obtain ⟨x, hx⟩ : ∃ x, a.natAbs = x := ⟨_, rfl⟩
  obtain ⟨m, hm⟩ : ∃ m, (6 - (min (max k 0) 6)).toNat = m := ⟨_, rfl⟩
  rw [hu] at hu1 hu2 hU ⊢
  rw [hma, hx] at FA ⊢
  rw [hx] at la hA
  rw [hm] at hU
  have hk : ∀ j : Nat, j < m ↔ (k < 6 - (j : Int) ∧ 0 < 6 - (j : Int)) := by omega
  have hm6 : m ≤ 6 := by omega
  have HK := Lib.hid hk
  have LU := Lib.hid (show (digs u).length ≤ 7 from digs_length_le (Nat.lt_of_le_of_lt hu2 (by decide)))
  have hr1 : rdiv x u ≤ x + 1 := by
    unfold rdiv
    have := Nat.div_le_self x u
    split <;> omega
  have hr2 := rdiv_mul_le x u hu1
  have LR := Lib.hid (show (digs (rdiv x u)).length ≤ 20 from digs_length_le (by omega))
  have LP := Lib.hid (show (digs (rdiv x u * u)).length ≤ 20 from digs_length_le (by omega))
  clear hr1 hr2
  have HU := Lib.hid hU
  have HO := Lib.hid (fun W => of_digs u (by omega) W)
  clear hma hx hm hu ha1 ha2 hk hU
  go_enter Tryd.func26, Tryd.ntmps26
  go_wp2_with fail
  go_loopg [6, 7] m (fun g v4 v5 wr => wr = w ∧ ∃ j q : Nat, j + g = m ∧ v5 = .int .i64 (6 - (j : Int)) ∧ v4 = .int .u64 q ∧ q = 10 ^ j)
  case atStart => exact ⟨rfl, 0, 1, by omega, rfl, rfl, rfl⟩
  case round =>
    obtain ⟨rfl, j, q, hj, rfl, rfl, hq⟩ := hrel
    have HQ := Lib.hid hq
    have hqb : j < 6 → q ≤ 100000 := fun h => by
      rw [hq]
      exact Nat.le_trans (Nat.pow_le_pow_right (by omega) (by omega : j ≤ 5)) (by decide)
    clear hq
    by_cases hgo : j < m
    · have hqb' := hqb (by omega)
      obtain ⟨d1, d2⟩ := (HK.out j).1 hgo
      clear hqb
      go_wp2
      go_roundg (gk - 1)
      case measure => omega
      case rel => exact ⟨rfl, j + 1, q * 10, by omega, by go_num, by go_num, by rw [HQ.out, Nat.pow_succ]⟩
    · have e : j = m := by omega
      subst e
      obtain rfl : q = u := by rw [HQ.out, HU.out]
      have hno := mt (HK.out j).2 hgo
      have hno1 : ¬ (k < 6 - (j : Int)) ∨ ((k < 6 - (j : Int)) ∧ ¬ (0 < 6 - (j : Int))) := by omega
      clear hqb
      rcases hno1 with hno1 | ⟨hno1, hno2⟩
      all_goals
        go_wp2_with fail
        refine (FA.out _).mono ?_
        rintro e w1 ⟨p1, n1, c1, rfl, h1, hb1⟩
        have hs1 := hb1.size
        have hn1 : n1 ≤ 20 := by rw [← h1.len]; exact la
        have H1 := Lib.hid h1
        clear h1
        clear hj hgo hno
        go_wp2_with fail
        go_region_held3 (fun w' => w'.cell? ⟨w1.heap.size, 0, none⟩ = some (.bool ma) ∧ w'.cell? ⟨w1.heap.size, 1, none⟩ = some (.slice p1 n1 c1)) (first | (go_simp; done) | go_keep)
          (first
            | (go_at_call 29; have chk := H3; clear chk; refine (HO.out _).mono ?_; rintro e w4 ⟨p4, n4, c4, rfl, h4, hb4, hf4⟩; obtain ⟨hc4, hfz4, hz4⟩ := bcell hb4 (by first | (simp only [World.size_alloc, World.size_setCell, World.size_drew]; rfl) | rfl); have hn4 : n4 ≤ 7 := (by rw [← h4.len]; exact LU.out); have H4 := Lib.hid h4; clear h4 hf4)
            | (go_at_call 29; refine (HO.out _).mono ?_; rintro e w2 ⟨p2, n2, c2, rfl, h2, hb2, hf2⟩; obtain ⟨hc2, hfz2, hz2⟩ := bcell hb2 (by first | (simp only [World.size_alloc, World.size_setCell, World.size_drew]; rfl) | rfl); have hn2 : n2 ≤ 7 := (by rw [← h2.len]; exact LU.out); have H2 := Lib.hid h2; clear h2 hf2)
            | (go_at_call 53; refine (rounded_any p1 n1 c1 x p2 n2 c2 q (by omega) (by omega) (by omega) _ (H1.out.below (by (repeat' (first | (with_reducible exact Below.refl _ _) | (with_reducible assumption) | (with_reducible refine Below.alloc ?_ ?_ _) | (with_reducible refine bel_drewN ?_ _) | (with_reducible refine Below.drew ?_) | (with_reducible refine Below.setCell ?_ ?_ _) | (with_reducible refine bel_call ‹_› ?_ ?_) | go_size)))) (H2.out.below (by (repeat' (first | (with_reducible exact Below.refl _ _) | (with_reducible assumption) | (with_reducible refine Below.alloc ?_ ?_ _) | (with_reducible refine bel_drewN ?_ _) | (with_reducible refine Below.drew ?_) | (with_reducible refine Below.setCell ?_ ?_ _) | (with_reducible refine bel_call ‹_› ?_ ?_) | go_size))))).mono ?_; rintro e w3 ⟨p3, n3, c3, rfl, h3, hb3, hf3⟩; obtain ⟨hc3, hfz3, hz3⟩ := bcell hb3 (by first | (simp only [World.size_alloc, World.size_setCell, World.size_drew]; rfl) | rfl); have hn3 : n3 ≤ 20 := (by rw [← h3.len]; exact LR.out); have H3 := Lib.hid h3; clear h3 hf3)
            | (go_at_call 54; refine (times_any p3 n3 c3 (rdiv x q) p4 n4 c4 q (by omega) (by omega) _ (H3.out.below (by (repeat' (first | (with_reducible exact Below.refl _ _) | (with_reducible assumption) | (with_reducible refine Below.alloc ?_ ?_ _) | (with_reducible refine bel_drewN ?_ _) | (with_reducible refine Below.drew ?_) | (with_reducible refine Below.setCell ?_ ?_ _) | (with_reducible refine bel_call ‹_› ?_ ?_) | go_size)))) (H4.out.below (by (repeat' (first | (with_reducible exact Below.refl _ _) | (with_reducible assumption) | (with_reducible refine Below.alloc ?_ ?_ _) | (with_reducible refine bel_drewN ?_ _) | (with_reducible refine Below.drew ?_) | (with_reducible refine Below.setCell ?_ ?_ _) | (with_reducible refine bel_call ‹_› ?_ ?_) | go_size))))).mono ?_; rintro e w5 ⟨p5, n5, c5, rfl, h5, hb5, hf5⟩; obtain ⟨hc5, hfz5, hz5⟩ := bcell hb5 (by first | (simp only [World.size_alloc, World.size_setCell, World.size_drew]; rfl) | rfl); have hn5 : n5 ≤ 20 := (by rw [← h5.len]; exact LP.out); have H5 := Lib.hid h5; clear h5 hf5)
            | (go_at_call 52; refine (to_any ma p5 n5 c5 (rdiv x q * q) (by omega) _ (H5.out.below (by (repeat' (first | (with_reducible exact Below.refl _ _) | (with_reducible assumption) | (with_reducible refine Below.alloc ?_ ?_ _) | (with_reducible refine bel_drewN ?_ _) | (with_reducible refine Below.drew ?_) | (with_reducible refine Below.setCell ?_ ?_ _) | (with_reducible refine bel_call ‹_› ?_ ?_) | go_size))))).mono ?_; rintro e w6 ⟨rfl, hb6⟩; obtain ⟨hc6, hfz6, hz6⟩ := bcell hb6 (by first | (simp only [World.size_alloc, World.size_setCell, World.size_drew]; rfl) | rfl)))
        go_wp2_with fail
        go_ret2
        refine ⟨?_, by (repeat' (first | (with_reducible exact Below.refl _ _) | (with_reducible assumption) | (with_reducible refine Below.alloc ?_ ?_ _) | (with_reducible refine bel_drewN ?_ _) | (with_reducible refine Below.drew ?_) | (with_reducible refine Below.setCell ?_ ?_ _) | (with_reducible refine bel_call ‹_› ?_ ?_) | go_size))⟩
        rw [← toV_is, ← toE_is]
        rfl
end Go.Proofs.YteknbdodihfbeaaDoor
