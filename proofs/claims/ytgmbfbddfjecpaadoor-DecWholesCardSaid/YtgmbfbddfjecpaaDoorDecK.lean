/- The document's answer: floored. -/
import Derived.Test.YtgmbfbddfjecpaaDoorDecJ
set_option linter.unusedSimpArgs false
set_option linter.unusedVariables false
namespace Go.Proofs.YtgmbfbddfjecpaaDoor
open Go.RowKit

def flQ (ma mb : Bool) (x y : Nat) : Nat := if (ma != mb) = true ∧ x % y ≠ 0 then x / y + 1 else x / y
theorem digs_len0 {n : Nat} (h : ¬ 0 < (digs n).length) : n = 0 := digs_nil.1 (List.eq_nil_of_length_eq_zero (by omega))
theorem digs_len1 {n : Nat} (h : 0 < (digs n).length) : n ≠ 0 := fun e => by rw [e] at h; simp [digs_zero] at h
theorem of_one (w : World) : Calls Tryd.prog 23 #[.int .u64 1] w (RetN (digs 1) w) := of_digs 1 (by omega) w

set_option maxRecDepth 100000 in
set_option maxHeartbeats 2000000 in
theorem floored_same0 (p : Option Addr) (n cap : Nat) (x : Nat) (q : Option Addr) (m cap2 : Nat) (y : Nat) (hn : n ≤ 200) (hm : m ≤ 200) (hy : 0 < y) (w : World) (hA : RdN w p n cap (digs x)) (hB : RdN w q m cap2 (digs y)) :
    Calls Tryd.prog 52 #[.agg #[.bool false, .slice p n cap], .agg #[.bool false, .slice q m cap2]] w (RetI false (flQ false false x y) w) := by
  have hq : (digs (x / y)).length ≤ n := by
    rw [← hA.len]
    refine digs_length_le (Nat.lt_of_le_of_lt (Nat.div_le_self x y) ?_)
    have := dval_lt (digs x) (digs_lt x)
    rwa [dval_digs] at this
  have HQ := Lib.hid hq
  have HA := Lib.hid hA
  have HB := Lib.hid hB
  have HY := Lib.hid hy
  clear hA hB hy hq
  obtain ⟨v, hv⟩ : ∃ v, flQ false false x y = v := ⟨_, rfl⟩
  rw [hv]
  have HV := Lib.hid hv
  clear hv
  go_enter Tryd.func52, Tryd.ntmps52
  go_wp2_with fail
  refine (over_any p n cap x q m cap2 y (by omega) (by omega) HY.out _ (HA.out.below (by (repeat' (first | (with_reducible exact Below.refl _ _) | (with_reducible assumption) | (with_reducible refine Below.alloc ?_ ?_ _) | (with_reducible refine bel_drewN ?_ _) | (with_reducible refine Below.drew ?_) | (with_reducible refine Below.setCell ?_ ?_ _) | (with_reducible refine bel_call ‹_› ?_ ?_) | go_size)))) (HB.out.below (by (repeat' (first | (with_reducible exact Below.refl _ _) | (with_reducible assumption) | (with_reducible refine Below.alloc ?_ ?_ _) | (with_reducible refine bel_drewN ?_ _) | (with_reducible refine Below.drew ?_) | (with_reducible refine Below.setCell ?_ ?_ _) | (with_reducible refine bel_call ‹_› ?_ ?_) | go_size))))).mono ?_
  rintro e w1 ⟨p3, n3, c3, p4, n4, c4, rfl, h3, h4, hb3, hf3, hf4⟩
  obtain ⟨hc3, hfz3, hz3⟩ := bcell hb3 (by first | (simp only [World.size_alloc, World.size_setCell, World.size_drew]; rfl) | rfl)
  have HL4 := Lib.hid h4.len
  have hn3 : n3 ≤ n := by rw [← h3.len]; exact HQ.out
  have hfl : x / y = v := by rw [← HV.out]; unfold flQ; rw [if_neg (by simp)]
  rw [hfl] at h3
  have H3 := Lib.hid h3
  have HF3 := Lib.hid hf3
  clear h3 h4 hf3 hf4
  go_wp2_with fail
  have x0 : w1.cell? ⟨w.heap.size + 1 + 1, 0, none⟩ = some (.bool false) := by go_simp
  have x1 : w1.cell? ⟨w.heap.size + 1 + 1, 1, none⟩ = some (.slice none 0 0) := by go_simp
  refine bodyPost_ret (v := .agg #[.bool false, .slice p3 n3 c3]) (by simp [results, Tryd.results52, go_sem, x0, x1]) rfl ?_
  have hbw : Below w.heap.size w w1 := by (repeat' (first | (with_reducible exact Below.refl _ _) | (with_reducible assumption) | (with_reducible refine Below.alloc ?_ ?_ _) | (with_reducible refine bel_drewN ?_ _) | (with_reducible refine Below.drew ?_) | (with_reducible refine Below.setCell ?_ ?_ _) | (with_reducible refine bel_call ‹_› ?_ ?_) | go_size))
  exact RetI.mk ((H3.out.stored _ _ (fun x hx => by have := HF3.out x hx; (try simp at this); simp; omega)).stored _ _ (fun x hx => by have := HF3.out x hx; (try simp at this); simp; omega)) ((hbw.setCell (by simp; omega) _).setCell (by simp; omega) _)

set_option maxRecDepth 100000 in
set_option maxHeartbeats 2000000 in
theorem floored_same1 (p : Option Addr) (n cap : Nat) (x : Nat) (q : Option Addr) (m cap2 : Nat) (y : Nat) (hn : n ≤ 200) (hm : m ≤ 200) (hy : 0 < y) (w : World) (hA : RdN w p n cap (digs x)) (hB : RdN w q m cap2 (digs y)) :
    Calls Tryd.prog 52 #[.agg #[.bool true, .slice p n cap], .agg #[.bool true, .slice q m cap2]] w (RetI false (flQ true true x y) w) := by
  have hq : (digs (x / y)).length ≤ n := by
    rw [← hA.len]
    refine digs_length_le (Nat.lt_of_le_of_lt (Nat.div_le_self x y) ?_)
    have := dval_lt (digs x) (digs_lt x)
    rwa [dval_digs] at this
  have HQ := Lib.hid hq
  have HA := Lib.hid hA
  have HB := Lib.hid hB
  have HY := Lib.hid hy
  clear hA hB hy hq
  obtain ⟨v, hv⟩ : ∃ v, flQ true true x y = v := ⟨_, rfl⟩
  rw [hv]
  have HV := Lib.hid hv
  clear hv
  go_enter Tryd.func52, Tryd.ntmps52
  go_wp2_with fail
  refine (over_any p n cap x q m cap2 y (by omega) (by omega) HY.out _ (HA.out.below (by (repeat' (first | (with_reducible exact Below.refl _ _) | (with_reducible assumption) | (with_reducible refine Below.alloc ?_ ?_ _) | (with_reducible refine bel_drewN ?_ _) | (with_reducible refine Below.drew ?_) | (with_reducible refine Below.setCell ?_ ?_ _) | (with_reducible refine bel_call ‹_› ?_ ?_) | go_size)))) (HB.out.below (by (repeat' (first | (with_reducible exact Below.refl _ _) | (with_reducible assumption) | (with_reducible refine Below.alloc ?_ ?_ _) | (with_reducible refine bel_drewN ?_ _) | (with_reducible refine Below.drew ?_) | (with_reducible refine Below.setCell ?_ ?_ _) | (with_reducible refine bel_call ‹_› ?_ ?_) | go_size))))).mono ?_
  rintro e w1 ⟨p3, n3, c3, p4, n4, c4, rfl, h3, h4, hb3, hf3, hf4⟩
  obtain ⟨hc3, hfz3, hz3⟩ := bcell hb3 (by first | (simp only [World.size_alloc, World.size_setCell, World.size_drew]; rfl) | rfl)
  have HL4 := Lib.hid h4.len
  have hn3 : n3 ≤ n := by rw [← h3.len]; exact HQ.out
  have hfl : x / y = v := by rw [← HV.out]; unfold flQ; rw [if_neg (by simp)]
  rw [hfl] at h3
  have H3 := Lib.hid h3
  have HF3 := Lib.hid hf3
  clear h3 h4 hf3 hf4
  go_wp2_with fail
  have x0 : w1.cell? ⟨w.heap.size + 1 + 1, 0, none⟩ = some (.bool false) := by go_simp
  have x1 : w1.cell? ⟨w.heap.size + 1 + 1, 1, none⟩ = some (.slice none 0 0) := by go_simp
  refine bodyPost_ret (v := .agg #[.bool false, .slice p3 n3 c3]) (by simp [results, Tryd.results52, go_sem, x0, x1]) rfl ?_
  have hbw : Below w.heap.size w w1 := by (repeat' (first | (with_reducible exact Below.refl _ _) | (with_reducible assumption) | (with_reducible refine Below.alloc ?_ ?_ _) | (with_reducible refine bel_drewN ?_ _) | (with_reducible refine Below.drew ?_) | (with_reducible refine Below.setCell ?_ ?_ _) | (with_reducible refine bel_call ‹_› ?_ ?_) | go_size))
  exact RetI.mk ((H3.out.stored _ _ (fun x hx => by have := HF3.out x hx; (try simp at this); simp; omega)).stored _ _ (fun x hx => by have := HF3.out x hx; (try simp at this); simp; omega)) ((hbw.setCell (by simp; omega) _).setCell (by simp; omega) _)

set_option maxRecDepth 100000 in
set_option maxHeartbeats 2000000 in
theorem floored_diff0 (p : Option Addr) (n cap : Nat) (x : Nat) (q : Option Addr) (m cap2 : Nat) (y : Nat) (hn : n ≤ 200) (hm : m ≤ 200) (hy : 0 < y) (w : World) (hA : RdN w p n cap (digs x)) (hB : RdN w q m cap2 (digs y)) :
    Calls Tryd.prog 52 #[.agg #[.bool false, .slice p n cap], .agg #[.bool true, .slice q m cap2]] w (RetI true (flQ false true x y) w) := by
  have hq : (digs (x / y)).length ≤ n := by
    rw [← hA.len]
    refine digs_length_le (Nat.lt_of_le_of_lt (Nat.div_le_self x y) ?_)
    have := dval_lt (digs x) (digs_lt x)
    rwa [dval_digs] at this
  have HQ := Lib.hid hq
  have HA := Lib.hid hA
  have HB := Lib.hid hB
  have HY := Lib.hid hy
  clear hA hB hy hq
  obtain ⟨v, hv⟩ : ∃ v, flQ false true x y = v := ⟨_, rfl⟩
  rw [hv]
  have HV := Lib.hid hv
  clear hv
  go_enter Tryd.func52, Tryd.ntmps52
  go_wp2_with fail
  refine (over_any p n cap x q m cap2 y (by omega) (by omega) HY.out _ (HA.out.below (by (repeat' (first | (with_reducible exact Below.refl _ _) | (with_reducible assumption) | (with_reducible refine Below.alloc ?_ ?_ _) | (with_reducible refine bel_drewN ?_ _) | (with_reducible refine Below.drew ?_) | (with_reducible refine Below.setCell ?_ ?_ _) | (with_reducible refine bel_call ‹_› ?_ ?_) | go_size)))) (HB.out.below (by (repeat' (first | (with_reducible exact Below.refl _ _) | (with_reducible assumption) | (with_reducible refine Below.alloc ?_ ?_ _) | (with_reducible refine bel_drewN ?_ _) | (with_reducible refine Below.drew ?_) | (with_reducible refine Below.setCell ?_ ?_ _) | (with_reducible refine bel_call ‹_› ?_ ?_) | go_size))))).mono ?_
  rintro e w1 ⟨p3, n3, c3, p4, n4, c4, rfl, h3, h4, hb3, hf3, hf4⟩
  obtain ⟨hc3, hfz3, hz3⟩ := bcell hb3 (by first | (simp only [World.size_alloc, World.size_setCell, World.size_drew]; rfl) | rfl)
  have HL4 := Lib.hid h4.len
  have hn3 : n3 ≤ n := by rw [← h3.len]; exact HQ.out
  have H3 := Lib.hid h3
  have HF3 := Lib.hid hf3
  clear h3 h4 hf3 hf4
  go_wp2_with fail
  · have hpos : 0 < n4 := by assumption
    have hfl : x / y + 1 = v := by
      rw [← HV.out]
      unfold flQ
      rw [if_pos ⟨rfl, digs_len1 (by rw [HL4.out]; exact hpos)⟩]
    refine (of_one _).mono ?_
    rintro e w2 ⟨p5, n5, c5, rfl, h5, hb5, hf5⟩
    obtain ⟨hc5, hfz5, hz5⟩ := bcell hb5 (by first | (simp only [World.size_alloc, World.size_setCell, World.size_drew]; rfl) | rfl)
    have hn5 : n5 ≤ 1 := by rw [← h5.len]; exact digs_length_le (by decide)
    have H5 := Lib.hid h5
    clear h5 hf5
    go_wp2_with fail
    refine (plus_any p3 n3 c3 (digs (x / y)) p5 n5 c5 (digs 1) (by omega) (by omega) _ (H3.out.below (by (repeat' (first | (with_reducible exact Below.refl _ _) | (with_reducible assumption) | (with_reducible refine Below.alloc ?_ ?_ _) | (with_reducible refine bel_drewN ?_ _) | (with_reducible refine Below.drew ?_) | (with_reducible refine Below.setCell ?_ ?_ _) | (with_reducible refine bel_call ‹_› ?_ ?_) | go_size)))) (H5.out.below (by (repeat' (first | (with_reducible exact Below.refl _ _) | (with_reducible assumption) | (with_reducible refine Below.alloc ?_ ?_ _) | (with_reducible refine bel_drewN ?_ _) | (with_reducible refine Below.drew ?_) | (with_reducible refine Below.setCell ?_ ?_ _) | (with_reducible refine bel_call ‹_› ?_ ?_) | go_size))))).mono ?_
    rintro e w3 ⟨p6, n6, c6, rfl, h6, hb6, hf6⟩
    obtain ⟨hc6, hfz6, hz6⟩ := bcell hb6 (by first | (simp only [World.size_alloc, World.size_setCell, World.size_drew]; rfl) | rfl)
    rw [dval_digs, dval_digs, hfl] at h6
    have H6 := Lib.hid h6
    have HF6 := Lib.hid hf6
    clear h6 hf6
    go_wp2_with fail
    have x0 : w3.cell? ⟨w.heap.size + 1 + 1, 0, none⟩ = some (.bool false) := by go_simp
    have x1 : w3.cell? ⟨w.heap.size + 1 + 1, 1, none⟩ = some (.slice none 0 0) := by go_simp
    refine bodyPost_ret (v := .agg #[.bool true, .slice p6 n6 c6]) (by simp [results, Tryd.results52, go_sem, x0, x1]) rfl ?_
    have hbw : Below w.heap.size w w3 := by (repeat' (first | (with_reducible exact Below.refl _ _) | (with_reducible assumption) | (with_reducible refine Below.alloc ?_ ?_ _) | (with_reducible refine bel_drewN ?_ _) | (with_reducible refine Below.drew ?_) | (with_reducible refine Below.setCell ?_ ?_ _) | (with_reducible refine bel_call ‹_› ?_ ?_) | go_size))
    exact RetI.mk ((H6.out.stored _ _ (fun x hx => by have := HF6.out x hx; (try simp at this); simp; omega)).stored _ _ (fun x hx => by have := HF6.out x hx; (try simp at this); simp; omega)) ((hbw.setCell (by simp; omega) _).setCell (by simp; omega) _)
  · have hpos : ¬ 0 < n4 := by assumption
    have hfl : x / y = v := by
      rw [← HV.out]
      unfold flQ
      rw [if_neg (by rintro ⟨_, h⟩; exact h (digs_len0 (by rw [HL4.out]; exact hpos)))]
    have H3 : Hid (RdN w1 p3 n3 c3 (digs v)) := Lib.hid (by rw [← hfl]; exact H3.out)
    have x0 : w1.cell? ⟨w.heap.size + 1 + 1, 0, none⟩ = some (.bool false) := by go_simp
    have x1 : w1.cell? ⟨w.heap.size + 1 + 1, 1, none⟩ = some (.slice none 0 0) := by go_simp
    refine bodyPost_ret (v := .agg #[.bool true, .slice p3 n3 c3]) (by simp [results, Tryd.results52, go_sem, x0, x1]) rfl ?_
    have hbw : Below w.heap.size w w1 := by (repeat' (first | (with_reducible exact Below.refl _ _) | (with_reducible assumption) | (with_reducible refine Below.alloc ?_ ?_ _) | (with_reducible refine bel_drewN ?_ _) | (with_reducible refine Below.drew ?_) | (with_reducible refine Below.setCell ?_ ?_ _) | (with_reducible refine bel_call ‹_› ?_ ?_) | go_size))
    exact RetI.mk ((H3.out.stored _ _ (fun x hx => by have := HF3.out x hx; (try simp at this); simp; omega)).stored _ _ (fun x hx => by have := HF3.out x hx; (try simp at this); simp; omega)) ((hbw.setCell (by simp; omega) _).setCell (by simp; omega) _)

set_option maxRecDepth 100000 in
set_option maxHeartbeats 2000000 in
theorem floored_diff1 (p : Option Addr) (n cap : Nat) (x : Nat) (q : Option Addr) (m cap2 : Nat) (y : Nat) (hn : n ≤ 200) (hm : m ≤ 200) (hy : 0 < y) (w : World) (hA : RdN w p n cap (digs x)) (hB : RdN w q m cap2 (digs y)) :
    Calls Tryd.prog 52 #[.agg #[.bool true, .slice p n cap], .agg #[.bool false, .slice q m cap2]] w (RetI true (flQ true false x y) w) := by
  have hq : (digs (x / y)).length ≤ n := by
    rw [← hA.len]
    refine digs_length_le (Nat.lt_of_le_of_lt (Nat.div_le_self x y) ?_)
    have := dval_lt (digs x) (digs_lt x)
    rwa [dval_digs] at this
  have HQ := Lib.hid hq
  have HA := Lib.hid hA
  have HB := Lib.hid hB
  have HY := Lib.hid hy
  clear hA hB hy hq
  obtain ⟨v, hv⟩ : ∃ v, flQ true false x y = v := ⟨_, rfl⟩
  rw [hv]
  have HV := Lib.hid hv
  clear hv
  go_enter Tryd.func52, Tryd.ntmps52
  go_wp2_with fail
  refine (over_any p n cap x q m cap2 y (by omega) (by omega) HY.out _ (HA.out.below (by (repeat' (first | (with_reducible exact Below.refl _ _) | (with_reducible assumption) | (with_reducible refine Below.alloc ?_ ?_ _) | (with_reducible refine bel_drewN ?_ _) | (with_reducible refine Below.drew ?_) | (with_reducible refine Below.setCell ?_ ?_ _) | (with_reducible refine bel_call ‹_› ?_ ?_) | go_size)))) (HB.out.below (by (repeat' (first | (with_reducible exact Below.refl _ _) | (with_reducible assumption) | (with_reducible refine Below.alloc ?_ ?_ _) | (with_reducible refine bel_drewN ?_ _) | (with_reducible refine Below.drew ?_) | (with_reducible refine Below.setCell ?_ ?_ _) | (with_reducible refine bel_call ‹_› ?_ ?_) | go_size))))).mono ?_
  rintro e w1 ⟨p3, n3, c3, p4, n4, c4, rfl, h3, h4, hb3, hf3, hf4⟩
  obtain ⟨hc3, hfz3, hz3⟩ := bcell hb3 (by first | (simp only [World.size_alloc, World.size_setCell, World.size_drew]; rfl) | rfl)
  have HL4 := Lib.hid h4.len
  have hn3 : n3 ≤ n := by rw [← h3.len]; exact HQ.out
  have H3 := Lib.hid h3
  have HF3 := Lib.hid hf3
  clear h3 h4 hf3 hf4
  go_wp2_with fail
  · have hpos : 0 < n4 := by assumption
    have hfl : x / y + 1 = v := by
      rw [← HV.out]
      unfold flQ
      rw [if_pos ⟨rfl, digs_len1 (by rw [HL4.out]; exact hpos)⟩]
    refine (of_one _).mono ?_
    rintro e w2 ⟨p5, n5, c5, rfl, h5, hb5, hf5⟩
    obtain ⟨hc5, hfz5, hz5⟩ := bcell hb5 (by first | (simp only [World.size_alloc, World.size_setCell, World.size_drew]; rfl) | rfl)
    have hn5 : n5 ≤ 1 := by rw [← h5.len]; exact digs_length_le (by decide)
    have H5 := Lib.hid h5
    clear h5 hf5
    go_wp2_with fail
    refine (plus_any p3 n3 c3 (digs (x / y)) p5 n5 c5 (digs 1) (by omega) (by omega) _ (H3.out.below (by (repeat' (first | (with_reducible exact Below.refl _ _) | (with_reducible assumption) | (with_reducible refine Below.alloc ?_ ?_ _) | (with_reducible refine bel_drewN ?_ _) | (with_reducible refine Below.drew ?_) | (with_reducible refine Below.setCell ?_ ?_ _) | (with_reducible refine bel_call ‹_› ?_ ?_) | go_size)))) (H5.out.below (by (repeat' (first | (with_reducible exact Below.refl _ _) | (with_reducible assumption) | (with_reducible refine Below.alloc ?_ ?_ _) | (with_reducible refine bel_drewN ?_ _) | (with_reducible refine Below.drew ?_) | (with_reducible refine Below.setCell ?_ ?_ _) | (with_reducible refine bel_call ‹_› ?_ ?_) | go_size))))).mono ?_
    rintro e w3 ⟨p6, n6, c6, rfl, h6, hb6, hf6⟩
    obtain ⟨hc6, hfz6, hz6⟩ := bcell hb6 (by first | (simp only [World.size_alloc, World.size_setCell, World.size_drew]; rfl) | rfl)
    rw [dval_digs, dval_digs, hfl] at h6
    have H6 := Lib.hid h6
    have HF6 := Lib.hid hf6
    clear h6 hf6
    go_wp2_with fail
    have x0 : w3.cell? ⟨w.heap.size + 1 + 1, 0, none⟩ = some (.bool false) := by go_simp
    have x1 : w3.cell? ⟨w.heap.size + 1 + 1, 1, none⟩ = some (.slice none 0 0) := by go_simp
    refine bodyPost_ret (v := .agg #[.bool true, .slice p6 n6 c6]) (by simp [results, Tryd.results52, go_sem, x0, x1]) rfl ?_
    have hbw : Below w.heap.size w w3 := by (repeat' (first | (with_reducible exact Below.refl _ _) | (with_reducible assumption) | (with_reducible refine Below.alloc ?_ ?_ _) | (with_reducible refine bel_drewN ?_ _) | (with_reducible refine Below.drew ?_) | (with_reducible refine Below.setCell ?_ ?_ _) | (with_reducible refine bel_call ‹_› ?_ ?_) | go_size))
    exact RetI.mk ((H6.out.stored _ _ (fun x hx => by have := HF6.out x hx; (try simp at this); simp; omega)).stored _ _ (fun x hx => by have := HF6.out x hx; (try simp at this); simp; omega)) ((hbw.setCell (by simp; omega) _).setCell (by simp; omega) _)
  · have hpos : ¬ 0 < n4 := by assumption
    have hfl : x / y = v := by
      rw [← HV.out]
      unfold flQ
      rw [if_neg (by rintro ⟨_, h⟩; exact h (digs_len0 (by rw [HL4.out]; exact hpos)))]
    have H3 : Hid (RdN w1 p3 n3 c3 (digs v)) := Lib.hid (by rw [← hfl]; exact H3.out)
    have x0 : w1.cell? ⟨w.heap.size + 1 + 1, 0, none⟩ = some (.bool false) := by go_simp
    have x1 : w1.cell? ⟨w.heap.size + 1 + 1, 1, none⟩ = some (.slice none 0 0) := by go_simp
    refine bodyPost_ret (v := .agg #[.bool true, .slice p3 n3 c3]) (by simp [results, Tryd.results52, go_sem, x0, x1]) rfl ?_
    have hbw : Below w.heap.size w w1 := by (repeat' (first | (with_reducible exact Below.refl _ _) | (with_reducible assumption) | (with_reducible refine Below.alloc ?_ ?_ _) | (with_reducible refine bel_drewN ?_ _) | (with_reducible refine Below.drew ?_) | (with_reducible refine Below.setCell ?_ ?_ _) | (with_reducible refine bel_call ‹_› ?_ ?_) | go_size))
    exact RetI.mk ((H3.out.stored _ _ (fun x hx => by have := HF3.out x hx; (try simp at this); simp; omega)).stored _ _ (fun x hx => by have := HF3.out x hx; (try simp at this); simp; omega)) ((hbw.setCell (by simp; omega) _).setCell (by simp; omega) _)

theorem floored_any (ma : Bool) (p : Option Addr) (n cap : Nat) (x : Nat) (mb : Bool) (q : Option Addr) (m cap2 : Nat) (y : Nat) (hn : n ≤ 200) (hm : m ≤ 200) (hy : 0 < y) (w : World) (hA : RdN w p n cap (digs x)) (hB : RdN w q m cap2 (digs y)) :
    Calls Tryd.prog 52 #[.agg #[.bool ma, .slice p n cap], .agg #[.bool mb, .slice q m cap2]] w (RetI (ma != mb) (flQ ma mb x y) w) := by
  cases ma <;> cases mb
  · exact floored_same0 p n cap x q m cap2 y hn hm hy w hA hB
  · exact floored_diff0 p n cap x q m cap2 y hn hm hy w hA hB
  · exact floored_diff1 p n cap x q m cap2 y hn hm hy w hA hB
  · exact floored_same1 p n cap x q m cap2 y hn hm hy w hA hB
end Go.Proofs.YtgmbfbddfjecpaaDoor
