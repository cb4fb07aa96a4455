/- Contract of quadrilleref01.Sum. -/
import Derived.Test.YtilajcibjlcffaaGreatDoorRefF
set_option linter.unusedSimpArgs false
set_option linter.unusedVariables false

namespace Go.Proofs.YtilajcibjlcffaaGreatDoor
open Go.RowKit
attribute [local go_sem ↓] Go.wp_at_zero Go.wp_at_succ

/-- The sign and the size of a sum. -/
def sumM (ma : Bool) (a : Nat) (mb : Bool) (b : Nat) : Bool := if ma = mb then ma else if a < b then mb else ma
def sumN (ma : Bool) (a : Nat) (mb : Bool) (b : Nat) : Nat := if ma = mb then a + b else if a < b then b - a else a - b

set_option maxRecDepth 100000 in
set_option maxHeartbeats 2000000 in
theorem sum_same (ma : Bool) (p : Option Addr) (n cap : Nat) (a : Nat) (q : Option Addr) (m cap2 : Nat) (b : Nat) (hn : n ≤ 200) (hm : m ≤ 200) (w : World) (hA : RdN w p n cap (digs a)) (hB : RdN w q m cap2 (digs b)) :
    Calls Tryz.prog 58 #[.agg #[.bool ma, .slice p n cap], .agg #[.bool ma, .slice q m cap2]] w (RetI ma (a + b) w) := by
  have HA := Lib.hid hA
  have HB := Lib.hid hB
  clear hA hB
  go_enter Tryz.func58, Tryz.ntmps58
  go_wp2_with fail
  go_region_held3 (fun w' => w'.cell? ⟨w.heap.size, 0, none⟩ = some (.bool ma) ∧ w'.cell? ⟨w.heap.size, 1, none⟩ = some (.slice p n cap) ∧ w'.cell? ⟨w.heap.size + 1, 0, none⟩ = some (.bool ma) ∧ w'.cell? ⟨w.heap.size + 1, 1, none⟩ = some (.slice q m cap2)) (first | (go_simp; done) | go_keep)
    ((go_at_call 89; refine (plus_any p n cap (digs a) q m cap2 (digs b) (by omega) (by omega) _ (HA.out.below (by (repeat' (first | (with_reducible exact Below.refl _ _) | (with_reducible assumption) | (with_reducible refine Below.alloc ?_ ?_ _) | (with_reducible refine bel_drewN ?_ _) | (with_reducible refine Below.drew ?_) | (with_reducible refine Below.setCell ?_ ?_ _) | (with_reducible refine bel_call ‹_› ?_ ?_) | go_size)))) (HB.out.below (by (repeat' (first | (with_reducible exact Below.refl _ _) | (with_reducible assumption) | (with_reducible refine Below.alloc ?_ ?_ _) | (with_reducible refine bel_drewN ?_ _) | (with_reducible refine Below.drew ?_) | (with_reducible refine Below.setCell ?_ ?_ _) | (with_reducible refine bel_call ‹_› ?_ ?_) | go_size))))).mono ?_; rintro e w1 ⟨p3, n3, c3, rfl, h3, hb3, hf3⟩; obtain ⟨hc, hf, hz⟩ := bcell hb3 (by first | (simp only [World.size_alloc, World.size_setCell, World.size_drew]; rfl) | rfl); rw [dval_digs, dval_digs] at h3; have H3 := Lib.hid h3; have HF3 := Lib.hid hf3; clear h3 hf3))
  go_wp2_with fail
  have x0 : w1.cell? ⟨w.heap.size + 1 + 1, 0, none⟩ = some (.bool false) := by go_simp
  have x1 : w1.cell? ⟨w.heap.size + 1 + 1, 1, none⟩ = some (.slice none 0 0) := by go_simp
  refine bodyPost_ret (v := .agg #[.bool ma, .slice p3 n3 c3]) (by simp [results, Tryz.results58, go_sem, x0, x1]) rfl ?_
  have hbw : Below w.heap.size w w1 := by (repeat' (first | (with_reducible exact Below.refl _ _) | (with_reducible assumption) | (with_reducible refine Below.alloc ?_ ?_ _) | (with_reducible refine bel_drewN ?_ _) | (with_reducible refine Below.drew ?_) | (with_reducible refine Below.setCell ?_ ?_ _) | (with_reducible refine bel_call ‹_› ?_ ?_) | go_size))
  exact RetI.mk ((H3.out.stored _ _ (fun x hx => by have := HF3.out x hx; simp at this; simp; omega)).stored _ _ (fun x hx => by have := HF3.out x hx; simp at this; simp; omega)) ((hbw.setCell (by simp; omega) _).setCell (by simp; omega) _)

set_option maxRecDepth 100000 in
set_option maxHeartbeats 2000000 in
theorem sum_less (ma : Bool) (p : Option Addr) (n cap : Nat) (a : Nat) (q : Option Addr) (m cap2 : Nat) (b : Nat) (hn : n ≤ 200) (hm : m ≤ 200) (hl : a < b) (w : World) (hA : RdN w p n cap (digs a)) (hB : RdN w q m cap2 (digs b)) :
    Calls Tryz.prog 58 #[.agg #[.bool ma, .slice p n cap], .agg #[.bool !ma, .slice q m cap2]] w (RetI (!ma) (b - a) w) := by
  have hlt : ltN a b = true := by simp [ltN]; omega
  have hne : (ma == !ma) = false := by cases ma <;> rfl
  have HL := Lib.hid hl
  have HA := Lib.hid hA
  have HB := Lib.hid hB
  clear hA hB hl
  go_enter Tryz.func58, Tryz.ntmps58
  go_wp2_with fail
  refine (less_any p n cap a q m cap2 b (by omega) (by omega) _ (HA.out.below (by (repeat' (first | (with_reducible exact Below.refl _ _) | (with_reducible assumption) | (with_reducible refine Below.alloc ?_ ?_ _) | (with_reducible refine bel_drewN ?_ _) | (with_reducible refine Below.drew ?_) | (with_reducible refine Below.setCell ?_ ?_ _) | (with_reducible refine bel_call ‹_› ?_ ?_) | go_size)))) (HB.out.below (by (repeat' (first | (with_reducible exact Below.refl _ _) | (with_reducible assumption) | (with_reducible refine Below.alloc ?_ ?_ _) | (with_reducible refine bel_drewN ?_ _) | (with_reducible refine Below.drew ?_) | (with_reducible refine Below.setCell ?_ ?_ _) | (with_reducible refine bel_call ‹_› ?_ ?_) | go_size))))).mono ?_
  rintro e w4 ⟨rfl, hb4⟩
  obtain ⟨hc4, hf4, hz4⟩ := bcell hb4 (by first | (simp only [World.size_alloc, World.size_setCell, World.size_drew]; rfl) | rfl)
  have hbw4 : Below w.heap.size w w4 := by (repeat' (first | (with_reducible exact Below.refl _ _) | (with_reducible assumption) | (with_reducible refine Below.alloc ?_ ?_ _) | (with_reducible refine bel_drewN ?_ _) | (with_reducible refine Below.drew ?_) | (with_reducible refine Below.setCell ?_ ?_ _) | (with_reducible refine bel_call ‹_› ?_ ?_) | go_size))
  have HA1 := Lib.hid (HA.out.below hbw4)
  have HB1 := Lib.hid (HB.out.below hbw4)
  go_wp2_with fail
  go_region_held3 (fun w' => w'.cell? ⟨w.heap.size, 0, none⟩ = some (.bool ma) ∧ w'.cell? ⟨w.heap.size, 1, none⟩ = some (.slice p n cap) ∧ w'.cell? ⟨w.heap.size + 1, 0, none⟩ = some (.bool (!ma)) ∧ w'.cell? ⟨w.heap.size + 1, 1, none⟩ = some (.slice q m cap2)) (first | (go_simp; done) | go_keep)
    ((go_at_call 91; refine (minus_any q m cap2 b p n cap a (by omega) (Nat.le_of_lt HL.out) _ (HB1.out.below (by (repeat' (first | (with_reducible exact Below.refl _ _) | (with_reducible assumption) | (with_reducible refine Below.alloc ?_ ?_ _) | (with_reducible refine bel_drewN ?_ _) | (with_reducible refine Below.drew ?_) | (with_reducible refine Below.setCell ?_ ?_ _) | (with_reducible refine bel_call ‹_› ?_ ?_) | go_size)))) (HA1.out.below (by (repeat' (first | (with_reducible exact Below.refl _ _) | (with_reducible assumption) | (with_reducible refine Below.alloc ?_ ?_ _) | (with_reducible refine bel_drewN ?_ _) | (with_reducible refine Below.drew ?_) | (with_reducible refine Below.setCell ?_ ?_ _) | (with_reducible refine bel_call ‹_› ?_ ?_) | go_size))))).mono ?_; rintro e w1 ⟨p3, n3, c3, rfl, h3, hb3, hf3⟩; obtain ⟨hc, hf, hz⟩ := bcell hb3 (by first | (simp only [World.size_alloc, World.size_setCell, World.size_drew]; rfl) | rfl); have H3 := Lib.hid h3; have HF3 := Lib.hid hf3; clear h3 hf3))
  go_wp2_with fail
  have x0 : w1.cell? ⟨w.heap.size + 1 + 1, 0, none⟩ = some (.bool false) := by go_simp
  have x1 : w1.cell? ⟨w.heap.size + 1 + 1, 1, none⟩ = some (.slice none 0 0) := by go_simp
  refine bodyPost_ret (v := .agg #[.bool (!ma), .slice p3 n3 c3]) (by simp [results, Tryz.results58, go_sem, x0, x1]) rfl ?_
  have hbw : Below w.heap.size w w1 := by (repeat' (first | (with_reducible exact Below.refl _ _) | (with_reducible assumption) | (with_reducible refine Below.alloc ?_ ?_ _) | (with_reducible refine bel_drewN ?_ _) | (with_reducible refine Below.drew ?_) | (with_reducible refine Below.setCell ?_ ?_ _) | (with_reducible refine bel_call ‹_› ?_ ?_) | go_size))
  exact RetI.mk ((H3.out.stored _ _ (fun x hx => by have := HF3.out x hx; simp at this; simp; omega)).stored _ _ (fun x hx => by have := HF3.out x hx; simp at this; simp; omega)) ((hbw.setCell (by simp; omega) _).setCell (by simp; omega) _)

set_option maxRecDepth 100000 in
set_option maxHeartbeats 2000000 in
theorem sum_more (ma : Bool) (p : Option Addr) (n cap : Nat) (a : Nat) (q : Option Addr) (m cap2 : Nat) (b : Nat) (hn : n ≤ 200) (hm : m ≤ 200) (hl : ¬ a < b) (w : World) (hA : RdN w p n cap (digs a)) (hB : RdN w q m cap2 (digs b)) :
    Calls Tryz.prog 58 #[.agg #[.bool ma, .slice p n cap], .agg #[.bool !ma, .slice q m cap2]] w (RetI ma (a - b) w) := by
  have hlt : ltN a b = false := by simp [ltN]; omega
  have hne : (ma == !ma) = false := by cases ma <;> rfl
  have HL := Lib.hid hl
  have HA := Lib.hid hA
  have HB := Lib.hid hB
  clear hA hB hl
  go_enter Tryz.func58, Tryz.ntmps58
  go_wp2_with fail
  refine (less_any p n cap a q m cap2 b (by omega) (by omega) _ (HA.out.below (by (repeat' (first | (with_reducible exact Below.refl _ _) | (with_reducible assumption) | (with_reducible refine Below.alloc ?_ ?_ _) | (with_reducible refine bel_drewN ?_ _) | (with_reducible refine Below.drew ?_) | (with_reducible refine Below.setCell ?_ ?_ _) | (with_reducible refine bel_call ‹_› ?_ ?_) | go_size)))) (HB.out.below (by (repeat' (first | (with_reducible exact Below.refl _ _) | (with_reducible assumption) | (with_reducible refine Below.alloc ?_ ?_ _) | (with_reducible refine bel_drewN ?_ _) | (with_reducible refine Below.drew ?_) | (with_reducible refine Below.setCell ?_ ?_ _) | (with_reducible refine bel_call ‹_› ?_ ?_) | go_size))))).mono ?_
  rintro e w4 ⟨rfl, hb4⟩
  obtain ⟨hc4, hf4, hz4⟩ := bcell hb4 (by first | (simp only [World.size_alloc, World.size_setCell, World.size_drew]; rfl) | rfl)
  have hbw4 : Below w.heap.size w w4 := by (repeat' (first | (with_reducible exact Below.refl _ _) | (with_reducible assumption) | (with_reducible refine Below.alloc ?_ ?_ _) | (with_reducible refine bel_drewN ?_ _) | (with_reducible refine Below.drew ?_) | (with_reducible refine Below.setCell ?_ ?_ _) | (with_reducible refine bel_call ‹_› ?_ ?_) | go_size))
  have HA1 := Lib.hid (HA.out.below hbw4)
  have HB1 := Lib.hid (HB.out.below hbw4)
  go_wp2_with fail
  go_region_held3 (fun w' => w'.cell? ⟨w.heap.size, 0, none⟩ = some (.bool ma) ∧ w'.cell? ⟨w.heap.size, 1, none⟩ = some (.slice p n cap) ∧ w'.cell? ⟨w.heap.size + 1, 0, none⟩ = some (.bool (!ma)) ∧ w'.cell? ⟨w.heap.size + 1, 1, none⟩ = some (.slice q m cap2)) (first | (go_simp; done) | go_keep)
    ((go_at_call 91; refine (minus_any p n cap a q m cap2 b (by omega) (Nat.le_of_not_lt HL.out) _ (HA1.out.below (by (repeat' (first | (with_reducible exact Below.refl _ _) | (with_reducible assumption) | (with_reducible refine Below.alloc ?_ ?_ _) | (with_reducible refine bel_drewN ?_ _) | (with_reducible refine Below.drew ?_) | (with_reducible refine Below.setCell ?_ ?_ _) | (with_reducible refine bel_call ‹_› ?_ ?_) | go_size)))) (HB1.out.below (by (repeat' (first | (with_reducible exact Below.refl _ _) | (with_reducible assumption) | (with_reducible refine Below.alloc ?_ ?_ _) | (with_reducible refine bel_drewN ?_ _) | (with_reducible refine Below.drew ?_) | (with_reducible refine Below.setCell ?_ ?_ _) | (with_reducible refine bel_call ‹_› ?_ ?_) | go_size))))).mono ?_; rintro e w1 ⟨p3, n3, c3, rfl, h3, hb3, hf3⟩; obtain ⟨hc, hf, hz⟩ := bcell hb3 (by first | (simp only [World.size_alloc, World.size_setCell, World.size_drew]; rfl) | rfl); have H3 := Lib.hid h3; have HF3 := Lib.hid hf3; clear h3 hf3))
  go_wp2_with fail
  have x0 : w1.cell? ⟨w.heap.size + 1 + 1, 0, none⟩ = some (.bool false) := by go_simp
  have x1 : w1.cell? ⟨w.heap.size + 1 + 1, 1, none⟩ = some (.slice none 0 0) := by go_simp
  refine bodyPost_ret (v := .agg #[.bool ma, .slice p3 n3 c3]) (by simp [results, Tryz.results58, go_sem, x0, x1]) rfl ?_
  have hbw : Below w.heap.size w w1 := by (repeat' (first | (with_reducible exact Below.refl _ _) | (with_reducible assumption) | (with_reducible refine Below.alloc ?_ ?_ _) | (with_reducible refine bel_drewN ?_ _) | (with_reducible refine Below.drew ?_) | (with_reducible refine Below.setCell ?_ ?_ _) | (with_reducible refine bel_call ‹_› ?_ ?_) | go_size))
  exact RetI.mk ((H3.out.stored _ _ (fun x hx => by have := HF3.out x hx; simp at this; simp; omega)).stored _ _ (fun x hx => by have := HF3.out x hx; simp at this; simp; omega)) ((hbw.setCell (by simp; omega) _).setCell (by simp; omega) _)

theorem sum_any (ma : Bool) (p : Option Addr) (n cap : Nat) (a : Nat) (mb : Bool) (q : Option Addr) (m cap2 : Nat) (b : Nat) (hn : n ≤ 200) (hm : m ≤ 200) (w : World) (hA : RdN w p n cap (digs a)) (hB : RdN w q m cap2 (digs b)) :
    Calls Tryz.prog 58 #[.agg #[.bool ma, .slice p n cap], .agg #[.bool mb, .slice q m cap2]] w (RetI (sumM ma a mb b) (sumN ma a mb b) w) := by
  by_cases he : ma = mb
  · subst he
    have e1 : sumM ma a ma b = ma := by simp [sumM]
    have e2 : sumN ma a ma b = a + b := by simp [sumN]
    rw [e1, e2]
    exact sum_same ma p n cap a q m cap2 b hn hm w hA hB
  · have hmb : mb = !ma := by cases ma <;> cases mb <;> simp_all
    subst hmb
    by_cases hl : a < b
    · have e1 : sumM ma a (!ma) b = !ma := by cases ma <;> simp [sumM, hl]
      have e2 : sumN ma a (!ma) b = b - a := by cases ma <;> simp [sumN, hl]
      rw [e1, e2]
      exact sum_less ma p n cap a q m cap2 b hn hm hl w hA hB
    · have e1 : sumM ma a (!ma) b = ma := by cases ma <;> simp [sumM, hl]
      have e2 : sumN ma a (!ma) b = a - b := by cases ma <;> simp [sumN, hl]
      rw [e1, e2]
      exact sum_more ma p n cap a q m cap2 b hn hm hl w hA hB
end Go.Proofs.YtilajcibjlcffaaGreatDoor
