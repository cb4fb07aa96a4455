/- Contracts of quadrilleref01's Rounded, From, Sum, To. -/
import Derived.Test.YtilajcibjlcffaaGreatDoorRefE
set_option linter.unusedSimpArgs false
set_option linter.unusedVariables false

namespace Go.Proofs.YtilajcibjlcffaaGreatDoor
open Go.RowKit

/-- A quotient, rounded, half up. -/
def rdiv (a b : Nat) : Nat := if b ≤ 2 * (a % b) then a / b + 1 else a / b

set_option maxRecDepth 100000 in
set_option maxHeartbeats 1000000 in
theorem rounded_any (p : Option Addr) (n cap : Nat) (a : Nat) (q : Option Addr) (m cap2 : Nat) (b : Nat) (hn : n ≤ 400) (hm : m ≤ 400) (hb0 : 0 < b) (w : World) (hA : RdN w p n cap (digs a)) (hB : RdN w q m cap2 (digs b)) :
    Calls Tryz.prog 85 #[.slice p n cap, .slice q m cap2] w (RetN (digs (rdiv a b)) w) := by
  have HA := Lib.hid hA
  have HB := Lib.hid hB
  clear hA hB
  go_enter Tryz.func85, Tryz.ntmps85
  go_wp2_with fail
  refine (over_any p n cap a q m cap2 b hn hm hb0 _ HA.out HB.out).mono ?_
  rintro e w1 ⟨p1, n1, c1, p2, n2, c2, rfl, hq, hr, hb1, hf1, hf2⟩
  have hn1 : n1 ≤ 400 := by
    rw [← hq.len]
    have h1 := dval_lt (digs a) (digs_lt a)
    rw [dval_digs, HA.out.len] at h1
    exact Nat.le_trans (digs_length_le (k := n) (Nat.lt_of_le_of_lt (Nat.div_le_self _ _) h1)) hn
  have hn2 : n2 ≤ 400 := by
    rw [← hr.len]
    have h1 := dval_lt (digs b) (digs_lt b)
    rw [dval_digs, HB.out.len] at h1
    exact Nat.le_trans (digs_length_le (k := m) (Nat.lt_trans (Nat.mod_lt _ hb0) h1)) hm
  have hs1 := hb1.size
  have HQ := Lib.hid hq
  have HR := Lib.hid hr
  have HF1 := Lib.hid hf1
  have HB1 := Lib.hid (HB.out.below hb1)
  clear hq hr hf1 hf2
  go_wp2_with fail
  refine (plus_any p2 n2 c2 (digs (a % b)) p2 n2 c2 (digs (a % b)) (by omega) (by omega) _ HR.out HR.out).mono ?_
  rintro e w2 ⟨p3, n3, c3, rfl, h3, hb2, hf3⟩
  have hs2 := hb2.size
  have hn3 : n3 ≤ 1000 := by
    rw [← h3.len]
    refine Nat.le_trans (digs_length_le (k := m + 1) ?_) (by omega)
    have h1 := dval_lt (digs b) (digs_lt b)
    rw [dval_digs, HB.out.len] at h1
    have h2 := Nat.mod_lt a hb0
    rw [dval_digs, Nat.pow_succ]
    omega
  rw [dval_digs] at h3
  have H3 := Lib.hid h3
  clear h3 hf3
  have HBB := Lib.hid (HB1.out.below hb2)
  go_wp2_with fail
  refine (less_any p3 n3 c3 (a % b + a % b) q m cap2 b (by omega) (by omega) _ H3.out HBB.out).mono ?_
  rintro e w3 ⟨rfl, hb3⟩
  have hs3 := hb3.size
  have HQ3 := Lib.hid ((HQ.out.below hb2).below hb3)
  have hbel : Below w.heap.size w w3 := bel_call hb3 (bel_call hb2 hb1 hs1) (by omega)
  by_cases hc : b ≤ 2 * (a % b)
  · have hl : ltN (a % b + a % b) b = false := by simp [ltN]; omega
    have hd : Hid (rdiv a b = a / b + 1) := by unfold Hid rdiv; rw [if_pos hc]
    clear hc
    go_wp2_with fail
    refine (of_digs 1 (by omega) _).mono ?_
    rintro e w4 ⟨p4, n4, c4, rfl, h4, hb4, hf4⟩
    have hs4 := hb4.size
    have hn4 : n4 ≤ 1 := by rw [← h4.len]; exact digs_length_le (by omega)
    have H4 := Lib.hid h4
    clear h4 hf4
    have HQ4 := Lib.hid (HQ3.out.below hb4)
    go_wp2_with fail
    refine (plus_any p1 n1 c1 (digs (a / b)) p4 n4 c4 (digs 1) (by omega) (by omega) _ HQ4.out H4.out).mono ?_
    rintro e w5 ⟨p5, n5, c5, rfl, h5, hb5, hf5⟩
    rw [dval_digs, dval_digs] at h5
    have H5 := Lib.hid h5
    have HF5 := Lib.hid hf5
    clear h5 hf5
    go_wp2_with fail
    go_ret
    exact RetN.mk (by rw [hd.out]; exact H5.out) (bel_call hb5 (bel_call hb4 hbel (by omega)) (by omega)) (fun x hx => by have := HF5.out x hx; omega)
  · have hl : ltN (a % b + a % b) b = true := by simp [ltN]; omega
    have hd : Hid (rdiv a b = a / b) := by unfold Hid rdiv; rw [if_neg hc]
    clear hc
    go_wp2_with fail
    go_ret
    exact RetN.mk (by rw [hd.out]; exact HQ3.out) hbel HF1.out

/-- A number with a sign, in new memory. -/
def RetI (minus : Bool) (x : Nat) (W : World) (e : Ending) (w' : World) : Prop := ∃ p n cap, e = .returned (.agg #[.bool minus, .slice p n cap]) ∧ RdN w' p n cap (digs x) ∧ Below W.heap.size W w'
theorem RetI.mk {minus : Bool} {x : Nat} {W w' : World} {p : Option Addr} {n cap : Nat} (hr : RdN w' p n cap (digs x)) (hb : Below W.heap.size W w') : RetI minus x W (.returned (.agg #[.bool minus, .slice p n cap])) w' := ⟨p, n, cap, rfl, hr, hb⟩

set_option maxRecDepth 100000 in
set_option maxHeartbeats 1000000 in
theorem from_any (n : Int) (hlo : -9223372036854775808 ≤ n) (hhi : n ≤ 9223372036854775807) (w : World) :
    Calls Tryz.prog 56 #[.int .i64 n] w (RetI (decide (n < 0)) n.natAbs w) := by
  by_cases h0 : n < 0
  · have hd : decide (n < 0) = true := by simp [h0]
    rw [hd]
    obtain ⟨k, hk⟩ : ∃ k : Nat, n = -(k : Int) - 1 := ⟨(-n - 1).toNat, by omega⟩
    have hk2 : k ≤ 18446744073709551615 := by omega
    have HK := Lib.hid hk2
    have e1 : n.natAbs = k + 1 := by omega
    rw [e1]
    have e2 : IntKind.i64.wrap (n + 1) = n + 1 := IntWalk.i64_in _ (by omega)
    have e3 : IntKind.i64.wrap (-(n + 1)) = (k : Int) := by rw [IntWalk.i64_in _ (by omega)]; omega
    have e4 : IntKind.u64.wrap (k : Int) = (k : Int) := IntWalk.u64_in _ (by omega)
    clear hk hk2 e1 hd hlo hhi
    go_enter Tryz.func56, Tryz.ntmps56
    go_wp2_with fail
    refine (of_digs k HK.out _).mono ?_
    rintro e w1 ⟨p1, n1, c1, rfl, h1, hb1, _⟩
    have hn1 : n1 ≤ 20 := by rw [← h1.len]; exact digs_length_le (by have := HK.out; omega)
    have H1 := Lib.hid h1
    have hs1 : w.heap.size + 1 ≤ w1.heap.size := by have := hb1.size; simpa using this
    clear h1
    go_wp2_with fail
    refine (of_digs 1 (by omega) _).mono ?_
    rintro e w2 ⟨p2, n2, c2, rfl, h2, hb2, _⟩
    have hn2 : n2 ≤ 20 := by rw [← h2.len]; exact digs_length_le (by omega)
    have H2 := Lib.hid h2
    have H12 := Lib.hid (H1.out.below hb2)
    have hs2 := hb2.size
    clear h2
    go_wp2_with fail
    refine (plus_any p1 n1 c1 (digs k) p2 n2 c2 (digs 1) (by omega) (by omega) _ H12.out H2.out).mono ?_
    rintro e w3 ⟨p3, n3, c3, rfl, h3, hb3, hf3⟩
    rw [dval_digs, dval_digs] at h3
    have H3 := Lib.hid h3
    have HF3 := Lib.hid hf3
    clear hf3
    have hs3 := hb3.size
    clear h3
    have hbel := bel_call hb3 (bel_call hb2 hb1 hb1.size) (Nat.le_trans hb1.size hb2.size)
    have x0 : w3.cell? ⟨w.heap.size, 0, none⟩ = some (.bool false) := (hbel.cell (p := ⟨w.heap.size, 0, none⟩) (by simp)).trans (by simp)
    have x1 : w3.cell? ⟨w.heap.size, 1, none⟩ = some (.slice none 0 0) := (hbel.cell (p := ⟨w.heap.size, 1, none⟩) (by simp)).trans (by simp)
    have f0 : w3.frozen? ⟨w.heap.size, 0, none⟩ = false := (hbel.frozen (p := ⟨w.heap.size, 0, none⟩) (by simp)).trans (by simp)
    have f1 : w3.frozen? ⟨w.heap.size, 1, none⟩ = false := (hbel.frozen (p := ⟨w.heap.size, 1, none⟩) (by simp)).trans (by simp)
    go_wp2_with fail
    refine bodyPost_ret (v := .agg #[.bool true, .slice p3 n3 c3]) (by simp [results, Tryz.results56, go_sem, x0, x1, f0, f1]) rfl ?_
    have hbw : Below w.heap.size w w3 := ((Below.refl _ _).alloc (Nat.le_refl _) _).trans (hbel.mono (by simp))
    exact RetI.mk ((H3.out.stored _ _ (fun x hx => by have := HF3.out x hx; simp; omega)).stored _ _ (fun x hx => by have := HF3.out x hx; simp; omega)) ((hbw.setCell (Nat.le_refl _) _).setCell (Nat.le_refl _) _)
  · have hd : decide (n < 0) = false := by simp [h0]
    rw [hd]
    obtain ⟨k, rfl⟩ : ∃ k : Nat, n = (k : Int) := ⟨n.toNat, by omega⟩
    have hk2 : k ≤ 18446744073709551615 := by omega
    have HK := Lib.hid hk2
    rw [Int.natAbs_natCast]
    have e4 : IntKind.u64.wrap (k : Int) = (k : Int) := IntWalk.u64_in _ (by omega)
    clear hk2 hd hlo hhi
    go_enter Tryz.func56, Tryz.ntmps56
    go_wp2_with fail
    refine (of_digs k HK.out _).mono ?_
    rintro e w1 ⟨p1, n1, c1, rfl, h1, hb1, hf1⟩
    have H1 := Lib.hid h1
    have HF1 := Lib.hid hf1
    have hs1 : w.heap.size + 1 ≤ w1.heap.size := by have := hb1.size; simpa using this
    clear h1 hf1
    have x0 : w1.cell? ⟨w.heap.size, 0, none⟩ = some (.bool false) := (hb1.cell (p := ⟨w.heap.size, 0, none⟩) (by simp)).trans (by simp)
    have x1 : w1.cell? ⟨w.heap.size, 1, none⟩ = some (.slice none 0 0) := (hb1.cell (p := ⟨w.heap.size, 1, none⟩) (by simp)).trans (by simp)
    have f0 : w1.frozen? ⟨w.heap.size, 0, none⟩ = false := (hb1.frozen (p := ⟨w.heap.size, 0, none⟩) (by simp)).trans (by simp)
    have f1 : w1.frozen? ⟨w.heap.size, 1, none⟩ = false := (hb1.frozen (p := ⟨w.heap.size, 1, none⟩) (by simp)).trans (by simp)
    go_wp2_with fail
    refine bodyPost_ret (v := .agg #[.bool false, .slice p1 n1 c1]) (by simp [results, Tryz.results56, go_sem, x0, x1, f0, f1]) rfl ?_
    have hbw : Below w.heap.size w w1 := ((Below.refl _ _).alloc (Nat.le_refl _) _).trans (hb1.mono (by simp))
    exact RetI.mk ((H1.out.stored _ _ (fun x hx => by have := HF1.out x hx; simp at this; simp; omega)).stored _ _ (fun x hx => by have := HF1.out x hx; simp at this; simp; omega)) ((hbw.setCell (Nat.le_refl _) _).setCell (Nat.le_refl _) _)
end Go.Proofs.YtilajcibjlcffaaGreatDoor
