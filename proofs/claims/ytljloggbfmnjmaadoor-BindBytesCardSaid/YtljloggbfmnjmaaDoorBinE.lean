/- Bind: Place over the law's axes. -/
import Derived.Test.YtljloggbfmnjmaaDoorBinD
set_option linter.unusedSimpArgs false
set_option linter.unusedVariables false
namespace Go.Proofs.YtljloggbfmnjmaaDoor
open Go.RowKit Go.Joins

/-- Where a cell stands: column and row; no line of it: nowhere. -/
def plcS (rows cols : List Idp) (x y : Idp) : (Nat × Nat) × Bool := if 0 < plL rows x ∧ 0 < plL cols y then ((plL cols y, plL rows x), true) else ((0, 0), false)
set_option maxRecDepth 100000 in
set_option maxHeartbeats 4000000 in
theorem place_any (rows cols : List Idp) (x y : Idp) (p : Option Addr) (n cap : Nat) (p2 : Option Addr) (n2 cap2 : Nat) (w : World) (hrd : RdG idE 2 w p n rows) (hn : n ≤ 1000000) (hrd2 : RdG idE 2 w p2 n2 cols) (hn2 : n2 ≤ 1000000) :
    Calls Tryd.prog 8 #[axV p n cap, axV p2 n2 cap2, .agg #[.int .u64 x.1, .int .i64 x.2, .int .u64 y.1, .int .i64 y.2]] w fun e w' => e = .returned (.tuple #[.agg #[.int .i64 (plcS rows cols x y).1.1, .int .i64 (plcS rows cols x y).1.2], .bool (plcS rows cols x y).2]) ∧ Below w.heap.size w w' := by
  have HAT1 := Lib.hid (fun W (hW : Below w.heap.size w W) => axplace_any rows x p n cap W (hrd.below hW) hn)
  have HAT2 := Lib.hid (fun W (hW : Below w.heap.size w W) => axplace_any cols y p2 n2 cap2 W (hrd2.below hW) hn2)
  have hh : Hid (((w.alloc (.cells #[.int .u64 x.1, .int .i64 x.2, .int .u64 y.1, .int .i64 y.2] tRf)).alloc (.cells #[.int .i64 0, .int .i64 0] tCl)).heap[w.heap.size]? = some (.cells #[.int .u64 x.1, .int .i64 x.2, .int .u64 y.1, .int .i64 y.2] tRf (0, 0)) ∧ ((w.alloc (.cells #[.int .u64 x.1, .int .i64 x.2, .int .u64 y.1, .int .i64 y.2] tRf)).alloc (.cells #[.int .i64 0, .int .i64 0] tCl)).heap[w.heap.size + 1]? = some (.cells #[.int .i64 0, .int .i64 0] tCl (0, 0))) := two_heap w _ _
  have hAB : Hid (Below w.heap.size w ((w.alloc (.cells #[.int .u64 x.1, .int .i64 x.2, .int .u64 y.1, .int .i64 y.2] tRf)).alloc (.cells #[.int .i64 0, .int .i64 0] tCl))) := by unfold Hid; (repeat' (first | (with_reducible exact Below.refl _ _) | (with_reducible assumption) | (with_reducible refine Below.alloc ?_ ?_ _) | (with_reducible refine bel_drewN ?_ _) | (with_reducible refine Below.drew ?_) | (with_reducible refine Below.setCell ?_ ?_ _) | (with_reducible refine bel_call ‹_› ?_ ?_) | go_size))
  obtain ⟨S, hS⟩ : ∃ S, plcS rows cols x y = S := ⟨_, rfl⟩
  have HS : Hid (S = plcS rows cols x y) := hS.symm
  rw [hS]
  unfold plcS at HS
  have hl1 := plL_le rows x
  have hl2 := plL_le cols y
  have hn1 : rows.length = n := hrd.1
  have hn3 : cols.length = n2 := hrd2.1
  clear hS hrd hrd2
  generalize plL rows x = k1 at HAT1 HS hl1
  generalize plL cols y = k2 at HAT2 HS hl2
  go_enter Tryd.func8, Tryd.ntmps8
  go_upto_region 1 with fail
  generalize (w.alloc (.cells #[.int .u64 x.1, .int .i64 x.2, .int .u64 y.1, .int .i64 y.2] tRf)).alloc (.cells #[.int .i64 0, .int .i64 0] tCl) = w0 at hh hAB ⊢
  obtain ⟨hA0, hA1⟩ := hh.out
  have c0 : w0.cell? ⟨w.heap.size, 0, none⟩ = some (.int .u64 x.1) := by rw [cell_of_block hA0]; rfl
  have c1 : w0.cell? ⟨w.heap.size, 1, none⟩ = some (.int .i64 x.2) := by rw [cell_of_block hA0]; rfl
  go_wp2_with fail
  refine (HAT1.out _ hAB.out).mono ?_
  rintro e w1 ⟨rfl, hb⟩
  have hB1 : Hid (Below w.heap.size w w1) := bel_call hb hAB.out hAB.out.size
  have HA0 : Hid (w1.heap[w.heap.size]? = some (.cells #[.int .u64 x.1, .int .i64 x.2, .int .u64 y.1, .int .i64 y.2] tRf (0, 0))) := (hb.block _ (lt_some hA0)).trans hA0
  have HA1 : Hid (w1.heap[w.heap.size + 1]? = some (.cells #[.int .i64 0, .int .i64 0] tCl (0, 0))) := (hb.block _ (lt_some hA1)).trans hA1
  clear hb c0 c1 hAB hA0 hA1 hh HAT1
  have c2 : w1.cell? ⟨w.heap.size, 2, none⟩ = some (.int .u64 y.1) := by rw [cell_of_block HA0.out]; rfl
  have c3 : w1.cell? ⟨w.heap.size, 3, none⟩ = some (.int .i64 y.2) := by rw [cell_of_block HA0.out]; rfl
  go_wp2_with fail
  refine (HAT2.out _ hB1.out).mono ?_
  rintro e w2 ⟨rfl, hb⟩
  have hB2 : Hid (Below w.heap.size w w2) := bel_call hb hB1.out hB1.out.size
  have HA2 : Hid (w2.heap[w.heap.size + 1]? = some (.cells #[.int .i64 0, .int .i64 0] tCl (0, 0))) := (hb.block _ (lt_some HA1.out)).trans HA1.out
  clear hb c2 c3 hB1 HA0 HA1 HAT2
  have z0 : w2.cell? ⟨w.heap.size + 1, 0, none⟩ = some (.int .i64 0) := by rw [cell_of_block HA2.out]; rfl
  have z1 : w2.cell? ⟨w.heap.size + 1, 1, none⟩ = some (.int .i64 0) := by rw [cell_of_block HA2.out]; rfl
  have f0 := unfrozen_of_block HA2.out 0
  have f1 := unfrozen_of_block HA2.out 1
  have hB := hB2.out
  have hsz : w.heap.size ≤ w.heap.size + 1 := by omega
  clear HA2 hB2
  by_cases h1 : 0 < k1
  · by_cases h2 : 0 < k2
    · have HR : Hid (S = ((k2, k1), true)) := by unfold Hid; rw [HS.out, if_pos ⟨h1, h2⟩]
      have d1 : decide (0 < k1) = true := decide_eq_true h1
      have d2 : decide (0 < k2) = true := decide_eq_true h2
      go_wp2_with fail
      refine bodyPost_ret (v := .tuple #[.agg #[.int .i64 k2, .int .i64 k1], .bool true]) (by simp only [results, Tryd.results8]; go_simp) rfl ⟨by rw [HR.out], by (repeat' (first | (with_reducible exact Below.refl _ _) | (with_reducible assumption) | (with_reducible refine Below.alloc ?_ ?_ _) | (with_reducible refine bel_drewN ?_ _) | (with_reducible refine Below.drew ?_) | (with_reducible refine Below.setCell ?_ ?_ _) | (with_reducible refine bel_call ‹_› ?_ ?_) | go_size))⟩
    · have HR : Hid (S = ((0, 0), false)) := by unfold Hid; rw [HS.out, if_neg (fun h => h2 h.2)]
      have d1 : decide (0 < k1) = true := decide_eq_true h1
      have d2 : decide (0 < k2) = false := decide_eq_false h2
      go_wp2_with fail
      refine bodyPost_ret (v := .tuple #[.agg #[.int .i64 0, .int .i64 0], .bool false]) (by simp only [results, Tryd.results8]; go_simp) rfl ⟨by rw [HR.out]; rfl, by (repeat' (first | (with_reducible exact Below.refl _ _) | (with_reducible assumption) | (with_reducible refine Below.alloc ?_ ?_ _) | (with_reducible refine bel_drewN ?_ _) | (with_reducible refine Below.drew ?_) | (with_reducible refine Below.setCell ?_ ?_ _) | (with_reducible refine bel_call ‹_› ?_ ?_) | go_size))⟩
  · have HR : Hid (S = ((0, 0), false)) := by unfold Hid; rw [HS.out, if_neg (fun h => h1 h.1)]
    have d1 : decide (0 < k1) = false := decide_eq_false h1
    go_wp2_with fail
    refine bodyPost_ret (v := .tuple #[.agg #[.int .i64 0, .int .i64 0], .bool false]) (by simp only [results, Tryd.results8]; go_simp) rfl ⟨by rw [HR.out]; rfl, by (repeat' (first | (with_reducible exact Below.refl _ _) | (with_reducible assumption) | (with_reducible refine Below.alloc ?_ ?_ _) | (with_reducible refine bel_drewN ?_ _) | (with_reducible refine Below.drew ?_) | (with_reducible refine Below.setCell ?_ ?_ _) | (with_reducible refine bel_call ‹_› ?_ ?_) | go_size))⟩
end Go.Proofs.YtljloggbfmnjmaaDoor
