/- Bind: Cell, Place over the law's axes. -/
import Derived.Test.YtljloggbfmnjmaaDoorBinC
set_option linter.unusedSimpArgs false
set_option linter.unusedVariables false
namespace Go.Proofs.YtljloggbfmnjmaaDoor
open Go.RowKit Go.Joins

theorem lt_some {w : World} {b : Nat} {o : Obj} (h : w.heap[b]? = some o) : b < w.heap.size := by
  rcases Nat.lt_or_ge b w.heap.size with h' | h'
  · exact h'
  · rw [Array.getElem?_eq_none h'] at h; cases h
abbrev axV (p : Option Addr) (n cap : Nat) : Value := .iface tAx (.agg #[.slice p n cap])
abbrev tRf : TypeId := 31
abbrev tCl : TypeId := 24
/-- A cell's stamps, and what bars it. -/
def celS (rows cols : List Idp) (c r : Int) : (Idp × Idp) × Int :=
  if rtC c r = true then (if (atL rows r).2 = true ∧ (atL cols c).2 = true then (((atL rows r).1, (atL cols c).1), 0) else (((0, 0), (0, 0)), 23)) else (((0, 0), (0, 0)), 20)
set_option maxRecDepth 100000 in
set_option maxHeartbeats 4000000 in
theorem cell_any (rows cols : List Idp) (c r : Int) (p : Option Addr) (n cap : Nat) (p2 : Option Addr) (n2 cap2 : Nat) (w : World) (hrd : RdG idE 2 w p n rows) (hn : n ≤ 1000000) (hrd2 : RdG idE 2 w p2 n2 cols) (hn2 : n2 ≤ 1000000) :
    Calls Tryd.prog 6 #[axV p n cap, axV p2 n2 cap2, .agg #[.int .i64 c, .int .i64 r]] w fun e w' => e = .returned (.tuple #[.agg #[.int .u64 (celS rows cols c r).1.1.1, .int .i64 (celS rows cols c r).1.1.2, .int .u64 (celS rows cols c r).1.2.1, .int .i64 (celS rows cols c r).1.2.2], .int .i64 (celS rows cols c r).2]) ∧ Below w.heap.size w w' := by
  have HAT1 := Lib.hid (fun W (hW : Below w.heap.size w W) => at_any rows r p n cap W (hrd.below hW) hn)
  have HAT2 := Lib.hid (fun W (hW : Below w.heap.size w W) => at_any cols c p2 n2 cap2 W (hrd2.below hW) hn2)
  have HRT := Lib.hid (fun W => cright_any c r W)
  have hh : Hid (((w.alloc (.cells #[.int .i64 c, .int .i64 r] tCl)).alloc (.cells #[.int .u64 0, .int .i64 0, .int .u64 0, .int .i64 0] tRf)).heap[w.heap.size]? = some (.cells #[.int .i64 c, .int .i64 r] tCl (0, 0)) ∧ ((w.alloc (.cells #[.int .i64 c, .int .i64 r] tCl)).alloc (.cells #[.int .u64 0, .int .i64 0, .int .u64 0, .int .i64 0] tRf)).heap[w.heap.size + 1]? = some (.cells #[.int .u64 0, .int .i64 0, .int .u64 0, .int .i64 0] tRf (0, 0))) := two_heap w _ _
  have hAB : Hid (Below w.heap.size w ((w.alloc (.cells #[.int .i64 c, .int .i64 r] tCl)).alloc (.cells #[.int .u64 0, .int .i64 0, .int .u64 0, .int .i64 0] tRf))) := by unfold Hid; (repeat' (first | (with_reducible exact Below.refl _ _) | (with_reducible assumption) | (with_reducible refine Below.alloc ?_ ?_ _) | (with_reducible refine bel_drewN ?_ _) | (with_reducible refine Below.drew ?_) | (with_reducible refine Below.setCell ?_ ?_ _) | (with_reducible refine bel_call ‹_› ?_ ?_) | go_size))
  clear hrd hrd2
  obtain ⟨S, hS⟩ : ∃ S, celS rows cols c r = S := ⟨_, rfl⟩
  have HS : Hid (S = celS rows cols c r) := hS.symm
  rw [hS]
  unfold celS at HS
  clear hS
  obtain ⟨A, hA⟩ : ∃ A, atL rows r = A := ⟨_, rfl⟩
  obtain ⟨C, hC⟩ : ∃ C, atL cols c = C := ⟨_, rfl⟩
  rw [hA] at HAT1 HS
  rw [hC] at HAT2 HS
  obtain ⟨⟨a1, a2⟩, ok1⟩ := A
  obtain ⟨⟨b1, b2⟩, ok2⟩ := C
  clear hA hC
  go_enter Tryd.func6, Tryd.ntmps6
  go_upto_region 1 with fail
  generalize (w.alloc (.cells #[.int .i64 c, .int .i64 r] tCl)).alloc (.cells #[.int .u64 0, .int .i64 0, .int .u64 0, .int .i64 0] tRf) = w0 at hh hAB ⊢
  obtain ⟨hA0, hA1⟩ := hh.out
  have c0 : w0.cell? ⟨w.heap.size, 0, none⟩ = some (.int .i64 c) := by rw [cell_of_block hA0]; rfl
  have c1 : w0.cell? ⟨w.heap.size, 1, none⟩ = some (.int .i64 r) := by rw [cell_of_block hA0]; rfl
  go_wp2_with fail
  refine (HRT.out _).mono ?_
  rintro e w1 ⟨rfl, hb⟩
  have hB1 : Hid (Below w.heap.size w w1) := bel_call hb hAB.out hAB.out.size
  have HA0 : Hid (w1.heap[w.heap.size]? = some (.cells #[.int .i64 c, .int .i64 r] tCl (0, 0))) := (hb.block _ (lt_some hA0)).trans hA0
  have HA1 : Hid (w1.heap[w.heap.size + 1]? = some (.cells #[.int .u64 0, .int .i64 0, .int .u64 0, .int .i64 0] tRf (0, 0))) := (hb.block _ (lt_some hA1)).trans hA1
  clear hb c0 c1 hAB hA0 hA1 hh HRT
  have c0 : w1.cell? ⟨w.heap.size, 0, none⟩ = some (.int .i64 c) := by rw [cell_of_block HA0.out]; rfl
  have c1 : w1.cell? ⟨w.heap.size, 1, none⟩ = some (.int .i64 r) := by rw [cell_of_block HA0.out]; rfl
  by_cases hr : rtC c r = true
  · rw [hr]
    go_wp2_with fail
    refine (HAT1.out _ hB1.out).mono ?_
    rintro e w2 ⟨rfl, hb⟩
    have hB2 : Hid (Below w.heap.size w w2) := bel_call hb hB1.out hB1.out.size
    have HA0' : Hid (w2.heap[w.heap.size]? = some (.cells #[.int .i64 c, .int .i64 r] tCl (0, 0))) := (hb.block _ (lt_some HA0.out)).trans HA0.out
    have HA1' : Hid (w2.heap[w.heap.size + 1]? = some (.cells #[.int .u64 0, .int .i64 0, .int .u64 0, .int .i64 0] tRf (0, 0))) := (hb.block _ (lt_some HA1.out)).trans HA1.out
    clear hb c0 c1 HA0 HA1 hB1 HAT1
    go_upto_region 4 with fail
    have HN3 : Hid ((w2.alloc (.cells #[.int .u64 a1, .int .i64 a2] tId)).heap[w2.heap.size]? = some (.cells #[.int .u64 a1, .int .i64 a2] tId (0, 0))) := heap_alloc_new w2 _
    have hB3 : Hid (Below w.heap.size w (w2.alloc (.cells #[.int .u64 a1, .int .i64 a2] tId))) := hB2.out.alloc hB2.out.size _
    have HA0 : Hid ((w2.alloc (.cells #[.int .u64 a1, .int .i64 a2] tId)).heap[w.heap.size]? = some (.cells #[.int .i64 c, .int .i64 r] tCl (0, 0))) := (Lib.alloc_old w2 _ _ (lt_some HA0'.out)).trans HA0'.out
    have HA1 : Hid ((w2.alloc (.cells #[.int .u64 a1, .int .i64 a2] tId)).heap[w.heap.size + 1]? = some (.cells #[.int .u64 0, .int .i64 0, .int .u64 0, .int .i64 0] tRf (0, 0))) := (Lib.alloc_old w2 _ _ (lt_some HA1'.out)).trans HA1'.out
    have hz2 : w.heap.size + 1 < w2.heap.size := lt_some HA1'.out
    generalize w2.alloc (.cells #[.int .u64 a1, .int .i64 a2] tId) = w3 at HN3 hB3 HA0 HA1 ⊢
    generalize w2.heap.size = g3 at HN3 hz2 ⊢
    clear HA0' HA1' hB2
    have c0 : w3.cell? ⟨w.heap.size, 0, none⟩ = some (.int .i64 c) := by rw [cell_of_block HA0.out]; rfl
    have c1 : w3.cell? ⟨w.heap.size, 1, none⟩ = some (.int .i64 r) := by rw [cell_of_block HA0.out]; rfl
    go_wp2_with fail
    refine (HAT2.out _ hB3.out).mono ?_
    rintro e w4 ⟨rfl, hb⟩
    have hB4 : Hid (Below w.heap.size w w4) := bel_call hb hB3.out hB3.out.size
    have HN4 : Hid (w4.heap[g3]? = some (.cells #[.int .u64 a1, .int .i64 a2] tId (0, 0))) := (hb.block _ (lt_some HN3.out)).trans HN3.out
    have HA4 : Hid (w4.heap[w.heap.size + 1]? = some (.cells #[.int .u64 0, .int .i64 0, .int .u64 0, .int .i64 0] tRf (0, 0))) := (hb.block _ (lt_some HA1.out)).trans HA1.out
    clear hb c0 c1 HA0 HA1 hB3 HN3 HAT2
    go_upto_region 5 with fail
    have HM5 : Hid ((w4.alloc (.cells #[.int .u64 b1, .int .i64 b2] tId)).heap[w4.heap.size]? = some (.cells #[.int .u64 b1, .int .i64 b2] tId (0, 0))) := heap_alloc_new w4 _
    have hB5 : Hid (Below w.heap.size w (w4.alloc (.cells #[.int .u64 b1, .int .i64 b2] tId))) := hB4.out.alloc hB4.out.size _
    have HN5 : Hid ((w4.alloc (.cells #[.int .u64 b1, .int .i64 b2] tId)).heap[g3]? = some (.cells #[.int .u64 a1, .int .i64 a2] tId (0, 0))) := (Lib.alloc_old w4 _ _ (lt_some HN4.out)).trans HN4.out
    have HA5 : Hid ((w4.alloc (.cells #[.int .u64 b1, .int .i64 b2] tId)).heap[w.heap.size + 1]? = some (.cells #[.int .u64 0, .int .i64 0, .int .u64 0, .int .i64 0] tRf (0, 0))) := (Lib.alloc_old w4 _ _ (lt_some HA4.out)).trans HA4.out
    have hz4 : g3 < w4.heap.size := lt_some HN4.out
    generalize w4.alloc (.cells #[.int .u64 b1, .int .i64 b2] tId) = w5 at HM5 hB5 HN5 HA5 ⊢
    generalize w4.heap.size = g5 at HM5 hz4 ⊢
    clear HA4 HN4 hB4
    have n0 : w5.cell? ⟨g3, 0, none⟩ = some (.int .u64 a1) := by rw [cell_of_block HN5.out]; rfl
    have n1 : w5.cell? ⟨g3, 1, none⟩ = some (.int .i64 a2) := by rw [cell_of_block HN5.out]; rfl
    have m0 : w5.cell? ⟨g5, 0, none⟩ = some (.int .u64 b1) := by rw [cell_of_block HM5.out]; rfl
    have m1 : w5.cell? ⟨g5, 1, none⟩ = some (.int .i64 b2) := by rw [cell_of_block HM5.out]; rfl
    have z0 : w5.cell? ⟨w.heap.size + 1, 0, none⟩ = some (.int .u64 0) := by rw [cell_of_block HA5.out]; rfl
    have z1 : w5.cell? ⟨w.heap.size + 1, 1, none⟩ = some (.int .i64 0) := by rw [cell_of_block HA5.out]; rfl
    have z2 : w5.cell? ⟨w.heap.size + 1, 2, none⟩ = some (.int .u64 0) := by rw [cell_of_block HA5.out]; rfl
    have z3 : w5.cell? ⟨w.heap.size + 1, 3, none⟩ = some (.int .i64 0) := by rw [cell_of_block HA5.out]; rfl
    have f0 := unfrozen_of_block HA5.out 0
    have f1 := unfrozen_of_block HA5.out 1
    have f2 := unfrozen_of_block HA5.out 2
    have f3 := unfrozen_of_block HA5.out 3
    have hB := hB5.out
    have hsz : w.heap.size ≤ w.heap.size + 1 := by omega
    cases ok1
    · have HR : Hid (S = (((0, 0), (0, 0)), 23)) := by unfold Hid; rw [HS.out, if_pos hr, if_neg (by simp)]
      clear HM5 HN5 HA5 hB5 hr
      go_wp2_with fail
      refine bodyPost_ret (v := .tuple #[.agg #[.int .u64 0, .int .i64 0, .int .u64 0, .int .i64 0], .int .i64 23]) (by simp only [results, Tryd.results6]; go_simp) rfl ⟨by rw [HR.out], by (repeat' (first | (with_reducible exact Below.refl _ _) | (with_reducible assumption) | (with_reducible refine Below.alloc ?_ ?_ _) | (with_reducible refine bel_drewN ?_ _) | (with_reducible refine Below.drew ?_) | (with_reducible refine Below.setCell ?_ ?_ _) | (with_reducible refine bel_call ‹_› ?_ ?_) | go_size))⟩
    · cases ok2
      · have HR : Hid (S = (((0, 0), (0, 0)), 23)) := by unfold Hid; rw [HS.out, if_pos hr, if_neg (by simp)]
        clear HM5 HN5 HA5 hB5 hr
        go_wp2_with fail
        refine bodyPost_ret (v := .tuple #[.agg #[.int .u64 0, .int .i64 0, .int .u64 0, .int .i64 0], .int .i64 23]) (by simp only [results, Tryd.results6]; go_simp) rfl ⟨by rw [HR.out], by (repeat' (first | (with_reducible exact Below.refl _ _) | (with_reducible assumption) | (with_reducible refine Below.alloc ?_ ?_ _) | (with_reducible refine bel_drewN ?_ _) | (with_reducible refine Below.drew ?_) | (with_reducible refine Below.setCell ?_ ?_ _) | (with_reducible refine bel_call ‹_› ?_ ?_) | go_size))⟩
      · have HR : Hid (S = (((a1, a2), (b1, b2)), 0)) := by unfold Hid; rw [HS.out, if_pos hr, if_pos (by simp)]
        clear HM5 HN5 HA5 hB5 hr
        go_wp2_with fail
        refine bodyPost_ret (v := .tuple #[.agg #[.int .u64 a1, .int .i64 a2, .int .u64 b1, .int .i64 b2], .int .i64 0]) (by simp only [results, Tryd.results6]; go_simp) rfl ⟨by rw [HR.out], by (repeat' (first | (with_reducible exact Below.refl _ _) | (with_reducible assumption) | (with_reducible refine Below.alloc ?_ ?_ _) | (with_reducible refine bel_drewN ?_ _) | (with_reducible refine Below.drew ?_) | (with_reducible refine Below.setCell ?_ ?_ _) | (with_reducible refine bel_call ‹_› ?_ ?_) | go_size))⟩
  · have hr2 : rtC c r = false := by simpa using hr
    have HR : Hid (S = (((0, 0), (0, 0)), 20)) := by unfold Hid; rw [HS.out, if_neg hr]
    rw [hr2]
    have z0 : w1.cell? ⟨w.heap.size + 1, 0, none⟩ = some (.int .u64 0) := by rw [cell_of_block HA1.out]; rfl
    have z1 : w1.cell? ⟨w.heap.size + 1, 1, none⟩ = some (.int .i64 0) := by rw [cell_of_block HA1.out]; rfl
    have z2 : w1.cell? ⟨w.heap.size + 1, 2, none⟩ = some (.int .u64 0) := by rw [cell_of_block HA1.out]; rfl
    have z3 : w1.cell? ⟨w.heap.size + 1, 3, none⟩ = some (.int .i64 0) := by rw [cell_of_block HA1.out]; rfl
    have f0 := unfrozen_of_block HA1.out 0
    have f1 := unfrozen_of_block HA1.out 1
    have f2 := unfrozen_of_block HA1.out 2
    have f3 := unfrozen_of_block HA1.out 3
    have hB := hB1.out
    clear hr hr2
    go_wp2_with fail
    refine bodyPost_ret (v := .tuple #[.agg #[.int .u64 0, .int .i64 0, .int .u64 0, .int .i64 0], .int .i64 20]) (by simp only [results, Tryd.results6]; go_simp) rfl ⟨by rw [HR.out], by (repeat' (first | (with_reducible exact Below.refl _ _) | (with_reducible assumption) | (with_reducible refine Below.alloc ?_ ?_ _) | (with_reducible refine bel_drewN ?_ _) | (with_reducible refine Below.drew ?_) | (with_reducible refine Below.setCell ?_ ?_ _) | (with_reducible refine bel_call ‹_› ?_ ?_) | go_size))⟩
end Go.Proofs.YtljloggbfmnjmaaDoor
