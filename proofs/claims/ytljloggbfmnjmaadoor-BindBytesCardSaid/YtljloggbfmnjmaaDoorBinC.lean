/- Bind: which cells may be; the law's axis: At, Place. -/
import Derived.Test.YtljloggbfmnjmaaDoorBinB
set_option linter.unusedSimpArgs false
set_option linter.unusedVariables false
namespace Go.Proofs.YtljloggbfmnjmaaDoor
open Go.RowKit Go.Joins

/-- May a cell be? -/
def rtC (c r : Int) : Bool := decide (1 ≤ c) && (decide (c ≤ 702) && (decide (1 ≤ r) && decide (r ≤ 9999)))
set_option maxRecDepth 100000 in
set_option maxHeartbeats 1000000 in
theorem cright_any (c r : Int) (w : World) : Calls Tryd.prog 7 #[.agg #[.int .i64 c, .int .i64 r]] w fun e w' => e = .returned (.bool (rtC c r)) ∧ Below w.heap.size w w' := by
  have hB : Hid (Below w.heap.size w (w.alloc (.cells #[.int .i64 c, .int .i64 r] 24))) := by unfold Hid; (repeat' (first | (with_reducible exact Below.refl _ _) | (with_reducible assumption) | (with_reducible refine Below.alloc ?_ ?_ _) | (with_reducible refine bel_drewN ?_ _) | (with_reducible refine Below.drew ?_) | (with_reducible refine Below.setCell ?_ ?_ _) | (with_reducible refine bel_call ‹_› ?_ ?_) | go_size))
  obtain ⟨O, hO⟩ : ∃ O, rtC c r = O := ⟨_, rfl⟩
  have HO : Hid (rtC c r = O) := hO
  rw [hO]
  clear hO
  by_cases h1 : 1 ≤ c
  · by_cases h2 : c ≤ 702
    · by_cases h3 : 1 ≤ r
      · by_cases h4 : r ≤ 9999
        · have HR : Hid (O = true) := by unfold Hid; rw [← HO.out]; unfold rtC; simp; omega
          go_enter Tryd.func7, Tryd.ntmps7
          go_wp2_with fail
          go_ret
          exact ⟨by rw [HR.out]; rfl, hB.out⟩
        · have HR : Hid (O = false) := by unfold Hid; rw [← HO.out]; unfold rtC; simp; omega
          go_enter Tryd.func7, Tryd.ntmps7
          go_wp2_with fail
          go_ret
          exact ⟨by rw [HR.out]; rfl, hB.out⟩
      · have HR : Hid (O = false) := by unfold Hid; rw [← HO.out]; unfold rtC; simp; omega
        go_enter Tryd.func7, Tryd.ntmps7
        go_wp2_with fail
        go_ret
        exact ⟨by rw [HR.out]; rfl, hB.out⟩
    · have HR : Hid (O = false) := by unfold Hid; rw [← HO.out]; unfold rtC; simp; omega
      go_enter Tryd.func7, Tryd.ntmps7
      go_wp2_with fail
      go_ret
      exact ⟨by rw [HR.out]; rfl, hB.out⟩
  · have HR : Hid (O = false) := by unfold Hid; rw [← HO.out]; unfold rtC; simp; omega
    go_enter Tryd.func7, Tryd.ntmps7
    go_wp2_with fail
    go_ret
    exact ⟨by rw [HR.out]; rfl, hB.out⟩
/-- The stamp at a place, from 1 on. -/
def atL (l : List Idp) (k : Int) : Idp × Bool := if 1 ≤ k ∧ k ≤ l.length then (l.getD (k - 1).toNat (0, 0), true) else ((0, 0), false)
abbrev tAx : TypeId := 36
theorem two_heap (w : World) (a b : Obj) : ((w.alloc a).alloc b).heap[w.heap.size]? = some a ∧ ((w.alloc a).alloc b).heap[w.heap.size + 1]? = some b := by
  refine ⟨?_, ?_⟩ <;> simp only [World.alloc, Array.getElem?_push, Array.size_push] <;> (repeat (first | rfl | (rw [if_neg (by omega)]) | (rw [if_pos (by omega)])))
set_option maxRecDepth 100000 in
set_option maxHeartbeats 2000000 in
theorem at_any (l : List Idp) (k : Int) (p : Option Addr) (n cap : Nat) (w : World) (hrd : RdG idE 2 w p n l) (hn : n ≤ 1000000) :
    Calls Tryd.prog 117 #[.agg #[.slice p n cap], .int .i64 k] w fun e w' => e = .returned (.tuple #[.agg #[.int .u64 (atL l k).1.1, .int .i64 (atL l k).1.2], .bool (atL l k).2]) ∧ Below w.heap.size w w' := by
  have HRD := Lib.hid hrd
  have hlen : l.length = n := hrd.1
  obtain ⟨O, hO⟩ : ∃ O, atL l k = O := ⟨_, rfl⟩
  have HO : Hid (atL l k = O) := hO
  rw [hO]
  clear hO hrd
  have hh : Hid (((w.alloc (.cells #[.slice p n cap] tAx)).alloc (.cells #[.int .u64 0, .int .i64 0] tId)).heap[w.heap.size]? = some (.cells #[.slice p n cap] tAx (0, 0)) ∧ ((w.alloc (.cells #[.slice p n cap] tAx)).alloc (.cells #[.int .u64 0, .int .i64 0] tId)).heap[w.heap.size + 1]? = some (.cells #[.int .u64 0, .int .i64 0] tId (0, 0))) := two_heap w _ _
  have hAB : Hid (Below w.heap.size w ((w.alloc (.cells #[.slice p n cap] tAx)).alloc (.cells #[.int .u64 0, .int .i64 0] tId))) := by unfold Hid; (repeat' (first | (with_reducible exact Below.refl _ _) | (with_reducible assumption) | (with_reducible refine Below.alloc ?_ ?_ _) | (with_reducible refine bel_drewN ?_ _) | (with_reducible refine Below.drew ?_) | (with_reducible refine Below.setCell ?_ ?_ _) | (with_reducible refine bel_call ‹_› ?_ ?_) | go_size))
  go_enter Tryd.func117, Tryd.ntmps117
  go_upto_region 1 with fail
  generalize (w.alloc (.cells #[.slice p n cap] tAx)).alloc (.cells #[.int .u64 0, .int .i64 0] tId) = w0 at hh hAB ⊢
  obtain ⟨hA0, hA1⟩ := hh.out
  have c0 : w0.cell? ⟨w.heap.size, 0, none⟩ = some (.slice p n cap) := by rw [cell_of_block hA0]; rfl
  have z0 : w0.cell? ⟨w.heap.size + 1, 0, none⟩ = some (.int .u64 0) := by rw [cell_of_block hA1]; rfl
  have z1 : w0.cell? ⟨w.heap.size + 1, 1, none⟩ = some (.int .i64 0) := by rw [cell_of_block hA1]; rfl
  have f0 := unfrozen_of_block hA1 0
  have f1 := unfrozen_of_block hA1 1
  clear hA0 hA1 hh
  by_cases h1 : 1 ≤ k
  · have h1i : ¬ k < 1 := by omega
    by_cases h2 : k ≤ n
    · have h2i : ¬ (n : Int) < k := by omega
      obtain ⟨i, hik⟩ : ∃ i : Nat, k = (i : Int) + 1 := ⟨(k - 1).toNat, by omega⟩
      subst hik
      obtain ⟨b, off, rfl, hb, hx⟩ := HRD.out.some (j := i) (by omega)
      obtain ⟨x, hxi⟩ : ∃ x, l[i]? = some x := ⟨_, List.getElem?_eq_getElem (by omega)⟩
      have HR : Hid (O = (x, true)) := by
        unfold Hid
        rw [← HO.out]
        unfold atL
        rw [if_pos ⟨by omega, by omega⟩]
        simp [List.getD, hxi]
      have q0 := (hAB.out.cell (p := ⟨b, off + i * 2, none⟩) hb).trans (hx i x hxi 0 _ rfl)
      have q1 := (hAB.out.cell (p := ⟨b, off + i * 2 + 1, none⟩) hb).trans (hx i x hxi 1 _ rfl)
      have g1 : IntKind.i64.wrap ((i : Int) + 1 - 1) = (i : Int) := by rw [show (i : Int) + 1 - 1 = (i : Int) from by omega]; exact IntWalk.i64_in _ (by omega)
      clear hx hxi
      go_wp2_with fail
      refine bodyPost_ret (v := .tuple #[.agg #[.int .u64 x.1, .int .i64 x.2], .bool true]) (by simp only [results, Tryd.results117]; go_simp) rfl ⟨by rw [HR.out], (hAB.out.setCell (by show w.heap.size ≤ w.heap.size + 1; omega) _).setCell (by show w.heap.size ≤ w.heap.size + 1; omega) _⟩
    · have h2i : (n : Int) < k := by omega
      have HR : Hid (O = ((0, 0), false)) := by
        unfold Hid
        rw [← HO.out]
        unfold atL
        rw [if_neg (by omega)]
      go_wp2_with fail
      refine bodyPost_ret (v := .tuple #[.agg #[.int .u64 0, .int .i64 0], .bool false]) (by simp only [results, Tryd.results117]; go_simp) rfl ⟨by rw [HR.out], (hAB.out.setCell (by show w.heap.size ≤ w.heap.size + 1; omega) _).setCell (by show w.heap.size ≤ w.heap.size + 1; omega) _⟩
  · have h1i : k < 1 := by omega
    have HR : Hid (O = ((0, 0), false)) := by
      unfold Hid
      rw [← HO.out]
      unfold atL
      rw [if_neg (by omega)]
    go_wp2_with fail
    refine bodyPost_ret (v := .tuple #[.agg #[.int .u64 0, .int .i64 0], .bool false]) (by simp only [results, Tryd.results117]; go_simp) rfl ⟨by rw [HR.out], (hAB.out.setCell (by show w.heap.size ≤ w.heap.size + 1; omega) _).setCell (by show w.heap.size ≤ w.heap.size + 1; omega) _⟩

set_option maxRecDepth 100000 in
set_option maxHeartbeats 2000000 in
theorem axplace_any (l : List Idp) (y : Idp) (p : Option Addr) (n cap : Nat) (w : World) (hrd : RdG idE 2 w p n l) (hn : n ≤ 1000000) :
    Calls Tryd.prog 118 #[.agg #[.slice p n cap], .agg #[.int .u64 y.1, .int .i64 y.2]] w fun e w' => e = .returned (.tuple #[.int .i64 (plL l y : Nat), .bool (decide (0 < plL l y))]) ∧ Below w.heap.size w w' := by
  have HPL := Lib.hid (fun W (hW : Below w.heap.size w W) => rplace_any l y p n cap W (hrd.below hW) (by omega))
  have hle := plL_le l y
  have hlen : l.length = n := hrd.1
  obtain ⟨k, hk⟩ : ∃ k, plL l y = k := ⟨_, rfl⟩
  rw [hk] at HPL hle ⊢
  clear hk hrd
  have hh : Hid (((w.alloc (.cells #[.slice p n cap] tAx)).alloc (.cells #[.int .u64 y.1, .int .i64 y.2] tId)).heap[w.heap.size]? = some (.cells #[.slice p n cap] tAx (0, 0)) ∧ ((w.alloc (.cells #[.slice p n cap] tAx)).alloc (.cells #[.int .u64 y.1, .int .i64 y.2] tId)).heap[w.heap.size + 1]? = some (.cells #[.int .u64 y.1, .int .i64 y.2] tId (0, 0))) := two_heap w _ _
  have hAB : Hid (Below w.heap.size w ((w.alloc (.cells #[.slice p n cap] tAx)).alloc (.cells #[.int .u64 y.1, .int .i64 y.2] tId))) := by unfold Hid; (repeat' (first | (with_reducible exact Below.refl _ _) | (with_reducible assumption) | (with_reducible refine Below.alloc ?_ ?_ _) | (with_reducible refine bel_drewN ?_ _) | (with_reducible refine Below.drew ?_) | (with_reducible refine Below.setCell ?_ ?_ _) | (with_reducible refine bel_call ‹_› ?_ ?_) | go_size))
  go_enter Tryd.func118, Tryd.ntmps118
  go_upto_region 1 with fail
  generalize (w.alloc (.cells #[.slice p n cap] tAx)).alloc (.cells #[.int .u64 y.1, .int .i64 y.2] tId) = w0 at hh hAB ⊢
  obtain ⟨hA0, hA1⟩ := hh.out
  have c0 : w0.cell? ⟨w.heap.size, 0, none⟩ = some (.slice p n cap) := by rw [cell_of_block hA0]; rfl
  have z0 : w0.cell? ⟨w.heap.size + 1, 0, none⟩ = some (.int .u64 y.1) := by rw [cell_of_block hA1]; rfl
  have z1 : w0.cell? ⟨w.heap.size + 1, 1, none⟩ = some (.int .i64 y.2) := by rw [cell_of_block hA1]; rfl
  clear hA0 hA1 hh
  go_wp2_with fail
  refine (HPL.out _ hAB.out).mono ?_
  rintro e w1 ⟨rfl, hb⟩
  have hB1 := bel_call hb hAB.out hAB.out.size
  clear hb hAB c0 z0 z1 HPL
  by_cases h0 : 0 < k
  · have h0i : (0 : Int) < (k : Int) := by omega
    go_wp2_with fail
    go_ret2
    exact ⟨by rw [decide_eq_true h0]; rfl, hB1⟩
  · have h0i : ¬ (0 : Int) < (k : Int) := by omega
    go_wp2_with fail
    go_ret2
    exact ⟨by rw [decide_eq_false h0]; rfl, hB1⟩
end Go.Proofs.YtljloggbfmnjmaaDoor
