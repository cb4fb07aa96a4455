/- Bind: lists of stamps in memory; the document's Place. -/
import Derived.Test.YtljloggbfmnjmaaDoorRow
import Derived.Test.YtljloggbfmnjmaaDoorQuick
import Derived.Test.YtljloggbfmnjmaaDoorShelf
import Derived.Lib.SmallJoins
import Derived.Deep.DeepCutAuto
import Derived.Deep.LoopGhost
import Derived.Lib.Hide
import Derived.Lib.QuietBelow
set_option linter.unusedSimpArgs false
set_option linter.unusedVariables false
namespace Go.Proofs.YtljloggbfmnjmaaDoor
open Go.RowKit Go.Joins

abbrev tId : TypeId := 27
abbrev Idp := Int × Int
/-- A stamp's cells. -/
def idE (x : Idp) : List Value := [.int .u64 x.1, .int .i64 x.2]
def idA (x : Idp) : Array Value := #[.int .u64 x.1, .int .i64 x.2]
theorem idE_len (x : Idp) : (idE x).length = 2 := rfl
/-- Where a stamp stands, from 1 on; 0: nowhere. -/
def plL : List Idp → Idp → Nat
  | [], _ => 0
  | x :: r, y => if x = y then 1 else if plL r y = 0 then 0 else plL r y + 1
theorem plL_le : ∀ (l : List Idp) (y : Idp), plL l y ≤ l.length
  | [], y => by simp [plL]
  | x :: r, y => by
    have := plL_le r y
    unfold plL
    split
    · simp
    · split <;> simp <;> omega
/-- The stamps behind a place do not hold it: what is found is found further on. -/
def plF (l : List Idp) (y : Idp) (i : Nat) : Nat := if plL (l.drop i) y = 0 then 0 else i + plL (l.drop i) y
theorem plF_zero (l : List Idp) (y : Idp) : plF l y 0 = plL l y := by
  unfold plF
  rw [List.drop_zero]
  split <;> omega
theorem plF_hit {l : List Idp} {y x : Idp} {i : Nat} (h : l[i]? = some x) (e : x = y) : plF l y i = i + 1 := by
  obtain ⟨hi, e2⟩ := List.getElem?_eq_some_iff.1 h
  unfold plF
  rw [List.drop_eq_getElem_cons hi, e2, plL, if_pos e]
  simp
theorem plF_miss {l : List Idp} {y x : Idp} {i : Nat} (h : l[i]? = some x) (e : x ≠ y) : plF l y i = plF l y (i + 1) := by
  obtain ⟨hi, e2⟩ := List.getElem?_eq_some_iff.1 h
  unfold plF
  rw [List.drop_eq_getElem_cons hi, e2, plL, if_neg e]
  by_cases h1 : plL (l.drop (i + 1)) y = 0
  · simp [h1]
  · rw [if_neg h1, if_neg (by omega), if_neg h1]
    omega
theorem plF_end {l : List Idp} {y : Idp} {i : Nat} (h : l.length ≤ i) : plF l y i = 0 := by
  unfold plF
  rw [List.drop_eq_nil_of_le h, plL]
  simp
theorem eq_ids (x y : Idp) (W : World) : (binOp .eql tId (.agg #[.int .u64 x.1, .int .i64 x.2]) (.agg #[.int .u64 y.1, .int .i64 y.2])).run Tryd.prog W = .ok (.bool (decide (x = y))) W := by
  obtain ⟨a, b⟩ := x
  obtain ⟨c, d⟩ := y
  by_cases h1 : a = c
  · by_cases h2 : b = d
    · subst h1 h2
      go_simp
    · have h3 : ¬ ((a, b) : Idp) = (c, d) := fun e => h2 (by injection e)
      rw [decide_eq_false h3]
      go_simp
  · have h3 : ¬ ((a, b) : Idp) = (c, d) := fun e => h1 (by injection e)
    rw [decide_eq_false h3]
    go_simp
theorem lt_of_cellB {w : World} {b o : Nat} {u : Value} (h : w.cell? ⟨b, o, none⟩ = some u) : b < w.heap.size := by
  rcases Nat.lt_or_ge b w.heap.size with h' | h'
  · exact h'
  · simp [World.cell?, Array.getElem?_eq_none h'] at h

set_option maxRecDepth 100000 in
set_option maxHeartbeats 2000000 in
theorem rplace_any (l : List Idp) (y : Idp) (p : Option Addr) (n cap : Nat) (w : World) (hrd : RdG idE 2 w p n l) (hn : n ≤ 9223372036854775807) :
    Calls Tryd.prog 9 #[.slice p n cap, .agg #[.int .u64 y.1, .int .i64 y.2]] w fun e w' => e = .returned (.int .i64 (plL l y : Nat)) ∧ Below w.heap.size w w' := by
  have HRD := Lib.hid hrd
  have hlen : l.length = n := hrd.1
  obtain ⟨O, hO⟩ : ∃ O, plL l y = O := ⟨_, rfl⟩
  have HO : Hid (plF l y 0 = O) := by unfold Hid; rw [plF_zero]; exact hO
  rw [hO]
  clear hO hrd
  have hA0 : Hid ((w.alloc (.cells #[.int .u64 y.1, .int .i64 y.2] tId)).heap[w.heap.size]? = some (.cells #[.int .u64 y.1, .int .i64 y.2] tId (0, 0))) := heap_alloc_new w _
  have hAB : Hid (Below w.heap.size w (w.alloc (.cells #[.int .u64 y.1, .int .i64 y.2] tId))) := by unfold Hid; (repeat' (first | (with_reducible exact Below.refl _ _) | (with_reducible assumption) | (with_reducible refine Below.alloc ?_ ?_ _) | (with_reducible refine bel_drewN ?_ _) | (with_reducible refine Below.drew ?_) | (with_reducible refine Below.setCell ?_ ?_ _) | (with_reducible refine bel_call ‹_› ?_ ?_) | go_size))
  go_enter Tryd.func9, Tryd.ntmps9
  go_upto_region 1 with fail
  generalize w.alloc (.cells #[.int .u64 y.1, .int .i64 y.2] tId) = w0 at hA0 hAB ⊢
  have c0 : w0.cell? ⟨w.heap.size, 0, none⟩ = some (.int .u64 y.1) := by rw [cell_of_block hA0.out]; rfl
  have c1 : w0.cell? ⟨w.heap.size, 1, none⟩ = some (.int .i64 y.2) := by rw [cell_of_block hA0.out]; rfl
  clear hA0
  go_wp2_with fail
  go_loopg [5] n (fun g v5 wr => ∃ i : Nat, i + g = n ∧ v5 = .int .i64 i ∧ plF l y i = O ∧ Below w0.heap.size w0 wr)
  case atStart => exact ⟨0, by omega, rfl, HO.out, Below.refl _ _⟩
  case round =>
    obtain ⟨i, hig, rfl, hp, hbel⟩ := hrel
    have HP := Lib.hid hp
    have HBL := Lib.hid hbel
    have hz0 : w.heap.size < w0.heap.size := lt_of_cellB c0
    have d0 := (hbel.cell (p := ⟨w.heap.size, 0, none⟩) hz0).trans c0
    have d1 := (hbel.cell (p := ⟨w.heap.size, 1, none⟩) hz0).trans c1
    have hbw : Hid (Below w.heap.size w wr) := hAB.out.trans (hbel.mono hAB.out.size)
    clear hp hbel c0 c1
    by_cases hlt : i < n
    · have hli : (i : Int) < (n : Int) := by omega
      obtain ⟨b, off, rfl, hb, hx⟩ := HRD.out.some hlt
      obtain ⟨x, hxi⟩ : ∃ x, l[i]? = some x := ⟨_, List.getElem?_eq_getElem (by omega)⟩
      have q0 := (hbw.out.cell (p := ⟨b, off + i * 2, none⟩) hb).trans (hx i x hxi 0 _ rfl)
      have q1 := (hbw.out.cell (p := ⟨b, off + i * 2 + 1, none⟩) hb).trans (hx i x hxi 1 _ rfl)
      have HX := Lib.hid hxi
      have hop := eq_ids x y
      clear hx hxi
      have r0 := cell_regrown d0
      have r1 := cell_regrown d1
      have s0 := cell_regrown q0
      have s1 := cell_regrown q1
      have hBR : ∀ dd os, Below w0.heap.size w0 (Go.Sort.grow (redrawn wr dd) os) := fun dd os => bel_call (below_regrown wr dd os) HBL.out HBL.out.size
      by_cases hxy : x = y
      · have hR : Hid (O = i + 1) := by unfold Hid; rw [← HP.out, plF_hit HX.out hxy]
        rw [decide_eq_true hxy] at hop
        clear hxy
        go_upto_region 4 with fail
        refine wp_region_quiet_below (by kernel_rfl) (by kernel_rfl) ?_
        repeat (go_big_quiet_step (fail))
        refine wpQuiet_nil ?_
        intro _ hw'
        obtain ⟨⟨dz, osz⟩, hw''⟩ := hw'
        subst hw''
        have hBz : Hid (Below w0.heap.size w0 (Go.Sort.grow (redrawn wr dz) osz)) := hBR dz osz
        clear r0 r1 s0 s1 d0 d1 q0 q1 hBR HBL
        go_wp2_with fail
        go_ret
        exact ⟨by rw [hR.out]; rfl, hAB.out.trans (hBz.out.mono hAB.out.size)⟩
      · have hR : Hid (plF l y (i + 1) = O) := by unfold Hid; rw [← HP.out, plF_miss HX.out hxy]
        rw [decide_eq_false hxy] at hop
        clear hxy
        go_upto_region 4 with fail
        refine wp_region_quiet_below (by kernel_rfl) (by kernel_rfl) ?_
        repeat (go_big_quiet_step (fail))
        refine wpQuiet_nil ?_
        intro _ hw'
        obtain ⟨⟨dz, osz⟩, hw''⟩ := hw'
        subst hw''
        have hBz : Hid (Below w0.heap.size w0 (Go.Sort.grow (redrawn wr dz) osz)) := hBR dz osz
        clear r0 r1 s0 s1 d0 d1 q0 q1 hBR HBL
        go_wp2_with fail
        go_roundg (gk - 1)
        case measure => omega
        case rel => exact ⟨i + 1, by omega, by go_num, hR.out, hBz.out⟩
    · obtain rfl : i = n := by omega
      have hli : ¬ (i : Int) < (i : Int) := by omega
      have hR : Hid (O = 0) := by unfold Hid; rw [← HP.out, plF_end (by omega)]
      go_wp2_with fail
      go_ret
      exact ⟨by rw [hR.out]; rfl, hbw.out⟩
end Go.Proofs.YtljloggbfmnjmaaDoor
