/- Script: edits. -/
import Derived.Test.YtddoghjopihkpaaDoorScrE
set_option linter.unusedSimpArgs false
set_option linter.unusedVariables false
namespace Go.Proofs.YtddoghjopihkpaaDoor
open Go.RowKit Go.Joins

theorem st_store {w : World} {b : Nat} {x : Stp} (h : StB w b x) (y : Stp) : StB ((((((((w.setCell ⟨b, 0, none⟩ (.int .i64 y.k)).setCell ⟨b, 1, none⟩ (.int .i64 y.who)).setCell ⟨b, 2, none⟩ (.string ⟨y.cell.toArray⟩)).setCell ⟨b, 3, none⟩ (.string ⟨y.text.toArray⟩)).setCell ⟨b, 4, none⟩ (.bool y.cols)).setCell ⟨b, 5, none⟩ (.int .i64 y.n)).setCell ⟨b, 6, none⟩ (.int .i64 y.tor)).setCell ⟨b, 7, none⟩ (.int .u8 y.bits)) b y := by
  obtain ⟨xk, xw, xc, xt, xo, xn, xr, xb⟩ := x
  have h1 := block_setCell h (.int .i64 y.k) (i := 0)
  simp only [stC, List.setIfInBounds_toArray, List.set_cons_zero] at h1
  have h2 := block_setCell h1 (.int .i64 y.who) (i := 1)
  simp only [List.setIfInBounds_toArray, List.set_cons_zero, List.set_cons_succ] at h2
  have h3 := block_setCell h2 (.string ⟨y.cell.toArray⟩) (i := 2)
  simp only [List.setIfInBounds_toArray, List.set_cons_zero, List.set_cons_succ] at h3
  have h4 := block_setCell h3 (.string ⟨y.text.toArray⟩) (i := 3)
  simp only [List.setIfInBounds_toArray, List.set_cons_zero, List.set_cons_succ] at h4
  have h5 := block_setCell h4 (.bool y.cols) (i := 4)
  simp only [List.setIfInBounds_toArray, List.set_cons_zero, List.set_cons_succ] at h5
  have h6 := block_setCell h5 (.int .i64 y.n) (i := 5)
  simp only [List.setIfInBounds_toArray, List.set_cons_zero, List.set_cons_succ] at h6
  have h7 := block_setCell h6 (.int .i64 y.tor) (i := 6)
  simp only [List.setIfInBounds_toArray, List.set_cons_zero, List.set_cons_succ] at h7
  have h8 := block_setCell h7 (.int .u8 y.bits) (i := 7)
  simp only [List.setIfInBounds_toArray, List.set_cons_zero, List.set_cons_succ] at h8
  exact h8
theorem st_set0 {w : World} {b : Nat} {x : Stp} (h : StB w b x) (z : Int) : StB (w.setCell ⟨b, 0, none⟩ (.int .i64 z)) b { x with k := z } := by
  have h1 := block_setCell h (.int .i64 z) (i := 0)
  simp only [stC, List.setIfInBounds_toArray, List.set_cons_zero] at h1
  exact h1
theorem st_set6 {w : World} {b : Nat} {x : Stp} (h : StB w b x) (z : Int) : StB (w.setCell ⟨b, 6, none⟩ (.int .i64 z)) b { x with tor := z } := by
  have h1 := block_setCell h (.int .i64 z) (i := 6)
  simp only [stC, List.setIfInBounds_toArray, List.set_cons_zero, List.set_cons_succ] at h1
  exact h1
theorem st_other {w : World} {b b' : Nat} {x : Stp} (h : StB w b x) (hne : b ≠ b') (j : Nat) (u : Value) : StB (w.setCell ⟨b', j, none⟩ u) b x := (Below.heap_setCell w _ u b (by show b ≠ b'; exact hne)).trans h
def edS (who : Int) (L : Bs) : Stp × Bool :=
  if wd L = wSet then (⟨0, who, wd (rs L), rs (rs L), false, 0, 0, 0⟩, true)
  else if wd L = wInsert then linesS (rs L) ⟨1, who, [], [], false, 0, 0, 0⟩
  else if wd L = wDelete then linesS (rs L) ⟨2, who, [], [], false, 0, 0, 0⟩
  else if wd L = wSweep then (⟨9, who, [], [], false, 0, 0, 0⟩, decide (L = wSweep))
  else if wd L = wDigest then (match nbs 1 (rs L) with | some l => (⟨7, who, [], [], false, 0, ((l.getD 0 0 : Nat) : Int), 0⟩, true) | none => (⟨0, who, [], [], false, 0, 0, 0⟩, false))
  else if wd L = wAck then (match nbs 1 (rs L) with | some l => (⟨8, who, [], [], false, 0, ((l.getD 0 0 : Nat) : Int), 0⟩, true) | none => (⟨0, who, [], [], false, 0, 0, 0⟩, false))
  else (⟨0, who, [], [], false, 0, 0, 0⟩, false)

set_option maxRecDepth 100000 in
set_option maxHeartbeats 8000000 in
theorem edits_any (who : Int) (L : Bs) (hL : L.length ≤ 100000) (w : World) (hsh : w.ShapedOpen Tryd.prog) :
    Calls Tryd.prog 35 #[.int .i64 who, .string ⟨L.toArray⟩] w fun e w' => e = .returned (.tuple #[.agg (stC (edS who L).1), .bool (edS who L).2]) ∧ Below w.heap.size w w' := by
  have HW := Lib.hid (fun W (hW : Below w.heap.size w W) => word_any L hL W (shaped_bel hsh hW))
  have HN := Lib.hid (fun W (hW : Below w.heap.size w W) => numbers_any 1 (by omega) (rs L) (Nat.le_trans (rs_len L) hL) W (shaped_bel hsh hW))
  have HC := Lib.hid (fun W (hW : Below w.heap.size w W) => cut_any (rs L) (Nat.le_trans (rs_len L) hL) W (shaped_bel hsh hW))
  have HL := Lib.hid (fun x W (hW : Below w.heap.size w W) => lines_any (rs L) (Nat.le_trans (rs_len L) hL) x W (shaped_bel hsh hW))
  obtain ⟨O, hO⟩ : ∃ O, edS who L = O := ⟨_, rfl⟩
  have HO := Lib.hid hO
  unfold edS at HO
  rw [hO]
  have hlen := fun l (h : nbs 1 (rs L) = some l) => nbs_len h
  have hA0 : Hid (StB (w.alloc (.cells (stC st0) tStp)) w.heap.size st0) := heap_alloc_new w _
  have hAB : Hid (Below w.heap.size w (w.alloc (.cells (stC st0) tStp))) := by unfold Hid; (repeat' (first | (with_reducible exact Below.refl _ _) | (with_reducible assumption) | (with_reducible refine Below.alloc ?_ ?_ _) | (with_reducible refine bel_drewN ?_ _) | (with_reducible refine Below.drew ?_) | (with_reducible refine Below.setCell ?_ ?_ _) | (with_reducible refine bel_call ‹_› ?_ ?_) | go_size))
  have hAz : (w.alloc (.cells (stC st0) tStp)).heap.size = w.heap.size + 1 := by simp
  clear hO
  go_enter Tryd.func35, Tryd.ntmps35
  go_upto_region 1 with fail
  have e0 : w.alloc (.cells #[.int .i64 0, .int .i64 0, .string ⟨#[]⟩, .string ⟨#[]⟩, .bool false, .int .i64 0, .int .i64 0, .int .u8 0] tStp) = w.alloc (.cells (stC st0) tStp) := rfl
  rw [e0]
  clear e0
  generalize w.alloc (.cells (stC st0) tStp) = w0 at hA0 hAB hAz ⊢
  go_upto_region 2 with (refine (HW.out w0 hAB.out).mono ?_; rintro e w1 ⟨rfl, hb1⟩)
  have hB1 : Hid (Below w.heap.size w w1) := bel_call hb1 hAB.out (by omega)
  have hC0 := Lib.hid (hA0.out.below hb1)
  have hz1 := hb1.size
  clear hA0 hAB hb1
  generalize hwd : wd L = A at HW HO ⊢
  generalize hR : rs L = R at HN HC HL HO hlen ⊢
  clear hwd hR
  go_upto_region 3 with fail
  have e1 : w1.alloc (.cells #[.int .i64 0, .int .i64 who, .string ⟨#[]⟩, .string ⟨#[]⟩, .bool false, .int .i64 0, .int .i64 0, .int .u8 0] tStp) = w1.alloc (.cells (stC ⟨0, who, [], [], false, 0, 0, 0⟩) tStp) := rfl
  rw [e1]
  clear e1
  have hD0 : Hid (StB (w1.alloc (.cells (stC ⟨0, who, [], [], false, 0, 0, 0⟩) tStp)) w.heap.size st0) := hC0.out.below (by (repeat' (first | (with_reducible exact Below.refl _ _) | (with_reducible assumption) | (with_reducible refine Below.alloc ?_ ?_ _) | (with_reducible refine bel_drewN ?_ _) | (with_reducible refine Below.drew ?_) | (with_reducible refine Below.setCell ?_ ?_ _) | (with_reducible refine bel_call ‹_› ?_ ?_) | go_size)))
  have hD1 : Hid (StB (w1.alloc (.cells (stC ⟨0, who, [], [], false, 0, 0, 0⟩) tStp)) w1.heap.size ⟨0, who, [], [], false, 0, 0, 0⟩) := heap_alloc_new w1 _
  have hB2 : Hid (Below w.heap.size w (w1.alloc (.cells (stC ⟨0, who, [], [], false, 0, 0, 0⟩) tStp))) := hB1.out.alloc (by omega) _
  have hz2 : (w1.alloc (.cells (stC ⟨0, who, [], [], false, 0, 0, 0⟩) tStp)).heap.size = w1.heap.size + 1 := by simp
  generalize w1.alloc (.cells (stC ⟨0, who, [], [], false, 0, 0, 0⟩) tStp) = w2 at hD0 hD1 hB2 hz2 ⊢
  have hbb : w.heap.size + 1 ≤ w1.heap.size := by omega
  clear hC0 hB1 HW
  generalize w1.heap.size = bb at hD1 hz2 hbb ⊢
  clear hz1
  obtain ⟨c0, c1, c2, c3, c4, c5, c6, c7⟩ := hD0.out.cells
  obtain ⟨d0, d1, d2, d3, d4, d5, d6, d7⟩ := hD1.out.cells
  obtain ⟨f0, f1, f2, f3, f4, f5, f6, f7⟩ := hD0.out.fz
  obtain ⟨g0, g1, g2, g3, g4, g5, g6, g7⟩ := hD1.out.fz
  simp only at d0 d1 d2 d3 d4 d5 d6 d7
  by_cases hA : A = wSet
  · subst hA
    have HO2 : Hid (O = (⟨0, who, wd R, rs R, false, 0, 0, 0⟩, true)) := by unfold Hid; rw [← HO.out]; rfl
    clear HO HN HL hlen
    go_wp2_with fail
    refine (HC.out _ (by have := hB2.out; (repeat' (first | (with_reducible exact Below.refl _ _) | (with_reducible assumption) | (with_reducible refine Below.alloc ?_ ?_ _) | (with_reducible refine bel_drewN ?_ _) | (with_reducible refine Below.drew ?_) | (with_reducible refine Below.setCell ?_ ?_ _) | (with_reducible refine bel_call ‹_› ?_ ?_) | go_size)))).mono ?_
    rintro e w3 ⟨⟨q, rfl⟩, hb3⟩
    obtain ⟨hc3, hf3, hz3⟩ := bcell hb3 (by first | (simp only [World.size_alloc, World.size_setCell, World.size_drew]; rfl) | rfl)
    go_wp2_with fail
    refine bodyPost_ret (v := .tuple #[.agg (stC ⟨0, who, wd R, rs R, false, 0, 0, 0⟩), .bool true]) (by simp only [results, Tryd.results35]; go_simp; rfl) rfl ⟨?_, by have := hB2.out; (repeat' (first | (with_reducible exact Below.refl _ _) | (with_reducible assumption) | (with_reducible refine Below.alloc ?_ ?_ _) | (with_reducible refine bel_drewN ?_ _) | (with_reducible refine Below.drew ?_) | (with_reducible refine Below.setCell ?_ ?_ _) | (with_reducible refine bel_call ‹_› ?_ ?_) | go_size))⟩
    rw [HO2.out]
  · have xSet := hA
    clear hA
    by_cases hA : A = wInsert
    · subst hA
      have HO2 : Hid (O = linesS R ⟨1, who, [], [], false, 0, 0, 0⟩) := by unfold Hid; rw [← HO.out]; rfl
      have HL2 := Lib.hid (HL.out ⟨1, who, [], [], false, 0, 0, 0⟩)
      generalize linesS R ⟨1, who, [], [], false, 0, 0, 0⟩ = Y at HO2 HL2
      obtain ⟨y, ok⟩ := Y
      clear HO HN HC HL hlen
      go_wp2_with fail
      refine (HL2.out _ (by have := hB2.out; (repeat' (first | (with_reducible exact Below.refl _ _) | (with_reducible assumption) | (with_reducible refine Below.alloc ?_ ?_ _) | (with_reducible refine bel_drewN ?_ _) | (with_reducible refine Below.drew ?_) | (with_reducible refine Below.setCell ?_ ?_ _) | (with_reducible refine bel_call ‹_› ?_ ?_) | go_size)))).mono ?_
      rintro e w3 ⟨rfl, hb3⟩
      obtain ⟨hc3, hf3, hz3⟩ := bcell hb3 (by first | (simp only [World.size_alloc, World.size_setCell, World.size_drew]; rfl) | rfl)
      unfold stC
      go_wp2_with fail
      refine bodyPost_ret (v := .tuple #[.agg (stC y), .bool ok]) (by simp only [results, Tryd.results35]; go_simp; rfl) rfl ⟨?_, by have := hB2.out; (repeat' (first | (with_reducible exact Below.refl _ _) | (with_reducible assumption) | (with_reducible refine Below.alloc ?_ ?_ _) | (with_reducible refine bel_drewN ?_ _) | (with_reducible refine Below.drew ?_) | (with_reducible refine Below.setCell ?_ ?_ _) | (with_reducible refine bel_call ‹_› ?_ ?_) | go_size))⟩
      rw [HO2.out]
    · have xInsert := hA
      clear hA
      by_cases hA : A = wDelete
      · subst hA
        have HO2 : Hid (O = linesS R ⟨2, who, [], [], false, 0, 0, 0⟩) := by unfold Hid; rw [← HO.out]; rfl
        have HL2 := Lib.hid (HL.out ⟨2, who, [], [], false, 0, 0, 0⟩)
        generalize linesS R ⟨2, who, [], [], false, 0, 0, 0⟩ = Y at HO2 HL2
        obtain ⟨y, ok⟩ := Y
        clear HO HN HC HL hlen
        go_wp2_with fail
        refine (HL2.out _ (by have := hB2.out; (repeat' (first | (with_reducible exact Below.refl _ _) | (with_reducible assumption) | (with_reducible refine Below.alloc ?_ ?_ _) | (with_reducible refine bel_drewN ?_ _) | (with_reducible refine Below.drew ?_) | (with_reducible refine Below.setCell ?_ ?_ _) | (with_reducible refine bel_call ‹_› ?_ ?_) | go_size)))).mono ?_
        rintro e w3 ⟨rfl, hb3⟩
        obtain ⟨hc3, hf3, hz3⟩ := bcell hb3 (by first | (simp only [World.size_alloc, World.size_setCell, World.size_drew]; rfl) | rfl)
        unfold stC
        go_wp2_with fail
        refine bodyPost_ret (v := .tuple #[.agg (stC y), .bool ok]) (by simp only [results, Tryd.results35]; go_simp; rfl) rfl ⟨?_, by have := hB2.out; (repeat' (first | (with_reducible exact Below.refl _ _) | (with_reducible assumption) | (with_reducible refine Below.alloc ?_ ?_ _) | (with_reducible refine bel_drewN ?_ _) | (with_reducible refine Below.drew ?_) | (with_reducible refine Below.setCell ?_ ?_ _) | (with_reducible refine bel_call ‹_› ?_ ?_) | go_size))⟩
        rw [HO2.out]
      · have xDelete := hA
        clear hA
        by_cases hA : A = wSweep
        · subst hA
          have HO2 : Hid (O = (⟨9, who, [], [], false, 0, 0, 0⟩, decide (L = wSweep))) := by unfold Hid; rw [← HO.out]; rfl
          clear HO HN HC HL hlen
          by_cases hs : L = wSweep
          · subst hs
            go_wp2_with fail
            refine bodyPost_ret (v := .tuple #[.agg (stC ⟨9, who, [], [], false, 0, 0, 0⟩), .bool true]) (by simp only [results, Tryd.results35]; go_simp; rfl) rfl ⟨?_, by have := hB2.out; (repeat' (first | (with_reducible exact Below.refl _ _) | (with_reducible assumption) | (with_reducible refine Below.alloc ?_ ?_ _) | (with_reducible refine bel_drewN ?_ _) | (with_reducible refine Below.drew ?_) | (with_reducible refine Below.setCell ?_ ?_ _) | (with_reducible refine bel_call ‹_› ?_ ?_) | go_size))⟩
            rw [HO2.out]
            rfl
          · have e9 : ((⟨L.toArray⟩ : ByteArray).toList == [115, 119, 101, 101, 112]) = false := seq_no L _ hs
            rw [decide_eq_false hs] at HO2
            clear hs
            generalize (⟨L.toArray⟩ : ByteArray) = X at e9 ⊢
            go_wp2_with fail
            refine bodyPost_ret (v := .tuple #[.agg (stC ⟨9, who, [], [], false, 0, 0, 0⟩), .bool false]) (by simp only [results, Tryd.results35]; go_simp; rfl) rfl ⟨?_, by have := hB2.out; (repeat' (first | (with_reducible exact Below.refl _ _) | (with_reducible assumption) | (with_reducible refine Below.alloc ?_ ?_ _) | (with_reducible refine bel_drewN ?_ _) | (with_reducible refine Below.drew ?_) | (with_reducible refine Below.setCell ?_ ?_ _) | (with_reducible refine bel_call ‹_› ?_ ?_) | go_size))⟩
            rw [HO2.out]
        · have xSweep := hA
          clear hA
          by_cases hA : A = wDigest
          · subst hA
            have HO2 : Hid (O = match nbs 1 R with | some l => (⟨7, who, [], [], false, 0, ((l.getD 0 0 : Nat) : Int), 0⟩, true) | none => (⟨0, who, [], [], false, 0, 0, 0⟩, false)) := by unfold Hid; rw [← HO.out]; rfl
            clear HO HC HL
            generalize nbs 1 R = N at HO2 HN hlen
            go_wp2_with fail
            refine (HN.out _ (by have := hB2.out; (repeat' (first | (with_reducible exact Below.refl _ _) | (with_reducible assumption) | (with_reducible refine Below.alloc ?_ ?_ _) | (with_reducible refine bel_drewN ?_ _) | (with_reducible refine Below.drew ?_) | (with_reducible refine Below.setCell ?_ ?_ _) | (with_reducible refine bel_call ‹_› ?_ ?_) | go_size)))).mono ?_
            rintro e w3 ⟨hnum, hb3⟩
            obtain ⟨hc3, hf3, hz3⟩ := bcell hb3 (by first | (simp only [World.size_alloc, World.size_setCell, World.size_drew]; rfl) | rfl)
            cases N with
            | none =>
              have hnum : e = .returned (.tuple #[.slice none 0 0, .bool false]) := hnum
              subst hnum
              clear hlen
              go_wp2_with fail
              refine bodyPost_ret (v := .tuple #[.agg (stC ⟨0, who, [], [], false, 0, 0, 0⟩), .bool false]) (by simp only [results, Tryd.results35]; go_simp; rfl) rfl ⟨?_, by have := hB2.out; (repeat' (first | (with_reducible exact Below.refl _ _) | (with_reducible assumption) | (with_reducible refine Below.alloc ?_ ?_ _) | (with_reducible refine bel_drewN ?_ _) | (with_reducible refine Below.drew ?_) | (with_reducible refine Below.setCell ?_ ?_ _) | (with_reducible refine bel_call ‹_› ?_ ?_) | go_size))⟩
              rw [HO2.out]
            | some l =>
              have hll := hlen l rfl
              have hnum : ∃ p cap, e = .returned (.tuple #[.slice p l.length cap, .bool true]) ∧ RdG inE 1 w3 p l.length l ∧ ∀ a, p = some a → w2.heap.size ≤ a.block := hnum
              obtain ⟨p, cap, rfl, hrd, hpa⟩ := hnum
              obtain ⟨bi, oi, rfl, hbi, hi0⟩ := int_at hrd (j := 0) (by omega)
              have hbn : bb + 1 ≤ bi := by have := hpa _ rfl; simp only at this; omega
              have hi0 : w3.cell? ⟨bi, oi, none⟩ = some (.int .i64 ((l.getD 0 0 : Nat) : Int)) := hi0
              have HO3 : Hid (O = (⟨7, who, [], [], false, 0, ((l.getD 0 0 : Nat) : Int), 0⟩, true)) := HO2.out
              rw [hll]
              clear HO2 hrd hpa hlen
              generalize l.getD 0 0 = m at hi0 HO3
              have HO2 := HO3
              clear HO3
              go_wp2_with fail
              go_region
              all_goals
                go_wp2_with fail
                refine bodyPost_ret (v := .tuple #[.agg (stC ⟨7, who, [], [], false, 0, (m : Int), 0⟩), .bool true]) (by simp only [results, Tryd.results35]; go_simp; rfl) rfl ⟨?_, by have := hB2.out; (repeat' (first | (with_reducible exact Below.refl _ _) | (with_reducible assumption) | (with_reducible refine Below.alloc ?_ ?_ _) | (with_reducible refine bel_drewN ?_ _) | (with_reducible refine Below.drew ?_) | (with_reducible refine Below.setCell ?_ ?_ _) | (with_reducible refine bel_call ‹_› ?_ ?_) | go_size))⟩
                rw [HO2.out]
          · have xDigest := hA
            clear hA
            by_cases hA : A = wAck
            · subst hA
              have HO2 : Hid (O = match nbs 1 R with | some l => (⟨8, who, [], [], false, 0, ((l.getD 0 0 : Nat) : Int), 0⟩, true) | none => (⟨0, who, [], [], false, 0, 0, 0⟩, false)) := by unfold Hid; rw [← HO.out]; rfl
              clear HO HC HL
              generalize nbs 1 R = N at HO2 HN hlen
              go_wp2_with fail
              refine (HN.out _ (by have := hB2.out; (repeat' (first | (with_reducible exact Below.refl _ _) | (with_reducible assumption) | (with_reducible refine Below.alloc ?_ ?_ _) | (with_reducible refine bel_drewN ?_ _) | (with_reducible refine Below.drew ?_) | (with_reducible refine Below.setCell ?_ ?_ _) | (with_reducible refine bel_call ‹_› ?_ ?_) | go_size)))).mono ?_
              rintro e w3 ⟨hnum, hb3⟩
              obtain ⟨hc3, hf3, hz3⟩ := bcell hb3 (by first | (simp only [World.size_alloc, World.size_setCell, World.size_drew]; rfl) | rfl)
              cases N with
              | none =>
                have hnum : e = .returned (.tuple #[.slice none 0 0, .bool false]) := hnum
                subst hnum
                clear hlen
                go_wp2_with fail
                refine bodyPost_ret (v := .tuple #[.agg (stC ⟨0, who, [], [], false, 0, 0, 0⟩), .bool false]) (by simp only [results, Tryd.results35]; go_simp; rfl) rfl ⟨?_, by have := hB2.out; (repeat' (first | (with_reducible exact Below.refl _ _) | (with_reducible assumption) | (with_reducible refine Below.alloc ?_ ?_ _) | (with_reducible refine bel_drewN ?_ _) | (with_reducible refine Below.drew ?_) | (with_reducible refine Below.setCell ?_ ?_ _) | (with_reducible refine bel_call ‹_› ?_ ?_) | go_size))⟩
                rw [HO2.out]
              | some l =>
                have hll := hlen l rfl
                have hnum : ∃ p cap, e = .returned (.tuple #[.slice p l.length cap, .bool true]) ∧ RdG inE 1 w3 p l.length l ∧ ∀ a, p = some a → w2.heap.size ≤ a.block := hnum
                obtain ⟨p, cap, rfl, hrd, hpa⟩ := hnum
                obtain ⟨bi, oi, rfl, hbi, hi0⟩ := int_at hrd (j := 0) (by omega)
                have hbn : bb + 1 ≤ bi := by have := hpa _ rfl; simp only at this; omega
                have hi0 : w3.cell? ⟨bi, oi, none⟩ = some (.int .i64 ((l.getD 0 0 : Nat) : Int)) := hi0
                have HO3 : Hid (O = (⟨8, who, [], [], false, 0, ((l.getD 0 0 : Nat) : Int), 0⟩, true)) := HO2.out
                rw [hll]
                clear HO2 hrd hpa hlen
                generalize l.getD 0 0 = m at hi0 HO3
                have HO2 := HO3
                clear HO3
                go_wp2_with fail
                go_region
                all_goals
                  go_upto_region 23 with fail
                  have hE1 : StB (((w3.setCell ⟨bb, 0, none⟩ (.int .i64 7)).setCell ⟨bb, 6, none⟩ (.int .i64 (m : Int))).drew) bb ⟨7, who, [], [], false, 0, (m : Int), 0⟩ := st_set6 (st_set0 (hD1.out.below hb3) 7) (m : Int)
                  have hE0 : StB (((w3.setCell ⟨bb, 0, none⟩ (.int .i64 7)).setCell ⟨bb, 6, none⟩ (.int .i64 (m : Int))).drew) w.heap.size st0 := st_other (st_other (hD0.out.below hb3) (by omega) 0 _) (by omega) 6 _
                  have hB4 : Hid (Below w.heap.size w (((w3.setCell ⟨bb, 0, none⟩ (.int .i64 7)).setCell ⟨bb, 6, none⟩ (.int .i64 (m : Int))).drew)) := by
                    have := hB2.out
                    unfold Hid
                    (repeat' (first | (with_reducible exact Below.refl _ _) | (with_reducible assumption) | (with_reducible refine Below.alloc ?_ ?_ _) | (with_reducible refine bel_drewN ?_ _) | (with_reducible refine Below.drew ?_) | (with_reducible refine Below.setCell ?_ ?_ _) | (with_reducible refine bel_call ‹_› ?_ ?_) | go_size))
                  have hz4 : (((w3.setCell ⟨bb, 0, none⟩ (.int .i64 7)).setCell ⟨bb, 6, none⟩ (.int .i64 (m : Int))).drew).heap.size = w3.heap.size := by simp
                  have hz3' := hb3.size
                  clear c0 c1 c2 c3 c4 c5 c6 c7 d0 d1 d2 d3 d4 d5 d6 d7 f0 f1 f2 f3 f4 f5 f6 f7 g0 g1 g2 g3 g4 g5 g6 g7 hi0 hc3 hf3 hz3
                  generalize ((w3.setCell ⟨bb, 0, none⟩ (.int .i64 7)).setCell ⟨bb, 6, none⟩ (.int .i64 (m : Int))).drew = w4 at hE1 hE0 hB4 hz4 ⊢
                  obtain ⟨c0, c1, c2, c3, c4, c5, c6, c7⟩ := hE0.cells
                  obtain ⟨d0, d1, d2, d3, d4, d5, d6, d7⟩ := hE1.cells
                  obtain ⟨f0, f1, f2, f3, f4, f5, f6, f7⟩ := hE0.fz
                  obtain ⟨g0, g1, g2, g3, g4, g5, g6, g7⟩ := hE1.fz
                  simp only at d0 d1 d2 d3 d4 d5 d6 d7
                  go_wp2_with fail
                  refine bodyPost_ret (v := .tuple #[.agg (stC ⟨8, who, [], [], false, 0, (m : Int), 0⟩), .bool true]) (by simp only [results, Tryd.results35]; go_simp; rfl) rfl ⟨?_, by have := hB4.out; (repeat' (first | (with_reducible exact Below.refl _ _) | (with_reducible assumption) | (with_reducible refine Below.alloc ?_ ?_ _) | (with_reducible refine bel_drewN ?_ _) | (with_reducible refine Below.drew ?_) | (with_reducible refine Below.setCell ?_ ?_ _) | (with_reducible refine bel_call ‹_› ?_ ?_) | go_size))⟩
                  rw [HO2.out]
            · have xAck := hA
              clear hA
              have HO2 : Hid (O = (⟨0, who, [], [], false, 0, 0, 0⟩, false)) := by unfold Hid; rw [← HO.out, if_neg xSet, if_neg xInsert, if_neg xDelete, if_neg xSweep, if_neg xDigest, if_neg xAck]
              have ySet : ((⟨A.toArray⟩ : ByteArray).toList == [115, 101, 116]) = false := seq_no A _ xSet
              have yInsert : ((⟨A.toArray⟩ : ByteArray).toList == [105, 110, 115, 101, 114, 116]) = false := seq_no A _ xInsert
              have yDelete : ((⟨A.toArray⟩ : ByteArray).toList == [100, 101, 108, 101, 116, 101]) = false := seq_no A _ xDelete
              have ySweep : ((⟨A.toArray⟩ : ByteArray).toList == [115, 119, 101, 101, 112]) = false := seq_no A _ xSweep
              have yDigest : ((⟨A.toArray⟩ : ByteArray).toList == [100, 105, 103, 101, 115, 116]) = false := seq_no A _ xDigest
              have yAck : ((⟨A.toArray⟩ : ByteArray).toList == [97, 99, 107]) = false := seq_no A _ xAck
              clear HO HN HC HL hlen xSet xInsert xDelete xSweep xDigest xAck
              generalize (⟨A.toArray⟩ : ByteArray) = X at ySet yInsert yDelete ySweep yDigest yAck ⊢
              go_wp2_with fail
              refine bodyPost_ret (v := .tuple #[.agg (stC ⟨0, who, [], [], false, 0, 0, 0⟩), .bool false]) (by simp only [results, Tryd.results35]; go_simp; rfl) rfl ⟨?_, by have := hB2.out; (repeat' (first | (with_reducible exact Below.refl _ _) | (with_reducible assumption) | (with_reducible refine Below.alloc ?_ ?_ _) | (with_reducible refine bel_drewN ?_ _) | (with_reducible refine Below.drew ?_) | (with_reducible refine Below.setCell ?_ ?_ _) | (with_reducible refine bel_call ‹_› ?_ ?_) | go_size))⟩
              rw [HO2.out]
end Go.Proofs.YtddoghjopihkpaaDoor
