/- Wire: the document's reader: pair. -/
import Derived.Test.YtljloggbfmnjmaaDoorWirG
set_option linter.unusedSimpArgs false
set_option linter.unusedVariables false
namespace Go.Proofs.YtljloggbfmnjmaaDoor
open Go.RowKit Go.Joins

abbrev tPr : TypeId := 28
/-- Two stamps. -/
def prR (S : Option (List UInt8)) : (Idp × Idp) × Option (List UInt8) := (((stR S).1, (stR (stR S).2).1), (stR (stR S).2).2)
def PrP (b : Nat) (R : (Idp × Idp) × Option (List UInt8)) (w : World) (e : Ending) (w' : World) : Prop := e = .returned (.agg #[.int .u64 R.1.1.1, .int .i64 R.1.1.2, .int .u64 R.1.2.1, .int .i64 R.1.2.2]) ∧ RRd w' b R.2 ∧ Off b w w'
theorem RRd.low {w w' : World} {b : Nat} {S : Option (List UInt8)} (h : RRd w b S) (hb : Below (b + 1) w w') : RRd w' b S := by
  obtain ⟨p, n, cap, bad, L, h1, h2, h3, h4⟩ := h
  obtain ⟨h5, h6, h7, h8⟩ := h3
  refine ⟨p, n, cap, bad, L, (hb.block b (by omega)).trans h1, h2, ⟨h5, h6, h7, ?_⟩, h4⟩
  rcases h8 with h8 | ⟨c, off, h9, h10, h11, h12⟩
  · exact .inl h8
  · refine .inr ⟨c, off, h9, h10, Nat.lt_of_lt_of_le h11 hb.size, fun j hj => ?_⟩
    rw [← h12 j hj]
    exact hb.cell (p := ⟨c, off + j, none⟩) (by show c < b + 1; omega)
set_option maxRecDepth 100000 in
set_option maxHeartbeats 4000000 in
theorem rpair_any (b : Nat) (S : Option (List UInt8)) (w : World) (h : RRd w b S) (R : (Idp × Idp) × Option (List UInt8)) (hR : prR S = R) :
    Calls Tryd.prog 33 #[.pointer (some ⟨b, 0, none⟩)] w (PrP b R w) := by
  have H := Lib.hid h
  have HR := Lib.hid hR
  have hlt := h.lt
  clear h hR
  go_enter Tryd.func33, Tryd.ntmps33
  go_wp2_with fail
  have hw1 : Below w.heap.size w (w.alloc (.cells #[.int .u64 0, .int .i64 0, .int .u64 0, .int .i64 0] tPr)) := by (repeat' (first | (with_reducible exact Below.refl _ _) | (with_reducible assumption) | (with_reducible refine Below.alloc ?_ ?_ _) | (with_reducible refine bel_drewN ?_ _) | (with_reducible refine Below.drew ?_) | (with_reducible refine Below.setCell ?_ ?_ _) | (with_reducible refine bel_call ‹_› ?_ ?_) | go_size))
  have hQ0 := Lib.hid (((blk_new w #[.int .u64 0, .int .i64 0, .int .u64 0, .int .i64 0] tPr) : BlkC (w.alloc (.cells #[.int .u64 0, .int .i64 0, .int .u64 0, .int .i64 0] tPr)) w.heap.size #[.int .u64 0, .int .i64 0, .int .u64 0, .int .i64 0] tPr).below ((Below.refl _ _).alloc (Nat.le_refl _) (.cells #[.int .u64 0, .int .i64 0, .int .u64 0, .int .i64 0] tPr)))
  have hA0 := Lib.hid (blk_new (w.alloc (.cells #[.int .u64 0, .int .i64 0, .int .u64 0, .int .i64 0] tPr)) #[.int .u64 0, .int .i64 0, .int .u64 0, .int .i64 0] tPr)
  rw [World.size_alloc] at hA0
  have hAB : Below w.heap.size w ((w.alloc (.cells #[.int .u64 0, .int .i64 0, .int .u64 0, .int .i64 0] tPr)).alloc (.cells #[.int .u64 0, .int .i64 0, .int .u64 0, .int .i64 0] tPr)) := by (repeat' (first | (with_reducible exact Below.refl _ _) | (with_reducible assumption) | (with_reducible refine Below.alloc ?_ ?_ _) | (with_reducible refine bel_drewN ?_ _) | (with_reducible refine Below.drew ?_) | (with_reducible refine Below.setCell ?_ ?_ _) | (with_reducible refine bel_call ‹_› ?_ ?_) | go_size))
  have hrd0 := Lib.hid (H.out.below hAB)
  have hO0 := Lib.hid (Off.of_below (b := b) hAB)
  clear hAB H hw1
  go_loopg [4] 2 (fun gm v4 wr => ∃ (i : Nat) (x y : Idp) (T : Option (List UInt8)), i + gm = 2 ∧ v4 = .int .i64 i ∧ BlkC wr w.heap.size #[.int .u64 0, .int .i64 0, .int .u64 0, .int .i64 0] tPr ∧ BlkC wr (w.heap.size + 1) #[.int .u64 x.1, .int .i64 x.2, .int .u64 y.1, .int .i64 y.2] tPr ∧ RRd wr b T ∧ Off b w wr ∧ ((i = 0 ∧ T = S) ∨ (i = 1 ∧ x = (stR S).1 ∧ T = (stR S).2) ∨ (i = 2 ∧ ((x, y), T) = R)))
  case atStart => exact ⟨0, (0, 0), (0, 0), S, by omega, rfl, hQ0.out, hA0.out, hrd0.out, hO0.out, .inl ⟨rfl, rfl⟩⟩
  case round =>
    obtain ⟨i, x, y, T, hig, rfl, hQ, hA, hrd, ho, hst⟩ := hrel
    have HQ := Lib.hid hQ
    clear hQ
    have HA := Lib.hid hA
    have HO := Lib.hid ho
    have HN := Lib.hid (rnumr_any b T 18446744073709551615 wr hrd (numR T) (intR_num T))
    have HST := Lib.hid hst
    clear hA ho hst
    rcases HST.out with ⟨rfl, hT⟩ | ⟨rfl, hx, hT⟩ | ⟨rfl, hT⟩
    · clear hrd
      have HT := Lib.hid hT
      clear HST hT
      go_wp2_with fail
      refine HN.out.mono ?_
      rintro e w3 ⟨rfl, hrd, hoff⟩
      have HI := Lib.hid (rnumr_any b (numR T).2 64 w3 hrd (intR 64 (numR T).2) rfl)
      have HA3 : Hid (BlkC w3 (w.heap.size + 1) #[.int .u64 x.1, .int .i64 x.2, .int .u64 y.1, .int .i64 y.2] tPr) := hoff.blk (by omega) HA.out
      have HQ3 : Hid (BlkC w3 w.heap.size #[.int .u64 0, .int .i64 0, .int .u64 0, .int .i64 0] tPr) := hoff.blk (by omega) HQ.out
      have HO3 := Lib.hid (HO.out.trans hoff)
      clear hrd hoff HN HA HO
      go_wp2_with fail
      refine HI.out.mono ?_
      rintro e w4 ⟨rfl, hrd, hoff⟩
      have hle := intR_le 64 (numR T).2
      have hw : IntKind.i64.wrap ((intR 64 (numR T).2).1 : Nat) = ((intR 64 (numR T).2).1 : Nat) := IntWalk.i64_in _ (by omega)
      have HA4 : Hid (BlkC w4 (w.heap.size + 1) #[.int .u64 x.1, .int .i64 x.2, .int .u64 y.1, .int .i64 y.2] tPr) := hoff.blk (by omega) HA3.out
      have HQ4 : Hid (BlkC w4 w.heap.size #[.int .u64 0, .int .i64 0, .int .u64 0, .int .i64 0] tPr) := hoff.blk (by omega) HQ3.out
      have HO4 := Lib.hid (HO3.out.trans hoff)
      have HRD4 := Lib.hid hrd
      clear hrd hoff HI HA3 HO3
      have c0 : w4.cell? ⟨w.heap.size + 1, 0, none⟩ = some (.int .u64 x.1) := HA4.out.cell 0 _ rfl
      have c1 : w4.cell? ⟨w.heap.size + 1, 1, none⟩ = some (.int .i64 x.2) := HA4.out.cell 1 _ rfl
      have f0 := HA4.out.fz 0
      have f1 := HA4.out.fz 1
      go_wp2_with fail
      go_roundg (gk - 1)
      case measure => omega
      case rel =>
        have HB5 : Below (b + 1) w4 ((w4.setCell ⟨w.heap.size + 1, 0, none⟩ (.int .u64 ((numR T).1 : Nat))).setCell ⟨w.heap.size + 1, 1, none⟩ (.int .i64 ((intR 64 (numR T).2).1 : Nat))) := ((Below.refl _ _).setCell (by show b + 1 ≤ w.heap.size + 1; omega) _).setCell (by show b + 1 ≤ w.heap.size + 1; omega) _
        refine ⟨1, (((numR T).1 : Nat), ((intR 64 (numR T).2).1 : Nat)), y, (intR 64 (numR T).2).2, by omega, by go_num, (heap_setCell_other _ _ _ _ (by show w.heap.size ≠ w.heap.size + 1; omega)).trans ((heap_setCell_other _ _ _ _ (by show w.heap.size ≠ w.heap.size + 1; omega)).trans HQ4.out), block_setCell (block_setCell HA4.out _) _, HRD4.out.low HB5, (HO4.out.set_new (by omega) _ _).set_new (by omega) _ _, .inr (.inl ⟨rfl, by rw [HT.out]; rfl, by rw [HT.out]; rfl⟩)⟩
    · clear hrd
      have HT := Lib.hid hT
      have HX := Lib.hid hx
      clear HST hT
      go_wp2_with fail
      refine HN.out.mono ?_
      rintro e w3 ⟨rfl, hrd, hoff⟩
      have HI := Lib.hid (rnumr_any b (numR T).2 64 w3 hrd (intR 64 (numR T).2) rfl)
      have HA3 : Hid (BlkC w3 (w.heap.size + 1) #[.int .u64 x.1, .int .i64 x.2, .int .u64 y.1, .int .i64 y.2] tPr) := hoff.blk (by omega) HA.out
      have HQ3 : Hid (BlkC w3 w.heap.size #[.int .u64 0, .int .i64 0, .int .u64 0, .int .i64 0] tPr) := hoff.blk (by omega) HQ.out
      have HO3 := Lib.hid (HO.out.trans hoff)
      clear hrd hoff HN HA HO
      go_wp2_with fail
      refine HI.out.mono ?_
      rintro e w4 ⟨rfl, hrd, hoff⟩
      have hle := intR_le 64 (numR T).2
      have hw : IntKind.i64.wrap ((intR 64 (numR T).2).1 : Nat) = ((intR 64 (numR T).2).1 : Nat) := IntWalk.i64_in _ (by omega)
      have HA4 : Hid (BlkC w4 (w.heap.size + 1) #[.int .u64 x.1, .int .i64 x.2, .int .u64 y.1, .int .i64 y.2] tPr) := hoff.blk (by omega) HA3.out
      have HQ4 : Hid (BlkC w4 w.heap.size #[.int .u64 0, .int .i64 0, .int .u64 0, .int .i64 0] tPr) := hoff.blk (by omega) HQ3.out
      have HO4 := Lib.hid (HO3.out.trans hoff)
      have HRD4 := Lib.hid hrd
      clear hrd hoff HI HA3 HO3
      have c0 : w4.cell? ⟨w.heap.size + 1, 2, none⟩ = some (.int .u64 y.1) := HA4.out.cell 2 _ rfl
      have c1 : w4.cell? ⟨w.heap.size + 1, 3, none⟩ = some (.int .i64 y.2) := HA4.out.cell 3 _ rfl
      have f0 := HA4.out.fz 2
      have f1 := HA4.out.fz 3
      go_wp2_with fail
      go_roundg (gk - 1)
      case measure => omega
      case rel =>
        have HB5 : Below (b + 1) w4 ((w4.setCell ⟨w.heap.size + 1, 2, none⟩ (.int .u64 ((numR T).1 : Nat))).setCell ⟨w.heap.size + 1, 3, none⟩ (.int .i64 ((intR 64 (numR T).2).1 : Nat))) := ((Below.refl _ _).setCell (by show b + 1 ≤ w.heap.size + 1; omega) _).setCell (by show b + 1 ≤ w.heap.size + 1; omega) _
        refine ⟨2, x, (((numR T).1 : Nat), ((intR 64 (numR T).2).1 : Nat)), (intR 64 (numR T).2).2, by omega, by go_num, (heap_setCell_other _ _ _ _ (by show w.heap.size ≠ w.heap.size + 1; omega)).trans ((heap_setCell_other _ _ _ _ (by show w.heap.size ≠ w.heap.size + 1; omega)).trans HQ4.out), block_setCell (block_setCell HA4.out _) _, HRD4.out.low HB5, (HO4.out.set_new (by omega) _ _).set_new (by omega) _ _, .inr (.inr ⟨rfl, by rw [← HR.out, HX.out, HT.out]; rfl⟩)⟩
    · have HR2 := Lib.hid hT
      clear HST HN hT
      have c0 : wr.cell? ⟨w.heap.size + 1, 0, none⟩ = some (.int .u64 x.1) := HA.out.cell 0 _ rfl
      have c1 : wr.cell? ⟨w.heap.size + 1, 1, none⟩ = some (.int .i64 x.2) := HA.out.cell 1 _ rfl
      have c2 : wr.cell? ⟨w.heap.size + 1, 2, none⟩ = some (.int .u64 y.1) := HA.out.cell 2 _ rfl
      have c3 : wr.cell? ⟨w.heap.size + 1, 3, none⟩ = some (.int .i64 y.2) := HA.out.cell 3 _ rfl
      have HRD := Lib.hid hrd
      clear hrd
      have e0 : wr.cell? ⟨w.heap.size, 0, none⟩ = some (.int .u64 0) := HQ.out.cell 0 _ rfl
      have e1 : wr.cell? ⟨w.heap.size, 1, none⟩ = some (.int .i64 0) := HQ.out.cell 1 _ rfl
      have e2 : wr.cell? ⟨w.heap.size, 2, none⟩ = some (.int .u64 0) := HQ.out.cell 2 _ rfl
      have e3 : wr.cell? ⟨w.heap.size, 3, none⟩ = some (.int .i64 0) := HQ.out.cell 3 _ rfl
      have g0 := HQ.out.fz 0
      have g1 := HQ.out.fz 1
      have g2 := HQ.out.fz 2
      have g3 := HQ.out.fz 3
      go_wp2_with fail
      refine bodyPost_ret (v := .agg #[.int .u64 x.1, .int .i64 x.2, .int .u64 y.1, .int .i64 y.2]) (by simp only [results, Tryd.results33]; go_simp) rfl ?_
      rw [← HR2.out]
      have hbl : b + 1 ≤ w.heap.size := by omega
      refine ⟨rfl, HRD.out.low ?_, ?_⟩
      · exact (((Below.refl _ _).setCell hbl _).setCell hbl _).setCell hbl _ |>.setCell hbl _
      · exact (((HO.out.set_new (Nat.le_refl _) _ _).set_new (Nat.le_refl _) _ _).set_new (Nat.le_refl _) _ _).set_new (Nat.le_refl _) _ _
end Go.Proofs.YtljloggbfmnjmaaDoor
