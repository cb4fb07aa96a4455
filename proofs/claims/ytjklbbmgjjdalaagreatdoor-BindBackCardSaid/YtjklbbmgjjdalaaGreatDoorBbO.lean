/- Wire: stamps: taken, and which are right. Wire: the document's numbers: Num, Take, Run. Wire: the document's reader in memory: num. Wire: the document's reader: pair. -/
import Derived.Test.YtjklbbmgjjdalaaGreatDoorBbE
import Derived.Test.YtjklbbmgjjdalaaGreatDoorBbN
import Derived.Test.YtjklbbmgjjdalaaGreatDoorBbK
import Derived.Test.YtjklbbmgjjdalaaGreatDoorBbA
import Derived.Shelf.Bits.Mul64
import Derived.Deep.CutBlock
set_option linter.unusedSimpArgs false
set_option linter.unusedVariables false
namespace Go.Proofs.YtjklbbmgjjdalaaGreatDoor.Bd
open Go.RowKit Go.Joins
theorem Rdr.low {w w' : World} {b : Nat} {S : Option (List UInt8)} (h : Rdr w b S) (hb : Below (b + 1) w w') : Rdr w' b S := by
  obtain ⟨p, n, cap, bad, h1, h2⟩ := h
  refine ⟨p, n, cap, bad, (hb.block b (by omega)).trans h1, ?_⟩
  cases S with
  | none => exact h2
  | some L =>
    obtain ⟨h3, h4, h5, h6, h7, h8⟩ := h2
    refine ⟨h3, h4, h5, h6, h7, ?_⟩
    rcases h8 with h8 | ⟨c, off, h9, h10, h11, h12⟩
    · exact .inl h8
    · refine .inr ⟨c, off, h9, h10, Nat.lt_of_lt_of_le h11 hb.size, fun j hj => ?_⟩
      rw [← h12 j hj]
      exact hb.cell (p := ⟨c, off + j, none⟩) (by show c < b + 1; omega)
def stR (S : Option (List UInt8)) : Idp × Option (List UInt8) := ((((numR S).1 : Nat), ((intR 64 (numR S).2).1 : Nat)), (intR 64 (numR S).2).2)
def rtI (x : Idp) : Bool := decide (x.1 ≤ 1099511627776) && (decide (0 ≤ x.2) && (decide (x.2 ≤ 64) && decide (x ≠ (0, 0))))
def StP (b : Nat) (R : Idp × Option (List UInt8)) (w : World) (e : Ending) (w' : World) : Prop := e = .returned (.agg #[.int .u64 R.1.1, .int .i64 R.1.2]) ∧ Rdr w' b R.2 ∧ Off b w w'
set_option maxRecDepth 100000 in
set_option maxHeartbeats 4000000 in
theorem stake_any (b : Nat) (S : Option (List UInt8)) (w : World) (h : Rdr w b S) (R : Idp × Option (List UInt8)) (hR : stR S = R) :
    Calls Tryz.prog 83 #[.pointer (some ⟨b, 0, none⟩)] w (StP b R w) := by
  have hA0 := Lib.hid (blk_new w #[.int .u64 0, .int .i64 0] tId)
  have hAB : Below w.heap.size w (w.alloc (.cells #[.int .u64 0, .int .i64 0] tId)) := by (repeat' (first | (with_reducible exact Below.refl _ _) | (with_reducible assumption) | (with_reducible refine Below.alloc ?_ ?_ _) | (with_reducible refine bel_drewN ?_ _) | (with_reducible refine Below.drew ?_) | (with_reducible refine Below.setCell ?_ ?_ _) | (with_reducible refine bel_call ‹_› ?_ ?_) | go_size))
  have hrd0 := h.below hAB
  have hO0 := Lib.hid (Off.of_below (b := b) hAB)
  have hlt := h.lt
  have HR : Hid (stR S = R) := hR
  clear hR h hAB
  go_enter Tryz.func83, Tryz.ntmps83
  go_upto_region 1 with fail
  generalize w.alloc (.cells #[.int .u64 0, .int .i64 0] tId) = w0 at hA0 hrd0 hO0 ⊢
  have HN := Lib.hid (num_any b S w0 hrd0 (numR S) rfl)
  clear hrd0
  go_wp2_with fail
  refine HN.out.mono ?_
  rintro e w1 ⟨rfl, hrd, hoff⟩
  have HI := Lib.hid (int_any b (numR S).2 64 (by omega) w1 hrd (intR 64 (numR S).2) rfl)
  have hO1 := Lib.hid (hO0.out.trans hoff)
  have hA1 : Hid (BlkC w1 w.heap.size #[.int .u64 0, .int .i64 0] tId) := hoff.blk (by omega) hA0.out
  clear hrd hoff HN hO0 hA0
  unfold stR at HR
  generalize numR S = N1 at HR HI ⊢
  go_wp2_with fail
  refine HI.out.mono ?_
  rintro e w2 ⟨rfl, hrd, hoff⟩
  have hO2 := Lib.hid (hO1.out.trans hoff)
  have hA2 : Hid (BlkC w2 w.heap.size #[.int .u64 0, .int .i64 0] tId) := hoff.blk (by omega) hA1.out
  have HRD := Lib.hid hrd
  clear hrd hoff HI hO1 hA1
  generalize intR 64 N1.2 = I1 at HR HRD ⊢
  have c0 : w2.cell? ⟨w.heap.size, 0, none⟩ = some (.int .u64 0) := hA2.out.cell 0 _ rfl
  have c1 : w2.cell? ⟨w.heap.size, 1, none⟩ = some (.int .i64 0) := hA2.out.cell 1 _ rfl
  have f0 := hA2.out.fz 0
  have f1 := hA2.out.fz 1
  go_wp2_with fail
  have HB3 : Hid (Below (b + 1) w2 ((w2.setCell ⟨w.heap.size, 0, none⟩ (.int .u64 (N1.1 : Nat))).setCell ⟨w.heap.size, 1, none⟩ (.int .i64 (I1.1 : Nat)))) := ((Below.refl _ _).setCell (by show b + 1 ≤ w.heap.size; omega) _).setCell (by show b + 1 ≤ w.heap.size; omega) _
  refine bodyPost_ret (v := .agg #[.int .u64 (N1.1 : Nat), .int .i64 (I1.1 : Nat)]) (by simp only [results, Tryz.results83]; go_simp) rfl ?_
  rw [← HR.out]
  exact ⟨rfl, HRD.out.low HB3.out, (hO2.out.set_new (Nat.le_refl _) _ _).set_new (Nat.le_refl _) _ _⟩
theorem neq_id0 (x : Idp) (W : World) : (binOp .neq tId (.agg #[.int .u64 x.1, .int .i64 x.2]) (.agg #[.int .u64 0, .int .i64 0])).run Tryz.prog W = .ok (.bool (decide (x ≠ (0, 0)))) W := by
  obtain ⟨a, b⟩ := x
  by_cases h1 : a = 0
  · by_cases h2 : b = 0
    · subst h1
      subst h2
      go_simp
    · subst h1
      have e : decide ((((0 : Int), b) : Idp) ≠ (0, 0)) = true := decide_eq_true (by simp [h2])
      rw [e]
      go_simp
  · have e : decide (((a, b) : Idp) ≠ (0, 0)) = true := decide_eq_true (by simp [h1])
    rw [e]
    go_simp
set_option maxRecDepth 100000 in
set_option maxHeartbeats 4000000 in
theorem sright_any (x : Idp) (w : World) : Calls Tryz.prog 84 #[.agg #[.int .u64 x.1, .int .i64 x.2]] w fun e w' => e = .returned (.bool (rtI x)) ∧ Below w.heap.size w w' := by
  have hA0 := Lib.hid (blk_new w #[.int .u64 x.1, .int .i64 x.2] tId)
  have hAB : Hid (Below w.heap.size w (w.alloc (.cells #[.int .u64 x.1, .int .i64 x.2] tId))) := by unfold Hid; (repeat' (first | (with_reducible exact Below.refl _ _) | (with_reducible assumption) | (with_reducible refine Below.alloc ?_ ?_ _) | (with_reducible refine bel_drewN ?_ _) | (with_reducible refine Below.drew ?_) | (with_reducible refine Below.setCell ?_ ?_ _) | (with_reducible refine bel_call ‹_› ?_ ?_) | go_size))
  have hne := neq_id0 x
  obtain ⟨O, hO⟩ : ∃ O, rtI x = O := ⟨_, rfl⟩
  have HO : Hid (rtI x = O) := hO
  rw [hO]
  unfold rtI at HO
  clear hO
  obtain ⟨a, c⟩ := x
  simp only at HO hne hA0 hAB ⊢
  obtain ⟨z, hz⟩ : ∃ z, decide (((a, c) : Idp) ≠ (0, 0)) = z := ⟨_, rfl⟩
  rw [hz] at HO hne
  clear hz
  go_enter Tryz.func84, Tryz.ntmps84
  go_upto_region 1 with fail
  generalize w.alloc (.cells #[.int .u64 a, .int .i64 c] tId) = w0 at hA0 hAB ⊢
  have c0 : w0.cell? ⟨w.heap.size, 0, none⟩ = some (.int .u64 a) := hA0.out.cell 0 _ rfl
  have c1 : w0.cell? ⟨w.heap.size, 1, none⟩ = some (.int .i64 c) := hA0.out.cell 1 _ rfl
  by_cases h1 : a ≤ 1099511627776
  · by_cases h2 : 0 ≤ c
    · by_cases h3 : c ≤ 64
      · have HS : Hid (O = z) := by unfold Hid; rw [← HO.out, decide_eq_true h1, decide_eq_true h2, decide_eq_true h3]; rfl
        clear HO
        go_wp2_with (simp only [hne])
        go_ret
        exact ⟨by rw [HS.out]; rfl, hAB.out⟩
      · have HS : Hid (O = false) := by unfold Hid; rw [← HO.out, decide_eq_false h3, Bool.false_and, Bool.and_false, Bool.and_false]
        clear HO
        go_wp2_with fail
        go_ret
        exact ⟨by rw [HS.out]; rfl, hAB.out⟩
    · have HS : Hid (O = false) := by unfold Hid; rw [← HO.out, decide_eq_false h2, Bool.false_and, Bool.and_false]
      clear HO
      go_wp2_with fail
      go_ret
      exact ⟨by rw [HS.out]; rfl, hAB.out⟩
  · have HS : Hid (O = false) := by unfold Hid; rw [← HO.out, decide_eq_false h1, Bool.false_and]
    clear HO
    go_wp2_with fail
    go_ret
    exact ⟨by rw [HS.out]; rfl, hAB.out⟩
set_option maxRecDepth 100000 in
set_option maxHeartbeats 4000000 in
theorem rsright_any (x : Idp) (h0 : 0 ≤ x.1) (w : World) : Calls Tryz.prog 18 #[.agg #[.int .u64 x.1, .int .i64 x.2]] w fun e w' => e = .returned (.bool (rtI x)) ∧ Below w.heap.size w w' := by
  have hA0 := Lib.hid (blk_new w #[.int .u64 x.1, .int .i64 x.2] tId)
  have hAB : Hid (Below w.heap.size w (w.alloc (.cells #[.int .u64 x.1, .int .i64 x.2] tId))) := by unfold Hid; (repeat' (first | (with_reducible exact Below.refl _ _) | (with_reducible assumption) | (with_reducible refine Below.alloc ?_ ?_ _) | (with_reducible refine bel_drewN ?_ _) | (with_reducible refine Below.drew ?_) | (with_reducible refine Below.setCell ?_ ?_ _) | (with_reducible refine bel_call ‹_› ?_ ?_) | go_size))
  obtain ⟨O, hO⟩ : ∃ O, rtI x = O := ⟨_, rfl⟩
  have HO : Hid (rtI x = O) := hO
  rw [hO]
  unfold rtI at HO
  clear hO
  obtain ⟨a, c⟩ := x
  simp only at HO hA0 hAB h0 ⊢
  go_enter Tryz.func18, Tryz.ntmps18
  go_upto_region 1 with fail
  generalize w.alloc (.cells #[.int .u64 a, .int .i64 c] tId) = w0 at hA0 hAB ⊢
  have c0 : w0.cell? ⟨w.heap.size, 0, none⟩ = some (.int .u64 a) := hA0.out.cell 0 _ rfl
  have c1 : w0.cell? ⟨w.heap.size, 1, none⟩ = some (.int .i64 c) := hA0.out.cell 1 _ rfl
  by_cases h1 : a ≤ 1099511627776
  · by_cases h2 : 0 ≤ c
    · by_cases h3 : c ≤ 64
      · by_cases h4 : 0 < a
        · have HS : Hid (O = true) := by unfold Hid; rw [← HO.out, decide_eq_true h1, decide_eq_true h2, decide_eq_true h3]; simp; omega
          clear HO
          go_wp2_with fail
          go_ret
          exact ⟨by rw [HS.out]; rfl, hAB.out⟩
        · by_cases h5 : 0 < c
          · have HS : Hid (O = true) := by unfold Hid; rw [← HO.out, decide_eq_true h1, decide_eq_true h2, decide_eq_true h3]; simp; omega
            clear HO
            go_wp2_with fail
            go_ret
            exact ⟨by rw [HS.out]; rfl, hAB.out⟩
          · have HS : Hid (O = false) := by unfold Hid; rw [← HO.out]; simp; omega
            clear HO
            go_wp2_with fail
            go_ret
            exact ⟨by rw [HS.out]; rfl, hAB.out⟩
      · have HS : Hid (O = false) := by unfold Hid; rw [← HO.out, decide_eq_false h3, Bool.false_and, Bool.and_false, Bool.and_false]
        clear HO
        go_wp2_with fail
        go_ret
        exact ⟨by rw [HS.out]; rfl, hAB.out⟩
    · have HS : Hid (O = false) := by unfold Hid; rw [← HO.out, decide_eq_false h2, Bool.false_and, Bool.and_false]
      clear HO
      go_wp2_with fail
      go_ret
      exact ⟨by rw [HS.out]; rfl, hAB.out⟩
  · have HS : Hid (O = false) := by unfold Hid; rw [← HO.out, decide_eq_false h1, Bool.false_and]
    clear HO
    go_wp2_with fail
    go_ret
    exact ⟨by rw [HS.out]; rfl, hAB.out⟩
instance (b : Nat) (w : World) : Nonempty (KeptO b w) := ⟨⟨w, Off.refl _ _⟩⟩
def tkF (S : Option (List UInt8)) : ((Idp × Idp) × Bool) × Option (List UInt8) := ((((stR S).1, (stR (stR S).2).1), (rtI (stR S).1 && rtI (stR (stR S).2).1)), (stR (stR S).2).2)
def TrP (b : Nat) (R : ((Idp × Idp) × Bool) × Option (List UInt8)) (w : World) (e : Ending) (w' : World) : Prop := e = .returned (.tuple #[.agg #[.int .u64 R.1.1.1.1, .int .i64 R.1.1.1.2, .int .u64 R.1.1.2.1, .int .i64 R.1.1.2.2], .bool R.1.2]) ∧ Rdr w' b R.2 ∧ Off b w w'
set_option maxRecDepth 100000 in
set_option maxHeartbeats 8000000 in
theorem takeRef_any (b : Nat) (S : Option (List UInt8)) (w : World) (h : Rdr w b S) (R : ((Idp × Idp) × Bool) × Option (List UInt8)) (hR : tkF S = R) :
    Calls Tryz.prog 67 #[.pointer (some ⟨b, 0, none⟩)] w (TrP b R w) := by
  have hA0 := Lib.hid (blk_new w #[.int .u64 0, .int .i64 0, .int .u64 0, .int .i64 0] tRf)
  have hAB : Below w.heap.size w (w.alloc (.cells #[.int .u64 0, .int .i64 0, .int .u64 0, .int .i64 0] tRf)) := by (repeat' (first | (with_reducible exact Below.refl _ _) | (with_reducible assumption) | (with_reducible refine Below.alloc ?_ ?_ _) | (with_reducible refine bel_drewN ?_ _) | (with_reducible refine Below.drew ?_) | (with_reducible refine Below.setCell ?_ ?_ _) | (with_reducible refine bel_call ‹_› ?_ ?_) | go_size))
  have hrd0 := h.below hAB
  have hO0 := Lib.hid (Off.of_below (b := b) hAB)
  have hlt := h.lt
  have HR : Hid (tkF S = R) := hR
  clear hR h hAB
  unfold tkF at HR
  go_enter Tryz.func67, Tryz.ntmps67
  go_upto_region 1 with fail
  generalize w.alloc (.cells #[.int .u64 0, .int .i64 0, .int .u64 0, .int .i64 0] tRf) = w0 at hA0 hrd0 hO0 ⊢
  have HN := Lib.hid (stake_any b S w0 hrd0 (stR S) rfl)
  clear hrd0
  go_wp2_with fail
  refine HN.out.mono ?_
  rintro e w1 ⟨rfl, hrd, hoff⟩
  have HI := Lib.hid (stake_any b (stR S).2 w1 hrd (stR (stR S).2) rfl)
  have hO1 := Lib.hid (hO0.out.trans hoff)
  have hA1 : Hid (BlkC w1 w.heap.size #[.int .u64 0, .int .i64 0, .int .u64 0, .int .i64 0] tRf) := hoff.blk (by omega) hA0.out
  clear hrd hoff HN hO0 hA0
  generalize stR S = N1 at HR HI ⊢
  go_wp2_with fail
  refine HI.out.mono ?_
  rintro e w2 ⟨rfl, hrd, hoff⟩
  have hO2 := Lib.hid (hO1.out.trans hoff)
  have hA2 : Hid (BlkC w2 w.heap.size #[.int .u64 0, .int .i64 0, .int .u64 0, .int .i64 0] tRf) := hoff.blk (by omega) hA1.out
  have HRD := Lib.hid hrd
  clear hrd hoff HI hO1 hA1
  generalize stR N1.2 = I1 at HR HRD ⊢
  obtain ⟨⟨p, q⟩, N2⟩ := N1
  obtain ⟨⟨x, y⟩, S2⟩ := I1
  simp only at HR HRD ⊢
  go_upto_region 2 with fail
  have hG := Lib.hid (blk_new w2 #[.int .u64 p, .int .i64 q, .int .u64 x, .int .i64 y] tRf)
  have hbn : Below w2.heap.size w2 (w2.alloc (.cells #[.int .u64 p, .int .i64 q, .int .u64 x, .int .i64 y] tRf)) := by (repeat' (first | (with_reducible exact Below.refl _ _) | (with_reducible assumption) | (with_reducible refine Below.alloc ?_ ?_ _) | (with_reducible refine bel_drewN ?_ _) | (with_reducible refine Below.drew ?_) | (with_reducible refine Below.setCell ?_ ?_ _) | (with_reducible refine bel_call ‹_› ?_ ?_) | go_size))
  have hA3 := Lib.hid (hA2.out.below hbn)
  have hO3 := Lib.hid (hO2.out.call hbn)
  have HRD3 := Lib.hid (HRD.out.below hbn)
  have hs2 := hO2.out.size
  have hwl : w.heap.size < w2.heap.size := lt_some hA2.out
  clear hbn hA2 hO2 HRD
  generalize w2.alloc (.cells #[.int .u64 p, .int .i64 q, .int .u64 x, .int .i64 y] tRf) = w3 at hG hA3 hO3 HRD3 ⊢
  generalize w2.heap.size = g at hG hwl hs2 ⊢
  have G0 := KeptO.cell (b := w.heap.size) (by omega) (hG.out.cell 0 (.int .u64 p) rfl)
  have G1 := KeptO.cell (b := w.heap.size) (by omega) (hG.out.cell 1 (.int .i64 q) rfl)
  have G2 := KeptO.cell (b := w.heap.size) (by omega) (hG.out.cell 2 (.int .u64 x) rfl)
  have G3 := KeptO.cell (b := w.heap.size) (by omega) (hG.out.cell 3 (.int .i64 y) rfl)
  have HS1 := Lib.hid (fun W => sright_any (p, q) W)
  have HS2 := Lib.hid (fun W => sright_any (x, y) W)
  obtain ⟨r1, hr1⟩ : ∃ r, rtI (p, q) = r := ⟨_, rfl⟩
  obtain ⟨r2, hr2⟩ : ∃ r, rtI (x, y) = r := ⟨_, rfl⟩
  rw [hr1] at HS1 HR
  rw [hr2] at HS2 HR
  clear hr1 hr2
  refine wp_region_sched (fun wx => ∃ x : KeptO w.heap.size w3, wx = x.v) [([0, 1, 2], 3), ([4, 5, 6], 7), ([8], 9)] [10] (by kernel_rfl) (by kernel_rfl) (by kernel_rfl) rfl (keptO_drew _ _) ?_
  (unfold wpSeg; simp only [pick_nil, pick_cons, nthO_zero, nthO_succ, List.append])
  repeat (go_big_quiet_step (fail))
  refine wpQuiet_nil ?_
  go_wp2_with fail
  refine (HS1.out _).mono ?_
  rintro e w4 ⟨rfl, hb4⟩
  have hB4 : Hid (Below w3.heap.size w3 w4) := bel_call hb4 (Below.drew (Below.refl _ _)) (Nat.le_refl _)
  have hO4 : Hid (Off w.heap.size w3 w4) := Off.of_below hB4.out
  clear hb4 HS1
  have fin : ∀ (W : World) (o : Bool), Hid (Below w3.heap.size w3 W) → Hid (o = (r1 && r2)) → Hid (∀ W', W' = ((((W.setCell ⟨w.heap.size, 0, none⟩ (.int .u64 p)).setCell ⟨w.heap.size, 1, none⟩ (.int .i64 q)).setCell ⟨w.heap.size, 2, none⟩ (.int .u64 x)).setCell ⟨w.heap.size, 3, none⟩ (.int .i64 y)) → BlkC W' w.heap.size #[.int .u64 p, .int .i64 q, .int .u64 x, .int .i64 y] tRf ∧ Off w.heap.size w3 W' ∧ TrP b R w (.returned (.tuple #[.agg #[.int .u64 p, .int .i64 q, .int .u64 x, .int .i64 y], .bool o])) W') := by
    intro W o hW ho W' hW'
    subst hW'
    have hA4 := hA3.out.below hW.out
    have hBl : Below (b + 1) W (((((W.setCell ⟨w.heap.size, 0, none⟩ (.int .u64 p)).setCell ⟨w.heap.size, 1, none⟩ (.int .i64 q)).setCell ⟨w.heap.size, 2, none⟩ (.int .u64 x)).setCell ⟨w.heap.size, 3, none⟩ (.int .i64 y))) := ((((Below.refl _ _).setCell (by show b + 1 ≤ w.heap.size; omega) _).setCell (by show b + 1 ≤ w.heap.size; omega) _).setCell (by show b + 1 ≤ w.heap.size; omega) _).setCell (by show b + 1 ≤ w.heap.size; omega) _
    refine ⟨block_setCell (block_setCell (block_setCell (block_setCell hA4 _) _) _) _, ((((Off.of_below hW.out).set _ _).set _ _).set _ _).set _ _, ?_⟩
    rw [← HR.out, ho.out]
    exact ⟨rfl, (HRD3.out.below hW.out).low hBl, ((((hO3.out.call hW.out).set_new (Nat.le_refl _) _ _).set_new (Nat.le_refl _) _ _).set_new (Nat.le_refl _) _ _).set_new (Nat.le_refl _) _ _⟩
  have HFIN := Lib.hid fin
  clear fin
  cases r1
  · go_wp2_with fail
    refine ⟨rfl, ⟨⟨w4, hO4.out⟩, rfl⟩, ?_⟩
    (unfold wpSeg; simp only [pick_nil, pick_cons, nthO_zero, nthO_succ, List.append])
    repeat (go_big_quiet_step (fail))
    refine wpQuiet_nil ?_
    go_wp2_with fail
    refine ⟨rfl, ⟨⟨w4, hO4.out⟩, rfl⟩, ?_⟩
    (unfold wpSeg; simp only [pick_nil, pick_cons, nthO_zero, nthO_succ, List.append])
    repeat (go_big_quiet_step (fail))
    refine wpQuiet_nil ?_
    have hAz := hA3.out.below hB4.out
    have a0 : w4.cell? ⟨w.heap.size, 0, none⟩ = some (.int .u64 0) := hAz.cell 0 _ rfl
    have a1 : w4.cell? ⟨w.heap.size, 1, none⟩ = some (.int .i64 0) := hAz.cell 1 _ rfl
    have a2 : w4.cell? ⟨w.heap.size, 2, none⟩ = some (.int .u64 0) := hAz.cell 2 _ rfl
    have a3 : w4.cell? ⟨w.heap.size, 3, none⟩ = some (.int .i64 0) := hAz.cell 3 _ rfl
    have z0 := hAz.fz 0
    have z1 := hAz.fz 1
    have z2 := hAz.fz 2
    have z3 := hAz.fz 3
    clear hAz
    go_wp2_with fail
    have hfin := HFIN.out w4 false hB4 (by rfl)
    generalize (((w4.setCell ⟨w.heap.size, 0, none⟩ (.int .u64 p)).setCell ⟨w.heap.size, 1, none⟩ (.int .i64 q)).setCell ⟨w.heap.size, 2, none⟩ (.int .u64 x)).setCell ⟨w.heap.size, 3, none⟩ (.int .i64 y) = W6 at hfin ⊢
    obtain ⟨hA6, hO6, hT6⟩ := hfin.out W6 rfl
    have HA6 := Lib.hid hA6
    have HT6 := Lib.hid hT6
    clear hfin a0 a1 a2 a3 z0 z1 z2 z3 hA6 hT6
    refine ⟨rfl, ⟨⟨W6, hO6⟩, rfl⟩, ?_⟩
    (unfold wpSeg; simp only [pick_nil, pick_cons, nthO_zero, nthO_succ, List.append])
    repeat (go_big_quiet_step (fail))
    refine wpQuiet_nil ?_
    have e0 : W6.cell? ⟨w.heap.size, 0, none⟩ = some (.int .u64 p) := HA6.out.cell 0 _ rfl
    have e1 : W6.cell? ⟨w.heap.size, 1, none⟩ = some (.int .i64 q) := HA6.out.cell 1 _ rfl
    have e2 : W6.cell? ⟨w.heap.size, 2, none⟩ = some (.int .u64 x) := HA6.out.cell 2 _ rfl
    have e3 : W6.cell? ⟨w.heap.size, 3, none⟩ = some (.int .i64 y) := HA6.out.cell 3 _ rfl
    go_wp2_with fail
    refine bodyPost_ret (v := .tuple #[.agg #[.int .u64 p, .int .i64 q, .int .u64 x, .int .i64 y], .bool false]) (by simp only [results, Tryz.results67]; go_simp) rfl HT6.out
  · go_wp2_with fail
    refine ⟨rfl, ⟨⟨w4, hO4.out⟩, rfl⟩, ?_⟩
    (unfold wpSeg; simp only [pick_nil, pick_cons, nthO_zero, nthO_succ, List.append])
    repeat (go_big_quiet_step (fail))
    refine wpQuiet_nil ?_
    go_wp2_with fail
    refine (HS2.out _).mono ?_
    rintro e w5 ⟨rfl, hb5⟩
    have hB5 : Hid (Below w3.heap.size w3 w5) := bel_call hb5 hB4.out hB4.out.size
    have hO5 : Hid (Off w.heap.size w3 w5) := Off.of_below hB5.out
    clear hb5 HS2
    go_wp2_with fail
    refine ⟨rfl, ⟨⟨w5, hO5.out⟩, rfl⟩, ?_⟩
    (unfold wpSeg; simp only [pick_nil, pick_cons, nthO_zero, nthO_succ, List.append])
    repeat (go_big_quiet_step (fail))
    refine wpQuiet_nil ?_
    have hAz := hA3.out.below hB5.out
    have a0 : w5.cell? ⟨w.heap.size, 0, none⟩ = some (.int .u64 0) := hAz.cell 0 _ rfl
    have a1 : w5.cell? ⟨w.heap.size, 1, none⟩ = some (.int .i64 0) := hAz.cell 1 _ rfl
    have a2 : w5.cell? ⟨w.heap.size, 2, none⟩ = some (.int .u64 0) := hAz.cell 2 _ rfl
    have a3 : w5.cell? ⟨w.heap.size, 3, none⟩ = some (.int .i64 0) := hAz.cell 3 _ rfl
    have z0 := hAz.fz 0
    have z1 := hAz.fz 1
    have z2 := hAz.fz 2
    have z3 := hAz.fz 3
    clear hAz
    go_wp2_with fail
    have hfin := HFIN.out w5 r2 hB5 (by rfl)
    generalize (((w5.setCell ⟨w.heap.size, 0, none⟩ (.int .u64 p)).setCell ⟨w.heap.size, 1, none⟩ (.int .i64 q)).setCell ⟨w.heap.size, 2, none⟩ (.int .u64 x)).setCell ⟨w.heap.size, 3, none⟩ (.int .i64 y) = W6 at hfin ⊢
    obtain ⟨hA6, hO6, hT6⟩ := hfin.out W6 rfl
    have HA6 := Lib.hid hA6
    have HT6 := Lib.hid hT6
    clear hfin a0 a1 a2 a3 z0 z1 z2 z3 hA6 hT6
    refine ⟨rfl, ⟨⟨W6, hO6⟩, rfl⟩, ?_⟩
    (unfold wpSeg; simp only [pick_nil, pick_cons, nthO_zero, nthO_succ, List.append])
    repeat (go_big_quiet_step (fail))
    refine wpQuiet_nil ?_
    have e0 : W6.cell? ⟨w.heap.size, 0, none⟩ = some (.int .u64 p) := HA6.out.cell 0 _ rfl
    have e1 : W6.cell? ⟨w.heap.size, 1, none⟩ = some (.int .i64 q) := HA6.out.cell 1 _ rfl
    have e2 : W6.cell? ⟨w.heap.size, 2, none⟩ = some (.int .u64 x) := HA6.out.cell 2 _ rfl
    have e3 : W6.cell? ⟨w.heap.size, 3, none⟩ = some (.int .i64 y) := HA6.out.cell 3 _ rfl
    go_wp2_with fail
    refine bodyPost_ret (v := .tuple #[.agg #[.int .u64 p, .int .i64 q, .int .u64 x, .int .i64 y], .bool r2]) (by simp only [results, Tryz.results67]; go_simp) rfl HT6.out
end Go.Proofs.YtjklbbmgjjdalaaGreatDoor.Bd
namespace Go.Proofs.YtjklbbmgjjdalaaGreatDoor.Bd
open Go.RowKit Go.Joins
abbrev u8V (c : UInt8) : Value := .int .u8 (c.toNat : Nat)
theorem one_u8 (v : Nat) : ∀ u ∈ [Value.int .u8 (v : Nat)], u.oneCell' = true := by
  intro u hu
  simp at hu
  subst hu
  rfl
theorem one_u8i (v : Int) : ∀ u ∈ [Value.int .u8 v], u.oneCell' = true := by
  intro u hu
  simp at hu
  subst hu
  rfl
theorem numEF_small {f m : Nat} (h : m < 128) : numEF (f + 1) m = [UInt8.ofNat m] := by rw [numEF, if_pos h]
theorem numEF_great {f m : Nat} (h : ¬ m < 128) : numEF (f + 1) m = UInt8.ofNat (m % 128 + 128) :: numEF f (m / 128) := by rw [numEF, if_neg h]
theorem numEF_len : ∀ (f m : Nat), (numEF f m).length ≤ f
  | 0, _ => by rw [numEF]; exact Nat.le_refl _
  | f + 1, m => by
    rw [numEF]
    split
    · simp
    · have := numEF_len f (m / 128)
      rw [List.length_cons]
      omega
end Go.Proofs.YtjklbbmgjjdalaaGreatDoor.Bd
namespace Go.Proofs.YtjklbbmgjjdalaaGreatDoor.Bd
open Go.RowKit Go.Joins
theorem intR_bad' (m : Nat) {L : List UInt8} (h : numD L = none) : intR m (some L) = (0, none) := by show (match intD m L with | none => (0, none) | some (v, r) => (v, some r) : Nat × Option (List UInt8)) = _; unfold intD; rw [h]
theorem intR_good {m v : Nat} {L r : List UInt8} (h : numD L = some (v, r)) (hm : ¬ m < v) : intR m (some L) = (v, some r) := by show (match intD m L with | none => (0, none) | some (v, r) => (v, some r) : Nat × Option (List UInt8)) = _; unfold intD; rw [h]; simp [hm]
theorem intR_num (S : Option (List UInt8)) : intR 18446744073709551615 S = numR S := by
  cases S with
  | none => rfl
  | some L =>
    cases h : numD L with
    | none => rw [intR_bad' _ h]; show _ = (match numD L with | none => (0, none) | some (v, r) => (v, some r) : Nat × Option (List UInt8)); rw [h]
    | some x =>
      obtain ⟨v, r⟩ := x
      have := numD_lt h
      rw [intR_good h (by omega)]
      show _ = (match numD L with | none => (0, none) | some (v, r) => (v, some r) : Nat × Option (List UInt8)); rw [h]
end Go.Proofs.YtjklbbmgjjdalaaGreatDoor.Bd
namespace Go.Proofs.YtjklbbmgjjdalaaGreatDoor.Bd
open Go.RowKit Go.Joins
abbrev tPr : TypeId := 50
def prR (S : Option (List UInt8)) : (Idp × Idp) × Option (List UInt8) := (((stR S).1, (stR (stR S).2).1), (stR (stR S).2).2)
end Go.Proofs.YtjklbbmgjjdalaaGreatDoor.Bd
