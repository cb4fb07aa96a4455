/- Script: the document's Names, Fields. -/
import Derived.Test.YtddoghjopihkpaaDoorScrL
import Derived.Lib.QuietBelow
set_option linter.unusedSimpArgs false
set_option linter.unusedVariables false
namespace Go.Proofs.YtddoghjopihkpaaDoor
open Go.RowKit Go.Joins

def strs (L : List Bs) : Array Value := ⟨L.map fun x => .string ⟨x.toArray⟩⟩
def nmS : List Bs := [wSet, wInsert, wDelete, wDeliver, wDrop, wTwice, wSpoil, wDigest, wAck, wSweep]
def nmL : List Bs := [([] : Bs), ([] : Bs), wPull, wSettle, wView, wCell, wTyped, wKnown, wCounts, wNet]
abbrev tSt : TypeId := 9
/-- A block of strings. -/
def SsB (w : World) (b : Nat) (L : List Bs) : Prop := w.heap[b]? = some (.cells (strs L) tSt (0, 0))
theorem SsB.below {w w' : World} {b : Nat} {L : List Bs} (h : SsB w b L) (hb : Below w.heap.size w w') : SsB w' b L := (hb.block b (lt_some h)).trans h
theorem SsB.at {w : World} {b : Nat} {L : List Bs} (h : SsB w b L) (j : Nat) (x : Bs) (hx : L[j]? = some x) : w.cell? ⟨b, j, none⟩ = some (.string ⟨x.toArray⟩) := by
  rw [cell_of_block h]
  unfold strs
  simp [hx]
theorem rd_blk {w : World} {b : Nat} {L : List Bs} (h : SsB w b L) : RdG stE 1 w (some ⟨b, 0, none⟩) L.length L := by
  refine ⟨rfl, .inr ⟨b, 0, rfl, lt_some h, fun j x hx k u hu => ?_⟩⟩
  match k, hu with
  | 0, hu =>
    simp only [stE, List.getElem?_cons_zero, Option.some.injEq] at hu
    subst hu
    have := h.at j x hx
    rw [show 0 + j * 1 + 0 = j from by omega]
    exact this
  | k + 1, hu => simp [stE] at hu
/-- What Fields leaves. -/
def FldR (L : List Bs) (e : Ending) (w' : World) : Prop := ∃ p cap, e = .returned (.slice p L.length cap) ∧ RdG stE 1 w' p L.length L
theorem fld_new (w : World) (L : List Bs) (n : Nat) (hn : L.length = n) : FldR L (.returned (.slice (some ⟨w.heap.size, 0, none⟩) n n)) (w.alloc (.cells (strs L) tSt)) := by
  subst hn
  exact ⟨_, _, rfl, rd_blk (heap_alloc_new w _)⟩

set_option maxRecDepth 100000 in
set_option maxHeartbeats 4000000 in
theorem names_any (w : World) : Calls Tryd.prog 26 #[] w fun e w' => e = .returned (.tuple #[.slice (some ⟨w.heap.size, 0, none⟩) 10 10, .slice (some ⟨w.heap.size + 1, 0, none⟩) 10 10]) ∧ SsB w' w.heap.size nmS ∧ SsB w' (w.heap.size + 1) nmL ∧ Below w.heap.size w w' := by
  have h0 : Hid (SsB ((w.alloc (.cells (strs nmS) tSt)).alloc (.cells (strs nmL) tSt)) w.heap.size nmS) := by
    unfold Hid SsB
    rw [Lib.alloc_old _ _ _ (by simp)]
    exact heap_alloc_new w _
  have h1 : Hid (SsB ((w.alloc (.cells (strs nmS) tSt)).alloc (.cells (strs nmL) tSt)) (w.heap.size + 1) nmL) := by
    have := heap_alloc_new (w.alloc (.cells (strs nmS) tSt)) (.cells (strs nmL) tSt)
    rw [World.size_alloc] at this
    exact this
  go_enter Tryd.func26, Tryd.ntmps26
  go_wp2_with fail
  go_ret2
  exact ⟨rfl, h0.out, h1.out, by (repeat' (first | (with_reducible exact Below.refl _ _) | (with_reducible assumption) | (with_reducible refine Below.alloc ?_ ?_ _) | (with_reducible refine bel_drewN ?_ _) | (with_reducible refine Below.drew ?_) | (with_reducible refine Below.setCell ?_ ?_ _) | (with_reducible refine bel_call ‹_› ?_ ?_) | go_size))⟩
def flS (kk : Int) (x : Stp) : List Bs :=
  if kk = 2 then [wPull] else if kk = 3 then [wSettle] else if kk = 9 then [wNet]
  else if kk = 4 then [wView, sgL x.who] else if kk = 7 then [wKnown, sgL x.who] else if kk = 8 then [wCounts, sgL x.who]
  else if kk = 5 then [wCell, sgL x.who, x.cell] else if kk = 6 then [wTyped, sgL x.who, x.cell]
  else if x.k = 0 then [sgL x.who, wSet, x.cell, x.text]
  else if x.k = 1 then [sgL x.who, wInsert, if x.cols then wCol else wRow, sgL x.n]
  else if x.k = 2 then [sgL x.who, wDelete, if x.cols then wCol else wRow, sgL x.n]
  else if x.k = 3 then [wDeliver, sgL x.n] else if x.k = 4 then [wDrop, sgL x.n] else if x.k = 5 then [wTwice, sgL x.n]
  else if x.k = 6 then [wSpoil, sgL x.n, sgL x.tor, sgL x.bits]
  else if x.k = 7 then [sgL x.who, wDigest, sgL x.tor] else if x.k = 8 then [sgL x.who, wAck, sgL x.tor]
  else [sgL x.who, wSweep]

set_option maxRecDepth 100000 in
set_option maxHeartbeats 32000000 in
theorem fields_any (kk : Int) (x : Stp) (hkk : 1 ≤ kk ∧ kk ≤ 9) (hk : 0 ≤ x.k ∧ x.k ≤ 9) (hw1 : -10000000 ≤ x.who) (hw2 : x.who ≤ 10000000) (hn1 : -10000000 ≤ x.n) (hn2 : x.n ≤ 10000000) (ht1 : -10000000 ≤ x.tor) (ht2 : x.tor ≤ 10000000) (hb1 : 0 ≤ x.bits) (hb2 : x.bits ≤ 255) (w : World) :
    Calls Tryd.prog 17 #[.agg (lnC kk x)] w fun e w' => FldR (flS kk x) e w' ∧ Below w.heap.size w w' := by
  have HDw := Lib.hid (fun W => refDigits_any x.who hw1 hw2 W)
  have HDn := Lib.hid (fun W => refDigits_any x.n hn1 hn2 W)
  have HDt := Lib.hid (fun W => refDigits_any x.tor ht1 ht2 W)
  have HDb := Lib.hid (fun W => refDigits_any x.bits (by omega) (by omega) W)
  have HAX := Lib.hid (fun W => raxis_any x.cols W)
  have hA0 : Hid (RlB (w.alloc (.cells (lnC kk x) tRl)) w.heap.size kk x) := heap_alloc_new w _
  have hAB : Hid (Below w.heap.size w (w.alloc (.cells (lnC kk x) tRl))) := by unfold Hid; (repeat' (first | (with_reducible exact Below.refl _ _) | (with_reducible assumption) | (with_reducible refine Below.alloc ?_ ?_ _) | (with_reducible refine bel_drewN ?_ _) | (with_reducible refine Below.drew ?_) | (with_reducible refine Below.setCell ?_ ?_ _) | (with_reducible refine bel_call ‹_› ?_ ?_) | go_size))
  have hAz : (w.alloc (.cells (lnC kk x) tRl)).heap.size = w.heap.size + 1 := by simp
  obtain ⟨O, hO⟩ : ∃ O, flS kk x = O := ⟨_, rfl⟩
  have HO := Lib.hid hO
  unfold flS at HO
  rw [hO]
  clear hO hw1 hw2 hn1 hn2 ht1 ht2
  generalize sgL x.who = Dw at HDw HO
  generalize sgL x.n = Dn at HDn HO
  generalize sgL x.tor = Dt at HDt HO
  generalize sgL x.bits = Db at HDb HO
  generalize (if x.cols = true then wCol else wRow) = AX at HAX HO
  go_enter Tryd.func17, Tryd.ntmps17
  go_upto_region 1 with fail
  generalize w.alloc (.cells (lnC kk x) tRl) = w0 at hA0 hAB hAz ⊢
  have HNM := Lib.hid (names_any w0)
  rw [hAz] at HNM
  go_upto_region 2 with (refine HNM.out.mono ?_; rintro e w1 ⟨rfl, hS1, hL1, hbb1⟩)
  clear HNM
  have hbb1 : Below w0.heap.size w0 w1 := by rw [hAz]; exact hbb1
  have HS := Lib.hid hS1
  have HL := Lib.hid hL1
  have HB1 : Hid (Below w.heap.size w w1) := bel_call hbb1 hAB.out hAB.out.size
  have hR1 := Lib.hid (hA0.out.below hbb1)
  have hz1 := hbb1.size
  clear hS1 hL1 hbb1 hA0 hAB
  obtain ⟨c0, c1, c2, c3, c4, c5, c6, c7, c8⟩ := hR1.out.cells
  have r2 := cell_regrown c2
  have r6 := cell_regrown c6
  have r7 := cell_regrown c7
  have cDw : ∀ dd os, Calls Tryd.prog 27 #[.int .i64 x.who] (Go.Sort.grow (redrawn w1 dd) os) fun e w'' => e = .returned (.string ⟨Dw.toArray⟩) ∧ ∃ p : Regrown, w'' = Go.Sort.grow (redrawn w1 p.d) p.os := fun dd os => Calls.regrown_of (HDw.out _)
  have cDn : ∀ dd os, Calls Tryd.prog 27 #[.int .i64 x.n] (Go.Sort.grow (redrawn w1 dd) os) fun e w'' => e = .returned (.string ⟨Dn.toArray⟩) ∧ ∃ p : Regrown, w'' = Go.Sort.grow (redrawn w1 p.d) p.os := fun dd os => Calls.regrown_of (HDn.out _)
  have cDt : ∀ dd os, Calls Tryd.prog 27 #[.int .i64 x.tor] (Go.Sort.grow (redrawn w1 dd) os) fun e w'' => e = .returned (.string ⟨Dt.toArray⟩) ∧ ∃ p : Regrown, w'' = Go.Sort.grow (redrawn w1 p.d) p.os := fun dd os => Calls.regrown_of (HDt.out _)
  refine wp_region_quiet_below (by kernel_rfl) (by kernel_rfl) ?_
  repeat (go_big_quiet_step ((first | with_reducible exact cDw _ _ | with_reducible exact cDn _ _ | with_reducible exact cDt _ _)))
  refine wpQuiet_nil ?_
  intro _ hw'
  obtain ⟨⟨dq, osq⟩, hw''⟩ := hw'
  subst hw''
  clear r2 r6 r7 cDw cDn cDt HDw HDn HDt c0 c1 c2 c3 c4 c5 c6 c7 c8
  have hbq := below_regrown w1 dq osq
  have HB2 : Hid (Below w.heap.size w (Go.Sort.grow (redrawn w1 dq) osq)) := bel_call hbq HB1.out HB1.out.size
  have hzq := hbq.size
  have HR2 := Lib.hid (hR1.out.below hbq)
  have HS2 := Lib.hid (HS.out.below hbq)
  have HL2 := Lib.hid (HL.out.below hbq)
  clear hbq hR1 HS HL HB1
  generalize Go.Sort.grow (redrawn w1 dq) osq = w2 at HB2 hzq HR2 HS2 HL2 ⊢
  obtain ⟨c0, c1, c2, c3, c4, c5, c6, c7, c8⟩ := HR2.out.cells
  obtain ⟨k, who, cell, text, cols, n, tor, bits⟩ := x
  simp only at c0 c1 c2 c3 c4 c5 c6 c7 c8 HO hk HAX HDb hb1 hb2
  have HZ : Hid (w.heap.size + 3 ≤ w2.heap.size) := by
    have h := lt_some HL2.out
    unfold Hid
    omega
  have hkc : kk = 1 ∨ kk = 2 ∨ kk = 3 ∨ kk = 4 ∨ kk = 5 ∨ kk = 6 ∨ kk = 7 ∨ kk = 8 ∨ kk = 9 := by omega
  have hkd : k = 0 ∨ k = 1 ∨ k = 2 ∨ k = 3 ∨ k = 4 ∨ k = 5 ∨ k = 6 ∨ k = 7 ∨ k = 8 ∨ k = 9 := by omega
  clear hkk hk
  rcases hkc with rfl | rfl | rfl | rfl | rfl | rfl | rfl | rfl | rfl
  · clear HL2
    rcases hkd with rfl | rfl | rfl | rfl | rfl | rfl | rfl | rfl | rfl | rfl
    · have HO2 : Hid (O = [Dw, wSet, cell, text]) := by unfold Hid; rw [← HO.out]; simp
      clear HO
      have m := HS2.out.at 0 wSet rfl
      go_wp2_with fail
      go_ret
      exact ⟨by rw [HO2.out]; exact fld_new _ [Dw, wSet, cell, text] _ rfl, by have := HB2.out; (repeat' (first | (with_reducible exact Below.refl _ _) | (with_reducible assumption) | (with_reducible refine Below.alloc ?_ ?_ _) | (with_reducible refine bel_drewN ?_ _) | (with_reducible refine Below.drew ?_) | (with_reducible refine Below.setCell ?_ ?_ _) | (with_reducible refine bel_call ‹_› ?_ ?_) | go_size))⟩
    · have HO2 : Hid (O = [Dw, wInsert, AX, Dn]) := by unfold Hid; rw [← HO.out]; simp
      clear HO
      have m := HS2.out.at 1 wInsert rfl
      go_wp2_with (refine (HAX.out _).mono ?_; rintro e w3 ⟨rfl, rfl⟩)
      go_ret
      exact ⟨by rw [HO2.out]; exact fld_new _ [Dw, wInsert, AX, Dn] _ rfl, by have := HB2.out; (repeat' (first | (with_reducible exact Below.refl _ _) | (with_reducible assumption) | (with_reducible refine Below.alloc ?_ ?_ _) | (with_reducible refine bel_drewN ?_ _) | (with_reducible refine Below.drew ?_) | (with_reducible refine Below.setCell ?_ ?_ _) | (with_reducible refine bel_call ‹_› ?_ ?_) | go_size))⟩
    · have HO2 : Hid (O = [Dw, wDelete, AX, Dn]) := by unfold Hid; rw [← HO.out]; simp
      clear HO
      have m := HS2.out.at 2 wDelete rfl
      go_wp2_with (refine (HAX.out _).mono ?_; rintro e w3 ⟨rfl, rfl⟩)
      go_ret
      exact ⟨by rw [HO2.out]; exact fld_new _ [Dw, wDelete, AX, Dn] _ rfl, by have := HB2.out; (repeat' (first | (with_reducible exact Below.refl _ _) | (with_reducible assumption) | (with_reducible refine Below.alloc ?_ ?_ _) | (with_reducible refine bel_drewN ?_ _) | (with_reducible refine Below.drew ?_) | (with_reducible refine Below.setCell ?_ ?_ _) | (with_reducible refine bel_call ‹_› ?_ ?_) | go_size))⟩
    · have HO2 : Hid (O = [wDeliver, Dn]) := by unfold Hid; rw [← HO.out]; simp
      clear HO
      have m := HS2.out.at 3 wDeliver rfl
      go_wp2_with fail
      go_ret
      exact ⟨by rw [HO2.out]; exact fld_new _ [wDeliver, Dn] _ rfl, by have := HB2.out; (repeat' (first | (with_reducible exact Below.refl _ _) | (with_reducible assumption) | (with_reducible refine Below.alloc ?_ ?_ _) | (with_reducible refine bel_drewN ?_ _) | (with_reducible refine Below.drew ?_) | (with_reducible refine Below.setCell ?_ ?_ _) | (with_reducible refine bel_call ‹_› ?_ ?_) | go_size))⟩
    · have HO2 : Hid (O = [wDrop, Dn]) := by unfold Hid; rw [← HO.out]; simp
      clear HO
      have m := HS2.out.at 4 wDrop rfl
      go_wp2_with fail
      go_ret
      exact ⟨by rw [HO2.out]; exact fld_new _ [wDrop, Dn] _ rfl, by have := HB2.out; (repeat' (first | (with_reducible exact Below.refl _ _) | (with_reducible assumption) | (with_reducible refine Below.alloc ?_ ?_ _) | (with_reducible refine bel_drewN ?_ _) | (with_reducible refine Below.drew ?_) | (with_reducible refine Below.setCell ?_ ?_ _) | (with_reducible refine bel_call ‹_› ?_ ?_) | go_size))⟩
    · have HO2 : Hid (O = [wTwice, Dn]) := by unfold Hid; rw [← HO.out]; simp
      clear HO
      have m := HS2.out.at 5 wTwice rfl
      go_wp2_with fail
      go_ret
      exact ⟨by rw [HO2.out]; exact fld_new _ [wTwice, Dn] _ rfl, by have := HB2.out; (repeat' (first | (with_reducible exact Below.refl _ _) | (with_reducible assumption) | (with_reducible refine Below.alloc ?_ ?_ _) | (with_reducible refine bel_drewN ?_ _) | (with_reducible refine Below.drew ?_) | (with_reducible refine Below.setCell ?_ ?_ _) | (with_reducible refine bel_call ‹_› ?_ ?_) | go_size))⟩
    · have HO2 : Hid (O = [wSpoil, Dn, Dt, Db]) := by unfold Hid; rw [← HO.out]; simp
      clear HO
      have m := HS2.out.at 6 wSpoil rfl
      have hcv : IntKind.i64.wrap bits = bits := IntWalk.i64_in _ (by omega)
      go_wp2_with (refine (HDb.out _).mono ?_; rintro e w3 ⟨rfl, hb3⟩; obtain ⟨hc3, hf3, hz3⟩ := bcell hb3 (by first | (simp only [World.size_alloc, World.size_setCell, World.size_drew]; rfl) | rfl))
      go_ret
      exact ⟨by rw [HO2.out]; exact fld_new _ [wSpoil, Dn, Dt, Db] _ rfl, by have := HB2.out; (repeat' (first | (with_reducible exact Below.refl _ _) | (with_reducible assumption) | (with_reducible refine Below.alloc ?_ ?_ _) | (with_reducible refine bel_drewN ?_ _) | (with_reducible refine Below.drew ?_) | (with_reducible refine Below.setCell ?_ ?_ _) | (with_reducible refine bel_call ‹_› ?_ ?_) | go_size))⟩
    · have HO2 : Hid (O = [Dw, wDigest, Dt]) := by unfold Hid; rw [← HO.out]; simp
      clear HO
      have m := HS2.out.at 7 wDigest rfl
      go_wp2_with fail
      go_ret
      exact ⟨by rw [HO2.out]; exact fld_new _ [Dw, wDigest, Dt] _ rfl, by have := HB2.out; (repeat' (first | (with_reducible exact Below.refl _ _) | (with_reducible assumption) | (with_reducible refine Below.alloc ?_ ?_ _) | (with_reducible refine bel_drewN ?_ _) | (with_reducible refine Below.drew ?_) | (with_reducible refine Below.setCell ?_ ?_ _) | (with_reducible refine bel_call ‹_› ?_ ?_) | go_size))⟩
    · have HO2 : Hid (O = [Dw, wAck, Dt]) := by unfold Hid; rw [← HO.out]; simp
      clear HO
      have m := HS2.out.at 8 wAck rfl
      go_wp2_with fail
      go_ret
      exact ⟨by rw [HO2.out]; exact fld_new _ [Dw, wAck, Dt] _ rfl, by have := HB2.out; (repeat' (first | (with_reducible exact Below.refl _ _) | (with_reducible assumption) | (with_reducible refine Below.alloc ?_ ?_ _) | (with_reducible refine bel_drewN ?_ _) | (with_reducible refine Below.drew ?_) | (with_reducible refine Below.setCell ?_ ?_ _) | (with_reducible refine bel_call ‹_› ?_ ?_) | go_size))⟩
    · have HO2 : Hid (O = [Dw, wSweep]) := by unfold Hid; rw [← HO.out]; simp
      clear HO
      have m := HS2.out.at 9 wSweep rfl
      go_wp2_with fail
      go_ret
      exact ⟨by rw [HO2.out]; exact fld_new _ [Dw, wSweep] _ rfl, by have := HB2.out; (repeat' (first | (with_reducible exact Below.refl _ _) | (with_reducible assumption) | (with_reducible refine Below.alloc ?_ ?_ _) | (with_reducible refine bel_drewN ?_ _) | (with_reducible refine Below.drew ?_) | (with_reducible refine Below.setCell ?_ ?_ _) | (with_reducible refine bel_call ‹_› ?_ ?_) | go_size))⟩
  · clear hkd HS2
    have HO2 : Hid (O = [wPull]) := by unfold Hid; rw [← HO.out]; simp
    clear HO
    have m := HL2.out.at 2 wPull rfl
    go_wp2_with fail
    go_ret
    exact ⟨by rw [HO2.out]; exact fld_new _ [wPull] _ rfl, by have := HB2.out; (repeat' (first | (with_reducible exact Below.refl _ _) | (with_reducible assumption) | (with_reducible refine Below.alloc ?_ ?_ _) | (with_reducible refine bel_drewN ?_ _) | (with_reducible refine Below.drew ?_) | (with_reducible refine Below.setCell ?_ ?_ _) | (with_reducible refine bel_call ‹_› ?_ ?_) | go_size))⟩
  · clear hkd HS2
    have HO2 : Hid (O = [wSettle]) := by unfold Hid; rw [← HO.out]; simp
    clear HO
    have m := HL2.out.at 3 wSettle rfl
    go_wp2_with fail
    go_ret
    exact ⟨by rw [HO2.out]; exact fld_new _ [wSettle] _ rfl, by have := HB2.out; (repeat' (first | (with_reducible exact Below.refl _ _) | (with_reducible assumption) | (with_reducible refine Below.alloc ?_ ?_ _) | (with_reducible refine bel_drewN ?_ _) | (with_reducible refine Below.drew ?_) | (with_reducible refine Below.setCell ?_ ?_ _) | (with_reducible refine bel_call ‹_› ?_ ?_) | go_size))⟩
  · clear hkd HS2
    have HO2 : Hid (O = [wView, Dw]) := by unfold Hid; rw [← HO.out]; simp
    clear HO
    have m := HL2.out.at 4 wView rfl
    go_wp2_with fail
    go_ret
    exact ⟨by rw [HO2.out]; exact fld_new _ [wView, Dw] _ rfl, by have := HB2.out; (repeat' (first | (with_reducible exact Below.refl _ _) | (with_reducible assumption) | (with_reducible refine Below.alloc ?_ ?_ _) | (with_reducible refine bel_drewN ?_ _) | (with_reducible refine Below.drew ?_) | (with_reducible refine Below.setCell ?_ ?_ _) | (with_reducible refine bel_call ‹_› ?_ ?_) | go_size))⟩
  · clear hkd HS2
    have HO2 : Hid (O = [wCell, Dw, cell]) := by unfold Hid; rw [← HO.out]; simp
    clear HO
    have m := HL2.out.at 5 wCell rfl
    go_wp2_with fail
    go_region
    all_goals
      go_wp2_with fail
      go_ret
      exact ⟨by rw [HO2.out]; exact fld_new _ [wCell, Dw, cell] _ rfl, by have := HB2.out; (repeat' (first | (with_reducible exact Below.refl _ _) | (with_reducible assumption) | (with_reducible refine Below.alloc ?_ ?_ _) | (with_reducible refine bel_drewN ?_ _) | (with_reducible refine Below.drew ?_) | (with_reducible refine Below.setCell ?_ ?_ _) | (with_reducible refine bel_call ‹_› ?_ ?_) | go_size))⟩
  · clear hkd HS2
    have HO2 : Hid (O = [wTyped, Dw, cell]) := by unfold Hid; rw [← HO.out]; simp
    clear HO
    have m := HL2.out.at 6 wTyped rfl
    go_wp2_with fail
    go_region
    all_goals
      go_wp2_with fail
      go_ret
      exact ⟨by rw [HO2.out]; exact fld_new _ [wTyped, Dw, cell] _ rfl, by have := HB2.out; (repeat' (first | (with_reducible exact Below.refl _ _) | (with_reducible assumption) | (with_reducible refine Below.alloc ?_ ?_ _) | (with_reducible refine bel_drewN ?_ _) | (with_reducible refine Below.drew ?_) | (with_reducible refine Below.setCell ?_ ?_ _) | (with_reducible refine bel_call ‹_› ?_ ?_) | go_size))⟩
  · clear hkd HS2
    have HO2 : Hid (O = [wKnown, Dw]) := by unfold Hid; rw [← HO.out]; simp
    clear HO
    have m := HL2.out.at 7 wKnown rfl
    go_wp2_with fail
    go_ret
    exact ⟨by rw [HO2.out]; exact fld_new _ [wKnown, Dw] _ rfl, by have := HB2.out; (repeat' (first | (with_reducible exact Below.refl _ _) | (with_reducible assumption) | (with_reducible refine Below.alloc ?_ ?_ _) | (with_reducible refine bel_drewN ?_ _) | (with_reducible refine Below.drew ?_) | (with_reducible refine Below.setCell ?_ ?_ _) | (with_reducible refine bel_call ‹_› ?_ ?_) | go_size))⟩
  · clear hkd HS2
    have HO2 : Hid (O = [wCounts, Dw]) := by unfold Hid; rw [← HO.out]; simp
    clear HO
    have m := HL2.out.at 8 wCounts rfl
    go_wp2_with fail
    go_ret
    exact ⟨by rw [HO2.out]; exact fld_new _ [wCounts, Dw] _ rfl, by have := HB2.out; (repeat' (first | (with_reducible exact Below.refl _ _) | (with_reducible assumption) | (with_reducible refine Below.alloc ?_ ?_ _) | (with_reducible refine bel_drewN ?_ _) | (with_reducible refine Below.drew ?_) | (with_reducible refine Below.setCell ?_ ?_ _) | (with_reducible refine bel_call ‹_› ?_ ?_) | go_size))⟩
  · clear hkd HS2
    have HO2 : Hid (O = [wNet]) := by unfold Hid; rw [← HO.out]; simp
    clear HO
    have m := HL2.out.at 9 wNet rfl
    go_wp2_with fail
    go_ret
    exact ⟨by rw [HO2.out]; exact fld_new _ [wNet] _ rfl, by have := HB2.out; (repeat' (first | (with_reducible exact Below.refl _ _) | (with_reducible assumption) | (with_reducible refine Below.alloc ?_ ?_ _) | (with_reducible refine bel_drewN ?_ _) | (with_reducible refine Below.drew ?_) | (with_reducible refine Below.setCell ?_ ?_ _) | (with_reducible refine bel_call ‹_› ?_ ?_) | go_size))⟩
end Go.Proofs.YtddoghjopihkpaaDoor
