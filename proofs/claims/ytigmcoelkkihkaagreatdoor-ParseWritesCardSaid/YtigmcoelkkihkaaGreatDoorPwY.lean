/- Trees over cells: Print. Turned by gen_cel.py out of the texts on trees over numbers. Trees over cells: Same at one tree, however often it lies in memory. The law's example, and both texts of a tree. The law's 'plain'. Printed by gen_map2.py. -/
import Derived.Test.YtigmcoelkkihkaaGreatDoorPwX
import Derived.Test.YtigmcoelkkihkaaGreatDoorPwN
import Derived.Test.YtigmcoelkkihkaaGreatDoorPwD
import Derived.Test.YtigmcoelkkihkaaGreatDoorPwV
import Derived.Test.YtigmcoelkkihkaaGreatDoorPwR
import Derived.Test.YtigmcoelkkihkaaGreatDoorPwJ
import Derived.Deep.CutBlock
set_option linter.unusedSimpArgs false
set_option linter.unusedVariables false
namespace Go.Proofs.YtigmcoelkkihkaaGreatDoor.Cel
open Go.RowKit Go.Joins

set_option maxRecDepth 100000 in
set_option maxHeartbeats 4000000 in
theorem print_any (n : Nd) (d : Nat) (p : Option Addr) (len cap : Nat) (lv : Int) (w : World) (hrd : RdT w w.heap.size d n p len) (hok : OkN n) (hrt : rtN n lv = true) (hsh : w.ShapedOpen Tryz.prog) (hlen : wtN n ≤ 2200000) :
    Calls Tryz.prog 21 #[.agg (ndA n p len cap), nameF] w fun e w' => e = .returned (.string ⟨(prN nmS n 1).toArray⟩) ∧ Below w.heap.size w w' := by
  have hA0 : Hid (NdB tPn (w.alloc (.cells (ndA n p len cap) tPn)) w.heap.size n p len cap) := heap_alloc_new w _
  have hAB : Hid (Below w.heap.size w (w.alloc (.cells (ndA n p len cap) tPn))) := by unfold Hid; (repeat' (first | (with_reducible exact Below.refl _ _) | (with_reducible assumption) | (with_reducible refine Below.alloc ?_ ?_ _) | (with_reducible refine bel_drewN ?_ _) | (with_reducible refine Below.drew ?_) | (with_reducible refine Below.setCell ?_ ?_ _) | (with_reducible refine bel_call ‹_› ?_ ?_) | go_size))
  have HW := Lib.hid (fun b W (hW : Below w.heap.size w W) hib hB => write_any d n p len cap 1 lv w.heap.size b [] w W trivial (hrd.below hW) hok hrt (by omega) (by omega) hsh rfl hW hib hB (by simpa using hlen))
  generalize hX : prN nmS n 1 = X at HW ⊢
  clear hX hlen hok hrd hrt hsh
  rw [ndA_eq] at HW ⊢
  go_enter Tryz.func21, Tryz.ntmps21
  go_upto_region 1 with fail
  have e0 : w.alloc (.cells #[.int .i64 n.kind, .int .i64 n.num, .string ⟨n.text.toArray⟩, .int .i64 (cC n.frm), .int .i64 (cR n.frm), .int .i64 (cC n.tor), .int .i64 (cR n.tor), .slice p len cap] tPn) = w.alloc (.cells (ndA n p len cap) tPn) := rfl
  rw [e0]
  clear e0
  generalize w.alloc (.cells (ndA n p len cap) tPn) = w0 at hA0 hAB ⊢
  go_upto_region 2 with fail
  have hib : Hid (Lib.IsBuilder tBd 5 w.heap.size w0.heap.size (Lib.byteCells []) (w0.alloc (.cells #[.pointer none, .slice none 0 0] tBd))) := bd_fresh w.heap.size w0 hAB.out.size
  have hB1 : Hid (Below w.heap.size w (w0.alloc (.cells #[.pointer none, .slice none 0 0] tBd))) := hAB.out.alloc hAB.out.size _
  have hA1 : Hid (NdB tPn (w0.alloc (.cells #[.pointer none, .slice none 0 0] tBd)) w.heap.size n p len cap) := hA0.out.below (by (repeat' (first | (with_reducible exact Below.refl _ _) | (with_reducible assumption) | (with_reducible refine Below.alloc ?_ ?_ _) | (with_reducible refine bel_drewN ?_ _) | (with_reducible refine Below.drew ?_) | (with_reducible refine Below.setCell ?_ ?_ _) | (with_reducible refine bel_call ‹_› ?_ ?_) | go_size)))
  generalize w0.alloc (.cells #[.pointer none, .slice none 0 0] tBd) = w1 at hib hB1 hA1 ⊢
  generalize w0.heap.size = b at hib ⊢
  obtain ⟨c0, c1, c2, c3, cd3, c4, cd4, c5⟩ := hA1.out.cells
  go_wp2_with fail
  refine (HW.out b w1 hB1.out hib.out hB1.out.size).mono ?_
  rintro e w2 ⟨rfl, hi2, hb2, _⟩
  have hB2 : Hid (Below w.heap.size w w2) := hB1.out.trans hb2
  have HI2 := Lib.hid hi2
  clear hi2 hb2 hB1 hib hA1 c0 c1 c2 c3 cd3 c4 cd4 c5 HW hA0 hAB
  go_wp2_with fail
  refine (bd_string w.heap.size b _ w2 HI2.out hB2.out.size).mono ?_
  rintro e w3 ⟨rfl, hb3⟩
  go_wp2_with fail
  go_ret
  exact ⟨rfl, hB2.out.trans hb3⟩
end Go.Proofs.YtigmcoelkkihkaaGreatDoor.Cel
namespace Go.Proofs.YtigmcoelkkihkaaGreatDoor.Cel
open Go.RowKit Go.Joins

set_option maxRecDepth 100000 in
theorem eq_cel (c r : Int) (W : World) : (binOp .eql 31 (.agg #[.int .i64 c, .int .i64 r]) (.agg #[.int .i64 c, .int .i64 r])).run Tryz.prog W = .ok (.bool true) W := by
  go_simp
def Same1C (d : Nat) : Prop := ∀ (d2 : Nat) (n : Nd) (p p2 : Option Addr) (len cap len2 cap2 : Nat) (w : World), RdT w w.heap.size d n p len → RdT w w.heap.size d2 n p2 len2 → FewN n → Calls Tryz.prog 11 #[.agg (ndA n p len cap), .agg (ndA n p2 len2 cap2)] w fun e w' => e = .returned (.bool true) ∧ Below w.heap.size w w'
set_option maxRecDepth 100000 in
set_option maxHeartbeats 8000000 in
theorem eq1_s (d : Nat) (IH : ∀ d', d = d' + 1 → Same1C d') (d2 : Nat) (n : Nd) (p p2 : Option Addr) (len cap len2 cap2 : Nat) (w : World) (hrd : RdT w w.heap.size d n p len) (hrd2 : RdT w w.heap.size d2 n p2 len2) (hok : FewN n) :
    Calls Tryz.prog 29 #[.slice p len cap, .slice p2 len2 cap2, .func (.func 11) #[] #[]] w fun e w' => e = .returned (.bool true) ∧ Below w.heap.size w w' := by
  have HRD := Lib.hid hrd
  have HIH := Lib.hid IH
  have hlen := hok.len
  rw [hrd.len] at hlen
  have hll : len = len2 := by rw [← hrd.len, hrd2.len]
  subst hll
  have HRD2 := Lib.hid hrd2
  have HOK := Lib.hid (fun c hc => FewN.child (c := c) hok hc)
  clear hrd hrd2 IH hok
  have hne : ((len : Int) != (len : Int)) = false := by simp
  go_enter Tryz.func29, Tryz.ntmps29
  go_wp2_with fail
  go_loopg [17] len (fun g v17 wr => ∃ i : Nat, i + g = len ∧ v17 = .int .i64 i ∧ Below w.heap.size w wr)
  case atStart => exact ⟨0, by omega, rfl, Below.refl _ _⟩
  case round =>
    obtain ⟨i, hig, rfl, hbel⟩ := hrel
    have HBL := Lib.hid hbel
    have hzr := hbel.size
    clear hbel
    by_cases hlt : i < len
    · have hli : (i : Int) < (len : Int) := by omega
      have hi0 : (0 : Int) ≤ (i : Int) := by omega
      obtain ⟨d', b, off, c, p', l', c', hd, rfl, hbN, hc, hrc, q0, q1, q2, q3, qd3, q4, qd4, q5⟩ := (HRD.out.below HBL.out).at hlt
      obtain ⟨d2', b2, off2, x, px, lx, cx, hd2, rfl, hbN2, hx, hrx, s0, s1, s2, s3, sd3, s4, sd4, s5⟩ := (HRD2.out.below HBL.out).at hlt
      rw [hc] at hx
      cases hx
      have HC : Hid (Same1C d') := HIH.out d' hd
      have HCO := Lib.hid (HOK.out c (mem_at hc))
      have HRC := Lib.hid hrc
      have HRX := Lib.hid hrx
      clear hc hrc hd hrx hd2
      go_upto_region 6 with fail
      have hA1 : Hid (NdB tPn (wr.alloc (.cells (ndA c p' l' c') tPn)) wr.heap.size c p' l' c') := heap_alloc_new wr _
      have hB1 : Hid (Below w.heap.size w (wr.alloc (.cells (ndA c p' l' c') tPn))) := HBL.out.alloc hzr _
      have hK1 : Hid (Below wr.heap.size wr (wr.alloc (.cells (ndA c p' l' c') tPn))) := by unfold Hid; (repeat' (first | (with_reducible exact Below.refl _ _) | (with_reducible assumption) | (with_reducible refine Below.alloc ?_ ?_ _) | (with_reducible refine bel_drewN ?_ _) | (with_reducible refine Below.drew ?_) | (with_reducible refine Below.setCell ?_ ?_ _) | (with_reducible refine bel_call ‹_› ?_ ?_) | go_size))
      have e1 : wr.alloc (.cells #[.int .i64 c.kind, .int .i64 c.num, .string ⟨c.text.toArray⟩, .int .i64 (cC c.frm), .int .i64 (cR c.frm), .int .i64 (cC c.tor), .int .i64 (cR c.tor), .slice p' l' c'] tPn) = wr.alloc (.cells (ndA c p' l' c') tPn) := rfl
      rw [e1]
      clear e1
      have t0 := (hK1.out.cell (p := ⟨b2, off2 + i * 8, none⟩) (Nat.lt_of_lt_of_le hbN2 hzr)).trans s0
      have t1 := (hK1.out.cell (p := ⟨b2, off2 + i * 8 + 1, none⟩) (Nat.lt_of_lt_of_le hbN2 hzr)).trans s1
      have t2 := (hK1.out.cell (p := ⟨b2, off2 + i * 8 + 2, none⟩) (Nat.lt_of_lt_of_le hbN2 hzr)).trans s2
      have t3 := (hK1.out.cell (p := ⟨b2, off2 + i * 8 + 3, none⟩) (Nat.lt_of_lt_of_le hbN2 hzr)).trans s3
      have td3 := (hK1.out.cell (p := ⟨b2, off2 + i * 8 + 4, none⟩) (Nat.lt_of_lt_of_le hbN2 hzr)).trans sd3
      have t4 := (hK1.out.cell (p := ⟨b2, off2 + i * 8 + 5, none⟩) (Nat.lt_of_lt_of_le hbN2 hzr)).trans s4
      have td4 := (hK1.out.cell (p := ⟨b2, off2 + i * 8 + 6, none⟩) (Nat.lt_of_lt_of_le hbN2 hzr)).trans sd4
      have t5 := (hK1.out.cell (p := ⟨b2, off2 + i * 8 + 7, none⟩) (Nat.lt_of_lt_of_le hbN2 hzr)).trans s5
      have HRC1 := Lib.hid (HRC.out.below (hK1.out.mono hzr))
      have HRX1 := Lib.hid (HRX.out.below (hK1.out.mono hzr))
      clear q0 q1 q2 q3 qd3 q4 qd4 q5 s0 s1 s2 s3 sd3 s4 sd4 s5 HRC HRX HBL
      generalize wr.alloc (.cells (ndA c p' l' c') tPn) = w2 at hA1 hB1 HRC1 HRX1 hK1 t0 t1 t2 t3 td3 t4 td4 t5 ⊢
      generalize wr.heap.size = g1 at hA1 hzr hK1 ⊢
      have hz2 := hB1.out.size
      go_upto_region 7 with fail
      have hA2 : Hid (NdB tPn (w2.alloc (.cells (ndA c px lx cx) tPn)) w2.heap.size c px lx cx) := heap_alloc_new w2 _
      have hA1b : Hid (NdB tPn (w2.alloc (.cells (ndA c px lx cx) tPn)) g1 c p' l' c') := hA1.out.below (by (repeat' (first | (with_reducible exact Below.refl _ _) | (with_reducible assumption) | (with_reducible refine Below.alloc ?_ ?_ _) | (with_reducible refine bel_drewN ?_ _) | (with_reducible refine Below.drew ?_) | (with_reducible refine Below.setCell ?_ ?_ _) | (with_reducible refine bel_call ‹_› ?_ ?_) | go_size)))
      have hB2 : Hid (Below w.heap.size w (w2.alloc (.cells (ndA c px lx cx) tPn))) := hB1.out.alloc hz2 _
      have e2 : w2.alloc (.cells #[.int .i64 c.kind, .int .i64 c.num, .string ⟨c.text.toArray⟩, .int .i64 (cC c.frm), .int .i64 (cR c.frm), .int .i64 (cC c.tor), .int .i64 (cR c.tor), .slice px lx cx] tPn) = w2.alloc (.cells (ndA c px lx cx) tPn) := rfl
      rw [e2]
      clear e2
      have HRC2 : Hid (RdT (w2.alloc (.cells (ndA c px lx cx) tPn)) w.heap.size d' c p' l') := HRC1.out.below (by (repeat' (first | (with_reducible exact Below.refl _ _) | (with_reducible assumption) | (with_reducible refine Below.alloc ?_ ?_ _) | (with_reducible refine bel_drewN ?_ _) | (with_reducible refine Below.drew ?_) | (with_reducible refine Below.setCell ?_ ?_ _) | (with_reducible refine bel_call ‹_› ?_ ?_) | go_size)))
      have HRX2 : Hid (RdT (w2.alloc (.cells (ndA c px lx cx) tPn)) w.heap.size d2' c px lx) := HRX1.out.below (by (repeat' (first | (with_reducible exact Below.refl _ _) | (with_reducible assumption) | (with_reducible refine Below.alloc ?_ ?_ _) | (with_reducible refine bel_drewN ?_ _) | (with_reducible refine Below.drew ?_) | (with_reducible refine Below.setCell ?_ ?_ _) | (with_reducible refine bel_call ‹_› ?_ ?_) | go_size)))
      clear t0 t1 t2 t3 td3 t4 td4 t5 HRC1 HRX1 hA1 hB1 hK1
      generalize w2.alloc (.cells (ndA c px lx cx) tPn) = w3 at hA2 hA1b hB2 HRC2 HRX2 ⊢
      generalize w2.heap.size = g2 at hA2 hz2 ⊢
      obtain ⟨c0, c1, c2, c3, cd3, c4, cd4, c5⟩ := hA1b.out.cells
      obtain ⟨y0, y1, y2, y3, yd3, y4, yd4, y5⟩ := hA2.out.cells
      have HCC := Lib.hid (HC.out d2' c p' px l' c' lx cx w3 (HRC2.out.mono hB2.out.size) (HRX2.out.mono hB2.out.size) HCO.out)
      rw [ndA_eq, ndA_eq] at HCC
      clear HC
      go_wp2_with fail
      go_at_call 11
      refine HCC.out.mono ?_
      rintro e w4 ⟨rfl, hb4⟩
      have hB4 : Hid (Below w.heap.size w w4) := bel_call hb4 hB2.out hB2.out.size
      clear hb4 hB2 c0 c1 c2 c3 cd3 c4 cd4 c5 y0 y1 y2 y3 yd3 y4 yd4 y5 hA2 hA1b HRC2 HRX2 HCC
      go_wp2_with fail
      go_roundg (gk - 1)
      case measure => omega
      case rel => exact ⟨i + 1, by omega, by go_num, hB4.out⟩
    · obtain rfl : i = len := by omega
      have hli : ¬ (i : Int) < (i : Int) := by omega
      go_wp2_with fail
      go_ret
      exact ⟨rfl, HBL.out⟩
set_option maxRecDepth 100000 in
set_option maxHeartbeats 8000000 in
theorem same1_s (d : Nat) (IH : ∀ d', d = d' + 1 → Same1C d') : Same1C d := by
  intro d2 n p p2 len cap len2 cap2 w hrd hrd2 hok
  obtain ⟨hh0, hh1⟩ : Hid (NdB tPn ((w.alloc (.cells (ndA n p len cap) tPn)).alloc (.cells (ndA n p2 len2 cap2) tPn)) w.heap.size n p len cap) ∧ Hid (NdB tPn ((w.alloc (.cells (ndA n p len cap) tPn)).alloc (.cells (ndA n p2 len2 cap2) tPn)) (w.heap.size + 1) n p2 len2 cap2) := by
    refine ⟨?_, ?_⟩
    · unfold Hid NdB
      rw [Lib.alloc_old _ _ _ (by simp)]
      exact heap_alloc_new w _
    · unfold Hid NdB
      have := heap_alloc_new (w.alloc (.cells (ndA n p len cap) tPn)) (.cells (ndA n p2 len2 cap2) tPn)
      rw [World.size_alloc] at this
      exact this
  have hAB : Hid (Below w.heap.size w ((w.alloc (.cells (ndA n p len cap) tPn)).alloc (.cells (ndA n p2 len2 cap2) tPn))) := by unfold Hid; (repeat' (first | (with_reducible exact Below.refl _ _) | (with_reducible assumption) | (with_reducible refine Below.alloc ?_ ?_ _) | (with_reducible refine bel_drewN ?_ _) | (with_reducible refine Below.drew ?_) | (with_reducible refine Below.setCell ?_ ?_ _) | (with_reducible refine bel_call ‹_› ?_ ?_) | go_size))
  have HEQ := Lib.hid (fun W (hW : Below w.heap.size w W) => eq1_s d IH d2 n p p2 len cap len2 cap2 W ((hrd.below hW).mono hW.size) ((hrd2.below hW).mono hW.size) hok)
  clear hrd hrd2 hok IH
  rw [ndA_eq, ndA_eq]
  go_enter Tryz.func11, Tryz.ntmps11
  go_upto_region 1 with fail
  have e0 : (w.alloc (.cells #[.int .i64 n.kind, .int .i64 n.num, .string ⟨n.text.toArray⟩, .int .i64 (cC n.frm), .int .i64 (cR n.frm), .int .i64 (cC n.tor), .int .i64 (cR n.tor), .slice p len cap] tPn)).alloc (.cells #[.int .i64 n.kind, .int .i64 n.num, .string ⟨n.text.toArray⟩, .int .i64 (cC n.frm), .int .i64 (cR n.frm), .int .i64 (cC n.tor), .int .i64 (cR n.tor), .slice p2 len2 cap2] tPn) = (w.alloc (.cells (ndA n p len cap) tPn)).alloc (.cells (ndA n p2 len2 cap2) tPn) := rfl
  rw [e0]
  clear e0
  generalize (w.alloc (.cells (ndA n p len cap) tPn)).alloc (.cells (ndA n p2 len2 cap2) tPn) = w0 at hh0 hh1 hAB ⊢
  obtain ⟨c0, c1, c2, c3, cd3, c4, cd4, c5⟩ := hh0.out.cells
  obtain ⟨y0, y1, y2, y3, yd3, y4, yd4, y5⟩ := hh1.out.cells
  have r0 := cell_regrown c0
  have r1 := cell_regrown c1
  have r2 := cell_regrown c2
  have r3 := cell_regrown c3
  have rd3 := cell_regrown cd3
  have r4 := cell_regrown c4
  have rd4 := cell_regrown cd4
  have r5 := cell_regrown c5
  have s0 := cell_regrown y0
  have s1 := cell_regrown y1
  have s2 := cell_regrown y2
  have s3 := cell_regrown y3
  have sd3 := cell_regrown yd3
  have s4 := cell_regrown y4
  have sd4 := cell_regrown yd4
  have s5 := cell_regrown y5
  have cE : ∀ dd os, Calls Tryz.prog 29 #[.slice p len cap, .slice p2 len2 cap2, .func (.func 11) #[] #[]] (Go.Sort.grow (redrawn w0 dd) os) fun e w'' => e = .returned (.bool true) ∧ ∃ p : Regrown, w'' = Go.Sort.grow (redrawn w0 p.d) p.os := fun dd os => Calls.regrown_of (HEQ.out _ (bel_call (below_regrown w0 dd os) hAB.out hAB.out.size))
  have hE1 := eq_cel (cC n.frm) (cR n.frm)
  have hE2 := eq_cel (cC n.tor) (cR n.tor)
  clear c0 c1 c2 c3 cd3 c4 cd4 c5 y0 y1 y2 y3 yd3 y4 yd4 y5 hh0 hh1 HEQ
  refine wp_region_plain_below ?_
  repeat (go_big_quiet_step ((first | with_reducible exact cE _ _)))
  refine wpQuiet_nil ?_
  intro _ hw'
  obtain ⟨⟨dz, osz⟩, hw''⟩ := hw'
  subst hw''
  have hBz : Below w.heap.size w (Go.Sort.grow (redrawn w0 dz) osz) := bel_call (below_regrown w0 dz osz) hAB.out hAB.out.size
  clear r0 r1 r2 r3 rd3 r4 rd4 r5 s0 s1 s2 s3 sd3 s4 sd4 s5 cE
  go_wp2_with fail
  go_ret
  exact ⟨rfl, hBz⟩
theorem same1_any : ∀ d, Same1C d
  | 0 => same1_s 0 (fun d' h => by omega)
  | d + 1 => same1_s (d + 1) (fun d' h => (show d = d' from by omega) ▸ same1_any d)
end Go.Proofs.YtigmcoelkkihkaaGreatDoor.Cel
namespace Go.Proofs.YtigmcoelkkihkaaGreatDoor
open Go.RowKit Go.Joins

set_option maxRecDepth 100000 in
set_option maxHeartbeats 4000000 in
theorem ptext_any (n : Nd) (d : Nat) (p : Option Addr) (len cap : Nat) (lv : Int) (w : World) (hrd : Cel.RdT w w.heap.size d n p len) (hok : OkN n) (hrt : rtN n lv = true) (hsh : w.ShapedOpen Tryz.prog) (hlen : wtN n ≤ 2200000) :
    Calls Tryz.prog 7 #[.agg (Cel.ndA n p len cap)] w fun e w' => e = .returned (.string ⟨(prN nmS n 1).toArray⟩) ∧ Below w.heap.size w w' := by
  have hA0 : Hid (Cel.NdB Cel.tPn (w.alloc (.cells (Cel.ndA n p len cap) Cel.tPn)) w.heap.size n p len cap) := heap_alloc_new w _
  have hAB : Hid (Below w.heap.size w (w.alloc (.cells (Cel.ndA n p len cap) Cel.tPn))) := by unfold Hid; (repeat' (first | (with_reducible exact Below.refl _ _) | (with_reducible assumption) | (with_reducible refine Below.alloc ?_ ?_ _) | (with_reducible refine bel_drewN ?_ _) | (with_reducible refine Below.drew ?_) | (with_reducible refine Below.setCell ?_ ?_ _) | (with_reducible refine bel_call ‹_› ?_ ?_) | go_size))
  have HP := Lib.hid (Cel.print_any n d p len cap lv (w.alloc (.cells (Cel.ndA n p len cap) Cel.tPn)) ((hrd.below hAB.out).mono hAB.out.size) hok hrt (shaped_below hsh hAB.out) hlen)
  generalize prN nmS n 1 = X at HP ⊢
  rw [Cel.ndA_eq] at HP
  rw [Cel.ndA_eq]
  clear hrd hok hrt hsh hlen
  go_enter Tryz.func7, Tryz.ntmps7
  go_upto_region 1 with fail
  have e0 : w.alloc (.cells #[.int .i64 n.kind, .int .i64 n.num, .string ⟨n.text.toArray⟩, .int .i64 (cC n.frm), .int .i64 (cR n.frm), .int .i64 (cC n.tor), .int .i64 (cR n.tor), .slice p len cap] Cel.tPn) = w.alloc (.cells (Cel.ndA n p len cap) Cel.tPn) := rfl
  rw [e0]
  clear e0
  generalize w.alloc (.cells (Cel.ndA n p len cap) Cel.tPn) = w0 at hA0 hAB HP ⊢
  obtain ⟨c0, c1, c2, c3, cd3, c4, cd4, c5⟩ := hA0.out.cells
  go_wp2_with fail
  refine HP.out.mono ?_
  rintro e w1 ⟨rfl, hb⟩
  have hB1 := bel_call hb hAB.out hAB.out.size
  go_wp2_with fail
  go_ret
  exact ⟨rfl, hB1⟩
set_option maxRecDepth 100000 in
set_option maxHeartbeats 4000000 in
theorem rtext10_any (n : Nd) (d : Nat) (p : Option Addr) (len cap : Nat) (lv : Int) (w : World) (hrd : RdT w w.heap.size d n p len) (hok : OkN n) (hfw : FewN n) (hrt : rtN n lv = true) (hlen : wtN n ≤ 2200000) :
    Calls Tryz.prog 10 #[.agg (ndA n p len cap)] w fun e w' => e = .returned (.string ⟨(prN nmS n 1).toArray⟩) ∧ Below w.heap.size w w' := by
  have hA0 : Hid (NdB tRn (w.alloc (.cells (ndA n p len cap) tRn)) w.heap.size n p len cap) := heap_alloc_new w _
  have hAB : Hid (Below w.heap.size w (w.alloc (.cells (ndA n p len cap) tRn))) := by unfold Hid; (repeat' (first | (with_reducible exact Below.refl _ _) | (with_reducible assumption) | (with_reducible refine Below.alloc ?_ ?_ _) | (with_reducible refine bel_drewN ?_ _) | (with_reducible refine Below.drew ?_) | (with_reducible refine Below.setCell ?_ ?_ _) | (with_reducible refine bel_call ‹_› ?_ ?_) | go_size))
  have HN := Lib.hid (named_any d n p len cap (w.alloc (.cells (ndA n p len cap) tRn)) ((hrd.below hAB.out).mono hAB.out.size) hok hfw)
  have HR := Lib.hid (fun q cq W (h : RdT W W.heap.size d (nmN nmS n) q len) => rprint_any d n q len cq 1 lv W trivial h hok hrt (by omega) (by omega) hlen)
  generalize prN nmS n 1 = X at HR ⊢
  rw [ndA_eq] at HN
  rw [ndA_eq]
  clear hrd hok hfw hrt hlen
  go_enter Tryz.func10, Tryz.ntmps10
  go_upto_region 1 with fail
  have e0 : w.alloc (.cells #[.int .i64 n.kind, .int .i64 n.num, .string ⟨n.text.toArray⟩, .int .i64 n.frm, .int .i64 n.tor, .slice p len cap] tRn) = w.alloc (.cells (ndA n p len cap) tRn) := rfl
  rw [e0]
  clear e0
  generalize w.alloc (.cells (ndA n p len cap) tRn) = w0 at hA0 hAB HN ⊢
  obtain ⟨c0, c1, c2, c3, c4, c5⟩ := hA0.out.cells
  go_wp2_with fail
  refine HN.out.mono ?_
  rintro e w1 ⟨⟨q, cq, rfl, hk⟩, hb⟩
  have hB1 : Hid (Below w.heap.size w w1) := bel_call hb hAB.out hAB.out.size
  have HR1 := Lib.hid (HR.out q cq w1 (hk.rdT (fun b h => h.2)))
  clear hb hk c0 c1 c2 c3 c4 c5 HN HR hA0
  rw [ndA_eq] at HR1
  rw [ndA_eq]
  go_wp2_with fail
  refine HR1.out.mono ?_
  rintro e w2 ⟨rfl, hb⟩
  have hB2 := bel_call hb hB1.out hB1.out.size
  go_wp2_with fail
  go_ret
  exact ⟨rfl, hB2⟩
/-- The chapter's example. -/
def exK : Nd := .mk 6 0 [42] 0 0 [.mk 3 0 [] 10001 0 [], .mk 1 2000000 [] 0 0 []]
def exN : Nd := .mk 6 0 [43] 0 0 [.mk 1 1000000 [] 0 0 [], exK]
theorem exN_fm : Fm exN := .bin _ _ _ (by decide) (.num _ (by omega) (by omega)) (.bin _ _ _ (by decide) (.ref _ (by show rtC (Int.tdiv 10001 10000) (Int.tmod 10001 10000) = true; decide)) (.num _ (by omega) (by omega)))
theorem exN_ok : OkN exN := by
  refine .mk _ _ _ _ _ _ (by simp) (by simp) (by omega) (by omega) (by omega) (fun c hc => ?_)
  rcases List.mem_cons.1 hc with rfl | hc
  · exact .mk _ _ _ _ _ _ (by simp) (by simp) (by omega) (by omega) (by omega) (fun c hc => by cases hc)
  · obtain rfl := List.mem_singleton.1 hc
    refine .mk _ _ _ _ _ _ (by simp) (by simp) (by omega) (by omega) (by omega) (fun c hc => ?_)
    rcases List.mem_cons.1 hc with rfl | hc
    · exact .mk _ _ _ _ _ _ (by simp) (by simp) (by omega) (by omega) (by omega) (fun c hc => by cases hc)
    · obtain rfl := List.mem_singleton.1 hc
      exact .mk _ _ _ _ _ _ (by simp) (by simp) (by omega) (by omega) (by omega) (fun c hc => by cases hc)
theorem exN_pr : prN nmS exN 1 = [49, 43, 65, 49, 42, 50] := by
  decide +kernel
theorem exN_dp : dpN exN = 3 := by decide
set_option maxRecDepth 100000 in
set_option maxHeartbeats 4000000 in
theorem awake_any (w : World) (hsh : w.ShapedOpen Tryz.prog) : Calls Tryz.prog 5 #[] w fun e w' => e = .returned (.bool true) ∧ Below w.heap.size w w' := by
  have HF := Lib.hid (formula_ok exN exN_fm (by rw [exN_dp]; omega) exN_ok ⟨#[49, 43, 65, 49, 42, 50]⟩ (by rw [exN_pr]) (by decide) w hsh)
  rw [exN_dp] at HF
  clear hsh
  go_enter Tryz.func5, Tryz.ntmps5
  go_wp2_with fail
  refine HF.out.mono ?_
  rintro e w1 ⟨⟨p, cap, rfl, hk⟩, hb1⟩
  obtain ⟨_, hr⟩ := hk 2 (Nat.le_refl _)
  obtain ⟨b, off, rfl, hbk, hkid⟩ : ∃ b off, p = some ⟨b, off, none⟩ ∧ b < w1.heap.size ∧ ∀ j c, exN.args[j]? = some c → ∃ p' l' c', (∀ k u, (Cel.ndC c p' l' c')[k]? = some u → w1.cell? ⟨b, off + j * 8 + k, none⟩ = some u) := by
    rcases hr with hr | ⟨b, off, h1, h2, h3⟩
    · exact absurd hr (by decide)
    · exact ⟨b, off, h1, h2.2, fun j c hc => by
        obtain ⟨p', l', c', h4, _⟩ := h3 j c hc
        exact ⟨p', l', c', h4⟩⟩
  obtain ⟨p', l', c', hcell⟩ := hkid 1 exK rfl
  have hs := hcell 2 _ rfl
  have HB1 := Lib.hid hb1
  clear hk hb1 hkid hr hcell HF
  rw [show Value.agg (Cel.ndA exN (some ⟨b, off, none⟩) exN.args.length cap) = .agg #[.int .i64 6, .int .i64 0, .string ⟨#[43]⟩, .int .i64 0, .int .i64 0, .int .i64 0, .int .i64 0, .slice (some ⟨b, off, none⟩) 2 cap] from rfl]
  have hs2 : w1.cell? ⟨b, off + 8 + 2, none⟩ = some (.string ⟨#[42]⟩) := hs
  have hs3 : w1.cell? ⟨b, off + 10, none⟩ = some (.string ⟨#[42]⟩) := hs
  clear hs
  go_wp2_with fail
  go_ret
  exact ⟨rfl, HB1.out.alloc HB1.out.size _⟩
end Go.Proofs.YtigmcoelkkihkaaGreatDoor
namespace Go.Proofs.YtigmcoelkkihkaaGreatDoor
open Go.RowKit Go.Joins

mutual
/-- A tree without what its kinds don't have. -/
def plN : Nd → Nd
  | .mk k u t f o a => .mk k (if k = 1 then u else 0) (if k = 2 ∨ k = 6 ∨ k = 7 then t else []) (if k = 3 ∨ k = 4 then f else 0) (if k = 3 ∨ k = 4 then o else 0) (plNL a)
def plNL : List Nd → List Nd
  | [] => []
  | c :: r => plN c :: plNL r
end
theorem plNL_map : ∀ a, plNL a = a.map plN
  | [] => rfl
  | c :: r => by rw [plNL, plNL_map r]; rfl
theorem plN_args (n : Nd) : (plN n).args = n.args.map plN := by cases n; rw [plN]; exact plNL_map _
theorem plN_arr (n : Nd) (q : Option Addr) (i cp : Nat) : ndA (plN n) q i cp = #[.int .i64 n.kind, .int .i64 (if n.kind = 1 then n.num else 0), .string ⟨(if n.kind = 2 ∨ n.kind = 6 ∨ n.kind = 7 then n.text else []).toArray⟩, .int .i64 (if n.kind = 3 ∨ n.kind = 4 then n.frm else 0), .int .i64 (if n.kind = 3 ∨ n.kind = 4 then n.tor else 0), .slice q i cp] := by cases n; rw [plN]; rfl
/-- Which blocks the parts of a row may lie in. -/
def okMpl (base : Nat) (w : World) (v : Value) (k : Nat) : Prop := base ≤ k ∧ k < w.heap.size ∧ v.ownBlock ≠ some k
theorem kidsMpl {base G d' l' c2 : Nat} {wr w3 w5 : World} {o : Obj} {v v' u : Value} {acc : List Kid} {c : Nd} {p2 : Option Addr} (hG : G < base) (hbs : base ≤ wr.heap.size) (hb : Below wr.heap.size wr w3) (hg : (w3.alloc o).grownBy w5 v.ownBlock)
    (hat : v'.ownBlock = v.ownBlock ∨ v'.ownBlock = some (w3.alloc o).heap.size) (hlt : ∀ b, v.ownBlock = some b → b < wr.heap.size) (hk : ∀ x ∈ acc, RdP wr (okMpl base wr v) d' x.1 x.2.1 x.2.2.1)
    (hn : RdP w3 (fun b => wr.heap.size ≤ b ∧ b < w3.heap.size) d' c p2 l') :
    ∀ x ∈ acc ++ [(c, p2, l', c2)], RdP (w5.setCell ⟨G, 5, none⟩ u) (okMpl base (w5.setCell ⟨G, 5, none⟩ u) v') d' x.1 x.2.1 x.2.2.1 := by
  have hs := hb.size
  have hs2 := hg.size
  rw [World.size_alloc] at hs2 hat
  have hblk : ∀ b, G ≠ b → b < w3.heap.size → v.ownBlock ≠ some b → (w5.setCell ⟨G, 5, none⟩ u).heap[b]? = w3.heap[b]? := fun b h1 h2 h3 => by
    rw [heap_setCell_other _ _ _ _ (fun e => h1 e.symm), hg.block b (by rw [World.size_alloc]; omega) (fun e => h3 e.symm), heap_alloc_old _ _ h2]
  intro x hx
  rcases List.mem_append.1 hx with hx | hx
  · refine RdP.carry (fun b hb' => ?_) (hk x hx)
    obtain ⟨h1, h2, h3⟩ := hb'
    refine ⟨⟨h1, by rw [World.size_setCell]; omega, ?_⟩, ?_⟩
    · rcases hat with e | e
      · rw [e]; exact h3
      · rw [e]; intro e'; have := Option.some.inj e'; omega
    · rw [hblk b (by omega) (by omega) h3, hb.block b h2]
  · obtain rfl := List.mem_singleton.1 hx
    refine RdP.carry (fun b hb' => ?_) hn
    obtain ⟨h1, h2⟩ := hb'
    have h3 : v.ownBlock ≠ some b := fun e => by have := hlt b e; omega
    refine ⟨⟨by omega, by rw [World.size_setCell]; omega, ?_⟩, ?_⟩
    · rcases hat with e | e
      · rw [e]; exact h3
      · rw [e]; intro e'; have := Option.some.inj e'; omega
    · exact hblk b (by omega) h2 h3
def plC (d : Nat) : Prop := ∀ (n : Nd) (p : Option Addr) (len cap : Nat) (w : World), RdT w w.heap.size d n p len → OkN n → FewN n → Calls Tryz.prog 17 #[.agg (ndA n p len cap)] w fun e w' => (∃ p' cap', e = .returned (.agg (ndA (plN n) p' len cap')) ∧ RdP w' (fun b => w.heap.size ≤ b ∧ b < w'.heap.size) d (plN n) p' len) ∧ Below w.heap.size w w'
set_option maxRecDepth 100000 in
set_option maxHeartbeats 16000000 in
theorem pl_s (d : Nat) (IH : ∀ d', d = d' + 1 → plC d') : plC d := by
  intro n p len cap w hrd hok hfew
  have HRD := Lib.hid hrd
  have HIH := Lib.hid IH
  have hlen := hfew.len
  rw [hrd.len] at hlen
  have HAL := Lib.hid hrd.len
  have HOK := Lib.hid (fun c hc => OkN.child (c := c) hok hc)
  have HFW := Lib.hid (fun c hc => FewN.child (c := c) hfew hc)
  have hofr := hok.frm
  have hoto := hok.tor
  have HGA : Hid ((plN n).args = n.args.map plN) := plN_args n
  rw [ndA_eq]
  clear hrd IH hok hfew hofr hoto
  go_enter Tryz.func17, Tryz.ntmps17
  go_upto_region 2 with fail
  have e0 : ((w.alloc (.cells #[.int .i64 n.kind, .int .i64 n.num, .string ⟨n.text.toArray⟩, .int .i64 n.frm, .int .i64 n.tor, .slice p len cap] tRn)).alloc (.cells #[.int .i64 0, .int .i64 0, .string ⟨#[]⟩, .int .i64 0, .int .i64 0, .slice none 0 0] tRn)).alloc (.cells #[.int .i64 n.kind, .int .i64 0, .string ⟨#[]⟩, .int .i64 0, .int .i64 0, .slice none 0 0] tRn) = ((w.alloc (.cells (ndA n p len cap) tRn)).alloc (.cells (ndA nodeZ none 0 0) tRn)).alloc (.cells (ndA (.mk n.kind 0 [] 0 0 []) none 0 0) tRn) := rfl
  rw [e0]
  clear e0
  have HN1 : Hid (NdB tRn (((w.alloc (.cells (ndA n p len cap) tRn)).alloc (.cells (ndA nodeZ none 0 0) tRn)).alloc (.cells (ndA (.mk n.kind 0 [] 0 0 []) none 0 0) tRn)) w.heap.size n p len cap) := (three_heap w _ _ _).1
  have HZ1 : Hid (BlkC (((w.alloc (.cells (ndA n p len cap) tRn)).alloc (.cells (ndA nodeZ none 0 0) tRn)).alloc (.cells (ndA (.mk n.kind 0 [] 0 0 []) none 0 0) tRn)) (w.heap.size + 1) (ndA nodeZ none 0 0) tRn) := (three_heap w _ _ _).2.1
  have HL1 : Hid (BlkC (((w.alloc (.cells (ndA n p len cap) tRn)).alloc (.cells (ndA nodeZ none 0 0) tRn)).alloc (.cells (ndA (.mk n.kind 0 [] 0 0 []) none 0 0) tRn)) (w.heap.size + 2) (ndA (.mk n.kind 0 [] 0 0 []) none 0 0) tRn) := (three_heap w _ _ _).2.2
  have HB1 : Hid (Below w.heap.size w (((w.alloc (.cells (ndA n p len cap) tRn)).alloc (.cells (ndA nodeZ none 0 0) tRn)).alloc (.cells (ndA (.mk n.kind 0 [] 0 0 []) none 0 0) tRn))) := three_below _ _ _
  generalize ((w.alloc (.cells (ndA n p len cap) tRn)).alloc (.cells (ndA nodeZ none 0 0) tRn)).alloc (.cells (ndA (.mk n.kind 0 [] 0 0 []) none 0 0) tRn) = w1 at HN1 HZ1 HL1 HB1 ⊢
  have k0 := (HN1.out.cells).1
  go_upto_block 0 with fail
  clear k0
  go_cut [3] (fun v3 wx => v3 = .pointer (some ⟨w.heap.size + 2, 0, none⟩) ∧ BlkC wx (w.heap.size + 2) (ndA (plN n) none 0 0) tRn ∧ NdB tRn wx w.heap.size n p len cap ∧ BlkC wx (w.heap.size + 1) (ndA nodeZ none 0 0) tRn ∧ Below w.heap.size w wx)
  case first =>
    have hbr : Below (w.heap.size + 2) w1 w1 := Below.refl _ _
    obtain ⟨c0, c1, c2, c3, c4, c5⟩ := HN1.out.cells
    obtain ⟨l0, l1, l2, l3, l4, l5⟩ := (show NdB tRn w1 (w.heap.size + 2) (.mk n.kind 0 [] 0 0 []) none 0 0 from HL1.out).cells
    have z0 := HL1.out.fz 1
    have z1 := HL1.out.fz 2
    have z2 := HL1.out.fz 3
    have z3 := HL1.out.fz 4
    have fin : ∀ W, BlkC W (w.heap.size + 2) (ndA (plN n) none 0 0) tRn → Below (w.heap.size + 2) w1 W → BlkC W (w.heap.size + 2) (ndA (plN n) none 0 0) tRn ∧ NdB tRn W w.heap.size n p len cap ∧ BlkC W (w.heap.size + 1) (ndA nodeZ none 0 0) tRn ∧ Below w.heap.size w W := fun W h1 h2 => ⟨h1, (h2.block _ (by omega)).trans HN1.out, (h2.block _ (by omega)).trans HZ1.out, HB1.out.trans (h2.mono (by omega))⟩
    have HFIN := Lib.hid fin
    have HL := Lib.hid HL1.out
    have HPA := Lib.hid (plN_arr n none 0 0)
    clear HN1 HZ1 HB1 HL1 fin
    by_cases h1 : n.kind = 1
    · have b1 : (n.kind == 1) = true := by simpa using h1
      have HE : Hid (ndA (plN n) none 0 0 = #[.int .i64 n.kind, .int .i64 n.num, .string ⟨#[]⟩, .int .i64 0, .int .i64 0, .slice none 0 0]) := by unfold Hid; rw [HPA.out, if_pos h1, if_neg (by omega), if_neg (by omega), if_neg (by omega)]
      clear h1 HPA
      go_wp2_with fail
      go_meet
      exact ⟨rfl, HFIN.out _ (by rw [HE.out]; exact block_setCell HL.out _) (hbr.setCell (Nat.le_refl _) _)⟩
    · have b1 : (n.kind == 1) = false := by simpa using h1
      by_cases h2 : n.kind = 2 ∨ n.kind = 6 ∨ n.kind = 7
      · have HE : Hid (ndA (plN n) none 0 0 = #[.int .i64 n.kind, .int .i64 0, .string ⟨n.text.toArray⟩, .int .i64 0, .int .i64 0, .slice none 0 0]) := by unfold Hid; rw [HPA.out, if_neg h1, if_pos h2, if_neg (by omega), if_neg (by omega)]
        have hbs : (n.kind == 2) = true ∨ ((n.kind == 2) = false ∧ (n.kind == 6) = true) ∨ ((n.kind == 2) = false ∧ (n.kind == 6) = false ∧ (n.kind == 7) = true) := by
          by_cases g2 : n.kind = 2
          · exact .inl (by simpa using g2)
          · by_cases g6 : n.kind = 6
            · exact .inr (.inl ⟨by simpa using g2, by simpa using g6⟩)
            · have g7 : n.kind = 7 := by omega
              exact .inr (.inr ⟨by simpa using g2, by simpa using g6, by simpa using g7⟩)
        clear h1 h2 HPA
        rcases hbs with b2 | ⟨b2, b6⟩ | ⟨b2, b6, b7⟩
        all_goals go_wp2_with fail
        all_goals go_meet
        all_goals exact ⟨rfl, HFIN.out _ (by rw [HE.out]; exact block_setCell HL.out _) (hbr.setCell (Nat.le_refl _) _)⟩
      · have b2 : (n.kind == 2) = false := by simp; omega
        have b6 : (n.kind == 6) = false := by simp; omega
        have b7 : (n.kind == 7) = false := by simp; omega
        by_cases h3 : n.kind = 3 ∨ n.kind = 4
        · have HE : Hid (ndA (plN n) none 0 0 = #[.int .i64 n.kind, .int .i64 0, .string ⟨#[]⟩, .int .i64 n.frm, .int .i64 n.tor, .slice none 0 0]) := by unfold Hid; rw [HPA.out, if_neg h1, if_neg h2, if_pos h3, if_pos h3]
          have hbs : (n.kind == 3) = true ∨ ((n.kind == 3) = false ∧ (n.kind == 4) = true) := by
            by_cases g2 : n.kind = 3
            · exact .inl (by simpa using g2)
            · have g4 : n.kind = 4 := by omega
              exact .inr ⟨by simpa using g2, by simpa using g4⟩
          have HS34 : Hid (∀ u v, BlkC ((w1.setCell ⟨w.heap.size + 2, 3, none⟩ u).setCell ⟨w.heap.size + 2, 4, none⟩ v) (w.heap.size + 2) #[.int .i64 n.kind, .int .i64 0, .string ⟨#[]⟩, u, v, .slice none 0 0] tRn) := fun u v => block_setCell (block_setCell HL.out u) v
          have HS43 : Hid (∀ u v, BlkC ((w1.setCell ⟨w.heap.size + 2, 4, none⟩ v).setCell ⟨w.heap.size + 2, 3, none⟩ u) (w.heap.size + 2) #[.int .i64 n.kind, .int .i64 0, .string ⟨#[]⟩, u, v, .slice none 0 0] tRn) := fun u v => block_setCell (block_setCell HL.out v) u
          clear h1 h2 h3 HPA
          rcases hbs with b3 | ⟨b3, b4⟩
          all_goals go_wp2_with fail
          all_goals go_region
          all_goals go_wp2_with fail
          all_goals go_meet
          all_goals first
            | exact ⟨rfl, HFIN.out _ (by rw [HE.out]; exact HS34.out _ _) (Below.drew ((hbr.setCell (p := ⟨w.heap.size + 2, 3, none⟩) (Nat.le_refl _) _).setCell (p := ⟨w.heap.size + 2, 4, none⟩) (Nat.le_refl _) _))⟩
            | exact ⟨rfl, HFIN.out _ (by rw [HE.out]; exact HS43.out _ _) (Below.drew ((hbr.setCell (p := ⟨w.heap.size + 2, 4, none⟩) (Nat.le_refl _) _).setCell (p := ⟨w.heap.size + 2, 3, none⟩) (Nat.le_refl _) _))⟩
        · have HE : Hid (ndA (plN n) none 0 0 = #[.int .i64 n.kind, .int .i64 0, .string ⟨#[]⟩, .int .i64 0, .int .i64 0, .slice none 0 0]) := by unfold Hid; rw [HPA.out, if_neg h1, if_neg h2, if_neg h3, if_neg h3]
          have b3 : (n.kind == 3) = false := by simp; omega
          have b4 : (n.kind == 4) = false := by simp; omega
          clear h1 h2 h3 HPA
          go_wp2_with fail
          go_meet
          exact ⟨rfl, HFIN.out _ (by rw [HE.out]; exact HL.out) hbr⟩
  case rest =>
    obtain ⟨hv, hL3, hN3, hZ3, hB3⟩ := hcut
    subst hv
    have HL3 := Lib.hid hL3
    have HN3 := Lib.hid hN3
    have HZ3 := Lib.hid hZ3
    have HB3 := Lib.hid hB3
    have hLb : w.heap.size + 2 < wc.heap.size := lt_some hL3
    have hLH : w.heap.size + 1 < w.heap.size + 2 := by omega
    have hH1 : w.heap.size + 1 < wc.heap.size := by omega
    clear hL3 hN3 hZ3 hB3 HN1 HZ1 HL1 HB1
    generalize wc = w3 at *
    obtain ⟨L, hLe⟩ : ∃ L, w.heap.size + 2 = L := ⟨_, rfl⟩
    rw [hLe] at HL3 hLb hLH ⊢
    clear hLe
    obtain ⟨base, hbase⟩ : ∃ base, w3.heap.size = base := ⟨_, rfl⟩
    have HB0 := Lib.hid hbase
    rw [hbase] at hLb hH1
    clear hbase
    obtain ⟨i0, hi, hz0, hz1, hz2⟩ := info_of info_rn
    go_wp2_with fail
    go_loopg [4] len (fun g v wr => ∃ (i : Nat) (acc : List Kid) (q : Option Addr) (cp : Nat), i + g = len ∧ v = .int .i64 i ∧ acc.map Prod.fst = (n.args.take i).map plN ∧ NdB tRn wr w.heap.size n p len cap ∧ BlkC wr (w.heap.size + 1) (ndA nodeZ none 0 0) tRn ∧ BlkC wr L (ndA (plN n) q i cp) tRn ∧ wr.ownsRow base tRn 6 (.slice q i cp) i (acc.flatMap kidC) ∧ (∀ d', d = d' + 1 → ∀ x ∈ acc, RdP wr (okMpl base wr (.slice q i cp)) d' x.1 x.2.1 x.2.2.1) ∧ Below w.heap.size w wr ∧ base ≤ wr.heap.size)
    case atStart => exact ⟨0, [], none, 0, by omega, rfl, rfl, HN3.out, HZ3.out, HL3.out, World.ownsRow_nil _ _ _ _, fun _ _ x hx => (by cases hx), HB3.out, by rw [HB0.out]; exact Nat.le_refl _⟩
    case round =>
      obtain ⟨i, acc, q, cp, hig, rfl, hacc, hn1, hn0, hn2, hown, hkid, hbel, hbs⟩ := hrel
      have HAC := Lib.hid hacc
      have HN1 := Lib.hid hn1
      have HN0 := Lib.hid hn0
      have HN2 := Lib.hid hn2
      have HOW := Lib.hid hown
      have HKD := Lib.hid hkid
      have HBL := Lib.hid hbel
      have hzr := hbel.size
      clear hacc hn1 hn0 hn2 hown hkid hbel HN3 HZ3 HL3 HB3 HB0
      obtain ⟨a0, a1, a2, a3, a4, a5⟩ := HN1.out.cells
      have b5 : wr.cell? ⟨L, 5, none⟩ = some (.slice q i cp) := HN2.out.cell 5 _ rfl
      by_cases hlt : i < len
      · have hli : (i : Int) < (len : Int) := by omega
        obtain ⟨d', b, off, c, p', l', c', hd, rfl, hbN, hc, hrc, q0, q1, q2, q3, q4, q5⟩ := (HRD.out.below HBL.out).at hlt
        have HC : Hid (plC d') := HIH.out d' hd
        have HCO := Lib.hid (HOK.out c (mem_at hc))
        have HCF := Lib.hid (HFW.out c (mem_at hc))
        have A5 := Kept.cell (N := base) a5 (by omega)
        have B5 := Kept.cell (N := base) b5 (by omega)
        have Q0 := Kept.cell (N := base) q0 (by omega)
        have Q1 := Kept.cell (N := base) q1 (by omega)
        have Q2 := Kept.cell (N := base) q2 (by omega)
        have Q3 := Kept.cell (N := base) q3 (by omega)
        have Q4 := Kept.cell (N := base) q4 (by omega)
        have Q5 := Kept.cell (N := base) q5 (by omega)
        go_upto_region 15 with fail
        refine wp_region_schedT (fun wx => ∃ x : Kept base wr, wx = x.v) 11 [([0,1,2,3,4,5,6],7),([],8),([],9)] [10] (by kernel_rfl) (by kernel_rfl) (by kernel_rfl) (by kernel_rfl) (kept_drew _ _ (by omega)) ?_
        (unfold wpSegK; simp only [pick_nil, pick_cons, nthO_zero, nthO_succ, List.append])
        clear a0 a1 a2 a3 a4 a5 b5 q0 q1 q2 q3 q4 q5
        repeat (go_big_quiet_step (fail))
        refine wpQuiet_nil ?_
        have HRC := Lib.hid hrc
        have HHC := Lib.hid hc
        have HHD := Lib.hid hd
        clear hrc hc hd
        have HCC := Lib.hid (HC.out c p' l' c' wr.drew ((HRC.out.below (Below.drew (Below.refl _ _))).mono hzr) HCO.out HCF.out)
        rw [ndA_eq c p' l' c'] at HCC
        go_wp2_with fail
        refine HCC.out.mono ?_
        rintro e w3 ⟨⟨p2, c2, rfl, hk3⟩, hb3⟩
        have hb4 : Hid (Below wr.heap.size wr w3) := bel_call hb3 (Below.drew (Below.refl _ _)) (Nat.le_refl _)
        have HK3 := Lib.hid hk3
        rw [show Value.agg (ndA (plN c) p2 l' c2) = .agg #[.int .i64 (plN c).kind, .int .i64 (plN c).num, .string ⟨(plN c).text.toArray⟩, .int .i64 (plN c).frm, .int .i64 (plN c).tor, .slice p2 l' c2] from rfl]
        clear HCC hk3 hb3
        go_wp2_with fail
        have hB3 : Hid (Below base wr w3) := hb4.out.mono (by omega)
        refine ⟨rfl, ⟨⟨w3, hB3.out⟩, rfl⟩, ?_⟩
        (unfold wpSegK; simp only [pick_nil, pick_cons, nthO_zero, nthO_succ, List.append])
        refine wpQuiet_nil ?_
        go_wp2_with fail
        have e4 : w3.alloc (.cells #[.int .i64 (plN c).kind, .int .i64 (plN c).num, .string ⟨(plN c).text.toArray⟩, .int .i64 (plN c).frm, .int .i64 (plN c).tor, .slice p2 l' c2] tRn) = w3.alloc (.cells (ndA (plN c) p2 l' c2) tRn) := rfl
        rw [e4]
        clear e4
        refine ⟨rfl, ⟨⟨_, hB3.out.alloc (by have := hb4.out.size; omega) _⟩, rfl⟩, ?_⟩
        (unfold wpSegK; simp only [pick_nil, pick_cons, nthO_zero, nthO_succ, List.append])
        refine wpQuiet_nil ?_
        have HRW := Lib.hid (row_below HOW.out hb4.out)
        refine wpList_append_own_at _ rfl _ _ _ rfl base tRn i0 _ 6 72 Tryz.underlying23 hi hz0 hz1 hz2 rfl (by decide) _ _ _ rfl (HRW.out.alloc _) ⟨w3.heap.size, 0, none⟩ 1 1 (ndC (plN c) p2 l' c2) rfl rfl (newRn w3 (plN c) p2 l' c2) ?c2 ?c3 ?c4 ?c5 ?_
        case c2 => exact kidC_one ((plN c), p2, l', c2)
        case c3 => unfold maxLen; omega
        case c4 => omega
        case c5 => rw [World.size_alloc]; have := hb4.out.size; omega
        intro v' w5 hown5 hgrow5 _ hat5
        have hB5 : Hid (Below base wr w5) := (hB3.out.alloc (by have := hb4.out.size; omega) _).grown hgrow5 (by rw [World.size_alloc]; have := hb4.out.size; omega) (fun k hk => (HRW.out.lt k hk).1)
        have HOW5 : Hid (w5.ownsRow base tRn 6 v' (i + 1) ((acc ++ [((plN c), p2, l', c2)]).flatMap kidC)) := by
          unfold Hid
          rw [flat_snoc]
          exact hown5
        have hla : acc.length = i := by
          have h := congrArg List.length HAC.out
          simp only [List.length_map, List.length_take] at h
          rw [HAL.out] at h
          omega
        obtain ⟨q5, cp5, hv5, _, _, _, _⟩ := RdG.of_own kidC_len (by rw [List.length_append, List.length_singleton, hla]) HOW5.out
        subst hv5
        have HN5 : Hid (BlkC w5 L (ndA (plN n) q i cp) tRn) := (hB5.out.block _ hLb).trans HN2.out
        have HKN := Lib.hid (kidsMpl (G := L) (u := .slice q5 (i + 1) cp5) (c2 := c2) hLb hbs hb4.out hgrow5 hat5 (fun b e => (HOW.out.lt b e).2) (HKD.out d' HHD.out) HK3.out)
        have hs5 := hB5.out.size
        clear hown5 hgrow5 hat5 HRW HK3 HKD HCF HCO HC HIH HOK HFW A5 B5 Q0 Q1 Q2 Q3 Q4 Q5
        have e5 : w5.cell? ⟨L, 5, none⟩ = some (.slice q i cp) := HN5.out.cell 5 _ rfl
        have g5 := HN5.out.fz 5
        go_wp2_with fail
        refine ⟨rfl, ⟨⟨w5, hB5.out⟩, rfl⟩, ?_⟩
        (unfold wpSegK; simp only [pick_nil, pick_cons, nthO_zero, nthO_succ, List.append])
        repeat (go_big_quiet_step (fail))
        refine wpQuiet_nil ?_
        go_wp2_with fail
        refine ⟨rfl, ?_⟩
        have HP6 : Hid (BlkC (w5.setCell ⟨L, 5, none⟩ (.slice q5 (i + 1) cp5)) L (ndA (plN n) q5 (i + 1) cp5) tRn) := block_setCell HN5.out _
        have HR6 : Hid (NdB tRn (w5.setCell ⟨L, 5, none⟩ (.slice q5 (i + 1) cp5)) w.heap.size n (some ⟨b, off, none⟩) len cap) := by
          unfold Hid NdB
          rw [heap_setCell_other _ _ _ _ (by show w.heap.size ≠ L; omega), hB5.out.block _ (by omega)]
          exact HN1.out
        have HZ6 : Hid (BlkC (w5.setCell ⟨L, 5, none⟩ (.slice q5 (i + 1) cp5)) (w.heap.size + 1) (ndA nodeZ none 0 0) tRn) := by
          unfold Hid BlkC
          rw [heap_setCell_other _ _ _ _ (by show w.heap.size + 1 ≠ L; omega), hB5.out.block _ (by omega)]
          exact HN0.out
        have HW6 : Hid ((w5.setCell ⟨L, 5, none⟩ (.slice q5 (i + 1) cp5)).ownsRow base tRn 6 (.slice q5 (i + 1) cp5) (i + 1) ((acc ++ [((plN c), p2, l', c2)]).flatMap kidC)) :=
          row_carry HOW5.out (fun b hb => heap_setCell_other _ _ _ _ (by have := (HOW5.out.lt b hb).1; show b ≠ L; omega))
        have HL6 : Hid (Below w.heap.size w (w5.setCell ⟨L, 5, none⟩ (.slice q5 (i + 1) cp5))) := (HBL.out.trans (hB5.out.mono (by omega))).setCell (by show w.heap.size ≤ L; omega) _
        have hz6 : base ≤ (w5.setCell ⟨L, 5, none⟩ (.slice q5 (i + 1) cp5)).heap.size := by rw [World.size_setCell]; omega
        have HAN : Hid ((acc ++ [((plN c), p2, l', c2)]).map Prod.fst = (n.args.take (i + 1)).map plN) := by
          unfold Hid
          rw [List.map_append, HAC.out, List.take_add_one, HHC.out]
          simp
        generalize w5.setCell ⟨L, 5, none⟩ (.slice q5 (i + 1) cp5) = w6 at HP6 HR6 HZ6 HW6 HL6 HKN hz6 ⊢
        clear HHC HN5 HN0 HN1 HN2 HOW HOW5 hB5 hB3 hb4 e5 g5 HBL
        go_wp2_with fail
        go_roundg (gk - 1)
        case measure => omega
        case rel =>
          refine ⟨i + 1, acc ++ [((plN c), p2, l', c2)], q5, cp5, by omega, by go_num, HAN.out, HR6.out, HZ6.out, HP6.out, HW6.out, fun d'' hd x hx => ?_, HL6.out, hz6⟩
          obtain rfl : d' = d'' := by have := HHD.out; omega
          exact HKN.out x hx
      · obtain rfl : i = len := by omega
        have hli : ¬ (i : Int) < (i : Int) := by omega
        have hla : acc.length = i := by
          have h := congrArg List.length HAC.out
          simp only [List.length_map, List.length_take] at h
          rw [HAL.out] at h
          omega
        clear a0 a1 a2 a3 a4 b5
        go_upto_region 16 with fail
        refine wp_region_lit ?_
        refine wpList_load_mid (by rfl) _ _ (by rfl) L 0 (by rfl) [.int .i64 (plN n).kind, .int .i64 (plN n).num, .string ⟨(plN n).text.toArray⟩, .int .i64 (plN n).frm, .int .i64 (plN n).tor, .slice q i cp] _ (block_range HN2.out [.int .i64 (plN n).kind, .int .i64 (plN n).num, .string ⟨(plN n).text.toArray⟩, .int .i64 (plN n).frm, .int .i64 (plN n).tor, .slice q i cp] rfl) Tryz.underlying25 rfl (by kernel_rfl) ?_
        go_simp
        refine wpList_store_mid (by rfl) _ _ _ (by rfl) (w.heap.size + 1) 0 #[.int .i64 (plN n).kind, .int .i64 (plN n).num, .string ⟨(plN n).text.toArray⟩, .int .i64 (plN n).frm, .int .i64 (plN n).tor, .slice q i cp] (by rfl) (by rfl) (block_there HN0.out 6 (Nat.le_refl _)) (by kernel_rfl) (by simp [Value.oneCell']) ?_
        have e8 : wr.setCells (w.heap.size + 1) 0 (#[.int .i64 (plN n).kind, .int .i64 (plN n).num, .string ⟨(plN n).text.toArray⟩, .int .i64 (plN n).frm, .int .i64 (plN n).tor, .slice q i cp]).toList = wr.setCells (w.heap.size + 1) 0 (ndA (plN n) q i cp).toList := rfl
        rw [e8]
        clear e8
        have HS8 : Hid (BlkC (wr.setCells (w.heap.size + 1) 0 (ndA (plN n) q i cp).toList) (w.heap.size + 1) (ndA (plN n) q i cp) tRn) := store_block HN0.out _ rfl
        have HB8 : Hid (Below w.heap.size w (wr.setCells (w.heap.size + 1) 0 (ndA (plN n) q i cp).toList)) := store_below (by omega) _ _ _ HBL.out
        have hz8 := (store_below (Nat.zero_le (w.heap.size + 1)) (ndA (plN n) q i cp).toList 0 wr (Below.refl 0 wr)).size
        have HO8 : Hid (∀ k, k ≠ w.heap.size + 1 → (wr.setCells (w.heap.size + 1) 0 (ndA (plN n) q i cp).toList).heap[k]? = wr.heap[k]?) := fun k hk => store_other hk _ _ _
        generalize wr.setCells (w.heap.size + 1) 0 (ndA (plN n) q i cp).toList = w9 at HS8 HB8 HO8 hz8 ⊢
        go_simp
        iterate 3 (first | go_values | go_skip | go_guarded | go_step | go_upon)
        apply wp_ret
        try simp only [Exit.inBlock, Exit.then]
        refine bodyPost_ret (results_cell_row rfl _ _ (w.heap.size + 1) tRn (ndA (plN n) q i cp) (0, 0) _ rfl HS8.out Tryz.underlying25 rfl (by kernel_rfl)) rfl ⟨⟨q, cp, rfl, ?_⟩, HB8.out⟩
        cases d with
        | zero =>
          have h := HRD.out
          refine ⟨?_, h.2⟩
          rw [HGA.out, h.1]; rfl
        | succ d =>
          subst hla
          obtain ⟨q', cp', hv, hr⟩ := RdP.of_rowR (n := (plN n)) (d := d) (ok := fun b => base ≤ b ∧ b < wr.heap.size) HOW.out (by rw [HAC.out, List.take_of_length_le (by rw [HAL.out]; exact Nat.le_refl _)]; exact HGA.out.symm) (fun x hx => RdP.carry (fun b hb => ⟨⟨hb.1, hb.2.1⟩, rfl⟩) (HKD.out d rfl x hx)) (fun b hb => HOW.out.lt b hb)
          cases hv
          exact RdP.carry (fun b hb => ⟨⟨by omega, by omega⟩, HO8.out b (by omega)⟩) hr
theorem pl_any : ∀ d, plC d
  | 0 => pl_s 0 (fun d' h => by omega)
  | d + 1 => pl_s (d + 1) (fun d' h => (show d = d' from by omega) ▸ pl_any d)
end Go.Proofs.YtigmcoelkkihkaaGreatDoor
