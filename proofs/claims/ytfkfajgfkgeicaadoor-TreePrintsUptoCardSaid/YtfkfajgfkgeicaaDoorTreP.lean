/- Trees: the walk of TreeRight. Printed by gen_trep.py. -/
import Derived.Test.YtfkfajgfkgeicaaDoorTreO
import Derived.Test.YtfkfajgfkgeicaaDoorTreJ
import Derived.Test.YtfkfajgfkgeicaaDoorTreH
set_option linter.unusedSimpArgs false
set_option linter.unusedVariables false
namespace Go.Proofs.YtfkfajgfkgeicaaDoor
open Go.RowKit Go.Joins

mutual
theorem smN_self : ∀ n : Nd, smN n n = true
  | .mk k u t f o a => by
    rw [smN_eq]
    simp [Nd.args, smL_self a]
theorem smL_self : ∀ a : List Nd, smL a a = true
  | [] => by rw [smL]
  | c :: r => by rw [smL, smN_self c, smL_self r]; rfl
end
theorem FewN.of_light {n : Nd} (h : lightB n = true) : FewN n := by
  unfold lightB at h
  simp only [Bool.and_eq_true, decide_eq_true_eq] at h
  exact ⟨200, Int.le_refl _, h.1⟩
set_option maxRecDepth 100000 in
set_option maxHeartbeats 16000000 in
theorem right_walk (d d2 : Nat) (n m : Nd) (p p2 : Option Addr) (len cap len2 cap2 : Nat) (w : World) (hrd : RdT w w.heap.size d n p len) (hrd2 : RdT w w.heap.size d2 m p2 len2) (hokn : OkN n) (hokm : OkN m) :
    Calls Tryd.prog 5 #[.agg (ndA n p len cap), .agg (ndA m p2 len2 cap2)] w fun e w' => e = .returned (.bool true) ∧ Below w.heap.size w w' := by
  obtain ⟨hh0, hh1⟩ : Hid (NdB tRn ((w.alloc (.cells (ndA n p len cap) tRn)).alloc (.cells (ndA m p2 len2 cap2) tRn)) w.heap.size n p len cap) ∧ Hid (NdB tRn ((w.alloc (.cells (ndA n p len cap) tRn)).alloc (.cells (ndA m p2 len2 cap2) tRn)) (w.heap.size + 1) m p2 len2 cap2) := by
    refine ⟨?_, ?_⟩
    · unfold Hid NdB
      rw [Lib.alloc_old _ _ _ (by simp)]
      exact heap_alloc_new w _
    · unfold Hid NdB
      have := heap_alloc_new (w.alloc (.cells (ndA n p len cap) tRn)) (.cells (ndA m p2 len2 cap2) tRn)
      rw [World.size_alloc] at this
      exact this
  have hAB : Hid (Below w.heap.size w ((w.alloc (.cells (ndA n p len cap) tRn)).alloc (.cells (ndA m p2 len2 cap2) tRn))) := by unfold Hid; (repeat' (first | (with_reducible exact Below.refl _ _) | (with_reducible assumption) | (with_reducible refine Below.alloc ?_ ?_ _) | (with_reducible refine bel_drewN ?_ _) | (with_reducible refine Below.drew ?_) | (with_reducible refine Below.setCell ?_ ?_ _) | (with_reducible refine bel_call ‹_› ?_ ?_) | go_size))
  have HN := Lib.hid (fun W (hW : Below w.heap.size w W) => (hrd.below hW).mono hW.size)
  have HM := Lib.hid (fun W (hW : Below w.heap.size w W) => (hrd2.below hW).mono hW.size)
  have hok := Lib.hid hokn
  have hok2 := Lib.hid hokm
  have HL1 := Lib.hid (fun W (hW : Below w.heap.size w W) => light_any d n p len cap W (HN.out W hW) hokn)
  have HL2 := Lib.hid (fun W (hW : Below w.heap.size w W) => light_any d2 m p2 len2 cap2 W (HM.out W hW) hokm)
  have HF1 := Lib.hid (fun (h : lightB n = true) => FewN.of_light h)
  have HF2 := Lib.hid (fun (h : lightB m = true) => FewN.of_light h)
  clear hrd hrd2 hokn hokm
  generalize lightB n = l1 at HL1 HF1
  generalize lightB m = l2 at HL2 HF2
  rw [ndA_eq, ndA_eq]
  go_enter Tryd.func5, Tryd.ntmps5
  go_upto_region 1 with fail
  have e0 : (w.alloc (.cells #[.int .i64 n.kind, .int .i64 n.num, .string ⟨n.text.toArray⟩, .int .i64 n.frm, .int .i64 n.tor, .slice p len cap] tRn)).alloc (.cells #[.int .i64 m.kind, .int .i64 m.num, .string ⟨m.text.toArray⟩, .int .i64 m.frm, .int .i64 m.tor, .slice p2 len2 cap2] tRn) = (w.alloc (.cells (ndA n p len cap) tRn)).alloc (.cells (ndA m p2 len2 cap2) tRn) := rfl
  rw [e0]
  clear e0
  generalize (w.alloc (.cells (ndA n p len cap) tRn)).alloc (.cells (ndA m p2 len2 cap2) tRn) = w0 at hh0 hh1 hAB ⊢
  have hBR : ∀ dd os, Below w.heap.size w (Go.Sort.grow (redrawn w0 dd) os) := fun dd os => bel_call (below_regrown w0 dd os) hAB.out hAB.out.size
  go_cut [12] (fun v wx => v = .bool (!l1 || !l2) ∧ Below w.heap.size w wx ∧ NdB tRn wx w.heap.size n p len cap ∧ NdB tRn wx (w.heap.size + 1) m p2 len2 cap2)
  case first =>
    obtain ⟨c0, c1, c2, c3, c4, c5⟩ := hh0.out.cells
    obtain ⟨y0, y1, y2, y3, y4, y5⟩ := hh1.out.cells
    have r0 := cell_regrown c0
    have r1 := cell_regrown c1
    have r2 := cell_regrown c2
    have r3 := cell_regrown c3
    have r4 := cell_regrown c4
    have r5 := cell_regrown c5
    have s0 := cell_regrown y0
    have s1 := cell_regrown y1
    have s2 := cell_regrown y2
    have s3 := cell_regrown y3
    have s4 := cell_regrown y4
    have s5 := cell_regrown y5
    have cL1 : ∀ dd os, Calls Tryd.prog 13 #[.agg #[.int .i64 n.kind, .int .i64 n.num, .string ⟨n.text.toArray⟩, .int .i64 n.frm, .int .i64 n.tor, .slice p len cap]] (Go.Sort.grow (redrawn w0 dd) os) fun e w'' => e = .returned (.bool l1) ∧ ∃ p : Regrown, w'' = Go.Sort.grow (redrawn w0 p.d) p.os := fun dd os => Calls.regrown_of (HL1.out _ (hBR dd os))
    have cL2 : ∀ dd os, Calls Tryd.prog 13 #[.agg #[.int .i64 m.kind, .int .i64 m.num, .string ⟨m.text.toArray⟩, .int .i64 m.frm, .int .i64 m.tor, .slice p2 len2 cap2]] (Go.Sort.grow (redrawn w0 dd) os) fun e w'' => e = .returned (.bool l2) ∧ ∃ p : Regrown, w'' = Go.Sort.grow (redrawn w0 p.d) p.os := fun dd os => Calls.regrown_of (HL2.out _ (hBR dd os))
    clear c0 c1 c2 c3 c4 c5 y0 y1 y2 y3 y4 y5 HL1 HL2 HF1 HF2 HN HM hok hok2
    cases l1
    all_goals
      refine wp_region_plain_below ?_
      repeat (go_big_quiet_step ((first | with_reducible exact cL1 _ _ | with_reducible exact cL2 _ _)))
      refine wpQuiet_nil ?_
      intro _ hw'
      obtain ⟨⟨dz, osz⟩, hw''⟩ := hw'
      subst hw''
      have hBz : Below w.heap.size w (Go.Sort.grow (redrawn w0 dz) osz) := hBR dz osz
      have hN0 : NdB tRn (Go.Sort.grow (redrawn w0 dz) osz) w.heap.size n p len cap := hh0.out.below (below_regrown w0 dz osz)
      have hN1 : NdB tRn (Go.Sort.grow (redrawn w0 dz) osz) (w.heap.size + 1) m p2 len2 cap2 := hh1.out.below (below_regrown w0 dz osz)
      clear r0 r1 r2 r3 r4 r5 s0 s1 s2 s3 s4 s5 cL1 cL2
      go_wp2_with fail
      go_meet
      exact ⟨by first | rfl | (cases l2 <;> rfl), hBz, hN0, hN1⟩
  case rest =>
    obtain ⟨hv, hB, hn0, hn1⟩ := hcut
    subst hv
    have hw3 := Lib.hid hB
    have hm0 := Lib.hid hn0
    have hm1 := Lib.hid hn1
    clear hB hn0 hn1 hh0 hh1 hAB hBR HL1 HL2
    by_cases hl : l1 = true ∧ l2 = true
    · obtain ⟨rfl, rfl⟩ := hl
      have hfn := Lib.hid (HF1.out rfl)
      have hfm := Lib.hid (HF2.out rfl)
      obtain ⟨c0, c1, c2, c3, c4, c5⟩ := hm0.out.cells
      obtain ⟨y0, y1, y2, y3, y4, y5⟩ := hm1.out.cells
      have r0 := Kept.at c0
      have r1 := Kept.at c1
      have r2 := Kept.at c2
      have r3 := Kept.at c3
      have r4 := Kept.at c4
      have r5 := Kept.at c5
      have s0 := Kept.at y0
      have s1 := Kept.at y1
      have s2 := Kept.at y2
      have s3 := Kept.at y3
      have s4 := Kept.at y4
      have s5 := Kept.at y5
      clear c0 c1 c2 c3 c4 c5 y0 y1 y2 y3 y4 y5 hm0 hm1 HF1 HF2
      go_upto_region 3 with fail
      refine wp_region_sched (fun wx => ∃ x : Kept wc.heap.size wc, wx = x.v) [([0,3],1),([],2),([],4),([5,6,7,10],8),([],9),([],11),([12,13,14,15,17,20,21],16),([],18),([],19),([],22),([23,24,25,26,28],27),([],29),([],30),([31,32],33)] [34,35] (by kernel_rfl) (by kernel_rfl) (by kernel_rfl) rfl (kept_drew _ _ (Nat.le_refl _)) ?_
      have kb0 : Hid (Below wc.heap.size wc wc.drew) := Below.drew (Below.refl _ _)
      (unfold wpSeg; simp only [pick_nil, pick_cons, nthO_zero, nthO_succ, List.append])
      repeat (go_big_quiet_step (fail))
      refine wpQuiet_nil ?_
      have hc1 := Lib.hid (to_any d n p len cap wc.drew (HN.out _ (hw3.out.trans (kb0.out.mono hw3.out.size))) hok.out hfn.out)
      simp only [ndA_eq] at hc1
      go_wp2_with fail
      refine hc1.out.mono ?_
      rintro e x1 ⟨⟨q1, cq1, rfl, hk⟩, hb⟩
      have kb1 : Hid (Below wc.heap.size wc x1) := bel_call hb kb0.out kb0.out.size
      have ht1 : Hid (RdT x1 x1.heap.size d n q1 len) := hk.rdT (fun b h => h.2)
      try rw [ndA_eq n q1 len cq1]
      clear hk hb hc1
      go_wp2_with fail
      refine ⟨rfl, ⟨⟨x1, kb1.out⟩, rfl⟩, ?_⟩
      (unfold wpSeg; simp only [pick_nil, pick_cons, nthO_zero, nthO_succ, List.append])
      repeat (go_big_quiet_step (fail))
      refine wpQuiet_nil ?_
      have hc2 := Lib.hid (Right_any d n q1 len cq1 x1 ht1.out hok.out)
      simp only [ndA_eq] at hc2
      go_wp2_with fail
      refine hc2.out.mono ?_
      rintro e x2 ⟨rfl, hb⟩
      have kb2 : Hid (Below wc.heap.size wc x2) := bel_call hb kb1.out kb1.out.size
      clear hb hc2
      go_wp2_with fail
      refine ⟨rfl, ⟨⟨x2, kb2.out⟩, rfl⟩, ?_⟩
      (unfold wpSeg; simp only [pick_nil, pick_cons, nthO_zero, nthO_succ, List.append])
      repeat (go_big_quiet_step (fail))
      refine wpQuiet_nil ?_
      have hc3 := Lib.hid (rright_any d n p len cap 64 x2 (HN.out _ (hw3.out.trans (kb2.out.mono hw3.out.size))) hok.out (by omega) (by omega))
      simp only [ndA_eq] at hc3
      go_wp2_with fail
      refine hc3.out.mono ?_
      rintro e x3 ⟨rfl, hb⟩
      have kb3 : Hid (Below wc.heap.size wc x3) := bel_call hb kb2.out kb2.out.size
      clear hb hc3
      go_wp2_with fail
      refine ⟨rfl, ⟨⟨x3, kb3.out⟩, rfl⟩, ?_⟩
      (unfold wpSeg; simp only [pick_nil, pick_cons, nthO_zero, nthO_succ, List.append])
      repeat (go_big_quiet_step (fail))
      refine wpQuiet_nil ?_
      have hc4 := Lib.hid (to_any d n p len cap x3 (HN.out _ (hw3.out.trans (kb3.out.mono hw3.out.size))) hok.out hfn.out)
      simp only [ndA_eq] at hc4
      go_wp2_with fail
      refine hc4.out.mono ?_
      rintro e x4 ⟨⟨q4, cq4, rfl, hk⟩, hb⟩
      have kb4 : Hid (Below wc.heap.size wc x4) := bel_call hb kb3.out kb3.out.size
      have ht4 : Hid (RdT x4 x4.heap.size d n q4 len) := hk.rdT (fun b h => h.2)
      try rw [ndA_eq n q4 len cq4]
      clear hk hb hc4
      go_wp2_with fail
      refine ⟨rfl, ⟨⟨x4, kb4.out⟩, rfl⟩, ?_⟩
      (unfold wpSeg; simp only [pick_nil, pick_cons, nthO_zero, nthO_succ, List.append])
      repeat (go_big_quiet_step (fail))
      refine wpQuiet_nil ?_
      have hc5 := Lib.hid (depth_any d n q4 len cq4 x4 ht4.out hok.out (by have := hfn.out.depth; omega))
      simp only [ndA_eq] at hc5
      go_wp2_with fail
      refine hc5.out.mono ?_
      rintro e x5 ⟨rfl, hb⟩
      have kb5 : Hid (Below wc.heap.size wc x5) := bel_call hb kb4.out kb4.out.size
      clear hb hc5
      go_wp2_with fail
      refine ⟨rfl, ⟨⟨x5, kb5.out⟩, rfl⟩, ?_⟩
      (unfold wpSeg; simp only [pick_nil, pick_cons, nthO_zero, nthO_succ, List.append])
      repeat (go_big_quiet_step (fail))
      refine wpQuiet_nil ?_
      have hc6 := Lib.hid (rdepth_any d n p len cap x5 (HN.out _ (hw3.out.trans (kb5.out.mono hw3.out.size))) hok.out (by have := hfn.out.depth; omega))
      simp only [ndA_eq] at hc6
      go_wp2_with fail
      refine hc6.out.mono ?_
      rintro e x6 ⟨rfl, hb⟩
      have kb6 : Hid (Below wc.heap.size wc x6) := bel_call hb kb5.out kb5.out.size
      clear hb hc6
      go_wp2_with fail
      refine ⟨rfl, ⟨⟨x6, kb6.out⟩, rfl⟩, ?_⟩
      (unfold wpSeg; simp only [pick_nil, pick_cons, nthO_zero, nthO_succ, List.append])
      repeat (go_big_quiet_step (fail))
      refine wpQuiet_nil ?_
      have hc7 := Lib.hid (to_any d n p len cap x6 (HN.out _ (hw3.out.trans (kb6.out.mono hw3.out.size))) hok.out hfn.out)
      simp only [ndA_eq] at hc7
      go_wp2_with fail
      refine hc7.out.mono ?_
      rintro e x7 ⟨⟨q7, cq7, rfl, hk⟩, hb⟩
      have kb7 : Hid (Below wc.heap.size wc x7) := bel_call hb kb6.out kb6.out.size
      have ht7 : Hid (RdT x7 x7.heap.size d n q7 len) := hk.rdT (fun b h => h.2)
      try rw [ndA_eq n q7 len cq7]
      clear hk hb hc7
      go_wp2_with fail
      refine ⟨rfl, ⟨⟨x7, kb7.out⟩, rfl⟩, ?_⟩
      (unfold wpSeg; simp only [pick_nil, pick_cons, nthO_zero, nthO_succ, List.append])
      repeat (go_big_quiet_step (fail))
      refine wpQuiet_nil ?_
      have hc8 := Lib.hid (to_any d2 m p2 len2 cap2 x7 (HM.out _ (hw3.out.trans (kb7.out.mono hw3.out.size))) hok2.out hfm.out)
      simp only [ndA_eq] at hc8
      go_wp2_with fail
      refine hc8.out.mono ?_
      rintro e x8 ⟨⟨q8, cq8, rfl, hk⟩, hb⟩
      have kb8 : Hid (Below wc.heap.size wc x8) := bel_call hb kb7.out kb7.out.size
      have ht8 : Hid (RdT x8 x8.heap.size d2 m q8 len2) := hk.rdT (fun b h => h.2)
      have ht7 : Hid (RdT x8 x8.heap.size d n q7 len) := (ht7.out.below hb).mono hb.size
      try rw [ndA_eq m q8 len2 cq8]
      clear hk hb hc8
      go_wp2_with fail
      refine ⟨rfl, ⟨⟨x8, kb8.out⟩, rfl⟩, ?_⟩
      (unfold wpSeg; simp only [pick_nil, pick_cons, nthO_zero, nthO_succ, List.append])
      repeat (go_big_quiet_step (fail))
      refine wpQuiet_nil ?_
      have hc9 := Lib.hid (same_any d d2 n m q7 q8 len cq7 len2 cq8 x8 ht7.out ht8.out hok.out hok2.out)
      simp only [ndA_eq] at hc9
      go_wp2_with fail
      refine hc9.out.mono ?_
      rintro e x9 ⟨rfl, hb⟩
      have kb9 : Hid (Below wc.heap.size wc x9) := bel_call hb kb8.out kb8.out.size
      clear hb hc9
      go_wp2_with fail
      refine ⟨rfl, ⟨⟨x9, kb9.out⟩, rfl⟩, ?_⟩
      (unfold wpSeg; simp only [pick_nil, pick_cons, nthO_zero, nthO_succ, List.append])
      repeat (go_big_quiet_step (fail))
      refine wpQuiet_nil ?_
      have hc10 := Lib.hid (rsame_any d d2 n m p p2 len cap len2 cap2 x9 (HN.out _ (hw3.out.trans (kb9.out.mono hw3.out.size))) (HM.out _ (hw3.out.trans (kb9.out.mono hw3.out.size))) hok.out hok2.out)
      simp only [ndA_eq] at hc10
      go_wp2_with fail
      refine hc10.out.mono ?_
      rintro e x10 ⟨rfl, hb⟩
      have kb10 : Hid (Below wc.heap.size wc x10) := bel_call hb kb9.out kb9.out.size
      clear hb hc10
      go_wp2_with fail
      refine ⟨rfl, ⟨⟨x10, kb10.out⟩, rfl⟩, ?_⟩
      (unfold wpSeg; simp only [pick_nil, pick_cons, nthO_zero, nthO_succ, List.append])
      repeat (go_big_quiet_step (fail))
      refine wpQuiet_nil ?_
      have hc11 := Lib.hid (to_any d n p len cap x10 (HN.out _ (hw3.out.trans (kb10.out.mono hw3.out.size))) hok.out hfn.out)
      simp only [ndA_eq] at hc11
      go_wp2_with fail
      refine hc11.out.mono ?_
      rintro e x11 ⟨⟨q11, cq11, rfl, hk⟩, hb⟩
      have kb11 : Hid (Below wc.heap.size wc x11) := bel_call hb kb10.out kb10.out.size
      have ht11 : Hid (RdT x11 x11.heap.size d n q11 len) := hk.rdT (fun b h => h.2)
      try rw [ndA_eq n q11 len cq11]
      clear hk hb hc11
      go_wp2_with fail
      refine ⟨rfl, ⟨⟨x11, kb11.out⟩, rfl⟩, ?_⟩
      (unfold wpSeg; simp only [pick_nil, pick_cons, nthO_zero, nthO_succ, List.append])
      repeat (go_big_quiet_step (fail))
      refine wpQuiet_nil ?_
      have hc12 := Lib.hid (to_any d n p len cap x11 (HN.out _ (hw3.out.trans (kb11.out.mono hw3.out.size))) hok.out hfn.out)
      simp only [ndA_eq] at hc12
      go_wp2_with fail
      refine hc12.out.mono ?_
      rintro e x12 ⟨⟨q12, cq12, rfl, hk⟩, hb⟩
      have kb12 : Hid (Below wc.heap.size wc x12) := bel_call hb kb11.out kb11.out.size
      have ht12 : Hid (RdT x12 x12.heap.size d n q12 len) := hk.rdT (fun b h => h.2)
      have ht11 : Hid (RdT x12 x12.heap.size d n q11 len) := (ht11.out.below hb).mono hb.size
      try rw [ndA_eq n q12 len cq12]
      clear hk hb hc12
      go_wp2_with fail
      refine ⟨rfl, ⟨⟨x12, kb12.out⟩, rfl⟩, ?_⟩
      (unfold wpSeg; simp only [pick_nil, pick_cons, nthO_zero, nthO_succ, List.append])
      repeat (go_big_quiet_step (fail))
      refine wpQuiet_nil ?_
      have hc13 := Lib.hid (same_any d d n n q11 q12 len cq11 len cq12 x12 ht11.out ht12.out hok.out hok.out)
      rw [smN_self] at hc13
      simp only [ndA_eq] at hc13
      go_wp2_with fail
      refine hc13.out.mono ?_
      rintro e x13 ⟨rfl, hb⟩
      have kb13 : Hid (Below wc.heap.size wc x13) := bel_call hb kb12.out kb12.out.size
      clear hb hc13
      go_wp2_with fail
      refine ⟨rfl, ⟨⟨x13, kb13.out⟩, rfl⟩, ?_⟩
      (unfold wpSeg; simp only [pick_nil, pick_cons, nthO_zero, nthO_succ, List.append])
      repeat (go_big_quiet_step (fail))
      refine wpQuiet_nil ?_
      have hc14 := Lib.hid (awake_any x13)
      skip
      go_wp2_with fail
      refine hc14.out.mono ?_
      rintro e x14 ⟨rfl, hb⟩
      have kb14 : Hid (Below wc.heap.size wc x14) := bel_call hb kb13.out kb13.out.size
      clear hb hc14
      go_wp2_with fail
      refine ⟨rfl, ⟨⟨x14, kb14.out⟩, rfl⟩, ?_⟩
      (unfold wpSeg; simp only [pick_nil, pick_cons, nthO_zero, nthO_succ, List.append])
      repeat (go_big_quiet_step (fail))
      refine wpQuiet_nil ?_
      have hb15 : Hid (Below w.heap.size w x14) := hw3.out.trans (kb14.out.mono hw3.out.size)
      go_wp2_with fail
      go_ret
      exact ⟨rfl, hb15.out⟩
    · have hl2 : (!l1 || !l2) = true := by cases l1 <;> cases l2 <;> simp_all
      rw [hl2]
      go_wp2_with fail
      refine (awake_any _).mono ?_
      rintro e x1 ⟨rfl, hb⟩
      have hb1 := bel_call hb hw3.out hw3.out.size
      go_wp2_with fail
      go_ret
      exact ⟨rfl, hb1⟩
end Go.Proofs.YtfkfajgfkgeicaaDoor
