/- Bind: the walk of BindCells. -/
import Derived.Test.YtljloggbfmnjmaaDoorBinI
import Derived.Test.YtljloggbfmnjmaaDoorKept
set_option linter.unusedSimpArgs false
set_option linter.unusedVariables false
namespace Go.Proofs.YtljloggbfmnjmaaDoor
open Go.RowKit Go.Joins

theorem four_set {w : World} {g : Nat} {t : TypeId} {c0 c1 c2 c3 : Value} (v0 v1 v2 v3 : Value) (h : BlkC w g #[c0, c1, c2, c3] t) : BlkC ((((w.setCell ⟨g, 0, none⟩ v0).setCell ⟨g, 1, none⟩ v1).setCell ⟨g, 2, none⟩ v2).setCell ⟨g, 3, none⟩ v3) g #[v0, v1, v2, v3] t := by
  have := set_same 3 v3 (set_same 2 v2 (set_same 1 v1 (set_same 0 v0 h)))
  simpa using this
theorem blk_other {w : World} {b g o : Nat} {cs : Array Value} {t : TypeId} {v : Value} (h : BlkC w b cs t) (hne : b ≠ g) : BlkC (w.setCell ⟨g, o, none⟩ v) b cs t := (heap_setCell_other _ _ _ _ hne).trans h
theorem atL_in {l : List Idp} {i : Nat} {x : Idp} (h : l[i]? = some x) : atL l ((i : Int) + 1) = (x, true) := by
  have hi := (List.getElem?_eq_some_iff.1 h).1
  unfold atL
  rw [if_pos ⟨by omega, by omega⟩]
  simp [List.getD, h]
theorem atL_out {l : List Idp} {k : Int} (h : (l.length : Int) < k) : atL l k = ((0, 0), false) := by
  unfold atL
  rw [if_neg (by omega)]
theorem eq_refs (a b c d : Int) (W : World) : (binOp .eql tRf (.agg #[.int .u64 a, .int .i64 b, .int .u64 c, .int .i64 d]) (.agg #[.int .u64 a, .int .i64 b, .int .u64 c, .int .i64 d])).run Tryd.prog W = .ok (.bool true) W := by
  go_simp
set_option maxRecDepth 100000 in
set_option maxHeartbeats 16000000 in
theorem cells_walk (l m : List Idp) (c r : Int) (x y : Idp) (p : Option Addr) (n cap : Nat) (p2 : Option Addr) (n2 cap2 : Nat) (w : World) (hrd : RdG idE 2 w p n l) (hn : n ≤ 9223372036854775807) (hrd2 : RdG idE 2 w p2 n2 m) (hn2 : n2 ≤ 9223372036854775807) :
    Calls Tryd.prog 3 #[.slice p n cap, .slice p2 n2 cap2, .agg #[.int .i64 c, .int .i64 r], .agg #[.int .u64 x.1, .int .i64 x.2, .int .u64 y.1, .int .i64 y.2]] w fun e w' => e = .returned (.bool true) ∧ Below w.heap.size w w' := by
  have HL1 := Lib.hid (fun W (hW : Below w.heap.size w W) => lines_any l p n cap W (hrd.below hW) hn)
  have HL2 := Lib.hid (fun W (hW : Below w.heap.size w W) => lines_any m p2 n2 cap2 W (hrd2.below hW) hn2)
  have hl1 := linesL_len l
  have hl2 := linesL_len m
  clear hrd hrd2
  generalize linesL l = L1 at HL1 hl1
  generalize linesL m = L2 at HL2 hl2
  have hh := Lib.hid (two_heap w (.cells #[.int .i64 c, .int .i64 r] tCl) (.cells #[.int .u64 x.1, .int .i64 x.2, .int .u64 y.1, .int .i64 y.2] 28))
  have hAB : Hid (Below w.heap.size w ((w.alloc (.cells #[.int .i64 c, .int .i64 r] tCl)).alloc (.cells #[.int .u64 x.1, .int .i64 x.2, .int .u64 y.1, .int .i64 y.2] 28))) := by unfold Hid; (repeat' (first | (with_reducible exact Below.refl _ _) | (with_reducible assumption) | (with_reducible refine Below.alloc ?_ ?_ _) | (with_reducible refine bel_drewN ?_ _) | (with_reducible refine Below.drew ?_) | (with_reducible refine Below.setCell ?_ ?_ _) | (with_reducible refine bel_call ‹_› ?_ ?_) | go_size))
  go_enter Tryd.func3, Tryd.ntmps3
  go_upto_region 1 with fail
  generalize (w.alloc (.cells #[.int .i64 c, .int .i64 r] tCl)).alloc (.cells #[.int .u64 x.1, .int .i64 x.2, .int .u64 y.1, .int .i64 y.2] 28) = w0 at hh hAB ⊢
  go_wp2_with fail
  refine (HL1.out w0 hAB.out).mono ?_
  rintro e w1 ⟨⟨q1, cq1, rfl, hr1⟩, hb⟩
  have hB1 : Hid (Below w.heap.size w w1) := bel_call hb hAB.out hAB.out.size
  have hX0 : Hid (BlkC w1 w.heap.size #[.int .i64 c, .int .i64 r] tCl) := BlkC.below hh.out.1 hb
  have hX1 : Hid (BlkC w1 (w.heap.size + 1) #[.int .u64 x.1, .int .i64 x.2, .int .u64 y.1, .int .i64 y.2] 28) := BlkC.below hh.out.2 hb
  have hR1 := Lib.hid hr1
  clear hb hr1 hAB hh HL1
  go_wp2_with fail
  refine (HL2.out w1 hB1.out).mono ?_
  rintro e w2 ⟨⟨q2, cq2, rfl, hr2⟩, hb⟩
  have hW : Hid (Below w.heap.size w w2) := bel_call hb hB1.out hB1.out.size
  have hX0 := Lib.hid (hX0.out.below hb)
  have hX1 := Lib.hid (hX1.out.below hb)
  have hR1 := Lib.hid (hR1.out.below hb)
  have hR2 := Lib.hid hr2
  clear hb hr2 hB1 HL2
  have c0 := hX0.out.cell 0 _ rfl
  have c1 := hX0.out.cell 1 _ rfl
  have HC := Lib.hid (cell_any L1 L2 c r q1 L1.length cq1 q2 L2.length cq2 w2 hR1.out (by omega) hR2.out (by omega))
  obtain ⟨S, hSS⟩ : ∃ S, celS L1 L2 c r = S := ⟨_, rfl⟩
  rw [hSS] at HC
  have HS := Lib.hid hSS
  obtain ⟨⟨⟨s1, s2⟩, s3, s4⟩, s5⟩ := S
  clear hSS
  go_wp2_with fail
  refine HC.out.mono ?_
  rintro e w3 ⟨rfl, hb⟩
  have hK3 : Hid (Below w2.heap.size w2 w3) := hb
  clear hb c0 c1 HC
  go_upto_region 4 with fail
  have hh := Lib.hid (two_heap w3 (.cells #[.int .u64 s1, .int .i64 s2, .int .u64 s3, .int .i64 s4] tRf) (.cells #[.int .u64 0, .int .i64 0, .int .u64 0, .int .i64 0] tRf))
  have hK4 : Hid (Below w2.heap.size w2 ((w3.alloc (.cells #[.int .u64 s1, .int .i64 s2, .int .u64 s3, .int .i64 s4] tRf)).alloc (.cells #[.int .u64 0, .int .i64 0, .int .u64 0, .int .i64 0] tRf))) := (hK3.out.alloc hK3.out.size _).alloc (by rw [World.size_alloc]; have := hK3.out.size; omega) _
  have hg0 : w2.heap.size ≤ w3.heap.size := hK3.out.size
  generalize (w3.alloc (.cells #[.int .u64 s1, .int .i64 s2, .int .u64 s3, .int .i64 s4] tRf)).alloc (.cells #[.int .u64 0, .int .i64 0, .int .u64 0, .int .i64 0] tRf) = w4 at hh hK4 ⊢
  have hG1 : Hid (BlkC w4 w3.heap.size #[.int .u64 s1, .int .i64 s2, .int .u64 s3, .int .i64 s4] tRf) := hh.out.1
  have hG3 : Hid (BlkC w4 (w3.heap.size + 1) #[.int .u64 0, .int .i64 0, .int .u64 0, .int .i64 0] tRf) := hh.out.2
  clear hh hK3
  generalize w3.heap.size = g at hG1 hG3 hg0 ⊢
  have hz2 : w.heap.size + 1 < w2.heap.size := lt_some hX1.out
  have c0 := (hX0.out.below hK4.out).cell 0 _ rfl
  have c1 := (hX0.out.below hK4.out).cell 1 _ rfl
  go_wp2_with fail
  refine (cright_any c r w4).mono ?_
  rintro e w5 ⟨rfl, hb⟩
  have hK5 : Hid (Below w2.heap.size w2 w5) := bel_call hb hK4.out hK4.out.size
  have hH1 := Lib.hid (hG1.out.below hb)
  have hH3 := Lib.hid (hG3.out.below hb)
  clear hb c0 c1 hG1 hG3 hK4
  go_upto_if 37 with fail
  go_cut [14] (fun v wx => v = .int .i64 s5 ∧ Below w2.heap.size w2 wx ∧ BlkC wx g #[.int .u64 s1, .int .i64 s2, .int .u64 s3, .int .i64 s4] tRf ∧ BlkC wx (g + 1) #[.int .u64 s1, .int .i64 s2, .int .u64 s3, .int .i64 s4] tRf)
  case first =>
    by_cases hr : rtC c r = true
    · have c0 := (hX0.out.below hK5.out).cell 0 _ rfl
      have c1 := (hX0.out.below hK5.out).cell 1 _ rfl
      have hbd : 1 ≤ c ∧ c ≤ 702 ∧ 1 ≤ r ∧ r ≤ 9999 := by
        unfold rtC at hr
        simpa using hr
      rw [hr]
      have HSC := HS.out
      unfold celS at HSC
      rw [if_pos hr] at HSC
      have HSC := Lib.hid HSC
      clear hr
      by_cases h1 : (L1.length : Int) < r
      · have hz : Hid (s1 = 0 ∧ s2 = 0 ∧ s3 = 0 ∧ s4 = 0 ∧ s5 = 23) := by
          have := HSC.out
          rw [atL_out h1, if_neg (by simp)] at this
          simp only [Prod.mk.injEq] at this
          unfold Hid
          omega
        obtain ⟨rfl, rfl, rfl, rfl, rfl⟩ := hz.out
        clear hz HSC HS
        go_wp2_with fail
        go_meet
        exact ⟨rfl, hK5.out, hH1.out, hH3.out⟩
      · by_cases h2 : (L2.length : Int) < c
        · have hz : Hid (s1 = 0 ∧ s2 = 0 ∧ s3 = 0 ∧ s4 = 0 ∧ s5 = 23) := by
            have := HSC.out
            rw [atL_out h2, if_neg (by simp)] at this
            simp only [Prod.mk.injEq] at this
            unfold Hid
            omega
          obtain ⟨rfl, rfl, rfl, rfl, rfl⟩ := hz.out
          clear hz HSC HS
          go_wp2_with fail
          go_meet
          exact ⟨rfl, hK5.out, hH1.out, hH3.out⟩
        · obtain ⟨i, hi⟩ : ∃ i : Nat, r = (i : Int) + 1 := ⟨(r - 1).toNat, by omega⟩
          obtain ⟨j, hj⟩ : ∃ j : Nat, c = (j : Int) + 1 := ⟨(c - 1).toNat, by omega⟩
          subst hi hj
          obtain ⟨b1, o1, rfl, hb1, hx1⟩ := hR1.out.some (j := i) (by omega)
          obtain ⟨b2, o2, rfl, hb2, hx2⟩ := hR2.out.some (j := j) (by omega)
          obtain ⟨u, hu⟩ : ∃ u, L1[i]? = some u := ⟨_, List.getElem?_eq_getElem (by omega)⟩
          obtain ⟨v, hv⟩ : ∃ v, L2[j]? = some v := ⟨_, List.getElem?_eq_getElem (by omega)⟩
          have hz : Hid (u = (s1, s2) ∧ v = (s3, s4) ∧ s5 = 0) := by
            have := HSC.out
            rw [atL_in hu, atL_in hv, if_pos ⟨rfl, rfl⟩] at this
            simp only [Prod.mk.injEq] at this
            exact ⟨this.1.1, this.1.2, this.2.symm⟩
          obtain ⟨rfl, rfl, rfl⟩ := hz.out
          have p0 := (hK5.out.cell (p := ⟨b1, o1 + i * 2, none⟩) hb1).trans (hx1 i _ hu 0 _ rfl)
          have p1 := (hK5.out.cell (p := ⟨b1, o1 + i * 2 + 1, none⟩) hb1).trans (hx1 i _ hu 1 _ rfl)
          have t0 := (hK5.out.cell (p := ⟨b2, o2 + j * 2, none⟩) hb2).trans (hx2 j _ hv 0 _ rfl)
          have t1 := (hK5.out.cell (p := ⟨b2, o2 + j * 2 + 1, none⟩) hb2).trans (hx2 j _ hv 1 _ rfl)
          have g1 : IntKind.i64.wrap ((i : Int) + 1 - 1) = (i : Int) := by rw [show (i : Int) + 1 - 1 = (i : Int) from by omega]; exact IntWalk.i64_in _ (by omega)
          have g2 : IntKind.i64.wrap ((j : Int) + 1 - 1) = (j : Int) := by rw [show (j : Int) + 1 - 1 = (j : Int) from by omega]; exact IntWalk.i64_in _ (by omega)
          have h1n : i < L1.length := by omega
          have h2n : j < L2.length := by omega
          clear hz HSC HS hx1 hx2 hu hv
          go_upto_region 8 with fail
          have C0 := Kept.at c0
          have C1 := Kept.at c1
          have P0 := Kept.at p0
          have P1 := Kept.at p1
          have T0 := Kept.at t0
          have T1 := Kept.at t1
          refine wp_region_schedT (fun wx => ∃ x : Kept w5.heap.size w5, wx = x.v) 13 [] [0,1,2,3,4,5,6,7,8,9,10,11,12] (by kernel_rfl) (by kernel_rfl) (by kernel_rfl) (by kernel_rfl) (kept_drew _ _ (Nat.le_refl _)) ?_
          (unfold wpSegK; simp only [pick_nil, pick_cons, nthO_zero, nthO_succ, List.append])
          clear c0 c1 p0 p1 t0 t1
          repeat (go_big_quiet_step (fail))
          refine wpQuiet_nil ?_
          have hD : Below w5.heap.size w5 w5.drew := Below.drew (Below.refl _ _)
          have hH3d := Lib.hid (hH3.out.below hD)
          have hH1d := Lib.hid (hH1.out.below hD)
          have hKd : Hid (Below w2.heap.size w2 w5.drew) := bel_call hD hK5.out hK5.out.size
          clear hD C0 C1 P0 P1 T0 T1
          generalize w5.drew = w6 at hH3d hH1d hKd ⊢
          have e0 := hH3d.out.cell 0 _ rfl
          have e1 := hH3d.out.cell 1 _ rfl
          have e2 := hH3d.out.cell 2 _ rfl
          have e3 := hH3d.out.cell 3 _ rfl
          have f0 := hH3d.out.fz 0
          have f1 := hH3d.out.fz 1
          have f2 := hH3d.out.fz 2
          have f3 := hH3d.out.fz 3
          go_wp2_with fail
          refine ⟨rfl, ?_⟩
          go_wp2_with fail
          go_meet
          exact ⟨rfl, (((hKd.out.setCell (by show w2.heap.size ≤ g + 1; omega) _).setCell (by show w2.heap.size ≤ g + 1; omega) _).setCell (by show w2.heap.size ≤ g + 1; omega) _).setCell (by show w2.heap.size ≤ g + 1; omega) _, blk_other (blk_other (blk_other (blk_other hH1d.out (by omega)) (by omega)) (by omega)) (by omega), four_set _ _ _ _ hH3d.out⟩
    · have hr2 : rtC c r = false := by simpa using hr
      have hz : Hid (s1 = 0 ∧ s2 = 0 ∧ s3 = 0 ∧ s4 = 0 ∧ s5 = 20) := by
        have := HS.out
        unfold celS at this
        rw [if_neg hr] at this
        simp only [Prod.mk.injEq] at this
        unfold Hid
        omega
      rw [hr2]
      obtain ⟨rfl, rfl, rfl, rfl, rfl⟩ := hz.out
      clear hz hr hr2
      go_wp2_with fail
      go_meet
      exact ⟨rfl, hK5.out, hH1.out, hH3.out⟩
  case rest =>
    obtain ⟨hv, hK, hgg1, hgg3⟩ := hcut
    subst hv
    have hKc := Lib.hid hK
    have hc1 := Lib.hid hgg1
    have hc3 := Lib.hid hgg3
    clear hK hgg1 hgg3 hK5 hH1 hH3 HS
    have d0 := (hX1.out.below hKc.out).cell 0 _ rfl
    have d1 := (hX1.out.below hKc.out).cell 1 _ rfl
    have d2 := (hX1.out.below hKc.out).cell 2 _ rfl
    have d3 := (hX1.out.below hKc.out).cell 3 _ rfl
    have HPL := Lib.hid (place_any L1 L2 x y q1 L1.length cq1 q2 L2.length cq2 wc (hR1.out.below hKc.out) (by omega) (hR2.out.below hKc.out) (by omega))
    obtain ⟨k1, hk1⟩ : ∃ k, plL L1 x = k := ⟨_, rfl⟩
    obtain ⟨k2, hk2⟩ : ∃ k, plL L2 y = k := ⟨_, rfl⟩
    have hkl1 := plL_le L1 x
    have hkl2 := plL_le L2 y
    rw [hk1] at hkl1
    rw [hk2] at hkl2
    by_cases hp : 0 < k1 ∧ 0 < k2
    · have hp1 : ((k1 : Int) == 0) = false := by simp; omega
      have hp2 : ((k2 : Int) == 0) = false := by simp; omega
      have hp3 : (0 : Int) < (k1 : Int) := by omega
      have HP : Hid (plcS L1 L2 x y = ((k2, k1), true)) := by unfold Hid plcS; rw [hk1, hk2, if_pos hp]
      rw [HP.out] at HPL
      go_wp2_with fail
      refine HPL.out.mono ?_
      rintro e w7 ⟨rfl, hb⟩
      have hK7 : Hid (Below w2.heap.size w2 w7) := bel_call hb hKc.out hKc.out.size
      have hM1 := Lib.hid (hc1.out.below hb)
      have hM3 := Lib.hid (hc3.out.below hb)
      clear hb hKc hc1 hc3 d0 d1 d2 d3 HPL HP
      go_upto_region 10 with fail
      have hN := Lib.hid (blk_new w7 #[.int .i64 (k2 : Nat), .int .i64 (k1 : Nat)] tCl)
      have hK8 : Hid (Below w2.heap.size w2 (w7.alloc (.cells #[.int .i64 (k2 : Nat), .int .i64 (k1 : Nat)] tCl))) := hK7.out.alloc hK7.out.size _
      have hP1 := Lib.hid (hM1.out.alloc (.cells #[.int .i64 (k2 : Nat), .int .i64 (k1 : Nat)] tCl))
      have hP3 := Lib.hid (hM3.out.alloc (.cells #[.int .i64 (k2 : Nat), .int .i64 (k1 : Nat)] tCl))
      clear hK7 hM1 hM3
      have e8 : w7.alloc (.cells #[.int .i64 (k2 : Nat), .int .i64 (k1 : Nat)] tCl) = w7.alloc (.cells #[.int .i64 k2, .int .i64 k1] tCl) := rfl
      try rw [← e8]
      clear e8
      generalize w7.alloc (.cells #[.int .i64 (k2 : Nat), .int .i64 (k1 : Nat)] tCl) = w8 at hN hK8 hP1 hP3 ⊢
      generalize w7.heap.size = g8 at hN ⊢
      have d0 := cell_regrown ((hX1.out.below hK8.out).cell 0 _ rfl)
      have d1 := cell_regrown ((hX1.out.below hK8.out).cell 1 _ rfl)
      have d2 := cell_regrown ((hX1.out.below hK8.out).cell 2 _ rfl)
      have d3 := cell_regrown ((hX1.out.below hK8.out).cell 3 _ rfl)
      have hBR : ∀ dd os, Below w2.heap.size w2 (Go.Sort.grow (redrawn w8 dd) os) := fun dd os => bel_call (below_regrown w8 dd os) hK8.out hK8.out.size
      have cX : ∀ dd os, Calls Tryd.prog 9 #[.slice q1 L1.length cq1, .agg #[.int .u64 x.1, .int .i64 x.2]] (Go.Sort.grow (redrawn w8 dd) os) fun e w'' => e = .returned (.int .i64 (k1 : Nat)) ∧ ∃ p : Regrown, w'' = Go.Sort.grow (redrawn w8 p.1) p.2 := fun dd os => by
        have h := rplace_any L1 x q1 L1.length cq1 _ (hR1.out.below (hBR dd os)) (by omega)
        rw [hk1] at h
        exact Calls.regrown_of h
      have cY : ∀ dd os, Calls Tryd.prog 9 #[.slice q2 L2.length cq2, .agg #[.int .u64 y.1, .int .i64 y.2]] (Go.Sort.grow (redrawn w8 dd) os) fun e w'' => e = .returned (.int .i64 (k2 : Nat)) ∧ ∃ p : Regrown, w'' = Go.Sort.grow (redrawn w8 p.1) p.2 := fun dd os => by
        have h := rplace_any L2 y q2 L2.length cq2 _ (hR2.out.below (hBR dd os)) (by omega)
        rw [hk2] at h
        exact Calls.regrown_of h
      have HPP := Lib.hid hp
      clear hp hk1 hk2
      refine wp_region_quiet_below (by kernel_rfl) (by kernel_rfl) ?_
      repeat (go_big_quiet_step ((first | with_reducible exact cX _ _ | with_reducible exact cY _ _)))
      refine wpQuiet_nil ?_
      intro _ hw'
      obtain ⟨⟨dz, osz⟩, hw''⟩ := hw'
      subst hw''
      have hKz : Hid (Below w2.heap.size w2 (Go.Sort.grow (redrawn w8 dz) osz)) := hBR dz osz
      have hNz := Lib.hid (hN.out.below (below_regrown w8 dz osz))
      have hQ1 := Lib.hid (hP1.out.below (below_regrown w8 dz osz))
      have hQ3 := Lib.hid (hP3.out.below (below_regrown w8 dz osz))
      clear d0 d1 d2 d3 hBR cX cY hK8 hN hP1 hP3
      generalize Go.Sort.grow (redrawn w8 dz) osz = w9 at hKz hNz hQ1 hQ3 ⊢
      have m0 := hQ1.out.cell 0 _ rfl
      have o0 := hQ3.out.cell 0 _ rfl
      have m1 := hQ1.out.cell 1 _ rfl
      have o1 := hQ3.out.cell 1 _ rfl
      have m2 := hQ1.out.cell 2 _ rfl
      have o2 := hQ3.out.cell 2 _ rfl
      have m3 := hQ1.out.cell 3 _ rfl
      have o3 := hQ3.out.cell 3 _ rfl
      have z0 := hNz.out.cell 0 _ rfl
      have z1 := hNz.out.cell 1 _ rfl
      have hop := eq_refs s1 s2 s3 s4
      go_wp2_with fail
      refine (awake_any w9).mono ?_
      rintro e w10 ⟨rfl, hb⟩
      have hBf : Below w.heap.size w w10 := hW.out.trans ((bel_call hb hKz.out hKz.out.size).mono hW.out.size)
      go_wp2_with fail
      go_ret
      exact ⟨rfl, hBf⟩
    · have HP : Hid (plcS L1 L2 x y = ((0, 0), false)) := by unfold Hid plcS; rw [hk1, hk2, if_neg hp]
      rw [HP.out] at HPL
      go_wp2_with fail
      refine HPL.out.mono ?_
      rintro e w7 ⟨rfl, hb⟩
      have hK7 : Hid (Below w2.heap.size w2 w7) := bel_call hb hKc.out hKc.out.size
      have hM1 := Lib.hid (hc1.out.below hb)
      have hM3 := Lib.hid (hc3.out.below hb)
      clear hb hKc hc1 hc3 d0 d1 d2 d3 HPL HP
      go_upto_region 10 with fail
      have hN := Lib.hid (blk_new w7 #[.int .i64 (0 : Nat), .int .i64 (0 : Nat)] tCl)
      have hK8 : Hid (Below w2.heap.size w2 (w7.alloc (.cells #[.int .i64 (0 : Nat), .int .i64 (0 : Nat)] tCl))) := hK7.out.alloc hK7.out.size _
      have hP1 := Lib.hid (hM1.out.alloc (.cells #[.int .i64 (0 : Nat), .int .i64 (0 : Nat)] tCl))
      have hP3 := Lib.hid (hM3.out.alloc (.cells #[.int .i64 (0 : Nat), .int .i64 (0 : Nat)] tCl))
      clear hK7 hM1 hM3
      have e8 : w7.alloc (.cells #[.int .i64 (0 : Nat), .int .i64 (0 : Nat)] tCl) = w7.alloc (.cells #[.int .i64 0, .int .i64 0] tCl) := rfl
      try rw [← e8]
      clear e8
      generalize w7.alloc (.cells #[.int .i64 (0 : Nat), .int .i64 (0 : Nat)] tCl) = w8 at hN hK8 hP1 hP3 ⊢
      generalize w7.heap.size = g8 at hN ⊢
      have d0 := cell_regrown ((hX1.out.below hK8.out).cell 0 _ rfl)
      have d1 := cell_regrown ((hX1.out.below hK8.out).cell 1 _ rfl)
      have d2 := cell_regrown ((hX1.out.below hK8.out).cell 2 _ rfl)
      have d3 := cell_regrown ((hX1.out.below hK8.out).cell 3 _ rfl)
      have hBR : ∀ dd os, Below w2.heap.size w2 (Go.Sort.grow (redrawn w8 dd) os) := fun dd os => bel_call (below_regrown w8 dd os) hK8.out hK8.out.size
      have cX : ∀ dd os, Calls Tryd.prog 9 #[.slice q1 L1.length cq1, .agg #[.int .u64 x.1, .int .i64 x.2]] (Go.Sort.grow (redrawn w8 dd) os) fun e w'' => e = .returned (.int .i64 (k1 : Nat)) ∧ ∃ p : Regrown, w'' = Go.Sort.grow (redrawn w8 p.1) p.2 := fun dd os => by
        have h := rplace_any L1 x q1 L1.length cq1 _ (hR1.out.below (hBR dd os)) (by omega)
        rw [hk1] at h
        exact Calls.regrown_of h
      have cY : ∀ dd os, Calls Tryd.prog 9 #[.slice q2 L2.length cq2, .agg #[.int .u64 y.1, .int .i64 y.2]] (Go.Sort.grow (redrawn w8 dd) os) fun e w'' => e = .returned (.int .i64 (k2 : Nat)) ∧ ∃ p : Regrown, w'' = Go.Sort.grow (redrawn w8 p.1) p.2 := fun dd os => by
        have h := rplace_any L2 y q2 L2.length cq2 _ (hR2.out.below (hBR dd os)) (by omega)
        rw [hk2] at h
        exact Calls.regrown_of h
      have HPP := Lib.hid hp
      clear hp hk1 hk2
      refine wp_region_quiet_below (by kernel_rfl) (by kernel_rfl) ?_
      repeat (go_big_quiet_step ((first | with_reducible exact cX _ _ | with_reducible exact cY _ _)))
      refine wpQuiet_nil ?_
      intro _ hw'
      obtain ⟨⟨dz, osz⟩, hw''⟩ := hw'
      subst hw''
      have hKz : Hid (Below w2.heap.size w2 (Go.Sort.grow (redrawn w8 dz) osz)) := hBR dz osz
      have hNz := Lib.hid (hN.out.below (below_regrown w8 dz osz))
      have hQ1 := Lib.hid (hP1.out.below (below_regrown w8 dz osz))
      have hQ3 := Lib.hid (hP3.out.below (below_regrown w8 dz osz))
      clear d0 d1 d2 d3 hBR cX cY hK8 hN hP1 hP3
      generalize Go.Sort.grow (redrawn w8 dz) osz = w9 at hKz hNz hQ1 hQ3 ⊢
      have m0 := hQ1.out.cell 0 _ rfl
      have o0 := hQ3.out.cell 0 _ rfl
      have m1 := hQ1.out.cell 1 _ rfl
      have o1 := hQ3.out.cell 1 _ rfl
      have m2 := hQ1.out.cell 2 _ rfl
      have o2 := hQ3.out.cell 2 _ rfl
      have m3 := hQ1.out.cell 3 _ rfl
      have o3 := hQ3.out.cell 3 _ rfl
      have z0 := hNz.out.cell 0 _ rfl
      have z1 := hNz.out.cell 1 _ rfl
      have hop := eq_refs s1 s2 s3 s4
      by_cases h0 : k1 = 0
      · subst h0
        go_wp2_with fail
        refine (awake_any w9).mono ?_
        rintro e w10 ⟨rfl, hb⟩
        have hBf : Below w.heap.size w w10 := hW.out.trans ((bel_call hb hKz.out hKz.out.size).mono hW.out.size)
        go_wp2_with fail
        go_ret
        exact ⟨rfl, hBf⟩
      · have hk10 : ((k1 : Int) == 0) = false := by simp; omega
        obtain rfl : k2 = 0 := by have := HPP.out; omega
        go_wp2_with fail
        refine (awake_any w9).mono ?_
        rintro e w10 ⟨rfl, hb⟩
        have hBf : Below w.heap.size w w10 := hW.out.trans ((bel_call hb hKz.out hKz.out.size).mono hW.out.size)
        go_wp2_with fail
        go_ret
        exact ⟨rfl, hBf⟩
end Go.Proofs.YtljloggbfmnjmaaDoor
