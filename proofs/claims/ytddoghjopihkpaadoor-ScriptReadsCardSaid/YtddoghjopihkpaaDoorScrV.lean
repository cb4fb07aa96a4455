/- Script: the walk of ScriptWrites. -/
import Derived.Test.YtddoghjopihkpaaDoorScrU
import Derived.Test.YtddoghjopihkpaaDoorScrQ
set_option linter.unusedSimpArgs false
set_option linter.unusedVariables false
namespace Go.Proofs.YtddoghjopihkpaaDoor
open Go.RowKit Go.Joins

def enL (kk : Int) (y : Stp) : Value := .agg #[.int .i64 kk, .int .i64 y.k, .int .i64 y.who, .string ⟨y.cell.toArray⟩, .string ⟨y.text.toArray⟩, .bool y.cols, .int .i64 y.n, .int .i64 y.tor, .int .u8 y.bits]
theorem enL_eq (kk : Int) (y : Stp) : Value.agg (lnC kk y) = .agg #[.int .i64 kk, .int .i64 y.k, .int .i64 y.who, .string ⟨y.cell.toArray⟩, .string ⟨y.text.toArray⟩, .bool y.cols, .int .i64 y.n, .int .i64 y.tor, .int .u8 y.bits] := rfl

theorem rtext_law (kk : Int) (y : Stp) (hkk : 1 ≤ kk ∧ kk ≤ 9) (h : LawW kk y) (w : World) : Calls Tryd.prog 11 #[.agg (lnC kk y)] w fun e w' => e = .returned (.string ⟨(txX kk y).toArray⟩) ∧ Below w.heap.size w w' := by
  obtain ⟨x0, R, h1, h2, h3, h4, h5, ⟨k, a, C, T, o, n, t, b, rfl, q1, q2, q3, q4, q5, q6⟩, h7⟩ := h
  rw [← h3]
  refine rtext_any kk _ x0 R h2 (by rw [h3]; omega) (fun W => ?_) w
  rw [← h1]
  refine fields_any kk _ hkk h7 ?_ ?_ ?_ ?_ ?_ ?_ ?_ ?_ W
  all_goals
    simp only [stN]
    omega

set_option maxRecDepth 100000 in
set_option maxHeartbeats 16000000 in
theorem writes_walk (kk : Int) (x : Stp) (hb : 0 ≤ x.bits ∧ x.bits ≤ 255) (w : World) (hsh : w.ShapedOpen Tryd.prog) : Calls Tryd.prog 3 #[.agg (lnC kk x)] w fun e w' => e = .returned (.bool true) ∧ Below w.heap.size w w' := by
  have HAW := Lib.hid (fun W (hW : Below w.heap.size w W) => awake_any W (shaped_bel hsh hW))
  have hA0 : Hid (RlB (w.alloc (.cells (lnC kk x) tRl)) w.heap.size kk x) := heap_alloc_new w _
  have hAB : Hid (Below w.heap.size w (w.alloc (.cells (lnC kk x) tRl))) := by unfold Hid; (repeat' (first | (with_reducible exact Below.refl _ _) | (with_reducible assumption) | (with_reducible refine Below.alloc ?_ ?_ _) | (with_reducible refine bel_drewN ?_ _) | (with_reducible refine Below.drew ?_) | (with_reducible refine Below.setCell ?_ ?_ _) | (with_reducible refine bel_call ‹_› ?_ ?_) | go_size))
  have HRI := Lib.hid (fun h W => right_any kk x h W)
  have HPL := Lib.hid (fun h1 h2 W => plain_any kk x h1 h2 W)
  have HLW := Lib.hid (fun h h1 h2 => law_writes kk x h hb h1 h2)
  have hz1 : (⟨x.cell.toArray⟩ : ByteArray).size = x.cell.length := sizeL _
  have hz2 : (⟨x.text.toArray⟩ : ByteArray).size = x.text.length := sizeL _
  rw [enL_eq] at HRI HPL ⊢
  go_enter Tryd.func3, Tryd.ntmps3
  go_upto_region 1 with fail
  have e0 : w.alloc (.cells #[.int .i64 kk, .int .i64 x.k, .int .i64 x.who, .string ⟨x.cell.toArray⟩, .string ⟨x.text.toArray⟩, .bool x.cols, .int .i64 x.n, .int .i64 x.tor, .int .u8 x.bits] tRl) = w.alloc (.cells (lnC kk x) tRl) := rfl
  rw [e0]
  clear e0
  generalize w.alloc (.cells (lnC kk x) tRl) = w0 at hA0 hAB ⊢
  obtain ⟨c0, c1, c2, c3, c4, c5, c6, c7, c8⟩ := hA0.out.cells
  have r0 := cell_regrown c0
  have r1 := cell_regrown c1
  have r2 := cell_regrown c2
  have r3 := cell_regrown c3
  have r4 := cell_regrown c4
  have r5 := cell_regrown c5
  have r6 := cell_regrown c6
  have r7 := cell_regrown c7
  have r8 := cell_regrown c8
  clear c0 c1 c2 c3 c4 c5 c6 c7 c8
  by_cases hC : x.cell.length ≤ 200
  · have hC1 : ¬ (200 : Int) < (x.cell.length : Int) := by omega
    by_cases hT : x.text.length ≤ 400
    · have hT1 : ¬ (400 : Int) < (x.text.length : Int) := by omega
      have cR : ∀ dd os, Calls Tryd.prog 5 #[.agg #[.int .i64 kk, .int .i64 x.k, .int .i64 x.who, .string ⟨x.cell.toArray⟩, .string ⟨x.text.toArray⟩, .bool x.cols, .int .i64 x.n, .int .i64 x.tor, .int .u8 x.bits]] (Go.Sort.grow (redrawn w0 dd) os) fun e w'' => e = .returned (.bool (rightB kk x)) ∧ ∃ p : Regrown, w'' = Go.Sort.grow (redrawn w0 p.d) p.os := fun dd os => Calls.regrown_of (HRI.out (by omega) _)
      cases hr : rightB kk x with
      | false =>
        rw [hr] at cR
        refine wp_region_plain_below ?_
        repeat (go_big_quiet_step ((first | with_reducible exact cR _ _)))
        refine wpQuiet_nil ?_
        intro _ hw'
        obtain ⟨⟨dq, osq⟩, hw''⟩ := hw'
        subst hw''
        have hB2 : Below w.heap.size w (Go.Sort.grow (redrawn w0 dq) osq) := bel_call (below_regrown w0 dq osq) hAB.out hAB.out.size
        clear r0 r1 r2 r3 r4 r5 r6 r7 r8 cR
        go_wp2_with fail
        refine (HAW.out _ hB2).mono ?_
        rintro e w3 ⟨rfl, hb3⟩
        go_wp2_with fail
        go_ret
        exact ⟨rfl, bel_call hb3 hB2 hB2.size⟩
      | true =>
        rw [hr] at cR
        refine wp_region_plain_below ?_
        repeat (go_big_quiet_step ((first | with_reducible exact cR _ _)))
        refine wpQuiet_nil ?_
        intro _ hw'
        obtain ⟨⟨dq, osq⟩, hw''⟩ := hw'
        subst hw''
        have hB1 : Hid (Below w.heap.size w (Go.Sort.grow (redrawn w0 dq) osq)) := bel_call (below_regrown w0 dq osq) hAB.out hAB.out.size
        have hA1 : Hid (RlB (Go.Sort.grow (redrawn w0 dq) osq) w.heap.size kk x) := hA0.out.below (below_regrown w0 dq osq)
        clear r0 r1 r2 r3 r4 r5 r6 r7 r8 cR hA0 hAB
        generalize Go.Sort.grow (redrawn w0 dq) osq = w1 at hA1 hB1 ⊢
        obtain ⟨hLW, hkk, hk⟩ := HLW.out hr (by omega) (by omega)
        have HP2 := Lib.hid (fun W => HPL.out hkk hk W)
        clear HPL HLW HRI hr hC hC1 hT hT1 hz1 hz2
        generalize plS kk x = y at hLW HP2
        have HRT := Lib.hid (fun W => rtext_law kk y hkk hLW W)
        have HTO := Lib.hid (fun W => to_any kk y W)
        obtain ⟨x0, R, z1, z2, z3, h4, h5, h6, z7⟩ := hLW
        have HTX := Lib.hid (fun W => text_any kk y (h6.mono (by omega)) W)
        have HPA := Lib.hid (fun W (hW : Below w.heap.size w W) => parse_any (txX kk y) (by omega) W (shaped_bel hsh hW))
        rw [h5] at HPA
        clear h4 h5 h6 z1 z2 z3 z7 R x0 hkk hk
        simp only [erN] at HPA
        rw [enL_eq kk y] at HP2 HRT HTO HTX HPA
        obtain ⟨c0, c1, c2, c3, c4, c5, c6, c7, c8⟩ := hA1.out.cells
        go_wp2_with fail
        refine (HP2.out _).mono ?_
        rintro e w2 ⟨rfl, hb2⟩
        have hB2 : Hid (Below w.heap.size w w2) := bel_call hb2 hB1.out hB1.out.size
        clear HP2 hA1 c0 c1 c2 c3 c4 c5 c6 c7 c8 hb2 hB1
        go_upto_region 4 with fail
        have hz2 := hB2.out.size
        have hA3 : Hid (RlB (w2.alloc (.cells (lnC kk y) tRl)) w2.heap.size kk y) := heap_alloc_new w2 _
        have hB3 : Hid (Below w.heap.size w (w2.alloc (.cells (lnC kk y) tRl))) := hB2.out.alloc hz2 _
        have e0 : w2.alloc (.cells #[.int .i64 kk, .int .i64 y.k, .int .i64 y.who, .string ⟨y.cell.toArray⟩, .string ⟨y.text.toArray⟩, .bool y.cols, .int .i64 y.n, .int .i64 y.tor, .int .u8 y.bits] tRl) = w2.alloc (.cells (lnC kk y) tRl) := rfl
        rw [e0]
        clear e0 hB2
        generalize w2.alloc (.cells (lnC kk y) tRl) = w3 at hA3 hB3 ⊢
        generalize w2.heap.size = b3 at hA3 hz2 ⊢
        generalize (⟨(txX kk y).toArray⟩ : ByteArray) = TX at HRT HTX HPA
        obtain ⟨c0, c1, c2, c3, c4, c5, c6, c7, c8⟩ := hA3.out.cells
        go_wp2_with fail
        refine (HTO.out _).mono ?_
        rintro e w4 ⟨rfl, hb4⟩
        have hB4 : Hid (Below w.heap.size w w4) := bel_call hb4 hB3.out hB3.out.size
        have hA4 := Lib.hid (hA3.out.below hb4)
        clear c0 c1 c2 c3 c4 c5 c6 c7 c8 hb4 hA3 hB3
        go_wp2_with fail
        refine (HTX.out _).mono ?_
        rintro e w5 ⟨rfl, hb5⟩
        have hB5 : Hid (Below w.heap.size w w5) := bel_call hb5 hB4.out hB4.out.size
        have hA5 := Lib.hid (hA4.out.below hb5)
        clear hb5 hA4 hB4
        go_wp2_with fail
        refine (HPA.out _ hB5.out).mono ?_
        rintro e w6 ⟨rfl, hb6⟩
        have hB6 : Hid (Below w.heap.size w w6) := bel_call hb6 hB5.out hB5.out.size
        have hA6 := Lib.hid (hA5.out.below hb6)
        clear hb6 hA5 hB5
        go_upto_region 5 with fail
        have hz6 := hB6.out.size
        have hA7 : Hid (LnB (w6.alloc (.cells (lnC kk y) tLn)) w6.heap.size kk y) := heap_alloc_new w6 _
        have hC7 : Hid (RlB (w6.alloc (.cells (lnC kk y) tLn)) b3 kk y) := hA6.out.below (by (repeat' (first | (with_reducible exact Below.refl _ _) | (with_reducible assumption) | (with_reducible refine Below.alloc ?_ ?_ _) | (with_reducible refine bel_drewN ?_ _) | (with_reducible refine Below.drew ?_) | (with_reducible refine Below.setCell ?_ ?_ _) | (with_reducible refine bel_call ‹_› ?_ ?_) | go_size)))
        have hB7 : Hid (Below w.heap.size w (w6.alloc (.cells (lnC kk y) tLn))) := hB6.out.alloc hz6 _
        have e0 : w6.alloc (.cells #[.int .i64 kk, .int .i64 y.k, .int .i64 y.who, .string ⟨y.cell.toArray⟩, .string ⟨y.text.toArray⟩, .bool y.cols, .int .i64 y.n, .int .i64 y.tor, .int .u8 y.bits] tLn) = w6.alloc (.cells (lnC kk y) tLn) := rfl
        rw [e0]
        clear e0 hB6 hA6
        generalize w6.alloc (.cells (lnC kk y) tLn) = w7 at hA7 hB7 hC7 ⊢
        generalize w6.heap.size = b6 at hA7 hz6 ⊢
        obtain ⟨c0, c1, c2, c3, c4, c5, c6, c7, c8⟩ := hA7.out.cells
        obtain ⟨d0, d1, d2, d3, d4, d5, d6, d7, d8⟩ := hC7.out.cells
        have r0 := cell_regrown c0
        have r1 := cell_regrown c1
        have r2 := cell_regrown c2
        have r3 := cell_regrown c3
        have r4 := cell_regrown c4
        have r5 := cell_regrown c5
        have r6 := cell_regrown c6
        have r7 := cell_regrown c7
        have r8 := cell_regrown c8
        have s0 := cell_regrown d0
        have s1 := cell_regrown d1
        have s2 := cell_regrown d2
        have s3 := cell_regrown d3
        have s4 := cell_regrown d4
        have s5 := cell_regrown d5
        have s6 := cell_regrown d6
        have s7 := cell_regrown d7
        have s8 := cell_regrown d8
        clear c0 c1 c2 c3 c4 c5 c6 c7 c8 d0 d1 d2 d3 d4 d5 d6 d7 d8 hA7 hC7
        have cTO : ∀ dd os, Calls Tryd.prog 9 #[.agg #[.int .i64 kk, .int .i64 y.k, .int .i64 y.who, .string ⟨y.cell.toArray⟩, .string ⟨y.text.toArray⟩, .bool y.cols, .int .i64 y.n, .int .i64 y.tor, .int .u8 y.bits]] (Go.Sort.grow (redrawn w7 dd) os) fun e w'' => e = .returned (.agg #[.int .i64 kk, .int .i64 y.k, .int .i64 y.who, .string ⟨y.cell.toArray⟩, .string ⟨y.text.toArray⟩, .bool y.cols, .int .i64 y.n, .int .i64 y.tor, .int .u8 y.bits]) ∧ ∃ p : Regrown, w'' = Go.Sort.grow (redrawn w7 p.d) p.os := fun dd os => Calls.regrown_of (HTO.out _)
        have cTX : ∀ dd os, Calls Tryd.prog 10 #[.agg #[.int .i64 kk, .int .i64 y.k, .int .i64 y.who, .string ⟨y.cell.toArray⟩, .string ⟨y.text.toArray⟩, .bool y.cols, .int .i64 y.n, .int .i64 y.tor, .int .u8 y.bits]] (Go.Sort.grow (redrawn w7 dd) os) fun e w'' => e = .returned (.string TX) ∧ ∃ p : Regrown, w'' = Go.Sort.grow (redrawn w7 p.d) p.os := fun dd os => Calls.regrown_of (HTX.out _)
        have cRT : ∀ dd os, Calls Tryd.prog 11 #[.agg #[.int .i64 kk, .int .i64 y.k, .int .i64 y.who, .string ⟨y.cell.toArray⟩, .string ⟨y.text.toArray⟩, .bool y.cols, .int .i64 y.n, .int .i64 y.tor, .int .u8 y.bits]] (Go.Sort.grow (redrawn w7 dd) os) fun e w'' => e = .returned (.string TX) ∧ ∃ p : Regrown, w'' = Go.Sort.grow (redrawn w7 p.d) p.os := fun dd os => Calls.regrown_of (HRT.out _)
        have cAW : ∀ dd os, Calls Tryd.prog 6 #[] (Go.Sort.grow (redrawn w7 dd) os) fun e w'' => e = .returned (.bool true) ∧ ∃ p : Regrown, w'' = Go.Sort.grow (redrawn w7 p.d) p.os := fun dd os => Calls.regrown_of (HAW.out _ (bel_call (below_regrown w7 dd os) hB7.out hB7.out.size))
        clear HTO HTX HRT HPA HAW
        refine wp_region_quiet_below (by kernel_rfl) (by kernel_rfl) ?_
        repeat (go_big_quiet_step ((first | with_reducible exact cTO _ _ | with_reducible exact cTX _ _ | with_reducible exact cRT _ _ | with_reducible exact cAW _ _)))
        refine wpQuiet_nil ?_
        intro _ hw'
        obtain ⟨⟨dz, osz⟩, hw''⟩ := hw'
        subst hw''
        have hBz : Below w.heap.size w (Go.Sort.grow (redrawn w7 dz) osz) := bel_call (below_regrown w7 dz osz) hB7.out hB7.out.size
        clear r0 r1 r2 r3 r4 r5 r6 r7 r8 s0 s1 s2 s3 s4 s5 s6 s7 s8 cTO cTX cRT cAW
        go_wp2_with fail
        go_ret
        exact ⟨rfl, hBz⟩
    · have hT1 : (400 : Int) < (x.text.length : Int) := by omega
      refine wp_region_plain_below ?_
      repeat (go_big_quiet_step ((fail)))
      refine wpQuiet_nil ?_
      intro _ hw'
      obtain ⟨⟨dq, osq⟩, hw''⟩ := hw'
      subst hw''
      have hB2 : Below w.heap.size w (Go.Sort.grow (redrawn w0 dq) osq) := bel_call (below_regrown w0 dq osq) hAB.out hAB.out.size
      clear r0 r1 r2 r3 r4 r5 r6 r7 r8
      go_wp2_with fail
      refine (HAW.out _ hB2).mono ?_
      rintro e w3 ⟨rfl, hb3⟩
      go_wp2_with fail
      go_ret
      exact ⟨rfl, bel_call hb3 hB2 hB2.size⟩
  · have hC1 : (200 : Int) < (x.cell.length : Int) := by omega
    refine wp_region_plain_below ?_
    repeat (go_big_quiet_step ((fail)))
    refine wpQuiet_nil ?_
    intro _ hw'
    obtain ⟨⟨dq, osq⟩, hw''⟩ := hw'
    subst hw''
    have hB2 : Below w.heap.size w (Go.Sort.grow (redrawn w0 dq) osq) := bel_call (below_regrown w0 dq osq) hAB.out hAB.out.size
    clear r0 r1 r2 r3 r4 r5 r6 r7 r8
    go_wp2_with fail
    refine (HAW.out _ hB2).mono ?_
    rintro e w3 ⟨rfl, hb3⟩
    go_wp2_with fail
    go_ret
    exact ⟨rfl, bel_call hb3 hB2 hB2.size⟩
end Go.Proofs.YtddoghjopihkpaaDoor
