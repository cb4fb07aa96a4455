/- Script: the walk of ScriptReads. -/
import Derived.Test.YtddoghjopihkpaaDoorScrZa
import Derived.Test.YtddoghjopihkpaaDoorScrQ
set_option linter.unusedSimpArgs false
set_option linter.unusedVariables false
namespace Go.Proofs.YtddoghjopihkpaaDoor
open Go.RowKit Go.Joins

set_option maxRecDepth 100000 in
set_option maxHeartbeats 16000000 in
theorem reads_walk (s : ByteArray) (w : World) (hsh : w.ShapedOpen Tryd.prog) : Calls Tryd.prog 4 #[.string s] w fun e w' => e = .returned (.bool true) ∧ Below w.heap.size w w' := by
  have HAW := Lib.hid (fun W (hW : Below w.heap.size w W) => awake_any W (shaped_bel hsh hW))
  by_cases hl : s.size ≤ 400
  · have hli : ¬ (400 : Int) < (s.size : Int) := by omega
    have hlen : s.data.toList.length ≤ 400 := by rw [← Lib.size_eq]; exact hl
    have HPA := Lib.hid (fun W (hW : Below w.heap.size w W) => parse_any s.data.toList (by omega) W (shaped_bel hsh hW))
    have HRP := Lib.hid (fun W => rparse_any s hl W)
    rw [show (⟨s.data.toList.toArray⟩ : ByteArray) = s from by simp] at HPA
    clear hlen
    generalize parseS s.data.toList = O at HPA HRP
    obtain ⟨kk, y, ok⟩ := O
    simp only at HPA HRP
    have HTO := Lib.hid (fun W => to_any kk y W)
    rw [enL_eq kk y] at HPA HRP HTO
    go_enter Tryd.func4, Tryd.ntmps4
    go_wp2_with fail
    refine (HPA.out _ (Below.refl _ _)).mono ?_
    rintro e w1 ⟨rfl, hb1⟩
    go_upto_region 4 with fail
    have hz1 := hb1.size
    have hA2 : Hid (LnB (w1.alloc (.cells (lnC kk y) tLn)) w1.heap.size kk y) := heap_alloc_new w1 _
    have hB2 : Hid (Below w.heap.size w (w1.alloc (.cells (lnC kk y) tLn))) := hb1.alloc hz1 _
    have e0 : w1.alloc (.cells #[.int .i64 kk, .int .i64 y.k, .int .i64 y.who, .string ⟨y.cell.toArray⟩, .string ⟨y.text.toArray⟩, .bool y.cols, .int .i64 y.n, .int .i64 y.tor, .int .u8 y.bits] tLn) = w1.alloc (.cells (lnC kk y) tLn) := rfl
    rw [e0]
    clear e0 hb1
    generalize w1.alloc (.cells (lnC kk y) tLn) = w2 at hA2 hB2 ⊢
    generalize w1.heap.size = b2 at hA2 hz1 ⊢
    go_wp2_with fail
    refine (HRP.out _).mono ?_
    rintro e w3 ⟨rfl, hb3⟩
    have hB3 : Hid (Below w.heap.size w w3) := bel_call hb3 hB2.out hB2.out.size
    have hA3 := Lib.hid (hA2.out.below hb3)
    clear hA2 hB2 hb3
    go_upto_region 5 with fail
    have hz3 := hB3.out.size
    have hC4 : Hid (RlB (w3.alloc (.cells (lnC kk y) tRl)) w3.heap.size kk y) := heap_alloc_new w3 _
    have hA4 : Hid (LnB (w3.alloc (.cells (lnC kk y) tRl)) b2 kk y) := hA3.out.below (by (repeat' (first | (with_reducible exact Below.refl _ _) | (with_reducible assumption) | (with_reducible refine Below.alloc ?_ ?_ _) | (with_reducible refine bel_drewN ?_ _) | (with_reducible refine Below.drew ?_) | (with_reducible refine Below.setCell ?_ ?_ _) | (with_reducible refine bel_call ‹_› ?_ ?_) | go_size)))
    have hB4 : Hid (Below w.heap.size w (w3.alloc (.cells (lnC kk y) tRl))) := hB3.out.alloc hz3 _
    have e0 : w3.alloc (.cells #[.int .i64 kk, .int .i64 y.k, .int .i64 y.who, .string ⟨y.cell.toArray⟩, .string ⟨y.text.toArray⟩, .bool y.cols, .int .i64 y.n, .int .i64 y.tor, .int .u8 y.bits] tRl) = w3.alloc (.cells (lnC kk y) tRl) := rfl
    rw [e0]
    clear e0 hB3 hA3
    generalize w3.alloc (.cells (lnC kk y) tRl) = w7 at hC4 hA4 hB4 ⊢
    generalize w3.heap.size = b3 at hC4 hz3 ⊢
    obtain ⟨c0, c1, c2, c3, c4, c5, c6, c7, c8⟩ := hA4.out.cells
    obtain ⟨d0, d1, d2, d3, d4, d5, d6, d7, d8⟩ := hC4.out.cells
    have r0 := cell_regrown c0
    have r1 := cell_regrown c1
    have r2 := cell_regrown c2
    have r3 := cell_regrown c3
    have r4 := cell_regrown c4
    have r5 := cell_regrown c5
    have r6 := cell_regrown c6
    have r7 := cell_regrown c7
    have r8 := cell_regrown c8
    have s0 := cell_regrown d0
    have s1 := cell_regrown d1
    have s2 := cell_regrown d2
    have s3 := cell_regrown d3
    have s4 := cell_regrown d4
    have s5 := cell_regrown d5
    have s6 := cell_regrown d6
    have s7 := cell_regrown d7
    have s8 := cell_regrown d8
    clear c0 c1 c2 c3 c4 c5 c6 c7 c8 d0 d1 d2 d3 d4 d5 d6 d7 d8 hA4 hC4
    have cTO : ∀ dd os, Calls Tryd.prog 9 #[.agg #[.int .i64 kk, .int .i64 y.k, .int .i64 y.who, .string ⟨y.cell.toArray⟩, .string ⟨y.text.toArray⟩, .bool y.cols, .int .i64 y.n, .int .i64 y.tor, .int .u8 y.bits]] (Go.Sort.grow (redrawn w7 dd) os) fun e w'' => e = .returned (.agg #[.int .i64 kk, .int .i64 y.k, .int .i64 y.who, .string ⟨y.cell.toArray⟩, .string ⟨y.text.toArray⟩, .bool y.cols, .int .i64 y.n, .int .i64 y.tor, .int .u8 y.bits]) ∧ ∃ p : Regrown, w'' = Go.Sort.grow (redrawn w7 p.d) p.os := fun dd os => Calls.regrown_of (HTO.out _)
    have cAW : ∀ dd os, Calls Tryd.prog 6 #[] (Go.Sort.grow (redrawn w7 dd) os) fun e w'' => e = .returned (.bool true) ∧ ∃ p : Regrown, w'' = Go.Sort.grow (redrawn w7 p.d) p.os := fun dd os => Calls.regrown_of (HAW.out _ (bel_call (below_regrown w7 dd os) hB4.out hB4.out.size))
    clear HTO HRP HPA HAW
    cases ok
    all_goals
      simp only [erN]
      refine wp_region_quiet_below (by kernel_rfl) (by kernel_rfl) ?_
      repeat (go_big_quiet_step ((first | with_reducible exact cTO _ _ | with_reducible exact cAW _ _)))
      refine wpQuiet_nil ?_
      intro _ hw'
      obtain ⟨⟨dz, osz⟩, hw''⟩ := hw'
      subst hw''
      have hBz : Below w.heap.size w (Go.Sort.grow (redrawn w7 dz) osz) := bel_call (below_regrown w7 dz osz) hB4.out hB4.out.size
      clear r0 r1 r2 r3 r4 r5 r6 r7 r8 s0 s1 s2 s3 s4 s5 s6 s7 s8 cTO cAW
      go_wp2_with fail
      go_ret
      exact ⟨rfl, hBz⟩
  · have hli : (400 : Int) < (s.size : Int) := by omega
    go_enter Tryd.func4, Tryd.ntmps4
    go_wp2_with fail
    refine (HAW.out _ (Below.refl _ _)).mono ?_
    rintro e w3 ⟨rfl, hb3⟩
    go_wp2_with fail
    go_ret
    exact ⟨rfl, hb3⟩
end Go.Proofs.YtddoghjopihkpaaDoor
