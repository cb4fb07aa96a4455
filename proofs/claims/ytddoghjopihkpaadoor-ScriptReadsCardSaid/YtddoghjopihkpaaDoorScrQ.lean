/- Script: the law's example. -/
import Derived.Test.YtddoghjopihkpaaDoorScrL
import Derived.Test.YtddoghjopihkpaaDoorScrP
import Derived.Test.YtddoghjopihkpaaDoorStill
set_option linter.unusedSimpArgs false
set_option linter.unusedVariables false
namespace Go.Proofs.YtddoghjopihkpaaDoor
open Go.RowKit Go.Joins

def exS : Stp := ⟨0, 2, [65, 49], [61, 66, 49, 32, 43, 32, 49], false, 0, 0, 0⟩
def exT : Bs := [50, 32, 115, 101, 116, 32, 65, 49, 32, 61, 66, 49, 32, 43, 32, 49]
theorem ex_parse : parseS exT = ⟨1, exS, true⟩ := by
  have := p_set 2 (by omega) [65, 49] [61, 66, 49, 32, 43, 32, 49] (plain_lit _ (by decide))
  exact this
set_option maxRecDepth 100000 in
set_option maxHeartbeats 4000000 in
theorem awake_any (w : World) (hsh : w.ShapedOpen Tryd.prog) : Calls Tryd.prog 6 #[] w fun e w' => e = .returned (.bool true) ∧ Below w.heap.size w w' := by
  have HP := Lib.hid (parse_any exT (by decide) w hsh)
  rw [ex_parse] at HP
  have HT := Lib.hid (fun W => to_any 1 exS W)
  go_enter Tryd.func6, Tryd.ntmps6
  go_wp2_with fail
  refine HP.out.mono ?_
  rintro e w1 ⟨rfl, hb1⟩
  have hz1 := hb1.size
  have hY : Value.agg (lnC 1 exS) = .agg #[.int .i64 1, .int .i64 0, .int .i64 2, .string ⟨#[65, 49]⟩, .string ⟨#[61, 66, 49, 32, 43, 32, 49]⟩, .bool false, .int .i64 0, .int .i64 0, .int .u8 0] := rfl
  simp only [erN]
  rw [hY] at HT ⊢
  clear hY HP
  go_upto_region 2 with fail
  have hA0 : Hid (LnB (w1.alloc (.cells (lnC 1 exS) tLn)) w1.heap.size 1 exS) := heap_alloc_new w1 _
  have hAB : Hid (Below w.heap.size w (w1.alloc (.cells (lnC 1 exS) tLn))) := by unfold Hid; (repeat' (first | (with_reducible exact Below.refl _ _) | (with_reducible assumption) | (with_reducible refine Below.alloc ?_ ?_ _) | (with_reducible refine bel_drewN ?_ _) | (with_reducible refine Below.drew ?_) | (with_reducible refine Below.setCell ?_ ?_ _) | (with_reducible refine bel_call ‹_› ?_ ?_) | go_size))
  have e0 : w1.alloc (.cells #[.int .i64 1, .int .i64 0, .int .i64 2, .string ⟨#[65, 49]⟩, .string ⟨#[61, 66, 49, 32, 43, 32, 49]⟩, .bool false, .int .i64 0, .int .i64 0, .int .u8 0] tLn) = w1.alloc (.cells (lnC 1 exS) tLn) := rfl
  rw [e0]
  clear e0
  generalize w1.alloc (.cells (lnC 1 exS) tLn) = w2 at hA0 hAB ⊢
  obtain ⟨c0, c1, c2, c3, c4, c5, c6, c7, c8⟩ := hA0.out.cells
  simp only [exS] at c0 c1 c2 c3 c4 c5 c6 c7 c8
  have r0 := cell_regrown c0
  have r1 := cell_regrown c1
  have r2 := cell_regrown c2
  have r3 := cell_regrown c3
  have r4 := cell_regrown c4
  have r5 := cell_regrown c5
  have r6 := cell_regrown c6
  have r7 := cell_regrown c7
  have r8 := cell_regrown c8
  have cT : ∀ dd os, Calls Tryd.prog 9 #[.agg #[.int .i64 1, .int .i64 0, .int .i64 2, .string ⟨#[65, 49]⟩, .string ⟨#[61, 66, 49, 32, 43, 32, 49]⟩, .bool false, .int .i64 0, .int .i64 0, .int .u8 0]] (Go.Sort.grow (redrawn w2 dd) os) fun e w'' => e = .returned (.agg #[.int .i64 1, .int .i64 0, .int .i64 2, .string ⟨#[65, 49]⟩, .string ⟨#[61, 66, 49, 32, 43, 32, 49]⟩, .bool false, .int .i64 0, .int .i64 0, .int .u8 0]) ∧ ∃ p : Regrown, w'' = Go.Sort.grow (redrawn w2 p.d) p.os := fun dd os => Calls.regrown_of (HT.out _)
  clear c0 c1 c2 c3 c4 c5 c6 c7 c8 HT
  refine wp_region_quiet_below (by kernel_rfl) (by kernel_rfl) ?_
  repeat (go_big_quiet_step ((first | with_reducible exact cT _ _)))
  refine wpQuiet_nil ?_
  intro _ hw'
  obtain ⟨⟨dq, osq⟩, hw''⟩ := hw'
  subst hw''
  clear r0 r1 r2 r3 r4 r5 r6 r7 r8 cT
  have hbq := below_regrown w2 dq osq
  have hBq : Below w.heap.size w (Go.Sort.grow (redrawn w2 dq) osq) := bel_call hbq hAB.out hAB.out.size
  go_wp2_with fail
  go_ret
  exact ⟨rfl, hBq⟩
end Go.Proofs.YtddoghjopihkpaaDoor
