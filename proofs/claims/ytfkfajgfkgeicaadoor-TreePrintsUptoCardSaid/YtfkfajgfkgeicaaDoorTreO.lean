/- Trees: 'light'. -/
import Derived.Test.YtfkfajgfkgeicaaDoorTreN
set_option linter.unusedSimpArgs false
set_option linter.unusedVariables false
namespace Go.Proofs.YtfkfajgfkgeicaaDoor
open Go.RowKit Go.Joins

set_option maxRecDepth 100000 in
set_option maxHeartbeats 4000000 in
theorem light_any (d : Nat) (n : Nd) (p : Option Addr) (len cap : Nat) (w : World) (hrd : RdT w w.heap.size d n p len) (hok : OkN n) : Calls Tryd.prog 13 #[.agg (ndA n p len cap)] w fun e w' => e = .returned (.bool (lightB n)) ∧ Below w.heap.size w w' := by
  have hh0 : Hid (NdB tRn (w.alloc (.cells (ndA n p len cap) tRn)) w.heap.size n p len cap) := heap_alloc_new w _
  have hAB : Hid (Below w.heap.size w (w.alloc (.cells (ndA n p len cap) tRn))) := by unfold Hid; (repeat' (first | (with_reducible exact Below.refl _ _) | (with_reducible assumption) | (with_reducible refine Below.alloc ?_ ?_ _) | (with_reducible refine bel_drewN ?_ _) | (with_reducible refine Below.drew ?_) | (with_reducible refine Below.setCell ?_ ?_ _) | (with_reducible refine bel_call ‹_› ?_ ?_) | go_size))
  have HSZ := Lib.hid (fun W (hW : Below w.heap.size w W) => size_any d n p len cap 200 W ((hrd.below hW).mono hW.size) hok (by omega) (by omega))
  have HDP := Lib.hid (fun W (hW : Below w.heap.size w W) (hd : dpN n ≤ 1000000) => rdepth_any d n p len cap W ((hrd.below hW).mono hW.size) hok hd)
  have HFD : Hid (szN n 200 ≤ 200 → dpN n ≤ 200) := fun h => FewN.depth ⟨200, Int.le_refl _, h⟩
  have htx := hok.text
  obtain ⟨O, hO⟩ : ∃ O, lightB n = O := ⟨_, rfl⟩
  have HO : Hid (O = (decide (szN n 200 ≤ 200) && (decide (dpN n ≤ 100) && decide (n.text.length ≤ 400)))) := by unfold Hid; rw [← hO]; rfl
  rw [hO]
  clear hO hrd hok
  generalize szN n 200 = sz at HSZ HFD HO
  generalize dpN n = dp at HDP HFD HO
  rw [ndA_eq]
  go_enter Tryd.func13, Tryd.ntmps13
  go_upto_region 1 with fail
  have e0 : w.alloc (.cells #[.int .i64 n.kind, .int .i64 n.num, .string ⟨n.text.toArray⟩, .int .i64 n.frm, .int .i64 n.tor, .slice p len cap] tRn) = w.alloc (.cells (ndA n p len cap) tRn) := rfl
  rw [e0]
  clear e0
  generalize w.alloc (.cells (ndA n p len cap) tRn) = w0 at hh0 hAB ⊢
  obtain ⟨c0, c1, c2, c3, c4, c5⟩ := hh0.out.cells
  have r0 := cell_regrown c0
  have r1 := cell_regrown c1
  have r2 := cell_regrown c2
  have r3 := cell_regrown c3
  have r4 := cell_regrown c4
  have r5 := cell_regrown c5
  have hBR : ∀ dd os, Below w.heap.size w (Go.Sort.grow (redrawn w0 dd) os) := fun dd os => bel_call (below_regrown w0 dd os) hAB.out hAB.out.size
  have cS : ∀ dd os, Calls Tryd.prog 28 #[.agg #[.int .i64 n.kind, .int .i64 n.num, .string ⟨n.text.toArray⟩, .int .i64 n.frm, .int .i64 n.tor, .slice p len cap], .int .i64 200] (Go.Sort.grow (redrawn w0 dd) os) fun e w'' => e = .returned (.int .i64 sz) ∧ ∃ p : Regrown, w'' = Go.Sort.grow (redrawn w0 p.d) p.os := fun dd os => Calls.regrown_of (HSZ.out _ (hBR dd os))
  by_cases h1 : sz ≤ 200
  · have hs1 : ¬ (200 : Int) < sz := by omega
    have hd2 := HFD.out h1
    have cD : ∀ dd os, Calls Tryd.prog 22 #[.agg #[.int .i64 n.kind, .int .i64 n.num, .string ⟨n.text.toArray⟩, .int .i64 n.frm, .int .i64 n.tor, .slice p len cap]] (Go.Sort.grow (redrawn w0 dd) os) fun e w'' => e = .returned (.int .i64 (dp : Nat)) ∧ ∃ p : Regrown, w'' = Go.Sort.grow (redrawn w0 p.d) p.os := fun dd os => Calls.regrown_of (HDP.out _ (hBR dd os) (by omega))
    by_cases h2 : dp ≤ 100
    · have hs2 : ¬ (100 : Int) < (dp : Int) := by omega
      have HON : Hid (O = decide (n.text.length ≤ 400)) := by unfold Hid; rw [HO.out]; simp [h1, h2]
      clear HO HSZ HDP HFD
      refine wp_region_plain_below ?_
      repeat (go_big_quiet_step ((first | with_reducible exact cS _ _ | with_reducible exact cD _ _)))
      refine wpQuiet_nil ?_
      intro _ hw'
      obtain ⟨⟨dz, osz⟩, hw''⟩ := hw'
      subst hw''
      have hBz : Below w.heap.size w (Go.Sort.grow (redrawn w0 dz) osz) := hBR dz osz
      go_wp2_with fail
      go_ret
      have e : decide ((n.text.length : Int) ≤ 400) = decide (n.text.length ≤ 400) := decide_eq_decide.2 (by omega)
      exact ⟨by rw [HON.out, ← e]; rfl, hBz⟩
    · have hs2 : (100 : Int) < (dp : Int) := by omega
      have HON : Hid (O = false) := by unfold Hid; rw [HO.out]; simp [h2]
      clear HO HSZ HDP HFD
      refine wp_region_plain_below ?_
      repeat (go_big_quiet_step ((first | with_reducible exact cS _ _ | with_reducible exact cD _ _)))
      refine wpQuiet_nil ?_
      intro _ hw'
      obtain ⟨⟨dz, osz⟩, hw''⟩ := hw'
      subst hw''
      have hBz : Below w.heap.size w (Go.Sort.grow (redrawn w0 dz) osz) := hBR dz osz
      go_wp2_with fail
      go_ret
      exact ⟨by rw [HON.out]; rfl, hBz⟩
  · have hs1 : (200 : Int) < sz := by omega
    have HON : Hid (O = false) := by unfold Hid; rw [HO.out]; simp [h1]
    clear HO HSZ HDP HFD
    refine wp_region_plain_below ?_
    repeat (go_big_quiet_step ((first | with_reducible exact cS _ _)))
    refine wpQuiet_nil ?_
    intro _ hw'
    obtain ⟨⟨dz, osz⟩, hw''⟩ := hw'
    subst hw''
    have hBz : Below w.heap.size w (Go.Sort.grow (redrawn w0 dz) osz) := hBR dz osz
    go_wp2_with fail
    go_ret
    exact ⟨by rw [HON.out]; rfl, hBz⟩
end Go.Proofs.YtfkfajgfkgeicaaDoor
