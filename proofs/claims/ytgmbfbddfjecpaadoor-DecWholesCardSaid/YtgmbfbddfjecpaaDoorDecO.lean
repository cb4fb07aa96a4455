/- The law DecRounds: the walk. -/
import Derived.Test.YtgmbfbddfjecpaaDoorDecN
set_option linter.unusedSimpArgs false
set_option linter.unusedVariables false
namespace Go.Proofs.YtgmbfbddfjecpaaDoor
open Go.RowKit

set_option maxRecDepth 100000 in
set_option maxHeartbeats 1000000 in
theorem rounds_walk (a b k : Int) (ha1 : -9223372036854775808 ≤ a) (ha2 : a ≤ 9223372036854775807) (hb1 : -9223372036854775808 ≤ b) (hb2 : b ≤ 9223372036854775807) (w : World) (hsh : w.ShapedOpen Tryd.prog) :
    Calls Tryd.prog 8 #[.int .i64 a, .int .i64 b, .int .i64 k] w fun e w' => e = .returned (.bool true) ∧ Below w.heap.size w w' := by
  have C1 := Lib.hid (fun W => round_any a k ha1 ha2 W)
  have C2 := Lib.hid (fun W => refRound_any a k ha1 ha2 W)
  have C3 := Lib.hid (fun W => floor_any a ha1 ha2 W)
  have C4 := Lib.hid (fun W => refFloor_any a ha1 ha2 W)
  have C5 := Lib.hid (fun W => mod_any a b ha1 ha2 hb1 hb2 W)
  have C6 := Lib.hid (fun W => refMod_any a b ha1 ha2 hb1 hb2 W)
  obtain ⟨r, hr⟩ : ∃ r, sv (decide (a < 0)) (rdiv a.natAbs (uN k) * uN k) = r := ⟨_, rfl⟩
  rw [hr] at C1 C2
  have HSH := Lib.hid hsh
  clear hsh ha1 ha2 hb1 hb2 hr
  go_enter Tryd.func8, Tryd.ntmps8
  go_wp2_with fail
  refine (C1.out _).mono ?_
  rintro e w1 ⟨rfl, hb1⟩
  have hs1 := hb1.size
  go_wp2_with fail
  refine (C2.out _).mono ?_
  rintro e w2 ⟨rfl, hb2⟩
  have hs2 := hb2.size
  go_wp2_with fail
  refine (C3.out _).mono ?_
  rintro e w3 ⟨rfl, rfl⟩
  go_wp2_with fail
  refine (C4.out _).mono ?_
  rintro e w4 ⟨rfl, hb4⟩
  have hs4 := hb4.size
  go_wp2_with fail
  refine (C5.out _).mono ?_
  rintro e w5 ⟨rfl, rfl⟩
  go_wp2_with fail
  refine (C6.out _).mono ?_
  rintro e w6 ⟨rfl, hb6⟩
  have hs6 := hb6.size
  have hbw : Below w.heap.size w w6 := bel_call hb6 (bel_call hb4 (bel_call hb2 hb1 (by omega)) (by omega)) (by omega)
  go_wp2_with fail
  refine (same_yes _ _ _).mono ?_
  rintro e w7 ⟨rfl, rfl⟩
  go_wp2_with fail
  refine (same_yes _ _ _).mono ?_
  rintro e w8 ⟨rfl, rfl⟩
  go_wp2_with fail
  refine (same_yes _ _ _).mono ?_
  rintro e w9 ⟨rfl, rfl⟩
  go_wp2_with fail
  refine (awake_any _ (shaped_below HSH.out hbw)).mono ?_
  rintro e w10 ⟨rfl, hb10⟩
  go_wp2_with fail
  go_ret
  exact ⟨rfl, bel_call hb10 hbw (by omega)⟩
end Go.Proofs.YtgmbfbddfjecpaaDoor
