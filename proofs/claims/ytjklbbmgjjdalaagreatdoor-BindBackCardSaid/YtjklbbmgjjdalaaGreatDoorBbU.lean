/- The law's 'placed'. Printed by gen_map2.py. -/
import Derived.Test.YtjklbbmgjjdalaaGreatDoorBbT
import Derived.Test.YtjklbbmgjjdalaaGreatDoorBbE
set_option linter.unusedSimpArgs false
set_option linter.unusedVariables false
namespace Go.Proofs.YtjklbbmgjjdalaaGreatDoor
open Go.RowKit Go.Joins
set_option maxRecDepth 100000 in
set_option maxHeartbeats 16000000 in
theorem rcell_num (c r : Int) (h1 : 0 ≤ c) (h2 : c ≤ 100000) (h3 : 0 ≤ r) (h4 : r ≤ 100000) (w : World) : Calls Tryz.prog 124 #[.int .i64 c, .int .i64 r] w fun e w' => e = .returned (.int .i64 (c * 10000 + r)) ∧ w = w' := by
  have f1 : IntKind.i64.wrap (c * 10000) = c * 10000 := IntWalk.i64_in _ (by omega)
  have f2 : IntKind.i64.wrap (c * 10000 + r) = c * 10000 + r := IntWalk.i64_in _ (by omega)
  go_enter Tryz.func124, Tryz.ntmps124
  go_wp2_with fail
  go_ret
  exact ⟨rfl, rfl⟩
end Go.Proofs.YtjklbbmgjjdalaaGreatDoor
