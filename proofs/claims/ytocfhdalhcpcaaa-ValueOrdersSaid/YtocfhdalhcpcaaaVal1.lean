/- Contracts of package value's small functions, of quadrilleref22 and of the helpers of quadrillelaw22. -/
import Derived.Test.YtocfhdalhcpcaaaBase
import Derived.Test.YtocfhdalhcpcaaaShelf
set_option linter.unusedSimpArgs false
set_option linter.unusedVariables false
namespace Go.Proofs.Ytocfhdalhcpcaaa
open Go.RowKit

theorem to_any (k n : Int) (s : ByteArray) (w : World) :
    Calls Try.prog 8 #[.agg #[.int .i64 k, .int .i64 n, .string s]] w fun e w' => e = .returned (.agg #[.int .i64 k, .int .i64 n, .string s]) ∧ Below w.heap.size w w' := by
  go_enter Try.func8, Try.ntmps8
  go_wp2
  go_returns
  refine ⟨rfl, ?_⟩
  (repeat' (first | (with_reducible exact Below.refl _ _) | (with_reducible assumption) | (with_reducible refine Below.alloc ?_ ?_ _) | (with_reducible refine bel_drewN ?_ _) | (with_reducible refine Below.drew ?_) | (with_reducible refine Below.setCell ?_ ?_ _) | (with_reducible refine bel_call ‹_› ?_ ?_) | go_size))

/-- Is it a value, not too long? -/
def rightB (k n : Int) (s : ByteArray) : Bool := decide (s.size ≤ 500) && ((k == 0 && n == 0 && s.toList.isEmpty) || (k == 1 && s.toList.isEmpty) || ((k == 2 || k == 3) && n == 0))

theorem right_any (k n : Int) (s : ByteArray) (w : World) :
    Calls Try.prog 5 #[.agg #[.int .i64 k, .int .i64 n, .string s]] w fun e w' => e = .returned (.bool (rightB k n s)) ∧ Below w.heap.size w w' := by
  go_enter Try.func5, Try.ntmps5
  go_wp2
  all_goals go_returns
  all_goals refine ⟨?_, by (repeat' (first | (with_reducible exact Below.refl _ _) | (with_reducible assumption) | (with_reducible refine Below.alloc ?_ ?_ _) | (with_reducible refine bel_drewN ?_ _) | (with_reducible refine Below.drew ?_) | (with_reducible refine Below.setCell ?_ ?_ _) | (with_reducible refine bel_call ‹_› ?_ ?_) | go_size))⟩
  all_goals simp_all [rightB]
  all_goals omega

/-- What Compare answers: which is less .. -/
def cmpN (k n : Int) (s : ByteArray) (k' n' : Int) (s' : ByteArray) : Int :=
  if k = 3 then 0 else if k' = 3 then 0 else if (k = 2 ∧ k' ≠ 1) ∨ (k' = 2 ∧ k ≠ 1) then Lib.compareBytes s.data.toList s'.data.toList else if k = 2 then 1 else if k' = 2 then -1 else if n < n' then -1 else if n' < n then 1 else 0
/-- .. and the error: its three fields. -/
def cmpK (k k' : Int) : Int := if k = 3 then 3 else if k' = 3 then 3 else 0
def cmpM (k n k' n' : Int) : Int := if k = 3 then n else if k' = 3 then n' else 0
def cmpT (k : Int) (s : ByteArray) (k' : Int) (s' : ByteArray) : ByteArray := if k = 3 then s else if k' = 3 then s' else ByteArray.empty

/-- cmp.Compare at dec.Dec. -/
def cmpI (a b : Int) : Int := if a < b then -1 else if b < a then 1 else 0
theorem cmpDec_any (a b : Int) (w : World) :
    Calls Try.prog 21 #[.int .i64 a, .int .i64 b] w fun e w' => e = .returned (.int .i64 (cmpI a b)) ∧ w = w' := by
  go_enter Try.func21, Try.ntmps21
  go_wp2
  all_goals go_returns
  all_goals refine ⟨?_, rfl⟩
  all_goals simp_all [cmpI]
  all_goals omega

theorem compare_any (k n : Int) (s : ByteArray) (k' n' : Int) (s' : ByteArray) (w : World) :
    Calls Try.prog 7 #[.agg #[.int .i64 k, .int .i64 n, .string s], .agg #[.int .i64 k', .int .i64 n', .string s']] w fun e w' => e = .returned (.tuple #[.int .i64 (cmpN k n s k' n' s'), .agg #[.int .i64 (cmpK k k'), .int .i64 (cmpM k n k' n'), .string (cmpT k s k' s')]]) ∧ Below w.heap.size w w' := by
  go_enter Try.func7, Try.ntmps7
  go_wp2_with (first | (go_at_call 20; refine (Try.strings_Compare _ _ _).mono ?_; rintro e w' ⟨rfl, rfl⟩) | (go_at_call 21; refine (cmpDec_any _ _ _).mono ?_; rintro e w' ⟨rfl, rfl⟩))
  all_goals try (go_region; go_wp2)
  all_goals go_returns
  all_goals refine ⟨?_, by (repeat' (first | (with_reducible exact Below.refl _ _) | (with_reducible assumption) | (with_reducible refine Below.alloc ?_ ?_ _) | (with_reducible refine bel_drewN ?_ _) | (with_reducible refine Below.drew ?_) | (with_reducible refine Below.setCell ?_ ?_ _) | (with_reducible refine bel_call ‹_› ?_ ?_) | go_size))⟩
  all_goals simp_all [cmpN, cmpK, cmpM, cmpT, cmpI]
  all_goals rfl

end Go.Proofs.Ytocfhdalhcpcaaa
