/- Values: contracts of the small functions, as for ValueOrders; they stand in a namespace of their own beside the numbers' texts. -/
import Derived.Test.YtilajcibjlcffaaGreatDoorDecU
set_option linter.unusedSimpArgs false
set_option linter.unusedVariables false

namespace Go.Proofs.YtilajcibjlcffaaGreatDoor.Val
open Go.RowKit

/-- Is it a value, not too long? -/
def rightB (k n : Int) (s : ByteArray) : Bool := decide (s.size ≤ 500) && ((k == 0 && n == 0 && s.toList.isEmpty) || (k == 1 && s.toList.isEmpty) || ((k == 2 || k == 3) && n == 0))

/-- What Compare answers: which is less .. -/
def cmpN (k n : Int) (s : ByteArray) (k' n' : Int) (s' : ByteArray) : Int :=
  if k = 3 then 0 else if k' = 3 then 0 else if (k = 2 ∧ k' ≠ 1) ∨ (k' = 2 ∧ k ≠ 1) then Lib.compareBytes s.data.toList s'.data.toList else if k = 2 then 1 else if k' = 2 then -1 else if n < n' then -1 else if n' < n then 1 else 0
/-- .. and the error: its three fields. -/
def cmpK (k k' : Int) : Int := if k = 3 then 3 else if k' = 3 then 3 else 0
def cmpM (k n k' n' : Int) : Int := if k = 3 then n else if k' = 3 then n' else 0
def cmpT (k : Int) (s : ByteArray) (k' : Int) (s' : ByteArray) : ByteArray := if k = 3 then s else if k' = 3 then s' else ByteArray.empty

/-- cmp.Compare at dec.Dec. -/
def cmpI (a b : Int) : Int := if a < b then -1 else if b < a then 1 else 0
theorem cmpDec_any (a b : Int) (w : World) :
    Calls Tryz.prog 42 #[.int .i64 a, .int .i64 b] w fun e w' => e = .returned (.int .i64 (cmpI a b)) ∧ w = w' := by
  go_enter Tryz.func42, Tryz.ntmps42
  go_wp2
  all_goals go_returns
  all_goals refine ⟨?_, rfl⟩
  all_goals simp_all [cmpI]
  all_goals omega

theorem compare_any (k n : Int) (s : ByteArray) (k' n' : Int) (s' : ByteArray) (w : World) :
    Calls Tryz.prog 14 #[.agg #[.int .i64 k, .int .i64 n, .string s], .agg #[.int .i64 k', .int .i64 n', .string s']] w fun e w' => e = .returned (.tuple #[.int .i64 (cmpN k n s k' n' s'), .agg #[.int .i64 (cmpK k k'), .int .i64 (cmpM k n k' n'), .string (cmpT k s k' s')]]) ∧ Below w.heap.size w w' := by
  go_enter Tryz.func14, Tryz.ntmps14
  go_wp2_with (first | (go_at_call 41; refine (Tryz.strings_Compare _ _ _).mono ?_; rintro e w' ⟨rfl, rfl⟩) | (go_at_call 42; refine (cmpDec_any _ _ _).mono ?_; rintro e w' ⟨rfl, rfl⟩))
  all_goals try (go_region; go_wp2)
  all_goals go_returns
  all_goals refine ⟨?_, by (repeat' (first | (with_reducible exact Below.refl _ _) | (with_reducible assumption) | (with_reducible refine Below.alloc ?_ ?_ _) | (with_reducible refine bel_drewN ?_ _) | (with_reducible refine Below.drew ?_) | (with_reducible refine Below.setCell ?_ ?_ _) | (with_reducible refine bel_call ‹_› ?_ ?_) | go_size))⟩
  all_goals simp_all [cmpN, cmpK, cmpM, cmpT, cmpI]
  all_goals rfl

theorem of_any (n : Int) (w : World) : Calls Tryz.prog 43 #[.int .i64 n] w fun e w' => e = .returned (.agg #[.int .i64 1, .int .i64 n, .string ⟨#[]⟩]) ∧ Below w.heap.size w w' := by
  go_enter Tryz.func43, Tryz.ntmps43
  go_wp2
  all_goals go_returns
  all_goals refine ⟨?_, by (repeat' (first | (with_reducible exact Below.refl _ _) | (with_reducible assumption) | (with_reducible refine Below.alloc ?_ ?_ _) | (with_reducible refine bel_drewN ?_ _) | (with_reducible refine Below.drew ?_) | (with_reducible refine Below.setCell ?_ ?_ _) | (with_reducible refine bel_call ‹_› ?_ ?_) | go_size))⟩
  all_goals first | rfl | simp_all

theorem refOf_any (n : Int) (w : World) : Calls Tryz.prog 54 #[.int .i64 n] w fun e w' => e = .returned (.agg #[.int .i64 1, .int .i64 n, .string ⟨#[]⟩]) ∧ Below w.heap.size w w' := by
  go_enter Tryz.func54, Tryz.ntmps54
  go_wp2
  all_goals go_returns
  all_goals refine ⟨?_, by (repeat' (first | (with_reducible exact Below.refl _ _) | (with_reducible assumption) | (with_reducible refine Below.alloc ?_ ?_ _) | (with_reducible refine bel_drewN ?_ _) | (with_reducible refine Below.drew ?_) | (with_reducible refine Below.setCell ?_ ?_ _) | (with_reducible refine bel_call ‹_› ?_ ?_) | go_size))⟩
  all_goals first | rfl | simp_all

theorem str_any (s : ByteArray) (w : World) : Calls Tryz.prog 13 #[.string s] w fun e w' => e = .returned (.agg #[.int .i64 2, .int .i64 0, .string s]) ∧ Below w.heap.size w w' := by
  go_enter Tryz.func13, Tryz.ntmps13
  go_wp2
  all_goals go_returns
  all_goals refine ⟨?_, by (repeat' (first | (with_reducible exact Below.refl _ _) | (with_reducible assumption) | (with_reducible refine Below.alloc ?_ ?_ _) | (with_reducible refine bel_drewN ?_ _) | (with_reducible refine Below.drew ?_) | (with_reducible refine Below.setCell ?_ ?_ _) | (with_reducible refine bel_call ‹_› ?_ ?_) | go_size))⟩
  all_goals first | rfl | simp_all

theorem fail_any (s : ByteArray) (w : World) : Calls Tryz.prog 21 #[.string s] w fun e w' => e = .returned (.agg #[.int .i64 3, .int .i64 0, .string s]) ∧ Below w.heap.size w w' := by
  go_enter Tryz.func21, Tryz.ntmps21
  go_wp2
  all_goals go_returns
  all_goals refine ⟨?_, by (repeat' (first | (with_reducible exact Below.refl _ _) | (with_reducible assumption) | (with_reducible refine Below.alloc ?_ ?_ _) | (with_reducible refine bel_drewN ?_ _) | (with_reducible refine Below.drew ?_) | (with_reducible refine Below.setCell ?_ ?_ _) | (with_reducible refine bel_call ‹_› ?_ ?_) | go_size))⟩
  all_goals first | rfl | simp_all

theorem refFail_any (s : ByteArray) (w : World) : Calls Tryz.prog 25 #[.string s] w fun e w' => e = .returned (.agg #[.int .i64 3, .int .i64 0, .string s]) ∧ Below w.heap.size w w' := by
  go_enter Tryz.func25, Tryz.ntmps25
  go_wp2
  all_goals go_returns
  all_goals refine ⟨?_, by (repeat' (first | (with_reducible exact Below.refl _ _) | (with_reducible assumption) | (with_reducible refine Below.alloc ?_ ?_ _) | (with_reducible refine bel_drewN ?_ _) | (with_reducible refine Below.drew ?_) | (with_reducible refine Below.setCell ?_ ?_ _) | (with_reducible refine bel_call ‹_› ?_ ?_) | go_size))⟩
  all_goals first | rfl | simp_all

def truthI (ok : Bool) : Int := if ok then 1000000 else 0
theorem truth_any (ok : Bool) (w : World) : Calls Tryz.prog 16 #[.bool ok] w fun e w' => e = .returned (.agg #[.int .i64 1, .int .i64 (truthI ok), .string ⟨#[]⟩]) ∧ Below w.heap.size w w' := by
  cases ok
  all_goals go_enter Tryz.func16, Tryz.ntmps16
  all_goals go_wp2
  all_goals go_returns
  all_goals refine ⟨?_, by (repeat' (first | (with_reducible exact Below.refl _ _) | (with_reducible assumption) | (with_reducible refine Below.alloc ?_ ?_ _) | (with_reducible refine bel_drewN ?_ _) | (with_reducible refine Below.drew ?_) | (with_reducible refine Below.setCell ?_ ?_ _) | (with_reducible refine bel_call ‹_› ?_ ?_) | go_size))⟩
  all_goals first | rfl | simp_all [truthI]

theorem refTruth_any (ok : Bool) (w : World) : Calls Tryz.prog 26 #[.bool ok] w fun e w' => e = .returned (.agg #[.int .i64 1, .int .i64 (truthI ok), .string ⟨#[]⟩]) ∧ Below w.heap.size w w' := by
  cases ok
  all_goals go_enter Tryz.func26, Tryz.ntmps26
  all_goals go_wp2
  all_goals go_returns
  all_goals refine ⟨?_, by (repeat' (first | (with_reducible exact Below.refl _ _) | (with_reducible assumption) | (with_reducible refine Below.alloc ?_ ?_ _) | (with_reducible refine bel_drewN ?_ _) | (with_reducible refine Below.drew ?_) | (with_reducible refine Below.setCell ?_ ?_ _) | (with_reducible refine bel_call ‹_› ?_ ?_) | go_size))⟩
  all_goals first | rfl | simp_all [truthI]

def fromK (e : Int) : Int := if e = 0 then 1 else 3
def fromN (n e : Int) : Int := if e = 0 then n else 0
def fromT (e : Int) : ByteArray := if e = 0 then ⟨#[]⟩ else if e = 32 then ⟨#[35, 68, 73, 86, 47, 48, 33]⟩ else ⟨#[35, 78, 85, 77, 33]⟩
theorem from_any (n k : Int) (w : World) : Calls Tryz.prog 27 #[.int .i64 n, .int .i64 k] w fun e w' => e = .returned (.agg #[.int .i64 (fromK k), .int .i64 (fromN n k), .string (fromT k)]) ∧ Below w.heap.size w w' := by
  go_enter Tryz.func27, Tryz.ntmps27
  go_wp2
  all_goals go_returns
  all_goals refine ⟨?_, by (repeat' (first | (with_reducible exact Below.refl _ _) | (with_reducible assumption) | (with_reducible refine Below.alloc ?_ ?_ _) | (with_reducible refine bel_drewN ?_ _) | (with_reducible refine Below.drew ?_) | (with_reducible refine Below.setCell ?_ ?_ _) | (with_reducible refine bel_call ‹_› ?_ ?_) | go_size))⟩
  all_goals first | rfl | simp_all [fromK, fromN, fromT]

theorem refFrom_any (n k : Int) (w : World) : Calls Tryz.prog 30 #[.int .i64 n, .int .i64 k] w fun e w' => e = .returned (.agg #[.int .i64 (fromK k), .int .i64 (fromN n k), .string (fromT k)]) ∧ Below w.heap.size w w' := by
  go_enter Tryz.func30, Tryz.ntmps30
  go_wp2
  all_goals go_returns
  all_goals refine ⟨?_, by (repeat' (first | (with_reducible exact Below.refl _ _) | (with_reducible assumption) | (with_reducible refine Below.alloc ?_ ?_ _) | (with_reducible refine bel_drewN ?_ _) | (with_reducible refine Below.drew ?_) | (with_reducible refine Below.setCell ?_ ?_ _) | (with_reducible refine bel_call ‹_› ?_ ?_) | go_size))⟩
  all_goals first | rfl | simp_all [fromK, fromN, fromT]

end Go.Proofs.YtilajcibjlcffaaGreatDoor.Val
