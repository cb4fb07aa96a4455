/- quadrilleref22.Compare. -/
import Derived.Test.YtilajcibjlcffaaGreatDoorTelA
set_option linter.unusedSimpArgs false
set_option linter.unusedVariables false

namespace Go.Proofs.YtilajcibjlcffaaGreatDoor.Val
open Go.RowKit

theorem compareBytes_is : ∀ (a b : List UInt8), Lib.compareBytes a b = if Op.bytesLess a b = true then -1 else if a = b then 0 else 1
  | [], [] => by simp [Lib.compareBytes, Op.bytesLess]
  | [], _ :: _ => by simp [Lib.compareBytes, Op.bytesLess]
  | _ :: _, [] => by simp [Lib.compareBytes, Op.bytesLess]
  | x :: a, y :: b => by
    have ih := compareBytes_is a b
    simp only [Lib.compareBytes, Op.bytesLess, ih]
    by_cases h : x < y
    · simp [h]
    · by_cases h' : y < x
      · have hne : x ≠ y := fun e => by subst e; exact h h'
        simp [h, h', hne]
      · have hxy : x = y := UInt8.le_antisymm (UInt8.not_lt.1 h') (UInt8.not_lt.1 h)
        subst hxy
        simp

set_option maxHeartbeats 4000000 in
theorem refCompare_any (k n : Int) (s : ByteArray) (k' n' : Int) (s' : ByteArray) (w : World) :
    Calls Tryz.prog 22 #[.agg #[.int .i64 k, .int .i64 n, .string s], .agg #[.int .i64 k', .int .i64 n', .string s']] w fun e w' => e = .returned (.tuple #[.int .i64 (cmpN k n s k' n' s'), .agg #[.int .i64 (cmpK k k'), .int .i64 (cmpM k n k' n'), .string (cmpT k s k' s')]]) ∧ Below w.heap.size w w' := by
  by_cases h3 : k = 3
  · subst h3
    go_enter Tryz.func22, Tryz.ntmps22
    go_wp2
    go_region; go_wp2
    go_returns
    refine ⟨?_, by (repeat' (first | (with_reducible exact Below.refl _ _) | (with_reducible assumption) | (with_reducible refine Below.alloc ?_ ?_ _) | (with_reducible refine bel_drewN ?_ _) | (with_reducible refine Below.drew ?_) | (with_reducible refine Below.setCell ?_ ?_ _) | (with_reducible refine bel_call ‹_› ?_ ?_) | go_size))⟩
    simp [cmpN, cmpK, cmpM, cmpT]
  · by_cases h3' : k' = 3
    · subst h3'
      go_enter Tryz.func22, Tryz.ntmps22
      go_wp2
      go_region; go_wp2
      go_returns
      refine ⟨?_, by (repeat' (first | (with_reducible exact Below.refl _ _) | (with_reducible assumption) | (with_reducible refine Below.alloc ?_ ?_ _) | (with_reducible refine bel_drewN ?_ _) | (with_reducible refine Below.drew ?_) | (with_reducible refine Below.setCell ?_ ?_ _) | (with_reducible refine bel_call ‹_› ?_ ?_) | go_size))⟩
      simp [cmpN, cmpK, cmpM, cmpT, h3]
    · by_cases h2 : k = 2
      all_goals by_cases h1 : k = 1
      all_goals by_cases h2' : k' = 2
      all_goals by_cases h1' : k' = 1
      all_goals try omega
      all_goals go_enter Tryz.func22, Tryz.ntmps22
      all_goals go_wp2
      all_goals (go_quiet (fail); go_wp2)
      all_goals try (go_quiet (fail); go_wp2)
      all_goals go_returns
      all_goals refine ⟨?_, by (repeat' (first | (with_reducible exact Below.refl _ _) | (with_reducible assumption) | (with_reducible refine Below.alloc ?_ ?_ _) | (with_reducible refine bel_drewN ?_ _) | (with_reducible refine Below.drew ?_) | (with_reducible refine Below.setCell ?_ ?_ _) | (with_reducible refine bel_call ‹_› ?_ ?_) | go_size))⟩
      all_goals simp_all [cmpN, cmpK, cmpM, cmpT, compareBytes_is, Lib.toList_data]
      all_goals first | rfl | (refine ⟨?_, rfl⟩; (repeat rw [if_neg (by omega)]); done) | (refine ⟨?_, rfl⟩; rw [if_pos (by omega)]; done) | (refine ⟨?_, rfl⟩; rw [if_neg (by omega), if_pos (by omega)]; done)
end Go.Proofs.YtilajcibjlcffaaGreatDoor.Val
