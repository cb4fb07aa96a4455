/- Conditions: the law's helpers. -/
import Derived.Test.YtpggidkcifnhjaaDoorMatQ
set_option linter.unusedSimpArgs false
set_option linter.unusedVariables false

namespace Go.Proofs.YtpggidkcifnhjaaDoor
open Go.RowKit

theorem lto_any (k n : Int) (s : ByteArray) (w : World) :
    Calls Tryd.prog 6 #[.agg #[.int .i64 k, .int .i64 n, .string s]] w fun e w' => e = .returned (.agg #[.int .i64 k, .int .i64 n, .string s]) ∧ Below w.heap.size w w' := by
  go_enter Tryd.func6, Tryd.ntmps6
  go_wp2
  go_returns
  refine ⟨rfl, ?_⟩
  (repeat' (first | (with_reducible exact Below.refl _ _) | (with_reducible assumption) | (with_reducible refine Below.alloc ?_ ?_ _) | (with_reducible refine bel_drewN ?_ _) | (with_reducible refine Below.drew ?_) | (with_reducible refine Below.setCell ?_ ?_ _) | (with_reducible refine bel_call ‹_› ?_ ?_) | go_size))

/-- Is it a value, not too long? -/
def lrightB (k n : Int) (s : ByteArray) : Bool := decide (s.size ≤ 200) && ((k == 0 && n == 0 && s.toList.isEmpty) || (k == 1 && s.toList.isEmpty) || ((k == 2 || k == 3) && n == 0))
theorem lright_any (k n : Int) (s : ByteArray) (w : World) :
    Calls Tryd.prog 4 #[.agg #[.int .i64 k, .int .i64 n, .string s]] w fun e w' => e = .returned (.bool (lrightB k n s)) ∧ Below w.heap.size w w' := by
  go_enter Tryd.func4, Tryd.ntmps4
  go_wp2
  all_goals go_returns
  all_goals refine ⟨?_, by (repeat' (first | (with_reducible exact Below.refl _ _) | (with_reducible assumption) | (with_reducible refine Below.alloc ?_ ?_ _) | (with_reducible refine bel_drewN ?_ _) | (with_reducible refine Below.drew ?_) | (with_reducible refine Below.setCell ?_ ?_ _) | (with_reducible refine bel_call ‹_› ?_ ?_) | go_size))⟩
  all_goals simp_all [lrightB]
  all_goals omega
theorem lright_ok {v : Vl} (h : lrightB v.k v.n v.t = true) (hn : -9223372036854775808 ≤ v.n ∧ v.n ≤ 9223372036854775807) : vlOk v := by
  unfold lrightB at h
  simp only [Bool.and_eq_true, Bool.or_eq_true, beq_iff_eq, decide_eq_true_eq] at h
  obtain ⟨h1, h2⟩ := h
  refine ⟨?_, by omega, hn.1, hn.2⟩
  rcases h2 with (h2 | h2) | h2
  · exact .inl h2.1.1
  · exact .inr (.inl h2.1)
  · rcases h2.1 with h | h
    · exact .inr (.inr (.inl h))
    · exact .inr (.inr (.inr h))
theorem info_val : (Tryd.prog.info? 28).map (fun i => (i.zero, i.size, i.bytes)) = some (some (.agg #[.int .i64 0, .int .i64 0, .string ByteArray.empty]), 3, 32) := by kernel_rfl

/-- What few answers: if its second is true, all are values, not too many, and its first has them. -/
def FewR (n : Nat) (Vs : List Vl) (e : Ending) (w' : World) : Prop := ∃ v b, e = .returned (.tuple #[v, .bool b]) ∧ (b = true → (∀ x ∈ Vs, vlOk x) ∧ n ≤ 40 ∧ ∃ p' cap', v = .slice p' n cap' ∧ RdG vlE 3 w' p' n Vs)
end Go.Proofs.YtpggidkcifnhjaaDoor
