/- Division at numbers of one word, and the law's helper awake. -/
import Derived.Test.YtpggidkcifnhjaaDoorDecE
set_option linter.unusedSimpArgs false
set_option linter.unusedVariables false

namespace Go.Proofs.YtpggidkcifnhjaaDoor
open Go.RowKit

theorem rdiv_bound (lo y : Nat) (hy : 0 < y) (hlo : lo ≤ 100000000000000) : rdiv lo y ≤ 100000000000001 := by
  unfold rdiv
  have := Nat.div_le_self lo y
  split <;> omega

theorem parse_a (w : World) (hsh : w.ShapedOpen Tryd.prog) : Calls Tryd.prog 14 #[.string ⟨#[49, 46, 53, 48]⟩] w fun e w' => e = .returned (.tuple #[.int .i64 1500000, .bool true]) ∧ Below w.heap.size w w' := by
  have h := parse_any ⟨#[49, 46, 53, 48]⟩ (by decide) w hsh
  have e1 : prsV (⟨#[49, 46, 53, 48]⟩ : ByteArray).data.toList = 1500000 := by decide +kernel
  have e2 : prsOk (⟨#[49, 46, 53, 48]⟩ : ByteArray).data.toList = true := by decide +kernel
  rw [e1, e2] at h
  exact h
theorem text_a (w : World) : Calls Tryd.prog 9 #[.int .i64 1500000] w fun e w' => e = .returned (.string ⟨#[49, 46, 53]⟩) ∧ Below w.heap.size w w' := by
  have h := text_any 1500000 (by omega) (by omega) w
  have e1 : txt 1500000 = [49, 46, 53] := by decide +kernel
  rw [e1] at h
  exact h

end Go.Proofs.YtpggidkcifnhjaaDoor
