/- The walk of the law NetPlays, at every slice. -/
import Derived.Test.YtoeenaionamhiaaNetU
namespace Go.Proofs.Ytoeenaionamhiaa
open Go.RowKit

theorem plays_walk (most : Int) (v : Value) (w : World) (hv : v = .slice none 0 0 ∨ ∃ a len cap, v = .slice (some a) len cap ∧ len ≤ cap ∧ cap ≤ maxLen ∧ ((len = 0) ∨ ∃ b o, a = ⟨b, o, none⟩ ∧ b < w.heap.size ∧ ∀ i, i < len → ActAt w b (o + i * 7))) :
    Calls Try.prog 4 #[.int .i64 most, v] w fun e w' => e = .returned (.bool true) ∧ Below w.heap.size w w' := by
  rcases hv with rfl | ⟨a, len, cap, rfl, h1, h2, rfl | ⟨b, o, rfl, hb, h⟩⟩
  · exact plays_walk0 most none 0 0 (Nat.le_refl _) (by unfold maxLen; omega) w (.inl rfl)
  · exact plays_walk0 most (some a) 0 cap (Nat.zero_le _) h2 w (.inl rfl)
  · exact plays_walk0 most (some ⟨b, o, none⟩) len cap h1 h2 w (.inr ⟨b, o, rfl, hb, h⟩)
end Go.Proofs.Ytoeenaionamhiaa
