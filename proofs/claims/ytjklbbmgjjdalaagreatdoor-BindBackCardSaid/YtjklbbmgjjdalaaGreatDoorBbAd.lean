/- The document's reader: node: the walk. Printed by gen_wiri.py. -/
import Derived.Test.YtjklbbmgjjdalaaGreatDoorBbO
import Derived.Test.YtjklbbmgjjdalaaGreatDoorBbAc
import Derived.Test.YtjklbbmgjjdalaaGreatDoorBbY
import Derived.Test.YtjklbbmgjjdalaaGreatDoorBbA
import Derived.Great.BuildSlice
set_option linter.unusedSimpArgs false
set_option linter.unusedVariables false
namespace Go.Proofs.YtjklbbmgjjdalaaGreatDoor.Bd
open Go.RowKit Go.Joins
abbrev tN2 : TypeId := 53
theorem info_n2 : (Tryz.prog.info? tN2).map (fun i => (i.zero, i.size, i.bytes)) = some (some (.agg #[.int .i64 0, .int .i64 0, .string ⟨#[]⟩, .int .u64 0, .int .i64 0, .int .u64 0, .int .i64 0, .int .u64 0, .int .i64 0, .int .u64 0, .int .i64 0, .slice none 0 0]), 12, 120) := by kernel_rfl
theorem newN2 (w : World) (c : Bn) (p2 : Option Addr) (l' c2 : Nat) : ∀ j u, (kidQ rfE (c, p2, l', c2))[j]? = some u → (w.alloc (.cells (bnA c p2 l' c2) tN2)).cell? ((⟨w.heap.size, 0, none⟩ : Addr).add j) = some u := by
  intro j u hj
  have hb : BlkC (w.alloc (.cells (bnA c p2 l' c2) tN2)) w.heap.size (bnA c p2 l' c2) tN2 := heap_alloc_new w _
  rw [Addr.add_mid, Nat.zero_add, cell_of_block hb]
  have e : bnA c p2 l' c2 = (kidQ rfE (c, p2, l', c2)).toArray := rfl
  rw [e]
  simpa using hj
structure KeptB (N b : Nat) (w : World) where
  v : World
  h : ∀ k, k < N → k ≠ b → v.heap[k]? = w.heap[k]?
instance (N b : Nat) (w : World) : Nonempty (KeptB N b w) := ⟨⟨w, fun _ _ _ => rfl⟩⟩
theorem KeptB.cell {N b : Nat} {w : World} {g o : Nat} {u : Value} (hg : g < N) (hb : g ≠ b) (h : w.cell? ⟨g, o, none⟩ = some u) : ∀ x : KeptB N b w, x.v.cell? ⟨g, o, none⟩ = some u := fun x => by
  unfold World.cell? at h ⊢
  rw [x.h g hg hb]
  exact h
end Go.Proofs.YtjklbbmgjjdalaaGreatDoor.Bd
