/- Functions of formulas: the document's Names and Takes. Printed by gen_cal.py. -/
import Derived.Test.YtilajcibjlcffaaGreatDoorCalA
import Derived.Deep.DeepCutAuto
import Derived.Deep.LoopGhost
set_option linter.unusedSimpArgs false
set_option linter.unusedVariables false

namespace Go.Proofs.YtilajcibjlcffaaGreatDoor
open Go.RowKit Go.Joins

theorem parts_evalV (a : Act) (parts : Array (Nat × Operand)) (vs : List Value) (hparts : parts.toList = (vs.zipIdx 0).map fun x => (x.2, Operand.const x.1)) :
    (parts.map fun (i, x) => (i, a.eval x)).toList = (vs.zipIdx 0).map fun x => (x.2, x.1) := by
  rw [Array.toList_map, hparts, List.map_map]
  rfl
/-- A slice literal of strings, every place written. -/
theorem wpList_buildStrs {P : Program} {ops : Array Oper} {rest : List Oper} {o : Oper} {a : Act} {w : World} {Q : Exit → Act → World → Prop} (hg : o.guard = none) (t e : TypeId) (len : Nat) (parts : Array (Nat × Operand)) (ho : o.op = .buildSlice t len parts)
    (L : List Bs) (hu : P.underlying t = some (.slice e)) (hsz : (P.info? e).map (·.size) = some 1) (hz : ((P.info? e).bind (·.zero)).isSome = true)
    (hlen : len = L.length) (hpos : 0 < len) (hsmall : len ≤ 2 ^ 24)
    (hparts : parts.toList = ((L.map fun x => Value.string ⟨x.toArray⟩).zipIdx 0).map fun x => (x.2, Operand.const x.1))
    (h : wpList P ops Q rest (a.put o.dst (.slice (some ⟨w.heap.size, 0, none⟩) len len)) (w.alloc (.cells (strs L) e))) : wpList P ops Q (o :: rest) a w := by
  cases hie : P.info? e with
  | none => simp [hie] at hsz
  | some ie =>
    simp only [hie, Option.map_some, Option.some.injEq, Option.bind_some] at hsz hz
    obtain ⟨z, hzz⟩ := Option.isSome_iff_exists.1 hz
    refine wpList_buildSlice hg t e len parts ho (strs L) ie z hu hie hzz (by rw [hsz]; omega) (by rw [hsz]; omega) ?_ h
    rw [parts_evalV a parts _ hparts, hsz]
    exact Great.fill_flat _ _ (fun v hv => by obtain ⟨n, _, rfl⟩ := List.mem_map.1 hv; rfl) (by simp [hlen])
/-- What the document's Takes answers. -/
theorem tkC_first {s : Bs} {k : Nat} (hk : k < 4) (hno : ∀ j, j < k → s ∉ fnL j) (h : s ∈ fnL k) : tkC s = if k = 0 then (1, 16, true) else ((k : Int), (k : Int), true) := by
  have hk4 : k = 0 ∨ k = 1 ∨ k = 2 ∨ k = 3 := by omega
  unfold tkC
  rcases hk4 with rfl | rfl | rfl | rfl
  · rw [if_pos (show s ∈ fn0 from h)]; rfl
  · rw [if_neg (show s ∉ fn0 from hno 0 (by omega)), if_pos (show s ∈ fn1 from h)]; rfl
  · rw [if_neg (show s ∉ fn0 from hno 0 (by omega)), if_neg (show s ∉ fn1 from hno 1 (by omega)), if_pos (show s ∈ fn2 from h)]; rfl
  · rw [if_neg (show s ∉ fn0 from hno 0 (by omega)), if_neg (show s ∉ fn1 from hno 1 (by omega)), if_neg (show s ∉ fn2 from hno 2 (by omega)), if_pos (show s ∈ fn3 from h)]; rfl
theorem tkC_none {s : Bs} (hno : ∀ j, j < 4 → s ∉ fnL j) : tkC s = (0, 0, false) := by
  unfold tkC
  rw [if_neg (show s ∉ fn0 from hno 0 (by omega)), if_neg (show s ∉ fn1 from hno 1 (by omega)), if_neg (show s ∉ fn2 from hno 2 (by omega)), if_neg (show s ∉ fn3 from hno 3 (by omega))]
theorem fnL_len (k : Nat) : (fnL k).length ≤ 11 ∧ 0 < (fnL k).length := by
  unfold fnL
  (repeat' split) <;> decide
end Go.Proofs.YtilajcibjlcffaaGreatDoor
