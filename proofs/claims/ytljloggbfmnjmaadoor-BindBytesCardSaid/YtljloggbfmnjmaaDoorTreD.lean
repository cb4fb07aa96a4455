/- Trees: Depth, and the document's Depth and Size. -/
import Derived.Test.YtljloggbfmnjmaaDoorTreC
set_option linter.unusedSimpArgs false
set_option linter.unusedVariables false

namespace Go.Proofs.YtljloggbfmnjmaaDoor
open Go.RowKit Go.Joins

/-- What a program's tree may be: texts and rows that a machine has, numbers of 64 bits. -/
inductive OkN : Nd → Prop
  | mk (k u : Int) (t : Bs) (f o : Int) (a : List Nd) (h1 : t.length ≤ 9223372036854775807) (h2 : a.length ≤ 9223372036854775807) (h3 : -9223372036854775808 ≤ u ∧ u ≤ 9223372036854775807) (h4 : -9223372036854775808 ≤ f ∧ f ≤ 9223372036854775807) (h5 : -9223372036854775808 ≤ o ∧ o ≤ 9223372036854775807) (h6 : ∀ c ∈ a, OkN c) : OkN (.mk k u t f o a)
theorem OkN.child {n c : Nd} (h : OkN n) (hc : c ∈ n.args) : OkN c := by cases h with | mk k u t f o a h1 h2 h3 h4 h5 h6 => exact h6 c hc
theorem OkN.text {n : Nd} (h : OkN n) : n.text.length ≤ 9223372036854775807 := by cases h with | mk k u t f o a h1 h2 h3 h4 h5 h6 => exact h1
theorem OkN.len {n : Nd} (h : OkN n) : n.args.length ≤ 9223372036854775807 := by cases h with | mk k u t f o a h1 h2 h3 h4 h5 h6 => exact h2
theorem OkN.num {n : Nd} (h : OkN n) : -9223372036854775808 ≤ n.num ∧ n.num ≤ 9223372036854775807 := by cases h with | mk k u t f o a h1 h2 h3 h4 h5 h6 => exact h3
theorem OkN.frm {n : Nd} (h : OkN n) : -9223372036854775808 ≤ n.frm ∧ n.frm ≤ 9223372036854775807 := by cases h with | mk k u t f o a h1 h2 h3 h4 h5 h6 => exact h4
theorem OkN.tor {n : Nd} (h : OkN n) : -9223372036854775808 ≤ n.tor ∧ n.tor ≤ 9223372036854775807 := by cases h with | mk k u t f o a h1 h2 h3 h4 h5 h6 => exact h5
abbrev tRn : TypeId := 95
def ndA (n : Nd) (p : Option Addr) (len cap : Nat) : Array Value := #[.int .i64 n.kind, .int .i64 n.num, .string ⟨n.text.toArray⟩, .int .i64 n.frm, .int .i64 n.tor, .slice p len cap]
theorem ndA_eq (n : Nd) (p : Option Addr) (len cap : Nat) : Value.agg (ndA n p len cap) = .agg #[.int .i64 n.kind, .int .i64 n.num, .string ⟨n.text.toArray⟩, .int .i64 n.frm, .int .i64 n.tor, .slice p len cap] := rfl
/-- A node in a block of its own. -/
def NdB (t : TypeId) (w : World) (b : Nat) (n : Nd) (p : Option Addr) (len cap : Nat) : Prop := w.heap[b]? = some (.cells (ndA n p len cap) t (0, 0))
theorem NdB.below {t : TypeId} {w w' : World} {b : Nat} {n : Nd} {p : Option Addr} {len cap : Nat} (h : NdB t w b n p len cap) (hb : Below w.heap.size w w') : NdB t w' b n p len cap := (hb.block b (lt_some h)).trans h
theorem NdB.cells {t : TypeId} {w : World} {b : Nat} {n : Nd} {p : Option Addr} {len cap : Nat} (h : NdB t w b n p len cap) : w.cell? ⟨b, 0, none⟩ = some (.int .i64 n.kind) ∧ w.cell? ⟨b, 1, none⟩ = some (.int .i64 n.num) ∧ w.cell? ⟨b, 2, none⟩ = some (.string ⟨n.text.toArray⟩) ∧ w.cell? ⟨b, 3, none⟩ = some (.int .i64 n.frm) ∧ w.cell? ⟨b, 4, none⟩ = some (.int .i64 n.tor) ∧ w.cell? ⟨b, 5, none⟩ = some (.slice p len cap) := by
  refine ⟨?_, ?_, ?_, ?_, ?_, ?_⟩
  all_goals
    rw [cell_of_block h]
    rfl
theorem dpL_ge : ∀ (a : List Nd) (m : Nat), m ≤ dpL a m
  | [], m => by rw [dpL]; exact Nat.le_refl _
  | c :: r, m => by
    rw [dpL]
    exact Nat.le_trans (Nat.le_max_left _ _) (dpL_ge r _)
theorem dpL_at {a : List Nd} {i m : Nat} {c : Nd} (h : a[i]? = some c) : dpL (a.drop i) m = dpL (a.drop (i + 1)) (max m (dpN c)) := by
  obtain ⟨hi, e⟩ := List.getElem?_eq_some_iff.1 h
  rw [List.drop_eq_getElem_cons hi, dpL, e]
theorem mem_at {a : List Nd} {i : Nat} {c : Nd} (h : a[i]? = some c) : c ∈ a := List.mem_of_getElem? h

theorem szL_at {a : List Nd} {i : Nat} {c : Nd} {k m : Int} (h : a[i]? = some c) : szL (a.drop i) k m = if k ≤ m then szL (a.drop (i + 1)) (k + szN c (m - k)) m else k := by
  obtain ⟨hi, e⟩ := List.getElem?_eq_some_iff.1 h
  rw [List.drop_eq_getElem_cons hi, szL, e]
end Go.Proofs.YtljloggbfmnjmaaDoor
