/- CSV: slices of strings, and slices of such, that came in: opened to cells, with the bulk of what they hold. -/
import Derived.Test.YthgeajmggbakbaaDoorCsvK
import Derived.Test.YthgeajmggbakbaaDoorRows
import Derived.OpenShut
import Derived.ChangeSlices
import Derived.Deep.Slices
import Derived.Deep.Fields
import Derived.ChangeSame
set_option linter.unusedSimpArgs false
set_option linter.unusedVariables false
namespace Go.Proofs.YthgeajmggbakbaaDoor
open Go.RowKit Go.ChangeShapes Go.WideShapes

instance : Inhabited Rw := ⟨⟨none, 0, 0, []⟩⟩
theorem block_add (a : Addr) (k : Nat) : (a.add k).block = a.block := by
  unfold Addr.add
  split <;> rfl
theorem add_plain (b o k : Nat) : (⟨b, o, none⟩ : Addr).add k = ⟨b, o + k, none⟩ := by
  unfold Addr.add
  split
  · rename_i h0; subst h0; rfl
  · rfl
theorem bulk_map {H : Type} (D : Nat → DataW H) (g : Nat → Nat) (l : List Nat) (h : ∀ i ∈ l, g i ≤ Rows.uptoBulk (D i)) : (l.map g).sum ≤ Rows.uptoBulkAll (l.map D) := by
  induction l with
  | nil => simp
  | cons i l ih =>
    have h1 := h i (by simp)
    have h2 := ih (fun j hj => h j (by simp [hj]))
    simp only [List.map_cons, List.sum_cons, Rows.uptoBulkAll]
    omega
theorem add_none {w : World} {a : Addr} {u : Value} (h : w.cell? (a.add 0) = some u) : ∃ b o, a = ⟨b, o, none⟩ ∧ b < w.heap.size := by
  have hx := World.block_lt_of_cell? w _ h
  rw [block_add] at hx
  obtain ⟨b, o, sp⟩ := a
  cases sp with
  | none => exact ⟨b, o, rfl, hx⟩
  | some k =>
    exfalso
    unfold Addr.add World.cell? at h
    simp at h
    split at h <;> cases h
section
variable {H : Type} {enc : TypeId × Value → H} {w : World} {base : Nat} {spare : Nat → Bool} {held : Bool}
theorem open_strs {fuel : Nat} {v : Value} {x : DataW H × List MemPlace} (h : DataW.trod enc Tryd.prog w base spare held fuel 22 [v] = some x) :
    ∃ p n cap R, v = .slice p n cap ∧ n ≤ cap ∧ n ≤ 9223372036854775807 ∧ RdG bsE 1 w p n R ∧ szR R ≤ Rows.uptoBulk x.1 := by
  rcases Go.Deep.open_slice1 Tryd.underlying22 (by kernel_rfl) h with ⟨hcs, _⟩ | ⟨a, len, cap, m, n, V, D, Pl, hcs, _, hl, hm, hmm, rfl, hx⟩
  · injection hcs with hcs
    exact ⟨none, 0, 0, [], hcs, Nat.le_refl _, by omega, RdG.nil _ _ _ _, by simp [szR]⟩
  · injection hcs with hcs
    have hb : len ≤ 9223372036854775807 := by unfold maxLen at hm; omega
    have hml : len ≤ m := by rw [hmm]; split <;> omega
    have each : ∀ i, i < len → ∃ s : Bs, V i = .string ⟨s.toArray⟩ ∧ D i = .lit (.string s) ∧ w.cell? (a.add i) = some (.string ⟨s.toArray⟩) := by
      intro i hi
      obtain ⟨h1, h2⟩ := hx i (by omega)
      obtain ⟨s, e1, e2, _⟩ := DataW.trod_string Tryd.underlying9 h2
      injection e1 with e1
      injection e2 with e2 _
      refine ⟨s.data.toList, ?_, e2, ?_⟩
      · rw [e1]
      · rw [h1, e1]
    obtain ⟨f, hf⟩ := Go.Deep.choose_lt each
    refine ⟨some a, len, cap, (List.range len).map f, hcs, hl, hb, ⟨by simp, ?_⟩, ?_⟩
    · rcases Nat.eq_zero_or_pos len with h0 | h0
      · exact .inl h0
      · obtain ⟨b, o, rfl, hlt⟩ := add_none (hf 0 h0).2.2
        refine .inr ⟨b, o, rfl, hlt, fun j y hy k u hu => ?_⟩
        have hj : j < len := by have := (List.getElem?_eq_some_iff.1 hy).1; simpa using this
        rw [List.getElem?_map, List.getElem?_range hj] at hy
        cases hy
        match k, hu with
        | 0, hu =>
          cases hu
          have := (hf j hj).2.2
          rw [add_plain] at this
          rw [Nat.mul_one, Nat.add_zero]
          exact this
        | k + 1, hu => cases hu
    · have h1 := bulk_map D (fun i => (f i).length) (List.range len) (fun i hi => by
        rw [(hf i (List.mem_range.1 hi)).2.1]
        simp [Rows.uptoBulk])
      have h2 : szR ((List.range len).map f) = ((List.range len).map fun i => (f i).length).sum := by
        unfold szR
        rw [List.map_map]
        rfl
      rw [h2]
      simp only [Rows.uptoBulk]
      omega
theorem open_rows {fuel : Nat} {v : Value} {x : DataW H × List MemPlace} (h : DataW.trod enc Tryd.prog w base spare held fuel 24 [v] = some x) :
    ∃ p n cap Ls, v = .slice p n cap ∧ n ≤ cap ∧ n ≤ 9223372036854775807 ∧ RdRs w p n Ls ∧ (Ls.map fun r => szR r.R).sum ≤ Rows.uptoBulk x.1 := by
  rcases Go.Deep.open_slice1 Tryd.underlying24 (by kernel_rfl) h with ⟨hcs, _⟩ | ⟨a, len, cap, m, n, V, D, Pl, hcs, _, hl, hm, hmm, rfl, hx⟩
  · injection hcs with hcs
    exact ⟨none, 0, 0, [], hcs, Nat.le_refl _, by omega, ⟨RdG.nil _ _ _ _, fun r hr => by cases hr⟩, by simp⟩
  · injection hcs with hcs
    have hb : len ≤ 9223372036854775807 := by unfold maxLen at hm; omega
    have hml : len ≤ m := by rw [hmm]; split <;> omega
    have each : ∀ i, i < len → ∃ r : Rw, w.cell? (a.add i) = some (.slice r.p r.n r.cap) ∧ (RdG bsE 1 w r.p r.n r.R ∧ r.n ≤ r.cap ∧ r.n ≤ 9223372036854775807) ∧ szR r.R ≤ Rows.uptoBulk (D i) := by
      intro i hi
      obtain ⟨h1, h2⟩ := hx i (by omega)
      obtain ⟨p, k, c, R, e, k1, k2, k3, k4⟩ := open_strs h2
      exact ⟨⟨p, k, c, R⟩, by rw [h1, e], ⟨k3, k1, k2⟩, k4⟩
    obtain ⟨f, hf⟩ := Go.Deep.choose_lt each
    refine ⟨some a, len, cap, (List.range len).map f, hcs, hl, hb, ⟨⟨by simp, ?_⟩, ?_⟩, ?_⟩
    · rcases Nat.eq_zero_or_pos len with h0 | h0
      · exact .inl h0
      · obtain ⟨b, o, rfl, hlt⟩ := add_none (hf 0 h0).1
        refine .inr ⟨b, o, rfl, hlt, fun j y hy k u hu => ?_⟩
        have hj : j < len := by have := (List.getElem?_eq_some_iff.1 hy).1; simpa using this
        rw [List.getElem?_map, List.getElem?_range hj] at hy
        cases hy
        match k, hu with
        | 0, hu =>
          cases hu
          have := (hf j hj).1
          rw [add_plain] at this
          rw [Nat.mul_one, Nat.add_zero]
          exact this
        | k + 1, hu => cases hu
    · intro r hr
      obtain ⟨i, hi, rfl⟩ := List.mem_map.1 hr
      exact (hf i (List.mem_range.1 hi)).2.1
    · have h1 := bulk_map D (fun i => szR (f i).R) (List.range len) (fun i hi => (hf i (List.mem_range.1 hi)).2.2)
      rw [List.map_map]
      have h2 : ((List.range len).map ((fun r => szR r.R) ∘ f)) = ((List.range len).map fun i => szR (f i).R) := rfl
      rw [h2]
      simp only [Rows.uptoBulk]
      omega
end
theorem small_part {H : Type} {ds : List (DataW H)} (h : Rows.uptoSmall H ds = true) {d : DataW H} (hd : d ∈ ds) : Rows.uptoBulk d ≤ 1048576 := by
  have h : Rows.uptoBulkAll ds ≤ 1048576 := of_decide_eq_true h
  revert h
  induction ds with
  | nil => cases hd
  | cons x ds ih =>
    intro h
    simp only [Rows.uptoBulkAll] at h
    rcases List.mem_cons.1 hd with rfl | hd
    · omega
    · exact ih (decide_eq_true (by omega)) hd (by omega)
theorem cells_of {H : Type} {enc : TypeId × Value → H} {base : Nat} {spare : Nat → Bool} {held : Bool} (s : ByteArray) {f1 : Nat} {v1 : Value} {x1 : DataW H × List MemPlace} (w : World) (hsh : w.ShapedOpen Tryd.prog)
    (h1 : DataW.trod enc Tryd.prog w base spare held f1 22 [v1] = some x1) (hb : Rows.uptoBulk x1.1 ≤ 1048576) :
    Calls Tryd.prog 3 #[.string s, v1] w fun e w' => e = .returned (.bool true) ∧ Below w.heap.size w w' := by
  obtain ⟨p, n, cap, R, rfl, hc, hn, hR, hz⟩ := open_strs h1
  exact cells_walk s p n cap R w hsh hR hc hn (by omega)
end Go.Proofs.YthgeajmggbakbaaDoor
