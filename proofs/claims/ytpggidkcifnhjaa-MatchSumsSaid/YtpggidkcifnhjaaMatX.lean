/- Slices of values that came in, opened to cells; the law MatchSums at every slice. -/
import Derived.Test.YtpggidkcifnhjaaMatW
import Derived.OpenShut
import Derived.ChangeSlices
import Derived.Deep.Slices
import Derived.Deep.Fields
import Derived.ChangeSame
set_option linter.unusedSimpArgs false
set_option linter.unusedVariables false
namespace Go.Proofs.Ytpggidkcifnhjaa
open Go.RowKit Go.ChangeShapes Go.WideShapes

theorem lit64 {x : Int} (h : (Lit.int .i64 x).wf = true) : -9223372036854775808 ≤ x ∧ x ≤ 9223372036854775807 := by
  have h1 : IntKind.i64.min ≤ x ∧ x ≤ IntKind.i64.max := by simpa only [Lit.wf, Bool.and_eq_true, decide_eq_true_eq] using h
  have e1 : IntKind.i64.min = -9223372036854775808 := by decide
  have e2 : IntKind.i64.max = 9223372036854775807 := by decide
  rw [e1, e2] at h1
  exact h1
theorem block_add (a : Addr) (k : Nat) : (a.add k).block = a.block := by
  unfold Addr.add
  split <;> rfl
theorem add_plain (b o k : Nat) : (⟨b, o, none⟩ : Addr).add k = ⟨b, o + k, none⟩ := by
  unfold Addr.add
  split
  · rename_i h0; subst h0; rfl
  · rfl
section
variable {H : Type} {enc : TypeId × Value → H} {w : World} {base : Nat} {spare : Nat → Bool} {held : Bool}

theorem open_vals {fuel : Nat} {v : Value} {x : DataW H × List MemPlace} (h : DataW.trod enc Try.prog w base spare held fuel 22 [v] = some x) :
    ∃ p n cap Vs, v = .slice p n cap ∧ n ≤ 9223372036854775807 ∧ (∀ y ∈ Vs, -9223372036854775808 ≤ y.n ∧ y.n ≤ 9223372036854775807) ∧ RdG vlE 3 w p n Vs := by
  rcases Go.Deep.open_slice Try.underlying22 h with ⟨hcs, _⟩ | ⟨a, len, cap, m, n, D, Pl, hcs, _, hl, hm, hmm, _, hx⟩
  · injection hcs with hcs
    exact ⟨none, 0, 0, [], hcs, by omega, fun y hy => (by cases hy), RdG.nil _ _ _ _⟩
  · injection hcs with hcs
    have hb : len ≤ 9223372036854775807 := by unfold maxLen at hm; omega
    rcases Nat.eq_zero_or_pos len with h0 | h0
    · subst h0
      exact ⟨some a, 0, cap, [], hcs, hb, fun y hy => (by cases hy), RdG.nil _ _ _ _⟩
    · have hml : len ≤ m := by rw [hmm]; split <;> omega
      have hc2 : Try.prog.cellsOf 38 = 3 := by kernel_rfl
      rw [hc2] at hx
      have ci : Try.prog.cellsOf 3 = 1 := by kernel_rfl
      have cj : Try.prog.cellsOf 2 = 1 := by kernel_rfl
      have ck : Try.prog.cellsOf 9 = 1 := by kernel_rfl
      have each : ∀ i, i < len → ∃ y : Vl, (-9223372036854775808 ≤ y.n ∧ y.n ≤ 9223372036854775807) ∧ w.cell? (a.add (i * 3)) = some (.int .i64 y.k) ∧ w.cell? (a.add (i * 3 + 1)) = some (.int .i64 y.n) ∧ w.cell? (a.add (i * 3 + 2)) = some (.string y.t) := by
        intro i hi
        obtain ⟨cs', hcs', htr⟩ := hx i (by omega)
        obtain ⟨_, hlen, hcell⟩ := World.cells?_some hcs'
        match cs', hlen with
        | [c0, c1, c2], _ =>
          obtain ⟨xs, n1, _, _, _, hxl, hf⟩ := DataW.trod_struct Try.underlying38 htr
          match xs, hxl with
          | [y0, y1, y2], _ =>
            have f0 := hf 0 _ rfl
            have f1 := hf 1 _ rfl
            have f2 := hf 2 _ rfl
            simp only [ci, cj, ck, List.drop_zero, List.drop_succ_cons, List.take_succ_cons, List.take_zero, List.getElem?_cons_zero, List.getElem?_cons_succ] at f0 f1 f2
            obtain ⟨k, e0, _, _⟩ := DataW.trod_int Try.underlying3 f0
            obtain ⟨z, e1, _, wz⟩ := DataW.trod_int Try.underlying2 f1
            obtain ⟨s, e2, _⟩ := DataW.trod_string Try.underlying9 f2
            have p0 := hcell 0 (by omega)
            have p1 := hcell 1 (by omega)
            have p2 := hcell 2 (by omega)
            simp only [Go.Deep.add_add, List.getElem?_cons_zero, List.getElem?_cons_succ, Nat.add_zero] at p0 p1 p2
            simp [ci, cj, ck] at e0 e1 e2
            subst e0 e1 e2
            exact ⟨⟨k, z, s⟩, lit64 wz, p0, p1, p2⟩
      obtain ⟨b, o, sp⟩ := a
      have hs : sp = none := by
        obtain ⟨y, _, p0, _⟩ := each 0 h0
        cases sp with
        | none => rfl
        | some k =>
          unfold Addr.add World.cell? at p0
          simp at p0
          split at p0 <;> cases p0
      subst hs
      have hlt : b < w.heap.size := by
        obtain ⟨y, _, p0, _⟩ := each 0 h0
        have hx := World.block_lt_of_cell? w _ p0
        rw [block_add] at hx
        exact hx
      refine ⟨some ⟨b, o, none⟩, len, cap, (List.finRange len).map fun i => Classical.choose (each i.1 i.2), hcs, hb, ?_, ?_⟩
      · intro y hy
        obtain ⟨i, _, rfl⟩ := List.mem_map.1 hy
        exact (Classical.choose_spec (each i.1 i.2)).1
      · refine ⟨by simp, .inr ⟨b, o, rfl, hlt, fun j x hx k u hu => ?_⟩⟩
        have hj : j < len := by have := (List.getElem?_eq_some_iff.1 hx).1; simpa using this
        have hxe : x = Classical.choose (each j hj) := by
          rw [List.getElem?_map, List.getElem?_eq_getElem (by simpa using hj)] at hx
          simp at hx
          exact hx.symm
        have hc := (Classical.choose_spec (each j hj)).2
        rw [← hxe] at hc
        simp only [add_plain] at hc
        obtain ⟨p0, p1, p2⟩ := hc
        match k, hu with
        | 0, hu => simp [vlE] at hu; subst hu; exact p0
        | 1, hu => simp [vlE] at hu; subst hu; exact p1
        | 2, hu => simp [vlE] at hu; subst hu; exact p2
end
theorem sums_of {H : Type} {enc : TypeId × Value → H} {base : Nat} {spare : Nat → Bool} {held : Bool} (s : ByteArray) {f1 f2 : Nat} {v1 v2 : Value} {x1 x2 : DataW H × List MemPlace} (w : World) (hsh : w.ShapedOpen Try.prog)
    (h1 : DataW.trod enc Try.prog w base spare held f1 22 [v1] = some x1) (h2 : DataW.trod enc Try.prog w base spare held f2 22 [v2] = some x2) :
    Calls Try.prog 3 #[.string s, v1, v2] w fun e w' => e = .returned (.bool true) ∧ Below w.heap.size w w' := by
  obtain ⟨p, n, cap, Vs, rfl, hn, hR, hV⟩ := open_vals h1
  obtain ⟨pu, nu, cu, Us, rfl, hnu, hRu, hU⟩ := open_vals h2
  exact sums_walk s p n cap Vs pu nu cu Us hn hnu hR hRu w hsh hV hU
end Go.Proofs.Ytpggidkcifnhjaa
