/- Bind: the law's arguments opened. -/
import Derived.Test.YtjklbbmgjjdalaaGreatDoorBqM
import Derived.ProofKit
import Derived.OpenShut
import Derived.ShutString
import Derived.ChangeSlices
import Derived.ChangeArms
import Derived.DataReads
import Derived.Deep.Slices
import Derived.Deep.Fields
import Derived.ChangeSame
set_option linter.unusedSimpArgs false
set_option linter.unusedVariables false
namespace Go.Proofs.YtjklbbmgjjdalaaGreatDoor.Bd
open Go.RowKit Go.ChangeShapes Go.WideShapes Go.ChangeAt Go.Joins
theorem block_addB (a : Addr) (k : Nat) : (a.add k).block = a.block := by
  unfold Addr.add
  split <;> rfl
theorem add_plainB (b o k : Nat) : (⟨b, o, none⟩ : Addr).add k = ⟨b, o + k, none⟩ := by
  unfold Addr.add
  split
  · rename_i h0; subst h0; rfl
  · rfl
instance : Inhabited Idp := ⟨(0, 0)⟩
theorem lst2 {α : Type} {l : List α} (h : l.length = 2) : ∃ c1 c2, l = [c1, c2] := by
  match l, h with
  | [c1, c2], _ => exact ⟨c1, c2, rfl⟩
section
variable {H : Type} {enc : TypeId × Value → H} {w : World} {base : Nat} {spare : Nat → Bool} {held : Bool}
set_option maxRecDepth 100000 in
theorem open_id {fuel : Nat} {c0 c1 : Value} {x : DataW H × List MemPlace} (h : DataW.trod enc Tryz.prog w base spare held fuel tId [c0, c1] = some x) : ∃ q : Idp, c0 = .int .u64 q.1 ∧ c1 = .int .i64 q.2 := by
  have cu : Tryz.prog.cellsOf 31 = 1 := by kernel_rfl
  have ci : Tryz.prog.cellsOf 3 = 1 := by kernel_rfl
  obtain ⟨xs, n1, _, _, _, hxl, hf⟩ := DataW.trod_struct Tryz.underlying33 h
  obtain ⟨y0, y1, rfl⟩ := lst2 hxl
  have f0 := hf 0 _ rfl
  have f1 := hf 1 _ rfl
  simp only [cu, ci, List.drop_zero, List.drop_succ_cons, List.take_succ_cons, List.take_zero, List.getElem?_cons_zero, List.getElem?_cons_succ] at f0 f1
  obtain ⟨c, e0, _, _⟩ := DataW.trod_int Tryz.underlying31 f0
  obtain ⟨d, e1, _, _⟩ := DataW.trod_int Tryz.underlying3 f1
  injection e0 with e0
  injection e1 with e1
  exact ⟨(c, d), e0, e1⟩
set_option maxRecDepth 100000 in
theorem open_ids {fuel : Nat} {v : Value} {x : DataW H × List MemPlace} (h : DataW.trod enc Tryz.prog w base spare held fuel 22 [v] = some x) :
    ∃ p n cap L, v = .slice p n cap ∧ n ≤ 9223372036854775807 ∧ RdG idE 2 w p n L := by
  rcases Go.Deep.open_slice Tryz.underlying22 h with ⟨hcs, _⟩ | ⟨a, len, cap, m, n, D, Pl, hcs, _, hl, hm, hmm, _, hx⟩
  · injection hcs with hcs
    exact ⟨none, 0, 0, [], hcs, by omega, RdG.nil _ _ _ _⟩
  · injection hcs with hcs
    have hb : len ≤ 9223372036854775807 := by unfold maxLen at hm; omega
    have hml : len ≤ m := by rw [hmm]; split <;> omega
    have hc2 : Tryz.prog.cellsOf tId = 2 := by kernel_rfl
    rw [hc2] at hx
    have each : ∀ i, i < len → ∃ q : Idp, w.cell? (a.add (i * 2)) = some (.int .u64 q.1) ∧ w.cell? (a.add (i * 2 + 1)) = some (.int .i64 q.2) := by
      intro i hi
      obtain ⟨cs', hcs', htr⟩ := hx i (by omega)
      obtain ⟨_, hlen, hcell⟩ := World.cells?_some hcs'
      obtain ⟨c0, c1, rfl⟩ := lst2 hlen
      obtain ⟨q, rfl, rfl⟩ := open_id htr
      have p0 := hcell 0 (by omega)
      have p1 := hcell 1 (by omega)
      simp only [Go.Deep.add_add, List.getElem?_cons_zero, List.getElem?_cons_succ, Nat.add_zero] at p0 p1
      exact ⟨q, p0, p1⟩
    obtain ⟨f, hf⟩ := Go.Deep.choose_lt each
    refine ⟨some a, len, cap, (List.range len).map f, hcs, hb, by simp, ?_⟩
    rcases Nat.eq_zero_or_pos len with h0 | h0
    · exact .inl h0
    · right
      obtain ⟨b, o, sp⟩ := a
      have hs : sp = none := by
        obtain ⟨p0, _⟩ := hf 0 h0
        cases sp with
        | none => rfl
        | some k =>
          unfold Addr.add World.cell? at p0
          simp at p0
          split at p0 <;> cases p0
      subst hs
      refine ⟨b, o, rfl, ?_, fun j y hy k u hu => ?_⟩
      · have hx := World.block_lt_of_cell? w _ (hf 0 h0).1
        rw [block_addB] at hx
        exact hx
      · have hj : j < len := by have := (List.getElem?_eq_some_iff.1 hy).1; simpa using this
        rw [List.getElem?_map, List.getElem?_range hj] at hy
        cases hy
        obtain ⟨p0, p1⟩ := hf j hj
        rw [add_plainB] at p0 p1
        match k, hu with
        | 0, hu => cases hu; exact p0
        | 1, hu => cases hu; exact p1
set_option maxRecDepth 100000 in
theorem open_idl {r : Reach} {b0 : Nat} {v : Value} {d : DataW H} {p : List MemPlace} (hv : Value.okWide Tryz.prog w r b0 22 v) (h : DataW.Trod enc Tryz.prog w base spare held 22 v d p) : ∃ q n cap L, v = .slice q n cap ∧ n ≤ 9223372036854775807 ∧ RdG idE 2 w q n L := by
  obtain ⟨a, len, cap, rfl⟩ := okWide_slice Tryz.underlying22 hv
  obtain ⟨fuel, hf⟩ := h
  exact open_ids hf
end
end Go.Proofs.YtjklbbmgjjdalaaGreatDoor.Bd
