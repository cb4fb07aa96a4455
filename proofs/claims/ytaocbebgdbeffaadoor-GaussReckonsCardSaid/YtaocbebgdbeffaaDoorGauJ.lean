/- A slice of pairs that came in, opened to cells; the law GaussReckons at every slice. -/
import Derived.Test.YtaocbebgdbeffaaDoorGauI
import Derived.OpenShut
import Derived.ChangeSlices
import Derived.Deep.Slices
import Derived.Deep.Fields
import Derived.ChangeSame
set_option linter.unusedSimpArgs false
set_option linter.unusedVariables false
namespace Go.Proofs.YtaocbebgdbeffaaDoor
open Go.RowKit Go.ChangeShapes Go.WideShapes

theorem block_add (a : Addr) (k : Nat) : (a.add k).block = a.block := by
  unfold Addr.add
  split <;> rfl
theorem add_plain (b o k : Nat) : (⟨b, o, none⟩ : Addr).add k = ⟨b, o + k, none⟩ := by
  unfold Addr.add
  split
  · rename_i h0; subst h0; rfl
  · rfl
section
variable {H : Type} {enc : TypeId × Value → H} {w : World} {base : Nat} {spare : Nat → Bool} {held : Bool}

theorem open_pairs {fuel : Nat} {v : Value} {x : DataW H × List MemPlace} (h : DataW.trod enc Tryd.prog w base spare held fuel 44 [v] = some x) :
    v = .slice none 0 0 ∨ ∃ a len cap, v = .slice (some a) len cap ∧ len ≤ cap ∧ cap ≤ maxLen ∧ ((len = 0) ∨ ∃ b o, a = ⟨b, o, none⟩ ∧ b < w.heap.size ∧ ∀ i, i < len → ∃ c d : Int, w.cell? ⟨b, o + i * 2, none⟩ = some (.int .i64 c) ∧ w.cell? ⟨b, o + i * 2 + 1, none⟩ = some (.int .i64 d)) := by
  rcases Go.Deep.open_slice Tryd.underlying44 h with ⟨hcs, _⟩ | ⟨a, len, cap, m, n, D, Pl, hcs, _, hl, hm, hmm, _, hx⟩
  · injection hcs with hcs
    exact .inl hcs
  · injection hcs with hcs
    refine .inr ⟨a, len, cap, hcs, hl, hm, ?_⟩
    rcases Nat.eq_zero_or_pos len with h0 | h0
    · exact .inl h0
    · right
      have hml : len ≤ m := by rw [hmm]; split <;> omega
      have hc2 : Tryd.prog.cellsOf 28 = 2 := by kernel_rfl
      rw [hc2] at hx
      have ci : Tryd.prog.cellsOf 3 = 1 := by kernel_rfl
      have each : ∀ i, i < len → ∃ c d : Int, w.cell? (a.add (i * 2)) = some (.int .i64 c) ∧ w.cell? (a.add (i * 2 + 1)) = some (.int .i64 d) := by
        intro i hi
        obtain ⟨cs', hcs', htr⟩ := hx i (by omega)
        obtain ⟨_, hlen, hcell⟩ := World.cells?_some hcs'
        match cs', hlen with
        | [c0, c1], _ =>
          obtain ⟨xs, n1, _, _, _, hxl, hf⟩ := DataW.trod_struct Tryd.underlying28 htr
          match xs, hxl with
          | [y0, y1], _ =>
            have f0 := hf 0 _ rfl
            have f1 := hf 1 _ rfl
            simp only [ci, List.drop_zero, List.drop_succ_cons, List.take_succ_cons, List.take_zero, List.getElem?_cons_zero, List.getElem?_cons_succ] at f0 f1
            obtain ⟨c, e0, _, _⟩ := DataW.trod_int Tryd.underlying3 f0
            obtain ⟨d, e1, _, _⟩ := DataW.trod_int Tryd.underlying3 f1
            have p0 := hcell 0 (by omega)
            have p1 := hcell 1 (by omega)
            simp only [Go.Deep.add_add, List.getElem?_cons_zero, List.getElem?_cons_succ, Nat.add_zero] at p0 p1
            injection e0 with e0
            injection e1 with e1
            subst e0 e1
            exact ⟨c, d, p0, p1⟩
      obtain ⟨b, o, sp⟩ := a
      have hs : sp = none := by
        obtain ⟨c, d, p0, _⟩ := each 0 h0
        cases sp with
        | none => rfl
        | some k =>
          unfold Addr.add World.cell? at p0
          simp at p0
          split at p0 <;> cases p0
      subst hs
      refine ⟨b, o, rfl, ?_, fun i hi => ?_⟩
      · obtain ⟨c, d, p0, _⟩ := each 0 h0
        have hx := World.block_lt_of_cell? w _ p0
        rw [block_add] at hx
        exact hx
      · have h := each i hi
        simp only [add_plain, ← Nat.add_assoc] at h
        exact h
end

/-- What a cell holds. -/
def cellI (w : World) (b k : Nat) : Int := match w.cell? ⟨b, k, none⟩ with | some (.int _ x) => x | _ => 0
theorem reckons_of (v : Value) (w : World) (h : v = .slice none 0 0 ∨ ∃ a len cap, v = .slice (some a) len cap ∧ len ≤ cap ∧ cap ≤ maxLen ∧ ((len = 0) ∨ ∃ b o, a = ⟨b, o, none⟩ ∧ b < w.heap.size ∧ ∀ i, i < len → ∃ c d : Int, w.cell? ⟨b, o + i * 2, none⟩ = some (.int .i64 c) ∧ w.cell? ⟨b, o + i * 2 + 1, none⟩ = some (.int .i64 d))) :
    Calls Tryd.prog 6 #[v] w fun e w' => e = .returned (.bool true) ∧ Below w.heap.size w w' := by
  rcases h with rfl | ⟨a, len, cap, rfl, hl, hm, h⟩
  · exact reckons_walk none 0 0 [] (by omega) w ⟨rfl, .inl rfl⟩
  · have hb : len ≤ 9223372036854775807 := by unfold maxLen at hm; omega
    rcases h with rfl | ⟨b, o, rfl, hlt, hc⟩
    · exact reckons_walk (some a) 0 cap [] (by omega) w ⟨rfl, .inl rfl⟩
    · refine reckons_walk (some ⟨b, o, none⟩) len cap ((List.range len).map fun i => (cellI w b (o + i * 2), cellI w b (o + i * 2 + 1))) hb w ⟨by simp, .inr ⟨b, o, rfl, hlt, fun j hj => ?_⟩⟩
      have hj' : j < len := by simpa using hj
      obtain ⟨c, d, h1, h2⟩ := hc j hj'
      have e1 : cellI w b (o + j * 2) = c := by unfold cellI; rw [h1]
      have e2 : cellI w b (o + j * 2 + 1) = d := by unfold cellI; rw [h2]
      simp only [List.getElem_map, List.getElem_range, e1, e2]
      exact ⟨h1, h2⟩
end Go.Proofs.YtaocbebgdbeffaaDoor
