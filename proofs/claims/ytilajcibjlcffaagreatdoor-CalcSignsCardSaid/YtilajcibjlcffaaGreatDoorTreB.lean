/- Trees: the signs of a level, the level of a sign. -/
import Derived.Test.YtilajcibjlcffaaGreatDoorTreA
import Derived.Test.YtilajcibjlcffaaGreatDoorQuick
import Derived.Lib.SmallJoins
set_option linter.unusedSimpArgs false
set_option linter.unusedVariables false

namespace Go.Proofs.YtilajcibjlcffaaGreatDoor
open Go.RowKit Go.Joins

def stE (L : Bs) : List Value := [.string ⟨L.toArray⟩]
abbrev tSt : TypeId := 9
def strs (L : List Bs) : Array Value := ⟨L.map fun x => .string ⟨x.toArray⟩⟩
theorem lt_some {w : World} {b : Nat} {o : Obj} (h : w.heap[b]? = some o) : b < w.heap.size := by
  rcases Nat.lt_or_ge b w.heap.size with h' | h'
  · exact h'
  · rw [Array.getElem?_eq_none h'] at h; cases h
/-- A block of strings. -/
def SsB (w : World) (b : Nat) (L : List Bs) : Prop := w.heap[b]? = some (.cells (strs L) tSt (0, 0))
theorem SsB.below {w w' : World} {b : Nat} {L : List Bs} (h : SsB w b L) (hb : Below w.heap.size w w') : SsB w' b L := (hb.block b (lt_some h)).trans h
theorem SsB.at {w : World} {b : Nat} {L : List Bs} (h : SsB w b L) (j : Nat) (x : Bs) (hx : L[j]? = some x) : w.cell? ⟨b, j, none⟩ = some (.string ⟨x.toArray⟩) := by
  rw [cell_of_block h]
  unfold strs
  simp [hx]
theorem rd_blk {w : World} {b : Nat} {L : List Bs} (h : SsB w b L) : RdG stE 1 w (some ⟨b, 0, none⟩) L.length L := by
  refine ⟨rfl, .inr ⟨b, 0, rfl, lt_some h, fun j x hx k u hu => ?_⟩⟩
  match k, hu with
  | 0, hu =>
    simp only [stE, List.getElem?_cons_zero, Option.some.injEq] at hu
    subst hu
    have := h.at j x hx
    rw [show 0 + j * 1 + 0 = j from by omega]
    exact this
  | k + 1, hu => simp [stE] at hu
/-- What hands back strings. -/
def StrsR (L : List Bs) (e : Ending) (w' : World) : Prop := ∃ p cap, e = .returned (.slice p L.length cap) ∧ RdG stE 1 w' p L.length L
theorem strs_new (w : World) (L : List Bs) (n : Nat) (hn : L.length = n) : StrsR L (.returned (.slice (some ⟨w.heap.size, 0, none⟩) n n)) (w.alloc (.cells (strs L) tSt)) := by
  subst hn
  exact ⟨_, _, rfl, rd_blk (heap_alloc_new w _)⟩
theorem strs_nil (w : World) : StrsR [] (.returned (.slice none 0 0)) w := ⟨none, 0, rfl, RdG.nil _ _ _ _⟩
theorem cell_st {w : World} {p : Option Addr} {n : Nat} {R : List Bs} (h : RdG stE 1 w p n R) {j : Nat} (hj : j < n) : ∃ b off, p = some ⟨b, off, none⟩ ∧ b < w.heap.size ∧ w.cell? ⟨b, off + j, none⟩ = some (.string ⟨(R.getD j []).toArray⟩) := by
  obtain ⟨b, off, h1, h2, h3⟩ := h.some hj
  refine ⟨b, off, h1, h2, RdG.at1 (n := n) (p := p) h3 (x := R.getD j []) ?_ rfl⟩
  have hl : j < R.length := by rw [h.1]; exact hj
  rw [List.getD_eq_getElem?_getD, List.getElem?_eq_getElem hl]
  rfl
def sg1 : List Bs := [[61], [60, 62], [60], [60, 61], [62], [62, 61]]
def sg2 : List Bs := [[38]]
def sg3 : List Bs := [[43], [45]]
def sg4 : List Bs := [[42], [47]]
/-- The signs of a level. -/
def sgS (l : Int) : List Bs := if l = 1 then sg1 else if l = 2 then sg2 else if l = 3 then sg3 else if l = 4 then sg4 else []

/-- The level of a sign. -/
def lvS (s : Bs) : Int := if s ∈ sgS 1 then 1 else if s ∈ sgS 2 then 2 else if s ∈ sgS 3 then 3 else if s ∈ sgS 4 then 4 else 0
theorem lvS_at {s : Bs} {k : Nat} (h1 : 1 ≤ k) (h4 : k ≤ 4) (hno : ∀ j : Nat, 1 ≤ j → j < k → s ∉ sgS (j : Int)) (h : s ∈ sgS (k : Int)) : lvS s = (k : Int) := by
  have hk : k = 1 ∨ k = 2 ∨ k = 3 ∨ k = 4 := by omega
  unfold lvS
  rcases hk with rfl | rfl | rfl | rfl
  · have h : s ∈ sgS 1 := h
    rw [if_pos h]; rfl
  · have h : s ∈ sgS 2 := h
    have n1 : s ∉ sgS 1 := hno 1 (by omega) (by omega)
    rw [if_neg n1, if_pos h]; rfl
  · have h : s ∈ sgS 3 := h
    have n1 : s ∉ sgS 1 := hno 1 (by omega) (by omega)
    have n2 : s ∉ sgS 2 := hno 2 (by omega) (by omega)
    rw [if_neg n1, if_neg n2, if_pos h]; rfl
  · have h : s ∈ sgS 4 := h
    have n1 : s ∉ sgS 1 := hno 1 (by omega) (by omega)
    have n2 : s ∉ sgS 2 := hno 2 (by omega) (by omega)
    have n3 : s ∉ sgS 3 := hno 3 (by omega) (by omega)
    rw [if_neg n1, if_neg n2, if_neg n3, if_pos h]; rfl
theorem lvS_no {s : Bs} (hno : ∀ j : Nat, 1 ≤ j → j < 5 → s ∉ sgS (j : Int)) : lvS s = 0 := by
  unfold lvS
  have n1 : s ∉ sgS 1 := hno 1 (by omega) (by omega)
  have n2 : s ∉ sgS 2 := hno 2 (by omega) (by omega)
  have n3 : s ∉ sgS 3 := hno 3 (by omega) (by omega)
  have n4 : s ∉ sgS 4 := hno 4 (by omega) (by omega)
  rw [if_neg n1, if_neg n2, if_neg n3, if_neg n4]
theorem sgS_len (l : Int) : (sgS l).length ≤ 6 := by
  unfold sgS
  split
  · decide
  · split
    · decide
    · split
      · decide
      · split <;> decide

end Go.Proofs.YtilajcibjlcffaaGreatDoor
