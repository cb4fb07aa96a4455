/- Numfmt: the document's Parse. Printed by gen_nume.py. -/
import Derived.Test.YteknbdodihfbeaaDoorNumB
import Derived.Test.YteknbdodihfbeaaDoorNumC
set_option linter.unusedSimpArgs false
set_option linter.unusedVariables false
namespace Go.Proofs.YteknbdodihfbeaaDoor
open Go.RowKit Go.Joins

abbrev tRm : TypeId := 30
/-- A pattern that the document reads. -/
structure Rm where
  hd : Bs
  tl : Bs
  a0 : Nat
  a1 : Nat
  r0 : Nat
  r1 : Nat
  cm : Bool
  pc : Bool
def rmC (f : Rm) : Array Value := #[.string ⟨f.hd.toArray⟩, .string ⟨f.tl.toArray⟩, .int .i64 (f.a0 : Nat), .int .i64 (f.a1 : Nat), .int .i64 (f.r0 : Nat), .int .i64 (f.r1 : Nat), .bool f.cm, .bool f.pc]
def RmB (w : World) (b : Nat) (f : Rm) : Prop := w.heap[b]? = some (.cells (rmC f) tRm (0, 0))
theorem RmB.cell {w : World} {b : Nat} {f : Rm} (h : RmB w b f) (j : Nat) (u : Value) (hj : (rmC f)[j]? = some u) : w.cell? ⟨b, j, none⟩ = some u := by rw [cell_of_block h]; exact hj
theorem RmB.fz {w : World} {b : Nat} {f : Rm} (h : RmB w b f) (j : Nat) : w.frozen? ⟨b, j, none⟩ = false := unfrozen_of_block h j
theorem RmB.below {w w' : World} {b : Nat} {f : Rm} (h : RmB w b f) (hb : Below w.heap.size w w') : RmB w' b f := (hb.block b (lt_some h)).trans h
theorem RmB.s0 {w : World} {b : Nat} {f : Rm} (h : RmB w b f) (x : Bs) : RmB (w.setCell ⟨b, 0, none⟩ (.string ⟨x.toArray⟩)) b { f with hd := x } := block_setCell h _
theorem RmB.s1 {w : World} {b : Nat} {f : Rm} (h : RmB w b f) (x : Bs) : RmB (w.setCell ⟨b, 1, none⟩ (.string ⟨x.toArray⟩)) b { f with tl := x } := block_setCell h _
theorem RmB.s2 {w : World} {b : Nat} {f : Rm} (h : RmB w b f) (k : Nat) (z : Int) (e : z = (k : Int)) : RmB (w.setCell ⟨b, 2, none⟩ (.int .i64 z)) b { f with a0 := k } := by subst e; exact block_setCell h _
theorem RmB.s3 {w : World} {b : Nat} {f : Rm} (h : RmB w b f) (k : Nat) (z : Int) (e : z = (k : Int)) : RmB (w.setCell ⟨b, 3, none⟩ (.int .i64 z)) b { f with a1 := k } := by subst e; exact block_setCell h _
theorem RmB.s4 {w : World} {b : Nat} {f : Rm} (h : RmB w b f) (k : Nat) (z : Int) (e : z = (k : Int)) : RmB (w.setCell ⟨b, 4, none⟩ (.int .i64 z)) b { f with r0 := k } := by subst e; exact block_setCell h _
theorem RmB.s5 {w : World} {b : Nat} {f : Rm} (h : RmB w b f) (k : Nat) (z : Int) (e : z = (k : Int)) : RmB (w.setCell ⟨b, 5, none⟩ (.int .i64 z)) b { f with r1 := k } := by subst e; exact block_setCell h _
theorem RmB.s6 {w : World} {b : Nat} {f : Rm} (h : RmB w b f) (x : Bool) : RmB (w.setCell ⟨b, 6, none⟩ (.bool x)) b { f with cm := x } := block_setCell h _
theorem RmB.s7 {w : World} {b : Nat} {f : Rm} (h : RmB w b f) (x : Bool) : RmB (w.setCell ⟨b, 7, none⟩ (.bool x)) b { f with pc := x } := block_setCell h _
abbrev rm0 : Rm := ⟨[], [], 0, 0, 0, 0, false, false⟩
theorem eight_set {w : World} {g : Nat} {f : Rm} (h : RmB w g f) (f' : Rm) : RmB ((((((((w.setCell ⟨g, 0, none⟩ (.string ⟨f'.hd.toArray⟩)).setCell ⟨g, 1, none⟩ (.string ⟨f'.tl.toArray⟩)).setCell ⟨g, 2, none⟩ (.int .i64 (f'.a0 : Nat))).setCell ⟨g, 3, none⟩ (.int .i64 (f'.a1 : Nat))).setCell ⟨g, 4, none⟩ (.int .i64 (f'.r0 : Nat))).setCell ⟨g, 5, none⟩ (.int .i64 (f'.r1 : Nat))).setCell ⟨g, 6, none⟩ (.bool f'.cm)).setCell ⟨g, 7, none⟩ (.bool f'.pc)) g f' := by
  exact (((((((h.s0 f'.hd).s1 f'.tl).s2 f'.a0 _ rfl).s3 f'.a1 _ rfl).s4 f'.r0 _ rfl).s5 f'.r1 _ rfl).s6 f'.cm).s7 f'.pc
/-- One sign: the place that is reached, is there a point, what is read; none: it may not stand there. 'nx': the byte behind it. -/
def rfS (first : Bool) (c nx pl : Nat) (pt : Bool) (f : Rm) : Option (Nat × Bool × Rm) :=
  if c = 35 ∧ pl = 0 then some (0, pt, { f with a1 := f.a1 + 1 })
  else if c = 48 ∧ pl ≤ 1 then some (1, pt, { f with a0 := f.a0 + 1 })
  else if c = 44 ∧ pl ≤ 1 ∧ f.cm = false ∧ first = false ∧ (nx = 48 ∨ nx = 35) then some (pl, pt, { f with cm := true })
  else if c = 46 ∧ pl ≤ 1 ∧ pt = false then some (2, true, f)
  else if c = 48 ∧ pl = 2 then some (pl, pt, { f with r0 := f.r0 + 1 })
  else if c = 35 ∧ (pl = 2 ∨ pl = 3) then some (3, pt, { f with r1 := f.r1 + 1 })
  else if c = 37 ∧ pl < 4 then some (4, pt, { f with pc := true })
  else none
/-- The signs, as far as they go: and what is left. -/
def rfF : Bool → Bs → Nat → Bool → Rm → Option (Nat × Bool × Rm × Bs)
  | _, [], pl, pt, f => some (pl, pt, f, [])
  | first, c :: r, pl, pt, f =>
    if sgB c.toNat = false then some (pl, pt, f, c :: r)
    else match rfS first c.toNat (btN r 0) pl pt f with
      | none => none
      | some (pl', pt', f') => rfF false r pl' pt' f'
theorem rfF_at {L : Bs} {i F : Nat} (h : i < L.length) (hF : F ≤ i) (pl : Nat) (pt : Bool) (f : Rm) : rfF (decide (i = F)) (L.drop i) pl pt f =
    if sgB (btN L i) = false then some (pl, pt, f, L.drop i)
    else match rfS (decide (i = F)) (btN L i) (btN L (i + 1)) pl pt f with
      | none => none
      | some (pl', pt', f') => rfF (decide (i + 1 = F)) (L.drop (i + 1)) pl' pt' f' := by
  have e1 : decide (i + 1 = F) = false := by simp; omega
  have e2 : btN (L.drop (i + 1)) 0 = btN L (i + 1) := by simp [btN, List.getD]
  rw [e1, ← e2, List.drop_eq_getElem_cons h, rfF, btN_get h]
/-- What the document reads. -/
def rprs (L : Bs) : Option Rm :=
  match rfF true (L.drop (frN L)) 0 false ⟨L.take (frN L), [], 0, 0, 0, 0, false, false⟩ with
  | none => none
  | some (_, pt, f, tl) => if noS tl = false ∨ 64 < L.length ∨ f.a0 + f.a1 = 0 ∨ 6 < f.r0 + f.r1 ∨ (pt = true ∧ f.r0 + f.r1 = 0) then none else some { f with tl := tl }
theorem sgB_of {c : Nat} (h : sgB c = true) : c = 48 ∨ c = 35 ∨ c = 44 ∨ c = 46 ∨ c = 37 := by
  unfold sgB at h
  simpa using h
/-- What the signs' loop leaves (none: it has returned). -/
def RlS (O : Option (Nat × Bool × Rm × Bs)) (L : Bs) (g h : Nat) (w : World) (i : Nat) (pz : Int) (wx : World) : Prop :=
  ∃ pl pt f, O = some (pl, pt, f, L.drop i) ∧ i ≤ L.length ∧ (pt = decide (0 ≤ pz)) ∧ RmB wx g f ∧ RmB wx h rm0 ∧ f.a0 ≤ 1000 ∧ f.a1 ≤ 1000 ∧ f.r0 ≤ 1000 ∧ f.r1 ≤ 1000 ∧ Below w.heap.size w wx
end Go.Proofs.YteknbdodihfbeaaDoor
