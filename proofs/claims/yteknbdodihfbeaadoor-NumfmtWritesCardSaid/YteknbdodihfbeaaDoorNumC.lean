/- Numfmt: the program's Parse. -/
import Derived.Test.YteknbdodihfbeaaDoorNumB
import Derived.Test.YteknbdodihfbeaaDoorKept
import Derived.Deep.RegionWith
set_option linter.unusedSimpArgs false
set_option linter.unusedVariables false
namespace Go.Proofs.YteknbdodihfbeaaDoor
open Go.RowKit Go.Joins

abbrev fm0 : Fm := ⟨[], [], 0, 0, 0, false, false⟩
theorem mid_bytes (s : ByteArray) (i k : Nat) : s.extract i k = ⟨((s.data.toList.drop i).take (k - i)).toArray⟩ := by
  apply ByteArray.ext
  apply Array.ext'
  rw [ByteArray.data_extract, Array.toList_extract, List.extract_eq_take_drop]
theorem cut_le (s sep : Bs) : (Lib.cut s sep).1.length ≤ s.length ∧ (Lib.cut s sep).2.1.length ≤ s.length := by
  unfold Lib.cut
  split
  · exact ⟨by rw [List.length_take]; omega, by rw [List.length_drop]; omega⟩
  · exact ⟨Nat.le_refl _, Nat.zero_le _⟩
theorem trimS_le (s p : Bs) : (Lib.trimSuffix s p).length ≤ s.length := by
  unfold Lib.trimSuffix
  split
  · rw [List.length_take]; omega
  · exact Nat.le_refl _
/-- The pattern's own signs; without the percent sign; ahead of the point, behind it, is there one. -/
def midB (L : Bs) : Bs := (L.drop (frN L)).take (toN L - frN L)
def lefB (L : Bs) : Bs × Bs × Bool := Lib.cut (Lib.trimSuffix (midB L) [37]) [46]
/-- What is read, the tail aside. -/
def prs1 (L : Bs) : Option Fm :=
  if L.length ≤ 64 then
    match whF true (lefB L).1 false 0 with
    | none => none
    | some (cm, n) =>
      if (lefB L).1 = [] then none
      else if (lefB L).2.2 = false then some ⟨L.take (frN L), L.drop (toN L), n, 0, 0, cm, Lib.hasSuffix (midB L) [37]⟩
      else match ptF (lefB L).2.1 0 0 with
        | none => none
        | some (p, o) => if (lefB L).2.1 = [] ∨ 6 < p + o then none else some ⟨L.take (frN L), L.drop (toN L), n, p, o, cm, Lib.hasSuffix (midB L) [37]⟩
  else none
/-- No sign in a tail. -/
def noS (L : Bs) : Bool := L.all fun c => !sgB c.toNat
def prsP (L : Bs) : Option Fm := if noS (L.drop (toN L)) = true then prs1 L else none
theorem lefB_le (L : Bs) : (lefB L).1.length ≤ L.length ∧ (lefB L).2.1.length ≤ L.length := by
  have h1 := cut_le (Lib.trimSuffix (midB L) [37]) [46]
  have h2 := trimS_le (midB L) [37]
  have h3 : (midB L).length ≤ L.length := by unfold midB; simp; omega
  unfold lefB
  omega
theorem noS_at {L : Bs} {i : Nat} (h : i < L.length) : noS (L.drop i) = (!sgB (btN L i) && noS (L.drop (i + 1))) := by
  rw [List.drop_eq_getElem_cons h, noS, List.all_cons, btN_get h]
  rfl
/-- What Parse answers. -/
def PaR (O : Option Fm) (e : Ending) : Prop := match O with
  | some f => e = .returned (.tuple #[.agg (fmC f), .int .i64 0])
  | none => e = .returned (.tuple #[.agg (fmC fm0), .int .i64 21])
theorem FmB.seth {w : World} {b : Nat} {f : Fm} (h : FmB w b f) (x : Bs) : FmB (w.setCell ⟨b, 0, none⟩ (.string ⟨x.toArray⟩)) b { f with hd := x } := block_setCell h _
theorem FmB.sett {w : World} {b : Nat} {f : Fm} (h : FmB w b f) (x : Bs) : FmB (w.setCell ⟨b, 1, none⟩ (.string ⟨x.toArray⟩)) b { f with tl := x } := block_setCell h _
theorem FmB.setcm {w : World} {b : Nat} {f : Fm} (h : FmB w b f) (x : Bool) : FmB (w.setCell ⟨b, 5, none⟩ (.bool x)) b { f with cm := x } := block_setCell h _
theorem seven_set {w : World} {g : Nat} {f : Fm} (h : FmB w g f) (f' : Fm) : FmB (((((((w.setCell ⟨g, 0, none⟩ (.string ⟨f'.hd.toArray⟩)).setCell ⟨g, 1, none⟩ (.string ⟨f'.tl.toArray⟩)).setCell ⟨g, 2, none⟩ (.int .i64 (f'.n : Nat))).setCell ⟨g, 3, none⟩ (.int .i64 (f'.p : Nat))).setCell ⟨g, 4, none⟩ (.int .i64 (f'.o : Nat))).setCell ⟨g, 5, none⟩ (.bool f'.cm)).setCell ⟨g, 6, none⟩ (.bool f'.pc)) g f' := by
  exact ((((((h.seth f'.hd).sett f'.tl).setn f'.n _ rfl).setp f'.p _ rfl).seto f'.o _ rfl).setcm f'.cm).setpc f'.pc
end Go.Proofs.YteknbdodihfbeaaDoor
