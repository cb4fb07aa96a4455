/- Script: the law's argument opened. -/
import Derived.Test.YtddoghjopihkpaaDoorScrV
import Derived.ProofKit
import Derived.OpenShut
import Derived.ShutString
import Derived.Lib.SmallJoins
set_option linter.unusedSimpArgs false
set_option linter.unusedVariables false
namespace Go.Proofs.YtddoghjopihkpaaDoor
open Go.ChangeShapes Go.WideShapes Go.ChangeAt Go.RowKit Go.Joins

theorem array9 {α : Type} {cs : Array α} (h : cs.size = 9) : ∃ c0 c1 c2 c3 c4 c5 c6 c7 c8, cs = #[c0, c1, c2, c3, c4, c5, c6, c7, c8] := by
  obtain ⟨l⟩ := cs
  match l, h with
  | [c0, c1, c2, c3, c4, c5, c6, c7, c8], _ => exact ⟨c0, c1, c2, c3, c4, c5, c6, c7, c8, rfl⟩
theorem list8 {α : Type} {l : List α} (h : l.length = 8) : ∃ c1 c2 c3 c4 c5 c6 c7 c8, l = [c1, c2, c3, c4, c5, c6, c7, c8] := by
  match l, h with
  | [c1, c2, c3, c4, c5, c6, c7, c8], _ => exact ⟨c1, c2, c3, c4, c5, c6, c7, c8, rfl⟩
theorem list2 {α : Type} {l : List α} (h : l.length = 2) : ∃ c1 c2, l = [c1, c2] := by
  match l, h with
  | [c1, c2], _ => exact ⟨c1, c2, rfl⟩
theorem byte_wf {x : Int} (h : (Lit.int .u8 x).wf = true) : 0 ≤ x ∧ x ≤ 255 := by
  have h1 : IntKind.u8.min ≤ x ∧ x ≤ IntKind.u8.max := by simpa only [Lit.wf, Bool.and_eq_true, decide_eq_true_eq] using h
  have e1 : IntKind.u8.min = 0 := by decide
  have e2 : IntKind.u8.max = 255 := by decide
  rw [e1, e2] at h1
  exact h1
theorem str_list (s : ByteArray) : ∃ L : Bs, s = ⟨L.toArray⟩ := ⟨s.data.toList, by simp⟩

theorem open_line {H : Type} {enc : TypeId × Value → H} {w : World} {base : Nat} {spare : Nat → Bool} {held : Bool} {r : Reach} {b0 : Nat} {v : Value} {d : DataW H} {p : List MemPlace}
    (hv : Value.okWide Tryd.prog w r b0 tRl v) (h : DataW.Trod enc Tryd.prog w base spare held tRl v d p) : ∃ (kk : Int) (x : Stp), (0 ≤ x.bits ∧ x.bits ≤ 255) ∧ v = .agg (lnC kk x) := by
  have hC : Tryd.prog.cellsOf tRl = 9 := by kernel_rfl
  have hC1 : Tryd.prog.cellsOf 23 = 8 := by kernel_rfl
  have hC2 : Tryd.prog.cellsOf 3 = 1 := by kernel_rfl
  have hC3 : Tryd.prog.cellsOf 9 = 1 := by kernel_rfl
  have hC4 : Tryd.prog.cellsOf 4 = 1 := by kernel_rfl
  have hC5 : Tryd.prog.cellsOf 5 = 1 := by kernel_rfl
  obtain ⟨cs, rfl, hsz⟩ := okWide_struct Tryd.underlying25 hv
  obtain ⟨c0, c1, c2, c3, c4, c5, c6, c7, c8, rfl⟩ := array9 (hsz.trans hC)
  obtain ⟨fuel, hf⟩ := h
  obtain ⟨xs, n, _, _, _, hlen, hF⟩ := DataW.trod_struct Tryd.underlying25 hf
  obtain ⟨y0, y1, rfl⟩ := list2 hlen
  have z0 := hF 0 _ rfl
  have z1 := hF 1 _ rfl
  simp [Value.cells, hC, hC1, hC2] at z0 z1
  obtain ⟨xs2, n2, _, _, _, hlen2, hG⟩ := DataW.trod_struct Tryd.underlying23 z1
  obtain ⟨q1, q2, q3, q4, q5, q6, q7, q8, rfl⟩ := list8 hlen2
  have k1 := hG 0 _ rfl
  have k2 := hG 1 _ rfl
  have k3 := hG 2 _ rfl
  have k4 := hG 3 _ rfl
  have k5 := hG 4 _ rfl
  have k6 := hG 5 _ rfl
  have k7 := hG 6 _ rfl
  have k8 := hG 7 _ rfl
  simp [Value.cells, hC, hC1, hC2, hC3, hC4, hC5] at k1 k2 k3 k4 k5 k6 k7 k8
  obtain ⟨i0, e0, _, _⟩ := DataW.trod_int Tryd.underlying3 z0
  obtain ⟨i1, e1, _, _⟩ := DataW.trod_int Tryd.underlying3 k1
  obtain ⟨i2, e2, _, _⟩ := DataW.trod_int Tryd.underlying3 k2
  obtain ⟨s3, e3, _⟩ := DataW.trod_string Tryd.underlying9 k3
  obtain ⟨s4, e4, _⟩ := DataW.trod_string Tryd.underlying9 k4
  obtain ⟨b5, e5, _⟩ := DataW.trod_bool Tryd.underlying4 k5
  obtain ⟨i6, e6, _, _⟩ := DataW.trod_int Tryd.underlying3 k6
  obtain ⟨i7, e7, _, _⟩ := DataW.trod_int Tryd.underlying3 k7
  obtain ⟨i8, e8, _, w8⟩ := DataW.trod_int Tryd.underlying5 k8
  obtain ⟨L3, rfl⟩ := str_list s3
  obtain ⟨L4, rfl⟩ := str_list s4
  simp at e0 e1 e2 e3 e4 e5 e6 e7 e8
  subst e0 e1 e2 e3 e4 e5 e6 e7 e8
  exact ⟨i0, ⟨i1, i2, L3, L4, b5, i6, i7, i8⟩, byte_wf w8, rfl⟩
end Go.Proofs.YtddoghjopihkpaaDoor
