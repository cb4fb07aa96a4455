/- The law's acts, opened to cells. -/
import Derived.Test.YtoeenaionamhiaaNetA
import Derived.OpenShut
import Derived.ChangeSlices
import Derived.Deep.Slices
import Derived.Deep.Fields
import Derived.ChangeSame
set_option linter.unusedSimpArgs false
set_option linter.unusedVariables false
namespace Go.Proofs.Ytoeenaionamhiaa
open Go.RowKit Go.ChangeShapes Go.WideShapes

/-- What one act's cells hold, from an address on. -/
def ActAt (w : World) (b o : Nat) : Prop := ∃ (kd f t : Int) (A : Option Addr) (n c : Nat) (L : List UInt8) (ii aa : Int) (bt : UInt8),
  w.cell? ⟨b, o, none⟩ = some (.int .i64 kd) ∧ w.cell? ⟨b, o + 1, none⟩ = some (.int .i64 f) ∧ w.cell? ⟨b, o + 2, none⟩ = some (.int .i64 t) ∧ w.cell? ⟨b, o + 3, none⟩ = some (.slice A n c) ∧
  w.cell? ⟨b, o + 4, none⟩ = some (.int .i64 ii) ∧ w.cell? ⟨b, o + 5, none⟩ = some (.int .i64 aa) ∧ w.cell? ⟨b, o + 6, none⟩ = some (.int .u8 (bt.toNat : Int)) ∧
  RdB w.heap.size w A n c L ∧ -9223372036854775808 ≤ ii ∧ ii ≤ 9223372036854775807 ∧ -9223372036854775808 ≤ aa ∧ aa ≤ 9223372036854775807

section
variable {H : Type} {enc : TypeId × Value → H} {w : World} {base : Nat} {spare : Nat → Bool} {held : Bool}

theorem wf_b64 {x : Int} (h : (Lit.int .i64 x).wf = true) : -9223372036854775808 ≤ x ∧ x ≤ 9223372036854775807 := by
  have h1 : IntKind.i64.min ≤ x ∧ x ≤ IntKind.i64.max := by simpa only [Lit.wf, Bool.and_eq_true, decide_eq_true_eq] using h
  have e1 : IntKind.i64.min = -9223372036854775808 := by decide
  have e2 : IntKind.i64.max = 9223372036854775807 := by decide
  rw [e1, e2] at h1
  exact h1
theorem wf_u8 {x : Int} (h : (Lit.int .u8 x).wf = true) : ∃ u : UInt8, x = (u.toNat : Int) := by
  have h1 : IntKind.u8.min ≤ x ∧ x ≤ IntKind.u8.max := by simpa only [Lit.wf, Bool.and_eq_true, decide_eq_true_eq] using h
  have e1 : IntKind.u8.min = 0 := by decide
  have e2 : IntKind.u8.max = 255 := by decide
  rw [e1, e2] at h1
  refine ⟨UInt8.ofNat x.toNat, ?_⟩
  rw [UInt8.toNat_ofNat']
  omega
/-- A slice of bytes that came in, read. -/
theorem open_bytes {fuel : Nat} {v : Value} {x : DataW H × List MemPlace} (h : DataW.trod enc Try.prog w base spare held fuel 26 [v] = some x) : ∃ A n c L, v = .slice A n c ∧ RdB w.heap.size w A n c L := by
  rcases open_ints Try.underlying26 Try.underlying5 (by kernel_rfl) h with ⟨hcs, _⟩ | ⟨a, len, cap, zs, hcs, _, hl, hm, hz, _, hcell, hwz⟩
  · injection hcs with hcs
    exact ⟨none, 0, 0, [], hcs, RdB.nil _ _⟩
  · injection hcs with hcs
    have hzl : len ≤ zs.length := by rw [hz]; split <;> omega
    refine ⟨some a, len, cap, (zs.take len).map (fun z => UInt8.ofNat z.toNat), hcs, by simp; omega, hl, hm, .inr ⟨a, rfl, fun hn => .inl ?_, fun j hj => ?_⟩⟩
    · have hx := World.block_lt_of_cell? w _ (hcell 0 (by omega))
      rw [block_add] at hx
      exact hx
    · rw [hcell j (by omega)]
      have hj' : j < zs.length := by omega
      obtain ⟨u, hu⟩ := wf_u8 (hwz zs[j] (List.getElem_mem hj'))
      have e1 : zs.getD j 0 = zs[j] := by simp [List.getD, hj']
      have e2 : ((zs.take len).map (fun z => UInt8.ofNat z.toNat)).getD j 0 = u := by
        simp [List.getD, List.getElem?_take, hj, hj', hu]
      rw [e1, e2, hu]
      rfl

/-- A slice of acts that came in. -/
theorem open_acts {fuel : Nat} {v : Value} {x : DataW H × List MemPlace} (h : DataW.trod enc Try.prog w base spare held fuel 22 [v] = some x) :
    v = .slice none 0 0 ∨ ∃ a len cap, v = .slice (some a) len cap ∧ len ≤ cap ∧ cap ≤ maxLen ∧ ((len = 0) ∨ ∃ b o, a = ⟨b, o, none⟩ ∧ b < w.heap.size ∧ ∀ i, i < len → ActAt w b (o + i * 7)) := by
  rcases Go.Deep.open_slice Try.underlying22 h with ⟨hcs, _⟩ | ⟨a, len, cap, m, n, D, Pl, hcs, _, hl, hm, hmm, _, hx⟩
  · injection hcs with hcs
    exact .inl hcs
  · injection hcs with hcs
    refine .inr ⟨a, len, cap, hcs, hl, hm, ?_⟩
    rcases Nat.eq_zero_or_pos len with h0 | h0
    · exact .inl h0
    · right
      have hml : len ≤ m := by rw [hmm]; split <;> omega
      have hc7 : Try.prog.cellsOf 30 = 7 := by kernel_rfl
      rw [hc7] at hx
      have hc3 : Try.prog.cellsOf 28 = 3 := by kernel_rfl
      have ci : Try.prog.cellsOf 3 = 1 := by kernel_rfl
      have cu : Try.prog.cellsOf 5 = 1 := by kernel_rfl
      have cb : Try.prog.cellsOf 26 = 1 := by kernel_rfl
      have each : ∀ i, i < len → ∃ (kd f t : Int) (A : Option Addr) (n c : Nat) (L : List UInt8) (ii aa : Int) (bt : UInt8),
          w.cell? (a.add (i * 7)) = some (.int .i64 kd) ∧ w.cell? (a.add (i * 7 + 1)) = some (.int .i64 f) ∧ w.cell? (a.add (i * 7 + 2)) = some (.int .i64 t) ∧ w.cell? (a.add (i * 7 + 3)) = some (.slice A n c) ∧
          w.cell? (a.add (i * 7 + 4)) = some (.int .i64 ii) ∧ w.cell? (a.add (i * 7 + 5)) = some (.int .i64 aa) ∧ w.cell? (a.add (i * 7 + 6)) = some (.int .u8 (bt.toNat : Int)) ∧
          RdB w.heap.size w A n c L ∧ -9223372036854775808 ≤ ii ∧ ii ≤ 9223372036854775807 ∧ -9223372036854775808 ≤ aa ∧ aa ≤ 9223372036854775807 := by
        intro i hi
        obtain ⟨cs', hcs', htr⟩ := hx i (by omega)
        obtain ⟨_, hlen, hcell⟩ := World.cells?_some hcs'
        match cs', hlen with
        | [c0, c1, c2, c3, c4, c5, c6], _ =>
          obtain ⟨xs, n1, _, _, _, hxl, hf⟩ := DataW.trod_struct Try.underlying30 htr
          match xs, hxl with
          | [y0, y1, y2, y3, y4], _ =>
            have f0 := hf 0 _ rfl
            have f1 := hf 1 _ rfl
            have f2 := hf 2 _ rfl
            have f3 := hf 3 _ rfl
            have f4 := hf 4 _ rfl
            simp only [ci, hc3, cu, List.drop_zero, List.drop_succ_cons, List.take_succ_cons, List.take_zero, List.getElem?_cons_zero, List.getElem?_cons_succ] at f0 f1 f2 f3 f4
            obtain ⟨kd, e0, _, _⟩ := DataW.trod_int Try.underlying3 f0
            obtain ⟨ii, e2, _, w2⟩ := DataW.trod_int Try.underlying3 f2
            obtain ⟨aa, e3, _, w3⟩ := DataW.trod_int Try.underlying3 f3
            obtain ⟨bb, e4, _, w4⟩ := DataW.trod_int Try.underlying5 f4
            obtain ⟨bt, rfl⟩ := wf_u8 w4
            obtain ⟨zs, n2, _, _, _, hzl, hg⟩ := DataW.trod_struct Try.underlying28 f1
            match zs, hzl with
            | [z0, z1, z2], _ =>
              have g0 := hg 0 _ rfl
              have g1 := hg 1 _ rfl
              have g2 := hg 2 _ rfl
              simp only [ci, cb, List.drop_zero, List.drop_succ_cons, List.take_succ_cons, List.take_zero, List.getElem?_cons_zero, List.getElem?_cons_succ] at g0 g1 g2
              obtain ⟨f, e5, _, _⟩ := DataW.trod_int Try.underlying3 g0
              obtain ⟨t, e6, _, _⟩ := DataW.trod_int Try.underlying3 g1
              obtain ⟨A, n, c, L, e7, hL⟩ := open_bytes g2
              have p0 := hcell 0 (by omega)
              have p1 := hcell 1 (by omega)
              have p2 := hcell 2 (by omega)
              have p3 := hcell 3 (by omega)
              have p4 := hcell 4 (by omega)
              have p5 := hcell 5 (by omega)
              have p6 := hcell 6 (by omega)
              simp only [Go.Deep.add_add, List.getElem?_cons_zero, List.getElem?_cons_succ, Nat.add_zero] at p0 p1 p2 p3 p4 p5 p6
              injection e0 with e0
              injection e2 with e2
              injection e3 with e3
              injection e4 with e4
              injection e5 with e5
              injection e6 with e6
              subst e0 e2 e3 e4 e5 e6 e7
              exact ⟨kd, f, t, A, n, c, L, ii, aa, bt, p0, p1, p2, p3, p4, p5, p6, hL, (wf_b64 w2).1, (wf_b64 w2).2, (wf_b64 w3).1, (wf_b64 w3).2⟩
      obtain ⟨b, o, sp⟩ := a
      have hs : sp = none := by
        obtain ⟨kd, _, _, _, _, _, _, _, _, _, p0, _⟩ := each 0 h0
        cases sp with
        | none => rfl
        | some k =>
          unfold Addr.add World.cell? at p0
          simp at p0
          split at p0 <;> cases p0
      subst hs
      refine ⟨b, o, rfl, ?_, fun i hi => ?_⟩
      · obtain ⟨kd, _, _, _, _, _, _, _, _, _, p0, _⟩ := each 0 h0
        have hx := World.block_lt_of_cell? w _ p0
        rw [block_add] at hx
        exact hx
      · have h := each i hi
        simp only [add_plain, ← Nat.add_assoc] at h
        exact h
end
end Go.Proofs.Ytoeenaionamhiaa
