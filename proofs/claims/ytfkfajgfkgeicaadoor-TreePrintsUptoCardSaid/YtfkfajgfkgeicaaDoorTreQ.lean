/- Trees: a tree that came in, opened. -/
import Derived.Test.YtfkfajgfkgeicaaDoorTreP
import Derived.OpenShut
import Derived.ChangeSlices
import Derived.ChangeArms
import Derived.DataReads
import Derived.Deep.Slices
import Derived.Deep.Fields
import Derived.ChangeSame
set_option linter.unusedSimpArgs false
set_option linter.unusedVariables false
namespace Go.Proofs.YtfkfajgfkgeicaaDoor
open Go.RowKit Go.ChangeShapes Go.WideShapes Go.ChangeAt Go.Joins

theorem RdT.up {w : World} {N : Nat} : ∀ {d d' : Nat} {n : Nd} {p : Option Addr} {len : Nat}, d ≤ d' → RdT w N d n p len → RdT w N d' n p len
  | 0, 0, _, _, _, _, h => h
  | 0, d' + 1, _, _, _, _, h => ⟨by rw [h.1, h.2]; rfl, .inl h.2⟩
  | d + 1, 0, _, _, _, hd, _ => by omega
  | d + 1, d' + 1, n, p, len, hd, h => by
    obtain ⟨h1, h2⟩ := h
    refine ⟨h1, ?_⟩
    rcases h2 with h2 | ⟨b, off, h3, h4, h5⟩
    · exact .inl h2
    · refine .inr ⟨b, off, h3, h4, fun j c hc => ?_⟩
      obtain ⟨p', l', c', h6, h7⟩ := h5 j c hc
      exact ⟨p', l', c', h6, RdT.up (by omega) h7⟩
theorem list6 {α : Type} {l : List α} (h : l.length = 6) : ∃ a b c d e f, l = [a, b, c, d, e, f] := by
  match l, h with
  | [a, b, c, d, e, f], _ => exact ⟨a, b, c, d, e, f, rfl⟩
theorem block_addT (a : Addr) (k : Nat) : (a.add k).block = a.block := by
  unfold Addr.add
  split <;> rfl
theorem add_plainT (b o k : Nat) : (⟨b, o, none⟩ : Addr).add k = ⟨b, o + k, none⟩ := by
  unfold Addr.add
  split
  · rename_i h0; subst h0; rfl
  · rfl
theorem add_zeroT (a : Addr) : a.add 0 = a := by
  obtain ⟨b, o, sp⟩ := a
  unfold Addr.add
  split <;> simp_all
theorem add_noneT {w : World} {a : Addr} {u : Value} (h : w.cell? a = some u) : ∃ b o, a = ⟨b, o, none⟩ ∧ b < w.heap.size := by
  have hx := World.block_lt_of_cell? w _ h
  obtain ⟨b, o, sp⟩ := a
  cases sp with
  | none => exact ⟨b, o, rfl, hx⟩
  | some k =>
    exfalso
    unfold World.cell? at h
    simp at h
    split at h <;> cases h
instance : Inhabited Kid := ⟨(.mk 0 0 [] 0 0 [], none, 0, 0)⟩
section
variable {H : Type} {enc : TypeId × Value → H} {w : World} {base : Nat} {spare : Nat → Bool} {held : Bool}
theorem open_nd : ∀ (fuel : Nat) (cs : List Value) (x : DataW H × List MemPlace), DataW.trod enc Tryd.prog w base spare held fuel tRn cs = some x → ∃ n p len cap, cs = ndC n p len cap ∧ OkN n ∧ RdT w w.heap.size fuel n p len := by
  intro fuel
  induction fuel using Nat.strongRecOn with
  | _ fuel ih =>
    intro cs x h
    have hC : Tryd.prog.cellsOf tRn = 6 := by kernel_rfl
    have hC1 : Tryd.prog.cellsOf 3 = 1 := by kernel_rfl
    have hC2 : Tryd.prog.cellsOf 2 = 1 := by kernel_rfl
    have hC3 : Tryd.prog.cellsOf 9 = 1 := by kernel_rfl
    have hC4 : Tryd.prog.cellsOf 28 = 1 := by kernel_rfl
    obtain ⟨xs, m, hm, _, hsz, hlen, hF⟩ := DataW.trod_struct Tryd.underlying30 h
    rw [hC] at hsz
    obtain ⟨c0, c1, c2, c3, c4, c5, rfl⟩ := list6 hsz
    obtain ⟨y0, y1, y2, y3, y4, y5, rfl⟩ := list6 hlen
    have z0 := hF 0 _ rfl
    have z1 := hF 1 _ rfl
    have z2 := hF 2 _ rfl
    have z3 := hF 3 _ rfl
    have z4 := hF 4 _ rfl
    have z5 := hF 5 _ rfl
    simp [hC, hC1, hC2, hC3, hC4] at z0 z1 z2 z3 z4 z5
    obtain ⟨i0, e0, _, v0⟩ := DataW.trod_int Tryd.underlying3 z0
    obtain ⟨i1, e1, _, v1⟩ := DataW.trod_int Tryd.underlying2 z1
    obtain ⟨s2, e2, _, v2⟩ := DataW.trod_string Tryd.underlying9 z2
    obtain ⟨i3, e3, _, v3⟩ := DataW.trod_int Tryd.underlying3 z3
    obtain ⟨i4, e4, _, v4⟩ := DataW.trod_int Tryd.underlying3 z4
    have b64 : ∀ {x : Int}, (Lit.int .i64 x).wf = true → -9223372036854775808 ≤ x ∧ x ≤ 9223372036854775807 := by
      intro x h
      have h1 : IntKind.i64.min ≤ x ∧ x ≤ IntKind.i64.max := by simpa only [Lit.wf, Bool.and_eq_true, decide_eq_true_eq] using h
      have e1 : IntKind.i64.min = -9223372036854775808 := by decide
      have e2 : IntKind.i64.max = 9223372036854775807 := by decide
      rw [e1, e2] at h1
      exact h1
    simp only [List.cons.injEq, and_true] at e0 e1 e2 e3 e4
    subst e0 e1 e2 e3 e4
    have hs : s2 = ⟨s2.data.toList.toArray⟩ := by simp
    have hsl : s2.data.toList.length ≤ 9223372036854775807 := by
      have : s2.data.toList.length = s2.size := (Lib.size_eq s2).symm
      unfold maxLen at v2
      omega
    rcases DataW.trod_slice Tryd.underlying28 z5 with ⟨e5, _⟩ | ⟨a, len, cap, elems, rest, k, hk, e5, _, _, hl, hm', hel, hx, _, _⟩
    · simp only [List.cons.injEq, and_true] at e5
      subst e5
      refine ⟨.mk i0 i1 s2.data.toList i3 i4 [], none, 0, 0, ?_, .mk _ _ _ _ _ _ hsl (by simp) (b64 v1) (b64 v3) (b64 v4) (fun c hc => by cases hc), ?_⟩
      · unfold ndC
        show _ = [_, _, Value.string ⟨s2.data.toList.toArray⟩, _, _, _]
        rw [← hs]
        rfl
      · subst hm
        exact ⟨rfl, .inl rfl⟩
    · simp only [List.cons.injEq, and_true] at e5
      subst e5
      rw [hC] at hx
      have each : ∀ i, i < len → ∃ q : Kid, w.cells? base (a.add (i * 6)) 6 = some (kidC q) ∧ OkN q.1 ∧ RdT w w.heap.size k q.1 q.2.1 q.2.2.1 := by
        intro i hi
        have h1 := hx i hi
        obtain ⟨y, hy⟩ : ∃ y, elems[i]? = some y := ⟨_, List.getElem?_eq_getElem (by omega)⟩
        rw [hy] at h1
        cases hcs : w.cells? base (a.add (i * 6)) 6 with
        | none => rw [hcs] at h1; cases h1
        | some cs' =>
          rw [hcs] at h1
          obtain ⟨n', p', l', c', rfl, ho, hr⟩ := ih k (by omega) cs' y h1
          exact ⟨(n', p', l', c'), rfl, ho, hr⟩
      obtain ⟨f, hf⟩ := Go.Deep.choose_lt each
      refine ⟨.mk i0 i1 s2.data.toList i3 i4 ((List.range len).map fun i => (f i).1), some a, len, cap, ?_, .mk _ _ _ _ _ _ hsl (by unfold maxLen at hm'; simp; omega) (b64 v1) (b64 v3) (b64 v4) (fun c hc => ?_), ?_⟩
      · unfold ndC
        show _ = [_, _, Value.string ⟨s2.data.toList.toArray⟩, _, _, _]
        rw [← hs]
        rfl
      · obtain ⟨i, hi, rfl⟩ := List.mem_map.1 hc
        exact (hf i (List.mem_range.1 hi)).2.1
      · subst hm hk
        refine ⟨by simp [Nd.args], ?_⟩
        rcases Nat.eq_zero_or_pos len with h0 | h0
        · exact .inl h0
        · have hc0 := (World.cells?_some (hf 0 h0).1).2.2 0 (by omega)
          rw [Nat.zero_mul, add_zeroT, add_zeroT] at hc0
          obtain ⟨b, o, rfl, hlt⟩ := add_noneT (hc0.trans (show (kidC (f 0))[0]? = some (.int .i64 (f 0).1.kind) from rfl))
          refine .inr ⟨b, o, rfl, hlt, fun j c hc => ?_⟩
          simp only [Nd.args] at hc
          have hj : j < len := by have := (List.getElem?_eq_some_iff.1 hc).1; simpa using this
          rw [List.getElem?_map, List.getElem?_range hj] at hc
          obtain rfl : (f j).1 = c := by simpa using hc
          refine ⟨(f j).2.1, (f j).2.2.1, (f j).2.2.2, fun q u hu => ?_, RdT.up (by omega) (hf j hj).2.2⟩
          have hq : q < 6 := (List.getElem?_eq_some_iff.1 hu).1
          have := (World.cells?_some (hf j hj).1).2.2 q hq
          rw [add_plainT, add_plainT] at this
          exact this.trans hu
set_option maxRecDepth 100000 in
theorem open_tree {r : Reach} {b0 : Nat} {v : Value} {d : DataW H} {p : List MemPlace} (hv : Value.okWide Tryd.prog w r b0 tRn v) (h : DataW.Trod enc Tryd.prog w base spare held tRn v d p) :
    ∃ (n : Nd) (q : Option Addr) (len cap fuel : Nat), RdT w w.heap.size fuel n q len ∧ OkN n ∧ v = .agg (ndA n q len cap) := by
  obtain ⟨cs, rfl, hsz⟩ := okWide_struct Tryd.underlying30 hv
  obtain ⟨fuel, hf⟩ := h
  obtain ⟨n, q, len, cap, e, ho, hr⟩ := open_nd fuel _ _ hf
  refine ⟨n, q, len, cap, fuel, hr, ho, ?_⟩
  have e2 : cs.toList = ndC n q len cap := e
  have e3 : cs = (ndC n q len cap).toArray := by rw [← e2]
  rw [e3]
  rfl
end
end Go.Proofs.YtfkfajgfkgeicaaDoor
