/- Script: what a replica does: lines, edits. -/
import Derived.Test.YtddoghjopihkpaaDoorScrD
import Derived.Lib.SmallJoins
set_option linter.unusedSimpArgs false
set_option linter.unusedVariables false
namespace Go.Proofs.YtddoghjopihkpaaDoor
open Go.RowKit Go.Joins

/-- A step. -/
structure Stp where
  k : Int
  who : Int
  cell : Bs
  text : Bs
  cols : Bool
  n : Int
  tor : Int
  bits : Int
def stC (x : Stp) : Array Value := #[.int .i64 x.k, .int .i64 x.who, .string ⟨x.cell.toArray⟩, .string ⟨x.text.toArray⟩, .bool x.cols, .int .i64 x.n, .int .i64 x.tor, .int .u8 x.bits]
abbrev tStp : TypeId := 29
/-- A step in a block. -/
def StB (w : World) (b : Nat) (x : Stp) : Prop := w.heap[b]? = some (.cells (stC x) tStp (0, 0))
theorem lt_some {w : World} {b : Nat} {o : Obj} (h : w.heap[b]? = some o) : b < w.heap.size := by
  rcases Nat.lt_or_ge b w.heap.size with h' | h'
  · exact h'
  · rw [Array.getElem?_eq_none h'] at h; cases h
theorem StB.below {w w' : World} {b : Nat} {x : Stp} (h : StB w b x) (hb : Below w.heap.size w w') : StB w' b x := (hb.block b (lt_some h)).trans h
theorem StB.cells {w : World} {b : Nat} {x : Stp} (h : StB w b x) : w.cell? ⟨b, 0, none⟩ = some (.int .i64 x.k) ∧ w.cell? ⟨b, 1, none⟩ = some (.int .i64 x.who) ∧ w.cell? ⟨b, 2, none⟩ = some (.string ⟨x.cell.toArray⟩) ∧ w.cell? ⟨b, 3, none⟩ = some (.string ⟨x.text.toArray⟩) ∧ w.cell? ⟨b, 4, none⟩ = some (.bool x.cols) ∧ w.cell? ⟨b, 5, none⟩ = some (.int .i64 x.n) ∧ w.cell? ⟨b, 6, none⟩ = some (.int .i64 x.tor) ∧ w.cell? ⟨b, 7, none⟩ = some (.int .u8 x.bits) := by
  refine ⟨?_, ?_, ?_, ?_, ?_, ?_, ?_, ?_⟩
  all_goals
    rw [cell_of_block h]
    rfl
theorem StB.fz {w : World} {b : Nat} {x : Stp} (h : StB w b x) : w.frozen? ⟨b, 0, none⟩ = false ∧ w.frozen? ⟨b, 1, none⟩ = false ∧ w.frozen? ⟨b, 2, none⟩ = false ∧ w.frozen? ⟨b, 3, none⟩ = false ∧ w.frozen? ⟨b, 4, none⟩ = false ∧ w.frozen? ⟨b, 5, none⟩ = false ∧ w.frozen? ⟨b, 6, none⟩ = false ∧ w.frozen? ⟨b, 7, none⟩ = false := ⟨unfrozen_of_block h 0, unfrozen_of_block h 1, unfrozen_of_block h 2, unfrozen_of_block h 3, unfrozen_of_block h 4, unfrozen_of_block h 5, unfrozen_of_block h 6, unfrozen_of_block h 7⟩
def st0 : Stp := ⟨0, 0, [], [], false, 0, 0, 0⟩
def rowCol (L : Bs) : Bool := decide (L = wRow) || decide (L = wCol)
def linesS (L : Bs) (x : Stp) : Stp × Bool := match nbs 1 (rs L) with
  | some l => if wd L = wRow ∨ wd L = wCol then ({ x with cols := decide (wd L = wCol), n := ((l.getD 0 0 : Nat) : Int) }, true) else (x, false)
  | none => (x, false)
theorem nums_len : ∀ (P : List Bs) (l : List Nat), nums P = some l → l.length = P.length
  | [], l, h => by cases h; rfl
  | x :: r, l, h => by
    unfold nums at h
    cases h1 : nmb x with
    | none => rw [h1] at h; cases h
    | some n =>
      cases h2 : nums r with
      | none => rw [h1, h2] at h; cases h
      | some t =>
        rw [h1, h2] at h
        cases h
        have := nums_len r t h2
        simp only [List.length_cons, this]
theorem nbs_len {k : Nat} {L : Bs} {l : List Nat} (h : nbs k L = some l) : l.length = k := by
  unfold nbs at h
  split at h
  · rename_i he
    rw [nums_len _ _ h, he]
  · cases h
theorem int_at {w : World} {p : Option Addr} {l : List Nat} (h : RdG inE 1 w p l.length l) {j : Nat} (hj : j < l.length) : ∃ b off, p = some ⟨b, off, none⟩ ∧ b < w.heap.size ∧ w.cell? ⟨b, off + j, none⟩ = some (.int .i64 ((l.getD j 0 : Nat) : Int)) := by
  obtain ⟨b, off, h1, h2, h3⟩ := h.some hj
  refine ⟨b, off, h1, h2, RdG.at1 (n := l.length) (p := p) h3 (x := l.getD j 0) ?_ rfl⟩
  rw [List.getD_eq_getElem?_getD, List.getElem?_eq_getElem hj]
  rfl

set_option maxRecDepth 100000 in
set_option maxHeartbeats 4000000 in
theorem lines_any (L : Bs) (hL : L.length ≤ 100000) (x : Stp) (w : World) (hsh : w.ShapedOpen Tryd.prog) :
    Calls Tryd.prog 38 #[.string ⟨L.toArray⟩, .agg (stC x)] w fun e w' => e = .returned (.tuple #[.agg (stC (linesS L x).1), .bool (linesS L x).2]) ∧ Below w.heap.size w w' := by
  have HW := Lib.hid (fun W (hW : Below w.heap.size w W) => word_any L hL W (shaped_bel hsh hW))
  have HN := Lib.hid (fun W (hW : Below w.heap.size w W) => numbers_any 1 (by omega) (rs L) (Nat.le_trans (rs_len L) hL) W (shaped_bel hsh hW))
  obtain ⟨O, hO⟩ : ∃ O, linesS L x = O := ⟨_, rfl⟩
  rw [hO]
  have HO : Hid (O = match nbs 1 (rs L) with
    | some l => if wd L = wRow ∨ wd L = wCol then ({ x with cols := decide (wd L = wCol), n := ((l.getD 0 0 : Nat) : Int) }, true) else (x, false)
    | none => (x, false)) := by rw [← hO]; rfl
  have hlen := fun l (h : nbs 1 (rs L) = some l) => nbs_len h
  clear hO
  generalize nbs 1 (rs L) = N at HN HO hlen
  generalize wd L = A at HW HO
  generalize rs L = R at HW HN
  have hA0 : Hid (StB ((w.alloc (.cells (stC x) tStp)).alloc (.cells (stC st0) tStp)) w.heap.size x) := by
    unfold Hid StB
    rw [Lib.alloc_old _ _ _ (by simp)]
    exact heap_alloc_new w _
  have hA1 : Hid (StB ((w.alloc (.cells (stC x) tStp)).alloc (.cells (stC st0) tStp)) (w.heap.size + 1) st0) := by
    unfold Hid StB
    have := heap_alloc_new (w.alloc (.cells (stC x) tStp)) (.cells (stC st0) tStp)
    rw [World.size_alloc] at this
    exact this
  have hAB : Hid (Below w.heap.size w ((w.alloc (.cells (stC x) tStp)).alloc (.cells (stC st0) tStp))) := by unfold Hid; (repeat' (first | (with_reducible exact Below.refl _ _) | (with_reducible assumption) | (with_reducible refine Below.alloc ?_ ?_ _) | (with_reducible refine bel_drewN ?_ _) | (with_reducible refine Below.drew ?_) | (with_reducible refine Below.setCell ?_ ?_ _) | (with_reducible refine bel_call ‹_› ?_ ?_) | go_size))
  have hAz : ((w.alloc (.cells (stC x) tStp)).alloc (.cells (stC st0) tStp)).heap.size = w.heap.size + 2 := by simp
  go_enter Tryd.func38, Tryd.ntmps38
  go_upto_region 1 with fail
  have e0 : (w.alloc (.cells (stC x) tStp)).alloc (.cells #[.int .i64 0, .int .i64 0, .string ⟨#[]⟩, .string ⟨#[]⟩, .bool false, .int .i64 0, .int .i64 0, .int .u8 0] tStp) = (w.alloc (.cells (stC x) tStp)).alloc (.cells (stC st0) tStp) := rfl
  rw [e0]
  clear e0
  generalize (w.alloc (.cells (stC x) tStp)).alloc (.cells (stC st0) tStp) = w0 at hA0 hA1 hAB hAz ⊢
  go_wp2_with fail
  refine (HW.out w0 hAB.out).mono ?_
  rintro e w1 ⟨rfl, hb1⟩
  have hB1 : Hid (Below w.heap.size w w1) := bel_call hb1 hAB.out (by omega)
  have hC0 := Lib.hid (hA0.out.below hb1)
  have hC1 := Lib.hid (hA1.out.below hb1)
  have hz1 := hb1.size
  clear hA0 hA1 hAB hb1
  go_wp2_with fail
  refine (HN.out w1 hB1.out).mono ?_
  rintro e w2 ⟨hnum, hb2⟩
  have hB2 : Hid (Below w.heap.size w w2) := bel_call hb2 hB1.out (by omega)
  have hD0 := Lib.hid (hC0.out.below hb2)
  have hD1 := Lib.hid (hC1.out.below hb2)
  have hz2 := hb2.size
  clear hC0 hC1 hB1 hb2
  obtain ⟨c0, c1, c2, c3, c4, c5, c6, c7⟩ := hD0.out.cells
  obtain ⟨d0, d1, d2, d3, d4, d5, d6, d7⟩ := hD1.out.cells
  obtain ⟨f0, f1, f2, f3, f4, f5, f6, f7⟩ := hD0.out.fz
  obtain ⟨g0, g1, g2, g3, g4, g5, g6, g7⟩ := hD1.out.fz
  cases N with
  | none =>
    have hnum : e = .returned (.tuple #[.slice none 0 0, .bool false]) := hnum
    subst hnum
    have HO2 : Hid (O = (x, false)) := HO.out
    clear HO hlen
    go_wp2_with fail
    refine bodyPost_ret (v := .tuple #[.agg (stC x), .bool false]) (by simp only [results, Tryd.results38]; go_simp; rfl) rfl ⟨?_, by have := hB2.out; (repeat' (first | (with_reducible exact Below.refl _ _) | (with_reducible assumption) | (with_reducible refine Below.alloc ?_ ?_ _) | (with_reducible refine bel_drewN ?_ _) | (with_reducible refine Below.drew ?_) | (with_reducible refine Below.setCell ?_ ?_ _) | (with_reducible refine bel_call ‹_› ?_ ?_) | go_size))⟩
    rw [HO2.out]
  | some l =>
    have hll := hlen l rfl
    have hnum : ∃ p cap, e = .returned (.tuple #[.slice p l.length cap, .bool true]) ∧ RdG inE 1 w2 p l.length l ∧ ∀ a, p = some a → w1.heap.size ≤ a.block := hnum
    obtain ⟨p, cap, rfl, hrd, hpa⟩ := hnum
    obtain ⟨bi, oi, rfl, hbi, hi0⟩ := int_at hrd (j := 0) (by omega)
    have hbn : w.heap.size + 2 ≤ bi := by have := hpa _ rfl; simp only at this; omega
    clear hpa
    have hi0 : w2.cell? ⟨bi, oi, none⟩ = some (.int .i64 ((l.getD 0 0 : Nat) : Int)) := hi0
    have HO1 : Hid (O = if A = wRow ∨ A = wCol then ({ x with cols := decide (A = wCol), n := ((l.getD 0 0 : Nat) : Int) }, true) else (x, false)) := HO.out
    rw [hll]
    clear HO
    generalize l.getD 0 0 = m at hi0 HO1
    have HO := HO1
    clear HO1
    clear hrd hlen
    by_cases hr : A = wRow ∨ A = wCol
    · have HO2 : Hid (O = ({ x with cols := decide (A = wCol), n := (m : Int) }, true)) := by unfold Hid; rw [HO.out, if_pos hr]
      clear HO HW
      rcases hr with rfl | rfl
      · go_wp2_with fail
        go_region
        all_goals
          go_wp2_with fail
          refine bodyPost_ret (v := .tuple #[.agg (stC { x with cols := false, n := (m : Int) }), .bool true]) (by simp only [results, Tryd.results38]; go_simp; rfl) rfl ⟨?_, by have := hB2.out; (repeat' (first | (with_reducible exact Below.refl _ _) | (with_reducible assumption) | (with_reducible refine Below.alloc ?_ ?_ _) | (with_reducible refine bel_drewN ?_ _) | (with_reducible refine Below.drew ?_) | (with_reducible refine Below.setCell ?_ ?_ _) | (with_reducible refine bel_call ‹_› ?_ ?_) | go_size))⟩
          rw [HO2.out]
          rfl
      · go_wp2_with fail
        go_region
        all_goals
          go_wp2_with fail
          refine bodyPost_ret (v := .tuple #[.agg (stC { x with cols := true, n := (m : Int) }), .bool true]) (by simp only [results, Tryd.results38]; go_simp; rfl) rfl ⟨?_, by have := hB2.out; (repeat' (first | (with_reducible exact Below.refl _ _) | (with_reducible assumption) | (with_reducible refine Below.alloc ?_ ?_ _) | (with_reducible refine bel_drewN ?_ _) | (with_reducible refine Below.drew ?_) | (with_reducible refine Below.setCell ?_ ?_ _) | (with_reducible refine bel_call ‹_› ?_ ?_) | go_size))⟩
          rw [HO2.out]
          rfl
    · have HO2 : Hid (O = (x, false)) := by unfold Hid; rw [HO.out, if_neg hr]
      have e1 : ((⟨A.toArray⟩ : ByteArray).toList == [114, 111, 119]) = false := seq_no A _ (fun h => hr (.inl h))
      have e2 : ((⟨A.toArray⟩ : ByteArray).toList == [99, 111, 108]) = false := seq_no A _ (fun h => hr (.inr h))
      clear HO hr HW
      generalize (⟨A.toArray⟩ : ByteArray) = X at e1 e2 ⊢
      go_wp2_with fail
      refine bodyPost_ret (v := .tuple #[.agg (stC x), .bool false]) (by simp only [results, Tryd.results38]; go_simp; rfl) rfl ⟨?_, by have := hB2.out; (repeat' (first | (with_reducible exact Below.refl _ _) | (with_reducible assumption) | (with_reducible refine Below.alloc ?_ ?_ _) | (with_reducible refine bel_drewN ?_ _) | (with_reducible refine Below.drew ?_) | (with_reducible refine Below.setCell ?_ ?_ _) | (with_reducible refine bel_call ‹_› ?_ ?_) | go_size))⟩
      rw [HO2.out]
end Go.Proofs.YtddoghjopihkpaaDoor
