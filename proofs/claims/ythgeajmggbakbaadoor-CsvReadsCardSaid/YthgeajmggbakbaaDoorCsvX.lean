/- CSV: the document's state in memory; the end of a cell. -/
import Derived.Test.YthgeajmggbakbaaDoorCsvR
import Derived.Deep.AppendLies
import Derived.Deep.RegionLaw
set_option linter.unusedSimpArgs false
set_option linter.unusedVariables false
namespace Go.Proofs.YthgeajmggbakbaaDoor
open Go.RowKit Go.Joins

abbrev tSt : TypeId := 47
abbrev tStr : TypeId := 9
/-- Rows of strings, each in a block of its type below Br. -/
def ApB (w : World) (Br : Nat) (Ls : List Rw) : Prop := ∀ r ∈ Ls, (RdG bsE 1 w r.p r.n r.R ∧ r.n ≤ r.cap ∧ r.n ≤ 9223372036854775807) ∧ (r.n = 0 ∨ ∃ a cs fr, r.p = some a ∧ a.block < Br ∧ w.heap[a.block]? = some (.cells cs tStr fr))
theorem ApB.keep {w w' : World} {Br Br' : Nat} {Ls : List Rw} (h : ApB w Br Ls) (hB : Br ≤ Br') (hz : w.heap.size ≤ w'.heap.size) (hk : ∀ (k : Nat) cs fr, k < Br → w.heap[k]? = some (.cells cs tStr fr) → w'.heap[k]? = w.heap[k]?) : ApB w' Br' Ls := by
  intro r hr
  obtain ⟨⟨h1, h2⟩, h3⟩ := h r hr
  rcases h3 with h0 | ⟨a, cs, fr, ha, hab, hb⟩
  · exact ⟨⟨⟨h1.1, .inl h0⟩, h2⟩, .inl h0⟩
  · have e := hk _ _ _ hab hb
    refine ⟨⟨⟨h1.1, ?_⟩, h2⟩, .inr ⟨a, cs, fr, ha, Nat.lt_of_lt_of_le hab hB, e.trans hb⟩⟩
    rcases h1.2 with h0 | ⟨g, off, hp, hg, hc⟩
    · exact .inl h0
    · rw [ha] at hp
      cases hp
      exact .inr ⟨g, off, ha, Nat.lt_of_lt_of_le hg hz, fun j x hx k u hu => by
        rw [← hc j x hx k u hu]
        exact World.cell?_of_block e⟩
theorem row_keep {w w' : World} {base e size n : Nat} {v : Value} {xs : List Value} (h : w.ownsRow base e size v n xs) (hk : ∀ (k : Nat) cs fr, w.heap[k]? = some (.cells cs e fr) → w'.heap[k]? = w.heap[k]?) : w'.ownsRow base e size v n xs := by
  obtain ⟨h1, h2⟩ := h
  refine ⟨h1, ?_⟩
  rcases h2 with h2 | ⟨g, cap, cur, hv, hg, hh, r⟩
  · exact .inl h2
  · exact .inr ⟨g, cap, cur, hv, hg, (hk _ _ _ hh).trans hh, r⟩

/-- The document's state at block b: the cell's text, the row's and the rows' slices. -/
structure StM (w : World) (b Br B K : Nat) (x : St) (c : Nat) (rv Rv : Value) (Ls : List Rw) : Prop where
  blk : w.heap[b]? = some (.cells #[.int .i64 x.pt, .string ⟨x.cell.toArray⟩, rv, Rv, .int .i64 c] tSt (0, 0))
  hBr : Br ≤ w.heap.size
  hB : B ≤ Br
  row : w.ownsRow Br tStr 1 rv x.row.length (x.row.flatMap bsE)
  rows : Ls.map Rw.R = x.rows
  rrow : w.ownsRow B 22 1 Rv Ls.length (Ls.flatMap rwE)
  ap : ApB w Br Ls
  k1 : x.cell.length ≤ K
  k2 : x.row.length ≤ K
  k3 : Ls.length ≤ K
  k4 : c ≤ K
variable {w : World} {b Br B K c : Nat} {x : St} {rv Rv : Value} {Ls : List Rw}
theorem StM.lt (h : StM w b Br B K x c rv Rv Ls) : b < w.heap.size := lt_of_some h.blk
theorem StM.mono (h : StM w b Br B K x c rv Rv Ls) {K' : Nat} (hK : K ≤ K') : StM w b Br B K' x c rv Rv Ls :=
  { h with k1 := Nat.le_trans h.k1 hK, k2 := Nat.le_trans h.k2 hK, k3 := Nat.le_trans h.k3 hK, k4 := Nat.le_trans h.k4 hK }
theorem StM.cells (h : StM w b Br B K x c rv Rv Ls) : w.cell? ⟨b, 0, none⟩ = some (.int .i64 x.pt) ∧ w.cell? ⟨b, 1, none⟩ = some (.string ⟨x.cell.toArray⟩) ∧ w.cell? ⟨b, 2, none⟩ = some rv ∧ w.cell? ⟨b, 3, none⟩ = some Rv ∧ w.cell? ⟨b, 4, none⟩ = some (.int .i64 c) := by
  refine ⟨?_, ?_, ?_, ?_, ?_⟩
  all_goals
    rw [cell_of_block h.blk]
    rfl
theorem StM.fz (h : StM w b Br B K x c rv Rv Ls) : w.frozen? ⟨b, 0, none⟩ = false ∧ w.frozen? ⟨b, 1, none⟩ = false ∧ w.frozen? ⟨b, 2, none⟩ = false ∧ w.frozen? ⟨b, 3, none⟩ = false ∧ w.frozen? ⟨b, 4, none⟩ = false := ⟨unfrozen_of_block h.blk 0, unfrozen_of_block h.blk 1, unfrozen_of_block h.blk 2, unfrozen_of_block h.blk 3, unfrozen_of_block h.blk 4⟩
theorem StM.below (h : StM w b Br B K x c rv Rv Ls) {w' : World} (hb : Below w.heap.size w w') : StM w' b Br B K x c rv Rv Ls :=
  { h with blk := (hb.block b h.lt).trans h.blk, hBr := Nat.le_trans h.hBr hb.size, row := row_below h.row hb, rrow := row_below h.rrow hb, ap := h.ap.keep (Nat.le_refl _) hb.size fun k cs fr _ hk => hb.block k (lt_of_some hk) }
/-- A store into the state's own block. -/
theorem St_keep (hblk : ∃ cs fr, w.heap[b]? = some (.cells cs tSt fr)) (j : Nat) (u : Value) (e : TypeId) (he : e ≠ tSt) (k : Nat) (cs : Array Value) (fr : Nat × Nat) (h : w.heap[k]? = some (.cells cs e fr)) : (w.setCell ⟨b, j, none⟩ u).heap[k]? = w.heap[k]? :=
  Below.heap_setCell w _ u k (by
    rintro rfl
    obtain ⟨cs', fr', h'⟩ := hblk
    rw [h] at h'
    simp only [Option.some.injEq, Obj.cells.injEq] at h'
    exact he h'.2.1)
theorem StM.put (h : StM w b Br B K x c rv Rv Ls) (j : Nat) (u : Value) : Br ≤ (w.setCell ⟨b, j, none⟩ u).heap.size ∧ (w.setCell ⟨b, j, none⟩ u).ownsRow Br tStr 1 rv x.row.length (x.row.flatMap bsE) ∧ (w.setCell ⟨b, j, none⟩ u).ownsRow B 22 1 Rv Ls.length (Ls.flatMap rwE) ∧ ApB (w.setCell ⟨b, j, none⟩ u) Br Ls :=
  ⟨by rw [World.size_setCell]; exact h.hBr, row_keep h.row (St_keep ⟨_, _, h.blk⟩ j u _ (by decide)), row_keep h.rrow (St_keep ⟨_, _, h.blk⟩ j u _ (by decide)), h.ap.keep (Nat.le_refl _) (by rw [World.size_setCell]; exact Nat.le_refl _) fun k cs fr _ hk => St_keep ⟨_, _, h.blk⟩ j u _ (by decide) k cs fr hk⟩
theorem StM.set0 (h : StM w b Br B K x c rv Rv Ls) (z : Int) (k : Nat) (e : z = (k : Int)) : StM (w.setCell ⟨b, 0, none⟩ (.int .i64 z)) b Br B K { x with pt := k } c rv Rv Ls := by
  subst e
  obtain ⟨h1, h2, h3, h4⟩ := h.put 0 (.int .i64 (k : Int))
  exact { h with blk := block_setCell h.blk _, hBr := h1, row := h2, rrow := h3, ap := h4 }
theorem StM.set1 (h : StM w b Br B K x c rv Rv Ls) (v : ByteArray) (C : Bs) (e : v = ⟨C.toArray⟩) (hC : C.length ≤ K) : StM (w.setCell ⟨b, 1, none⟩ (.string v)) b Br B K { x with cell := C } c rv Rv Ls := by
  subst e
  obtain ⟨h1, h2, h3, h4⟩ := h.put 1 (.string ⟨C.toArray⟩)
  exact { h with blk := block_setCell h.blk _, hBr := h1, row := h2, rrow := h3, ap := h4, k1 := hC }
theorem StM.set4 (h : StM w b Br B K x c rv Rv Ls) (z : Int) (k : Nat) (e : z = (k : Int)) (hk : k ≤ K) : StM (w.setCell ⟨b, 4, none⟩ (.int .i64 z)) b Br B K x k rv Rv Ls := by
  subst e
  obtain ⟨h1, h2, h3, h4⟩ := h.put 4 (.int .i64 (k : Int))
  exact { h with blk := block_setCell h.blk _, hBr := h1, row := h2, rrow := h3, ap := h4, k4 := hk }
theorem own_ne {base size n k : Nat} {e e' : TypeId} {v : Value} {xs : List Value} {cs : Array Value} {fr : Nat × Nat} (h : w.ownsRow base e size v n xs) (hk : w.heap[k]? = some (.cells cs e' fr)) (hne : e' ≠ e) : v.ownBlock ≠ some k := by
  rcases h.2 with ⟨rfl, _⟩ | ⟨g, cap, cur, rfl, _, hh, _⟩
  · intro e; cases e
  · intro e'
    cases e'
    rw [hh] at hk
    simp only [Option.some.injEq, Obj.cells.injEq] at hk
    exact hne hk.2.1.symm
theorem own_ge {base size n k : Nat} {e : TypeId} {v : Value} {xs : List Value} (h : w.ownsRow base e size v n xs) (hk : k < base) : v.ownBlock ≠ some k := by
  rcases h.2 with ⟨rfl, _⟩ | ⟨g, cap, cur, rfl, hg, hh, _⟩
  · intro e; cases e
  · intro e'
    have : g = k := by simpa [Value.ownBlock] using e'
    omega
theorem StM.blkRow (h : StM w b Br B K x c rv Rv Ls) {W w3 : World} (hW : Below w.heap.size w W) (hg : W.grownBy w3 rv.ownBlock) : w3.heap[b]? = some (.cells #[.int .i64 x.pt, .string ⟨x.cell.toArray⟩, rv, Rv, .int .i64 c] tSt (0, 0)) :=
  (hg.block b (h.below hW).lt (fun e => own_ne (h.below hW).row (h.below hW).blk (by decide) e.symm)).trans (h.below hW).blk
theorem StM.blkRows (h : StM w b Br B K x c rv Rv Ls) {W w3 : World} (hW : Below w.heap.size w W) (hg : W.grownBy w3 Rv.ownBlock) : w3.heap[b]? = some (.cells #[.int .i64 x.pt, .string ⟨x.cell.toArray⟩, rv, Rv, .int .i64 c] tSt (0, 0)) :=
  (hg.block b (h.below hW).lt (fun e => own_ne (h.below hW).rrow (h.below hW).blk (by decide) e.symm)).trans (h.below hW).blk
/-- The cell joins the row. -/
theorem StM.push (h : StM w b Br B K x c rv Rv Ls) {W w3 : World} (hW : Below w.heap.size w W) (hg : W.grownBy w3 rv.ownBlock) {v' : Value} (ho : w3.ownsRow Br tStr 1 v' (x.row.length + 1) (x.row.flatMap bsE ++ bsE x.cell)) : StM (w3.setCell ⟨b, 2, none⟩ v') b Br B (K + 1) { x with row := x.row ++ [x.cell] } c v' Rv Ls := by
  have hWs := h.below hW
  have hb : w3.heap[b]? = some (.cells #[.int .i64 x.pt, .string ⟨x.cell.toArray⟩, rv, Rv, .int .i64 c] tSt (0, 0)) := (hg.block b hWs.lt (fun e => own_ne hWs.row hWs.blk (by decide) e.symm)).trans hWs.blk
  have kp := St_keep (w := w3) (b := b) ⟨_, _, hb⟩ 2 v'
  refine { hBr := ?_, hB := h.hB, row := ?_, rows := h.rows, rrow := ?_, ap := ?_, blk := block_setCell hb _, k1 := by have := h.k1; simp only; omega, k2 := by have := h.k2; simp only [List.length_append, List.length_singleton]; omega, k3 := by have := h.k3; omega, k4 := by have := h.k4; omega }
  · rw [World.size_setCell]; exact Nat.le_trans hWs.hBr hg.size
  · simp only [List.length_append, List.length_singleton, flat_snoc]
    exact row_keep ho (kp _ (by decide))
  · exact row_keep (row_keep hWs.rrow fun k cs fr hk => hg.block k (lt_of_some hk) (fun e => own_ne hWs.row hk (by decide) e.symm)) (kp _ (by decide))
  · exact (hWs.ap.keep (Nat.le_refl _) hg.size fun k cs fr hlt hk => hg.block k (lt_of_some hk) (fun e => own_ge hWs.row hlt e.symm)).keep (Nat.le_refl _) (by rw [World.size_setCell]; exact Nat.le_refl _) fun k cs fr _ hk => kp _ (by decide) k cs fr hk
/-- The row joins the rows; a new row begins. -/
theorem StM.close {p : Option Addr} {n cap : Nat} (h : StM w b Br B K x c (.slice p n cap) Rv Ls) {W w3 : World} (hW : Below w.heap.size w W) (hg : W.grownBy w3 Rv.ownBlock) {v' : Value} (ho : w3.ownsRow B 22 1 v' (Ls.length + 1) (Ls.flatMap rwE ++ rwE ⟨p, n, cap, x.row⟩)) : StM ((w3.setCell ⟨b, 3, none⟩ v').setCell ⟨b, 2, none⟩ (.slice none 0 0)) b w3.heap.size B (K + 1) { x with row := [], rows := x.rows ++ [x.row] } c (.slice none 0 0) v' (Ls ++ [⟨p, n, cap, x.row⟩]) := by
  have hWs := h.below hW
  have hb : w3.heap[b]? = some (.cells #[.int .i64 x.pt, .string ⟨x.cell.toArray⟩, .slice p n cap, Rv, .int .i64 c] tSt (0, 0)) := (hg.block b hWs.lt (fun e => own_ne hWs.rrow hWs.blk (by decide) e.symm)).trans hWs.blk
  have kp := St_keep (w := w3) (b := b) ⟨_, _, hb⟩ 3 v'
  have hb2 : (w3.setCell ⟨b, 3, none⟩ v').heap[b]? = some (.cells #[.int .i64 x.pt, .string ⟨x.cell.toArray⟩, .slice p n cap, v', .int .i64 c] tSt (0, 0)) := block_setCell hb _
  have kp2 := St_keep (w := w3.setCell ⟨b, 3, none⟩ v') (b := b) ⟨_, _, hb2⟩ 2 (.slice none 0 0)
  have hr3 : w3.ownsRow Br tStr 1 (.slice p n cap) x.row.length (x.row.flatMap bsE) := row_keep hWs.row fun k cs fr hk => hg.block k (lt_of_some hk) (fun e => own_ne hWs.rrow hk (by decide) e.symm)
  have hap3 : ApB w3 w3.heap.size (Ls ++ [⟨p, n, cap, x.row⟩]) := by
    intro r hr
    rcases List.mem_append.1 hr with hr | hr
    · exact hWs.ap.keep (Nat.le_trans hWs.hBr hg.size) hg.size (fun k cs fr _ hk => hg.block k (lt_of_some hk) (fun e => own_ne hWs.rrow hk (by decide) e.symm)) r hr
    · rw [List.mem_singleton] at hr
      subst hr
      obtain ⟨p', cap', e, h1, h2, hrd, _⟩ := RdG.of_own (sz := 1) (L := x.row) bsE_len rfl hr3
      cases e
      refine ⟨⟨hrd, h1, by unfold maxLen at h2; show x.row.length ≤ _; omega⟩, ?_⟩
      rcases hr3.2 with ⟨e, h0⟩ | ⟨g, cap', cur, hv, hg', hh, _⟩
      · exact .inl h0
      · cases hv
        exact .inr ⟨_, cur, _, rfl, lt_of_some hh, hh⟩
  refine { hBr := ?_, hB := ?_, row := World.ownsRow_nil _ _ _ _, rows := ?_, rrow := ?_, ap := ?_, blk := block_setCell hb2 _, k1 := by have := h.k1; simp only; omega, k2 := Nat.zero_le _, k3 := by have := h.k3; rw [List.length_append, List.length_singleton]; omega, k4 := by have := h.k4; omega }
  · rw [World.size_setCell, World.size_setCell]; exact Nat.le_refl _
  · exact Nat.le_trans h.hB (Nat.le_trans hWs.hBr hg.size)
  · rw [List.map_append, h.rows]; rfl
  · simp only [List.length_append, List.length_singleton, flat_snoc]
    exact row_keep (row_keep ho (kp _ (by decide))) (kp2 _ (by decide))
  · have h1 : ApB (w3.setCell ⟨b, 3, none⟩ v') w3.heap.size (Ls ++ [⟨p, n, cap, x.row⟩]) := hap3.keep (Nat.le_refl _) (by rw [World.size_setCell]; exact Nat.le_refl _) fun k cs fr _ hk => kp _ (by decide) k cs fr hk
    exact h1.keep (Nat.le_refl _) (by simp only [World.size_setCell, Nat.le_refl]) fun k cs fr _ hk => kp2 _ (by decide) k cs fr hk

set_option maxRecDepth 100000 in
set_option maxHeartbeats 8000000 in
theorem end_row (row : Bool) (hK : K ≤ 30000) (h : StM w b Br B K x c rv Rv Ls) (hBb : B ≤ b) :
    Calls Tryd.prog 23 #[.pointer (some ⟨b, 0, none⟩), .bool row] w fun e w' => e = .returned (.tuple #[]) ∧ (∃ Br' rv' Rv' Ls', StM w' b Br' B (K + 2) (rEnd x row) c rv' Rv' Ls') ∧ Below B w w' := by
  obtain ⟨i0, hi, hz0, hz1, hz2⟩ := info_of info_str
  obtain ⟨i1, gi, gz0, gz1, gz2⟩ := info_of info_strs
  obtain ⟨q0, q1, q2, q3, q4⟩ := h.cells
  obtain ⟨f0, f1, f2, f3, f4⟩ := h.fz
  have hk2 := h.k2
  have hk3 := h.k3
  have hlt := h.lt
  have hBs := h.hBr
  have hBB := h.hB
  have HH := Lib.hid h
  clear h
  go_enter Tryd.func23, Tryd.ntmps23
  go_wp2_with fail
  go_cut [] (fun wx => ∃ (gg cap' : Nat), StM wx b Br B (K + 1) { x with row := x.row ++ [x.cell] } c (.slice (some ⟨gg, 0, none⟩) (x.row.length + 1) cap') Rv Ls ∧ Below B w wx)
  case first =>
   have own := fun (W : World) (hW : Below w.heap.size w W) => row_below HH.out.row hW
   have HOWN := Lib.hid own
   clear own
   go_region_law (first
    | (refine step_append_lies _ (by rfl) _ _ _ (by rfl) Br tStr i0 (.string ⟨#[]⟩) 1 16 Tryd.underlying22 hi hz0 hz1 hz2 rfl (by decide) _ x.row.length (x.row.flatMap bsE) (by rfl) (HOWN.out _ (by (repeat' (first | (with_reducible exact Below.refl _ _) | (with_reducible assumption) | (with_reducible refine Below.alloc ?_ ?_ _) | (with_reducible refine bel_drewN ?_ _) | (with_reducible refine Below.drew ?_) | (with_reducible refine Below.setCell ?_ ?_ _) | (with_reducible refine bel_call ‹_› ?_ ?_) | go_size)))) _ 1 1 (bsE x.cell) (by rfl) (by rfl) (new1 _ _ _) ?_ (by decide) ?_ ?_ ?_ _ (by rfl) ?_
       · exact bsE_one _
       · unfold maxLen; omega
       · omega
       · go_size
       intro gg cap' w3 hown3 hgr3 hlies hlt3
       have hb3 := HH.out.blkRow (W := (w.alloc (.cells #[.string ⟨x.cell.toArray⟩] tStr)).drew) (by (repeat' (first | (with_reducible exact Below.refl _ _) | (with_reducible assumption) | (with_reducible refine Below.alloc ?_ ?_ _) | (with_reducible refine bel_drewN ?_ _) | (with_reducible refine Below.drew ?_) | (with_reducible refine Below.setCell ?_ ?_ _) | (with_reducible refine bel_call ‹_› ?_ ?_) | go_size))) hgr3
       have c32 : w3.cell? ⟨b, 2, none⟩ = some rv := by rw [cell_of_block hb3]; rfl
       have f32 := unfrozen_of_block hb3 2
       have HS3 : Hid (StM (w3.setCell ⟨b, 2, none⟩ (.slice (some ⟨gg, 0, none⟩) (x.row.length + 1) cap')) b Br B (K + 1) { x with row := x.row ++ [x.cell] } c (.slice (some ⟨gg, 0, none⟩) (x.row.length + 1) cap') Rv Ls) := HH.out.push (W := (w.alloc (.cells #[.string ⟨x.cell.toArray⟩] tStr)).drew) (by (repeat' (first | (with_reducible exact Below.refl _ _) | (with_reducible assumption) | (with_reducible refine Below.alloc ?_ ?_ _) | (with_reducible refine bel_drewN ?_ _) | (with_reducible refine Below.drew ?_) | (with_reducible refine Below.setCell ?_ ?_ _) | (with_reducible refine bel_call ‹_› ?_ ?_) | go_size))) hgr3 hown3
       have HB3 : Hid (Below B w w3) := Below.grown (B := B) (w := (w.alloc (.cells #[.string ⟨x.cell.toArray⟩] tStr)).drew) (by (repeat' (first | (with_reducible exact Below.refl _ _) | (with_reducible assumption) | (with_reducible refine Below.alloc ?_ ?_ _) | (with_reducible refine bel_drewN ?_ _) | (with_reducible refine Below.drew ?_) | (with_reducible refine Below.setCell ?_ ?_ _) | (with_reducible refine bel_call ‹_› ?_ ?_) | go_size))) hgr3 (by go_size) (fun k hk => by have := (HOWN.out w (Below.refl _ _)).lt k hk; omega)
       clear hown3 hgr3 hlies hb3))
   all_goals
    go_wp2_with fail
    go_meet
    exact ⟨gg, cap', HS3.out, HB3.out.setCell (p := ⟨b, 2, none⟩) hBb _⟩
  case rest =>
    clear q0 q1 q2 q3 q4 f0 f1 f2 f3 f4 HH hBs hlt
    obtain ⟨gg, cap', hS, hB⟩ := hcut
    obtain ⟨q0, q1, q2, q3, q4⟩ := hS.cells
    obtain ⟨f0, f1, f2, f3, f4⟩ := hS.fz
    have HS := Lib.hid ((hS.set1 ⟨#[]⟩ [] rfl (Nat.zero_le _)).set0 0 0 rfl)
    have HB : Hid (Below B w ((wc.setCell ⟨b, 1, none⟩ (.string ⟨#[]⟩)).setCell ⟨b, 0, none⟩ (.int .i64 0))) := (hB.setCell (p := ⟨b, 1, none⟩) hBb _).setCell (p := ⟨b, 0, none⟩) hBb _
    clear hS hB
    go_upto_region 3 with fail
    clear q0 q1 q2 q3 q4 f0 f1 f2 f3 f4
    generalize (wc.setCell ⟨b, 1, none⟩ (.string ⟨#[]⟩)).setCell ⟨b, 0, none⟩ (.int .i64 0) = w1 at HS HB ⊢
    cases row
    · go_wp2_with fail
      go_end0
      exact ⟨rfl, ⟨Br, _, Rv, Ls, HS.out.mono (by omega)⟩, HB.out⟩
    · obtain ⟨q0, q1, q2, q3, q4⟩ := HS.out.cells
      obtain ⟨f0, f1, f2, f3, f4⟩ := HS.out.fz
      have hlt := HS.out.lt
      have hBs := HS.out.hBr
      have own := fun (W : World) (hW : Below w1.heap.size w1 W) => row_below HS.out.rrow hW
      have HOWN := Lib.hid own
      have hzw := HB.out.size
      clear own
      go_wp2_with fail
      go_region_law (first
       | (refine step_append_lies _ (by rfl) _ _ _ (by rfl) B 22 i1 (.slice none 0 0) 1 24 Tryd.underlying24 gi gz0 gz1 gz2 rfl (by decide) _ Ls.length (Ls.flatMap rwE) (by rfl) (HOWN.out _ (by (repeat' (first | (with_reducible exact Below.refl _ _) | (with_reducible assumption) | (with_reducible refine Below.alloc ?_ ?_ _) | (with_reducible refine bel_drewN ?_ _) | (with_reducible refine Below.drew ?_) | (with_reducible refine Below.setCell ?_ ?_ _) | (with_reducible refine bel_call ‹_› ?_ ?_) | go_size)))) _ 1 1 (rwE ⟨some ⟨gg, 0, none⟩, x.row.length + 1, cap', x.row ++ [x.cell]⟩) (by rfl) (by rfl) (new1 _ _ _) ?_ (by decide) ?_ ?_ ?_ _ (by rfl) ?_
          · exact rwE_one _
          · unfold maxLen; omega
          · omega
          · go_size
          intro g2 cap2 w3 hown3 hgr3 hlies hlt3
          have hb3 := HS.out.blkRows (W := (w1.alloc (.cells #[.slice (some ⟨gg, 0, none⟩) (x.row.length + 1) cap'] 22)).drew) (by (repeat' (first | (with_reducible exact Below.refl _ _) | (with_reducible assumption) | (with_reducible refine Below.alloc ?_ ?_ _) | (with_reducible refine bel_drewN ?_ _) | (with_reducible refine Below.drew ?_) | (with_reducible refine Below.setCell ?_ ?_ _) | (with_reducible refine bel_call ‹_› ?_ ?_) | go_size))) hgr3
          have c33 : w3.cell? ⟨b, 3, none⟩ = some Rv := by rw [cell_of_block hb3]; rfl
          have c32 : w3.cell? ⟨b, 2, none⟩ = some (.slice (some ⟨gg, 0, none⟩) (x.row.length + 1) cap') := by rw [cell_of_block hb3]; rfl
          have f33 := unfrozen_of_block hb3 3
          have f32 := unfrozen_of_block hb3 2
          have HS3 := Lib.hid (HS.out.close (W := (w1.alloc (.cells #[.slice (some ⟨gg, 0, none⟩) (x.row.length + 1) cap'] 22)).drew) (by (repeat' (first | (with_reducible exact Below.refl _ _) | (with_reducible assumption) | (with_reducible refine Below.alloc ?_ ?_ _) | (with_reducible refine bel_drewN ?_ _) | (with_reducible refine Below.drew ?_) | (with_reducible refine Below.setCell ?_ ?_ _) | (with_reducible refine bel_call ‹_› ?_ ?_) | go_size))) hgr3 hown3)
          have HB3 : Hid (Below B w1 w3) := Below.grown (B := B) (w := (w1.alloc (.cells #[.slice (some ⟨gg, 0, none⟩) (x.row.length + 1) cap'] 22)).drew) (by (repeat' (first | (with_reducible exact Below.refl _ _) | (with_reducible assumption) | (with_reducible refine Below.alloc ?_ ?_ _) | (with_reducible refine bel_drewN ?_ _) | (with_reducible refine Below.drew ?_) | (with_reducible refine Below.setCell ?_ ?_ _) | (with_reducible refine bel_call ‹_› ?_ ?_) | go_size))) hgr3 (by go_size) (fun k hk => by have := (HOWN.out w1 (Below.refl _ _)).lt k hk; omega)
          clear hown3 hgr3 hlies hb3))
      all_goals
        go_wp2_with fail
        go_end0
        exact ⟨rfl, ⟨_, _, _, _, HS3.out⟩, ((HB.out.trans HB3.out).setCell (p := ⟨b, 3, none⟩) hBb _).setCell (p := ⟨b, 2, none⟩) hBb _⟩
end Go.Proofs.YthgeajmggbakbaaDoor
