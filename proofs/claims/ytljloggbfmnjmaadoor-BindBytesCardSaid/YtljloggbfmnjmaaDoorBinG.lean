/- Bind: a cell told back: Back, Text at one; the law's example. -/
import Derived.Test.YtljloggbfmnjmaaDoorBinF
set_option linter.unusedSimpArgs false
set_option linter.unusedVariables false
namespace Go.Proofs.YtljloggbfmnjmaaDoor
open Go.RowKit Go.Joins

set_option maxRecDepth 100000 in
set_option maxHeartbeats 2000000 in
theorem back1_any (rows cols : List Idp) (x y : Idp) (p : Option Addr) (n cap : Nat) (p2 : Option Addr) (n2 cap2 : Nat) (b3 b4 : Nat) (tI : TypeId) (w : World) (hrd : RdG idE 2 w p n rows) (hn : n ≤ 1000000) (hrd2 : RdG idE 2 w p2 n2 cols) (hn2 : n2 ≤ 1000000)
    (h3 : BlkC w b3 #[axV p n cap] tI) (h4 : BlkC w b4 #[axV p2 n2 cap2] tI) :
    Calls Tryd.prog 40 #[.agg #[.int .u64 x.1, .int .i64 x.2, .int .u64 y.1, .int .i64 y.2], .pointer (some ⟨b3, 0, none⟩), .pointer (some ⟨b4, 0, none⟩)] w fun e w' => e = .returned (.tuple #[.agg #[.int .i64 (plcS rows cols x y).1.1, .int .i64 (plcS rows cols x y).1.2], .bool (plcS rows cols x y).2]) ∧ Below w.heap.size w w' := by
  have HPL := Lib.hid (fun W (hW : Below w.heap.size w W) => place_any rows cols x y p n cap p2 n2 cap2 W (hrd.below hW) hn (hrd2.below hW) hn2)
  have hh := Lib.hid (two_heap w (.cells #[.int .u64 x.1, .int .i64 x.2, .int .u64 y.1, .int .i64 y.2] tRf) (.cells #[.int .i64 0, .int .i64 0] tCl))
  have hAB : Hid (Below w.heap.size w ((w.alloc (.cells #[.int .u64 x.1, .int .i64 x.2, .int .u64 y.1, .int .i64 y.2] tRf)).alloc (.cells #[.int .i64 0, .int .i64 0] tCl))) := by unfold Hid; (repeat' (first | (with_reducible exact Below.refl _ _) | (with_reducible assumption) | (with_reducible refine Below.alloc ?_ ?_ _) | (with_reducible refine bel_drewN ?_ _) | (with_reducible refine Below.drew ?_) | (with_reducible refine Below.setCell ?_ ?_ _) | (with_reducible refine bel_call ‹_› ?_ ?_) | go_size))
  have H3 := Lib.hid (h3.below hAB.out)
  have H4 := Lib.hid (h4.below hAB.out)
  generalize plcS rows cols x y = S at HPL ⊢
  obtain ⟨⟨s1, s2⟩, s3⟩ := S
  clear hrd hrd2 h3 h4
  go_enter Tryd.func40, Tryd.ntmps40
  go_upto_region 1 with fail
  generalize (w.alloc (.cells #[.int .u64 x.1, .int .i64 x.2, .int .u64 y.1, .int .i64 y.2] tRf)).alloc (.cells #[.int .i64 0, .int .i64 0] tCl) = w0 at hh hAB H3 H4 ⊢
  have hA0 : Hid (BlkC w0 w.heap.size #[.int .u64 x.1, .int .i64 x.2, .int .u64 y.1, .int .i64 y.2] tRf) := hh.out.1
  have hA1 : Hid (BlkC w0 (w.heap.size + 1) #[.int .i64 0, .int .i64 0] tCl) := hh.out.2
  have c0 := hA0.out.cell 0 _ rfl
  have c1 := hA0.out.cell 1 _ rfl
  have c2 := hA0.out.cell 2 _ rfl
  have c3 := hA0.out.cell 3 _ rfl
  have g3 := H3.out.cell 0 _ rfl
  have g4 := H4.out.cell 0 _ rfl
  go_wp2_with fail
  refine (HPL.out _ hAB.out).mono ?_
  rintro e w1 ⟨rfl, hb⟩
  have hB1 : Below w.heap.size w w1 := bel_call hb hAB.out hAB.out.size
  have hA2 := hA1.out.below hb
  have z0 := hA2.cell 0 _ rfl
  have z1 := hA2.cell 1 _ rfl
  have f0 := hA2.fz 0
  have f1 := hA2.fz 1
  have hsz : w.heap.size ≤ w.heap.size + 1 := by omega
  clear hb hAB hA0 hA1 c0 c1 c2 c3 g3 g4 H3 H4 hh HPL
  go_wp2_with fail
  refine bodyPost_ret (v := .tuple #[.agg #[.int .i64 s1, .int .i64 s2], .bool s3]) (by simp only [results, Tryd.results40]; go_simp) rfl ⟨rfl, by (repeat' (first | (with_reducible exact Below.refl _ _) | (with_reducible assumption) | (with_reducible refine Below.alloc ?_ ?_ _) | (with_reducible refine bel_drewN ?_ _) | (with_reducible refine Below.drew ?_) | (with_reducible refine Below.setCell ?_ ?_ _) | (with_reducible refine bel_call ‹_› ?_ ?_) | go_size))⟩

theorem three_blk (w : World) (a b c : Obj) : (((w.alloc a).alloc b).alloc c).heap[w.heap.size]? = some a ∧ (((w.alloc a).alloc b).alloc c).heap[w.heap.size + 1]? = some b ∧ (((w.alloc a).alloc b).alloc c).heap[w.heap.size + 2]? = some c := by
  refine ⟨?_, ?_, ?_⟩ <;> simp only [World.alloc, Array.getElem?_push, Array.size_push] <;> (repeat (first | rfl | (rw [if_neg (by omega)]) | (rw [if_pos (by omega)])))
theorem set_same {w : World} {g : Nat} {cs : Array Value} {t : TypeId} (j : Nat) (v : Value) (h : BlkC w g cs t) : BlkC (w.setCell ⟨g, j, none⟩ v) g (cs.setIfInBounds j v) t := heap_setCell_same w g j cs t v h
/-- Eight stores into a block of eight cells. -/
theorem eight_heap {w : World} {g : Nat} {t : TypeId} {c0 c1 c2 c3 c4 c5 c6 c7 : Value} (v0 v1 v2 v3 v4 v5 v6 v7 : Value) (h : BlkC w g #[c0, c1, c2, c3, c4, c5, c6, c7] t) : BlkC ((((((((w.setCell ⟨g, 0, none⟩ v0).setCell ⟨g, 1, none⟩ v1).setCell ⟨g, 2, none⟩ v2).setCell ⟨g, 3, none⟩ v3).setCell ⟨g, 4, none⟩ v4).setCell ⟨g, 5, none⟩ v5).setCell ⟨g, 6, none⟩ v6).setCell ⟨g, 7, none⟩ v7) g #[v0, v1, v2, v3, v4, v5, v6, v7] t ∧ (∀ N, N ≤ g → Below N w ((((((((w.setCell ⟨g, 0, none⟩ v0).setCell ⟨g, 1, none⟩ v1).setCell ⟨g, 2, none⟩ v2).setCell ⟨g, 3, none⟩ v3).setCell ⟨g, 4, none⟩ v4).setCell ⟨g, 5, none⟩ v5).setCell ⟨g, 6, none⟩ v6).setCell ⟨g, 7, none⟩ v7)) := by
  refine ⟨?_, fun N hN => ?_⟩
  · have := set_same 7 v7 (set_same 6 v6 (set_same 5 v5 (set_same 4 v4 (set_same 3 v3 (set_same 2 v2 (set_same 1 v1 (set_same 0 v0 h)))))))
    simpa using this
  · exact Below.setCell (Below.setCell (Below.setCell (Below.setCell (Below.setCell (Below.setCell (Below.setCell (Below.setCell (Below.refl _ _) hN _) hN _) hN _) hN _) hN _) hN _) hN _) hN _

/-- A node that is one cell. -/
abbrev refV (x y : Idp) : Value := .agg #[.int .i64 3, .int .i64 0, .string ⟨#[]⟩, .int .u64 x.1, .int .i64 x.2, .int .u64 y.1, .int .i64 y.2, .int .u64 0, .int .i64 0, .int .u64 0, .int .i64 0, .slice none 0 0]
set_option maxRecDepth 100000 in
set_option maxHeartbeats 4000000 in
theorem map_ref (x y : Idp) (b3 b4 : Nat) (w : World)
    (HG : ∀ W, Below w.heap.size w W → Calls Tryd.prog 40 #[.agg #[.int .u64 x.1, .int .i64 x.2, .int .u64 y.1, .int .i64 y.2], .pointer (some ⟨b3, 0, none⟩), .pointer (some ⟨b4, 0, none⟩)] W fun e w' => e = .returned (.tuple #[.agg #[.int .i64 0, .int .i64 0], .bool false]) ∧ Below W.heap.size W w') :
    Calls Tryd.prog 39 #[refV x y, .func (.func 40) #[] #[.pointer (some ⟨b3, 0, none⟩), .pointer (some ⟨b4, 0, none⟩)]] w fun e w' => e = .returned fltV ∧ Below w.heap.size w w' := by
  have HGG := Lib.hid HG
  clear HG
  go_enter Tryd.func39, Tryd.ntmps39
  go_upto_region 2 with fail
  have hh := Lib.hid (three_blk w (.cells #[.int .i64 3, .int .i64 0, .string ⟨#[]⟩, .int .u64 x.1, .int .i64 x.2, .int .u64 y.1, .int .i64 y.2, .int .u64 0, .int .i64 0, .int .u64 0, .int .i64 0, .slice none 0 0] tNr) (.cells #[.int .i64 0, .int .i64 0, .string ⟨#[]⟩, .int .i64 0, .int .i64 0, .int .i64 0, .int .i64 0, .slice none 0 0] tNc) (.cells #[.int .i64 3, .int .i64 0, .string ⟨#[]⟩, .int .i64 0, .int .i64 0, .int .i64 0, .int .i64 0, .slice none 0 0] tNc))
  have hAB : Hid (Below w.heap.size w (((w.alloc (.cells #[.int .i64 3, .int .i64 0, .string ⟨#[]⟩, .int .u64 x.1, .int .i64 x.2, .int .u64 y.1, .int .i64 y.2, .int .u64 0, .int .i64 0, .int .u64 0, .int .i64 0, .slice none 0 0] tNr)).alloc (.cells #[.int .i64 0, .int .i64 0, .string ⟨#[]⟩, .int .i64 0, .int .i64 0, .int .i64 0, .int .i64 0, .slice none 0 0] tNc)).alloc (.cells #[.int .i64 3, .int .i64 0, .string ⟨#[]⟩, .int .i64 0, .int .i64 0, .int .i64 0, .int .i64 0, .slice none 0 0] tNc))) := by unfold Hid; (repeat' (first | (with_reducible exact Below.refl _ _) | (with_reducible assumption) | (with_reducible refine Below.alloc ?_ ?_ _) | (with_reducible refine bel_drewN ?_ _) | (with_reducible refine Below.drew ?_) | (with_reducible refine Below.setCell ?_ ?_ _) | (with_reducible refine bel_call ‹_› ?_ ?_) | go_size))
  generalize ((w.alloc (.cells #[.int .i64 3, .int .i64 0, .string ⟨#[]⟩, .int .u64 x.1, .int .i64 x.2, .int .u64 y.1, .int .i64 y.2, .int .u64 0, .int .i64 0, .int .u64 0, .int .i64 0, .slice none 0 0] tNr)).alloc (.cells #[.int .i64 0, .int .i64 0, .string ⟨#[]⟩, .int .i64 0, .int .i64 0, .int .i64 0, .int .i64 0, .slice none 0 0] tNc)).alloc (.cells #[.int .i64 3, .int .i64 0, .string ⟨#[]⟩, .int .i64 0, .int .i64 0, .int .i64 0, .int .i64 0, .slice none 0 0] tNc) = w0 at hh hAB ⊢
  have hA0 : Hid (BlkC w0 w.heap.size #[.int .i64 3, .int .i64 0, .string ⟨#[]⟩, .int .u64 x.1, .int .i64 x.2, .int .u64 y.1, .int .i64 y.2, .int .u64 0, .int .i64 0, .int .u64 0, .int .i64 0, .slice none 0 0] tNr) := hh.out.1
  have hA1 : Hid (BlkC w0 (w.heap.size + 1) #[.int .i64 0, .int .i64 0, .string ⟨#[]⟩, .int .i64 0, .int .i64 0, .int .i64 0, .int .i64 0, .slice none 0 0] tNc) := hh.out.2.1
  have hA2 : Hid (BlkC w0 (w.heap.size + 2) #[.int .i64 3, .int .i64 0, .string ⟨#[]⟩, .int .i64 0, .int .i64 0, .int .i64 0, .int .i64 0, .slice none 0 0] tNc) := hh.out.2.2
  clear hh
  have c0 := hA0.out.cell 0 _ rfl
  have c3 := hA0.out.cell 3 _ rfl
  have c4 := hA0.out.cell 4 _ rfl
  have c5 := hA0.out.cell 5 _ rfl
  have c6 := hA0.out.cell 6 _ rfl
  go_wp2_with fail
  go_at_call 40
  refine (HGG.out w0 hAB.out).mono ?_
  rintro e w1 ⟨rfl, hb⟩
  have hB1 : Hid (Below w.heap.size w w1) := bel_call hb hAB.out hAB.out.size
  have hM0 := Lib.hid (hA0.out.below hb)
  have hM1 := Lib.hid (hA1.out.below hb)
  have hM2 := Lib.hid (hA2.out.below hb)
  clear hb hAB hA0 hA1 hA2 c0 c3 c4 c5 c6
  go_upto_region 4 with fail
  have hN6 := Lib.hid (blk_new w1 #[.int .i64 0, .int .i64 0] tCl)
  have hP0 := Lib.hid (hM0.out.alloc (.cells #[.int .i64 0, .int .i64 0] tCl))
  have hP1 := Lib.hid (hM1.out.alloc (.cells #[.int .i64 0, .int .i64 0] tCl))
  have hP2 := Lib.hid (hM2.out.alloc (.cells #[.int .i64 0, .int .i64 0] tCl))
  have hB2 : Hid (Below w.heap.size w (w1.alloc (.cells #[.int .i64 0, .int .i64 0] tCl))) := hB1.out.alloc hB1.out.size _
  generalize w1.alloc (.cells #[.int .i64 0, .int .i64 0] tCl) = w2 at hN6 hP0 hP1 hP2 hB2 ⊢
  generalize w1.heap.size = g6 at hN6 ⊢
  have n0 := hN6.out.cell 0 _ rfl
  have n1 := hN6.out.cell 1 _ rfl
  have e3 := hP2.out.cell 3 _ rfl
  have e4 := hP2.out.cell 4 _ rfl
  have f3 := hP2.out.fz 3
  have f4 := hP2.out.fz 4
  clear hM0 hM1 hM2 hB1
  go_upto_region 5 with fail
  have hQ1 : Hid (BlkC ((w2.setCell ⟨w.heap.size + 1 + 1, 3, none⟩ (.int .i64 0)).setCell ⟨w.heap.size + 1 + 1, 4, none⟩ (.int .i64 0)) (w.heap.size + 1) #[.int .i64 0, .int .i64 0, .string ⟨#[]⟩, .int .i64 0, .int .i64 0, .int .i64 0, .int .i64 0, .slice none 0 0] tNc) := by
    unfold Hid BlkC
    rw [heap_setCell_other _ _ _ _ (by show w.heap.size + 1 ≠ w.heap.size + 1 + 1; omega), heap_setCell_other _ _ _ _ (by show w.heap.size + 1 ≠ w.heap.size + 1 + 1; omega)]
    exact hP1.out
  have hQ0 : Hid (BlkC ((w2.setCell ⟨w.heap.size + 1 + 1, 3, none⟩ (.int .i64 0)).setCell ⟨w.heap.size + 1 + 1, 4, none⟩ (.int .i64 0)) w.heap.size #[.int .i64 3, .int .i64 0, .string ⟨#[]⟩, .int .u64 x.1, .int .i64 x.2, .int .u64 y.1, .int .i64 y.2, .int .u64 0, .int .i64 0, .int .u64 0, .int .i64 0, .slice none 0 0] tNr) := by
    unfold Hid BlkC
    rw [heap_setCell_other _ _ _ _ (by show w.heap.size ≠ w.heap.size + 1 + 1; omega), heap_setCell_other _ _ _ _ (by show w.heap.size ≠ w.heap.size + 1 + 1; omega)]
    exact hP0.out
  have hB3 : Hid (Below w.heap.size w ((w2.setCell ⟨w.heap.size + 1 + 1, 3, none⟩ (.int .i64 0)).setCell ⟨w.heap.size + 1 + 1, 4, none⟩ (.int .i64 0))) := (hB2.out.setCell (by show w.heap.size ≤ w.heap.size + 1 + 1; omega) _).setCell (by show w.heap.size ≤ w.heap.size + 1 + 1; omega) _
  generalize (w2.setCell ⟨w.heap.size + 1 + 1, 3, none⟩ (.int .i64 0)).setCell ⟨w.heap.size + 1 + 1, 4, none⟩ (.int .i64 0) = w3 at hQ1 hQ0 hB3 ⊢
  clear n0 n1 e3 e4 f3 f4 hN6 hP0 hP1 hP2 hB2
  have c0 := hQ0.out.cell 0 _ rfl
  have q0 := hQ1.out.cell 0 _ rfl
  have q1 := hQ1.out.cell 1 _ rfl
  have q2 := hQ1.out.cell 2 _ rfl
  have q3 := hQ1.out.cell 3 _ rfl
  have q4 := hQ1.out.cell 4 _ rfl
  have q5 := hQ1.out.cell 5 _ rfl
  have q6 := hQ1.out.cell 6 _ rfl
  have q7 := hQ1.out.cell 7 _ rfl
  have z0 := hQ1.out.fz 0
  have z1 := hQ1.out.fz 1
  have z2 := hQ1.out.fz 2
  have z3 := hQ1.out.fz 3
  have z4 := hQ1.out.fz 4
  have z5 := hQ1.out.fz 5
  have z6 := hQ1.out.fz 6
  have z7 := hQ1.out.fz 7
  go_wp2_with fail
  obtain ⟨h1, h2⟩ := eight_heap (.int .i64 8) (.int .i64 0) (.string ⟨#[]⟩) (.int .i64 0) (.int .i64 0) (.int .i64 0) (.int .i64 0) (.slice none 0 0) hQ1.out
  refine bodyPost_ret (results_cell_row rfl _ _ (w.heap.size + 1) tNc #[.int .i64 8, .int .i64 0, .string ⟨#[]⟩, .int .i64 0, .int .i64 0, .int .i64 0, .int .i64 0, .slice none 0 0] (0, 0) _ rfl h1 Tryd.underlying79 rfl (by kernel_rfl)) rfl ?_
  exact ⟨rfl, hB3.out.trans (h2 _ (by omega))⟩
end Go.Proofs.YtljloggbfmnjmaaDoor
