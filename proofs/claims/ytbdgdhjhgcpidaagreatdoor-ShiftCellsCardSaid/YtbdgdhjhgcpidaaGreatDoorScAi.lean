/- Shift: the law's example. The walk of ShiftCells. Printed by gen_shn.py. -/
import Derived.Test.YtbdgdhjhgcpidaaGreatDoorScAa
import Derived.Test.YtbdgdhjhgcpidaaGreatDoorScY
set_option linter.unusedSimpArgs false
set_option linter.unusedVariables false
namespace Go.Proofs.YtbdgdhjhgcpidaaGreatDoor
open Go.RowKit Go.Joins

theorem srow_new (w : World) (E : List ByteArray) : SRow (w.alloc (.cells (E.map Value.string).toArray 9)) w.heap.size E := fun j s hj => by
  have hb : BlkC (w.alloc (.cells (E.map Value.string).toArray 9)) w.heap.size (E.map Value.string).toArray 9 := heap_alloc_new w _
  rw [cell_of_block hb]
  simp [hj]
set_option maxRecDepth 100000 in
set_option maxHeartbeats 8000000 in
theorem sawake_any (w : World) (hsh : w.ShapedOpen Tryz.prog) : Calls Tryz.prog 6 #[] w fun e w' => e = .returned (.bool true) ∧ Below w.heap.size w w' := by
  have HSH := Lib.hid (fun W (hW : Below w.heap.size w W) => shaped_bl hsh hW)
  have HF1 := Lib.hid (fun g c W (hW : Below w.heap.size w W) h0 h1 => fill_num g c W h0 h1 (HSH.out W hW))
  have HF2 := Lib.hid (fun g c W (hW : Below w.heap.size w W) h0 => fill_txt g c W h0 (HSH.out W hW))
  have HF3 := Lib.hid (fun g c W (hW : Below w.heap.size w W) h0 => fill_for g c W h0 (HSH.out W hW))
  have HSM := Lib.hid (fun x y n c1 c2 E hn hs W hA hB => same34 x y n c1 c2 E hn hs W hA hB)
  clear hsh
  have hR0 := Lib.hid (srow_new w [s1, s3])
  have hB0 : Hid (Below w.heap.size w (w.alloc (.cells ([s1, s3].map Value.string).toArray 9))) := by unfold Hid; (repeat' (first | (with_reducible exact Below.refl _ _) | (with_reducible assumption) | (with_reducible refine Below.alloc ?_ ?_ _) | (with_reducible refine bel_drewN ?_ _) | (with_reducible refine Below.drew ?_) | (with_reducible refine Below.setCell ?_ ?_ _) | (with_reducible refine bel_call ‹_› ?_ ?_) | go_size))
  go_enter Tryz.func6, Tryz.ntmps6
  have HX1 := Lib.hid (HF1.out w.heap.size 2 _ hB0.out (hR0.out 0 s1 rfl) (hR0.out 1 s3 rfl))
  clear HF1
  go_wp2_with fail
  refine HX1.out.mono ?_
  rintro e w1 ⟨⟨x1, k1, rfl, hx1, hr1⟩, hb1⟩
  have HR1 := Lib.hid hr1
  have HB1 : Hid (Below w.heap.size w w1) := bel_call hb1 hB0.out hB0.out.size
  clear hr1 hb1 hB0 hR0 HX1
  have hR0 := Lib.hid (srow_new w1 [q07])
  have hb0 : Below w1.heap.size w1 (w1.alloc (.cells ([q07].map Value.string).toArray 9)) := (Below.refl _ _).alloc (Nat.le_refl _) _
  have hB0 : Hid (Below w.heap.size w (w1.alloc (.cells ([q07].map Value.string).toArray 9))) := bel_call hb0 HB1.out HB1.out.size
  have HX2 := Lib.hid (HF2.out w1.heap.size 1 _ hB0.out (hR0.out 0 q07 rfl))
  clear HF2
  go_wp2_with fail
  refine HX2.out.mono ?_
  rintro e w2 ⟨⟨x2, k2, rfl, hx2, hr2⟩, hb2⟩
  have HR2 := Lib.hid hr2
  have HB2 : Hid (Below w.heap.size w w2) := bel_call hb2 hB0.out hB0.out.size
  have hb12 : Below w1.heap.size w1 w2 := bel_call hb2 hb0 hb0.size
  have HR12 := Lib.hid (HR1.out.below hx1 hb12)
  have hx12 : x1 < w2.heap.size := Nat.lt_of_lt_of_le hx1 hb12.size
  clear hr2 hb2 hb0 hb12 hB0 hR0 HX2 HR1 HB1
  have hR0 := Lib.hid (srow_new w2 [eA1])
  have hb0 : Below w2.heap.size w2 (w2.alloc (.cells ([eA1].map Value.string).toArray 9)) := (Below.refl _ _).alloc (Nat.le_refl _) _
  have hB0 : Hid (Below w.heap.size w (w2.alloc (.cells ([eA1].map Value.string).toArray 9))) := bel_call hb0 HB2.out HB2.out.size
  have HX3 := Lib.hid (HF3.out w2.heap.size 1 _ hB0.out (hR0.out 0 eA1 rfl))
  clear HF3
  go_wp2_with fail
  refine HX3.out.mono ?_
  rintro e w3 ⟨⟨x3, k3, rfl, hx3, hr3⟩, hb3⟩
  have HR3 := Lib.hid hr3
  have HB3 : Hid (Below w.heap.size w w3) := bel_call hb3 hB0.out hB0.out.size
  have hb23 : Below w2.heap.size w2 w3 := bel_call hb3 hb0 hb0.size
  have HR13 := Lib.hid (HR12.out.below hx12 hb23)
  have HR23 := Lib.hid (HR2.out.below hx2 hb23)
  have hx13 : x1 < w3.heap.size := Nat.lt_of_lt_of_le hx12 hb23.size
  have hx23 : x2 < w3.heap.size := Nat.lt_of_lt_of_le hx2 hb23.size
  clear hr3 hb3 hb0 hb23 hB0 hR0 HX3 HR12 HR2 HB2
  have ha : Below w3.heap.size w3 (w3.alloc (.cells ([⟨#[53]⟩, ⟨#[55]⟩, ⟨#[57]⟩].map Value.string).toArray 9)) := (Below.refl _ _).alloc (Nat.le_refl _) _
  have HY1 := Lib.hid (HSM.out x1 w3.heap.size 3 k1 3 [⟨#[53]⟩, ⟨#[55]⟩, ⟨#[57]⟩] rfl (by omega) _ (HR13.out.below hx13 ha) (srow_new w3 [⟨#[53]⟩, ⟨#[55]⟩, ⟨#[57]⟩]))
  go_wp2_with fail
  refine HY1.out.mono ?_
  rintro e w4 ⟨rfl, hb4⟩
  have hb34 : Below w3.heap.size w3 w4 := bel_call hb4 ha ha.size
  have HB4 : Hid (Below w.heap.size w w4) := bel_call hb34 HB3.out HB3.out.size
  have HR24 := Lib.hid (HR23.out.below hx23 hb34)
  have HR34 := Lib.hid (HR3.out.below hx3 hb34)
  have hx24 : x2 < w4.heap.size := Nat.lt_of_lt_of_le hx23 hb34.size
  have hx34 : x3 < w4.heap.size := Nat.lt_of_lt_of_le hx3 hb34.size
  clear hb4 hb34 ha HY1 HR13 HR23 HR3 HB3
  have ha : Below w4.heap.size w4 (w4.alloc (.cells ([eQ8, eQ9].map Value.string).toArray 9)) := (Below.refl _ _).alloc (Nat.le_refl _) _
  have HY2 := Lib.hid (HSM.out x2 w4.heap.size 2 k2 2 [eQ8, eQ9] rfl (by omega) _ (HR24.out.below hx24 ha) (srow_new w4 [eQ8, eQ9]))
  go_wp2_with fail
  refine HY2.out.mono ?_
  rintro e w5 ⟨rfl, hb5⟩
  have hb45 : Below w4.heap.size w4 w5 := bel_call hb5 ha ha.size
  have HB5 : Hid (Below w.heap.size w w5) := bel_call hb45 HB4.out HB4.out.size
  have HR35 := Lib.hid (HR34.out.below hx34 hb45)
  have hx35 : x3 < w5.heap.size := Nat.lt_of_lt_of_le hx34 hb45.size
  clear hb5 hb45 ha HY2 HR24 HR34 HB4
  have ha : Below w5.heap.size w5 (w5.alloc (.cells ([eA2].map Value.string).toArray 9)) := (Below.refl _ _).alloc (Nat.le_refl _) _
  have HY3 := Lib.hid (HSM.out x3 w5.heap.size 1 k3 1 [eA2] rfl (by omega) _ (HR35.out.below hx35 ha) (srow_new w5 [eA2]))
  go_wp2_with fail
  refine HY3.out.mono ?_
  rintro e w6 ⟨rfl, hb6⟩
  have hb56 : Below w5.heap.size w5 w6 := bel_call hb6 ha ha.size
  have HB6 : Hid (Below w.heap.size w w6) := bel_call hb56 HB5.out HB5.out.size
  clear hb6 hb56 ha
  go_wp2_with fail
  go_ret
  exact ⟨rfl, HB6.out⟩
end Go.Proofs.YtbdgdhjhgcpidaaGreatDoor
namespace Go.Proofs.YtbdgdhjhgcpidaaGreatDoor
open Go.RowKit Go.Joins

theorem two_hp (w : World) (a b : Obj) : ((w.alloc a).alloc b).heap[w.heap.size]? = some a ∧ ((w.alloc a).alloc b).heap[w.heap.size + 1]? = some b := by
  refine ⟨?_, ?_⟩ <;> simp only [World.alloc, Array.getElem?_push, Array.size_push] <;> (repeat (first | rfl | (rw [if_neg (by omega)]) | (rw [if_pos (by omega)])))
set_option maxRecDepth 100000 in
set_option maxHeartbeats 8000000 in
theorem back_any (a b : Int) (ha1 : -9223372036854775807 ≤ a) (ha2 : a ≤ 9223372036854775807) (hb1 : -9223372036854775807 ≤ b) (hb2 : b ≤ 9223372036854775807) (w : World) : Calls Tryz.prog 11 #[.agg #[.int .i64 a, .int .i64 b]] w fun e w' => e = .returned (.agg #[.int .i64 (-a), .int .i64 (-b)]) ∧ Below w.heap.size w w' := by
  have hh := Lib.hid (two_hp w (.cells #[.int .i64 a, .int .i64 b] 25) (.cells #[.int .i64 0, .int .i64 0] 25))
  have hAB : Hid (Below w.heap.size w ((w.alloc (.cells #[.int .i64 a, .int .i64 b] 25)).alloc (.cells #[.int .i64 0, .int .i64 0] 25))) := by unfold Hid; (repeat' (first | (with_reducible exact Below.refl _ _) | (with_reducible assumption) | (with_reducible refine Below.alloc ?_ ?_ _) | (with_reducible refine bel_drewN ?_ _) | (with_reducible refine Below.drew ?_) | (with_reducible refine Below.setCell ?_ ?_ _) | (with_reducible refine bel_call ‹_› ?_ ?_) | go_size))
  have f1 : IntKind.i64.wrap (-a) = -a := IntWalk.i64_in _ (by omega)
  have f2 : IntKind.i64.wrap (-b) = -b := IntWalk.i64_in _ (by omega)
  go_enter Tryz.func11, Tryz.ntmps11
  go_upto_region 1 with fail
  generalize (w.alloc (.cells #[.int .i64 a, .int .i64 b] 25)).alloc (.cells #[.int .i64 0, .int .i64 0] 25) = w0 at hh hAB ⊢
  have hA0 : Hid (BlkC w0 w.heap.size #[.int .i64 a, .int .i64 b] 25) := hh.out.1
  have hA1 : Hid (BlkC w0 (w.heap.size + 1) #[.int .i64 0, .int .i64 0] 25) := hh.out.2
  have m0 := hA0.out.cell 0 _ rfl
  have m1 := hA0.out.cell 1 _ rfl
  have z0 := hA1.out.cell 0 _ rfl
  have z1 := hA1.out.cell 1 _ rfl
  have y0 := hA1.out.fz 0
  have y1 := hA1.out.fz 1
  have hB := hAB.out
  have hsz : w.heap.size ≤ w.heap.size + 1 := by omega
  clear hh hA0 hA1 hAB
  go_wp2_with fail
  refine bodyPost_ret (v := .agg #[.int .i64 (-a), .int .i64 (-b)]) (by simp only [results, Tryz.results11]; go_simp) rfl ⟨rfl, by (repeat' (first | (with_reducible exact Below.refl _ _) | (with_reducible assumption) | (with_reducible refine Below.alloc ?_ ?_ _) | (with_reducible refine bel_drewN ?_ _) | (with_reducible refine Below.drew ?_) | (with_reducible refine Below.setCell ?_ ?_ _) | (with_reducible refine bel_call ‹_› ?_ ?_) | go_size))⟩
set_option maxRecDepth 100000 in
set_option maxHeartbeats 8000000 in
theorem between_any (c1 r1 c2 r2 : Int) (h1 : -1000000 ≤ c1) (h2 : c1 ≤ 1000000) (h3 : -1000000 ≤ r1) (h4 : r1 ≤ 1000000) (h5 : -1000000 ≤ c2) (h6 : c2 ≤ 1000000) (h7 : -1000000 ≤ r2) (h8 : r2 ≤ 1000000) (w : World) : Calls Tryz.prog 10 #[.agg #[.int .i64 c1, .int .i64 r1], .agg #[.int .i64 c2, .int .i64 r2]] w fun e w' => e = .returned (.agg #[.int .i64 (c2 - c1), .int .i64 (r2 - r1)]) ∧ Below w.heap.size w w' := by
  have hh := Lib.hid (three_hp w (.cells #[.int .i64 c1, .int .i64 r1] 23) (.cells #[.int .i64 c2, .int .i64 r2] 23) (.cells #[.int .i64 0, .int .i64 0] 25))
  have hAB : Hid (Below w.heap.size w (((w.alloc (.cells #[.int .i64 c1, .int .i64 r1] 23)).alloc (.cells #[.int .i64 c2, .int .i64 r2] 23)).alloc (.cells #[.int .i64 0, .int .i64 0] 25))) := three_bl _ _ _
  have f1 : IntKind.i64.wrap (c2 - c1) = c2 - c1 := IntWalk.i64_in _ (by omega)
  have f2 : IntKind.i64.wrap (r2 - r1) = r2 - r1 := IntWalk.i64_in _ (by omega)
  clear h1 h2 h3 h4 h5 h6 h7 h8
  go_enter Tryz.func10, Tryz.ntmps10
  go_upto_region 1 with fail
  generalize ((w.alloc (.cells #[.int .i64 c1, .int .i64 r1] 23)).alloc (.cells #[.int .i64 c2, .int .i64 r2] 23)).alloc (.cells #[.int .i64 0, .int .i64 0] 25) = w0 at hh hAB ⊢
  have hA0 : Hid (BlkC w0 w.heap.size #[.int .i64 c1, .int .i64 r1] 23) := hh.out.1
  have hA1 : Hid (BlkC w0 (w.heap.size + 1) #[.int .i64 c2, .int .i64 r2] 23) := hh.out.2.1
  have hA2 : Hid (BlkC w0 (w.heap.size + 2) #[.int .i64 0, .int .i64 0] 25) := hh.out.2.2
  have m0 := hA0.out.cell 0 _ rfl
  have m1 := hA0.out.cell 1 _ rfl
  have k0 := hA1.out.cell 0 _ rfl
  have k1 := hA1.out.cell 1 _ rfl
  have z0 := hA2.out.cell 0 _ rfl
  have z1 := hA2.out.cell 1 _ rfl
  have y0 := hA2.out.fz 0
  have y1 := hA2.out.fz 1
  have hB := hAB.out
  have hsz : w.heap.size ≤ w.heap.size + 2 := by omega
  clear hh hA0 hA1 hA2 hAB
  go_wp2_with fail
  refine bodyPost_ret (v := .agg #[.int .i64 (c2 - c1), .int .i64 (r2 - r1)]) (by simp only [results, Tryz.results10]; go_simp) rfl ⟨rfl, by (repeat' (first | (with_reducible exact Below.refl _ _) | (with_reducible assumption) | (with_reducible refine Below.alloc ?_ ?_ _) | (with_reducible refine bel_drewN ?_ _) | (with_reducible refine Below.drew ?_) | (with_reducible refine Below.setCell ?_ ?_ _) | (with_reducible refine bel_call ‹_› ?_ ?_) | go_size))⟩
theorem oo1 {w1 wz wy : World} (hbz : Below w1.drew.heap.size w1.drew wz) (hby : Below wz.heap.size wz wy) : Below w1.heap.size w1 wy := by
  have hz : Below w1.heap.size w1 wz := bel_call hbz (Below.drew (Below.refl _ _)) (Nat.le_refl _)
  exact bel_call hby hz hz.size
theorem oo2 {w1 wz wy : World} {o : Obj} (hbz : Below w1.drew.heap.size w1.drew wz) (hby : Below (wz.alloc o).heap.size (wz.alloc o) wy) : Below w1.heap.size w1 wy ∧ w1.heap.size ≤ wz.heap.size ∧ wy.heap[wz.heap.size]? = some o := by
  have hz : Below w1.heap.size w1 wz := bel_call hbz (Below.drew (Below.refl _ _)) (Nat.le_refl _)
  have ha := hz.alloc hz.size o
  exact ⟨bel_call hby ha ha.size, hz.size, (hby.block _ (lt_some (heap_alloc_new wz o))).trans (heap_alloc_new wz o)⟩
theorem oo3 {w1 wz wy : World} {o : Obj} (hbz : Below (w1.alloc o).drew.heap.size (w1.alloc o).drew wz) (hby : Below wz.heap.size wz wy) : Below w1.heap.size w1 wy ∧ wy.heap[w1.heap.size]? = some o := by
  have ha : Below w1.heap.size w1 (w1.alloc o).drew := Below.drew ((Below.refl _ _).alloc (Nat.le_refl _) o)
  have hz := bel_call hbz ha ha.size
  have hk : wz.heap[w1.heap.size]? = some o := (hbz.block _ (lt_some (heap_alloc_new w1 o))).trans (heap_alloc_new w1 o)
  exact ⟨bel_call hby hz hz.size, (hby.block _ (lt_some hk)).trans hk⟩
theorem set2 {a W : World} {N L : Nat} {u0 u1 v0 v1 : Value} {T : TypeId} (h : W.heap[L]? = some (.cells #[u0, u1] T)) (hb : Below N a W) (hN : N ≤ L) :
    BlkC ((W.setCell ⟨L, 0, none⟩ v0).setCell ⟨L, 1, none⟩ v1) L #[v0, v1] T ∧ Below N a ((W.setCell ⟨L, 0, none⟩ v0).setCell ⟨L, 1, none⟩ v1) :=
  ⟨block_setCell (block_setCell h _) _, (hb.setCell (p := ⟨L, 0, none⟩) hN v0).setCell (p := ⟨L, 1, none⟩) hN v1⟩
/-- What Move.Cell answers at a cell by column and row. -/
theorem mcell_at (cols rows c r : Int) (h : rtC c r = true) (w : World) : Calls Tryz.prog 7 #[.agg #[.int .i64 cols, .int .i64 rows], .agg #[.int .i64 c, .int .i64 r]] w (McP (mvC cols rows (c * 10000 + r)) w) := by
  obtain ⟨e1, e2⟩ := cCR_mk h
  have := mcell_any (c * 10000 + r) cols rows (by unfold OkC; rw [e1, e2]; exact h) w
  rw [e1, e2] at this
  exact this
theorem mv_way {c1 r1 c2 r2 : Int} (h1 : rtC c1 r1 = true) (h2 : rtC c2 r2 = true) : mvC (c2 - c1) (r2 - r1) (c1 * 10000 + r1) = c2 * 10000 + r2 := by
  obtain ⟨e1, e2⟩ := cCR_mk h1
  unfold mvC
  rw [e1, e2, show c1 + (c2 - c1) = c2 from by omega, show r1 + (r2 - r1) = r2 from by omega, if_pos h2]
theorem mv_to {c1 r1 c2 r2 : Int} (h1 : rtC c1 r1 = true) (h2 : rtC c2 r2 = true) : mvC (-(c2 - c1)) (-(r2 - r1)) (c2 * 10000 + r2) = c1 * 10000 + r1 := by
  have h := mv_way h2 h1
  rw [show -(c2 - c1) = c1 - c2 from by omega, show -(r2 - r1) = r1 - r2 from by omega]
  exact h
theorem mvC_pos (cols rows k : Int) : 0 ≤ mvC cols rows k ∧ mvC cols rows k ≤ 10000000 := by
  by_cases h : mvC cols rows k = 0
  · rw [h]; omega
  · exact (mvC_ok h).2.2.2
set_option maxRecDepth 100000 in
set_option maxHeartbeats 8000000 in
theorem cells_walk (c1 r1 a b c2 r2 : Int) (ha1 : -9223372036854775808 ≤ a) (ha2 : a ≤ 9223372036854775807) (hb1 : -9223372036854775808 ≤ b) (hb2 : b ≤ 9223372036854775807) (w : World) (hsh : w.ShapedOpen Tryz.prog) :
    Calls Tryz.prog 3 #[.agg #[.int .i64 c1, .int .i64 r1], .agg #[.int .i64 a, .int .i64 b], .agg #[.int .i64 c2, .int .i64 r2]] w fun e w' => e = .returned (.bool true) ∧ Below w.heap.size w w' := by
  have HSH := Lib.hid (fun W (hW : Below w.heap.size w W) => shaped_bl hsh hW)
  have HAW := Lib.hid (fun W (hW : Below w.heap.size w W) => sawake_any W (HSH.out W hW))
  have hh := Lib.hid (three_hp w (.cells #[.int .i64 c1, .int .i64 r1] 23) (.cells #[.int .i64 a, .int .i64 b] 25) (.cells #[.int .i64 c2, .int .i64 r2] 23))
  have hAB : Hid (Below w.heap.size w (((w.alloc (.cells #[.int .i64 c1, .int .i64 r1] 23)).alloc (.cells #[.int .i64 a, .int .i64 b] 25)).alloc (.cells #[.int .i64 c2, .int .i64 r2] 23))) := three_bl _ _ _
  have HR1 := Lib.hid (fun W => cright_any c1 r1 W)
  have HR2 := Lib.hid (fun W => cright_any c2 r2 W)
  clear hsh
  go_enter Tryz.func3, Tryz.ntmps3
  go_upto_region 1 with fail
  generalize ((w.alloc (.cells #[.int .i64 c1, .int .i64 r1] 23)).alloc (.cells #[.int .i64 a, .int .i64 b] 25)).alloc (.cells #[.int .i64 c2, .int .i64 r2] 23) = w0 at hh hAB ⊢
  have HC0 : Hid (BlkC w0 w.heap.size #[.int .i64 c1, .int .i64 r1] 23) := hh.out.1
  have HM0 : Hid (BlkC w0 (w.heap.size + 1) #[.int .i64 a, .int .i64 b] 25) := hh.out.2.1
  have HD0 : Hid (BlkC w0 (w.heap.size + 2) #[.int .i64 c2, .int .i64 r2] 23) := hh.out.2.2
  have k0 := HC0.out.cell 0 _ rfl
  have k1 := HC0.out.cell 1 _ rfl
  clear hh
  cases h1 : rtC c1 r1 with
  | false =>
    rw [h1] at HR1
    go_wp2_with fail
    refine (HR1.out w0).mono ?_
    rintro e w1 ⟨rfl, hb⟩
    have HB1 : Hid (Below w.heap.size w w1) := bel_call hb hAB.out hAB.out.size
    clear hb k0 k1 HC0 HM0 HD0 hAB HR1 HR2
    go_wp2_with fail
    refine (HAW.out w1 HB1.out).mono ?_
    rintro e w2 ⟨rfl, hb⟩
    have HB2 := bel_call hb HB1.out HB1.out.size
    go_wp2_with fail
    go_ret
    exact ⟨rfl, HB2⟩
  | true =>
    rw [h1] at HR1
    go_wp2_with fail
    refine (HR1.out w0).mono ?_
    rintro e w1 ⟨rfl, hb⟩
    have HC1 := Lib.hid (HC0.out.below hb)
    have HM1 := Lib.hid (HM0.out.below hb)
    have HD1 := Lib.hid (HD0.out.below hb)
    have HB1 : Hid (Below w.heap.size w w1) := bel_call hb hAB.out hAB.out.size
    clear hb k0 k1 HC0 HM0 HD0 hAB HR1
    have k0 := HD1.out.cell 0 _ rfl
    have k1 := HD1.out.cell 1 _ rfl
    cases h2 : rtC c2 r2 with
    | false =>
      rw [h2] at HR2
      go_wp2_with fail
      refine (HR2.out w1).mono ?_
      rintro e w2 ⟨rfl, hb⟩
      have HB2 : Hid (Below w.heap.size w w2) := bel_call hb HB1.out HB1.out.size
      clear hb k0 k1 HC1 HM1 HD1 HB1 HR2
      go_wp2_with fail
      refine (HAW.out w2 HB2.out).mono ?_
      rintro e w3 ⟨rfl, hb⟩
      have HB3 := bel_call hb HB2.out HB2.out.size
      go_wp2_with fail
      go_ret
      exact ⟨rfl, HB3⟩
    | true =>
      rw [h2] at HR2
      have hc1 := h1
      have hc2 := h2
      unfold rtC at hc1 hc2
      simp at hc1 hc2
      obtain ⟨M, hM⟩ : ∃ M, mvC a b (c1 * 10000 + r1) = M := ⟨_, rfl⟩
      have HMC := Lib.hid (fun W => mcell_at a b c1 r1 h1 W)
      have HRN := Lib.hid (fun W => rcell_num c1 r1 (by omega) (by omega) (by omega) (by omega) W)
      have HR34 := Lib.hid (fun W => r34cell_any (c1 * 10000 + r1) a b (by obtain ⟨e1, e2⟩ := cCR_mk h1; unfold OkC; rw [e1, e2]; exact h1) ha1 ha2 hb1 hb2 W)
      have hM0 := mvC_pos a b (c1 * 10000 + r1)
      have HBT := Lib.hid (fun W => between_any c1 r1 c2 r2 (by omega) (by omega) (by omega) (by omega) (by omega) (by omega) (by omega) (by omega) W)
      have HW1 := Lib.hid (fun W => mcell_at (c2 - c1) (r2 - r1) c1 r1 h1 W)
      rw [mv_way h1 h2] at HW1
      have HW2 := Lib.hid (fun W => mcell_at (-(c2 - c1)) (-(r2 - r1)) c2 r2 h2 W)
      rw [mv_to h1 h2] at HW2
      have HBK := Lib.hid (fun W => back_any (c2 - c1) (r2 - r1) (by omega) (by omega) (by omega) (by omega) W)
      unfold McP at HMC HW1 HW2
      rw [(cCR_mk h2).1, (cCR_mk h2).2, decide_eq_true (show c2 * 10000 + r2 ≠ 0 from by omega)] at HW1
      rw [(cCR_mk h1).1, (cCR_mk h1).2, decide_eq_true (show c1 * 10000 + r1 ≠ 0 from by omega)] at HW2
      rw [hM] at HMC HR34 hM0
      obtain ⟨BB, hBB⟩ : ∃ b, decide (M ≠ 0) = b := ⟨_, rfl⟩
      rw [hBB] at HMC
      have HBB := Lib.hid hBB
      clear hBB
      have g1 : Int.tdiv M 10000 = cC M := rfl
      have g2 : Int.tmod M 10000 = cR M := rfl
      have d1 := cC_in (k := M) (by omega) (by omega)
      generalize c1 * 10000 + r1 = kk at HRN HR34
      generalize c2 - c1 = uc at HBT HW1 HW2 HBK
      generalize r2 - r1 = wr_ at HBT HW1 HW2 HBK
      generalize -uc = vc at HW2 HBK
      generalize -wr_ = vr at HW2 HBK
      generalize cC M = mc at HMC g1 d1
      generalize cR M = mr at HMC g2 d1
      have g3 : IntKind.i64.wrap mc = mc := IntWalk.i64_in _ (by omega)
      have g4 : IntKind.i64.wrap mr = mr := IntWalk.i64_in _ (by omega)
      clear h1 h2 hM hc1 hc2 d1 ha1 ha2 hb1 hb2
      go_wp2_with fail
      refine (HR2.out w1).mono ?_
      rintro e w2 ⟨rfl, hb⟩
      have HC2 := Lib.hid (HC1.out.below hb)
      have HM2 := Lib.hid (HM1.out.below hb)
      have HD2 := Lib.hid (HD1.out.below hb)
      have HB2 : Hid (Below w.heap.size w w2) := bel_call hb HB1.out HB1.out.size
      clear hb k0 k1 HC1 HM1 HD1 HB1 HR2
      have k0 := HC2.out.cell 0 _ rfl
      have k1 := HC2.out.cell 1 _ rfl
      have m0 := HM2.out.cell 0 _ rfl
      have m1 := HM2.out.cell 1 _ rfl
      go_wp2_with fail
      refine (HMC.out w2).mono ?_
      rintro e w3 ⟨rfl, hb⟩
      have HC3 := Lib.hid (HC2.out.below hb)
      have HM3 := Lib.hid (HM2.out.below hb)
      have HD3 := Lib.hid (HD2.out.below hb)
      have HB3 : Hid (Below w.heap.size w w3) := bel_call hb HB2.out HB2.out.size
      clear hb k0 k1 m0 m1 HC2 HM2 HD2 HB2 HMC
      go_upto_region 4 with fail
      have HX4 : Hid (BlkC (w3.alloc (.cells #[.int .i64 mc, .int .i64 mr] 23)) w3.heap.size #[.int .i64 mc, .int .i64 mr] 23) := heap_alloc_new w3 _
      have hb : Below w3.heap.size w3 (w3.alloc (.cells #[.int .i64 mc, .int .i64 mr] 23)) := (Below.refl _ _).alloc (Nat.le_refl _) _
      have HC4 := Lib.hid (HC3.out.below hb)
      have HM4 := Lib.hid (HM3.out.below hb)
      have HD4 := Lib.hid (HD3.out.below hb)
      have HB4 : Hid (Below w.heap.size w (w3.alloc (.cells #[.int .i64 mc, .int .i64 mr] 23))) := bel_call hb HB3.out HB3.out.size
      clear hb HC3 HM3 HD3 HB3
      generalize w3.alloc (.cells #[.int .i64 mc, .int .i64 mr] 23) = w4 at HX4 HC4 HM4 HD4 HB4 ⊢
      generalize w3.heap.size = gx at HX4 ⊢
      have r0 := cell_regrown (HC4.out.cell 0 _ rfl)
      have r1' := cell_regrown (HC4.out.cell 1 _ rfl)
      have r2' := cell_regrown (HM4.out.cell 0 _ rfl)
      have r3 := cell_regrown (HM4.out.cell 1 _ rfl)
      have q1 : ∀ dd os, Calls Tryz.prog 9 #[.int .i64 c1, .int .i64 r1] (Go.Sort.grow (redrawn w4 dd) os) fun e w'' => e = .returned (.int .i64 kk) ∧ ∃ p : Regrown, w'' = Go.Sort.grow (redrawn w4 p.1) p.2 := fun dd os => Calls.regrown_of ((HRN.out _).mono (fun e w'' h => ⟨h.1, h.2 ▸ Below.refl _ _⟩))
      have q2 : ∀ dd os, Calls Tryz.prog 8 #[.int .i64 kk, .int .i64 a, .int .i64 b] (Go.Sort.grow (redrawn w4 dd) os) fun e w'' => e = .returned (.int .i64 M) ∧ ∃ p : Regrown, w'' = Go.Sort.grow (redrawn w4 p.1) p.2 := fun dd os => Calls.regrown_of (HR34.out _)
      have hBR : ∀ dd os, Below w4.heap.size w4 (Go.Sort.grow (redrawn w4 dd) os) := fun dd os => below_regrown w4 dd os
      refine wp_region_quiet_below (by kernel_rfl) (by kernel_rfl) ?_
      repeat (go_big_quiet_step ((first | with_reducible exact q1 _ _ | with_reducible exact q2 _ _)))
      refine wpQuiet_nil ?_
      intro _ hw'
      obtain ⟨⟨dz, osz⟩, hw''⟩ := hw'
      subst hw''
      have hb := hBR dz osz
      have HX5 := Lib.hid (HX4.out.below hb)
      have HC5 := Lib.hid (HC4.out.below hb)
      have HD5 := Lib.hid (HD4.out.below hb)
      have HB5 : Hid (Below w.heap.size w (Go.Sort.grow (redrawn w4 dz) osz)) := bel_call hb HB4.out HB4.out.size
      clear hb r0 r1' r2' r3 q1 q2 hBR HX4 HC4 HM4 HD4 HB4 HRN HR34
      generalize Go.Sort.grow (redrawn w4 dz) osz = w5 at HX5 HC5 HD5 HB5 ⊢
      have x0 := HX5.out.cell 0 _ rfl
      have x1 := HX5.out.cell 1 _ rfl
      have e2 : (mc != mc) = false := by simp
      have e3 : (mr != mr) = false := by simp
      have k0 := HC5.out.cell 0 _ rfl
      have k1 := HC5.out.cell 1 _ rfl
      have d0 := HD5.out.cell 0 _ rfl
      have d1 := HD5.out.cell 1 _ rfl
      go_upto_region 5 with fail
      go_cut [57] (fun v wx => v = .bool false ∧ wx = w5)
      case first =>
        cases BB with
        | true =>
          have hM1 : (0 : Int) < M := by have := of_decide_eq_true HBB.out; omega
          go_wp2_with fail
          go_meet
          exact ⟨rfl, rfl⟩
        | false =>
          have hM1 : ¬ (0 : Int) < M := by
            have h := of_decide_eq_false HBB.out
            intro h2
            exact h (by omega)
          go_wp2_with fail
          go_meet
          exact ⟨rfl, rfl⟩
      case rest =>
      obtain ⟨hv, hw⟩ := hcut
      rw [hw]
      subst hv
      clear hw e2 e3 g1 g2 g3 g4 x0 x1 HX5 HBB hM0
      go_wp2_with fail
      refine (HBT.out w5).mono ?_
      rintro e w6 ⟨rfl, hb⟩
      have HC6 := Lib.hid (HC5.out.below hb)
      have HD6 := Lib.hid (HD5.out.below hb)
      have HB6 : Hid (Below w.heap.size w w6) := bel_call hb HB5.out HB5.out.size
      clear hb k0 k1 d0 d1 HC5 HD5 HB5 HBT
      go_upto_region 8 with fail
      have HY7 : Hid (BlkC (w6.alloc (.cells #[.int .i64 uc, .int .i64 wr_] 25)) w6.heap.size #[.int .i64 uc, .int .i64 wr_] 25) := heap_alloc_new w6 _
      have hb : Below w6.heap.size w6 (w6.alloc (.cells #[.int .i64 uc, .int .i64 wr_] 25)) := (Below.refl _ _).alloc (Nat.le_refl _) _
      have HC7 := Lib.hid (HC6.out.below hb)
      have HD7 := Lib.hid (HD6.out.below hb)
      have HB7 : Hid (Below w.heap.size w (w6.alloc (.cells #[.int .i64 uc, .int .i64 wr_] 25))) := bel_call hb HB6.out HB6.out.size
      clear hb HC6 HD6 HB6
      generalize w6.alloc (.cells #[.int .i64 uc, .int .i64 wr_] 25) = w7 at HY7 HC7 HD7 HB7 ⊢
      generalize w6.heap.size = gy at HY7 ⊢
      have y0 := HY7.out.cell 0 _ rfl
      have y1 := HY7.out.cell 1 _ rfl
      have k0 := HC7.out.cell 0 _ rfl
      have k1 := HC7.out.cell 1 _ rfl
      go_wp2_with fail
      refine (HW1.out w7).mono ?_
      rintro e w8 ⟨rfl, hb⟩
      have HC8 := Lib.hid (HC7.out.below hb)
      have HD8 := Lib.hid (HD7.out.below hb)
      have HY8 := Lib.hid (HY7.out.below hb)
      have HB8 : Hid (Below w.heap.size w w8) := bel_call hb HB7.out HB7.out.size
      clear hb y0 y1 k0 k1 HC7 HD7 HY7 HB7 HW1
      go_upto_region 9 with fail
      have HZ9 : Hid (BlkC (w8.alloc (.cells #[.int .i64 c2, .int .i64 r2] 23)) w8.heap.size #[.int .i64 c2, .int .i64 r2] 23) := heap_alloc_new w8 _
      have hb : Below w8.heap.size w8 (w8.alloc (.cells #[.int .i64 c2, .int .i64 r2] 23)) := (Below.refl _ _).alloc (Nat.le_refl _) _
      have HC9 := Lib.hid (HC8.out.below hb)
      have HD9 := Lib.hid (HD8.out.below hb)
      have HY9 := Lib.hid (HY8.out.below hb)
      have HB9 : Hid (Below w.heap.size w (w8.alloc (.cells #[.int .i64 c2, .int .i64 r2] 23))) := bel_call hb HB8.out HB8.out.size
      clear hb HC8 HD8 HY8 HB8
      generalize w8.alloc (.cells #[.int .i64 c2, .int .i64 r2] 23) = w9 at HZ9 HC9 HD9 HY9 HB9 ⊢
      generalize w8.heap.size = gz at HZ9 ⊢
      go_cut [13, 14] (fun v13 v14 wx => ∃ A, v13 = .pointer (some ⟨A, 0, none⟩) ∧ v14 = .bool true ∧ BlkC wx A #[.int .i64 c1, .int .i64 r1] 23 ∧ Below w9.heap.size w9 wx)
      case first =>
        have y0 := HY9.out.cell 0 _ rfl
        have y1 := HY9.out.cell 1 _ rfl
        have d0 := HD9.out.cell 0 _ rfl
        have d1 := HD9.out.cell 1 _ rfl
        have hg1 : w.heap.size + 1 + 1 < w9.heap.size := lt_some HD9.out
        have hg2 : gy < w9.heap.size := lt_some HY9.out
        go_region_held3 (fun w' => w'.cell? ⟨gy, 0, none⟩ = some (.int .i64 uc) ∧ w'.cell? ⟨gy, 1, none⟩ = some (.int .i64 wr_) ∧ w'.cell? ⟨w.heap.size + 1 + 1, 0, none⟩ = some (.int .i64 c2) ∧ w'.cell? ⟨w.heap.size + 1 + 1, 1, none⟩ = some (.int .i64 r2)) (first | (go_simp; done) | go_keep) (first | (go_at_call 11; with_reducible refine (HBK.out _).mono ?_; rintro e wz ⟨rfl, hbz⟩; obtain ⟨hcz, hfz, hzz⟩ := bcell hbz (by first | (simp only [World.size_alloc, World.size_setCell, World.size_drew]; rfl) | rfl)) | (go_at_call 7; with_reducible refine (HW2.out _).mono ?_; rintro e wy ⟨rfl, hby⟩; obtain ⟨hcy, hfy, hzy⟩ := bcell hby (by first | (simp only [World.size_alloc, World.size_setCell, World.size_drew]; rfl) | rfl)))
        all_goals go_wp2_with fail
        all_goals go_meet
        all_goals refine ⟨_, rfl, rfl, ?_, ?_⟩
        · exact heap_alloc_new wy _
        · exact (oo1 hbz hby).alloc (oo1 hbz hby).size _
        · exact (set2 (oo2 hbz hby).2.2 (oo2 hbz hby).1 (oo2 hbz hby).2.1).1
        · exact (set2 (oo2 hbz hby).2.2 (oo2 hbz hby).1 (oo2 hbz hby).2.1).2
        · exact (set2 (oo3 hbz hby).2 (oo3 hbz hby).1 (Nat.le_refl _)).1
        · exact (set2 (oo3 hbz hby).2 (oo3 hbz hby).1 (Nat.le_refl _)).2
      case rest =>
        obtain ⟨A, hv1, hv2, hA, hb⟩ := hcut
        subst hv1
        subst hv2
        have HA := Lib.hid hA
        have HC10 := Lib.hid (HC9.out.below hb)
        have HD10 := Lib.hid (HD9.out.below hb)
        have HZ10 := Lib.hid (HZ9.out.below hb)
        have HB10 : Hid (Below w.heap.size w wc) := bel_call hb HB9.out HB9.out.size
        clear hA hb HC9 HD9 HY9 HZ9 HB9 HW2 HBK
        have k0 := HC10.out.cell 0 _ rfl
        have k1 := HC10.out.cell 1 _ rfl
        have d0 := HD10.out.cell 0 _ rfl
        have d1 := HD10.out.cell 1 _ rfl
        have z0 := HZ10.out.cell 0 _ rfl
        have z1 := HZ10.out.cell 1 _ rfl
        have a0 := HA.out.cell 0 _ rfl
        have a1 := HA.out.cell 1 _ rfl
        go_wp2_with fail
        refine (HAW.out _ HB10.out).mono ?_
        rintro e w11 ⟨rfl, hb⟩
        have HB11 := bel_call hb HB10.out HB10.out.size
        go_wp2_with fail
        go_ret
        exact ⟨rfl, HB11⟩
end Go.Proofs.YtbdgdhjhgcpidaaGreatDoor
