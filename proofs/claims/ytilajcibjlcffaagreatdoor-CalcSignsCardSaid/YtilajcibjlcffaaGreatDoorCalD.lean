/- Functions of formulas: the law's example: the call; the walk of CalcTakes. Printed by gen_cald.py. -/
import Derived.Test.YtilajcibjlcffaaGreatDoorCalC
import Derived.Test.YtilajcibjlcffaaGreatDoorBlk
set_option linter.unusedSimpArgs false
set_option linter.unusedVariables false

namespace Go.Proofs.YtilajcibjlcffaaGreatDoor.Gau
open Go.RowKit Go.Joins

def BlkV (w : World) (b : Nat) : Prop := w.heap[b]? = some (.cells #[.int .i64 0, .int .i64 0, .string ⟨#[]⟩] tVl (0, 0))
abbrev c34 : Value := .complex .f64 (floatOfInt .f64 3) (floatOfInt .f64 4)
abbrev c3m : Value := .complex .f64 (floatOfInt .f64 3) (floatOfInt .f64 (-4))
theorem info_cx : (Tryz.prog.info? 103).map (fun i => (i.zero, i.size, i.bytes)) = some (some (.complex .f64 0 0), 1, 16) := by kernel_rfl
/-- The example's two arguments in memory. -/
structure TwoA (w : World) (A g1 g2 : Nat) : Prop where
  a : w.heap[A]? = some (.cells #[.bool false, .slice (some ⟨g1, 0, none⟩) 1 1, .bool false, .slice (some ⟨g2, 0, none⟩) 1 1] tAr (0, 0))
  x : w.heap[g1]? = some (.cells #[.int .i64 2, .int .i64 0, .string ⟨#[51, 43, 52, 105]⟩] tVl (0, 0))
  y : w.heap[g2]? = some (.cells #[.int .i64 2, .int .i64 0, .string ⟨#[51, 45, 52, 105]⟩] tVl (0, 0))
theorem TwoA.below {w w' : World} {A g1 g2 : Nat} (h : TwoA w A g1 g2) (hb : Below w.heap.size w w') : TwoA w' A g1 g2 := ⟨(hb.block _ (lt_some h.a)).trans h.a, (hb.block _ (lt_some h.x)).trans h.x, (hb.block _ (lt_some h.y)).trans h.y⟩
theorem TwoA.lt {w : World} {A g1 g2 : Nat} (h : TwoA w A g1 g2) : A < w.heap.size ∧ g1 < w.heap.size ∧ g2 < w.heap.size := ⟨lt_some h.a, lt_some h.x, lt_some h.y⟩
set_option maxRecDepth 100000 in
set_option maxHeartbeats 8000000 in
theorem complexes_two (A g1 g2 : Nat) (w : World) (h : TwoA w A g1 g2) : Calls Tryz.prog 63 #[.slice (some ⟨A, 0, none⟩) 2 2] w fun e w' => (∃ p cap, e = .returned (.tuple #[.slice p 2 cap, .agg #[.int .i64 0, .int .i64 0, .string ⟨#[]⟩]]) ∧ RdG (fun v => [v]) 1 w' p 2 [c34, c3m]) ∧ Below w.heap.size w w' := by
  obtain ⟨i0, hi, iz0, iz1, iz2⟩ := info_of info_cx
  have HLT := Lib.hid h.lt
  have H0 : Hid (BlkV (w.alloc (.cells #[.int .i64 0, .int .i64 0, .string ⟨#[]⟩] tVl)) w.heap.size) := heap_alloc_new w _
  have HT0 := Lib.hid (h.below ((Below.refl _ _).alloc (Nat.le_refl _) (.cells #[.int .i64 0, .int .i64 0, .string ⟨#[]⟩] tVl)))
  have hb0 : Hid (Below w.heap.size w (w.alloc (.cells #[.int .i64 0, .int .i64 0, .string ⟨#[]⟩] tVl))) := (Below.refl _ _).alloc (Nat.le_refl _) _
  clear h
  go_enter Tryz.func63, Tryz.ntmps63
  go_upto_region 1 with fail
  have hs0 : (w.alloc (.cells #[.int .i64 0, .int .i64 0, .string ⟨#[]⟩] tVl)).heap.size = w.heap.size + 1 := World.size_alloc _ _
  generalize w.alloc (.cells #[.int .i64 0, .int .i64 0, .string ⟨#[]⟩] tVl) = w0 at H0 HT0 hb0 hs0 ⊢
  go_wp2_with fail
  go_loopg [4, 13] 2 (fun gm v4 v13 wr => ∃ i : Nat, i + gm = 2 ∧ v13 = .int .i64 i ∧ wr.ownsRow (w.heap.size + 1) 103 1 v4 i ([c34, c3m].take i) ∧ TwoA wr A g1 g2 ∧ BlkV wr w.heap.size ∧ Below w.heap.size w wr ∧ w.heap.size + 1 ≤ wr.heap.size)
  case atStart => exact ⟨0, by omega, rfl, World.ownsRow_nil _ _ _ _, HT0.out, H0.out, hb0.out, by omega⟩
  case round =>
    obtain ⟨i, hig, rfl, hown, ht, hz, hb, hsz⟩ := hrel
    have HOW := Lib.hid hown
    have HT := Lib.hid ht
    have HZ := Lib.hid hz
    have HB := Lib.hid hb
    clear hown ht hz hb HT0 H0 hb0 hs0
    have hc : i = 0 ∨ i = 1 ∨ i = 2 := by omega
    rcases hc with rfl | rfl | rfl
    · have q0 : wr.cell? ⟨A, 0, none⟩ = some (.bool false) := by rw [cell_of_block HT.out.a]; rfl
      have q1 : wr.cell? ⟨A, 1, none⟩ = some (.slice (some ⟨g1, 0, none⟩) 1 1) := by rw [cell_of_block HT.out.a]; rfl
      go_upto_region 5 with fail
      have hbn : Below wr.heap.size wr (wr.alloc (.cells #[.bool false, .slice (some ⟨g1, 0, none⟩) 1 1] tAr)) := (Below.refl _ _).alloc (Nat.le_refl _) _
      have HN1 : Hid ((wr.alloc (.cells #[.bool false, .slice (some ⟨g1, 0, none⟩) 1 1] tAr)).heap[wr.heap.size]? = some (.cells #[.bool false, .slice (some ⟨g1, 0, none⟩) 1 1] tAr (0, 0))) := heap_alloc_new wr _
      have HT1 := Lib.hid (HT.out.below hbn)
      have HZ1 : Hid (BlkV (wr.alloc (.cells #[.bool false, .slice (some ⟨g1, 0, none⟩) 1 1] tAr)) w.heap.size) := (hbn.block _ (lt_some HZ.out)).trans HZ.out
      have HB1 : Hid (Below w.heap.size w (wr.alloc (.cells #[.bool false, .slice (some ⟨g1, 0, none⟩) 1 1] tAr))) := bel_call hbn HB.out HB.out.size
      have HO1 := Lib.hid (row_below HOW.out hbn)
      have hs1 : (wr.alloc (.cells #[.bool false, .slice (some ⟨g1, 0, none⟩) 1 1] tAr)).heap.size = wr.heap.size + 1 := World.size_alloc _ _
      clear hbn HT HZ HB HOW q0 q1
      generalize wr.alloc (.cells #[.bool false, .slice (some ⟨g1, 0, none⟩) 1 1] tAr) = w1 at HN1 HT1 HZ1 HB1 HO1 hs1 ⊢
      have q0 : w1.cell? ⟨wr.heap.size, 0, none⟩ = some (.bool false) := by rw [cell_of_block HN1.out]; rfl
      have q1 : w1.cell? ⟨wr.heap.size, 1, none⟩ = some (.slice (some ⟨g1, 0, none⟩) 1 1) := by rw [cell_of_block HN1.out]; rfl
      have HF := Lib.hid (first_any g1 2 0 ⟨#[51, 43, 52, 105]⟩ w1 HT1.out.x)
      go_wp2_with fail
      refine HF.out.mono ?_
      rintro e w2 ⟨rfl, hb2⟩
      have HT2 := Lib.hid (HT1.out.below hb2)
      have HZ2 : Hid (BlkV w2 w.heap.size) := (hb2.block _ (lt_some HZ1.out)).trans HZ1.out
      have HB2 : Hid (Below w.heap.size w w2) := bel_call hb2 HB1.out HB1.out.size
      have HO2 := Lib.hid (row_below HO1.out hb2)
      have hs2 := hb2.size
      clear HF HT1 HZ1 HB1 HO1 HN1 q0 q1 hb2
      go_wp2_with fail
      refine (string_2 _ _).mono ?_
      rintro e w3 ⟨rfl, hb3⟩
      have HT3 := Lib.hid (HT2.out.below hb3)
      have HZ3 : Hid (BlkV w3 w.heap.size) := (hb3.block _ (lt_some HZ2.out)).trans HZ2.out
      have HB3 : Hid (Below w.heap.size w w3) := bel_call hb3 HB2.out HB2.out.size
      have HO3 := Lib.hid (row_below HO2.out hb3)
      have hs3 := hb3.size
      clear HT2 HZ2 HB2 HO2 hb3
      go_upto_region 6 with fail
      have hbn : Below w3.heap.size w3 (w3.alloc (.cells #[.int .i64 0, .int .i64 0, .string ⟨#[]⟩] tVl)) := (Below.refl _ _).alloc (Nat.le_refl _) _
      have HN4 : Hid (BlkV (w3.alloc (.cells #[.int .i64 0, .int .i64 0, .string ⟨#[]⟩] tVl)) w3.heap.size) := heap_alloc_new w3 _
      have HT4 := Lib.hid (HT3.out.below hbn)
      have HZ4 : Hid (BlkV (w3.alloc (.cells #[.int .i64 0, .int .i64 0, .string ⟨#[]⟩] tVl)) w.heap.size) := (hbn.block _ (lt_some HZ3.out)).trans HZ3.out
      have HB4 : Hid (Below w.heap.size w (w3.alloc (.cells #[.int .i64 0, .int .i64 0, .string ⟨#[]⟩] tVl))) := bel_call hbn HB3.out HB3.out.size
      have HO4 := Lib.hid (row_below HO3.out hbn)
      have hs4 : (w3.alloc (.cells #[.int .i64 0, .int .i64 0, .string ⟨#[]⟩] tVl)).heap.size = w3.heap.size + 1 := World.size_alloc _ _
      clear hbn HT3 HZ3 HB3 HO3
      generalize w3.alloc (.cells #[.int .i64 0, .int .i64 0, .string ⟨#[]⟩] tVl) = w4 at HN4 HT4 HZ4 HB4 HO4 hs4 ⊢
      have q0 : w4.cell? ⟨w3.heap.size, 0, none⟩ = some (.int .i64 0) := by rw [cell_of_block HN4.out]; rfl
      have q1 : w4.cell? ⟨w3.heap.size, 1, none⟩ = some (.int .i64 0) := by rw [cell_of_block HN4.out]; rfl
      have q2 : w4.cell? ⟨w3.heap.size, 2, none⟩ = some (.string ⟨#[]⟩) := by rw [cell_of_block HN4.out]; rfl
      go_wp2_with fail
      refine (failed_any _ _ _ _).mono ?_
      rintro e w5 ⟨rfl, hb5⟩
      have HT5 := Lib.hid (HT4.out.below hb5)
      have HZ5 : Hid (BlkV w5 w.heap.size) := (hb5.block _ (lt_some HZ4.out)).trans HZ4.out
      have HB5 : Hid (Below w.heap.size w w5) := bel_call hb5 HB4.out HB4.out.size
      have HO5 := Lib.hid (row_below HO4.out hb5)
      have hs5 := hb5.size
      clear HT4 HZ4 HB4 HO4 HN4 hb5 q0 q1 q2
      go_wp2_with fail
      refine (parse_a _).mono ?_
      rintro e w6 ⟨rfl, hb6⟩
      have HT6 := Lib.hid (HT5.out.below hb6)
      have HZ6 : Hid (BlkV w6 w.heap.size) := (hb6.block _ (lt_some HZ5.out)).trans HZ5.out
      have HB6 : Hid (Below w.heap.size w w6) := bel_call hb6 HB5.out HB5.out.size
      have HO6 := Lib.hid (row_below HO5.out hb6)
      have hs6 := hb6.size
      clear HT5 HZ5 HB5 HO5 hb6
      go_wp2_with (at_builtin; refine wpList_append_own _ rfl (.tmp 34) (.tmp 36) _ rfl (w.heap.size + 1) 103 i0 (.complex .f64 0 0) 1 16 Tryz.underlying99 hi iz0 iz1 iz2 rfl (by decide) _ _ _ rfl (HO6.out.alloc _) ⟨w6.heap.size, 0, none⟩ 1 1 [c34] rfl rfl ?c1 ?c2 ?c3 ?c4 ?c5 ?_)
      case c1 => exact new1 w6 c34 _
      case c2 => intro u hu; simp at hu; subst hu; rfl
      case c3 => unfold maxLen; omega
      case c4 => omega
      case c5 => rw [World.size_alloc]; omega
      intro v' w7 hown7 hgr7 _
      have hB7 : Hid (Below (w.heap.size + 1) w6 w7) := ((Below.refl _ _).alloc (by omega) _).grown hgr7 (by rw [World.size_alloc]; omega) (fun k hk => (HO6.out.lt k hk).1)
      have hsA : A < w.heap.size ∧ g1 < w.heap.size ∧ g2 < w.heap.size := HLT.out
      have HT7 : Hid (TwoA w7 A g1 g2) := ⟨(hB7.out.block A (by omega)).trans HT6.out.a, (hB7.out.block g1 (by omega)).trans HT6.out.x, (hB7.out.block g2 (by omega)).trans HT6.out.y⟩
      have HZ7 : Hid (BlkV w7 w.heap.size) := (hB7.out.block _ (by omega)).trans HZ6.out
      have HB7 : Hid (Below w.heap.size w w7) := HB6.out.trans (hB7.out.mono (by omega))
      have hs7 := hB7.out.size
      have HO7 : Hid (w7.ownsRow (w.heap.size + 1) 103 1 v' (0 + 1) ([c34, c3m].take (0 + 1))) := hown7
      clear hown7 hgr7 HO6 hB7 HT6 HZ6 HB6 hsA
      go_wp2_with fail
      go_roundg (gk - 1)
      case measure => omega
      case rel => exact ⟨0 + 1, by omega, by go_num, HO7.out, HT7.out, HZ7.out, HB7.out, by omega⟩
    · have q0 : wr.cell? ⟨A, 2, none⟩ = some (.bool false) := by rw [cell_of_block HT.out.a]; rfl
      have q1 : wr.cell? ⟨A, 3, none⟩ = some (.slice (some ⟨g2, 0, none⟩) 1 1) := by rw [cell_of_block HT.out.a]; rfl
      go_upto_region 5 with fail
      have hbn : Below wr.heap.size wr (wr.alloc (.cells #[.bool false, .slice (some ⟨g2, 0, none⟩) 1 1] tAr)) := (Below.refl _ _).alloc (Nat.le_refl _) _
      have HN1 : Hid ((wr.alloc (.cells #[.bool false, .slice (some ⟨g2, 0, none⟩) 1 1] tAr)).heap[wr.heap.size]? = some (.cells #[.bool false, .slice (some ⟨g2, 0, none⟩) 1 1] tAr (0, 0))) := heap_alloc_new wr _
      have HT1 := Lib.hid (HT.out.below hbn)
      have HZ1 : Hid (BlkV (wr.alloc (.cells #[.bool false, .slice (some ⟨g2, 0, none⟩) 1 1] tAr)) w.heap.size) := (hbn.block _ (lt_some HZ.out)).trans HZ.out
      have HB1 : Hid (Below w.heap.size w (wr.alloc (.cells #[.bool false, .slice (some ⟨g2, 0, none⟩) 1 1] tAr))) := bel_call hbn HB.out HB.out.size
      have HO1 := Lib.hid (row_below HOW.out hbn)
      have hs1 : (wr.alloc (.cells #[.bool false, .slice (some ⟨g2, 0, none⟩) 1 1] tAr)).heap.size = wr.heap.size + 1 := World.size_alloc _ _
      clear hbn HT HZ HB HOW q0 q1
      generalize wr.alloc (.cells #[.bool false, .slice (some ⟨g2, 0, none⟩) 1 1] tAr) = w1 at HN1 HT1 HZ1 HB1 HO1 hs1 ⊢
      have q0 : w1.cell? ⟨wr.heap.size, 0, none⟩ = some (.bool false) := by rw [cell_of_block HN1.out]; rfl
      have q1 : w1.cell? ⟨wr.heap.size, 1, none⟩ = some (.slice (some ⟨g2, 0, none⟩) 1 1) := by rw [cell_of_block HN1.out]; rfl
      have HF := Lib.hid (first_any g2 2 0 ⟨#[51, 45, 52, 105]⟩ w1 HT1.out.y)
      go_wp2_with fail
      refine HF.out.mono ?_
      rintro e w2 ⟨rfl, hb2⟩
      have HT2 := Lib.hid (HT1.out.below hb2)
      have HZ2 : Hid (BlkV w2 w.heap.size) := (hb2.block _ (lt_some HZ1.out)).trans HZ1.out
      have HB2 : Hid (Below w.heap.size w w2) := bel_call hb2 HB1.out HB1.out.size
      have HO2 := Lib.hid (row_below HO1.out hb2)
      have hs2 := hb2.size
      clear HF HT1 HZ1 HB1 HO1 HN1 q0 q1 hb2
      go_wp2_with fail
      refine (string_2 _ _).mono ?_
      rintro e w3 ⟨rfl, hb3⟩
      have HT3 := Lib.hid (HT2.out.below hb3)
      have HZ3 : Hid (BlkV w3 w.heap.size) := (hb3.block _ (lt_some HZ2.out)).trans HZ2.out
      have HB3 : Hid (Below w.heap.size w w3) := bel_call hb3 HB2.out HB2.out.size
      have HO3 := Lib.hid (row_below HO2.out hb3)
      have hs3 := hb3.size
      clear HT2 HZ2 HB2 HO2 hb3
      go_upto_region 6 with fail
      have hbn : Below w3.heap.size w3 (w3.alloc (.cells #[.int .i64 0, .int .i64 0, .string ⟨#[]⟩] tVl)) := (Below.refl _ _).alloc (Nat.le_refl _) _
      have HN4 : Hid (BlkV (w3.alloc (.cells #[.int .i64 0, .int .i64 0, .string ⟨#[]⟩] tVl)) w3.heap.size) := heap_alloc_new w3 _
      have HT4 := Lib.hid (HT3.out.below hbn)
      have HZ4 : Hid (BlkV (w3.alloc (.cells #[.int .i64 0, .int .i64 0, .string ⟨#[]⟩] tVl)) w.heap.size) := (hbn.block _ (lt_some HZ3.out)).trans HZ3.out
      have HB4 : Hid (Below w.heap.size w (w3.alloc (.cells #[.int .i64 0, .int .i64 0, .string ⟨#[]⟩] tVl))) := bel_call hbn HB3.out HB3.out.size
      have HO4 := Lib.hid (row_below HO3.out hbn)
      have hs4 : (w3.alloc (.cells #[.int .i64 0, .int .i64 0, .string ⟨#[]⟩] tVl)).heap.size = w3.heap.size + 1 := World.size_alloc _ _
      clear hbn HT3 HZ3 HB3 HO3
      generalize w3.alloc (.cells #[.int .i64 0, .int .i64 0, .string ⟨#[]⟩] tVl) = w4 at HN4 HT4 HZ4 HB4 HO4 hs4 ⊢
      have q0 : w4.cell? ⟨w3.heap.size, 0, none⟩ = some (.int .i64 0) := by rw [cell_of_block HN4.out]; rfl
      have q1 : w4.cell? ⟨w3.heap.size, 1, none⟩ = some (.int .i64 0) := by rw [cell_of_block HN4.out]; rfl
      have q2 : w4.cell? ⟨w3.heap.size, 2, none⟩ = some (.string ⟨#[]⟩) := by rw [cell_of_block HN4.out]; rfl
      go_wp2_with fail
      refine (failed_any _ _ _ _).mono ?_
      rintro e w5 ⟨rfl, hb5⟩
      have HT5 := Lib.hid (HT4.out.below hb5)
      have HZ5 : Hid (BlkV w5 w.heap.size) := (hb5.block _ (lt_some HZ4.out)).trans HZ4.out
      have HB5 : Hid (Below w.heap.size w w5) := bel_call hb5 HB4.out HB4.out.size
      have HO5 := Lib.hid (row_below HO4.out hb5)
      have hs5 := hb5.size
      clear HT4 HZ4 HB4 HO4 HN4 hb5 q0 q1 q2
      go_wp2_with fail
      refine (parse_b _).mono ?_
      rintro e w6 ⟨rfl, hb6⟩
      have HT6 := Lib.hid (HT5.out.below hb6)
      have HZ6 : Hid (BlkV w6 w.heap.size) := (hb6.block _ (lt_some HZ5.out)).trans HZ5.out
      have HB6 : Hid (Below w.heap.size w w6) := bel_call hb6 HB5.out HB5.out.size
      have HO6 := Lib.hid (row_below HO5.out hb6)
      have hs6 := hb6.size
      clear HT5 HZ5 HB5 HO5 hb6
      go_wp2_with (at_builtin; refine wpList_append_own _ rfl (.tmp 34) (.tmp 36) _ rfl (w.heap.size + 1) 103 i0 (.complex .f64 0 0) 1 16 Tryz.underlying99 hi iz0 iz1 iz2 rfl (by decide) _ _ _ rfl (HO6.out.alloc _) ⟨w6.heap.size, 0, none⟩ 1 1 [c3m] rfl rfl ?c1 ?c2 ?c3 ?c4 ?c5 ?_)
      case c1 => exact new1 w6 c3m _
      case c2 => intro u hu; simp at hu; subst hu; rfl
      case c3 => unfold maxLen; omega
      case c4 => omega
      case c5 => rw [World.size_alloc]; omega
      intro v' w7 hown7 hgr7 _
      have hB7 : Hid (Below (w.heap.size + 1) w6 w7) := ((Below.refl _ _).alloc (by omega) _).grown hgr7 (by rw [World.size_alloc]; omega) (fun k hk => (HO6.out.lt k hk).1)
      have hsA : A < w.heap.size ∧ g1 < w.heap.size ∧ g2 < w.heap.size := HLT.out
      have HT7 : Hid (TwoA w7 A g1 g2) := ⟨(hB7.out.block A (by omega)).trans HT6.out.a, (hB7.out.block g1 (by omega)).trans HT6.out.x, (hB7.out.block g2 (by omega)).trans HT6.out.y⟩
      have HZ7 : Hid (BlkV w7 w.heap.size) := (hB7.out.block _ (by omega)).trans HZ6.out
      have HB7 : Hid (Below w.heap.size w w7) := HB6.out.trans (hB7.out.mono (by omega))
      have hs7 := hB7.out.size
      have HO7 : Hid (w7.ownsRow (w.heap.size + 1) 103 1 v' (1 + 1) ([c34, c3m].take (1 + 1))) := hown7
      clear hown7 hgr7 HO6 hB7 HT6 HZ6 HB6 hsA
      go_wp2_with fail
      go_roundg (gk - 1)
      case measure => omega
      case rel => exact ⟨1 + 1, by omega, by go_num, HO7.out, HT7.out, HZ7.out, HB7.out, by omega⟩
    · obtain ⟨p, cap, rfl, _, _, hrd, _⟩ := RdG.of_own (enc := fun (v : Value) => [v]) (sz := 1) (fun _ => rfl) (L := [c34, c3m]) rfl (by simpa using HOW.out)
      have HRD := Lib.hid hrd
      have HLR := Lib.hid (fun k h => HOW.out.lt k h)
      clear hrd
      go_upto_region 13 with fail
      refine wp_region_lit ?_
      iterate 3
        refine wpList_plain rfl fun K hK => ?_
        go_simp
        refine hK _ _ ?_
        clear hK K
      refine wpList_store_mid (by rfl) _ _ _ (by rfl) w.heap.size 0 #[.int .i64 0, .int .i64 0, .string ⟨#[]⟩] (by rfl) (by rfl) (block_there HZ.out 3 (Nat.le_refl _)) (by kernel_rfl) (by simp [Value.oneCell']) ?_
      have hs8 : Hid (BlkV (wr.setCells w.heap.size 0 #[.int .i64 0, .int .i64 0, .string ⟨#[]⟩].toList) w.heap.size) := store_block HZ.out _ rfl
      have hb8 : Hid (Below w.heap.size w (wr.setCells w.heap.size 0 #[.int .i64 0, .int .i64 0, .string ⟨#[]⟩].toList)) := store_below (Nat.le_refl _) _ _ _ HB.out
      have hn8 : Hid (∀ k', k' ≠ w.heap.size → (wr.setCells w.heap.size 0 #[.int .i64 0, .int .i64 0, .string ⟨#[]⟩].toList).heap[k']? = wr.heap[k']?) := fun k' h => store_other h _ _ _
      have hz8 : Hid ((wr.setCells w.heap.size 0 #[.int .i64 0, .int .i64 0, .string ⟨#[]⟩].toList).heap.size = wr.heap.size) := by unfold Hid; simp [World.setCells, World.size_setCell]
      generalize wr.setCells w.heap.size 0 #[.int .i64 0, .int .i64 0, .string ⟨#[]⟩].toList = w9 at hs8 hb8 hn8 hz8 ⊢
      go_simp
      iterate 3 (first | go_values | go_skip | go_guarded | go_step | go_upon)
      apply wp_ret
      try simp only [Exit.inBlock, Exit.then]
      refine bodyPost_ret (results_tmp_row rfl _ _ w.heap.size tVl #[.int .i64 0, .int .i64 0, .string ⟨#[]⟩] (0, 0) _ rfl hs8.out Tryz.underlying28 rfl (by kernel_rfl) _ rfl) rfl ⟨⟨p, cap, rfl, ?_⟩, hb8.out⟩
      obtain ⟨h1, h2⟩ := HRD.out
      refine ⟨h1, ?_⟩
      rcases h2 with h2 | ⟨b, off, rfl, h4, h5⟩
      · exact .inl h2
      · refine .inr ⟨b, off, rfl, by rw [hz8.out]; exact h4, fun j x hj k u hu => ?_⟩
        have h6 := h5 j x hj k u hu
        have h7 := (HLR.out b rfl).1
        unfold World.cell? at h6 ⊢
        rw [hn8.out b (by omega)]
        exact h6
theorem two_rdz {w : World} {p : Option Addr} (h : RdG (fun (v : Value) => [v]) 1 w p 2 [c34, c3m]) : RdZ w p 2 [(3, 4), (3, -4)] := by
  obtain ⟨h1, h2⟩ := h
  refine ⟨rfl, ?_, ?_⟩
  · intro z hz
    simp only [List.mem_cons, List.not_mem_nil, or_false] at hz
    rcases hz with rfl | rfl <;> simp
  · rcases h2 with h2 | ⟨b, off, rfl, h4, h5⟩
    · omega
    · refine .inr ⟨b, off, rfl, h4, fun j hj => ?_⟩
      have hj2 : j < 2 := hj
      have e0 := h5 0 c34 rfl 0 c34 rfl
      have e1 := h5 1 c3m rfl 0 c3m rfl
      match j, hj2 with
      | 0, _ => exact ⟨_, _, e0, isF_of (by decide), isF_of (by decide)⟩
      | 1, _ => exact ⟨_, _, e1, isF_of (by decide), isF_of (by decide)⟩
theorem tx_25 (x y : Nat) (hx : IsF x 25) (hy : IsF y 0) (w : World) : Calls Tryz.prog 66 #[.complex .f64 x y] w fun e w' => e = .returned (.string ⟨#[50, 53]⟩) ∧ Below w.heap.size w w' :=
  ztext_any x y 25 0 hx hy (by omega) (by omega) (by omega) (by omega) w
abbrev sIP : Value := .string ⟨#[73, 77, 80, 82, 79, 68, 85, 67, 84]⟩
set_option maxRecDepth 100000 in
set_option maxHeartbeats 8000000 in
theorem complexed_ex (A g1 g2 : Nat) (w : World) (h : TwoA w A g1 g2) : Calls Tryz.prog 37 #[sIP, .slice (some ⟨A, 0, none⟩) 2 2] w fun e w' => e = .returned (.agg #[.int .i64 2, .int .i64 0, .string ⟨#[50, 53]⟩]) ∧ Below w.heap.size w w' := by
  have H0 : Hid (BlkV (w.alloc (.cells #[.int .i64 0, .int .i64 0, .string ⟨#[]⟩] tVl)) w.heap.size) := heap_alloc_new w _
  have hb0 : Hid (Below w.heap.size w (w.alloc (.cells #[.int .i64 0, .int .i64 0, .string ⟨#[]⟩] tVl))) := (Below.refl _ _).alloc (Nat.le_refl _) _
  have HC := Lib.hid (complexes_two A g1 g2 _ (h.below ((Below.refl _ _).alloc (Nat.le_refl _) (.cells #[.int .i64 0, .int .i64 0, .string ⟨#[]⟩] tVl))))
  clear h
  go_enter Tryz.func37, Tryz.ntmps37
  go_upto_region 1 with fail
  generalize w.alloc (.cells #[.int .i64 0, .int .i64 0, .string ⟨#[]⟩] tVl) = w0 at H0 HC hb0 ⊢
  have hs0 : w.heap.size < w0.heap.size := lt_some H0.out
  go_wp2_with fail
  refine HC.out.mono ?_
  rintro e w1 ⟨⟨p, cap, rfl, hrd⟩, hb1⟩
  have HZ1 : Hid (BlkV w1 w.heap.size) := (hb1.block _ (lt_some H0.out)).trans H0.out
  have HB1 : Hid (Below w.heap.size w w1) := bel_call hb1 hb0.out hb0.out.size
  have hs1 := hb1.size
  have HRD := Lib.hid hrd
  clear hrd hb1 HC H0 hb0
  go_upto_region 2 with fail
  have hbn : Below w1.heap.size w1 (w1.alloc (.cells #[.int .i64 0, .int .i64 0, .string ⟨#[]⟩] tVl)) := (Below.refl _ _).alloc (Nat.le_refl _) _
  have HN2 : Hid (BlkV (w1.alloc (.cells #[.int .i64 0, .int .i64 0, .string ⟨#[]⟩] tVl)) w1.heap.size) := heap_alloc_new w1 _
  have HZ2 : Hid (BlkV (w1.alloc (.cells #[.int .i64 0, .int .i64 0, .string ⟨#[]⟩] tVl)) w.heap.size) := (hbn.block _ (lt_some HZ1.out)).trans HZ1.out
  have HB2 : Hid (Below w.heap.size w (w1.alloc (.cells #[.int .i64 0, .int .i64 0, .string ⟨#[]⟩] tVl))) := bel_call hbn HB1.out HB1.out.size
  have HR2 := Lib.hid (HRD.out.below hbn)
  clear hbn HZ1 HB1 HRD
  generalize w1.alloc (.cells #[.int .i64 0, .int .i64 0, .string ⟨#[]⟩] tVl) = w2 at HN2 HZ2 HB2 HR2 ⊢
  have q0 : w2.cell? ⟨w1.heap.size, 0, none⟩ = some (.int .i64 0) := by rw [cell_of_block HN2.out]; rfl
  have q1 : w2.cell? ⟨w1.heap.size, 1, none⟩ = some (.int .i64 0) := by rw [cell_of_block HN2.out]; rfl
  have q2 : w2.cell? ⟨w1.heap.size, 2, none⟩ = some (.string ⟨#[]⟩) := by rw [cell_of_block HN2.out]; rfl
  go_wp2_with fail
  refine (failed_any _ _ _ _).mono ?_
  rintro e w3 ⟨rfl, hb3⟩
  have HZ3 : Hid (BlkV w3 w.heap.size) := (hb3.block _ (lt_some HZ2.out)).trans HZ2.out
  have HB3 : Hid (Below w.heap.size w w3) := bel_call hb3 HB2.out HB2.out.size
  have HR3 := Lib.hid (two_rdz (HR2.out.below hb3))
  have HAD := Lib.hid (add_any p 2 cap [(3, 4), (3, -4)] (by omega) w3 HR3.out)
  have HMU := Lib.hid (mul_any p 2 cap [(3, 4), (3, -4)] (by omega) w3 HR3.out)
  clear HZ2 HB2 HR2 HN2 hb3 q0 q1 q2
  go_wp2_with fail
  refine HAD.out.mono ?_
  rintro e wx ⟨⟨x, y, rfl, _, _⟩, hwx⟩
  rw [← hwx]
  clear hwx wx HAD
  go_wp2_with fail
  refine HMU.out.mono ?_
  rintro e wx ⟨⟨x2, y2, rfl, hx2, hy2⟩, hwx⟩
  rw [← hwx]
  rw [show zE (mulL [(3, 4), (3, -4)] (1, 0)) = 0 from by decide]
  have hx2' : IsF x2 25 := hx2
  have hy2' : IsF y2 0 := hy2
  have HX := Lib.hid (tx_25 x2 y2 hx2' hy2' w3)
  clear hwx wx HMU hx2 hy2 hx2' hy2'
  go_wp2_with fail
  refine HX.out.mono ?_
  rintro e w4 ⟨rfl, hb4⟩
  have HZ4 : Hid (BlkV w4 w.heap.size) := (hb4.block _ (lt_some HZ3.out)).trans HZ3.out
  have HB4 : Hid (Below w.heap.size w w4) := bel_call hb4 HB3.out HB3.out.size
  clear hb4 HZ3 HB3 HX
  go_wp2_with fail
  refine (str_any _ _).mono ?_
  rintro e w5 ⟨rfl, hb5⟩
  have HZ5 : Hid (BlkV w5 w.heap.size) := (hb5.block _ (lt_some HZ4.out)).trans HZ4.out
  have HB5 : Hid (Below w.heap.size w w5) := bel_call hb5 HB4.out HB4.out.size
  clear hb5 HZ4 HB4
  rename_i KK aK
  go_simp
  refine aK _ _ ?_
  clear aK
  refine wpList_store_mid (by rfl) _ _ _ (by rfl) w.heap.size 0 #[.int .i64 2, .int .i64 0, .string ⟨#[50, 53]⟩] (by rfl) (by rfl) (block_there HZ5.out 3 (Nat.le_refl _)) (by kernel_rfl) (by simp [Value.oneCell']) ?_
  have hs8 : Hid ((w5.setCells w.heap.size 0 #[.int .i64 2, .int .i64 0, .string ⟨#[50, 53]⟩].toList).heap[w.heap.size]? = some (.cells #[.int .i64 2, .int .i64 0, .string ⟨#[50, 53]⟩] tVl (0, 0))) := store_block HZ5.out _ rfl
  have hb8 : Hid (Below w.heap.size w (w5.setCells w.heap.size 0 #[.int .i64 2, .int .i64 0, .string ⟨#[50, 53]⟩].toList)) := store_below (Nat.le_refl _) _ _ _ HB5.out
  generalize w5.setCells w.heap.size 0 #[.int .i64 2, .int .i64 0, .string ⟨#[50, 53]⟩].toList = w9 at hs8 hb8 ⊢
  go_simp
  iterate 3 (first | go_values | go_skip | go_guarded | go_step | go_upon)
  apply wp_ret
  try simp only [Exit.inBlock, Exit.then]
  refine bodyPost_ret (results_cell_row rfl _ _ w.heap.size tVl #[.int .i64 2, .int .i64 0, .string ⟨#[50, 53]⟩] (0, 0) _ rfl hs8.out Tryz.underlying28 rfl (by kernel_rfl)) rfl ⟨rfl, hb8.out⟩
set_option maxRecDepth 100000 in
set_option maxHeartbeats 8000000 in
theorem call_ex (A g1 g2 : Nat) (w : World) (h : TwoA w A g1 g2) : Calls Tryz.prog 11 #[sIP, .slice (some ⟨A, 0, none⟩) 2 2] w fun e w' => e = .returned (.agg #[.int .i64 2, .int .i64 0, .string ⟨#[50, 53]⟩]) ∧ Below w.heap.size w w' := by
  have H0 : Hid (BlkV (w.alloc (.cells #[.int .i64 0, .int .i64 0, .string ⟨#[]⟩] tVl)) w.heap.size) := heap_alloc_new w _
  have hb0 : Hid (Below w.heap.size w (w.alloc (.cells #[.int .i64 0, .int .i64 0, .string ⟨#[]⟩] tVl))) := (Below.refl _ _).alloc (Nat.le_refl _) _
  have HT0 := Lib.hid (h.below ((Below.refl _ _).alloc (Nat.le_refl _) (.cells #[.int .i64 0, .int .i64 0, .string ⟨#[]⟩] tVl)))
  clear h
  go_enter Tryz.func11, Tryz.ntmps11
  go_upto_region 1 with fail
  generalize w.alloc (.cells #[.int .i64 0, .int .i64 0, .string ⟨#[]⟩] tVl) = w0 at H0 HT0 hb0 ⊢
  have HTK := Lib.hid (tk_9 w0)
  go_wp2_with fail
  refine HTK.out.mono ?_
  rintro e w1 ⟨rfl, hb1⟩
  rw [show tkC [73, 77, 80, 82, 79, 68, 85, 67, 84] = (1, 16, true) from by decide]
  have HZ1 : Hid (BlkV w1 w.heap.size) := (hb1.block _ (lt_some H0.out)).trans H0.out
  have HB1 : Hid (Below w.heap.size w w1) := bel_call hb1 hb0.out hb0.out.size
  have HC := Lib.hid (complexed_ex A g1 g2 w1 (HT0.out.below hb1))
  clear hb1 H0 hb0 HT0 HTK
  go_wp2_with fail
  refine HC.out.mono ?_
  rintro e w5 ⟨rfl, hb5⟩
  have HZ5 : Hid (BlkV w5 w.heap.size) := (hb5.block _ (lt_some HZ1.out)).trans HZ1.out
  have HB5 : Hid (Below w.heap.size w w5) := bel_call hb5 HB1.out HB1.out.size
  clear hb5 HZ1 HB1
  rename_i KK aK
  go_simp
  refine aK _ _ ?_
  clear aK
  refine wpList_store_mid (by rfl) _ _ _ (by rfl) w.heap.size 0 #[.int .i64 2, .int .i64 0, .string ⟨#[50, 53]⟩] (by rfl) (by rfl) (block_there HZ5.out 3 (Nat.le_refl _)) (by kernel_rfl) (by simp [Value.oneCell']) ?_
  have hs8 : Hid ((w5.setCells w.heap.size 0 #[.int .i64 2, .int .i64 0, .string ⟨#[50, 53]⟩].toList).heap[w.heap.size]? = some (.cells #[.int .i64 2, .int .i64 0, .string ⟨#[50, 53]⟩] tVl (0, 0))) := store_block HZ5.out _ rfl
  have hb8 : Hid (Below w.heap.size w (w5.setCells w.heap.size 0 #[.int .i64 2, .int .i64 0, .string ⟨#[50, 53]⟩].toList)) := store_below (Nat.le_refl _) _ _ _ HB5.out
  generalize w5.setCells w.heap.size 0 #[.int .i64 2, .int .i64 0, .string ⟨#[50, 53]⟩].toList = w9 at hs8 hb8 ⊢
  go_simp
  iterate 3 (first | go_values | go_skip | go_guarded | go_step | go_upon)
  apply wp_ret
  try simp only [Exit.inBlock, Exit.then]
  refine bodyPost_ret (results_cell_row rfl _ _ w.heap.size tVl #[.int .i64 2, .int .i64 0, .string ⟨#[50, 53]⟩] (0, 0) _ rfl hs8.out Tryz.underlying28 rfl (by kernel_rfl)) rfl ⟨rfl, hb8.out⟩
set_option maxRecDepth 100000 in
set_option maxHeartbeats 8000000 in
theorem cawake_any (w : World) : Calls Tryz.prog 5 #[] w fun e w' => e = .returned (.bool true) ∧ Below w.heap.size w w' := by
  go_enter Tryz.func5, Tryz.ntmps5
  go_wp2_with fail
  refine (str_any _ _).mono ?_
  rintro e w1 ⟨rfl, hb1⟩
  have HB1 := Lib.hid hb1
  clear hb1
  go_wp2_with fail
  refine (one_any _ _ _ _).mono ?_
  rintro e w2 ⟨⟨g1, rfl, hg1⟩, hb2⟩
  have HB2 : Hid (Below w.heap.size w w2) := bel_call hb2 HB1.out HB1.out.size
  have HG1 := Lib.hid hg1
  clear hb2 hg1 HB1
  go_wp2_with fail
  refine (str_any _ _).mono ?_
  rintro e w3 ⟨rfl, hb3⟩
  have HB3 : Hid (Below w.heap.size w w3) := bel_call hb3 HB2.out HB2.out.size
  have HG3 := Lib.hid ((hb3.block _ (lt_some HG1.out)).trans HG1.out)
  clear hb3 HB2 HG1
  go_wp2_with fail
  refine (one_any _ _ _ _).mono ?_
  rintro e w4 ⟨⟨g2, rfl, hg2⟩, hb4⟩
  have HB4 : Hid (Below w.heap.size w w4) := bel_call hb4 HB3.out HB3.out.size
  have HG4 := Lib.hid ((hb4.block _ (lt_some HG3.out)).trans HG3.out)
  have HT : Hid (TwoA (w4.alloc (.cells #[.bool false, .slice (some ⟨g1, 0, none⟩) 1 1, .bool false, .slice (some ⟨g2, 0, none⟩) 1 1] tAr)) w4.heap.size g1 g2) := ⟨heap_alloc_new w4 _, (heap_alloc_old _ _ (lt_some HG4.out)).trans HG4.out, (heap_alloc_old _ _ (lt_some hg2)).trans hg2⟩
  have HB5 : Hid (Below w.heap.size w (w4.alloc (.cells #[.bool false, .slice (some ⟨g1, 0, none⟩) 1 1, .bool false, .slice (some ⟨g2, 0, none⟩) 1 1] tAr))) := HB4.out.alloc HB4.out.size _
  have HC := Lib.hid (call_ex _ _ _ _ HT.out)
  clear hb4 HB3 HG3 hg2 HG4 HT
  go_wp2_with fail
  refine HC.out.mono ?_
  rintro e w6 ⟨rfl, hb6⟩
  have HB6 : Hid (Below w.heap.size w w6) := bel_call hb6 HB5.out HB5.out.size
  clear hb6 HC HB5 HB4
  go_wp2_with fail
  refine (str_any _ _).mono ?_
  rintro e w7 ⟨rfl, hb7⟩
  have HB7 : Hid (Below w.heap.size w w7) := bel_call hb7 HB6.out HB6.out.size
  clear hb7 HB6
  go_wp2_with fail
  go_ret
  exact ⟨rfl, HB7.out⟩
end Go.Proofs.YtilajcibjlcffaaGreatDoor.Gau
