/- The parser: 'primary' at numbers, texts, faults. Printed by gen_par.py. The parser: 'primary' at brackets and names. Printed by gen_par.py. Names of cells are read: stamp.Number, a1's letters, Column, Parse. Names of cells are read: a1's letters, Column, Parse. -/
import Derived.Test.YtigmcoelkkihkaaGreatDoorPwS
import Derived.Test.YtigmcoelkkihkaaGreatDoorPwK
import Derived.Lib.ConvBytes
set_option linter.unusedSimpArgs false
set_option linter.unusedVariables false
namespace Go.Proofs.YtigmcoelkkihkaaGreatDoor
open Go.RowKit Go.Joins

set_option maxRecDepth 100000 in
set_option maxHeartbeats 8000000 in
theorem pr_num1 (u : Int) (h1 : 0 ≤ u) (h2 : u ≤ 9223372036854775807) : PrC (.mk 1 u [] 0 0 []) := by
  intro ws w b q cT i Ts rest hst hat hrs
  rw [show tkN nmS (.mk 1 u [] 0 0 []) 5 = [(1, txt u)] from by rw [tkN_split, if_neg (by show ¬ (6 : Int) < 5; omega), tk_num']] at hat ⊢
  have hat' : At Ts i ((1, txt u) :: rest) := hat
  have HDP := Lib.hid (fun W (h : W.ShapedOpen Tryz.prog) => parse_any ⟨(txt u).toArray⟩ (by rw [Lib.size_eq]; have := txt_lenT u (by omega) h2; simpa using Nat.le_trans this (by omega)) W h)
  rw [show (⟨(txt u).toArray⟩ : ByteArray).data.toList = txt u from by simp, (txt_prs u (by omega) h2).1, (txt_prs u (by omega) h2).2] at HDP
  obtain ⟨⟨kx, tx, ax⟩, hy1, hy2, hat1⟩ := hat'.get
  obtain ⟨rfl, rfl⟩ : 1 = kx ∧ txt u = tx := by
    have e : (kx, tx) = ((1 : Int), (txt u : Bs)) := hy2
    exact ⟨(congrArg Prod.fst e).symm, (congrArg Prod.snd e).symm⟩
  obtain ⟨g, rfl, hgb, _, _, _, _⟩ := hst.tks.at hy1
  have hile := hat'.le
  have hle := hst.len
  have HTK := Lib.hid (fun W (h : TkR W b (some ⟨g, 0, none⟩) Ts) => h.at hy1)
  have hA0 : Hid (BlkC (w.alloc (.cells (Cel.ndA nodeZ none 0 0) Cel.tPn)) w.heap.size (Cel.ndA nodeZ none 0 0) Cel.tPn) := heap_alloc_new w _
  have hAB : Below w.heap.size w (w.alloc (.cells (Cel.ndA nodeZ none 0 0) Cel.tPn)) := by (repeat' (first | (with_reducible exact Below.refl _ _) | (with_reducible assumption) | (with_reducible refine Below.alloc ?_ ?_ _) | (with_reducible refine bel_drewN ?_ _) | (with_reducible refine Below.drew ?_) | (with_reducible refine Below.setCell ?_ ?_ _) | (with_reducible refine bel_call ‹_› ?_ ?_) | go_size))
  have HS0 := Lib.hid (hst.below hAB)
  have HO0 := Lib.hid (Off.of_below (b := b) hAB)
  have hbw := hst.lt
  have HSW := Lib.hid hst
  have hin : (i : Int) < (Ts.length : Int) := by omega
  obtain ⟨nT, hnT⟩ : ∃ n, Ts.length = n := ⟨_, rfl⟩
  have HNT := Lib.hid hnT
  rw [hnT] at  hle hile hin ⊢
  clear hnT
  clear hst hAB
  go_enter Tryz.func76, Tryz.ntmps76
  go_upto_region 1 with fail
  have e0 : w.alloc (.cells #[.int .i64 0, .int .i64 0, .string ⟨#[]⟩, .int .i64 0, .int .i64 0, .int .i64 0, .int .i64 0, .slice none 0 0] Cel.tPn) = w.alloc (.cells (Cel.ndA nodeZ none 0 0) Cel.tPn) := rfl
  rw [e0]
  clear e0
  generalize w.alloc (.cells (Cel.ndA nodeZ none 0 0) Cel.tPn) = w0 at hA0 HS0 HO0 ⊢
  obtain ⟨p0, p1, p2, _⟩ := HS0.out.psr.cells
  rw [HNT.out] at p0
  have r0 := cell_regrown p0
  have r1 := cell_regrown p1
  have r2 := cell_regrown p2
  have hBR : ∀ dd os, Below w0.heap.size w0 (Go.Sort.grow (redrawn w0 dd) os) := fun dd os => below_regrown w0 dd os
  refine wp_region_quiet_below (by kernel_rfl) (by kernel_rfl) ?_
  repeat (go_big_quiet_step (fail))
  refine wpQuiet_nil ?_
  intro _ hw'
  obtain ⟨⟨dz, osz⟩, hw''⟩ := hw'
  subst hw''
  have hB1 := hBR dz osz
  have HS1 := Lib.hid (HS0.out.below hB1)
  have hA1 := Lib.hid (hA0.out.below hB1)
  have HO1 := Lib.hid (HO0.out.call hB1)
  clear r0 r1 r2 hBR hB1 p0 p1 p2 HS0 hA0 HO0
  generalize Go.Sort.grow (redrawn w0 dz) osz = w1 at HS1 hA1 HO1 ⊢
  obtain ⟨p0, p1, p2, pf⟩ := HS1.out.psr.cells
  rw [HNT.out] at p0
  obtain ⟨g', hg', _, hgl, k0, k1, k2⟩ := HTK.out w1 HS1.out.tks
  cases hg'
  have hbl := HS1.out.lt
  simp only at k0 k1 k2
  go_upto_region 3 with fail
  go_cut [3] (fun v3 wx => v3 = .pointer (some ⟨w1.heap.size, 0, none⟩) ∧ wx = (w1.alloc (.cells #[.int .i64 1, .string ⟨(txt u).toArray⟩, .int .i64 (ax : Int)] 89)).drew)
  case first =>
    go_region_with (fail)
    all_goals go_wp2_with fail
    all_goals go_meet
    all_goals exact ⟨rfl, rfl⟩
  case rest =>
    obtain ⟨hv, hw⟩ := hcut
    subst hv
    subst hw
    have HT2 : Hid (BlkC (w1.alloc (.cells #[.int .i64 1, .string ⟨(txt u).toArray⟩, .int .i64 (ax : Int)] 89)).drew w1.heap.size #[.int .i64 1, .string ⟨(txt u).toArray⟩, .int .i64 (ax : Int)] 89) := heap_alloc_new w1 _
    have hB2 : Below w1.heap.size w1 (w1.alloc (.cells #[.int .i64 1, .string ⟨(txt u).toArray⟩, .int .i64 (ax : Int)] 89)).drew := Below.drew ((Below.refl _ _).alloc (Nat.le_refl _) _)
    have HP2 := Lib.hid (HS1.out.psr.below hB2)
    have hA2 := Lib.hid (hA1.out.below hB2)
    have HO2 := Lib.hid (HO1.out.call hB2)
    have hG : w.heap.size < w1.heap.size := lt_some hA1.out
    have hGb : w1.heap.size ≠ b := by omega
    rw [HNT.out] at HP2
    clear hB2 HS1 hA1 HO1 p0 p1 p2 pf k0 k1 k2 hgl hbl HTK
    generalize (w1.alloc (.cells #[.int .i64 1, .string ⟨(txt u).toArray⟩, .int .i64 (ax : Int)] 89)).drew = w2 at HT2 HP2 hA2 HO2 ⊢
    generalize w1.heap.size = G at HT2 hG hGb ⊢
    obtain ⟨_, p1, _, pf⟩ := HP2.out.cells
    have f1 : IntKind.i64.wrap ((i : Int) + 1) = (i : Int) + 1 := IntWalk.i64_in _ (by omega)
    go_upto_region 5 with fail
    have HP3 : Hid (Psr (w2.setCell ⟨b, 1, none⟩ (.int .i64 ((i : Int) + 1))) b (some ⟨g, 0, none⟩) nT cT (i + 1)) := HP2.out.setz ((i : Int) + 1) (i + 1) (by omega)
    have HO3 := Lib.hid (HO2.out.set 1 (.int .i64 ((i : Int) + 1)))
    have HT3 : Hid (BlkC (w2.setCell ⟨b, 1, none⟩ (.int .i64 ((i : Int) + 1))) G #[.int .i64 1, .string ⟨(txt u).toArray⟩, .int .i64 (ax : Int)] 89) := (heap_setCell_other _ _ _ _ hGb).trans HT2.out
    have hA3 : Hid (BlkC (w2.setCell ⟨b, 1, none⟩ (.int .i64 ((i : Int) + 1))) w.heap.size (Cel.ndA nodeZ none 0 0) Cel.tPn) := (heap_setCell_other _ _ _ _ (show w.heap.size ≠ b by omega)).trans hA2.out
    clear HP2 HO2 HT2 hA2 p1 pf f1
    generalize w2.setCell ⟨b, 1, none⟩ (.int .i64 ((i : Int) + 1)) = w3 at HP3 HO3 HT3 hA3 ⊢
    have HS3 := Lib.hid (HSW.out.off HO3.out (by rw [HNT.out]; exact HP3.out))
    have c0 : w3.cell? ⟨G, 0, none⟩ = some (.int .i64 1) := HT3.out.cell 0 _ rfl
    have c1 : w3.cell? ⟨G, 1, none⟩ = some (.string ⟨(txt u).toArray⟩) := HT3.out.cell 1 _ rfl
    go_wp2_with fail
    refine (HDP.out w3 HS3.out.shaped).mono ?_
    rintro e w4 ⟨rfl, hb4⟩
    have HP4 := Lib.hid (HP3.out.below hb4)
    have hA4 := Lib.hid (hA3.out.below hb4)
    have HO4 := Lib.hid (HO3.out.call hb4)
    clear hb4 HP3 hA3 HO3 HT3 HS3 c0 c1
    go_upto_region 10 with fail
    refine wp_region_lit ?_
    refine wpList_plain rfl fun K hK => ?_
    go_simp
    refine hK _ _ ?_
    clear hK K
    refine wpList_plain rfl fun K hK => ?_
    go_simp
    refine hK _ _ ?_
    clear hK K
    refine wpList_store_mid (by rfl) _ _ _ (by rfl) w.heap.size 0 #[.int .i64 1, .int .i64 u, .string ⟨#[]⟩, .int .i64 0, .int .i64 0, .int .i64 0, .int .i64 0, .slice none 0 0] (by rfl) (by rfl) (block_there hA4.out 8 (Nat.le_refl _)) (by kernel_rfl) (by simp [Value.oneCell']) ?_
    obtain ⟨hs8, hf8⟩ := res_store (n := (.mk 1 u [] 0 0 [])) (p := none) (l := 0) (cp := 0) hA4.out rfl HP4.out HO4.out hbw rfl (fun d _ => rdp_leaf _ _ rfl _ d)
    have HS8 := Lib.hid hs8
    have HF8 := Lib.hid hf8
    clear hs8 hf8
    have e8 : w4.setCells w.heap.size 0 (#[.int .i64 1, .int .i64 u, .string ⟨#[]⟩, .int .i64 0, .int .i64 0, .int .i64 0, .int .i64 0, .slice none 0 0]).toList = w4.setCells w.heap.size 0 (Cel.ndA (.mk 1 u [] 0 0 []) none 0 0).toList := rfl
    rw [e8]
    clear e8
    generalize w4.setCells w.heap.size 0 (Cel.ndA (.mk 1 u [] 0 0 []) none 0 0).toList = w9 at HS8 HF8 ⊢
    go_simp
    iterate 3 (first | go_values | go_skip | go_guarded | go_step | go_upon)
    apply wp_ret
    try simp only [Exit.inBlock, Exit.then]
    exact bodyPost_ret (results_cell_row rfl _ _ w.heap.size Cel.tPn (Cel.ndA (.mk 1 u [] 0 0 []) none 0 0) (0, 0) _ rfl HS8.out Tryz.underlying34 rfl (by kernel_rfl)) rfl HF8.out
set_option maxRecDepth 100000 in
set_option maxHeartbeats 8000000 in
theorem pr_txt1 (t : Bs) : PrC (.mk 2 0 t 0 0 []) := by
  intro ws w b q cT i Ts rest hst hat hrs
  rw [show tkN nmS (.mk 2 0 t 0 0 []) 5 = [(2, t)] from by rw [tkN_split, if_neg (by show ¬ (6 : Int) < 5; omega), tk_txt']] at hat ⊢
  have hat' : At Ts i ((2, t) :: rest) := hat
  obtain ⟨⟨kx, tx, ax⟩, hy1, hy2, hat1⟩ := hat'.get
  obtain ⟨rfl, rfl⟩ : 2 = kx ∧ t = tx := by
    have e : (kx, tx) = ((2 : Int), (t : Bs)) := hy2
    exact ⟨(congrArg Prod.fst e).symm, (congrArg Prod.snd e).symm⟩
  obtain ⟨g, rfl, hgb, _, _, _, _⟩ := hst.tks.at hy1
  have hile := hat'.le
  have hle := hst.len
  have HTK := Lib.hid (fun W (h : TkR W b (some ⟨g, 0, none⟩) Ts) => h.at hy1)
  have hA0 : Hid (BlkC (w.alloc (.cells (Cel.ndA nodeZ none 0 0) Cel.tPn)) w.heap.size (Cel.ndA nodeZ none 0 0) Cel.tPn) := heap_alloc_new w _
  have hAB : Below w.heap.size w (w.alloc (.cells (Cel.ndA nodeZ none 0 0) Cel.tPn)) := by (repeat' (first | (with_reducible exact Below.refl _ _) | (with_reducible assumption) | (with_reducible refine Below.alloc ?_ ?_ _) | (with_reducible refine bel_drewN ?_ _) | (with_reducible refine Below.drew ?_) | (with_reducible refine Below.setCell ?_ ?_ _) | (with_reducible refine bel_call ‹_› ?_ ?_) | go_size))
  have HS0 := Lib.hid (hst.below hAB)
  have HO0 := Lib.hid (Off.of_below (b := b) hAB)
  have hbw := hst.lt
  have HSW := Lib.hid hst
  have hin : (i : Int) < (Ts.length : Int) := by omega
  obtain ⟨nT, hnT⟩ : ∃ n, Ts.length = n := ⟨_, rfl⟩
  have HNT := Lib.hid hnT
  rw [hnT] at  hle hile hin ⊢
  clear hnT
  clear hst hAB
  go_enter Tryz.func76, Tryz.ntmps76
  go_upto_region 1 with fail
  have e0 : w.alloc (.cells #[.int .i64 0, .int .i64 0, .string ⟨#[]⟩, .int .i64 0, .int .i64 0, .int .i64 0, .int .i64 0, .slice none 0 0] Cel.tPn) = w.alloc (.cells (Cel.ndA nodeZ none 0 0) Cel.tPn) := rfl
  rw [e0]
  clear e0
  generalize w.alloc (.cells (Cel.ndA nodeZ none 0 0) Cel.tPn) = w0 at hA0 HS0 HO0 ⊢
  obtain ⟨p0, p1, p2, _⟩ := HS0.out.psr.cells
  rw [HNT.out] at p0
  have r0 := cell_regrown p0
  have r1 := cell_regrown p1
  have r2 := cell_regrown p2
  have hBR : ∀ dd os, Below w0.heap.size w0 (Go.Sort.grow (redrawn w0 dd) os) := fun dd os => below_regrown w0 dd os
  refine wp_region_quiet_below (by kernel_rfl) (by kernel_rfl) ?_
  repeat (go_big_quiet_step (fail))
  refine wpQuiet_nil ?_
  intro _ hw'
  obtain ⟨⟨dz, osz⟩, hw''⟩ := hw'
  subst hw''
  have hB1 := hBR dz osz
  have HS1 := Lib.hid (HS0.out.below hB1)
  have hA1 := Lib.hid (hA0.out.below hB1)
  have HO1 := Lib.hid (HO0.out.call hB1)
  clear r0 r1 r2 hBR hB1 p0 p1 p2 HS0 hA0 HO0
  generalize Go.Sort.grow (redrawn w0 dz) osz = w1 at HS1 hA1 HO1 ⊢
  obtain ⟨p0, p1, p2, pf⟩ := HS1.out.psr.cells
  rw [HNT.out] at p0
  obtain ⟨g', hg', _, hgl, k0, k1, k2⟩ := HTK.out w1 HS1.out.tks
  cases hg'
  have hbl := HS1.out.lt
  simp only at k0 k1 k2
  go_upto_region 3 with fail
  go_cut [3] (fun v3 wx => v3 = .pointer (some ⟨w1.heap.size, 0, none⟩) ∧ wx = (w1.alloc (.cells #[.int .i64 2, .string ⟨(t).toArray⟩, .int .i64 (ax : Int)] 89)).drew)
  case first =>
    go_region_with (fail)
    all_goals go_wp2_with fail
    all_goals go_meet
    all_goals exact ⟨rfl, rfl⟩
  case rest =>
    obtain ⟨hv, hw⟩ := hcut
    subst hv
    subst hw
    have HT2 : Hid (BlkC (w1.alloc (.cells #[.int .i64 2, .string ⟨(t).toArray⟩, .int .i64 (ax : Int)] 89)).drew w1.heap.size #[.int .i64 2, .string ⟨(t).toArray⟩, .int .i64 (ax : Int)] 89) := heap_alloc_new w1 _
    have hB2 : Below w1.heap.size w1 (w1.alloc (.cells #[.int .i64 2, .string ⟨(t).toArray⟩, .int .i64 (ax : Int)] 89)).drew := Below.drew ((Below.refl _ _).alloc (Nat.le_refl _) _)
    have HP2 := Lib.hid (HS1.out.psr.below hB2)
    have hA2 := Lib.hid (hA1.out.below hB2)
    have HO2 := Lib.hid (HO1.out.call hB2)
    have hG : w.heap.size < w1.heap.size := lt_some hA1.out
    have hGb : w1.heap.size ≠ b := by omega
    rw [HNT.out] at HP2
    clear hB2 HS1 hA1 HO1 p0 p1 p2 pf k0 k1 k2 hgl hbl HTK
    generalize (w1.alloc (.cells #[.int .i64 2, .string ⟨(t).toArray⟩, .int .i64 (ax : Int)] 89)).drew = w2 at HT2 HP2 hA2 HO2 ⊢
    generalize w1.heap.size = G at HT2 hG hGb ⊢
    obtain ⟨_, p1, _, pf⟩ := HP2.out.cells
    have f1 : IntKind.i64.wrap ((i : Int) + 1) = (i : Int) + 1 := IntWalk.i64_in _ (by omega)
    go_upto_region 5 with fail
    have HP3 : Hid (Psr (w2.setCell ⟨b, 1, none⟩ (.int .i64 ((i : Int) + 1))) b (some ⟨g, 0, none⟩) nT cT (i + 1)) := HP2.out.setz ((i : Int) + 1) (i + 1) (by omega)
    have HO3 := Lib.hid (HO2.out.set 1 (.int .i64 ((i : Int) + 1)))
    have HT3 : Hid (BlkC (w2.setCell ⟨b, 1, none⟩ (.int .i64 ((i : Int) + 1))) G #[.int .i64 2, .string ⟨(t).toArray⟩, .int .i64 (ax : Int)] 89) := (heap_setCell_other _ _ _ _ hGb).trans HT2.out
    have hA3 : Hid (BlkC (w2.setCell ⟨b, 1, none⟩ (.int .i64 ((i : Int) + 1))) w.heap.size (Cel.ndA nodeZ none 0 0) Cel.tPn) := (heap_setCell_other _ _ _ _ (show w.heap.size ≠ b by omega)).trans hA2.out
    clear HP2 HO2 HT2 hA2 p1 pf f1
    generalize w2.setCell ⟨b, 1, none⟩ (.int .i64 ((i : Int) + 1)) = w3 at HP3 HO3 HT3 hA3 ⊢
    have HS3 := Lib.hid (HSW.out.off HO3.out (by rw [HNT.out]; exact HP3.out))
    have c0 : w3.cell? ⟨G, 0, none⟩ = some (.int .i64 2) := HT3.out.cell 0 _ rfl
    have c1 : w3.cell? ⟨G, 1, none⟩ = some (.string ⟨(t).toArray⟩) := HT3.out.cell 1 _ rfl
    have HP4 := HP3
    have hA4 := hA3
    have HO4 := HO3
    go_upto_region 12 with fail
    refine wp_region_lit ?_
    refine wpList_plain rfl fun K hK => ?_
    go_simp
    refine hK _ _ ?_
    clear hK K
    refine wpList_plain rfl fun K hK => ?_
    go_simp
    refine hK _ _ ?_
    clear hK K
    refine wpList_plain rfl fun K hK => ?_
    go_simp
    refine hK _ _ ?_
    clear hK K
    refine wpList_store_mid (by rfl) _ _ _ (by rfl) w.heap.size 0 #[.int .i64 2, .int .i64 0, .string ⟨t.toArray⟩, .int .i64 0, .int .i64 0, .int .i64 0, .int .i64 0, .slice none 0 0] (by rfl) (by rfl) (block_there hA4.out 8 (Nat.le_refl _)) (by kernel_rfl) (by simp [Value.oneCell']) ?_
    obtain ⟨hs8, hf8⟩ := res_store (n := (.mk 2 0 t 0 0 [])) (p := none) (l := 0) (cp := 0) hA4.out rfl HP4.out HO4.out hbw rfl (fun d _ => rdp_leaf _ _ rfl _ d)
    have HS8 := Lib.hid hs8
    have HF8 := Lib.hid hf8
    clear hs8 hf8
    have e8 : w3.setCells w.heap.size 0 (#[.int .i64 2, .int .i64 0, .string ⟨t.toArray⟩, .int .i64 0, .int .i64 0, .int .i64 0, .int .i64 0, .slice none 0 0]).toList = w3.setCells w.heap.size 0 (Cel.ndA (.mk 2 0 t 0 0 []) none 0 0).toList := rfl
    rw [e8]
    clear e8
    generalize w3.setCells w.heap.size 0 (Cel.ndA (.mk 2 0 t 0 0 []) none 0 0).toList = w9 at HS8 HF8 ⊢
    go_simp
    iterate 3 (first | go_values | go_skip | go_guarded | go_step | go_upon)
    apply wp_ret
    try simp only [Exit.inBlock, Exit.then]
    exact bodyPost_ret (results_cell_row rfl _ _ w.heap.size Cel.tPn (Cel.ndA (.mk 2 0 t 0 0 []) none 0 0) (0, 0) _ rfl HS8.out Tryz.underlying34 rfl (by kernel_rfl)) rfl HF8.out
set_option maxRecDepth 100000 in
set_option maxHeartbeats 8000000 in
theorem pr_flt1  : PrC (.mk 8 0 [] 0 0 []) := by
  intro ws w b q cT i Ts rest hst hat hrs
  rw [show tkN nmS (.mk 8 0 [] 0 0 []) 5 = [(5, refBs)] from by rw [tkN_split, if_neg (by show ¬ (6 : Int) < 5; omega), tk_flt']] at hat ⊢
  have hat' : At Ts i ((5, refBs) :: rest) := hat
  obtain ⟨⟨kx, tx, ax⟩, hy1, hy2, hat1⟩ := hat'.get
  obtain ⟨rfl, rfl⟩ : 5 = kx ∧ refBs = tx := by
    have e : (kx, tx) = ((5 : Int), (refBs : Bs)) := hy2
    exact ⟨(congrArg Prod.fst e).symm, (congrArg Prod.snd e).symm⟩
  obtain ⟨g, rfl, hgb, _, _, _, _⟩ := hst.tks.at hy1
  have hile := hat'.le
  have hle := hst.len
  have HTK := Lib.hid (fun W (h : TkR W b (some ⟨g, 0, none⟩) Ts) => h.at hy1)
  have hA0 : Hid (BlkC (w.alloc (.cells (Cel.ndA nodeZ none 0 0) Cel.tPn)) w.heap.size (Cel.ndA nodeZ none 0 0) Cel.tPn) := heap_alloc_new w _
  have hAB : Below w.heap.size w (w.alloc (.cells (Cel.ndA nodeZ none 0 0) Cel.tPn)) := by (repeat' (first | (with_reducible exact Below.refl _ _) | (with_reducible assumption) | (with_reducible refine Below.alloc ?_ ?_ _) | (with_reducible refine bel_drewN ?_ _) | (with_reducible refine Below.drew ?_) | (with_reducible refine Below.setCell ?_ ?_ _) | (with_reducible refine bel_call ‹_› ?_ ?_) | go_size))
  have HS0 := Lib.hid (hst.below hAB)
  have HO0 := Lib.hid (Off.of_below (b := b) hAB)
  have hbw := hst.lt
  have HSW := Lib.hid hst
  have hin : (i : Int) < (Ts.length : Int) := by omega
  obtain ⟨nT, hnT⟩ : ∃ n, Ts.length = n := ⟨_, rfl⟩
  have HNT := Lib.hid hnT
  rw [hnT] at  hle hile hin ⊢
  clear hnT
  clear hst hAB
  go_enter Tryz.func76, Tryz.ntmps76
  go_upto_region 1 with fail
  have e0 : w.alloc (.cells #[.int .i64 0, .int .i64 0, .string ⟨#[]⟩, .int .i64 0, .int .i64 0, .int .i64 0, .int .i64 0, .slice none 0 0] Cel.tPn) = w.alloc (.cells (Cel.ndA nodeZ none 0 0) Cel.tPn) := rfl
  rw [e0]
  clear e0
  generalize w.alloc (.cells (Cel.ndA nodeZ none 0 0) Cel.tPn) = w0 at hA0 HS0 HO0 ⊢
  obtain ⟨p0, p1, p2, _⟩ := HS0.out.psr.cells
  rw [HNT.out] at p0
  have r0 := cell_regrown p0
  have r1 := cell_regrown p1
  have r2 := cell_regrown p2
  have hBR : ∀ dd os, Below w0.heap.size w0 (Go.Sort.grow (redrawn w0 dd) os) := fun dd os => below_regrown w0 dd os
  refine wp_region_quiet_below (by kernel_rfl) (by kernel_rfl) ?_
  repeat (go_big_quiet_step (fail))
  refine wpQuiet_nil ?_
  intro _ hw'
  obtain ⟨⟨dz, osz⟩, hw''⟩ := hw'
  subst hw''
  have hB1 := hBR dz osz
  have HS1 := Lib.hid (HS0.out.below hB1)
  have hA1 := Lib.hid (hA0.out.below hB1)
  have HO1 := Lib.hid (HO0.out.call hB1)
  clear r0 r1 r2 hBR hB1 p0 p1 p2 HS0 hA0 HO0
  generalize Go.Sort.grow (redrawn w0 dz) osz = w1 at HS1 hA1 HO1 ⊢
  obtain ⟨p0, p1, p2, pf⟩ := HS1.out.psr.cells
  rw [HNT.out] at p0
  obtain ⟨g', hg', _, hgl, k0, k1, k2⟩ := HTK.out w1 HS1.out.tks
  cases hg'
  have hbl := HS1.out.lt
  simp only at k0 k1 k2
  go_upto_region 3 with fail
  go_cut [3] (fun v3 wx => v3 = .pointer (some ⟨w1.heap.size, 0, none⟩) ∧ wx = (w1.alloc (.cells #[.int .i64 5, .string ⟨(refBs).toArray⟩, .int .i64 (ax : Int)] 89)).drew)
  case first =>
    go_region_with (fail)
    all_goals go_wp2_with fail
    all_goals go_meet
    all_goals exact ⟨rfl, rfl⟩
  case rest =>
    obtain ⟨hv, hw⟩ := hcut
    subst hv
    subst hw
    have HT2 : Hid (BlkC (w1.alloc (.cells #[.int .i64 5, .string ⟨(refBs).toArray⟩, .int .i64 (ax : Int)] 89)).drew w1.heap.size #[.int .i64 5, .string ⟨(refBs).toArray⟩, .int .i64 (ax : Int)] 89) := heap_alloc_new w1 _
    have hB2 : Below w1.heap.size w1 (w1.alloc (.cells #[.int .i64 5, .string ⟨(refBs).toArray⟩, .int .i64 (ax : Int)] 89)).drew := Below.drew ((Below.refl _ _).alloc (Nat.le_refl _) _)
    have HP2 := Lib.hid (HS1.out.psr.below hB2)
    have hA2 := Lib.hid (hA1.out.below hB2)
    have HO2 := Lib.hid (HO1.out.call hB2)
    have hG : w.heap.size < w1.heap.size := lt_some hA1.out
    have hGb : w1.heap.size ≠ b := by omega
    rw [HNT.out] at HP2
    clear hB2 HS1 hA1 HO1 p0 p1 p2 pf k0 k1 k2 hgl hbl HTK
    generalize (w1.alloc (.cells #[.int .i64 5, .string ⟨(refBs).toArray⟩, .int .i64 (ax : Int)] 89)).drew = w2 at HT2 HP2 hA2 HO2 ⊢
    generalize w1.heap.size = G at HT2 hG hGb ⊢
    obtain ⟨_, p1, _, pf⟩ := HP2.out.cells
    have f1 : IntKind.i64.wrap ((i : Int) + 1) = (i : Int) + 1 := IntWalk.i64_in _ (by omega)
    go_upto_region 5 with fail
    have HP3 : Hid (Psr (w2.setCell ⟨b, 1, none⟩ (.int .i64 ((i : Int) + 1))) b (some ⟨g, 0, none⟩) nT cT (i + 1)) := HP2.out.setz ((i : Int) + 1) (i + 1) (by omega)
    have HO3 := Lib.hid (HO2.out.set 1 (.int .i64 ((i : Int) + 1)))
    have HT3 : Hid (BlkC (w2.setCell ⟨b, 1, none⟩ (.int .i64 ((i : Int) + 1))) G #[.int .i64 5, .string ⟨(refBs).toArray⟩, .int .i64 (ax : Int)] 89) := (heap_setCell_other _ _ _ _ hGb).trans HT2.out
    have hA3 : Hid (BlkC (w2.setCell ⟨b, 1, none⟩ (.int .i64 ((i : Int) + 1))) w.heap.size (Cel.ndA nodeZ none 0 0) Cel.tPn) := (heap_setCell_other _ _ _ _ (show w.heap.size ≠ b by omega)).trans hA2.out
    clear HP2 HO2 HT2 hA2 p1 pf f1
    generalize w2.setCell ⟨b, 1, none⟩ (.int .i64 ((i : Int) + 1)) = w3 at HP3 HO3 HT3 hA3 ⊢
    have HS3 := Lib.hid (HSW.out.off HO3.out (by rw [HNT.out]; exact HP3.out))
    have c0 : w3.cell? ⟨G, 0, none⟩ = some (.int .i64 5) := HT3.out.cell 0 _ rfl
    have c1 : w3.cell? ⟨G, 1, none⟩ = some (.string ⟨(refBs).toArray⟩) := HT3.out.cell 1 _ rfl
    have HP4 := HP3
    have hA4 := hA3
    have HO4 := HO3
    go_upto_region 14 with fail
    refine wp_region_lit ?_
    refine wpList_plain rfl fun K hK => ?_
    go_simp
    refine hK _ _ ?_
    clear hK K
    refine wpList_store_mid (by rfl) _ _ _ (by rfl) w.heap.size 0 #[.int .i64 8, .int .i64 0, .string ⟨#[]⟩, .int .i64 0, .int .i64 0, .int .i64 0, .int .i64 0, .slice none 0 0] (by rfl) (by rfl) (block_there hA4.out 8 (Nat.le_refl _)) (by kernel_rfl) (by simp [Value.oneCell']) ?_
    obtain ⟨hs8, hf8⟩ := res_store (n := (.mk 8 0 [] 0 0 [])) (p := none) (l := 0) (cp := 0) hA4.out rfl HP4.out HO4.out hbw rfl (fun d _ => rdp_leaf _ _ rfl _ d)
    have HS8 := Lib.hid hs8
    have HF8 := Lib.hid hf8
    clear hs8 hf8
    have e8 : w3.setCells w.heap.size 0 (#[.int .i64 8, .int .i64 0, .string ⟨#[]⟩, .int .i64 0, .int .i64 0, .int .i64 0, .int .i64 0, .slice none 0 0]).toList = w3.setCells w.heap.size 0 (Cel.ndA (.mk 8 0 [] 0 0 []) none 0 0).toList := rfl
    rw [e8]
    clear e8
    generalize w3.setCells w.heap.size 0 (Cel.ndA (.mk 8 0 [] 0 0 []) none 0 0).toList = w9 at HS8 HF8 ⊢
    go_simp
    iterate 3 (first | go_values | go_skip | go_guarded | go_step | go_upon)
    apply wp_ret
    try simp only [Exit.inBlock, Exit.then]
    exact bodyPost_ret (results_cell_row rfl _ _ w.heap.size Cel.tPn (Cel.ndA (.mk 8 0 [] 0 0 []) none 0 0) (0, 0) _ rfl HS8.out Tryz.underlying34 rfl (by kernel_rfl)) rfl HF8.out
end Go.Proofs.YtigmcoelkkihkaaGreatDoor
namespace Go.Proofs.YtigmcoelkkihkaaGreatDoor
open Go.RowKit Go.Joins

set_option maxRecDepth 100000 in
set_option maxHeartbeats 8000000 in
theorem pr_br (t : Bs) (a c : Nd) (ht : 1 ≤ lvS t) (IH : BinC (Nd.mk 6 0 t 0 0 [a, c]) 1) : PrC (Nd.mk 6 0 t 0 0 [a, c]) := by
  intro ws w b q cT i Ts rest hst hat hrs
  rw [show tkN nmS (Nd.mk 6 0 t 0 0 [a, c]) 5 = (4, [40]) :: (tkN nmS (Nd.mk 6 0 t 0 0 [a, c]) 1 ++ [(4, [41])]) from by rw [tkN_split, if_pos (by have := lvS_pos t; show lvS t < 5; omega), tkN_split nmS _ 1, if_neg (by show ¬ lvS t < 1; omega)]] at hat ⊢
  have hat' : At Ts i ((4, [40]) :: (tkN nmS (Nd.mk 6 0 t 0 0 [a, c]) 1 ++ ((4, [41]) :: rest))) := by simpa using hat
  obtain ⟨⟨kx, tx, ax⟩, hy1, hy2, hat1⟩ := hat'.get
  obtain ⟨rfl, rfl⟩ : 4 = kx ∧ [40] = tx := by
    have e : (kx, tx) = ((4 : Int), ([40] : Bs)) := hy2
    exact ⟨(congrArg Prod.fst e).symm, (congrArg Prod.snd e).symm⟩
  obtain ⟨g, rfl, hgb, _, _, _, _⟩ := hst.tks.at hy1
  have hile := hat'.le
  have hle := hst.len
  have HTK := Lib.hid (fun W (h : TkR W b (some ⟨g, 0, none⟩) Ts) => h.at hy1)
  have hA0 : Hid (BlkC (w.alloc (.cells (Cel.ndA nodeZ none 0 0) Cel.tPn)) w.heap.size (Cel.ndA nodeZ none 0 0) Cel.tPn) := heap_alloc_new w _
  have hAB : Below w.heap.size w (w.alloc (.cells (Cel.ndA nodeZ none 0 0) Cel.tPn)) := by (repeat' (first | (with_reducible exact Below.refl _ _) | (with_reducible assumption) | (with_reducible refine Below.alloc ?_ ?_ _) | (with_reducible refine bel_drewN ?_ _) | (with_reducible refine Below.drew ?_) | (with_reducible refine Below.setCell ?_ ?_ _) | (with_reducible refine bel_call ‹_› ?_ ?_) | go_size))
  have HS0 := Lib.hid (hst.below hAB)
  have HO0 := Lib.hid (Off.of_below (b := b) hAB)
  have hbw := hst.lt
  have HSW := Lib.hid hst
  have HUN := Lib.hid (fun W (h : PSt ws W b (some ⟨g, 0, none⟩) Ts cT (i + 1)) => IH ws W b (some ⟨g, 0, none⟩) cT (i + 1) Ts ((4, [41]) :: rest) h hat1 (rest_shut 1 rest))
  have hat2 := At.app hat1
  have hib : isB Ts (i + 1 + (tkN nmS (Nd.mk 6 0 t 0 0 [a, c]) 1).length) [41] = true := by rw [isB_head hat2]; rfl
  have HIS := Lib.hid (fun W (h : PSt ws W b (some ⟨g, 0, none⟩) Ts cT (i + 1 + (tkN nmS (Nd.mk 6 0 t 0 0 [a, c]) 1).length)) => is_any b (some ⟨g, 0, none⟩) cT _ Ts [41] W h.psr h.tks h.len)
  rw [hib] at HIS
  have HK := Lib.hid (show i + 1 + (tkN nmS (Nd.mk 6 0 t 0 0 [a, c]) 1).length + 1 = i + ((4, [40]) :: (tkN nmS (Nd.mk 6 0 t 0 0 [a, c]) 1 ++ [(4, [41])])).length from by simp; omega)
  generalize ((4, [40]) :: (tkN nmS (Nd.mk 6 0 t 0 0 [a, c]) 1 ++ [(4, [41])])).length = kk at HK ⊢
  generalize (tkN nmS (Nd.mk 6 0 t 0 0 [a, c]) 1).length = k at HK HUN HIS hat2 hib
  generalize (Nd.mk 6 0 t 0 0 [a, c]) = n at HUN HIS IH ⊢
  have hin : (i : Int) < (Ts.length : Int) := by omega
  obtain ⟨nT, hnT⟩ : ∃ n, Ts.length = n := ⟨_, rfl⟩
  have HNT := Lib.hid hnT
  rw [hnT] at HUN HIS hle hile hin ⊢
  clear hnT
  clear hst hAB
  go_enter Tryz.func76, Tryz.ntmps76
  go_upto_region 1 with fail
  have e0 : w.alloc (.cells #[.int .i64 0, .int .i64 0, .string ⟨#[]⟩, .int .i64 0, .int .i64 0, .int .i64 0, .int .i64 0, .slice none 0 0] Cel.tPn) = w.alloc (.cells (Cel.ndA nodeZ none 0 0) Cel.tPn) := rfl
  rw [e0]
  clear e0
  generalize w.alloc (.cells (Cel.ndA nodeZ none 0 0) Cel.tPn) = w0 at hA0 HS0 HO0 ⊢
  obtain ⟨p0, p1, p2, _⟩ := HS0.out.psr.cells
  rw [HNT.out] at p0
  have r0 := cell_regrown p0
  have r1 := cell_regrown p1
  have r2 := cell_regrown p2
  have hBR : ∀ dd os, Below w0.heap.size w0 (Go.Sort.grow (redrawn w0 dd) os) := fun dd os => below_regrown w0 dd os
  refine wp_region_quiet_below (by kernel_rfl) (by kernel_rfl) ?_
  repeat (go_big_quiet_step (fail))
  refine wpQuiet_nil ?_
  intro _ hw'
  obtain ⟨⟨dz, osz⟩, hw''⟩ := hw'
  subst hw''
  have hB1 := hBR dz osz
  have HS1 := Lib.hid (HS0.out.below hB1)
  have hA1 := Lib.hid (hA0.out.below hB1)
  have HO1 := Lib.hid (HO0.out.call hB1)
  clear r0 r1 r2 hBR hB1 p0 p1 p2 HS0 hA0 HO0
  generalize Go.Sort.grow (redrawn w0 dz) osz = w1 at HS1 hA1 HO1 ⊢
  obtain ⟨p0, p1, p2, pf⟩ := HS1.out.psr.cells
  rw [HNT.out] at p0
  obtain ⟨g', hg', _, hgl, k0, k1, k2⟩ := HTK.out w1 HS1.out.tks
  cases hg'
  have hbl := HS1.out.lt
  simp only at k0 k1 k2
  go_upto_region 3 with fail
  go_cut [3] (fun v3 wx => v3 = .pointer (some ⟨w1.heap.size, 0, none⟩) ∧ wx = (w1.alloc (.cells #[.int .i64 4, .string ⟨([40]).toArray⟩, .int .i64 (ax : Int)] 89)).drew)
  case first =>
    go_region_with (fail)
    all_goals go_wp2_with fail
    all_goals go_meet
    all_goals exact ⟨rfl, rfl⟩
  case rest =>
    obtain ⟨hv, hw⟩ := hcut
    subst hv
    subst hw
    have HT2 : Hid (BlkC (w1.alloc (.cells #[.int .i64 4, .string ⟨([40]).toArray⟩, .int .i64 (ax : Int)] 89)).drew w1.heap.size #[.int .i64 4, .string ⟨([40]).toArray⟩, .int .i64 (ax : Int)] 89) := heap_alloc_new w1 _
    have hB2 : Below w1.heap.size w1 (w1.alloc (.cells #[.int .i64 4, .string ⟨([40]).toArray⟩, .int .i64 (ax : Int)] 89)).drew := Below.drew ((Below.refl _ _).alloc (Nat.le_refl _) _)
    have HP2 := Lib.hid (HS1.out.psr.below hB2)
    have hA2 := Lib.hid (hA1.out.below hB2)
    have HO2 := Lib.hid (HO1.out.call hB2)
    have hG : w.heap.size < w1.heap.size := lt_some hA1.out
    have hGb : w1.heap.size ≠ b := by omega
    rw [HNT.out] at HP2
    clear hB2 HS1 hA1 HO1 p0 p1 p2 pf k0 k1 k2 hgl hbl HTK
    generalize (w1.alloc (.cells #[.int .i64 4, .string ⟨([40]).toArray⟩, .int .i64 (ax : Int)] 89)).drew = w2 at HT2 HP2 hA2 HO2 ⊢
    generalize w1.heap.size = G at HT2 hG hGb ⊢
    obtain ⟨_, p1, _, pf⟩ := HP2.out.cells
    have f1 : IntKind.i64.wrap ((i : Int) + 1) = (i : Int) + 1 := IntWalk.i64_in _ (by omega)
    go_upto_region 5 with fail
    have HP3 : Hid (Psr (w2.setCell ⟨b, 1, none⟩ (.int .i64 ((i : Int) + 1))) b (some ⟨g, 0, none⟩) nT cT (i + 1)) := HP2.out.setz ((i : Int) + 1) (i + 1) (by omega)
    have HO3 := Lib.hid (HO2.out.set 1 (.int .i64 ((i : Int) + 1)))
    have HT3 : Hid (BlkC (w2.setCell ⟨b, 1, none⟩ (.int .i64 ((i : Int) + 1))) G #[.int .i64 4, .string ⟨([40]).toArray⟩, .int .i64 (ax : Int)] 89) := (heap_setCell_other _ _ _ _ hGb).trans HT2.out
    have hA3 : Hid (BlkC (w2.setCell ⟨b, 1, none⟩ (.int .i64 ((i : Int) + 1))) w.heap.size (Cel.ndA nodeZ none 0 0) Cel.tPn) := (heap_setCell_other _ _ _ _ (show w.heap.size ≠ b by omega)).trans hA2.out
    clear HP2 HO2 HT2 hA2 p1 pf f1
    generalize w2.setCell ⟨b, 1, none⟩ (.int .i64 ((i : Int) + 1)) = w3 at HP3 HO3 HT3 hA3 ⊢
    have HS3 := Lib.hid (HSW.out.off HO3.out (by rw [HNT.out]; exact HP3.out))
    have c0 : w3.cell? ⟨G, 0, none⟩ = some (.int .i64 4) := HT3.out.cell 0 _ rfl
    have c1 : w3.cell? ⟨G, 1, none⟩ = some (.string ⟨([40]).toArray⟩) := HT3.out.cell 1 _ rfl
    go_wp2_with fail
    refine (HUN.out w3 HS3.out).mono ?_
    rintro e w4 ⟨⟨p, cap, rfl, hk⟩, hp4, ho4⟩
    rename_i KK aK
    go_simp
    refine aK _ _ ?_
    clear aK
    obtain ⟨l, hl⟩ : ∃ l, n.args.length = l := ⟨_, rfl⟩
    rw [hl] at hk ⊢
    have hs3 : w.heap.size < w3.heap.size := lt_some hA3.out
    have hA4 := Lib.hid (ho4.bc (by omega) hA3.out)
    have HP4 := Lib.hid hp4
    have HO4 := Lib.hid (HO3.out.trans ho4)
    have HK4 := Lib.hid hk
    have HL := Lib.hid hl
    have hs4 := ho4.size
    clear hp4 ho4 hk hl hA3 HP3 HO3 HT3 HS3 HUN c0 c1
    rw [show Value.agg (Cel.ndA n p l cap) = .agg #[.int .i64 n.kind, .int .i64 n.num, .string ⟨n.text.toArray⟩, .int .i64 (cC n.frm), .int .i64 (cR n.frm), .int .i64 (cC n.tor), .int .i64 (cR n.tor), .slice p l cap] from rfl]
    iterate 3 (first | go_values | go_step)
    have e2 : w4.alloc (.cells #[.int .i64 0, .int .i64 0, .string ⟨#[]⟩, .int .i64 0, .int .i64 0, .int .i64 0, .int .i64 0, .slice none 0 0] Cel.tPn) = w4.alloc (.cells (Cel.ndA nodeZ none 0 0) Cel.tPn) := rfl
    rw [e2]
    clear e2
    have HG5 : Hid (BlkC (w4.alloc (.cells (Cel.ndA nodeZ none 0 0) Cel.tPn)) w4.heap.size (Cel.ndA nodeZ none 0 0) Cel.tPn) := heap_alloc_new w4 _
    have hAB2 : Below w4.heap.size w4 (w4.alloc (.cells (Cel.ndA nodeZ none 0 0) Cel.tPn)) := by (repeat' (first | (with_reducible exact Below.refl _ _) | (with_reducible assumption) | (with_reducible refine Below.alloc ?_ ?_ _) | (with_reducible refine bel_drewN ?_ _) | (with_reducible refine Below.drew ?_) | (with_reducible refine Below.setCell ?_ ?_ _) | (with_reducible refine bel_call ‹_› ?_ ?_) | go_size))
    have hA5 := Lib.hid (hA4.out.below hAB2)
    have HP5 := Lib.hid (HP4.out.below hAB2)
    have HO5 := Lib.hid (HO4.out.call hAB2)
    have HK5 : Hid (∀ d, dpN n ≤ d + 1 → Cel.RdP (w4.alloc (.cells (Cel.ndA nodeZ none 0 0) Cel.tPn)) (fun k => w3.heap.size ≤ k ∧ k < w4.heap.size) d n p l) := fun d hd => (HK4.out d hd).carry (fun k hk => ⟨hk, hAB2.block k hk.2⟩)
    have hs5 : (w4.alloc (.cells (Cel.ndA nodeZ none 0 0) Cel.tPn)).heap.size = w4.heap.size + 1 := World.size_alloc _ _
    clear hAB2 hA4 HP4 HO4 HK4
    generalize w4.alloc (.cells (Cel.ndA nodeZ none 0 0) Cel.tPn) = w5 at HG5 hA5 HP5 HO5 HK5 hs5 ⊢
    generalize w4.heap.size = G2 at HG5 HK5 hs4 hs5 ⊢
    refine wpList_store_mid (by rfl) _ _ _ (by rfl) G2 0 #[.int .i64 n.kind, .int .i64 n.num, .string ⟨n.text.toArray⟩, .int .i64 (cC n.frm), .int .i64 (cR n.frm), .int .i64 (cC n.tor), .int .i64 (cR n.tor), .slice p l cap] (by rfl) (by rfl) (block_there HG5.out 8 (Nat.le_refl _)) (by kernel_rfl) (by simp [Value.oneCell']) ?_
    have e8 : w5.setCells G2 0 (#[.int .i64 n.kind, .int .i64 n.num, .string ⟨n.text.toArray⟩, .int .i64 (cC n.frm), .int .i64 (cR n.frm), .int .i64 (cC n.tor), .int .i64 (cR n.tor), .slice p l cap]).toList = w5.setCells G2 0 (Cel.ndA n p l cap).toList := rfl
    rw [e8]
    clear e8
    have HG6 : Hid (BlkC (w5.setCells G2 0 (Cel.ndA n p l cap).toList) G2 (Cel.ndA n p l cap) Cel.tPn) := store_block HG5.out _ rfl
    have HO6 : Hid (Off b w (w5.setCells G2 0 (Cel.ndA n p l cap).toList)) := HO5.out.set_cells (by omega) _ _
    have hA6 : Hid (BlkC (w5.setCells G2 0 (Cel.ndA n p l cap).toList) w.heap.size (Cel.ndA nodeZ none 0 0) Cel.tPn) := (store_other (by omega) _ _ _).trans hA5.out
    have HP6 : Hid (Psr (w5.setCells G2 0 (Cel.ndA n p l cap).toList) b (some ⟨g, 0, none⟩) nT cT (i + 1 + k)) := (store_other (by omega) _ _ _).trans HP5.out
    have hz6 := (store_below (Nat.zero_le G2) (Cel.ndA n p l cap).toList 0 w5 (Below.refl 0 w5)).size
    have HK6 : Hid (∀ d, dpN n ≤ d + 1 → Cel.RdP (w5.setCells G2 0 (Cel.ndA n p l cap).toList) (fun k => w.heap.size < k ∧ k < (w5.setCells G2 0 (Cel.ndA n p l cap).toList).heap.size ∧ k ≠ G2) d n p l) := fun d hd => (HK5.out d hd).carry (fun k hk => ⟨⟨by omega, by omega, by omega⟩, store_other (by omega) _ _ _⟩)
    have hGb2 : G2 ≠ b := by omega
    clear HG5 hA5 HP5 HO5 HK5
    generalize w5.setCells G2 0 (Cel.ndA n p l cap).toList = w6 at HG6 hA6 HP6 HO6 HK6 hz6 ⊢
    go_simp
    iterate 3 (first | go_values | go_skip | go_guarded | go_step | go_upon)
    have HS6 := Lib.hid (HSW.out.off HO6.out (by rw [HNT.out]; exact HP6.out))
    go_wp2_with fail
    refine (HIS.out w6 HS6.out).mono ?_
    rintro e w7 ⟨rfl, hp7, ho7⟩
    rw [if_pos rfl] at hp7
    have HP7 : Hid (Psr w7 b (some ⟨g, 0, none⟩) nT cT (i + kk)) := by unfold Hid; rw [← HK.out]; exact hp7
    have HG7 := Lib.hid (ho7.bc hGb2 HG6.out)
    have hA7 := Lib.hid (ho7.bc (by omega) hA6.out)
    have HO7 := Lib.hid (HO6.out.trans ho7)
    have hs7 := ho7.size
    have HK7 : Hid (∀ d, dpN n ≤ d + 1 → Cel.RdP w7 (fun k => w.heap.size < k ∧ k < w7.heap.size) d n p l) := fun d hd => (HK6.out d hd).carry (fun k hk => ⟨⟨hk.1, by omega⟩, ho7.block k hk.2.1 (by omega)⟩)
    clear hp7 ho7 HG6 hA6 HP6 HO6 HK6 HS6 HIS
    go_upto_region 22 with fail
    refine wp_region_lit ?_
    refine wpList_load_mid (by rfl) _ _ (by rfl) G2 0 (by rfl) [.int .i64 n.kind, .int .i64 n.num, .string ⟨n.text.toArray⟩, .int .i64 (cC n.frm), .int .i64 (cR n.frm), .int .i64 (cC n.tor), .int .i64 (cR n.tor), .slice p l cap] _ (block_range HG7.out [.int .i64 n.kind, .int .i64 n.num, .string ⟨n.text.toArray⟩, .int .i64 (cC n.frm), .int .i64 (cR n.frm), .int .i64 (cC n.tor), .int .i64 (cR n.tor), .slice p l cap] rfl) Tryz.underlying34 rfl (by kernel_rfl) ?_
    go_simp
    refine wpList_store_mid (by rfl) _ _ _ (by rfl) w.heap.size 0 #[.int .i64 n.kind, .int .i64 n.num, .string ⟨n.text.toArray⟩, .int .i64 (cC n.frm), .int .i64 (cR n.frm), .int .i64 (cC n.tor), .int .i64 (cR n.tor), .slice p l cap] (by rfl) (by rfl) (block_there hA7.out 8 (Nat.le_refl _)) (by kernel_rfl) (by simp [Value.oneCell']) ?_
    obtain ⟨hs8, hf8⟩ := res_store (n := n) (p := p) (l := l) (cp := cap) hA7.out rfl HP7.out HO7.out hbw HL.out HK7.out
    have HS8 := Lib.hid hs8
    have HF8 := Lib.hid hf8
    clear hs8 hf8
    have e8 : w7.setCells w.heap.size 0 (#[.int .i64 n.kind, .int .i64 n.num, .string ⟨n.text.toArray⟩, .int .i64 (cC n.frm), .int .i64 (cR n.frm), .int .i64 (cC n.tor), .int .i64 (cR n.tor), .slice p l cap]).toList = w7.setCells w.heap.size 0 (Cel.ndA n p l cap).toList := rfl
    rw [e8]
    clear e8
    generalize w7.setCells w.heap.size 0 (Cel.ndA n p l cap).toList = w9 at HS8 HF8 ⊢
    go_simp
    iterate 3 (first | go_values | go_skip | go_guarded | go_step | go_upon)
    apply wp_ret
    try simp only [Exit.inBlock, Exit.then]
    exact bodyPost_ret (results_cell_row rfl _ _ w.heap.size Cel.tPn (Cel.ndA n p l cap) (0, 0) _ rfl HS8.out Tryz.underlying34 rfl (by kernel_rfl)) rfl HF8.out
/-- What a name begins: the contract of 'name' at the tokens behind it. -/
def NmC (n : Nd) (s : Bs) (l : List Tw) : Prop := ∀ (ws w : World) (b : Nat) (q : Option Addr) (cT i : Nat) (Ts : List Tks.Tk) (rest : List Tw), PSt ws w b q Ts cT i → At Ts i (l ++ rest) → RestOk 5 rest →
  Calls Tryz.prog 95 #[.pointer (some ⟨b, 0, none⟩), .string ⟨s.toArray⟩] w (PaP b q Ts.length cT i l.length n w)
set_option maxRecDepth 100000 in
set_option maxHeartbeats 8000000 in
theorem pr_name (n : Nd) (s : Bs) (lt : List Tw) (htk : tkN nmS n 5 = (3, s) :: lt) (IH : NmC n s lt) : PrC n := by
  intro ws w b q cT i Ts rest hst hat hrs
  rw [htk] at hat ⊢
  have hat' : At Ts i ((3, s) :: (lt ++ rest)) := hat
  obtain ⟨⟨kx, tx, ax⟩, hy1, hy2, hat1⟩ := hat'.get
  obtain ⟨rfl, rfl⟩ : 3 = kx ∧ s = tx := by
    have e : (kx, tx) = ((3 : Int), (s : Bs)) := hy2
    exact ⟨(congrArg Prod.fst e).symm, (congrArg Prod.snd e).symm⟩
  obtain ⟨g, rfl, hgb, _, _, _, _⟩ := hst.tks.at hy1
  have hile := hat'.le
  have hle := hst.len
  have HTK := Lib.hid (fun W (h : TkR W b (some ⟨g, 0, none⟩) Ts) => h.at hy1)
  have hA0 : Hid (BlkC (w.alloc (.cells (Cel.ndA nodeZ none 0 0) Cel.tPn)) w.heap.size (Cel.ndA nodeZ none 0 0) Cel.tPn) := heap_alloc_new w _
  have hAB : Below w.heap.size w (w.alloc (.cells (Cel.ndA nodeZ none 0 0) Cel.tPn)) := by (repeat' (first | (with_reducible exact Below.refl _ _) | (with_reducible assumption) | (with_reducible refine Below.alloc ?_ ?_ _) | (with_reducible refine bel_drewN ?_ _) | (with_reducible refine Below.drew ?_) | (with_reducible refine Below.setCell ?_ ?_ _) | (with_reducible refine bel_call ‹_› ?_ ?_) | go_size))
  have HS0 := Lib.hid (hst.below hAB)
  have HO0 := Lib.hid (Off.of_below (b := b) hAB)
  have hbw := hst.lt
  have HSW := Lib.hid hst
  have HUN := Lib.hid (fun W (h : PSt ws W b (some ⟨g, 0, none⟩) Ts cT (i + 1)) => IH ws W b (some ⟨g, 0, none⟩) cT (i + 1) Ts rest h hat1 hrs)
  have HK := Lib.hid (show i + 1 + lt.length = i + ((3, s) :: lt).length from by simp; omega)
  generalize ((3, s) :: lt).length = kk at HK ⊢
  generalize lt.length = k at HK HUN
  have hin : (i : Int) < (Ts.length : Int) := by omega
  obtain ⟨nT, hnT⟩ : ∃ n, Ts.length = n := ⟨_, rfl⟩
  have HNT := Lib.hid hnT
  rw [hnT] at HUN hle hile hin ⊢
  clear hnT
  clear hst hAB
  go_enter Tryz.func76, Tryz.ntmps76
  go_upto_region 1 with fail
  have e0 : w.alloc (.cells #[.int .i64 0, .int .i64 0, .string ⟨#[]⟩, .int .i64 0, .int .i64 0, .int .i64 0, .int .i64 0, .slice none 0 0] Cel.tPn) = w.alloc (.cells (Cel.ndA nodeZ none 0 0) Cel.tPn) := rfl
  rw [e0]
  clear e0
  generalize w.alloc (.cells (Cel.ndA nodeZ none 0 0) Cel.tPn) = w0 at hA0 HS0 HO0 ⊢
  obtain ⟨p0, p1, p2, _⟩ := HS0.out.psr.cells
  rw [HNT.out] at p0
  have r0 := cell_regrown p0
  have r1 := cell_regrown p1
  have r2 := cell_regrown p2
  have hBR : ∀ dd os, Below w0.heap.size w0 (Go.Sort.grow (redrawn w0 dd) os) := fun dd os => below_regrown w0 dd os
  refine wp_region_quiet_below (by kernel_rfl) (by kernel_rfl) ?_
  repeat (go_big_quiet_step (fail))
  refine wpQuiet_nil ?_
  intro _ hw'
  obtain ⟨⟨dz, osz⟩, hw''⟩ := hw'
  subst hw''
  have hB1 := hBR dz osz
  have HS1 := Lib.hid (HS0.out.below hB1)
  have hA1 := Lib.hid (hA0.out.below hB1)
  have HO1 := Lib.hid (HO0.out.call hB1)
  clear r0 r1 r2 hBR hB1 p0 p1 p2 HS0 hA0 HO0
  generalize Go.Sort.grow (redrawn w0 dz) osz = w1 at HS1 hA1 HO1 ⊢
  obtain ⟨p0, p1, p2, pf⟩ := HS1.out.psr.cells
  rw [HNT.out] at p0
  obtain ⟨g', hg', _, hgl, k0, k1, k2⟩ := HTK.out w1 HS1.out.tks
  cases hg'
  have hbl := HS1.out.lt
  simp only at k0 k1 k2
  go_upto_region 3 with fail
  go_cut [3] (fun v3 wx => v3 = .pointer (some ⟨w1.heap.size, 0, none⟩) ∧ wx = (w1.alloc (.cells #[.int .i64 3, .string ⟨(s).toArray⟩, .int .i64 (ax : Int)] 89)).drew)
  case first =>
    go_region_with (fail)
    all_goals go_wp2_with fail
    all_goals go_meet
    all_goals exact ⟨rfl, rfl⟩
  case rest =>
    obtain ⟨hv, hw⟩ := hcut
    subst hv
    subst hw
    have HT2 : Hid (BlkC (w1.alloc (.cells #[.int .i64 3, .string ⟨(s).toArray⟩, .int .i64 (ax : Int)] 89)).drew w1.heap.size #[.int .i64 3, .string ⟨(s).toArray⟩, .int .i64 (ax : Int)] 89) := heap_alloc_new w1 _
    have hB2 : Below w1.heap.size w1 (w1.alloc (.cells #[.int .i64 3, .string ⟨(s).toArray⟩, .int .i64 (ax : Int)] 89)).drew := Below.drew ((Below.refl _ _).alloc (Nat.le_refl _) _)
    have HP2 := Lib.hid (HS1.out.psr.below hB2)
    have hA2 := Lib.hid (hA1.out.below hB2)
    have HO2 := Lib.hid (HO1.out.call hB2)
    have hG : w.heap.size < w1.heap.size := lt_some hA1.out
    have hGb : w1.heap.size ≠ b := by omega
    rw [HNT.out] at HP2
    clear hB2 HS1 hA1 HO1 p0 p1 p2 pf k0 k1 k2 hgl hbl HTK
    generalize (w1.alloc (.cells #[.int .i64 3, .string ⟨(s).toArray⟩, .int .i64 (ax : Int)] 89)).drew = w2 at HT2 HP2 hA2 HO2 ⊢
    generalize w1.heap.size = G at HT2 hG hGb ⊢
    obtain ⟨_, p1, _, pf⟩ := HP2.out.cells
    have f1 : IntKind.i64.wrap ((i : Int) + 1) = (i : Int) + 1 := IntWalk.i64_in _ (by omega)
    go_upto_region 5 with fail
    have HP3 : Hid (Psr (w2.setCell ⟨b, 1, none⟩ (.int .i64 ((i : Int) + 1))) b (some ⟨g, 0, none⟩) nT cT (i + 1)) := HP2.out.setz ((i : Int) + 1) (i + 1) (by omega)
    have HO3 := Lib.hid (HO2.out.set 1 (.int .i64 ((i : Int) + 1)))
    have HT3 : Hid (BlkC (w2.setCell ⟨b, 1, none⟩ (.int .i64 ((i : Int) + 1))) G #[.int .i64 3, .string ⟨(s).toArray⟩, .int .i64 (ax : Int)] 89) := (heap_setCell_other _ _ _ _ hGb).trans HT2.out
    have hA3 : Hid (BlkC (w2.setCell ⟨b, 1, none⟩ (.int .i64 ((i : Int) + 1))) w.heap.size (Cel.ndA nodeZ none 0 0) Cel.tPn) := (heap_setCell_other _ _ _ _ (show w.heap.size ≠ b by omega)).trans hA2.out
    clear HP2 HO2 HT2 hA2 p1 pf f1
    generalize w2.setCell ⟨b, 1, none⟩ (.int .i64 ((i : Int) + 1)) = w3 at HP3 HO3 HT3 hA3 ⊢
    have HS3 := Lib.hid (HSW.out.off HO3.out (by rw [HNT.out]; exact HP3.out))
    have c0 : w3.cell? ⟨G, 0, none⟩ = some (.int .i64 3) := HT3.out.cell 0 _ rfl
    have c1 : w3.cell? ⟨G, 1, none⟩ = some (.string ⟨(s).toArray⟩) := HT3.out.cell 1 _ rfl
    go_wp2_with fail
    refine (HUN.out w3 HS3.out).mono ?_
    rintro e w4 ⟨⟨p, cap, rfl, hk⟩, hp4, ho4⟩
    rename_i KK aK
    go_simp
    refine aK _ _ ?_
    clear aK
    obtain ⟨l, hl⟩ : ∃ l, n.args.length = l := ⟨_, rfl⟩
    rw [hl] at hk ⊢
    have hs3 : w.heap.size < w3.heap.size := lt_some hA3.out
    have hA4 := Lib.hid (ho4.bc (by omega) hA3.out)
    have HP4 : Hid (Psr w4 b (some ⟨g, 0, none⟩) nT cT (i + kk)) := by unfold Hid; rw [← HK.out]; exact hp4
    have HO4 := Lib.hid (HO3.out.trans ho4)
    have HK4 := Lib.hid hk
    have HL := Lib.hid hl
    have hs4 := ho4.size
    clear hp4 ho4 hk hl hA3 HP3 HO3 HT3 HS3 HUN c0 c1
    rw [show Value.agg (Cel.ndA n p l cap) = .agg #[.int .i64 n.kind, .int .i64 n.num, .string ⟨n.text.toArray⟩, .int .i64 (cC n.frm), .int .i64 (cR n.frm), .int .i64 (cC n.tor), .int .i64 (cR n.tor), .slice p l cap] from rfl]
    refine wpList_store_mid (by rfl) _ _ _ (by rfl) w.heap.size 0 #[.int .i64 n.kind, .int .i64 n.num, .string ⟨n.text.toArray⟩, .int .i64 (cC n.frm), .int .i64 (cR n.frm), .int .i64 (cC n.tor), .int .i64 (cR n.tor), .slice p l cap] (by rfl) (by rfl) (block_there hA4.out 8 (Nat.le_refl _)) (by kernel_rfl) (by simp [Value.oneCell']) ?_
    obtain ⟨hs8, hf8⟩ := res_store (n := n) (p := p) (l := l) (cp := cap) hA4.out rfl HP4.out HO4.out hbw HL.out (fun d hd => (HK4.out d hd).carry (fun k hk => ⟨⟨by omega, by omega⟩, rfl⟩))
    have HS8 := Lib.hid hs8
    have HF8 := Lib.hid hf8
    clear hs8 hf8
    have e8 : w4.setCells w.heap.size 0 (#[.int .i64 n.kind, .int .i64 n.num, .string ⟨n.text.toArray⟩, .int .i64 (cC n.frm), .int .i64 (cR n.frm), .int .i64 (cC n.tor), .int .i64 (cR n.tor), .slice p l cap]).toList = w4.setCells w.heap.size 0 (Cel.ndA n p l cap).toList := rfl
    rw [e8]
    clear e8
    generalize w4.setCells w.heap.size 0 (Cel.ndA n p l cap).toList = w9 at HS8 HF8 ⊢
    go_simp
    iterate 3 (first | go_values | go_skip | go_guarded | go_step | go_upon)
    apply wp_ret
    try simp only [Exit.inBlock, Exit.then]
    exact bodyPost_ret (results_cell_row rfl _ _ w.heap.size Cel.tPn (Cel.ndA n p l cap) (0, 0) _ rfl HS8.out Tryz.underlying34 rfl (by kernel_rfl)) rfl HF8.out
end Go.Proofs.YtigmcoelkkihkaaGreatDoor
namespace Go.Proofs.YtigmcoelkkihkaaGreatDoor
open Go.RowKit Go.Joins

/-- What a number's letters say. -/
def nmF : Nat → Bs → Option Nat
  | n, [] => some n
  | n, c :: r => if 48 ≤ c.toNat ∧ c.toNat ≤ 57 ∧ 10 * n + (c.toNat - 48) ≤ 9999 then nmF (10 * n + (c.toNat - 48)) r else none
def nmb (L : Bs) : Option Nat := if L = [] then none else if 1 < L.length ∧ btN L 0 = 48 then none else nmF 0 L
theorem nmF_at (n : Nat) (L : Bs) (i : Nat) (h : i < L.length) : nmF n (L.drop i) = if 48 ≤ btN L i ∧ btN L i ≤ 57 ∧ 10 * n + (btN L i - 48) ≤ 9999 then nmF (10 * n + (btN L i - 48)) (L.drop (i + 1)) else none := by
  rw [List.drop_eq_getElem_cons h, nmF, btN_get h]

set_option maxRecDepth 100000 in
set_option maxHeartbeats 4000000 in
theorem number_s (s : ByteArray) (hs : s.size ≤ 100000) (w : World) : Calls Tryz.prog 128 #[.string s, .int .i64 9999] w fun e w' => e = .returned (.tuple #[.int .i64 (((nmb s.data.toList).getD 0 : Nat) : Int), .bool (nmb s.data.toList).isSome]) ∧ Below w.heap.size w w' := by
  have HSZ : Hid (s.data.toList.length = s.size) := (Lib.size_eq s).symm
  have HBT := Lib.hid (btN_str s)
  have HBC := Lib.hid (fun W => bytes_cell W s)
  have hemp : s.data.toList ≠ [] → s.toList.isEmpty = false := fun h => by
    rw [Lib.toList_data]
    cases hd : s.data.toList with
    | nil => exact absurd hd h
    | cons c r => rfl
  have hnil : s.data.toList = [] → s = ⟨#[]⟩ := fun h => by
    apply ByteArray.ext
    exact Array.toList_inj.1 h
  obtain ⟨L, hL⟩ : ∃ L, s.data.toList = L := ⟨_, rfl⟩
  rw [hL] at HSZ HBT HBC hemp hnil ⊢
  obtain ⟨O, hO⟩ : ∃ O, nmb L = O := ⟨_, rfl⟩
  have HO0 : Hid (O = if L = [] then none else if 1 < L.length ∧ btN L 0 = 48 then none else nmF 0 L) := by rw [← hO]; rfl
  rw [hO]
  clear hO hL
  by_cases h0 : L = []
  · have HO := HO0.out
    rw [if_pos h0] at HO
    subst HO
    obtain rfl := hnil h0
    clear HBT HBC hemp hnil
    go_enter Tryz.func128, Tryz.ntmps128
    go_wp2_with fail
    go_ret2
    exact ⟨rfl, Below.refl _ _⟩
  · have hpos : 0 < s.size := by rw [← HSZ.out]; exact List.length_pos_iff.2 h0
    have hem := hemp h0
    have HO2 : Hid (O = if 1 < L.length ∧ btN L 0 = 48 then none else nmF 0 L) := by unfold Hid; rw [HO0.out, if_neg h0]
    clear HO0 hemp hnil h0
    have hconv := fun (W : World) => Lib.run_convert_string_bytes (P := Tryz.prog) W 9 84 5 s Tryz.underlying9 Tryz.underlying84 Tryz.underlying5
    have hb0 := HBT.out 0 hpos
    by_cases h1 : 1 < L.length ∧ btN L 0 = 48
    · have HO := HO2.out
      rw [if_pos h1] at HO
      subst HO
      obtain ⟨h1a, h1b⟩ := h1
      rw [HSZ.out] at h1a
      have h1i : (1 : Int) < (s.size : Int) := by omega
      have hx : (((s[0]'hpos).toNat : Nat) : Int) = 48 := by rw [hb0, h1b]; rfl
      clear hb0 h1b hconv HBC HBT HO2
      go_enter Tryz.func128, Tryz.ntmps128
      go_wp2_with fail
      go_ret2
      exact ⟨rfl, Below.refl _ _⟩
    · have HO : Hid (O = nmF 0 L) := by unfold Hid; rw [HO2.out, if_neg h1]
      have hcs : s.size = 1 ∨ (1 < s.size ∧ ((((s[0]'hpos).toNat : Nat) : Int) == 48) = false) := by
        rw [HSZ.out] at h1
        by_cases h : 1 < s.size
        · refine .inr ⟨h, ?_⟩
          rw [hb0]
          have : btN L 0 ≠ 48 := fun e => h1 ⟨h, e⟩
          simp
          omega
        · exact .inl (by omega)
      clear HO2 h1 hb0
      go_enter Tryz.func128, Tryz.ntmps128
      go_upto_region 1 with fail
      go_cut [25] (fun v wx => v = .bool false ∧ w = wx)
      case first =>
        rcases hcs with h | ⟨h, h2⟩
        · have h1i : ¬ (1 : Int) < (s.size : Int) := by omega
          go_wp2_with fail
          go_meet
          exact ⟨rfl, rfl⟩
        · have h1i : (1 : Int) < (s.size : Int) := by omega
          go_wp2_with fail
          go_meet
          exact ⟨rfl, rfl⟩
      case rest =>
        obtain ⟨rfl, rfl⟩ := hcut
        clear hcs hem
        go_wp2_with fail
        have hbw := Lib.hid (bytes_below w s)
        have hbc := Lib.hid (HBC.out w)
        generalize Lib.bytesWorld w 5 s = W1 at hbw hbc ⊢
        go_loopg [6, 29] s.size (fun g v6 v29 wr => ∃ (i n : Nat), i + g = s.size ∧ v29 = .int .i64 i ∧ v6 = .int .i64 n ∧ n ≤ 9999 ∧ O = nmF n (L.drop i) ∧ wr = W1)
        case atStart => exact ⟨0, 0, by omega, rfl, rfl, by omega, HO.out, rfl⟩
        case round =>
          obtain ⟨i, n, hig, rfl, rfl, hn, hO, rfl⟩ := hrel
          have HO2 := Lib.hid hO
          clear hO HO
          by_cases hlt : i < s.size
          · have hli : (i : Int) < (s.size : Int) := by omega
            have hc := hbc.out i hlt
            have HAT := Lib.hid (nmF_at n L i (by rw [HSZ.out]; exact hlt))
            have hd := btN_lt L i
            obtain ⟨c, hcc⟩ : ∃ c, btN L i = c := ⟨_, rfl⟩
            rw [hcc] at hc hd HAT
            have f1 : IntKind.i64.wrap (c : Int) = (c : Int) := IntWalk.i64_in _ (by omega)
            have f2 : IntKind.i64.wrap ((c : Int) - 48) = (c : Int) - 48 := IntWalk.i64_in _ (by omega)
            clear hcc hconv
            by_cases hlo : c < 48
            · have hl0 : (c : Int) - 48 < 0 := by omega
              have HON : Hid (O = none) := by unfold Hid; rw [HO2.out, HAT.out, if_neg (by omega)]
              clear HAT HO2
              go_wp2_with fail
              go_ret2
              exact ⟨by rw [HON.out]; rfl, hbw.out⟩
            · have hl0 : ¬ (c : Int) - 48 < 0 := by omega
              by_cases hhi : 57 < c
              · have hh : (9 : Int) < (c : Int) - 48 := by omega
                have HON : Hid (O = none) := by unfold Hid; rw [HO2.out, HAT.out, if_neg (by omega)]
                clear HAT HO2
                go_wp2_with fail
                go_ret2
                exact ⟨by rw [HON.out]; rfl, hbw.out⟩
              · have hh : ¬ (9 : Int) < (c : Int) - 48 := by omega
                by_cases hA : 999 < n
                · have hAi : (999 : Int) < (n : Int) := by omega
                  have HON : Hid (O = none) := by unfold Hid; rw [HO2.out, HAT.out, if_neg (by omega)]
                  clear HAT HO2
                  go_wp2_with fail
                  go_ret2
                  exact ⟨by rw [HON.out]; rfl, hbw.out⟩
                · have hAi : ¬ (999 : Int) < (n : Int) := by omega
                  by_cases hB : 10 * n + (c - 48) ≤ 9999
                  · have hBi : ¬ (9999 : Int) - ((c : Int) - 48) < 10 * (n : Int) := by omega
                    have HON : Hid (O = nmF (10 * n + (c - 48)) (L.drop (i + 1))) := by unfold Hid; rw [HO2.out, HAT.out, if_pos (by omega)]
                    clear HAT HO2
                    go_wp2_with fail
                    go_roundg (gk - 1)
                    case measure => omega
                    case rel => exact ⟨i + 1, 10 * n + (c - 48), by omega, by go_num, by congr 1; omega, hB, HON.out, rfl⟩
                  · have hBi : (9999 : Int) - ((c : Int) - 48) < 10 * (n : Int) := by omega
                    have HON : Hid (O = none) := by unfold Hid; rw [HO2.out, HAT.out, if_neg (by omega)]
                    clear HAT HO2
                    go_wp2_with fail
                    go_ret2
                    exact ⟨by rw [HON.out]; rfl, hbw.out⟩
          · obtain rfl : i = s.size := by omega
            have hli : ¬ (s.size : Int) < (s.size : Int) := by omega
            have HON : Hid (O = some n) := by
              unfold Hid
              rw [HO2.out, List.drop_eq_nil_of_le (by rw [HSZ.out]; exact Nat.le_refl _)]
              rfl
            clear HO2 hconv
            go_wp2_with fail
            go_ret2
            exact ⟨by rw [HON.out]; rfl, hbw.out⟩
theorem number_any (L : Bs) (hL : L.length ≤ 100000) (w : World) : Calls Tryz.prog 128 #[.string ⟨L.toArray⟩, .int .i64 9999] w fun e w' => e = .returned (.tuple #[.int .i64 (((nmb L).getD 0 : Nat) : Int), .bool (nmb L).isSome]) ∧ Below w.heap.size w w' := number_s ⟨L.toArray⟩ (by rw [Lib.size_eq]; simpa using hL) w


theorem chr_toNat {d : Nat} (h : d < 10) : (chr d).toNat = 48 + d := by
  unfold chr
  rw [UInt8.toNat_ofNat']
  omega
theorem nmF_snoc (d : Nat) (hd : d < 10) : ∀ (L : Bs) (n m : Nat), nmF n L = some m → 10 * m + d ≤ 9999 → nmF n (L ++ [chr d]) = some (10 * m + d)
  | [], n, m, h, hm => by
    rw [nmF] at h
    cases h
    rw [List.nil_append, nmF, chr_toNat hd, if_pos (by omega), nmF]
    congr 1
    omega
  | c :: r, n, m, h, hm => by
    rw [List.cons_append, nmF]
    rw [nmF] at h
    split at h
    · rename_i hc
      rw [if_pos hc]
      exact nmF_snoc d hd r _ m h hm
    · cases h
theorem nmF_dc : ∀ (k r : Nat), r ≤ k → r ≤ 9999 → nmF 0 (dcL r) = some r ∧ dcL r ≠ [] ∧ (1 ≤ r → btN (dcL r) 0 ≠ 48) := by
  intro k
  induction k with
  | zero =>
    intro r h1 h2
    obtain rfl : r = 0 := by omega
    rw [dcL_small (by omega)]
    exact ⟨by rw [nmF, chr_toNat (by omega), if_pos (by omega), nmF], by simp, fun h => by omega⟩
  | succ k ih =>
    intro r h1 h2
    by_cases h10 : r < 10
    · rw [dcL_small h10]
      refine ⟨by rw [nmF, chr_toNat h10, if_pos (by omega), nmF]; congr 1; omega, by simp, fun h => ?_⟩
      unfold btN
      show (chr r).toNat ≠ 48
      rw [chr_toNat h10]
      omega
    · obtain ⟨e1, e2, e3⟩ := ih (r / 10) (by omega) (by omega)
      rw [dcL_step h10 (by omega)]
      refine ⟨?_, by simp, fun _ => ?_⟩
      · have := nmF_snoc (r % 10) (Nat.mod_lt _ (by omega)) _ _ _ e1 (by omega)
        rw [this]
        congr 1
        omega
      · have := e3 (by omega)
        unfold btN at this ⊢
        cases hx : dcL (r / 10) with
        | nil => exact absurd hx e2
        | cons c q => rw [hx] at this; exact this
theorem nmb_dc {r : Nat} (h1 : 1 ≤ r) (h2 : r ≤ 9999) : nmb (dcL r) = some r := by
  obtain ⟨e1, e2, e3⟩ := nmF_dc r r (Nat.le_refl _) h2
  unfold nmb
  rw [if_neg e2, if_neg (fun h => e3 h1 h.2), e1]
theorem num_dc (r : Nat) (h1 : 1 ≤ r) (h2 : r ≤ 9999) (w : World) : Calls Tryz.prog 128 #[.string ⟨(dcL r).toArray⟩, .int .i64 9999] w fun e w' => e = .returned (.tuple #[.int .i64 r, .bool true]) ∧ Below w.heap.size w w' := by
  have h := number_any (dcL r) (by have := dcL_len r; omega) w
  rw [nmb_dc h1 h2] at h
  exact h
/-- A digit follows the letters. -/
theorem dcL_head (r : Nat) (h : r ≤ 9999) : ∃ d q, dcL r = chr d :: q ∧ d < 10 := by
  have key : ∀ (k r : Nat), r ≤ k → r ≤ 9999 → ∃ d q, dcL r = chr d :: q ∧ d < 10 := by
    intro k
    induction k with
    | zero =>
      intro r h1 h2
      obtain rfl : r = 0 := by omega
      exact ⟨0, [], dcL_small (by omega), by omega⟩
    | succ k ih =>
      intro r h1 h2
      by_cases h10 : r < 10
      · exact ⟨r, [], dcL_small h10, h10⟩
      · obtain ⟨d, q, e, hd⟩ := ih (r / 10) (by omega) (by omega)
        exact ⟨d, q ++ [chr (r % 10)], by rw [dcL_step h10 (by omega), e]; rfl, hd⟩
  exact key r r (Nat.le_refl _) h
theorem letr {x : Nat} (h1 : 65 ≤ x) (h2 : x ≤ 90) : (UInt8.ofNat x).toNat = x := by rw [UInt8.toNat_ofNat']; omega
/-- A column's letters: one or two capital letters, and what they come to. -/
theorem colS_is (c : Int) (h1 : 1 ≤ c) (h2 : c ≤ 702) : (∃ x, colS c = [UInt8.ofNat x] ∧ 65 ≤ x ∧ x ≤ 90 ∧ (x : Int) - 64 = c) ∨ ∃ x y, colS c = [UInt8.ofNat x, UInt8.ofNat y] ∧ 65 ≤ x ∧ x ≤ 90 ∧ 65 ≤ y ∧ y ≤ 90 ∧ 26 * ((x : Int) - 64) + ((y : Int) - 64) = c := by
  unfold colS
  rw [if_neg (by omega)]
  split
  · exact .inl ⟨_, rfl, by omega, by omega, by omega⟩
  · exact .inr ⟨_, _, rfl, by omega, by omega, by omega, by omega, by omega⟩
theorem nmS_nam (k : Int) (h : OkC k) : NamW (nmS k) := by
  have hr : rtC (cC k) (cR k) = true := h
  have hr' := hr
  unfold rtC at hr'
  simp at hr'
  have hdg : ∀ r : Nat, r ≤ 9999 → (dcL r).all (fun c => Tks.nmB c.toNat) = true := by
    have key : ∀ (k r : Nat), r ≤ k → r ≤ 9999 → (dcL r).all (fun c => Tks.nmB c.toNat) = true := by
      have one : ∀ d, d < 10 → Tks.nmB (chr d).toNat = true := fun d hd => by
        rw [chr_toNat hd]
        unfold Tks.nmB Tks.dgB
        simp
        omega
      intro k
      induction k with
      | zero =>
        intro r h1 h2
        rw [dcL_small (by omega)]
        simp [one r (by omega)]
      | succ k ih =>
        intro r h1 h2
        by_cases h10 : r < 10
        · rw [dcL_small h10]
          simp [one r h10]
        · rw [dcL_step h10 (by omega), List.all_append, ih (r / 10) (by omega) (by omega)]
          simp [one (r % 10) (Nat.mod_lt _ (by omega))]
    exact fun r h => key r r (Nat.le_refl _) h
  have hd := hdg (cR k).toNat (by omega)
  unfold nmS cellS
  rw [if_pos hr]
  rcases colS_is (cC k) (by omega) (by omega) with ⟨x, e, h1, h2, _⟩ | ⟨x, y, e, h1, h2, h3, h4, _⟩
  · rw [e]
    refine ⟨_, _, rfl, ?_, hd⟩
    rw [letr h1 h2]
    unfold Tks.upB
    simp
    omega
  · rw [e]
    refine ⟨_, _, rfl, ?_, ?_⟩
    · rw [letr h1 h2]
      unfold Tks.upB
      simp
      omega
    · show (UInt8.ofNat y :: dcL (cR k).toNat).all (fun c => Tks.nmB c.toNat) = true
      rw [List.all_cons, hd, letr h3 h4]
      simp [Tks.nmB, Tks.upB]
      omega
end Go.Proofs.YtigmcoelkkihkaaGreatDoor
namespace Go.Proofs.YtigmcoelkkihkaaGreatDoor
open Go.RowKit Go.Joins

set_option maxRecDepth 100000 in
set_option maxHeartbeats 2000000 in
theorem letters_any (s : ByteArray) (k : Nat) (hs : s.size ≤ 1000) (hk : k ≤ s.size) (hup : ∀ j, j < k → 65 ≤ btN s.data.toList j ∧ btN s.data.toList j ≤ 90) (hstop : k = s.size ∨ ¬ (65 ≤ btN s.data.toList k ∧ btN s.data.toList k ≤ 90)) (w : World) :
    Calls Tryz.prog 127 #[.string s] w fun e w' => e = .returned (.int .i64 k) ∧ w = w' := by
  have HB := Lib.hid (btN_str s)
  have HU := Lib.hid hup
  have HS := Lib.hid hstop
  clear hup hstop
  go_enter Tryz.func127, Tryz.ntmps127
  go_wp2_with fail
  go_loopw [3] (fun a wx => ∃ j : Nat, a = .int .i64 j ∧ j ≤ k ∧ wx = w) (fun a _ => k - (intOf a).toNat)
  case atStart => exact ⟨0, rfl, by omega, rfl⟩
  case round =>
    obtain ⟨j, rfl, hjk, rfl⟩ := hrel
    by_cases hj : j < k
    · have hjs : j < s.size := by omega
      have hji : (j : Int) < (s.size : Int) := by omega
      obtain ⟨u1, u2⟩ := HU.out j hj
      have hb := HB.out j hjs
      have g1 : ¬ ((s[j].toNat : Nat) : Int) < 65 := by rw [hb]; omega
      have g2 : ((s[j].toNat : Nat) : Int) ≤ 90 := by rw [hb]; omega
      have g3 : (65 : Int) ≤ ((s[j].toNat : Nat) : Int) := by rw [hb]; omega
      clear hb u1 u2
      go_wp2_with fail
      go_roundw
      case rel => exact ⟨j + 1, by go_num, by omega, by first | rfl | trivial⟩
      case measure => simp [intOf]; omega
    · obtain rfl : j = k := by omega
      by_cases hjs : j < s.size
      · have hji : (j : Int) < (s.size : Int) := by omega
        have hb := HB.out j hjs
        have hst : ¬ (65 ≤ btN s.data.toList j ∧ btN s.data.toList j ≤ 90) := by
          rcases HS.out with h | h
          · omega
          · exact h
        rw [← hb] at hst
        by_cases h1 : 65 ≤ s[j].toNat
        · have g3 : (65 : Int) ≤ ((s[j].toNat : Nat) : Int) := by omega
          have g2 : ¬ ((s[j].toNat : Nat) : Int) ≤ 90 := by omega
          clear hb hst h1
          go_wp2_with fail
          go_ret
          exact ⟨rfl, rfl⟩
        · have g3 : ¬ (65 : Int) ≤ ((s[j].toNat : Nat) : Int) := by omega
          clear hb hst h1
          go_wp2_with fail
          go_ret
          exact ⟨rfl, rfl⟩
      · have hji : ¬ (j : Int) < (s.size : Int) := by omega
        go_wp2_with fail
        go_ret
        exact ⟨rfl, rfl⟩
/-- What a column's letters come to. -/
def colV (L : Bs) : Nat := L.foldl (fun n c => 26 * n + (c.toNat - 64)) 0
theorem colV_at {L : Bs} {i : Nat} (h : i < L.length) : colV (L.take (i + 1)) = 26 * colV (L.take i) + (btN L i - 64) := by
  unfold colV
  rw [List.take_add_one, List.getElem?_eq_getElem h, List.foldl_append, btN_get h]
  rfl
set_option maxRecDepth 100000 in
set_option maxHeartbeats 2000000 in
theorem column_any (s : ByteArray) (hs1 : 1 ≤ s.size) (hs2 : s.size ≤ 2) (hup : ∀ j, j < s.size → 65 ≤ btN s.data.toList j ∧ btN s.data.toList j ≤ 90) (w : World) :
    Calls Tryz.prog 129 #[.string s] w fun e w' => e = .returned (.int .i64 (colV s.data.toList)) ∧ Below w.heap.size w w' := by
  have HL := Lib.hid (fun W => letters_any s s.size (by omega) (Nat.le_refl _) hup (.inl rfl) W)
  have HU := Lib.hid hup
  have HSZ : Hid (s.data.toList.length = s.size) := (Lib.size_eq s).symm
  have HBC := Lib.hid (fun W => bytes_cell W s)
  have hem : s.toList.isEmpty = false := by
    rw [Lib.toList_data]
    cases hd : s.data.toList with
    | nil => have := HSZ.out; rw [hd] at this; simp at this; omega
    | cons c r => rfl
  have hconv := fun (W : World) => Lib.run_convert_string_bytes (P := Tryz.prog) W 9 84 5 s Tryz.underlying9 Tryz.underlying84 Tryz.underlying5
  have g2 : ¬ (2 : Int) < (s.size : Int) := by omega
  obtain ⟨L, hL⟩ : ∃ L, s.data.toList = L := ⟨_, rfl⟩
  rw [hL] at HU HSZ HBC ⊢
  clear hL hup
  go_enter Tryz.func129, Tryz.ntmps129
  go_wp2_with fail
  refine (HL.out w).mono ?_
  rintro e w1 ⟨rfl, rfl⟩
  go_wp2_with fail
  have hbw := Lib.hid (bytes_below w s)
  have hbc := Lib.hid (HBC.out w)
  generalize Lib.bytesWorld w 5 s = W1 at hbw hbc ⊢
  go_loopg [3, 23] s.size (fun g v3 v23 wr => ∃ i : Nat, i + g = s.size ∧ v23 = .int .i64 i ∧ v3 = .int .i64 (colV (L.take i) : Nat) ∧ ((i = 0 → colV (L.take i) = 0) ∧ (i = 1 → colV (L.take i) ≤ 26)) ∧ wr = W1)
  case atStart => exact ⟨0, by omega, rfl, rfl, ⟨fun _ => rfl, fun h => by omega⟩, rfl⟩
  case round =>
    obtain ⟨i, hig, rfl, rfl, hbd, rfl⟩ := hrel
    by_cases hlt : i < s.size
    · have hli : (i : Int) < (s.size : Int) := by omega
      have hc := hbc.out i hlt
      have HAT := Lib.hid (colV_at (L := L) (i := i) (by rw [HSZ.out]; exact hlt))
      obtain ⟨u1, u2⟩ := HU.out i hlt
      obtain ⟨c, hcc⟩ : ∃ c, btN L i = c := ⟨_, rfl⟩
      rw [hcc] at hc HAT u1 u2
      obtain ⟨n, hn⟩ : ∃ n, colV (L.take i) = n := ⟨_, rfl⟩
      rw [hn] at HAT hbd ⊢
      obtain ⟨x, hx⟩ : ∃ x, c - 65 = x := ⟨_, rfl⟩
      have f0 : (c : Int) - 65 = (x : Int) := by omega
      have hx26 : x ≤ 26 := by omega
      have f1 : IntKind.u8.wrap (x : Int) = (x : Int) := IntWalk.u8_in _ (by omega)
      have f2 : IntKind.i64.wrap (x : Int) = (x : Int) := IntWalk.i64_in _ (by omega)
      have hn2 : n ≤ 1404 := by
        rcases (show i = 0 ∨ i = 1 by omega) with h | h
        · have := hbd.1 h; omega
        · have := hbd.2 h; omega
      have f3 : IntKind.i64.wrap (26 * (n : Int)) = 26 * (n : Int) := IntWalk.i64_in _ (by omega)
      have HE : Hid (colV (L.take (i + 1)) = 26 * n + x + 1) := by unfold Hid; rw [HAT.out]; omega
      have hb2 : (i + 1 = 0 → 26 * n + x + 1 = 0) ∧ (i + 1 = 1 → 26 * n + x + 1 ≤ 26) := ⟨fun h => by omega, fun h => by have := hbd.1 (by omega); omega⟩
      have hb3 : 26 * n + x + 1 ≤ 100000 := by omega
      clear hcc hn HAT hconv hx u1 u2
      go_wp2_with fail
      go_roundg (gk - 1)
      case measure => omega
      case rel => exact ⟨i + 1, by omega, by go_num, by rw [HE.out]; go_num, by rw [HE.out]; exact hb2, by first | rfl | trivial⟩
    · obtain rfl : i = s.size := by omega
      have hli : ¬ (s.size : Int) < (s.size : Int) := by omega
      have HE : Hid (colV (L.take s.size) = colV L) := by unfold Hid; rw [List.take_of_length_le (by rw [HSZ.out]; exact Nat.le_refl _)]
      clear hconv
      go_wp2_with fail
      go_ret
      exact ⟨by rw [← HE.out]; rfl, hbw.out⟩
theorem colV_col (c : Int) (h1 : 1 ≤ c) (h2 : c ≤ 702) : (colV (colS c) : Int) = c ∧ 1 ≤ (colS c).length ∧ ∀ j, j < (colS c).length → 65 ≤ btN (colS c) j ∧ btN (colS c) j ≤ 90 := by
  rcases colS_is c h1 h2 with ⟨x, e, h3, h4, h5⟩ | ⟨x, y, e, h3, h4, h5, h6, h7⟩
  · rw [e]
    refine ⟨?_, by simp, fun j hj => ?_⟩
    · unfold colV
      show ((26 * 0 + ((UInt8.ofNat x).toNat - 64) : Nat) : Int) = c
      rw [letr h3 h4]
      omega
    · obtain rfl : j = 0 := by simpa using hj
      show 65 ≤ (UInt8.ofNat x).toNat ∧ (UInt8.ofNat x).toNat ≤ 90
      rw [letr h3 h4]
      exact ⟨h3, h4⟩
  · rw [e]
    refine ⟨?_, by simp, fun j hj => ?_⟩
    · unfold colV
      show ((26 * (26 * 0 + ((UInt8.ofNat x).toNat - 64)) + ((UInt8.ofNat y).toNat - 64) : Nat) : Int) = c
      rw [letr h3 h4, letr h5 h6]
      omega
    · have : j = 0 ∨ j = 1 := by simp at hj; omega
      rcases this with rfl | rfl
      · show 65 ≤ (UInt8.ofNat x).toNat ∧ (UInt8.ofNat x).toNat ≤ 90
        rw [letr h3 h4]
        exact ⟨h3, h4⟩
      · show 65 ≤ (UInt8.ofNat y).toNat ∧ (UInt8.ofNat y).toNat ≤ 90
        rw [letr h5 h6]
        exact ⟨h5, h6⟩
set_option maxRecDepth 100000 in
set_option maxHeartbeats 4000000 in
theorem aparse_any (c r : Int) (hrt : rtC c r = true) (w : World) : Calls Tryz.prog 115 #[.string ⟨(cellS c r).toArray⟩] w fun e w' => e = .returned (.tuple #[.agg #[.int .i64 c, .int .i64 r], .int .i64 0]) ∧ Below w.heap.size w w' := by
  have hr' := hrt
  unfold rtC at hr'
  simp at hr'
  obtain ⟨n, rfl⟩ : ∃ n : Nat, r = (n : Int) := ⟨r.toNat, by omega⟩
  obtain ⟨v1, v2, v3⟩ := colV_col c (by omega) (by omega)
  obtain ⟨d, q, hd, hd10⟩ := dcL_head n (by omega)
  have hl2 := dcL_len n
  have hl1 := colS_len c
  have HN := Lib.hid (fun W => num_dc n (by omega) (by omega) W)
  have HC := Lib.hid (fun W => column_any ⟨(colS c).toArray⟩ (by rw [Lib.size_eq]; simpa using v2) (by rw [Lib.size_eq]; simpa using hl1) (fun j hj => by rw [Lib.size_eq] at hj; simpa using v3 j (by simpa using hj)) W)
  rw [show (⟨(colS c).toArray⟩ : ByteArray).data.toList = colS c from by simp, v1] at HC
  have HR := Lib.hid (fun W => cright_any c (n : Int) W)
  rw [hrt] at HR
  rw [show cellS c (n : Int) = colS c ++ dcL n from by unfold cellS; rw [hrt]; rfl]
  obtain ⟨s, hs⟩ : ∃ s : ByteArray, (⟨(colS c ++ dcL n).toArray⟩ : ByteArray) = s := ⟨_, rfl⟩
  obtain ⟨a, ha⟩ : ∃ a, (colS c).length = a := ⟨_, rfl⟩
  have hdat : s.data.toList = colS c ++ dcL n := by rw [← hs]
  have hsz : s.size = a + (dcL n).length := by rw [Lib.size_eq, hdat, List.length_append, ha]
  have he1 : s.extract a s.size = ⟨(dcL n).toArray⟩ := by
    apply ByteArray.ext
    apply Array.toList_inj.1
    rw [Lib.extract_data, hdat, ← ha, List.drop_append_of_le_length (Nat.le_refl _), List.drop_length, List.nil_append, List.take_of_length_le (by omega)]
  have he2 : s.extract 0 a = ⟨(colS c).toArray⟩ := by
    apply ByteArray.ext
    apply Array.toList_inj.1
    rw [Lib.extract_data, hdat, List.drop_zero, ← ha, Nat.sub_zero, List.take_append_of_le_length (Nat.le_refl _), List.take_length]
  have HL := Lib.hid (fun W => letters_any s a (by omega) (by omega) (fun j hj => by
    have h := v3 j (by omega)
    unfold btN at h ⊢
    rw [hdat]
    rw [List.getD_eq_getElem?_getD] at h ⊢
    rw [List.getElem?_append_left (by omega)]
    exact h) (.inr (by
    unfold btN
    rw [hdat, List.getD_eq_getElem?_getD, List.getElem?_append_right (by omega), ← ha, Nat.sub_self, hd]
    show ¬ (65 ≤ (chr d).toNat ∧ (chr d).toNat ≤ 90)
    rw [chr_toNat hd10]
    omega)) W)
  rw [hs]
  have has : a ≤ s.size := by omega
  have hs100 : s.size ≤ 100 := by omega
  generalize dcL n = D at HN he1
  generalize colS c = E at HC he2
  clear hs hdat hsz hd hl1 hl2 v1 v2 v3 ha hrt
  have hA0 : Hid (BlkC (w.alloc (.cells #[.int .i64 0, .int .i64 0] 31)) w.heap.size #[.int .i64 0, .int .i64 0] 31) := heap_alloc_new w _
  have hAB : Hid (Below w.heap.size w (w.alloc (.cells #[.int .i64 0, .int .i64 0] 31))) := by unfold Hid; (repeat' (first | (with_reducible exact Below.refl _ _) | (with_reducible assumption) | (with_reducible refine Below.alloc ?_ ?_ _) | (with_reducible refine bel_drewN ?_ _) | (with_reducible refine Below.drew ?_) | (with_reducible refine Below.setCell ?_ ?_ _) | (with_reducible refine bel_call ‹_› ?_ ?_) | go_size))
  go_enter Tryz.func115, Tryz.ntmps115
  go_upto_region 1 with fail
  generalize w.alloc (.cells #[.int .i64 0, .int .i64 0] 31) = w0 at hA0 hAB ⊢
  go_wp2_with fail
  refine (HL.out _).mono ?_
  rintro e w1 ⟨rfl, rfl⟩
  go_wp2_with fail
  refine (HN.out _).mono ?_
  rintro e w2 ⟨rfl, hb2⟩
  have hA2 := Lib.hid (hA0.out.below hb2)
  have hB2 : Hid (Below w.heap.size w w2) := bel_call hb2 hAB.out hAB.out.size
  clear hb2 hA0 hAB
  go_wp2_with fail
  refine (HC.out _).mono ?_
  rintro e w3 ⟨rfl, hb3⟩
  have hA3 := Lib.hid (hA2.out.below hb3)
  have hB3 : Hid (Below w.heap.size w w3) := bel_call hb3 hB2.out hB2.out.size
  have hs3 : w.heap.size < w3.heap.size := lt_some hA3.out
  clear hb3 hA2 hB2
  go_upto_region 4 with fail
  have hT4 : Hid (BlkC (w3.alloc (.cells #[.int .i64 c, .int .i64 n] 31)) w3.heap.size #[.int .i64 c, .int .i64 n] 31) := heap_alloc_new w3 _
  have hA4 : Hid (BlkC (w3.alloc (.cells #[.int .i64 c, .int .i64 n] 31)) w.heap.size #[.int .i64 0, .int .i64 0] 31) := hA3.out.alloc _
  have hB4 : Hid (Below w.heap.size w (w3.alloc (.cells #[.int .i64 c, .int .i64 n] 31))) := hB3.out.alloc (by omega) _
  clear hA3 hB3
  generalize w3.alloc (.cells #[.int .i64 c, .int .i64 n] 31) = w4 at hT4 hA4 hB4 ⊢
  generalize w3.heap.size = G at hT4 hs3 ⊢
  have c0 : w4.cell? ⟨G, 0, none⟩ = some (.int .i64 c) := hT4.out.cell 0 _ rfl
  have c1 : w4.cell? ⟨G, 1, none⟩ = some (.int .i64 n) := hT4.out.cell 1 _ rfl
  go_wp2_with fail
  refine (HR.out _).mono ?_
  rintro e w5 ⟨rfl, hb5⟩
  have hA5 := Lib.hid (hA4.out.below hb5)
  have hT5 := Lib.hid (hT4.out.below hb5)
  have hB5 : Hid (Below w.heap.size w w5) := bel_call hb5 hB4.out hB4.out.size
  clear hb5 hA4 hT4 hB4 c0 c1
  go_upto_region 6 with fail
  refine wp_region_lit ?_
  refine wpList_load_mid (by rfl) _ _ (by rfl) G 0 (by rfl) [.int .i64 c, .int .i64 n] _ (block_range hT5.out [.int .i64 c, .int .i64 n] rfl) Tryz.underlying31 rfl (by kernel_rfl) ?_
  go_simp
  refine wpList_store_mid (by rfl) _ _ _ (by rfl) w.heap.size 0 #[.int .i64 c, .int .i64 n] (by rfl) (by rfl) (block_there hA5.out 2 (Nat.le_refl _)) (by kernel_rfl) (by simp [Value.oneCell']) ?_
  have hs8 : Hid (BlkC (w5.setCells w.heap.size 0 #[.int .i64 c, .int .i64 n].toList) w.heap.size #[.int .i64 c, .int .i64 n] 31) := store_block hA5.out _ rfl
  have hb8 : Hid (Below w.heap.size w (w5.setCells w.heap.size 0 #[.int .i64 c, .int .i64 n].toList)) := store_below (Nat.le_refl _) _ _ _ hB5.out
  generalize w5.setCells w.heap.size 0 #[.int .i64 c, .int .i64 n].toList = w9 at hs8 hb8 ⊢
  go_simp
  go_wp2_with fail
  try simp only [Exit.inBlock, Exit.then]
  exact bodyPost_ret (results_row_tmp rfl _ _ w.heap.size 31 #[.int .i64 c, .int .i64 n] (0, 0) _ rfl hs8.out Tryz.underlying31 rfl (by kernel_rfl) _ rfl) rfl ⟨rfl, hb8.out⟩
end Go.Proofs.YtigmcoelkkihkaaGreatDoor
