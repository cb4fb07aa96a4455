/- The parser: 'primary' at brackets and names. Printed by gen_par.py. The parser: 'name' at cells, ranges and calls. Printed by gen_par.py. -/
import Derived.Test.YtbdgdhjhgcpidaaGreatDoorSfT
import Derived.Test.YtbdgdhjhgcpidaaGreatDoorSfU
set_option linter.unusedSimpArgs false
set_option linter.unusedVariables false
namespace Go.Proofs.YtbdgdhjhgcpidaaGreatDoor
open Go.RowKit Go.Joins
set_option maxRecDepth 100000 in
set_option maxHeartbeats 8000000 in
theorem pr_br (t : Bs) (a c : Nd) (ht : 1 ≤ lvS t) (IH : BinC (Nd.mk 6 0 t 0 0 [a, c]) 1) : PrC (Nd.mk 6 0 t 0 0 [a, c]) := by
  intro ws w b q cT i Ts rest hst hat hrs
  rw [show tkN nmS (Nd.mk 6 0 t 0 0 [a, c]) 5 = (4, [40]) :: (tkN nmS (Nd.mk 6 0 t 0 0 [a, c]) 1 ++ [(4, [41])]) from by rw [tkN_split, if_pos (by have := lvS_pos t; show lvS t < 5; omega), tkN_split nmS _ 1, if_neg (by show ¬ lvS t < 1; omega)]] at hat ⊢
  have hat' : At Ts i ((4, [40]) :: (tkN nmS (Nd.mk 6 0 t 0 0 [a, c]) 1 ++ ((4, [41]) :: rest))) := by simpa using hat
  obtain ⟨⟨kx, tx, ax⟩, hy1, hy2, hat1⟩ := hat'.get
  obtain ⟨rfl, rfl⟩ : 4 = kx ∧ [40] = tx := by
    have e : (kx, tx) = ((4 : Int), ([40] : Bs)) := hy2
    exact ⟨(congrArg Prod.fst e).symm, (congrArg Prod.snd e).symm⟩
  obtain ⟨g, rfl, hgb, _, _, _, _⟩ := hst.tks.at hy1
  have hile := hat'.le
  have hle := hst.len
  have HTK := Lib.hid (fun W (h : TkR W b (some ⟨g, 0, none⟩) Ts) => h.at hy1)
  have hA0 : Hid (BlkC (w.alloc (.cells (Cel.ndA nodeZ none 0 0) Cel.tPn)) w.heap.size (Cel.ndA nodeZ none 0 0) Cel.tPn) := heap_alloc_new w _
  have hAB : Below w.heap.size w (w.alloc (.cells (Cel.ndA nodeZ none 0 0) Cel.tPn)) := by (repeat' (first | (with_reducible exact Below.refl _ _) | (with_reducible assumption) | (with_reducible refine Below.alloc ?_ ?_ _) | (with_reducible refine bel_drewN ?_ _) | (with_reducible refine Below.drew ?_) | (with_reducible refine Below.setCell ?_ ?_ _) | (with_reducible refine bel_call ‹_› ?_ ?_) | go_size))
  have HS0 := Lib.hid (hst.below hAB)
  have HO0 := Lib.hid (Off.of_below (b := b) hAB)
  have hbw := hst.lt
  have HSW := Lib.hid hst
  have HUN := Lib.hid (fun W (h : PSt ws W b (some ⟨g, 0, none⟩) Ts cT (i + 1)) => IH ws W b (some ⟨g, 0, none⟩) cT (i + 1) Ts ((4, [41]) :: rest) h hat1 (rest_shut 1 rest))
  have hat2 := At.app hat1
  have hib : isB Ts (i + 1 + (tkN nmS (Nd.mk 6 0 t 0 0 [a, c]) 1).length) [41] = true := by rw [isB_head hat2]; rfl
  have HIS := Lib.hid (fun W (h : PSt ws W b (some ⟨g, 0, none⟩) Ts cT (i + 1 + (tkN nmS (Nd.mk 6 0 t 0 0 [a, c]) 1).length)) => is_any b (some ⟨g, 0, none⟩) cT _ Ts [41] W h.psr h.tks h.len)
  rw [hib] at HIS
  have HK := Lib.hid (show i + 1 + (tkN nmS (Nd.mk 6 0 t 0 0 [a, c]) 1).length + 1 = i + ((4, [40]) :: (tkN nmS (Nd.mk 6 0 t 0 0 [a, c]) 1 ++ [(4, [41])])).length from by simp; omega)
  generalize ((4, [40]) :: (tkN nmS (Nd.mk 6 0 t 0 0 [a, c]) 1 ++ [(4, [41])])).length = kk at HK ⊢
  generalize (tkN nmS (Nd.mk 6 0 t 0 0 [a, c]) 1).length = k at HK HUN HIS hat2 hib
  generalize (Nd.mk 6 0 t 0 0 [a, c]) = n at HUN HIS IH ⊢
  have hin : (i : Int) < (Ts.length : Int) := by omega
  obtain ⟨nT, hnT⟩ : ∃ n, Ts.length = n := ⟨_, rfl⟩
  have HNT := Lib.hid hnT
  rw [hnT] at HUN HIS hle hile hin ⊢
  clear hnT
  clear hst hAB
  go_enter Tryz.func105, Tryz.ntmps105
  go_upto_region 1 with fail
  have e0 : w.alloc (.cells #[.int .i64 0, .int .i64 0, .string ⟨#[]⟩, .int .i64 0, .int .i64 0, .int .i64 0, .int .i64 0, .slice none 0 0] Cel.tPn) = w.alloc (.cells (Cel.ndA nodeZ none 0 0) Cel.tPn) := rfl
  rw [e0]
  clear e0
  generalize w.alloc (.cells (Cel.ndA nodeZ none 0 0) Cel.tPn) = w0 at hA0 HS0 HO0 ⊢
  obtain ⟨p0, p1, p2, _⟩ := HS0.out.psr.cells
  rw [HNT.out] at p0
  have r0 := cell_regrown p0
  have r1 := cell_regrown p1
  have r2 := cell_regrown p2
  have hBR : ∀ dd os, Below w0.heap.size w0 (Go.Sort.grow (redrawn w0 dd) os) := fun dd os => below_regrown w0 dd os
  refine wp_region_quiet_below (by kernel_rfl) (by kernel_rfl) ?_
  repeat (go_big_quiet_step (fail))
  refine wpQuiet_nil ?_
  intro _ hw'
  obtain ⟨⟨dz, osz⟩, hw''⟩ := hw'
  subst hw''
  have hB1 := hBR dz osz
  have HS1 := Lib.hid (HS0.out.below hB1)
  have hA1 := Lib.hid (hA0.out.below hB1)
  have HO1 := Lib.hid (HO0.out.call hB1)
  clear r0 r1 r2 hBR hB1 p0 p1 p2 HS0 hA0 HO0
  generalize Go.Sort.grow (redrawn w0 dz) osz = w1 at HS1 hA1 HO1 ⊢
  obtain ⟨p0, p1, p2, pf⟩ := HS1.out.psr.cells
  rw [HNT.out] at p0
  obtain ⟨g', hg', _, hgl, k0, k1, k2⟩ := HTK.out w1 HS1.out.tks
  cases hg'
  have hbl := HS1.out.lt
  simp only at k0 k1 k2
  go_upto_region 3 with fail
  go_cut [3] (fun v3 wx => v3 = .pointer (some ⟨w1.heap.size, 0, none⟩) ∧ wx = (w1.alloc (.cells #[.int .i64 4, .string ⟨([40]).toArray⟩, .int .i64 (ax : Int)] 137)).drew)
  case first =>
    go_region_with (fail)
    all_goals go_wp2_with fail
    all_goals go_meet
    all_goals exact ⟨rfl, rfl⟩
  case rest =>
    obtain ⟨hv, hw⟩ := hcut
    subst hv
    subst hw
    have HT2 : Hid (BlkC (w1.alloc (.cells #[.int .i64 4, .string ⟨([40]).toArray⟩, .int .i64 (ax : Int)] 137)).drew w1.heap.size #[.int .i64 4, .string ⟨([40]).toArray⟩, .int .i64 (ax : Int)] 137) := heap_alloc_new w1 _
    have hB2 : Below w1.heap.size w1 (w1.alloc (.cells #[.int .i64 4, .string ⟨([40]).toArray⟩, .int .i64 (ax : Int)] 137)).drew := Below.drew ((Below.refl _ _).alloc (Nat.le_refl _) _)
    have HP2 := Lib.hid (HS1.out.psr.below hB2)
    have hA2 := Lib.hid (hA1.out.below hB2)
    have HO2 := Lib.hid (HO1.out.call hB2)
    have hG : w.heap.size < w1.heap.size := lt_some hA1.out
    have hGb : w1.heap.size ≠ b := by omega
    rw [HNT.out] at HP2
    clear hB2 HS1 hA1 HO1 p0 p1 p2 pf k0 k1 k2 hgl hbl HTK
    generalize (w1.alloc (.cells #[.int .i64 4, .string ⟨([40]).toArray⟩, .int .i64 (ax : Int)] 137)).drew = w2 at HT2 HP2 hA2 HO2 ⊢
    generalize w1.heap.size = G at HT2 hG hGb ⊢
    obtain ⟨_, p1, _, pf⟩ := HP2.out.cells
    have f1 : IntKind.i64.wrap ((i : Int) + 1) = (i : Int) + 1 := IntWalk.i64_in _ (by omega)
    go_upto_region 5 with fail
    have HP3 : Hid (Psr (w2.setCell ⟨b, 1, none⟩ (.int .i64 ((i : Int) + 1))) b (some ⟨g, 0, none⟩) nT cT (i + 1)) := HP2.out.setz ((i : Int) + 1) (i + 1) (by omega)
    have HO3 := Lib.hid (HO2.out.set 1 (.int .i64 ((i : Int) + 1)))
    have HT3 : Hid (BlkC (w2.setCell ⟨b, 1, none⟩ (.int .i64 ((i : Int) + 1))) G #[.int .i64 4, .string ⟨([40]).toArray⟩, .int .i64 (ax : Int)] 137) := (heap_setCell_other _ _ _ _ hGb).trans HT2.out
    have hA3 : Hid (BlkC (w2.setCell ⟨b, 1, none⟩ (.int .i64 ((i : Int) + 1))) w.heap.size (Cel.ndA nodeZ none 0 0) Cel.tPn) := (heap_setCell_other _ _ _ _ (show w.heap.size ≠ b by omega)).trans hA2.out
    clear HP2 HO2 HT2 hA2 p1 pf f1
    generalize w2.setCell ⟨b, 1, none⟩ (.int .i64 ((i : Int) + 1)) = w3 at HP3 HO3 HT3 hA3 ⊢
    have HS3 := Lib.hid (HSW.out.off HO3.out (by rw [HNT.out]; exact HP3.out))
    have c0 : w3.cell? ⟨G, 0, none⟩ = some (.int .i64 4) := HT3.out.cell 0 _ rfl
    have c1 : w3.cell? ⟨G, 1, none⟩ = some (.string ⟨([40]).toArray⟩) := HT3.out.cell 1 _ rfl
    go_wp2_with fail
    refine (HUN.out w3 HS3.out).mono ?_
    rintro e w4 ⟨⟨p, cap, rfl, hk⟩, hp4, ho4⟩
    rename_i KK aK
    go_simp
    refine aK _ _ ?_
    clear aK
    obtain ⟨l, hl⟩ : ∃ l, n.args.length = l := ⟨_, rfl⟩
    rw [hl] at hk ⊢
    have hs3 : w.heap.size < w3.heap.size := lt_some hA3.out
    have hA4 := Lib.hid (ho4.bc (by omega) hA3.out)
    have HP4 := Lib.hid hp4
    have HO4 := Lib.hid (HO3.out.trans ho4)
    have HK4 := Lib.hid hk
    have HL := Lib.hid hl
    have hs4 := ho4.size
    clear hp4 ho4 hk hl hA3 HP3 HO3 HT3 HS3 HUN c0 c1
    rw [show Value.agg (Cel.ndA n p l cap) = .agg #[.int .i64 n.kind, .int .i64 n.num, .string ⟨n.text.toArray⟩, .int .i64 (cC n.frm), .int .i64 (cR n.frm), .int .i64 (cC n.tor), .int .i64 (cR n.tor), .slice p l cap] from rfl]
    iterate 3 (first | go_values | go_step)
    have e2 : w4.alloc (.cells #[.int .i64 0, .int .i64 0, .string ⟨#[]⟩, .int .i64 0, .int .i64 0, .int .i64 0, .int .i64 0, .slice none 0 0] Cel.tPn) = w4.alloc (.cells (Cel.ndA nodeZ none 0 0) Cel.tPn) := rfl
    rw [e2]
    clear e2
    have HG5 : Hid (BlkC (w4.alloc (.cells (Cel.ndA nodeZ none 0 0) Cel.tPn)) w4.heap.size (Cel.ndA nodeZ none 0 0) Cel.tPn) := heap_alloc_new w4 _
    have hAB2 : Below w4.heap.size w4 (w4.alloc (.cells (Cel.ndA nodeZ none 0 0) Cel.tPn)) := by (repeat' (first | (with_reducible exact Below.refl _ _) | (with_reducible assumption) | (with_reducible refine Below.alloc ?_ ?_ _) | (with_reducible refine bel_drewN ?_ _) | (with_reducible refine Below.drew ?_) | (with_reducible refine Below.setCell ?_ ?_ _) | (with_reducible refine bel_call ‹_› ?_ ?_) | go_size))
    have hA5 := Lib.hid (hA4.out.below hAB2)
    have HP5 := Lib.hid (HP4.out.below hAB2)
    have HO5 := Lib.hid (HO4.out.call hAB2)
    have HK5 : Hid (∀ d, dpN n ≤ d + 1 → Cel.RdP (w4.alloc (.cells (Cel.ndA nodeZ none 0 0) Cel.tPn)) (fun k => w3.heap.size ≤ k ∧ k < w4.heap.size) d n p l) := fun d hd => (HK4.out d hd).carry (fun k hk => ⟨hk, hAB2.block k hk.2⟩)
    have hs5 : (w4.alloc (.cells (Cel.ndA nodeZ none 0 0) Cel.tPn)).heap.size = w4.heap.size + 1 := World.size_alloc _ _
    clear hAB2 hA4 HP4 HO4 HK4
    generalize w4.alloc (.cells (Cel.ndA nodeZ none 0 0) Cel.tPn) = w5 at HG5 hA5 HP5 HO5 HK5 hs5 ⊢
    generalize w4.heap.size = G2 at HG5 HK5 hs4 hs5 ⊢
    refine wpList_store_mid (by rfl) _ _ _ (by rfl) G2 0 #[.int .i64 n.kind, .int .i64 n.num, .string ⟨n.text.toArray⟩, .int .i64 (cC n.frm), .int .i64 (cR n.frm), .int .i64 (cC n.tor), .int .i64 (cR n.tor), .slice p l cap] (by rfl) (by rfl) (block_there HG5.out 8 (Nat.le_refl _)) (by kernel_rfl) (by simp [Value.oneCell']) ?_
    have e8 : w5.setCells G2 0 (#[.int .i64 n.kind, .int .i64 n.num, .string ⟨n.text.toArray⟩, .int .i64 (cC n.frm), .int .i64 (cR n.frm), .int .i64 (cC n.tor), .int .i64 (cR n.tor), .slice p l cap]).toList = w5.setCells G2 0 (Cel.ndA n p l cap).toList := rfl
    rw [e8]
    clear e8
    have HG6 : Hid (BlkC (w5.setCells G2 0 (Cel.ndA n p l cap).toList) G2 (Cel.ndA n p l cap) Cel.tPn) := store_block HG5.out _ rfl
    have HO6 : Hid (Off b w (w5.setCells G2 0 (Cel.ndA n p l cap).toList)) := HO5.out.set_cells (by omega) _ _
    have hA6 : Hid (BlkC (w5.setCells G2 0 (Cel.ndA n p l cap).toList) w.heap.size (Cel.ndA nodeZ none 0 0) Cel.tPn) := (store_other (by omega) _ _ _).trans hA5.out
    have HP6 : Hid (Psr (w5.setCells G2 0 (Cel.ndA n p l cap).toList) b (some ⟨g, 0, none⟩) nT cT (i + 1 + k)) := (store_other (by omega) _ _ _).trans HP5.out
    have hz6 := (store_below (Nat.zero_le G2) (Cel.ndA n p l cap).toList 0 w5 (Below.refl 0 w5)).size
    have HK6 : Hid (∀ d, dpN n ≤ d + 1 → Cel.RdP (w5.setCells G2 0 (Cel.ndA n p l cap).toList) (fun k => w.heap.size < k ∧ k < (w5.setCells G2 0 (Cel.ndA n p l cap).toList).heap.size ∧ k ≠ G2) d n p l) := fun d hd => (HK5.out d hd).carry (fun k hk => ⟨⟨by omega, by omega, by omega⟩, store_other (by omega) _ _ _⟩)
    have hGb2 : G2 ≠ b := by omega
    clear HG5 hA5 HP5 HO5 HK5
    generalize w5.setCells G2 0 (Cel.ndA n p l cap).toList = w6 at HG6 hA6 HP6 HO6 HK6 hz6 ⊢
    go_simp
    iterate 3 (first | go_values | go_skip | go_guarded | go_step | go_upon)
    have HS6 := Lib.hid (HSW.out.off HO6.out (by rw [HNT.out]; exact HP6.out))
    go_wp2_with fail
    refine (HIS.out w6 HS6.out).mono ?_
    rintro e w7 ⟨rfl, hp7, ho7⟩
    rw [if_pos rfl] at hp7
    have HP7 : Hid (Psr w7 b (some ⟨g, 0, none⟩) nT cT (i + kk)) := by unfold Hid; rw [← HK.out]; exact hp7
    have HG7 := Lib.hid (ho7.bc hGb2 HG6.out)
    have hA7 := Lib.hid (ho7.bc (by omega) hA6.out)
    have HO7 := Lib.hid (HO6.out.trans ho7)
    have hs7 := ho7.size
    have HK7 : Hid (∀ d, dpN n ≤ d + 1 → Cel.RdP w7 (fun k => w.heap.size < k ∧ k < w7.heap.size) d n p l) := fun d hd => (HK6.out d hd).carry (fun k hk => ⟨⟨hk.1, by omega⟩, ho7.block k hk.2.1 (by omega)⟩)
    clear hp7 ho7 HG6 hA6 HP6 HO6 HK6 HS6 HIS
    go_upto_region 22 with fail
    refine wp_region_lit ?_
    refine wpList_load_mid (by rfl) _ _ (by rfl) G2 0 (by rfl) [.int .i64 n.kind, .int .i64 n.num, .string ⟨n.text.toArray⟩, .int .i64 (cC n.frm), .int .i64 (cR n.frm), .int .i64 (cC n.tor), .int .i64 (cR n.tor), .slice p l cap] _ (block_range HG7.out [.int .i64 n.kind, .int .i64 n.num, .string ⟨n.text.toArray⟩, .int .i64 (cC n.frm), .int .i64 (cR n.frm), .int .i64 (cC n.tor), .int .i64 (cR n.tor), .slice p l cap] rfl) Tryz.underlying44 rfl (by kernel_rfl) ?_
    go_simp
    refine wpList_store_mid (by rfl) _ _ _ (by rfl) w.heap.size 0 #[.int .i64 n.kind, .int .i64 n.num, .string ⟨n.text.toArray⟩, .int .i64 (cC n.frm), .int .i64 (cR n.frm), .int .i64 (cC n.tor), .int .i64 (cR n.tor), .slice p l cap] (by rfl) (by rfl) (block_there hA7.out 8 (Nat.le_refl _)) (by kernel_rfl) (by simp [Value.oneCell']) ?_
    obtain ⟨hs8, hf8⟩ := res_store (n := n) (p := p) (l := l) (cp := cap) hA7.out rfl HP7.out HO7.out hbw HL.out HK7.out
    have HS8 := Lib.hid hs8
    have HF8 := Lib.hid hf8
    clear hs8 hf8
    have e8 : w7.setCells w.heap.size 0 (#[.int .i64 n.kind, .int .i64 n.num, .string ⟨n.text.toArray⟩, .int .i64 (cC n.frm), .int .i64 (cR n.frm), .int .i64 (cC n.tor), .int .i64 (cR n.tor), .slice p l cap]).toList = w7.setCells w.heap.size 0 (Cel.ndA n p l cap).toList := rfl
    rw [e8]
    clear e8
    generalize w7.setCells w.heap.size 0 (Cel.ndA n p l cap).toList = w9 at HS8 HF8 ⊢
    go_simp
    iterate 3 (first | go_values | go_skip | go_guarded | go_step | go_upon)
    apply wp_ret
    try simp only [Exit.inBlock, Exit.then]
    exact bodyPost_ret (results_cell_row rfl _ _ w.heap.size Cel.tPn (Cel.ndA n p l cap) (0, 0) _ rfl HS8.out Tryz.underlying44 rfl (by kernel_rfl)) rfl HF8.out
def NmC (n : Nd) (s : Bs) (l : List Tw) : Prop := ∀ (ws w : World) (b : Nat) (q : Option Addr) (cT i : Nat) (Ts : List Tks.Tk) (rest : List Tw), PSt ws w b q Ts cT i → At Ts i (l ++ rest) → RestOk 5 rest →
  Calls Tryz.prog 127 #[.pointer (some ⟨b, 0, none⟩), .string ⟨s.toArray⟩] w (PaP b q Ts.length cT i l.length n w)
set_option maxRecDepth 100000 in
set_option maxHeartbeats 8000000 in
theorem pr_name (n : Nd) (s : Bs) (lt : List Tw) (htk : tkN nmS n 5 = (3, s) :: lt) (IH : NmC n s lt) : PrC n := by
  intro ws w b q cT i Ts rest hst hat hrs
  rw [htk] at hat ⊢
  have hat' : At Ts i ((3, s) :: (lt ++ rest)) := hat
  obtain ⟨⟨kx, tx, ax⟩, hy1, hy2, hat1⟩ := hat'.get
  obtain ⟨rfl, rfl⟩ : 3 = kx ∧ s = tx := by
    have e : (kx, tx) = ((3 : Int), (s : Bs)) := hy2
    exact ⟨(congrArg Prod.fst e).symm, (congrArg Prod.snd e).symm⟩
  obtain ⟨g, rfl, hgb, _, _, _, _⟩ := hst.tks.at hy1
  have hile := hat'.le
  have hle := hst.len
  have HTK := Lib.hid (fun W (h : TkR W b (some ⟨g, 0, none⟩) Ts) => h.at hy1)
  have hA0 : Hid (BlkC (w.alloc (.cells (Cel.ndA nodeZ none 0 0) Cel.tPn)) w.heap.size (Cel.ndA nodeZ none 0 0) Cel.tPn) := heap_alloc_new w _
  have hAB : Below w.heap.size w (w.alloc (.cells (Cel.ndA nodeZ none 0 0) Cel.tPn)) := by (repeat' (first | (with_reducible exact Below.refl _ _) | (with_reducible assumption) | (with_reducible refine Below.alloc ?_ ?_ _) | (with_reducible refine bel_drewN ?_ _) | (with_reducible refine Below.drew ?_) | (with_reducible refine Below.setCell ?_ ?_ _) | (with_reducible refine bel_call ‹_› ?_ ?_) | go_size))
  have HS0 := Lib.hid (hst.below hAB)
  have HO0 := Lib.hid (Off.of_below (b := b) hAB)
  have hbw := hst.lt
  have HSW := Lib.hid hst
  have HUN := Lib.hid (fun W (h : PSt ws W b (some ⟨g, 0, none⟩) Ts cT (i + 1)) => IH ws W b (some ⟨g, 0, none⟩) cT (i + 1) Ts rest h hat1 hrs)
  have HK := Lib.hid (show i + 1 + lt.length = i + ((3, s) :: lt).length from by simp; omega)
  generalize ((3, s) :: lt).length = kk at HK ⊢
  generalize lt.length = k at HK HUN
  have hin : (i : Int) < (Ts.length : Int) := by omega
  obtain ⟨nT, hnT⟩ : ∃ n, Ts.length = n := ⟨_, rfl⟩
  have HNT := Lib.hid hnT
  rw [hnT] at HUN hle hile hin ⊢
  clear hnT
  clear hst hAB
  go_enter Tryz.func105, Tryz.ntmps105
  go_upto_region 1 with fail
  have e0 : w.alloc (.cells #[.int .i64 0, .int .i64 0, .string ⟨#[]⟩, .int .i64 0, .int .i64 0, .int .i64 0, .int .i64 0, .slice none 0 0] Cel.tPn) = w.alloc (.cells (Cel.ndA nodeZ none 0 0) Cel.tPn) := rfl
  rw [e0]
  clear e0
  generalize w.alloc (.cells (Cel.ndA nodeZ none 0 0) Cel.tPn) = w0 at hA0 HS0 HO0 ⊢
  obtain ⟨p0, p1, p2, _⟩ := HS0.out.psr.cells
  rw [HNT.out] at p0
  have r0 := cell_regrown p0
  have r1 := cell_regrown p1
  have r2 := cell_regrown p2
  have hBR : ∀ dd os, Below w0.heap.size w0 (Go.Sort.grow (redrawn w0 dd) os) := fun dd os => below_regrown w0 dd os
  refine wp_region_quiet_below (by kernel_rfl) (by kernel_rfl) ?_
  repeat (go_big_quiet_step (fail))
  refine wpQuiet_nil ?_
  intro _ hw'
  obtain ⟨⟨dz, osz⟩, hw''⟩ := hw'
  subst hw''
  have hB1 := hBR dz osz
  have HS1 := Lib.hid (HS0.out.below hB1)
  have hA1 := Lib.hid (hA0.out.below hB1)
  have HO1 := Lib.hid (HO0.out.call hB1)
  clear r0 r1 r2 hBR hB1 p0 p1 p2 HS0 hA0 HO0
  generalize Go.Sort.grow (redrawn w0 dz) osz = w1 at HS1 hA1 HO1 ⊢
  obtain ⟨p0, p1, p2, pf⟩ := HS1.out.psr.cells
  rw [HNT.out] at p0
  obtain ⟨g', hg', _, hgl, k0, k1, k2⟩ := HTK.out w1 HS1.out.tks
  cases hg'
  have hbl := HS1.out.lt
  simp only at k0 k1 k2
  go_upto_region 3 with fail
  go_cut [3] (fun v3 wx => v3 = .pointer (some ⟨w1.heap.size, 0, none⟩) ∧ wx = (w1.alloc (.cells #[.int .i64 3, .string ⟨(s).toArray⟩, .int .i64 (ax : Int)] 137)).drew)
  case first =>
    go_region_with (fail)
    all_goals go_wp2_with fail
    all_goals go_meet
    all_goals exact ⟨rfl, rfl⟩
  case rest =>
    obtain ⟨hv, hw⟩ := hcut
    subst hv
    subst hw
    have HT2 : Hid (BlkC (w1.alloc (.cells #[.int .i64 3, .string ⟨(s).toArray⟩, .int .i64 (ax : Int)] 137)).drew w1.heap.size #[.int .i64 3, .string ⟨(s).toArray⟩, .int .i64 (ax : Int)] 137) := heap_alloc_new w1 _
    have hB2 : Below w1.heap.size w1 (w1.alloc (.cells #[.int .i64 3, .string ⟨(s).toArray⟩, .int .i64 (ax : Int)] 137)).drew := Below.drew ((Below.refl _ _).alloc (Nat.le_refl _) _)
    have HP2 := Lib.hid (HS1.out.psr.below hB2)
    have hA2 := Lib.hid (hA1.out.below hB2)
    have HO2 := Lib.hid (HO1.out.call hB2)
    have hG : w.heap.size < w1.heap.size := lt_some hA1.out
    have hGb : w1.heap.size ≠ b := by omega
    rw [HNT.out] at HP2
    clear hB2 HS1 hA1 HO1 p0 p1 p2 pf k0 k1 k2 hgl hbl HTK
    generalize (w1.alloc (.cells #[.int .i64 3, .string ⟨(s).toArray⟩, .int .i64 (ax : Int)] 137)).drew = w2 at HT2 HP2 hA2 HO2 ⊢
    generalize w1.heap.size = G at HT2 hG hGb ⊢
    obtain ⟨_, p1, _, pf⟩ := HP2.out.cells
    have f1 : IntKind.i64.wrap ((i : Int) + 1) = (i : Int) + 1 := IntWalk.i64_in _ (by omega)
    go_upto_region 5 with fail
    have HP3 : Hid (Psr (w2.setCell ⟨b, 1, none⟩ (.int .i64 ((i : Int) + 1))) b (some ⟨g, 0, none⟩) nT cT (i + 1)) := HP2.out.setz ((i : Int) + 1) (i + 1) (by omega)
    have HO3 := Lib.hid (HO2.out.set 1 (.int .i64 ((i : Int) + 1)))
    have HT3 : Hid (BlkC (w2.setCell ⟨b, 1, none⟩ (.int .i64 ((i : Int) + 1))) G #[.int .i64 3, .string ⟨(s).toArray⟩, .int .i64 (ax : Int)] 137) := (heap_setCell_other _ _ _ _ hGb).trans HT2.out
    have hA3 : Hid (BlkC (w2.setCell ⟨b, 1, none⟩ (.int .i64 ((i : Int) + 1))) w.heap.size (Cel.ndA nodeZ none 0 0) Cel.tPn) := (heap_setCell_other _ _ _ _ (show w.heap.size ≠ b by omega)).trans hA2.out
    clear HP2 HO2 HT2 hA2 p1 pf f1
    generalize w2.setCell ⟨b, 1, none⟩ (.int .i64 ((i : Int) + 1)) = w3 at HP3 HO3 HT3 hA3 ⊢
    have HS3 := Lib.hid (HSW.out.off HO3.out (by rw [HNT.out]; exact HP3.out))
    have c0 : w3.cell? ⟨G, 0, none⟩ = some (.int .i64 3) := HT3.out.cell 0 _ rfl
    have c1 : w3.cell? ⟨G, 1, none⟩ = some (.string ⟨(s).toArray⟩) := HT3.out.cell 1 _ rfl
    go_wp2_with fail
    refine (HUN.out w3 HS3.out).mono ?_
    rintro e w4 ⟨⟨p, cap, rfl, hk⟩, hp4, ho4⟩
    rename_i KK aK
    go_simp
    refine aK _ _ ?_
    clear aK
    obtain ⟨l, hl⟩ : ∃ l, n.args.length = l := ⟨_, rfl⟩
    rw [hl] at hk ⊢
    have hs3 : w.heap.size < w3.heap.size := lt_some hA3.out
    have hA4 := Lib.hid (ho4.bc (by omega) hA3.out)
    have HP4 : Hid (Psr w4 b (some ⟨g, 0, none⟩) nT cT (i + kk)) := by unfold Hid; rw [← HK.out]; exact hp4
    have HO4 := Lib.hid (HO3.out.trans ho4)
    have HK4 := Lib.hid hk
    have HL := Lib.hid hl
    have hs4 := ho4.size
    clear hp4 ho4 hk hl hA3 HP3 HO3 HT3 HS3 HUN c0 c1
    rw [show Value.agg (Cel.ndA n p l cap) = .agg #[.int .i64 n.kind, .int .i64 n.num, .string ⟨n.text.toArray⟩, .int .i64 (cC n.frm), .int .i64 (cR n.frm), .int .i64 (cC n.tor), .int .i64 (cR n.tor), .slice p l cap] from rfl]
    refine wpList_store_mid (by rfl) _ _ _ (by rfl) w.heap.size 0 #[.int .i64 n.kind, .int .i64 n.num, .string ⟨n.text.toArray⟩, .int .i64 (cC n.frm), .int .i64 (cR n.frm), .int .i64 (cC n.tor), .int .i64 (cR n.tor), .slice p l cap] (by rfl) (by rfl) (block_there hA4.out 8 (Nat.le_refl _)) (by kernel_rfl) (by simp [Value.oneCell']) ?_
    obtain ⟨hs8, hf8⟩ := res_store (n := n) (p := p) (l := l) (cp := cap) hA4.out rfl HP4.out HO4.out hbw HL.out (fun d hd => (HK4.out d hd).carry (fun k hk => ⟨⟨by omega, by omega⟩, rfl⟩))
    have HS8 := Lib.hid hs8
    have HF8 := Lib.hid hf8
    clear hs8 hf8
    have e8 : w4.setCells w.heap.size 0 (#[.int .i64 n.kind, .int .i64 n.num, .string ⟨n.text.toArray⟩, .int .i64 (cC n.frm), .int .i64 (cR n.frm), .int .i64 (cC n.tor), .int .i64 (cR n.tor), .slice p l cap]).toList = w4.setCells w.heap.size 0 (Cel.ndA n p l cap).toList := rfl
    rw [e8]
    clear e8
    generalize w4.setCells w.heap.size 0 (Cel.ndA n p l cap).toList = w9 at HS8 HF8 ⊢
    go_simp
    iterate 3 (first | go_values | go_skip | go_guarded | go_step | go_upon)
    apply wp_ret
    try simp only [Exit.inBlock, Exit.then]
    exact bodyPost_ret (results_cell_row rfl _ _ w.heap.size Cel.tPn (Cel.ndA n p l cap) (0, 0) _ rfl HS8.out Tryz.underlying44 rfl (by kernel_rfl)) rfl HF8.out
end Go.Proofs.YtbdgdhjhgcpidaaGreatDoor
namespace Go.Proofs.YtbdgdhjhgcpidaaGreatDoor
open Go.RowKit Go.Joins
theorem blk_two {w : World} {b : Nat} {u0 u1 v0 v1 : Value} {T : TypeId} (h : BlkC w b #[u0, u1] T) : BlkC ((w.setCell ⟨b, 0, none⟩ v0).setCell ⟨b, 1, none⟩ v1) b #[v0, v1] T := block_setCell (block_setCell h v0) v1
theorem aparse_nm (k : Int) (h : OkC k) (w : World) : Calls Tryz.prog 142 #[.string ⟨(nmS k).toArray⟩] w fun e w' => e = .returned (.tuple #[.agg #[.int .i64 (cC k), .int .i64 (cR k)], .int .i64 0]) ∧ Below w.heap.size w w' := aparse_any (cC k) (cR k) h w
set_option maxRecDepth 100000 in
set_option maxHeartbeats 8000000 in
theorem nm_ref (f : Int) (hf : OkC f) : NmC (Nd.mk 3 0 [] f 0 []) (nmS f) [] := by
  intro ws w b q cT i Ts rest hst hat hrs
  have hat' : At Ts i rest := hat
  obtain ⟨hb1, hb2, _⟩ := isB_rest hat' hrs
  have hA0 : Hid (BlkC (w.alloc (.cells (Cel.ndA nodeZ none 0 0) Cel.tPn)) w.heap.size (Cel.ndA nodeZ none 0 0) Cel.tPn) := heap_alloc_new w _
  have hAB : Below w.heap.size w (w.alloc (.cells (Cel.ndA nodeZ none 0 0) Cel.tPn)) := by (repeat' (first | (with_reducible exact Below.refl _ _) | (with_reducible assumption) | (with_reducible refine Below.alloc ?_ ?_ _) | (with_reducible refine bel_drewN ?_ _) | (with_reducible refine Below.drew ?_) | (with_reducible refine Below.setCell ?_ ?_ _) | (with_reducible refine bel_call ‹_› ?_ ?_) | go_size))
  have HS0 := Lib.hid (hst.below hAB)
  have HO0 := Lib.hid (Off.of_below (b := b) hAB)
  have hbw := hst.lt
  have HSW := Lib.hid hst
  have HIS1 := Lib.hid (fun W (h : PSt ws W b q Ts cT i) => is_any b q cT i Ts [40] W h.psr h.tks h.len)
  have HIS2 := Lib.hid (fun W (h : PSt ws W b q Ts cT i) => is_any b q cT i Ts [58] W h.psr h.tks h.len)
  rw [hb1] at HIS1
  rw [hb2] at HIS2
  have HPA := Lib.hid (fun W => aparse_nm f hf W)
  generalize nmS f = s at HPA ⊢
  clear hat hat' hrs hb1 hb2 hf
  obtain ⟨nT, hnT⟩ : ∃ n, Ts.length = n := ⟨_, rfl⟩
  have HNT := Lib.hid hnT
  rw [hnT] at HIS1 HIS2 ⊢
  clear hnT
  clear hst hAB
  go_enter Tryz.func127, Tryz.ntmps127
  go_upto_region 1 with fail
  have e0 : w.alloc (.cells #[.int .i64 0, .int .i64 0, .string ⟨#[]⟩, .int .i64 0, .int .i64 0, .int .i64 0, .int .i64 0, .slice none 0 0] Cel.tPn) = w.alloc (.cells (Cel.ndA nodeZ none 0 0) Cel.tPn) := rfl
  rw [e0]
  clear e0
  generalize w.alloc (.cells (Cel.ndA nodeZ none 0 0) Cel.tPn) = w0 at hA0 HS0 HO0 ⊢
  go_wp2_with fail
  refine (HIS1.out w0 HS0.out).mono ?_
  rintro e w1 ⟨rfl, hp, ho⟩
  rw [if_neg (by simp)] at hp
  have hA1 := Lib.hid (ho.bc (by omega) hA0.out)
  have HO1 := Lib.hid (HO0.out.trans ho)
  have HP1 := Lib.hid hp
  have HS1 := Lib.hid (HSW.out.off HO1.out (by rw [HNT.out]; exact hp))
  have hs1 := ho.size
  clear hp ho hA0 HO0 HS0
  go_wp2_with fail
  refine (HPA.out w1).mono ?_
  rintro e wy ⟨rfl, hb⟩
  have hAy := Lib.hid (hA1.out.below hb)
  have HOy := Lib.hid (HO1.out.call hb)
  have HPy := Lib.hid (HP1.out.below hb)
  have hsy : w.heap.size < wy.heap.size := lt_some hAy.out
  clear hb hA1 HO1 HP1 HS1
  go_upto_region 4 with fail
  have HG2 : Hid (BlkC (wy.alloc (.cells #[.int .i64 (cC f), .int .i64 (cR f)] 23)) wy.heap.size #[.int .i64 (cC f), .int .i64 (cR f)] 23) := heap_alloc_new wy _
  have hb : Below wy.heap.size wy (wy.alloc (.cells #[.int .i64 (cC f), .int .i64 (cR f)] 23)) := (Below.refl _ _).alloc (Nat.le_refl _) _
  have hA2 := Lib.hid (hAy.out.below hb)
  have HO2 := Lib.hid (HOy.out.call hb)
  have HP2 := Lib.hid (HPy.out.below hb)
  have HS2 := Lib.hid (HSW.out.off HO2.out (by rw [HNT.out]; exact HP2.out))
  clear hb hAy HOy HPy
  generalize wy.alloc (.cells #[.int .i64 (cC f), .int .i64 (cR f)] 23) = w2 at HG2 hA2 HO2 HP2 HS2 ⊢
  generalize wy.heap.size = G at HG2 hsy ⊢
  go_wp2_with fail
  refine (HIS2.out w2 HS2.out).mono ?_
  rintro e w3 ⟨rfl, hp, ho⟩
  rw [if_neg (by simp)] at hp
  have hA3 := Lib.hid (ho.bc (by omega) hA2.out)
  have HO3 := Lib.hid (HO2.out.trans ho)
  have HP3 := Lib.hid hp
  have HS3 := Lib.hid (HSW.out.off HO3.out (by rw [HNT.out]; exact hp))
  have hs3 := ho.size
  have HG3 := Lib.hid (ho.bc (by omega) HG2.out)
  clear hp ho hA2 HO2 HS2 HG2
  go_upto_region 7 with fail
  refine wp_region_lit ?_
  refine wpList_load_mid (by rfl) _ _ (by rfl) G 0 (by rfl) [.int .i64 (cC f), .int .i64 (cR f)] _ (block_range HG3.out [.int .i64 (cC f), .int .i64 (cR f)] rfl) Tryz.underlying23 rfl (by kernel_rfl) ?_
  go_simp
  refine wpList_plain rfl fun K hK => ?_
  go_simp
  refine hK _ _ ?_
  clear hK K
  refine wpList_store_mid (by rfl) _ _ _ (by rfl) w.heap.size 0 #[.int .i64 3, .int .i64 0, .string ⟨#[]⟩, .int .i64 (cC f), .int .i64 (cR f), .int .i64 0, .int .i64 0, .slice none 0 0] (by rfl) (by rfl) (block_there hA3.out 8 (Nat.le_refl _)) (by kernel_rfl) (by simp [Value.oneCell']) ?_
  obtain ⟨hs8, hf8⟩ := res_store (n := (Nd.mk 3 0 [] f 0 [])) (p := none) (l := 0) (cp := 0) (k := 0) hA3.out rfl HP3.out HO3.out hbw rfl (fun d _ => rdp_leaf _ _ rfl _ d)
  have HS8 := Lib.hid hs8
  have HF8 := Lib.hid hf8
  clear hs8 hf8
  have e8 : w3.setCells w.heap.size 0 (#[.int .i64 3, .int .i64 0, .string ⟨#[]⟩, .int .i64 (cC f), .int .i64 (cR f), .int .i64 0, .int .i64 0, .slice none 0 0]).toList = w3.setCells w.heap.size 0 (Cel.ndA (Nd.mk 3 0 [] f 0 []) none 0 0).toList := rfl
  rw [e8]
  clear e8
  generalize w3.setCells w.heap.size 0 (Cel.ndA (Nd.mk 3 0 [] f 0 []) none 0 0).toList = w9 at HS8 HF8 ⊢
  go_simp
  iterate 3 (first | go_values | go_skip | go_guarded | go_step | go_upon)
  apply wp_ret
  try simp only [Exit.inBlock, Exit.then]
  exact bodyPost_ret (results_cell_row rfl _ _ w.heap.size Cel.tPn (Cel.ndA (Nd.mk 3 0 [] f 0 []) none 0 0) (0, 0) _ rfl HS8.out Tryz.underlying44 rfl (by kernel_rfl)) rfl HF8.out
set_option maxRecDepth 100000 in
set_option maxHeartbeats 8000000 in
theorem nm_rng (f o : Int) (hf : OkC f) (ho : OkC o) : NmC (Nd.mk 4 0 [] f o []) (nmS f) [(4, [58]), (3, nmS o)] := by
  intro ws w b q cT i Ts rest hst hat hrs
  have hat' : At Ts i ((4, [58]) :: (3, nmS o) :: rest) := hat
  obtain ⟨_, _, _, hat1⟩ := hat'.get
  have hile := hat1.le
  obtain ⟨⟨kx, tx, ax⟩, hy1, hy2, _⟩ := hat1.get
  obtain ⟨rfl, rfl⟩ : 3 = kx ∧ nmS o = tx := by
    have e : (kx, tx) = ((3 : Int), (nmS o : Bs)) := hy2
    exact ⟨(congrArg Prod.fst e).symm, (congrArg Prod.snd e).symm⟩
  obtain ⟨g, rfl, hgb, _, _, _, _⟩ := hst.tks.at hy1
  have hle := hst.len
  have HTK := Lib.hid (fun W (h : TkR W b (some ⟨g, 0, none⟩) Ts) => h.at hy1)
  have hb1 : isB Ts i [40] = false := by rw [isB_head hat']; rfl
  have hb2 : isB Ts i [58] = true := by rw [isB_head hat']; rfl
  have hA0 : Hid (BlkC (w.alloc (.cells (Cel.ndA nodeZ none 0 0) Cel.tPn)) w.heap.size (Cel.ndA nodeZ none 0 0) Cel.tPn) := heap_alloc_new w _
  have hAB : Below w.heap.size w (w.alloc (.cells (Cel.ndA nodeZ none 0 0) Cel.tPn)) := by (repeat' (first | (with_reducible exact Below.refl _ _) | (with_reducible assumption) | (with_reducible refine Below.alloc ?_ ?_ _) | (with_reducible refine bel_drewN ?_ _) | (with_reducible refine Below.drew ?_) | (with_reducible refine Below.setCell ?_ ?_ _) | (with_reducible refine bel_call ‹_› ?_ ?_) | go_size))
  have HS0 := Lib.hid (hst.below hAB)
  have HO0 := Lib.hid (Off.of_below (b := b) hAB)
  have hbw := hst.lt
  have HSW := Lib.hid hst
  have HIS1 := Lib.hid (fun W (h : PSt ws W b (some ⟨g, 0, none⟩) Ts cT i) => is_any b (some ⟨g, 0, none⟩) cT i Ts [40] W h.psr h.tks h.len)
  have HIS2 := Lib.hid (fun W (h : PSt ws W b (some ⟨g, 0, none⟩) Ts cT i) => is_any b (some ⟨g, 0, none⟩) cT i Ts [58] W h.psr h.tks h.len)
  rw [hb1] at HIS1
  rw [hb2] at HIS2
  have HPA := Lib.hid (fun W => aparse_nm f hf W)
  have HPB := Lib.hid (fun W => aparse_nm o ho W)
  generalize nmS f = s at HPA ⊢
  obtain ⟨so, hso⟩ : ∃ so, nmS o = so := ⟨_, rfl⟩
  rw [hso] at HTK HPB
  have HKK : Hid ([((4 : Int), ([58] : Bs)), (3, nmS o)].length = 2) := rfl
  generalize [((4 : Int), ([58] : Bs)), (3, nmS o)].length = kk at HKK ⊢
  obtain ⟨j, hj⟩ : ∃ j, i + 1 = j := ⟨_, rfl⟩
  rw [hj] at HTK hile
  have HJ := Lib.hid hj
  clear hat hat' hrs hb1 hb2 hf ho hat1 hy1 hy2 hso hj
  obtain ⟨nT, hnT⟩ : ∃ n, Ts.length = n := ⟨_, rfl⟩
  have HNT := Lib.hid hnT
  rw [hnT] at HIS1 HIS2 hile hle ⊢
  clear hnT
  clear hst hAB
  go_enter Tryz.func127, Tryz.ntmps127
  go_upto_region 1 with fail
  have e0 : w.alloc (.cells #[.int .i64 0, .int .i64 0, .string ⟨#[]⟩, .int .i64 0, .int .i64 0, .int .i64 0, .int .i64 0, .slice none 0 0] Cel.tPn) = w.alloc (.cells (Cel.ndA nodeZ none 0 0) Cel.tPn) := rfl
  rw [e0]
  clear e0
  generalize w.alloc (.cells (Cel.ndA nodeZ none 0 0) Cel.tPn) = w0 at hA0 HS0 HO0 ⊢
  go_wp2_with fail
  refine (HIS1.out w0 HS0.out).mono ?_
  rintro e w1 ⟨rfl, hp, ho⟩
  rw [if_neg (by simp)] at hp
  have hA1 := Lib.hid (ho.bc (by omega) hA0.out)
  have HO1 := Lib.hid (HO0.out.trans ho)
  have HP1 := Lib.hid hp
  have HS1 := Lib.hid (HSW.out.off HO1.out (by rw [HNT.out]; exact hp))
  have hs1 := ho.size
  clear hp ho hA0 HO0 HS0
  go_wp2_with fail
  refine (HPA.out w1).mono ?_
  rintro e wy ⟨rfl, hb⟩
  have hAy := Lib.hid (hA1.out.below hb)
  have HOy := Lib.hid (HO1.out.call hb)
  have HPy := Lib.hid (HP1.out.below hb)
  have hsy : w.heap.size < wy.heap.size := lt_some hAy.out
  clear hb hA1 HO1 HP1 HS1
  go_upto_region 4 with fail
  have HG2 : Hid (BlkC (wy.alloc (.cells #[.int .i64 (cC f), .int .i64 (cR f)] 23)) wy.heap.size #[.int .i64 (cC f), .int .i64 (cR f)] 23) := heap_alloc_new wy _
  have hb : Below wy.heap.size wy (wy.alloc (.cells #[.int .i64 (cC f), .int .i64 (cR f)] 23)) := (Below.refl _ _).alloc (Nat.le_refl _) _
  have hA2 := Lib.hid (hAy.out.below hb)
  have HO2 := Lib.hid (HOy.out.call hb)
  have HP2 := Lib.hid (HPy.out.below hb)
  have HS2 := Lib.hid (HSW.out.off HO2.out (by rw [HNT.out]; exact HP2.out))
  clear hb hAy HOy HPy
  generalize wy.alloc (.cells #[.int .i64 (cC f), .int .i64 (cR f)] 23) = w2 at HG2 hA2 HO2 HP2 HS2 ⊢
  generalize wy.heap.size = G at HG2 hsy ⊢
  go_wp2_with fail
  refine (HIS2.out w2 HS2.out).mono ?_
  rintro e w3 ⟨rfl, hp, ho⟩
  rw [if_pos rfl] at hp
  have hA3 := Lib.hid (ho.bc (by omega) hA2.out)
  have HO3 := Lib.hid (HO2.out.trans ho)
  have HP3 := Lib.hid hp
  have HS3 := Lib.hid (HSW.out.off HO3.out (by rw [HNT.out]; exact hp))
  have hs3 := ho.size
  have HG3 := Lib.hid (ho.bc (by omega) HG2.out)
  clear hp ho hA2 HO2 HS2 HG2
  have HP3j : Hid (Psr w3 b (some ⟨g, 0, none⟩) nT cT j) := by unfold Hid; rw [← HJ.out]; exact HP3.out
  obtain ⟨p0, p1, p2, _⟩ := HP3j.out.cells
  obtain ⟨g', hg', _, _, k0, k1, k2⟩ := HTK.out w3 HS3.out.tks
  cases hg'
  try simp only at k0 k1 k2
  have hin : (j : Int) < (nT : Int) := by omega
  have hin2 : ¬ nT ≤ j := by omega
  have r0 := cell_regrown p0
  have r1 := cell_regrown p1
  have r2 := cell_regrown k0
  have hBR : ∀ dd os, Below w3.heap.size w3 (Go.Sort.grow (redrawn w3 dd) os) := fun dd os => below_regrown w3 dd os
  clear HP3
  go_upto_region 8 with fail
  refine wp_region_quiet_below (by kernel_rfl) (by kernel_rfl) ?_
  repeat (go_big_quiet_step (fail))
  refine wpQuiet_nil ?_
  intro _ hw'
  obtain ⟨⟨dz, osz⟩, hw''⟩ := hw'
  subst hw''
  have hB4 := hBR dz osz
  have HP4 := Lib.hid (HP3j.out.below hB4)
  have hA4 := Lib.hid (hA3.out.below hB4)
  have HG4 := Lib.hid (HG3.out.below hB4)
  have HO4 := Lib.hid (HO3.out.call hB4)
  have HT4 := Lib.hid (HS3.out.tks.off (Off.of_below hB4))
  clear r0 r1 r2 hBR p0 p1 p2 k0 k1 k2 HP3j hA3 HG3 HO3 HS3
  have hz4 := hB4.size
  clear hB4
  generalize Go.Sort.grow (redrawn w3 dz) osz = w4 at HP4 hA4 HG4 HO4 HT4 hz4 ⊢
  obtain ⟨p0, p1, p2, pf⟩ := HP4.out.cells
  obtain ⟨g', hg', _, hgl, k0, k1, k2⟩ := HTK.out w4 HT4.out
  cases hg'
  try simp only at k0 k1 k2
  have hbl : b < w4.heap.size := lt_some HP4.out
  go_upto_region 10 with fail
  go_cut [6, 7] (fun v6 v7 wx => v6 = .int .i64 0 ∧ ∃ G2, v7 = .pointer (some ⟨G2, 0, none⟩) ∧ w4.heap.size ≤ G2 ∧ BlkC wx G2 #[.int .i64 (cC o), .int .i64 (cR o)] 23 ∧ Below w4.heap.size w4 wx)
  case first =>
    go_region_with (go_at_call 142; refine (HPB.out _).mono ?_; rintro e wz ⟨rfl, hbz⟩; obtain ⟨hcz, hfz, hzz⟩ := bcell hbz (by first | (simp only [World.size_alloc, World.size_setCell, World.size_drew]; rfl) | rfl))
    all_goals go_wp2_with fail
    all_goals go_meet
    all_goals (refine ⟨rfl, _, rfl, ?_, ?_, ?_⟩)
    all_goals first
      | ((repeat' (first | (with_reducible exact Below.refl _ _) | (with_reducible assumption) | (with_reducible refine Below.alloc ?_ ?_ _) | (with_reducible refine bel_drewN ?_ _) | (with_reducible refine Below.drew ?_) | (with_reducible refine Below.setCell ?_ ?_ _) | (with_reducible refine bel_call ‹_› ?_ ?_) | go_size)); done)
      | omega
      | exact heap_alloc_new _ _
      | exact blk_two ((hbz.block _ (lt_some (heap_alloc_new w4 _))).trans (heap_alloc_new w4 _))
  case rest =>
    obtain ⟨hv6, G2, hv7, hG2, hT5, hB5⟩ := hcut
    subst hv6
    subst hv7
    have HT5 := Lib.hid hT5
    have HP5 := Lib.hid (HP4.out.below hB5)
    have hA5 := Lib.hid (hA4.out.below hB5)
    have HG5 := Lib.hid (HG4.out.below hB5)
    have HO5 := Lib.hid (HO4.out.call hB5)
    have hG2b : G2 ≠ b := by omega
    have hw4 : w.heap.size < w4.heap.size := lt_some hA4.out
    clear hT5 hB5 HP4 hA4 HG4 HO4 HT4 p0 p1 p2 pf k0 k1 k2 HPB HPA HTK
    obtain ⟨_, p1, _, pf⟩ := HP5.out.cells
    have f1 : IntKind.i64.wrap ((j : Int) + 1) = (j : Int) + 1 := IntWalk.i64_in _ (by omega)
    go_upto_region 12 with fail
    have HP6 : Hid (Psr (wc.setCell ⟨b, 1, none⟩ (.int .i64 ((j : Int) + 1))) b (some ⟨g, 0, none⟩) nT cT (i + kk)) := HP5.out.setz ((j : Int) + 1) (i + kk) (by have := HJ.out; have := HKK.out; omega)
    have HO6 := Lib.hid (HO5.out.set 1 (.int .i64 ((j : Int) + 1)))
    have HT6 : Hid (BlkC (wc.setCell ⟨b, 1, none⟩ (.int .i64 ((j : Int) + 1))) G2 #[.int .i64 (cC o), .int .i64 (cR o)] 23) := (heap_setCell_other _ _ _ _ hG2b).trans HT5.out
    have HG6 : Hid (BlkC (wc.setCell ⟨b, 1, none⟩ (.int .i64 ((j : Int) + 1))) G #[.int .i64 (cC f), .int .i64 (cR f)] 23) := (heap_setCell_other _ _ _ _ (show G ≠ b by omega)).trans HG5.out
    have hA6 : Hid (BlkC (wc.setCell ⟨b, 1, none⟩ (.int .i64 ((j : Int) + 1))) w.heap.size (Cel.ndA nodeZ none 0 0) Cel.tPn) := (heap_setCell_other _ _ _ _ (show w.heap.size ≠ b by omega)).trans hA5.out
    clear HP5 HO5 HT5 HG5 hA5 p1 pf f1
    generalize wc.setCell ⟨b, 1, none⟩ (.int .i64 ((j : Int) + 1)) = w6 at HP6 HO6 HT6 HG6 hA6 ⊢
    go_upto_region 14 with fail
    refine wp_region_lit ?_
    refine wpList_load_mid (by rfl) _ _ (by rfl) G 0 (by rfl) [.int .i64 (cC f), .int .i64 (cR f)] _ (block_range HG6.out [.int .i64 (cC f), .int .i64 (cR f)] rfl) Tryz.underlying23 rfl (by kernel_rfl) ?_
    go_simp
    refine wpList_load_mid (by rfl) _ _ (by rfl) G2 0 (by rfl) [.int .i64 (cC o), .int .i64 (cR o)] _ (block_range HT6.out [.int .i64 (cC o), .int .i64 (cR o)] rfl) Tryz.underlying23 rfl (by kernel_rfl) ?_
    go_simp
    refine wpList_plain rfl fun K hK => ?_
    go_simp
    refine hK _ _ ?_
    clear hK K
    refine wpList_store_mid (by rfl) _ _ _ (by rfl) w.heap.size 0 #[.int .i64 4, .int .i64 0, .string ⟨#[]⟩, .int .i64 (cC f), .int .i64 (cR f), .int .i64 (cC o), .int .i64 (cR o), .slice none 0 0] (by rfl) (by rfl) (block_there hA6.out 8 (Nat.le_refl _)) (by kernel_rfl) (by simp [Value.oneCell']) ?_
    obtain ⟨hs8, hf8⟩ := res_store (n := (Nd.mk 4 0 [] f o [])) (p := none) (l := 0) (cp := 0) hA6.out rfl HP6.out HO6.out hbw rfl (fun d _ => rdp_leaf _ _ rfl _ d)
    have HS8 := Lib.hid hs8
    have HF8 := Lib.hid hf8
    clear hs8 hf8
    have e8 : w6.setCells w.heap.size 0 (#[.int .i64 4, .int .i64 0, .string ⟨#[]⟩, .int .i64 (cC f), .int .i64 (cR f), .int .i64 (cC o), .int .i64 (cR o), .slice none 0 0]).toList = w6.setCells w.heap.size 0 (Cel.ndA (Nd.mk 4 0 [] f o []) none 0 0).toList := rfl
    rw [e8]
    clear e8
    generalize w6.setCells w.heap.size 0 (Cel.ndA (Nd.mk 4 0 [] f o []) none 0 0).toList = w9 at HS8 HF8 ⊢
    go_simp
    iterate 3 (first | go_values | go_skip | go_guarded | go_step | go_upon)
    apply wp_ret
    try simp only [Exit.inBlock, Exit.then]
    exact bodyPost_ret (results_cell_row rfl _ _ w.heap.size Cel.tPn (Cel.ndA (Nd.mk 4 0 [] f o []) none 0 0) (0, 0) _ rfl HS8.out Tryz.underlying44 rfl (by kernel_rfl)) rfl HF8.out
end Go.Proofs.YtbdgdhjhgcpidaaGreatDoor
