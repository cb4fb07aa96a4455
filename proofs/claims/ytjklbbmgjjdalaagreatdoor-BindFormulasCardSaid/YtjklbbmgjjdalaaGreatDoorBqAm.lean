/- The document's Formula, at any text: a tree that may be, or an error. Printed by gen_rr.py. -/
import Derived.Test.YtjklbbmgjjdalaaGreatDoorBqAk
import Derived.Test.YtjklbbmgjjdalaaGreatDoorBqAl
set_option linter.unusedSimpArgs false
set_option linter.unusedVariables false
namespace Go.Proofs.YtjklbbmgjjdalaaGreatDoor
open Go.RowKit Go.Joins
theorem blk_drew {w : World} {b : Nat} {cs : Array Value} {t : TypeId} (h : BlkC w b cs t) : BlkC w.drew b cs t := h
theorem blk_eq {w : World} {b : Nat} {cs cs' : Array Value} {t : TypeId} (h : BlkC w b cs t) (e : cs' = cs) : BlkC w b cs' t := by rw [e]; exact h
mutual
theorem dp_cn : ∀ n : Nd, dpN n ≤ cnN n
  | .mk k u t f o a => by
    have := dp_cnL a 0
    rw [dpN, cnN]
    omega
theorem dp_cnL : ∀ (a : List Nd) (m : Nat), dpL a m ≤ max m (cnL a)
  | [], m => by rw [dpL]; omega
  | c :: r, m => by
    have h1 := dp_cn c
    have h2 := dp_cnL r (max m (dpN c))
    rw [dpL, cnL]
    omega
end
def RfmP (w : World) (e : Ending) (w' : World) : Prop := (∃ (n : Nd) (p : Option Addr) (l cap : Nat) (k : Int), e = .returned (.tuple #[.agg (ndA n p l cap), .int .i64 k]) ∧ (k = 0 → l = n.args.length ∧ Fm n ∧ OkN n ∧ cnN n ≤ 1000 ∧ wtN n ≤ 260000 ∧ dpN n ≤ 64 ∧ ∀ d, dpN n ≤ d + 1 → RdP w' (fun k => w.heap.size ≤ k ∧ k < w'.heap.size) d n p l)
  ∧ (k ≠ 0 → ∀ d, RdP w' (fun k => w.heap.size ≤ k ∧ k < w'.heap.size) d n p l)) ∧ Below w.heap.size w w'
set_option maxRecDepth 100000 in
set_option maxHeartbeats 8000000 in
theorem rformula_any (s : ByteArray) (w : World) : Calls Tryz.prog 26 #[.string s] w (RfmP w) := by
  have hA0 : Hid (BlkC (w.alloc (.cells (ndA ndZ none 0 0) tRn)) w.heap.size (ndA ndZ none 0 0) tRn) := heap_alloc_new w _
  have hB0 : Hid (Below w.heap.size w (w.alloc (.cells (ndA ndZ none 0 0) tRn))) := by unfold Hid; (repeat' (first | (with_reducible exact Below.refl _ _) | (with_reducible assumption) | (with_reducible refine Below.alloc ?_ ?_ _) | (with_reducible refine bel_drewN ?_ _) | (with_reducible refine Below.drew ?_) | (with_reducible refine Below.setCell ?_ ?_ _) | (with_reducible refine bel_call ‹_› ?_ ?_) | go_size))
  have HSP := Lib.hid (fun (hs : s.size ≤ 256) R hR W => Tks.refSplit_any s R (by omega) hR W)
  have HDL := Lib.hid (Lib.size_eq s)
  go_enter Tryz.func26, Tryz.ntmps26
  go_upto_region 1 with fail
  have e0 : w.alloc (.cells #[.int .i64 0, .int .i64 0, .string ⟨#[]⟩, .int .i64 0, .int .i64 0, .slice none 0 0] tRn) = w.alloc (.cells (ndA ndZ none 0 0) tRn) := rfl
  rw [e0]
  clear e0
  generalize w.alloc (.cells (ndA ndZ none 0 0) tRn) = w0 at hA0 hB0 ⊢
  by_cases hlong : 256 < s.size
  · have hl : (256 : Int) < (s.size : Int) := by omega
    clear HSP HDL
    go_upto_region 2 with fail
    refine wp_region_lit ?_
    refine wpList_plain rfl fun K hK => ?_
    go_simp
    refine hK _ _ ?_
    clear hK K
    refine wpList_store_mid (by rfl) _ _ _ (by rfl) w.heap.size 0 #[.int .i64 0, .int .i64 0, .string ⟨#[]⟩, .int .i64 0, .int .i64 0, .slice none 0 0] (by rfl) (by rfl) (block_there hA0.out 6 (Nat.le_refl _)) (by kernel_rfl) (by simp [Value.oneCell']) ?_
    have e8 : w0.setCells w.heap.size 0 (#[.int .i64 0, .int .i64 0, .string ⟨#[]⟩, .int .i64 0, .int .i64 0, .slice none 0 0]).toList = w0.setCells w.heap.size 0 (ndA ndZ none 0 0).toList := rfl
    rw [e8]
    clear e8
    have HS8 : Hid (BlkC (w0.setCells w.heap.size 0 (ndA ndZ none 0 0).toList) w.heap.size (ndA ndZ none 0 0) tRn) := store_block hA0.out _ rfl
    have HB8 : Hid (Below w.heap.size w (w0.setCells w.heap.size 0 (ndA ndZ none 0 0).toList)) := store_below (Nat.le_refl _) _ _ _ hB0.out
    clear hA0 hB0
    generalize w0.setCells w.heap.size 0 (ndA ndZ none 0 0).toList = w9 at HS8 HB8 ⊢
    go_simp
    go_wp2_with fail
    try simp only [Exit.inBlock, Exit.then]
    exact bodyPost_ret (results_row_tmp rfl _ _ w.heap.size tRn (ndA ndZ none 0 0) (0, 0) _ rfl HS8.out Tryz.underlying25 rfl (by kernel_rfl) _ rfl) rfl ⟨⟨ndZ, none, 0, 0, 30, rfl, fun h => absurd h (by first | decide | omega), fun _ d => rdp6_leaf _ _ rfl _ d⟩, HB8.out⟩
  · have hl : ¬ (256 : Int) < (s.size : Int) := by omega
    have hLL : s.data.toList.length ≤ 256 := by rw [← HDL.out]; omega
    cases hspl : Tks.spl s.data.toList 0 with
    | mk oT x =>
      have HS1 := Lib.hid (HSP.out (by omega) _ hspl w0)
      cases oT with
      | none =>
        clear HSP HDL hspl hLL
        go_wp2_with fail
        refine HS1.out.mono ?_
        rintro e w1 ⟨hb1, rfl⟩
        have hA1 := Lib.hid (hA0.out.below hb1)
        have hB1 : Hid (Below w.heap.size w w1) := bel_call hb1 hB0.out hB0.out.size
        clear hb1 hA0 hB0 HS1
        go_upto_region 5 with fail
        refine wp_region_lit ?_
        refine wpList_plain rfl fun K hK => ?_
        go_simp
        refine hK _ _ ?_
        clear hK K
        refine wpList_store_mid (by rfl) _ _ _ (by rfl) w.heap.size 0 #[.int .i64 0, .int .i64 0, .string ⟨#[]⟩, .int .i64 0, .int .i64 0, .slice none 0 0] (by rfl) (by rfl) (block_there hA1.out 6 (Nat.le_refl _)) (by kernel_rfl) (by simp [Value.oneCell']) ?_
        have e8 : w1.setCells w.heap.size 0 (#[.int .i64 0, .int .i64 0, .string ⟨#[]⟩, .int .i64 0, .int .i64 0, .slice none 0 0]).toList = w1.setCells w.heap.size 0 (ndA ndZ none 0 0).toList := rfl
        rw [e8]
        clear e8
        have HS8 : Hid (BlkC (w1.setCells w.heap.size 0 (ndA ndZ none 0 0).toList) w.heap.size (ndA ndZ none 0 0) tRn) := store_block hA1.out _ rfl
        have HB8 : Hid (Below w.heap.size w (w1.setCells w.heap.size 0 (ndA ndZ none 0 0).toList)) := store_below (Nat.le_refl _) _ _ _ hB1.out
        clear hA1 hB1
        generalize w1.setCells w.heap.size 0 (ndA ndZ none 0 0).toList = w9 at HS8 HB8 ⊢
        go_simp
        go_wp2_with fail
        try simp only [Exit.inBlock, Exit.then]
        exact bodyPost_ret (results_row_tmp rfl _ _ w.heap.size tRn (ndA ndZ none 0 0) (0, 0) _ rfl HS8.out Tryz.underlying25 rfl (by kernel_rfl) _ rfl) rfl ⟨⟨ndZ, none, 0, 0, 21, rfl, fun h => absurd h (by first | decide | omega), fun _ d => rdp6_leaf _ _ rfl _ d⟩, HB8.out⟩
      | some Ts =>
        obtain ⟨htk, hcnt⟩ := tokOk_spl s.data.toList.length s.data.toList 0 Ts x (by omega) hLL hspl
        have hle : Ts.length ≤ 256 := by omega
        have HPA := Lib.hid (rpart_any Ts (by omega) htk)
        clear HSP HDL hspl hLL htk hcnt
        go_wp2_with fail
        refine HS1.out.mono ?_
        rintro e w1 ⟨hb1, p, cT, rfl, hrt⟩
        have hA1 := Lib.hid (hA0.out.below hb1)
        have hB1 : Hid (Below w.heap.size w w1) := bel_call hb1 hB0.out hB0.out.size
        have HRT := Lib.hid hrt
        have hw1 : w.heap.size < w1.heap.size := lt_some hA1.out
        clear hb1 hA0 hB0 HS1 hrt
        unfold RPartC at HPA
        have HTR0 : Hid (∀ W, Below w1.heap.size w1 W → W.heap.size > w1.heap.size → TkR W w1.heap.size p Ts) := by
          intro W hW hsz
          obtain ⟨h1, _, _, h2 | ⟨g, h3, h4, h5⟩⟩ := HRT.out
          · exact .inl (List.eq_nil_of_length_eq_zero (by omega))
          · refine .inr ⟨g, h3, by omega, by omega, fun j x hx => ?_⟩
            obtain ⟨k1, k2, k3⟩ := h5 j x hx
            exact ⟨(hW.cell (p := ⟨g, j * 3, none⟩) h4).trans k1, (hW.cell (p := ⟨g, j * 3 + 1, none⟩) h4).trans k2, (hW.cell (p := ⟨g, j * 3 + 2, none⟩) h4).trans k3⟩
        clear HRT
        obtain ⟨nT, hnT⟩ : ∃ n, Ts.length = n := ⟨_, rfl⟩
        rw [hnT] at hle HPA ⊢
        clear hnT
        go_upto_region 7 with fail
        have HP2 : Hid (Rdr (w1.alloc (.cells #[.slice p nT cT, .int .i64 0, .int .i64 0] tRd)) w1.heap.size p nT cT 0 0) := heap_alloc_new w1 _
        have hb2 : Below w1.heap.size w1 (w1.alloc (.cells #[.slice p nT cT, .int .i64 0, .int .i64 0] tRd)) := (Below.refl _ _).alloc (Nat.le_refl _) _
        have hA2 := Lib.hid (hA1.out.below hb2)
        have hB2 : Hid (Below w.heap.size w (w1.alloc (.cells #[.slice p nT cT, .int .i64 0, .int .i64 0] tRd))) := bel_call hb2 hB1.out hB1.out.size
        have hs2 : (w1.alloc (.cells #[.slice p nT cT, .int .i64 0, .int .i64 0] tRd)).heap.size = w1.heap.size + 1 := World.size_alloc _ _
        have HT2 := Lib.hid (HTR0.out _ hb2 (by omega))
        clear hb2 hA1 hB1 HTR0
        generalize w1.alloc (.cells #[.slice p nT cT, .int .i64 0, .int .i64 0] tRd) = w2 at HP2 hA2 hB2 hs2 HT2 ⊢
        generalize w1.heap.size = b at HP2 hs2 HT2 hw1 ⊢
        have HPJ := Lib.hid (HPA.out w2 b p cT HP2.out HT2.out)
        clear HPA HT2 HP2
        go_wp2_with fail
        refine HPJ.out.mono ?_
        rintro e w4 ⟨n, p1, l, cap, i', bad, rfl, hp4, ho4, hk4⟩
        have HP4 := Lib.hid hp4
        have hA4 := Lib.hid (ho4.bc (by omega) hA2.out)
        have hB4 : Hid (Below w.heap.size w w4) := hB2.out.trans (ho4.below (by omega) (by omega))
        have HK4 : Hid (bad = 0 → RnF nT 0 i' n p1 l w4 (fun k => w2.heap.size ≤ k ∧ k < w4.heap.size)) := hk4
        have hz4 := ho4.size
        clear hp4 ho4 hk4 hA2 hB2 HPJ
        rename_i KK aK
        go_simp
        refine aK _ _ ?_
        clear aK
        rw [show Value.agg (ndA n p1 l cap) = .agg #[.int .i64 n.kind, .int .i64 n.num, .string ⟨n.text.toArray⟩, .int .i64 n.frm, .int .i64 n.tor, .slice p1 l cap] from rfl]
        iterate 3 (first | go_values | go_step)
        have e2 : w4.alloc (.cells #[.int .i64 0, .int .i64 0, .string ⟨#[]⟩, .int .i64 0, .int .i64 0, .slice none 0 0] tRn) = w4.alloc (.cells (ndA ndZ none 0 0) tRn) := rfl
        rw [e2]
        clear e2
        have HG5 : Hid (BlkC (w4.alloc (.cells (ndA ndZ none 0 0) tRn)) w4.heap.size (ndA ndZ none 0 0) tRn) := heap_alloc_new w4 _
        have hb : Below w4.heap.size w4 (w4.alloc (.cells (ndA ndZ none 0 0) tRn)) := by (repeat' (first | (with_reducible exact Below.refl _ _) | (with_reducible assumption) | (with_reducible refine Below.alloc ?_ ?_ _) | (with_reducible refine bel_drewN ?_ _) | (with_reducible refine Below.drew ?_) | (with_reducible refine Below.setCell ?_ ?_ _) | (with_reducible refine bel_call ‹_› ?_ ?_) | go_size))
        have hA5 := Lib.hid (hA4.out.below hb)
        have HP5 := Lib.hid (HP4.out.below hb)
        have hB5 : Hid (Below w.heap.size w (w4.alloc (.cells (ndA ndZ none 0 0) tRn))) := bel_call hb hB4.out hB4.out.size
        have hs5 : (w4.alloc (.cells (ndA ndZ none 0 0) tRn)).heap.size = w4.heap.size + 1 := World.size_alloc _ _
        have HK5 : Hid (bad = 0 → RnF nT 0 i' n p1 l (w4.alloc (.cells (ndA ndZ none 0 0) tRn)) (fun k => w2.heap.size ≤ k ∧ k < w4.heap.size)) := fun h => (HK4.out h).carry (fun k hk => ⟨hk, hb.block k hk.2⟩)
        have hbw4 : b < w4.heap.size := by omega
        clear hb hA4 HP4 hB4 HK4
        generalize w4.alloc (.cells (ndA ndZ none 0 0) tRn) = w5 at HG5 hA5 HP5 hB5 HK5 hs5 ⊢
        generalize w4.heap.size = G at HG5 HK5 hs5 hz4 hbw4 ⊢
        refine wpList_store_mid (by rfl) _ _ _ (by rfl) G 0 #[.int .i64 n.kind, .int .i64 n.num, .string ⟨n.text.toArray⟩, .int .i64 n.frm, .int .i64 n.tor, .slice p1 l cap] (by rfl) (by rfl) (block_there HG5.out 6 (Nat.le_refl _)) (by kernel_rfl) (by simp [Value.oneCell']) ?_
        have e8 : w5.setCells G 0 (#[.int .i64 n.kind, .int .i64 n.num, .string ⟨n.text.toArray⟩, .int .i64 n.frm, .int .i64 n.tor, .slice p1 l cap]).toList = w5.setCells G 0 (ndA n p1 l cap).toList := rfl
        rw [e8]
        clear e8
        have HG6 : Hid (BlkC (w5.setCells G 0 (ndA n p1 l cap).toList) G (ndA n p1 l cap) tRn) := store_block HG5.out _ rfl
        have hA6 : Hid (BlkC (w5.setCells G 0 (ndA n p1 l cap).toList) w.heap.size (ndA ndZ none 0 0) tRn) := (store_other (by omega) _ _ _).trans hA5.out
        have HP6 : Hid (Rdr (w5.setCells G 0 (ndA n p1 l cap).toList) b p nT cT i' bad) := (store_other (by omega) _ _ _).trans HP5.out
        have hB6 : Hid (Below w.heap.size w (w5.setCells G 0 (ndA n p1 l cap).toList)) := store_below (by omega) _ _ _ hB5.out
        have hz6 := (store_below (Nat.zero_le G) (ndA n p1 l cap).toList 0 w5 (Below.refl 0 w5)).size
        have HK6 : Hid (bad = 0 → RnF nT 0 i' n p1 l (w5.setCells G 0 (ndA n p1 l cap).toList) (fun k => w.heap.size < k ∧ k < (w5.setCells G 0 (ndA n p1 l cap).toList).heap.size ∧ k ≠ G ∧ k ≠ b)) := fun h => (HK5.out h).carry (fun k hk => ⟨⟨by omega, by omega, by omega, by omega⟩, store_other (by omega) _ _ _⟩)
        have hGb : G ≠ b := by omega
        clear HG5 hA5 HP5 hB5 HK5
        generalize w5.setCells G 0 (ndA n p1 l cap).toList = w6 at HG6 hA6 HP6 hB6 HK6 hz6 ⊢
        go_simp
        iterate 3 (first | go_values | go_skip | go_guarded | go_step | go_upon)
        have hb6 : b < w6.heap.size := lt_some HP6.out
        have hG6 : G < w6.heap.size := lt_some HG6.out
        go_upto_region 8 with fail
        go_cut [40] (fun v wx => v = .bool (decide (bad = 0 ∧ i' < nT)) ∧ wx = w6)
        case first =>
          obtain ⟨p0, p1', p2, _, pf⟩ := HP6.out.cells
          by_cases hb0 : bad = 0
          · subst hb0
            by_cases hlt : i' < nT
            · have hli : (i' : Int) < (nT : Int) := by omega
              go_wp2_with fail
              go_meet
              exact ⟨by simp [hlt], rfl⟩
            · have hli : ¬ (i' : Int) < (nT : Int) := by omega
              go_wp2_with fail
              go_meet
              exact ⟨by simp [hlt], rfl⟩
          · have hbe : (bad == 0) = false := by simpa using hb0
            go_wp2_with fail
            go_meet
            exact ⟨by simp [hb0], rfl⟩
        case rest =>
        obtain ⟨hv, hw⟩ := hcut
        rw [hw]
        subst hv
        clear hw
        go_upto_if 40 with fail
        go_cut [] (fun wx => ∃ bad2 : Int, Rdr wx b p nT cT i' bad2 ∧ BlkC wx G (ndA n p1 l cap) tRn ∧ BlkC wx w.heap.size (ndA ndZ none 0 0) tRn ∧ Below w.heap.size w wx ∧ (bad2 = 0 → bad = 0 ∧ nT ≤ i') ∧ wx.heap.size = w6.heap.size ∧ (∀ k, k < w6.heap.size → k ≠ b → wx.heap[k]? = w6.heap[k]?))
        case first =>
          obtain ⟨p0, p1', p2, _, pf⟩ := HP6.out.cells
          by_cases hR : bad = 0 ∧ i' < nT
          · rw [decide_eq_true hR]
            go_wp2_with fail
            go_meet
            exact ⟨21, HP6.out.setB 21, (heap_setCell_other _ _ _ _ hGb).trans HG6.out, (heap_setCell_other _ _ _ _ (show w.heap.size ≠ b by omega)).trans hA6.out, hB6.out.setCell (by show w.heap.size ≤ b; omega) _, fun h => absurd h (by decide), World.size_setCell _ _ _, fun k _ hk => heap_setCell_other _ _ _ _ (fun e => hk e)⟩
          · rw [decide_eq_false hR]
            go_wp2_with fail
            go_meet
            exact ⟨bad, HP6.out, HG6.out, hA6.out, hB6.out, fun h => ⟨h, by omega⟩, rfl, fun k _ _ => rfl⟩
        case rest =>
          obtain ⟨bad2, hp7, hg7, ha7, hb7, hz7, hs7, hk7⟩ := hcut
          have HP7 := Lib.hid hp7
          have HG7 := Lib.hid hg7
          have hA7 := Lib.hid ha7
          have hB7 := Lib.hid hb7
          have HK7 : Hid (bad2 = 0 → RnF nT 0 i' n p1 l wc (fun k => w.heap.size < k ∧ k < wc.heap.size)) := fun h => (HK6.out (hz7 h).1).carry (fun k hk => ⟨⟨hk.1, by omega⟩, hk7 k hk.2.1 hk.2.2.2⟩)
          clear hp7 hg7 ha7 hb7 hk7 hz7 HP6 HG6 hA6 hB6 HK6
          generalize wc = w7 at HP7 HG7 hA7 hB7 HK7 hs7 ⊢
          obtain ⟨p0, p1', p2, _, pf⟩ := HP7.out.cells
          by_cases hb0 : bad2 = 0
          · subst hb0
            have hK := HK7.out rfl
            have HF7 := Lib.hid hK.2.2.1
            have HL7 := Lib.hid hK.1
            have hcn := hK.2.2.1.cn
            have hwt := hK.2.2.1.wt
            have hiT := hK.2.1
            have HD7 : Hid (∀ d, dpN n ≤ d + 1 → RdP w7 (fun k => w.heap.size < k ∧ k < w7.heap.size) d n p1 l) := hK.2.2.2
            clear hK HK7
            obtain ⟨c0, c1, c2, c3, c4, c5⟩ : w7.cell? ⟨G, 0, none⟩ = some (.int .i64 n.kind) ∧ w7.cell? ⟨G, 1, none⟩ = some (.int .i64 n.num) ∧ w7.cell? ⟨G, 2, none⟩ = some (.string ⟨n.text.toArray⟩) ∧ w7.cell? ⟨G, 3, none⟩ = some (.int .i64 n.frm) ∧ w7.cell? ⟨G, 4, none⟩ = some (.int .i64 n.tor) ∧ w7.cell? ⟨G, 5, none⟩ = some (.slice p1 l cap) := ⟨HG7.out.cell 0 _ rfl, HG7.out.cell 1 _ rfl, HG7.out.cell 2 _ rfl, HG7.out.cell 3 _ rfl, HG7.out.cell 4 _ rfl, HG7.out.cell 5 _ rfl⟩
            have hdc : dpN n ≤ 1000000 := by
              have := dp_cn n
              omega
            have HDD := Lib.hid (rdepth_any (dpN n) n p1 l cap w7 ((HD7.out (dpN n) (by omega)).rdT (fun k hk => hk.2)) HF7.out.ok hdc)
            rw [ndA_eq] at HDD
            obtain ⟨dp, hdp⟩ : ∃ dp, dpN n = dp := ⟨_, rfl⟩
            have HDP := Lib.hid hdp
            rw [hdp] at HDD
            clear hdp hdc
            by_cases h64 : 64 < dp
            · have h65 : (64 : Int) < (dp : Int) := by omega
              clear hs7 hs5 hz6 hz4 hs2
              go_wp2_with fail
              refine HDD.out.mono ?_
              rintro e w8 ⟨rfl, hb8⟩
              have hA8 := Lib.hid (hA7.out.below hb8)
              have hB8 : Hid (Below w.heap.size w w8) := bel_call hb8 hB7.out hB7.out.size
              clear hb8 HDD c0 c1 c2 c3 c4 c5 hA7 hB7 HP7 p0 p1' p2 pf HG7 HD7
              go_upto_region 13 with fail
              refine wp_region_lit ?_
              refine wpList_plain rfl fun K hK => ?_
              go_simp
              refine hK _ _ ?_
              clear hK K
              refine wpList_store_mid (by rfl) _ _ _ (by rfl) w.heap.size 0 #[.int .i64 0, .int .i64 0, .string ⟨#[]⟩, .int .i64 0, .int .i64 0, .slice none 0 0] (by rfl) (by rfl) (block_there hA8.out 6 (Nat.le_refl _)) (by kernel_rfl) (by simp [Value.oneCell']) ?_
              have e8 : w8.setCells w.heap.size 0 (#[.int .i64 0, .int .i64 0, .string ⟨#[]⟩, .int .i64 0, .int .i64 0, .slice none 0 0]).toList = w8.setCells w.heap.size 0 (ndA ndZ none 0 0).toList := rfl
              rw [e8]
              clear e8
              have HS8 : Hid (BlkC (w8.setCells w.heap.size 0 (ndA ndZ none 0 0).toList) w.heap.size (ndA ndZ none 0 0) tRn) := store_block hA8.out _ rfl
              have HB8 : Hid (Below w.heap.size w (w8.setCells w.heap.size 0 (ndA ndZ none 0 0).toList)) := store_below (Nat.le_refl _) _ _ _ hB8.out
              clear hA8 hB8
              generalize w8.setCells w.heap.size 0 (ndA ndZ none 0 0).toList = w9 at HS8 HB8 ⊢
              go_simp
              go_wp2_with fail
              try simp only [Exit.inBlock, Exit.then]
              exact bodyPost_ret (results_row_tmp rfl _ _ w.heap.size tRn (ndA ndZ none 0 0) (0, 0) _ rfl HS8.out Tryz.underlying25 rfl (by kernel_rfl) _ rfl) rfl ⟨⟨ndZ, none, 0, 0, 22, rfl, fun h => absurd h (by first | decide | omega), fun _ d => rdp6_leaf _ _ rfl _ d⟩, HB8.out⟩
            · have h65 : ¬ (64 : Int) < (dp : Int) := by omega
              clear hs7 hs5 hz6 hz4 hs2
              go_wp2_with fail
              refine HDD.out.mono ?_
              rintro e w8 ⟨rfl, hb8⟩
              have hA8 := Lib.hid (hA7.out.below hb8)
              have HG8 := Lib.hid (HG7.out.below hb8)
              have hB8 : Hid (Below w.heap.size w w8) := bel_call hb8 hB7.out hB7.out.size
              have hs8 := hb8.size
              have HK8 : Hid (∀ d, dpN n ≤ d + 1 → RdP w8 (fun k => w.heap.size < k ∧ k < w8.heap.size) d n p1 l) := fun d hd => (HD7.out d hd).carry (fun k hk => ⟨⟨hk.1, by omega⟩, hb8.block k hk.2⟩)
              clear hb8 HDD c0 c1 c2 c3 c4 c5 hA7 hB7 HP7 p0 p1' p2 pf HG7 HD7
              go_upto_region 14 with fail
              refine wp_region_lit ?_
              refine wpList_load_mid (by rfl) _ _ (by rfl) G 0 (by rfl) [.int .i64 n.kind, .int .i64 n.num, .string ⟨n.text.toArray⟩, .int .i64 n.frm, .int .i64 n.tor, .slice p1 l cap] _ (block_range HG8.out [.int .i64 n.kind, .int .i64 n.num, .string ⟨n.text.toArray⟩, .int .i64 n.frm, .int .i64 n.tor, .slice p1 l cap] rfl) Tryz.underlying25 rfl (by kernel_rfl) ?_
              go_simp
              refine wpList_store_mid (by rfl) _ _ _ (by rfl) w.heap.size 0 #[.int .i64 n.kind, .int .i64 n.num, .string ⟨n.text.toArray⟩, .int .i64 n.frm, .int .i64 n.tor, .slice p1 l cap] (by rfl) (by rfl) (block_there hA8.out 6 (Nat.le_refl _)) (by kernel_rfl) (by simp [Value.oneCell']) ?_
              have e8 : w8.setCells w.heap.size 0 (#[.int .i64 n.kind, .int .i64 n.num, .string ⟨n.text.toArray⟩, .int .i64 n.frm, .int .i64 n.tor, .slice p1 l cap]).toList = w8.setCells w.heap.size 0 (ndA n p1 l cap).toList := rfl
              rw [e8]
              clear e8
              have HS9 : Hid (BlkC (w8.setCells w.heap.size 0 (ndA n p1 l cap).toList) w.heap.size (ndA n p1 l cap) tRn) := store_block hA8.out _ rfl
              have HB9 : Hid (Below w.heap.size w (w8.setCells w.heap.size 0 (ndA n p1 l cap).toList)) := store_below (Nat.le_refl _) _ _ _ hB8.out
              have HK9 : Hid (∀ d, dpN n ≤ d + 1 → RdP (w8.setCells w.heap.size 0 (ndA n p1 l cap).toList) (fun k => w.heap.size ≤ k ∧ k < (w8.setCells w.heap.size 0 (ndA n p1 l cap).toList).heap.size) d n p1 l) := fun d hd => (HK8.out d hd).carry (fun k hk => ⟨⟨by omega, Nat.lt_of_lt_of_le hk.2 (store_below (Nat.zero_le w.heap.size) (ndA n p1 l cap).toList 0 w8 (Below.refl 0 w8)).size⟩, store_other (by omega) _ _ _⟩)
              clear hB8 HK8 HG8 hA8
              generalize w8.setCells w.heap.size 0 (ndA n p1 l cap).toList = w9 at HS9 HB9 HK9 ⊢
              go_simp
              go_wp2_with fail
              try simp only [Exit.inBlock, Exit.then]
              exact bodyPost_ret (results_row_tmp rfl _ _ w.heap.size tRn (ndA n p1 l cap) (0, 0) _ rfl HS9.out Tryz.underlying25 rfl (by kernel_rfl) _ rfl) rfl ⟨⟨n, p1, l, cap, 0, rfl, fun _ => ⟨HL7.out, HF7.out.fm, HF7.out.ok, by omega, by omega, by have := HDP.out; omega, HK9.out⟩, fun h => absurd rfl h⟩, HB9.out⟩
          · have hbe : (bad2 == 0) = false := by simpa using hb0
            have a0 := hA7.out.cell 0 _ rfl
            have a1 := hA7.out.cell 1 _ rfl
            have a2 := hA7.out.cell 2 _ rfl
            have a3 := hA7.out.cell 3 _ rfl
            have a4 := hA7.out.cell 4 _ rfl
            have a5 := hA7.out.cell 5 _ rfl
            have z0 := hA7.out.fz 0
            have z1 := hA7.out.fz 1
            have z2 := hA7.out.fz 2
            have z3 := hA7.out.fz 3
            have z4 := hA7.out.fz 4
            have z5 := hA7.out.fz 5
            clear HG7 HK7 hs7 hs5 hz6 hz4 hs2
            go_wp2_with fail
            go_cut [3] (fun v3 wx => v3 = .int .i64 bad2 ∧ BlkC wx w.heap.size (ndA ndZ none 0 0) tRn ∧ Below w.heap.size w wx)
            case first =>
              go_region_with (fail)
              all_goals go_wp2_with fail
              all_goals go_meet
              all_goals (have X := six_heap (.int .i64 0) (.int .i64 0) (.string ⟨#[]⟩) (.int .i64 0) (.int .i64 0) (.slice none 0 0) hA7.out)
              all_goals (have Y := (((((hB7.out.setCell (p := ⟨w.heap.size, 0, none⟩) (Nat.le_refl _) (.int .i64 0)).setCell (p := ⟨w.heap.size, 1, none⟩) (Nat.le_refl _) (.int .i64 0)).setCell (p := ⟨w.heap.size, 2, none⟩) (Nat.le_refl _) (.string ⟨#[]⟩)).setCell (p := ⟨w.heap.size, 3, none⟩) (Nat.le_refl _) (.int .i64 0)).setCell (p := ⟨w.heap.size, 4, none⟩) (Nat.le_refl _) (.int .i64 0)).setCell (p := ⟨w.heap.size, 5, none⟩) (Nat.le_refl _) (.slice none 0 0))
              all_goals (have X1 := blk_eq (cs' := ndA ndZ none 0 0) X.1 rfl)
              all_goals exact ⟨rfl, blk_drew X1, Below.drew Y⟩
            case rest =>
              obtain ⟨hv, ha8, hb8⟩ := hcut
              subst hv
              have HA8 := Lib.hid ha8
              have HB8 := Lib.hid hb8
              clear ha8 hb8 hA7 hB7 HP7 p0 p1' p2 pf a0 a1 a2 a3 a4 a5 z0 z1 z2 z3 z4 z5
              go_wp2_with fail
              try simp only [Exit.inBlock, Exit.then]
              exact bodyPost_ret (results_row_tmp rfl _ _ w.heap.size tRn (ndA ndZ none 0 0) (0, 0) _ rfl HA8.out Tryz.underlying25 rfl (by kernel_rfl) _ rfl) rfl ⟨⟨ndZ, none, 0, 0, bad2, rfl, fun h => absurd h hb0, fun _ d => rdp6_leaf _ _ rfl _ d⟩, HB8.out⟩
end Go.Proofs.YtjklbbmgjjdalaaGreatDoor
