/- The document's reader of formulas: 'part'. Printed by gen_rr.py. The document's reader of formulas: the knot. Printed by gen_rr.py. The document's Formula, at any text: a tree that may be, or an error. Printed by gen_rr.py. -/
import Derived.Test.YtjklbbmgjjdalaaGreatDoorBbAh
import Derived.Test.YtjklbbmgjjdalaaGreatDoorBbAj
set_option linter.unusedSimpArgs false
set_option linter.unusedVariables false
namespace Go.Proofs.YtjklbbmgjjdalaaGreatDoor
open Go.RowKit Go.Joins
def StrsN (w : World) (L : List Bs) (e : Ending) (w' : World) : Prop := ∃ g, e = .returned (.slice (some ⟨g, 0, none⟩) L.length L.length) ∧ w.heap.size ≤ g ∧ SsB w' g L
set_option maxRecDepth 100000 in
set_option maxHeartbeats 4000000 in
theorem rsigns_new (l : Int) (hl1 : 1 ≤ l) (hl4 : l ≤ 4) (w : World) : Calls Tryz.prog 71 #[.int .i64 l] w fun e w' => StrsN w (sgS l) e w' ∧ Below w.heap.size w w' := by
  obtain ⟨o5, ho5⟩ : ∃ o5 : Obj, o5 = .cells #[.slice (some ⟨w.heap.size, 0, none⟩) 6 6, .slice (some ⟨w.heap.size + 1, 0, none⟩) 1 1, .slice (some ⟨w.heap.size + 1 + 1, 0, none⟩) 2 2, .slice (some ⟨w.heap.size + 1 + 1 + 1, 0, none⟩) 2 2] 140 := ⟨_, rfl⟩
  obtain ⟨wz, hwz⟩ : ∃ wz : World, wz = ((((w.alloc (.cells (strs sg1) tSt)).alloc (.cells (strs sg2) tSt)).alloc (.cells (strs sg3) tSt)).alloc (.cells (strs sg4) tSt)).alloc o5 := ⟨_, rfl⟩
  have h0 : Hid (SsB wz w.heap.size sg1) := by
    unfold Hid SsB
    rw [hwz, Lib.alloc_old _ _ _ (by simp <;> omega), Lib.alloc_old _ _ _ (by simp <;> omega), Lib.alloc_old _ _ _ (by simp <;> omega), Lib.alloc_old _ _ _ (by simp)]
    exact heap_alloc_new w _
  have hS1 : Hid (SsB wz (w.heap.size + 1) sg2) := by
    unfold Hid SsB
    rw [hwz, Lib.alloc_old _ _ _ (by simp <;> omega), Lib.alloc_old _ _ _ (by simp <;> omega), Lib.alloc_old _ _ _ (by simp)]
    have := heap_alloc_new (w.alloc (.cells (strs sg1) tSt)) (.cells (strs sg2) tSt)
    rw [World.size_alloc] at this
    exact this
  have h2 : Hid (SsB wz (w.heap.size + 1 + 1) sg3) := by
    unfold Hid SsB
    rw [hwz, Lib.alloc_old _ _ _ (by simp <;> omega), Lib.alloc_old _ _ _ (by simp)]
    have := heap_alloc_new ((w.alloc (.cells (strs sg1) tSt)).alloc (.cells (strs sg2) tSt)) (.cells (strs sg3) tSt)
    rw [World.size_alloc, World.size_alloc] at this
    exact this
  have h3 : Hid (SsB wz (w.heap.size + 1 + 1 + 1) sg4) := by
    unfold Hid SsB
    rw [hwz, Lib.alloc_old _ _ _ (by simp)]
    have := heap_alloc_new (((w.alloc (.cells (strs sg1) tSt)).alloc (.cells (strs sg2) tSt)).alloc (.cells (strs sg3) tSt)) (.cells (strs sg4) tSt)
    rw [World.size_alloc, World.size_alloc, World.size_alloc] at this
    exact this
  have h4 : Hid (wz.heap[w.heap.size + 1 + 1 + 1 + 1]? = some o5) := by
    unfold Hid
    rw [hwz]
    have := heap_alloc_new ((((w.alloc (.cells (strs sg1) tSt)).alloc (.cells (strs sg2) tSt)).alloc (.cells (strs sg3) tSt)).alloc (.cells (strs sg4) tSt)) o5
    rw [World.size_alloc, World.size_alloc, World.size_alloc, World.size_alloc] at this
    exact this
  have hB : Hid (Below w.heap.size w wz) := by unfold Hid; rw [hwz]; (repeat' (first | (with_reducible exact Below.refl _ _) | (with_reducible assumption) | (with_reducible refine Below.alloc ?_ ?_ _) | (with_reducible refine bel_drewN ?_ _) | (with_reducible refine Below.drew ?_) | (with_reducible refine Below.setCell ?_ ?_ _) | (with_reducible refine bel_call ‹_› ?_ ?_) | go_size))
  have HR : Hid (∀ b L n, SsB wz b L → L.length = n → w.heap.size ≤ b → StrsN w L (.returned (.slice (some ⟨b, 0, none⟩) n n)) wz) := fun b L n h hn h2 => by subst hn; exact ⟨b, rfl, h2, h⟩
  have c0 : wz.cell? ⟨w.heap.size + 1 + 1 + 1 + 1, 0, none⟩ = some (.slice (some ⟨w.heap.size, 0, none⟩) 6 6) := by have := h4.out; rw [ho5] at this; rw [cell_of_block this]; rfl
  have c1 : wz.cell? ⟨w.heap.size + 1 + 1 + 1 + 1, 1, none⟩ = some (.slice (some ⟨w.heap.size + 1, 0, none⟩) 1 1) := by have := h4.out; rw [ho5] at this; rw [cell_of_block this]; rfl
  have c2 : wz.cell? ⟨w.heap.size + 1 + 1 + 1 + 1, 2, none⟩ = some (.slice (some ⟨w.heap.size + 1 + 1, 0, none⟩) 2 2) := by have := h4.out; rw [ho5] at this; rw [cell_of_block this]; rfl
  have c3 : wz.cell? ⟨w.heap.size + 1 + 1 + 1 + 1, 3, none⟩ = some (.slice (some ⟨w.heap.size + 1 + 1 + 1, 0, none⟩) 2 2) := by have := h4.out; rw [ho5] at this; rw [cell_of_block this]; rfl
  clear h4
  have HWZ := Lib.hid hwz
  clear hwz
  have HO5 := Lib.hid ho5
  clear ho5
  go_enter Tryz.func71, Tryz.ntmps71
  go_upto_region 2 with fail
  have e0 : ((((w.alloc (.cells #[.string ⟨#[61]⟩, .string ⟨#[60, 62]⟩, .string ⟨#[60]⟩, .string ⟨#[60, 61]⟩, .string ⟨#[62]⟩, .string ⟨#[62, 61]⟩] tSt)).alloc (.cells #[.string ⟨#[38]⟩] tSt)).alloc (.cells #[.string ⟨#[43]⟩, .string ⟨#[45]⟩] tSt)).alloc (.cells #[.string ⟨#[42]⟩, .string ⟨#[47]⟩] tSt)).alloc (.cells #[.slice (some ⟨w.heap.size, 0, none⟩) 6 6, .slice (some ⟨w.heap.size + 1, 0, none⟩) 1 1, .slice (some ⟨w.heap.size + 1 + 1, 0, none⟩) 2 2, .slice (some ⟨w.heap.size + 1 + 1 + 1, 0, none⟩) 2 2] 140) = wz := by rw [HWZ.out, HO5.out]; rfl
  rw [e0]
  clear e0 HWZ HO5
  by_cases h1 : l < 1
  · exfalso; omega
  · by_cases h4 : 4 < l
    · exfalso; omega
    · have hk : l = 1 ∨ l = 2 ∨ l = 3 ∨ l = 4 := by omega
      clear h1 h4
      rcases hk with rfl | rfl | rfl | rfl
      · go_wp2_with fail
        go_ret
        exact ⟨HR.out _ sg1 _ h0.out rfl (by omega), hB.out⟩
      · go_wp2_with fail
        go_ret
        exact ⟨HR.out _ sg2 _ hS1.out rfl (by omega), hB.out⟩
      · go_wp2_with fail
        go_ret
        exact ⟨HR.out _ sg3 _ h2.out rfl (by omega), hB.out⟩
      · go_wp2_with fail
        go_ret
        exact ⟨HR.out _ sg4 _ h3.out rfl (by omega), hB.out⟩
theorem sgS_short {t : Bs} {l : Int} (h : t ∈ sgS l) : t.length ≤ 256 := by
  unfold sgS at h
  repeat' split at h
  all_goals simp [sg1, sg2, sg3, sg4] at h
  all_goals (rcases h with rfl | rfl | rfl | rfl | rfl | rfl) <;> simp
def msr (nT i' j m : Nat) (bad : Int) : Nat := (if bad = 0 then (nT - i') * 10 else 0) + (m - j)
theorem RnF.bin {nT j i1 i2 i' : Nat} {n c : Nd} {p p' : Option Addr} {l l' cp cp' g : Nat} {W : World} {ok : Nat → Prop} {T : TypeId} {t : Bs} (h : RnF nT j i1 n p l W ok) (h' : RnF nT i2 i' c p' l' W ok) (hi : i2 = i1 + 1) (ht : 1 ≤ lvS t) (htl : t.length ≤ 256)
    (hg : BlkC W g (ndC n p l cp ++ ndC c p' l' cp').toArray T) (hok : ok g) : RnF nT j i' (.mk 6 0 t 0 0 [n, c]) (some ⟨g, 0, none⟩) 2 W ok :=
  ⟨rfl, h'.2.1, (gd_bin ht htl h.2.2.1 h'.2.2.1).up (by have := h.2.2.1.pos; have := h'.2.2.1.pos; omega), rdp6_two rfl hg hok (dpN_bin t n c) h.2.2.2 h'.2.2.2⟩
set_option maxRecDepth 100000 in
set_option maxHeartbeats 8000000 in
theorem rpart_5 (Ts : List Tks.Tk) (i : Nat) (IH : RLastC Ts i) : RPartC Ts i 5 := by
  intro w b q cT hp ht
  have HLA := Lib.hid (fun W h h' => IH W b q cT h h')
  obtain ⟨nT, hnT⟩ : ∃ n, Ts.length = n := ⟨_, rfl⟩
  rw [hnT] at hp HLA ⊢
  clear hnT IH
  have hA0 : Hid (BlkC (w.alloc (.cells (ndA ndZ none 0 0) tRn)) w.heap.size (ndA ndZ none 0 0) tRn) := heap_alloc_new w _
  have hAB : Below w.heap.size w (w.alloc (.cells (ndA ndZ none 0 0) tRn)) := by (repeat' (first | (with_reducible exact Below.refl _ _) | (with_reducible assumption) | (with_reducible refine Below.alloc ?_ ?_ _) | (with_reducible refine bel_drewN ?_ _) | (with_reducible refine Below.drew ?_) | (with_reducible refine Below.setCell ?_ ?_ _) | (with_reducible refine bel_call ‹_› ?_ ?_) | go_size))
  have HP0 := Lib.hid (hp.below hAB)
  have HO0 := Lib.hid (Off.of_below (b := b) hAB)
  have hbw : b < w.heap.size := lt_some hp
  have HT0 := Lib.hid (ht.off (Off.of_below hAB))
  clear hp hAB
  go_enter Tryz.func51, Tryz.ntmps51
  go_upto_region 1 with fail
  have e0 : w.alloc (.cells #[.int .i64 0, .int .i64 0, .string ⟨#[]⟩, .int .i64 0, .int .i64 0, .slice none 0 0] tRn) = w.alloc (.cells (ndA ndZ none 0 0) tRn) := rfl
  rw [e0]
  clear e0
  generalize w.alloc (.cells (ndA ndZ none 0 0) tRn) = w0 at hA0 HP0 HO0 HT0 ⊢
  clear ht
  go_wp2_with fail
  refine (HLA.out w0 HP0.out HT0.out).mono ?_
  rintro e wr ⟨n, p, l, cap, i', bad', rfl, hpr, hor, hkr⟩
  have hw00 : w.heap.size < w0.heap.size := lt_some hA0.out
  have HPr := Lib.hid hpr
  have hAr := Lib.hid (hor.bc (by omega) hA0.out)
  have HOr := Lib.hid (HO0.out.trans hor)
  have HKr := Lib.hid hkr
  clear hpr hor hkr hA0 HP0 HO0 HT0
  rw [show Value.agg (ndA n p l cap) = .agg #[.int .i64 n.kind, .int .i64 n.num, .string ⟨n.text.toArray⟩, .int .i64 n.frm, .int .i64 n.tor, .slice p l cap] from rfl]
  rename_i KK aK
  go_simp
  refine aK _ _ ?_
  clear aK
  refine wpList_store_mid (by rfl) _ _ _ (by rfl) w.heap.size 0 #[.int .i64 n.kind, .int .i64 n.num, .string ⟨n.text.toArray⟩, .int .i64 n.frm, .int .i64 n.tor, .slice p l cap] (by rfl) (by rfl) (block_there hAr.out 6 (Nat.le_refl _)) (by kernel_rfl) (by simp [Value.oneCell']) ?_
  have e8 : wr.setCells w.heap.size 0 (#[.int .i64 n.kind, .int .i64 n.num, .string ⟨n.text.toArray⟩, .int .i64 n.frm, .int .i64 n.tor, .slice p l cap]).toList = wr.setCells w.heap.size 0 (ndA n p l cap).toList := rfl
  rw [e8]
  clear e8
  have HS8 : Hid (BlkC (wr.setCells w.heap.size 0 (ndA n p l cap).toList) w.heap.size (ndA n p l cap) tRn) := store_block hAr.out _ rfl
  have HO8 : Hid (Off b w (wr.setCells w.heap.size 0 (ndA n p l cap).toList)) := HOr.out.set_cells (Nat.le_refl _) _ _
  have HP8 := Lib.hid ((store_other (b := w.heap.size) (by omega) (ndA n p l cap).toList 0 wr).trans HPr.out)
  have HK8 : Hid (bad' = 0 → RnF nT i i' n p l (wr.setCells w.heap.size 0 (ndA n p l cap).toList) (fun k => w.heap.size ≤ k ∧ k < (wr.setCells w.heap.size 0 (ndA n p l cap).toList).heap.size)) := fun h => (HKr.out h).carry (fun k hk => ⟨⟨by omega, Nat.lt_of_lt_of_le hk.2 (store_below (Nat.zero_le w.heap.size) (ndA n p l cap).toList 0 wr (Below.refl 0 wr)).size⟩, store_other (by omega) _ _ _⟩)
  clear HKr
  clear hAr HOr HPr
  generalize wr.setCells w.heap.size 0 (ndA n p l cap).toList = w9 at HS8 HO8 HP8 HK8 ⊢
  go_simp
  iterate 3 (first | go_values | go_skip | go_guarded | go_step | go_upon)
  apply wp_ret
  try simp only [Exit.inBlock, Exit.then]
  exact bodyPost_ret (results_cell_row rfl _ _ w.heap.size tRn (ndA n p l cap) (0, 0) _ rfl HS8.out Tryz.underlying25 rfl (by kernel_rfl)) rfl ⟨n, p, l, cap, i', bad', rfl, HP8.out, HO8.out, HK8.out⟩
set_option maxRecDepth 100000 in
set_option maxHeartbeats 8000000 in
theorem rpart_s (Ts : List Tks.Tk) (hle : Ts.length ≤ 1000) (i : Nat) (hin : i ≤ Ts.length) (lv : Int) (h1 : 1 ≤ lv) (h4 : lv ≤ 4) (IH0 : RPartC Ts i (lv + 1)) (IHp : ∀ p, i < p → p ≤ Ts.length → RPartC Ts p (lv + 1)) : RPartC Ts i lv := by
  intro w b q cT hp ht
  have HI3 := Lib.hid (fun bad j s W (h : Rdr W b q Ts.length cT j bad) (h' : TkR W b q Ts) => ris_any b q cT j bad Ts s W h h' hle)
  have HP1 := Lib.hid (fun W h h' => IH0 W b q cT h h')
  have HPA := Lib.hid (fun p h1 h2 W h h' => IHp p h1 h2 W b q cT h h')
  have HSN := Lib.hid (fun W => rsigns_new lv h1 h4 W)
  have HIB := Lib.hid (fun p s (h : isB Ts p s = true) => isB_lt h)
  have HMS := Lib.hid (fun (s : Bs) (h : s ∈ sgS lv) => (show 1 ≤ lvS s ∧ s.length ≤ 256 from ⟨by have := sgS_lv h; omega, sgS_short h⟩))
  have hm6 : (sgS lv).length ≤ 6 := by
    unfold sgS
    repeat' split
    all_goals simp [sg1, sg2, sg3, sg4]
  clear IH0 IHp
  obtain ⟨nT, hnT⟩ : ∃ n, Ts.length = n := ⟨_, rfl⟩
  rw [hnT] at HI3 hle hin HIB hp HP1 HPA ⊢
  clear hnT
  obtain ⟨L, hL⟩ : ∃ L, sgS lv = L := ⟨_, rfl⟩
  rw [hL] at HSN HMS hm6
  clear hL
  have f1 : IntKind.i64.wrap (lv + 1) = lv + 1 := IntWalk.i64_in _ (by omega)
  have g5 : (lv == 5) = false := by simp; omega
  have g6 : ¬ lv = 5 := by omega
  have hA0 : Hid (BlkC (w.alloc (.cells (ndA ndZ none 0 0) tRn)) w.heap.size (ndA ndZ none 0 0) tRn) := heap_alloc_new w _
  have hAB : Below w.heap.size w (w.alloc (.cells (ndA ndZ none 0 0) tRn)) := by (repeat' (first | (with_reducible exact Below.refl _ _) | (with_reducible assumption) | (with_reducible refine Below.alloc ?_ ?_ _) | (with_reducible refine bel_drewN ?_ _) | (with_reducible refine Below.drew ?_) | (with_reducible refine Below.setCell ?_ ?_ _) | (with_reducible refine bel_call ‹_› ?_ ?_) | go_size))
  have HP0 := Lib.hid (hp.below hAB)
  have HO0 := Lib.hid (Off.of_below (b := b) hAB)
  have hbw : b < w.heap.size := lt_some hp
  have HT0 := Lib.hid (ht.off (Off.of_below hAB))
  have HTW := Lib.hid (fun W (h : Off b w W) => ht.off h)
  clear hp hAB
  go_enter Tryz.func51, Tryz.ntmps51
  go_upto_region 1 with fail
  have e0 : w.alloc (.cells #[.int .i64 0, .int .i64 0, .string ⟨#[]⟩, .int .i64 0, .int .i64 0, .slice none 0 0] tRn) = w.alloc (.cells (ndA ndZ none 0 0) tRn) := rfl
  rw [e0]
  clear e0
  generalize w.alloc (.cells (ndA ndZ none 0 0) tRn) = w0 at hA0 HP0 HO0 HT0 ⊢
  clear ht
  go_wp2_with fail
  refine (HP1.out w0 HP0.out HT0.out).mono ?_
  rintro e wa ⟨n, p, l, cap, i', bad', rfl, hpr, hor, hkr⟩
  have hw00 : w.heap.size < w0.heap.size := lt_some hA0.out
  have HPa := Lib.hid hpr
  have hAa := Lib.hid (hor.bc (by omega) hA0.out)
  have HOa := Lib.hid (HO0.out.trans hor)
  have HTa := Lib.hid (HT0.out.off hor)
  have HKa : Hid (bad' = 0 → RnF nT i i' n p l wa (fun k => w0.heap.size ≤ k ∧ k < wa.heap.size)) := hkr
  have hza := hor.size
  clear hpr hor hkr hA0 HP0 HO0 HT0
  rename_i KK aK
  go_simp
  refine aK _ _ ?_
  clear aK
  rw [show Value.agg (ndA n p l cap) = .agg #[.int .i64 n.kind, .int .i64 n.num, .string ⟨n.text.toArray⟩, .int .i64 n.frm, .int .i64 n.tor, .slice p l cap] from rfl]
  iterate 3 (first | go_values | go_step)
  have e2 : wa.alloc (.cells #[.int .i64 0, .int .i64 0, .string ⟨#[]⟩, .int .i64 0, .int .i64 0, .slice none 0 0] tRn) = wa.alloc (.cells (ndA ndZ none 0 0) tRn) := rfl
  rw [e2]
  clear e2
  have HGb : Hid (BlkC (wa.alloc (.cells (ndA ndZ none 0 0) tRn)) wa.heap.size (ndA ndZ none 0 0) tRn) := heap_alloc_new wa _
  have hb : Below wa.heap.size wa (wa.alloc (.cells (ndA ndZ none 0 0) tRn)) := by (repeat' (first | (with_reducible exact Below.refl _ _) | (with_reducible assumption) | (with_reducible refine Below.alloc ?_ ?_ _) | (with_reducible refine bel_drewN ?_ _) | (with_reducible refine Below.drew ?_) | (with_reducible refine Below.setCell ?_ ?_ _) | (with_reducible refine bel_call ‹_› ?_ ?_) | go_size))
  have hAb := Lib.hid (hAa.out.below hb)
  have HPb := Lib.hid (HPa.out.below hb)
  have HOb := Lib.hid (HOa.out.call hb)
  have HTb := Lib.hid (HTa.out.off (Off.of_below hb))
  have hsb : (wa.alloc (.cells (ndA ndZ none 0 0) tRn)).heap.size = wa.heap.size + 1 := World.size_alloc _ _
  have HKb : Hid (bad' = 0 → RnF nT i i' n p l (wa.alloc (.cells (ndA ndZ none 0 0) tRn)) (fun k => w.heap.size < k ∧ k < wa.heap.size)) := fun h => (HKa.out h).carry (fun k hk => ⟨⟨by omega, hk.2⟩, hb.block k hk.2⟩)
  have hxa : w.heap.size < wa.heap.size := lt_some hAa.out
  have hya : b < wa.heap.size := lt_some HPa.out
  clear hb hAa HPa HOa HTa HKa
  generalize wa.alloc (.cells (ndA ndZ none 0 0) tRn) = wb at HGb hAb HPb HOb HTb HKb hsb ⊢
  generalize wa.heap.size = G at HGb HKb hsb hxa hya ⊢
  refine wpList_store_mid (by rfl) _ _ _ (by rfl) G 0 #[.int .i64 n.kind, .int .i64 n.num, .string ⟨n.text.toArray⟩, .int .i64 n.frm, .int .i64 n.tor, .slice p l cap] (by rfl) (by rfl) (block_there HGb.out 6 (Nat.le_refl _)) (by kernel_rfl) (by simp [Value.oneCell']) ?_
  have e8 : wb.setCells G 0 (#[.int .i64 n.kind, .int .i64 n.num, .string ⟨n.text.toArray⟩, .int .i64 n.frm, .int .i64 n.tor, .slice p l cap]).toList = wb.setCells G 0 (ndA n p l cap).toList := rfl
  rw [e8]
  clear e8
  have HGc : Hid (BlkC (wb.setCells G 0 (ndA n p l cap).toList) G (ndA n p l cap) tRn) := store_block HGb.out _ rfl
  have HOc : Hid (Off b w (wb.setCells G 0 (ndA n p l cap).toList)) := HOb.out.set_cells (by omega) _ _
  have hAc : Hid (BlkC (wb.setCells G 0 (ndA n p l cap).toList) w.heap.size (ndA ndZ none 0 0) tRn) := (store_other (by omega) _ _ _).trans hAb.out
  have HPc : Hid (Rdr (wb.setCells G 0 (ndA n p l cap).toList) b q nT cT i' bad') := (store_other (by omega) _ _ _).trans HPb.out
  have HTc : Hid (TkR (wb.setCells G 0 (ndA n p l cap).toList) b q Ts) := HTW.out _ HOc.out
  have hzc := (store_below (Nat.zero_le G) (ndA n p l cap).toList 0 wb (Below.refl 0 wb)).size
  have HKc : Hid (bad' = 0 → RnF nT i i' n p l (wb.setCells G 0 (ndA n p l cap).toList) (fun k => w.heap.size < k ∧ k < G)) := fun h => (HKb.out h).carry (fun k hk => ⟨hk, store_other (by omega) _ _ _⟩)
  have hGb : G ≠ b := by omega
  clear HGb hAb HPb HOb HTb HKb
  generalize wb.setCells G 0 (ndA n p l cap).toList = wc at HGc hAc HPc HOc HTc HKc hzc ⊢
  go_simp
  iterate 3 (first | go_values | go_skip | go_guarded | go_step | go_upon)
  clear HP1
  go_wp2_with fail
  refine (HSN.out wc).mono ?_
  rintro e wd ⟨⟨gs, rfl, hgs, hss⟩, hb⟩
  have HAd := Lib.hid (hAc.out.below hb)
  have HGd := Lib.hid (HGc.out.below hb)
  have HPd := Lib.hid (HPc.out.below hb)
  have HOd := Lib.hid (HOc.out.call hb)
  have HSd := Lib.hid hss
  have hGc : G < wc.heap.size := lt_some HGc.out
  have hzd := hb.size
  have HKd : Hid (bad' = 0 → RnF nT i i' n p l wd (fun k => w.heap.size < k ∧ k < wd.heap.size ∧ k ≠ G)) := fun h => (HKc.out h).carry (fun k hk => ⟨⟨hk.1, by omega, by omega⟩, hb.block k (by omega)⟩)
  have hgb : gs ≠ b := by have : b < wc.heap.size := lt_some HPc.out; omega
  have hgG : gs ≠ G := by omega
  have hgw : w.heap.size < gs := by omega
  obtain ⟨m, hm⟩ : ∃ m, L.length = m := ⟨_, rfl⟩
  have HLM := Lib.hid hm
  rw [hm] at hm6 ⊢
  have hwG : w.heap.size < G := by omega
  have hGd : G < wd.heap.size := by omega
  clear hb hss hm hAc HGc HPc HOc HTc HKc HSN
  go_wp2_with fail
  go_loopg [7] (msr nT i' 0 m bad') (fun g v7 wr => ∃ (j : Nat) (n : Nd) (p : Option Addr) (l cap i' : Nat) (bad' : Int), v7 = .int .i64 (j : Int) ∧ j ≤ m ∧ msr nT i' j m bad' ≤ g ∧ BlkC wr G (ndA n p l cap) tRn ∧ BlkC wr w.heap.size (ndA ndZ none 0 0) tRn ∧ Rdr wr b q nT cT i' bad' ∧ Off b w wr ∧ SsB wr gs L ∧ G < wr.heap.size ∧ (bad' = 0 → RnF nT i i' n p l wr (fun k => w.heap.size < k ∧ k < wr.heap.size ∧ k ≠ G)))
  case atStart => exact ⟨0, n, p, l, cap, i', bad', rfl, by omega, Nat.le_refl _, HGd.out, HAd.out, HPd.out, HOd.out, HSd.out, hGd, HKd.out⟩
  case round =>
    clear HGd HAd HPd HOd HSd HKd hzd hGd hzc hGc
    obtain ⟨j, n, p, l, cap, i', bad', rfl, hjm, hms, hG, hA, hP, hO, hS, hGr, hK⟩ := hrel
    have HG1 := Lib.hid hG
    have hA1 := Lib.hid hA
    have HP1 := Lib.hid hP
    have HO1 := Lib.hid hO
    have HS1 := Lib.hid hS
    have HK1 := Lib.hid hK
    have HT1 := Lib.hid (HTW.out wr hO)
    clear hG hA hP hO hS hK
    by_cases hj : j < m
    · have hjj : (j : Int) < (m : Int) := by omega
      obtain ⟨x, hx⟩ : ∃ x, L[j]? = some x := ⟨_, List.getElem?_eq_getElem (by rw [HLM.out]; exact hj)⟩
      have HC1 := Lib.hid (HS1.out.at j x hx)
      have hc := HC1.out
      have HMX := Lib.hid (HMS.out x (List.mem_of_getElem? hx))
      have HXJ := Lib.hid hx
      obtain ⟨R, hR⟩ : ∃ R, (decide (bad' = 0) && isB Ts i' x) = R := ⟨_, rfl⟩
      have HIC := Lib.hid (HI3.out bad' i' x)
      rw [hR] at HIC
      clear hx
      go_wp2_with fail
      refine (HIC.out wr HP1.out HT1.out).mono ?_
      rintro e w2 ⟨rfl, hb⟩
      have hA2 := Lib.hid (hA1.out.below hb)
      have HP2 := Lib.hid (HP1.out.below hb)
      have HO2 := Lib.hid (HO1.out.call hb)
      have HT2 := Lib.hid (HT1.out.off (Off.of_below hb))
      have HG2 := Lib.hid (HG1.out.below hb)
      have HS2 : Hid (SsB w2 gs L) := HS1.out.below hb
      have HC2 : Hid (w2.cell? ⟨gs, j, none⟩ = some (.string ⟨x.toArray⟩)) := (hb.cell (p := ⟨gs, j, none⟩) (lt_of_cell HC1.out)).trans HC1.out
      have hz2 := hb.size
      have HK2 : Hid (bad' = 0 → RnF nT i i' n p l w2 (fun k => w.heap.size < k ∧ k < w2.heap.size ∧ k ≠ G)) := fun h => (HK1.out h).carry (fun k hk => ⟨⟨hk.1, by omega, hk.2.2⟩, hb.block k hk.2.1⟩)
      clear hb hA1 HP1 HO1 HT1 HG1 HS1 HC1 HK1 hc HIC
      cases R with
      | false =>
        go_wp2_with fail
        go_roundg (gk - 1)
        case measure => unfold msr at hms; omega
        case rel => exact ⟨j + 1, n, p, l, cap, i', bad', by go_num, by omega, by unfold msr at hms ⊢; omega, HG2.out, hA2.out, HP2.out, HO2.out, HS2.out, by omega, HK2.out⟩
      | true =>
        rw [Bool.and_eq_true, decide_eq_true_eq] at hR
        obtain ⟨rfl, hib⟩ := hR
        have hil := HIB.out _ _ hib
        have HK2' := Lib.hid (HK2.out rfl)
        have hii : i < i' := by have := HK2'.out.2.2.1.pos; omega
        clear HK2
        have HZ2 := Lib.hid (Off.refl b w2)
        obtain ⟨_, p1, _, pf, _⟩ := HP2.out.cells
        have f1 : IntKind.i64.wrap ((i' : Int) + 1) = (i' : Int) + 1 := IntWalk.i64_in _ (by omega)
        go_upto_region 10 with fail
        have HP3 : Hid (Rdr (w2.setCell ⟨b, 1, none⟩ (.int .i64 ((i' : Int) + 1))) b q nT cT (i' + 1) 0) := HP2.out.set ((i' : Int) + 1) (i' + 1) (by omega)
        have HO3 := Lib.hid (HO2.out.set 1 (.int .i64 ((i' : Int) + 1)))
        have hO3 := Off.set (Off.refl b w2) 1 (.int .i64 ((i' : Int) + 1))
        have HT3 := Lib.hid (HT2.out.off hO3)
        have hA3 := Lib.hid (hO3.bc (by omega) hA2.out)
        have hz3 := hO3.size
        have HG3 := Lib.hid (hO3.bc (by omega) HG2.out)
        have HZ3 := Lib.hid (HZ2.out.trans hO3)
        clear HP2 HO2 HT2 hA2 p1 pf f1 hO3 HG2 HZ2
        generalize w2.setCell ⟨b, 1, none⟩ (.int .i64 ((i' : Int) + 1)) = w3 at HP3 HO3 HT3 hA3 hz3 HG3 HZ3 ⊢
        have hz3' := HZ3.out.size
        have HK3 : Hid (RnF nT i i' n p l w3 (fun k => w.heap.size < k ∧ k < w3.heap.size ∧ k ≠ G)) := HK2'.out.carry (fun k hk => ⟨⟨hk.1, by omega, hk.2.2⟩, HZ3.out.block k hk.2.1 (by omega)⟩)
        have HS3 : Hid (SsB w3 gs L) := HZ3.out.bc hgb HS2.out
        have HC3 := Lib.hid (HS3.out.at j x HXJ.out)
        have Y0 := KeptO.cell (b := b) hGb (HG3.out.cell 0 (.int .i64 n.kind) rfl)
        have Y1 := KeptO.cell (b := b) hGb (HG3.out.cell 1 (.int .i64 n.num) rfl)
        have Y2 := KeptO.cell (b := b) hGb (HG3.out.cell 2 (.string ⟨n.text.toArray⟩) rfl)
        have Y3 := KeptO.cell (b := b) hGb (HG3.out.cell 3 (.int .i64 n.frm) rfl)
        have Y4 := KeptO.cell (b := b) hGb (HG3.out.cell 4 (.int .i64 n.tor) rfl)
        have Y5 := KeptO.cell (b := b) hGb (HG3.out.cell 5 (.slice p l cap) rfl)
        have Y6 := KeptO.cell (b := b) hgb HC3.out
        have hG3 : G < w3.heap.size := lt_some HG3.out
        have hg3 : gs < w3.heap.size := lt_some HS3.out
        have hA3' : w.heap.size < w3.heap.size := lt_some hA3.out
        clear HC2 HS2 HK2' HZ3 HC3
        refine wp_region_schedT (fun wx => ∃ x : KeptO b w3, wx = x.v) 11 [([0, 1, 2, 3, 4, 5, 6, 7], 8), ([], 9)] [10] (by kernel_rfl) (by kernel_rfl) (by kernel_rfl) (by kernel_rfl) (keptO_drew _ _) ?_
        (unfold wpSegK; simp only [pick_nil, pick_cons, nthO_zero, nthO_succ, List.append])
        repeat (go_big_quiet_step (fail))
        refine wpQuiet_nil ?_
        have hBd : Below w3.heap.size w3 w3.drew := Below.drew (Below.refl _ _)
        have HUY := Lib.hid (HPA.out (i' + 1) (by omega) (by omega) w3.drew (HP3.out.below hBd) (HT3.out.off (Off.of_below hBd)))
        go_wp2_with fail
        refine HUY.out.mono ?_
        rintro e w4 ⟨c, p2, l3, cap2, i2, bad2, rfl, hp4, ho4', hk4⟩
        have ho4 : Off b w3 w4 := (Off.of_below hBd).trans ho4'
        have HP4 := Lib.hid hp4
        have HO4 := Lib.hid ho4
        have HK4 : Hid (bad2 = 0 → RnF nT (i' + 1) i2 c p2 l3 w4 (fun k => w3.heap.size ≤ k ∧ k < w4.heap.size)) := hk4
        have hs4 := ho4.size
        clear ho4' ho4 hp4 hk4 HUY
        rw [show Value.agg (ndA c p2 l3 cap2) = .agg #[.int .i64 c.kind, .int .i64 c.num, .string ⟨c.text.toArray⟩, .int .i64 c.frm, .int .i64 c.tor, .slice p2 l3 cap2] from rfl]
        go_wp2_with fail
        refine ⟨rfl, ⟨⟨w4, HO4.out⟩, rfl⟩, ?_⟩
        (unfold wpSegK; simp only [pick_nil, pick_cons, nthO_zero, nthO_succ, List.append])
        refine wpQuiet_nil ?_
        go_wp2_with fail
        have e6 : w4.alloc (.cells #[.int .i64 n.kind, .int .i64 n.num, .string ⟨n.text.toArray⟩, .int .i64 n.frm, .int .i64 n.tor, .slice p l cap, .int .i64 c.kind, .int .i64 c.num, .string ⟨c.text.toArray⟩, .int .i64 c.frm, .int .i64 c.tor, .slice p2 l3 cap2] tRn) = w4.alloc (.cells (ndC n p l cap ++ ndC c p2 l3 cap2).toArray tRn) := rfl
        rw [e6]
        clear e6
        have HG5 : Hid (BlkC (w4.alloc (.cells (ndC n p l cap ++ ndC c p2 l3 cap2).toArray tRn)) w4.heap.size (ndC n p l cap ++ ndC c p2 l3 cap2).toArray tRn) := heap_alloc_new w4 _
        have hAB5 : Below w4.heap.size w4 (w4.alloc (.cells (ndC n p l cap ++ ndC c p2 l3 cap2).toArray tRn)) := by (repeat' (first | (with_reducible exact Below.refl _ _) | (with_reducible assumption) | (with_reducible refine Below.alloc ?_ ?_ _) | (with_reducible refine bel_drewN ?_ _) | (with_reducible refine Below.drew ?_) | (with_reducible refine Below.setCell ?_ ?_ _) | (with_reducible refine bel_call ‹_› ?_ ?_) | go_size))
        have HO5 := Lib.hid (HO4.out.call hAB5)
        have HX5 := Lib.hid (HO5.out.bc hGb HG3.out)
        have hA5 := Lib.hid (HO5.out.bc (by omega) hA3.out)
        have HS5 : Hid (SsB (w4.alloc (.cells (ndC n p l cap ++ ndC c p2 l3 cap2).toArray tRn)) gs L) := HO5.out.bc hgb HS3.out
        have HP5 := Lib.hid (HP4.out.below hAB5)
        have hs5 : (w4.alloc (.cells (ndC n p l cap ++ ndC c p2 l3 cap2).toArray tRn)).heap.size = w4.heap.size + 1 := World.size_alloc _ _
        have HKN : Hid (RnF nT i i' n p l (w4.alloc (.cells (ndC n p l cap ++ ndC c p2 l3 cap2).toArray tRn)) (fun k => w.heap.size < k ∧ k < (w4.alloc (.cells (ndC n p l cap ++ ndC c p2 l3 cap2).toArray tRn)).heap.size ∧ k ≠ G)) := HK3.out.carry (fun k hk => ⟨⟨hk.1, by omega, hk.2.2⟩, HO5.out.block k (by omega) (by omega)⟩)
        have HKC : Hid (bad2 = 0 → RnF nT (i' + 1) i2 c p2 l3 (w4.alloc (.cells (ndC n p l cap ++ ndC c p2 l3 cap2).toArray tRn)) (fun k => w.heap.size < k ∧ k < (w4.alloc (.cells (ndC n p l cap ++ ndC c p2 l3 cap2).toArray tRn)).heap.size ∧ k ≠ G)) := fun h => (HK4.out h).carry (fun k hk => ⟨⟨by omega, by omega, by omega⟩, hAB5.block k (by omega)⟩)
        have HKB : Hid (bad2 = 0 → RnF nT i i2 (.mk 6 0 x 0 0 [n, c]) (some ⟨w4.heap.size, 0, none⟩) 2 (w4.alloc (.cells (ndC n p l cap ++ ndC c p2 l3 cap2).toArray tRn)) (fun k => w.heap.size < k ∧ k < (w4.alloc (.cells (ndC n p l cap ++ ndC c p2 l3 cap2).toArray tRn)).heap.size ∧ k ≠ G)) := fun h => HKN.out.bin (HKC.out h) rfl HMX.out.1 HMX.out.2 HG5.out ⟨by omega, by omega, by omega⟩
        have HMS2 : Hid (msr nT i2 0 m bad2 ≤ gk - 1 ∧ 0 < gk) := by
          unfold Hid
          unfold msr at hms ⊢
          rw [if_pos rfl] at hms
          by_cases h0 : bad2 = 0
          · have h1 := (HK4.out h0).2.1
            have h2 := (HK4.out h0).2.2.1.pos
            rw [if_pos h0]
            omega
          · rw [if_neg h0]
            omega
        clear HG5 hAB5 HKN HKC HK4 HK3 HO4 HP4 HG3 hA3 HS3 HP3 HT3
        generalize w4.alloc (.cells (ndC n p l cap ++ ndC c p2 l3 cap2).toArray tRn) = w5 at HO5 HX5 hA5 HS5 HP5 hs5 HKB ⊢
        generalize w4.heap.size = g5 at hs4 hs5 HKB ⊢
        refine ⟨rfl, ⟨⟨w5, HO5.out⟩, rfl⟩, ?_⟩
        (unfold wpSegK; simp only [pick_nil, pick_cons, nthO_zero, nthO_succ, List.append])
        repeat (go_big_quiet_step (fail))
        refine wpQuiet_nil ?_
        refine wpList_store_mid (by rfl) _ _ _ (by rfl) G 0 #[.int .i64 6, .int .i64 0, .string ⟨x.toArray⟩, .int .i64 0, .int .i64 0, .slice (some ⟨g5, 0, none⟩) 2 2] (by rfl) (by rfl) (block_there HX5.out 6 (Nat.le_refl _)) (by kernel_rfl) (by simp [Value.oneCell']) ?_
        have e8 : w5.setCells G 0 (#[.int .i64 6, .int .i64 0, .string ⟨x.toArray⟩, .int .i64 0, .int .i64 0, .slice (some ⟨g5, 0, none⟩) 2 2]).toList = w5.setCells G 0 (ndA (.mk 6 0 x 0 0 [n, c]) (some ⟨g5, 0, none⟩) 2 2).toList := rfl
        rw [e8]
        clear e8
        have HO6 : Hid (Off b w (w5.setCells G 0 (ndA (.mk 6 0 x 0 0 [n, c]) (some ⟨g5, 0, none⟩) 2 2).toList)) := (HO3.out.trans HO5.out).set_cells (by omega) _ _
        have HX6 : Hid (BlkC (w5.setCells G 0 (ndA (.mk 6 0 x 0 0 [n, c]) (some ⟨g5, 0, none⟩) 2 2).toList) G (ndA (.mk 6 0 x 0 0 [n, c]) (some ⟨g5, 0, none⟩) 2 2) tRn) := store_block HX5.out _ rfl
        have hA6 : Hid (BlkC (w5.setCells G 0 (ndA (.mk 6 0 x 0 0 [n, c]) (some ⟨g5, 0, none⟩) 2 2).toList) w.heap.size (ndA ndZ none 0 0) tRn) := (store_other (by omega) _ _ _).trans hA5.out
        have HS6 : Hid (SsB (w5.setCells G 0 (ndA (.mk 6 0 x 0 0 [n, c]) (some ⟨g5, 0, none⟩) 2 2).toList) gs L) := (store_other (by omega) _ _ _).trans HS5.out
        have HP6 : Hid (Rdr (w5.setCells G 0 (ndA (.mk 6 0 x 0 0 [n, c]) (some ⟨g5, 0, none⟩) 2 2).toList) b q nT cT i2 bad2) := (store_other (by omega) _ _ _).trans HP5.out
        have hz6 := (store_below (Nat.zero_le G) (ndA (.mk 6 0 x 0 0 [n, c]) (some ⟨g5, 0, none⟩) 2 2).toList 0 w5 (Below.refl 0 w5)).size
        have hG6 : G < (w5.setCells G 0 (ndA (.mk 6 0 x 0 0 [n, c]) (some ⟨g5, 0, none⟩) 2 2).toList).heap.size := by omega
        have HK6 : Hid (bad2 = 0 → RnF nT i i2 (.mk 6 0 x 0 0 [n, c]) (some ⟨g5, 0, none⟩) 2 (w5.setCells G 0 (ndA (.mk 6 0 x 0 0 [n, c]) (some ⟨g5, 0, none⟩) 2 2).toList) (fun k => w.heap.size < k ∧ k < (w5.setCells G 0 (ndA (.mk 6 0 x 0 0 [n, c]) (some ⟨g5, 0, none⟩) 2 2).toList).heap.size ∧ k ≠ G)) := fun h => (HKB.out h).carry (fun k hk => ⟨⟨by omega, by omega, by omega⟩, store_other (by omega) _ _ _⟩)
        clear HX5 hA5 HS5 HP5 HKB HO5 HO3 hz6
        generalize w5.setCells G 0 (ndA (.mk 6 0 x 0 0 [n, c]) (some ⟨g5, 0, none⟩) 2 2).toList = w6 at HO6 HX6 hA6 HS6 HP6 hG6 HK6 ⊢
        go_simp
        go_wp2_with fail
        refine ⟨rfl, ?_⟩
        go_wp2_with fail
        go_roundg (gk - 1)
        case measure => have := HMS2.out.2; omega
        case rel => exact ⟨0, .mk 6 0 x 0 0 [n, c], some ⟨g5, 0, none⟩, 2, 2, i2, bad2, by first | rfl | go_num, by omega, HMS2.out.1, HX6.out, hA6.out, HP6.out, HO6.out, HS6.out, hG6, HK6.out⟩
    · have hjj : ¬ (j : Int) < (m : Int) := by omega
      go_upto_region 12 with fail
      refine wp_region_lit ?_
      refine wpList_load_mid (by rfl) _ _ (by rfl) G 0 (by rfl) [.int .i64 n.kind, .int .i64 n.num, .string ⟨n.text.toArray⟩, .int .i64 n.frm, .int .i64 n.tor, .slice p l cap] _ (block_range HG1.out [.int .i64 n.kind, .int .i64 n.num, .string ⟨n.text.toArray⟩, .int .i64 n.frm, .int .i64 n.tor, .slice p l cap] rfl) Tryz.underlying25 rfl (by kernel_rfl) ?_
      go_simp
      refine wpList_store_mid (by rfl) _ _ _ (by rfl) w.heap.size 0 #[.int .i64 n.kind, .int .i64 n.num, .string ⟨n.text.toArray⟩, .int .i64 n.frm, .int .i64 n.tor, .slice p l cap] (by rfl) (by rfl) (block_there hA1.out 6 (Nat.le_refl _)) (by kernel_rfl) (by simp [Value.oneCell']) ?_
      have e8 : wr.setCells w.heap.size 0 (#[.int .i64 n.kind, .int .i64 n.num, .string ⟨n.text.toArray⟩, .int .i64 n.frm, .int .i64 n.tor, .slice p l cap]).toList = wr.setCells w.heap.size 0 (ndA n p l cap).toList := rfl
      rw [e8]
      clear e8
      have HS8 : Hid (BlkC (wr.setCells w.heap.size 0 (ndA n p l cap).toList) w.heap.size (ndA n p l cap) tRn) := store_block hA1.out _ rfl
      have HO8 : Hid (Off b w (wr.setCells w.heap.size 0 (ndA n p l cap).toList)) := HO1.out.set_cells (Nat.le_refl _) _ _
      have HP8 := Lib.hid ((store_other (b := w.heap.size) (by omega) (ndA n p l cap).toList 0 wr).trans HP1.out)
      have HK8 : Hid (bad' = 0 → RnF nT i i' n p l (wr.setCells w.heap.size 0 (ndA n p l cap).toList) (fun k => w.heap.size ≤ k ∧ k < (wr.setCells w.heap.size 0 (ndA n p l cap).toList).heap.size)) := fun h => (HK1.out h).carry (fun k hk => ⟨⟨by omega, Nat.lt_of_lt_of_le hk.2.1 (store_below (Nat.zero_le w.heap.size) (ndA n p l cap).toList 0 wr (Below.refl 0 wr)).size⟩, store_other (by omega) _ _ _⟩)
      clear HK1
      clear hA1 HO1 HP1
      generalize wr.setCells w.heap.size 0 (ndA n p l cap).toList = w9 at HS8 HO8 HP8 HK8 ⊢
      go_simp
      iterate 3 (first | go_values | go_skip | go_guarded | go_step | go_upon)
      apply wp_ret
      try simp only [Exit.inBlock, Exit.then]
      exact bodyPost_ret (results_cell_row rfl _ _ w.heap.size tRn (ndA n p l cap) (0, 0) _ rfl HS8.out Tryz.underlying25 rfl (by kernel_rfl)) rfl ⟨n, p, l, cap, i', bad', rfl, HP8.out, HO8.out, HK8.out⟩
end Go.Proofs.YtjklbbmgjjdalaaGreatDoor
namespace Go.Proofs.YtjklbbmgjjdalaaGreatDoor
open Go.RowKit Go.Joins
theorem reader_step (Ts : List Tks.Tk) (hle : Ts.length ≤ 1000) (htk : TokOk Ts) (i : Nat) (hin : i ≤ Ts.length) (H : ∀ p, i < p → p ≤ Ts.length → (∀ lv : Int, 1 ≤ lv → lv ≤ 5 → RPartC Ts p lv) ∧ RLastC Ts p) :
    (∀ lv : Int, 1 ≤ lv → lv ≤ 5 → RPartC Ts i lv) ∧ RLastC Ts i := by
  have hl : RLastC Ts i := rlast_any Ts hle htk i hin (fun p h1 h2 => (H p h1 h2).2) (fun p h1 h2 => (H p h1 h2).1 1 (by omega) (by omega)) (fun t ht h1 =>
    rnamed_any Ts hle htk (i + 1) (by omega) h1 t ht (fun hib => rcall_any Ts hle (i + 1 + 1) (by omega) (isB_lt hib) t ht (fun p h1 h2 => (H p (by omega) h2).1 1 (by omega) (by omega))))
  have p5 : RPartC Ts i 5 := rpart_5 Ts i hl
  have p4 : RPartC Ts i 4 := rpart_s Ts hle i hin 4 (by omega) (by omega) p5 (fun p h1 h2 => (H p h1 h2).1 _ (by omega) (by omega))
  have p3 : RPartC Ts i 3 := rpart_s Ts hle i hin 3 (by omega) (by omega) p4 (fun p h1 h2 => (H p h1 h2).1 _ (by omega) (by omega))
  have p2 : RPartC Ts i 2 := rpart_s Ts hle i hin 2 (by omega) (by omega) p3 (fun p h1 h2 => (H p h1 h2).1 _ (by omega) (by omega))
  have p1 : RPartC Ts i 1 := rpart_s Ts hle i hin 1 (by omega) (by omega) p2 (fun p h1 h2 => (H p h1 h2).1 _ (by omega) (by omega))
  refine ⟨fun lv h1 h2 => ?_, hl⟩
  rcases (show lv = 1 ∨ lv = 2 ∨ lv = 3 ∨ lv = 4 ∨ lv = 5 by omega) with rfl | rfl | rfl | rfl | rfl
  · exact p1
  · exact p2
  · exact p3
  · exact p4
  · exact p5
theorem reader_knot (Ts : List Tks.Tk) (hle : Ts.length ≤ 1000) (htk : TokOk Ts) : ∀ (f i : Nat), i ≤ Ts.length → Ts.length - i ≤ f → (∀ lv : Int, 1 ≤ lv → lv ≤ 5 → RPartC Ts i lv) ∧ RLastC Ts i
  | 0, i, h1, h2 => reader_step Ts hle htk i h1 (fun p h3 h4 => by omega)
  | f + 1, i, h1, h2 => reader_step Ts hle htk i h1 (fun p h3 h4 => reader_knot Ts hle htk f p h4 (by omega))
theorem rpart_any (Ts : List Tks.Tk) (hle : Ts.length ≤ 1000) (htk : TokOk Ts) : RPartC Ts 0 1 := (reader_knot Ts hle htk Ts.length 0 (Nat.zero_le _) (by omega)).1 1 (by omega) (by omega)
end Go.Proofs.YtjklbbmgjjdalaaGreatDoor
namespace Go.Proofs.YtjklbbmgjjdalaaGreatDoor
open Go.RowKit Go.Joins
theorem blk_drew {w : World} {b : Nat} {cs : Array Value} {t : TypeId} (h : BlkC w b cs t) : BlkC w.drew b cs t := h
theorem blk_eq {w : World} {b : Nat} {cs cs' : Array Value} {t : TypeId} (h : BlkC w b cs t) (e : cs' = cs) : BlkC w b cs' t := by rw [e]; exact h
mutual
theorem dp_cn : ∀ n : Nd, dpN n ≤ cnN n
  | .mk k u t f o a => by
    have := dp_cnL a 0
    rw [dpN, cnN]
    omega
theorem dp_cnL : ∀ (a : List Nd) (m : Nat), dpL a m ≤ max m (cnL a)
  | [], m => by rw [dpL]; omega
  | c :: r, m => by
    have h1 := dp_cn c
    have h2 := dp_cnL r (max m (dpN c))
    rw [dpL, cnL]
    omega
end
def RfmX (w : World) (e : Ending) (w' : World) : Prop := (∃ (n : Nd) (p : Option Addr) (l cap : Nat) (k : Int), e = .returned (.tuple #[.agg (ndA n p l cap), .int .i64 k]) ∧ (k = 0 → l = n.args.length ∧ Fm n ∧ OkN n ∧ cnN n ≤ 1000 ∧ wtN n ≤ 260000 ∧ dpN n ≤ 64 ∧ (txM 256 n ∧ cnN n ≤ 256) ∧ ∀ d, dpN n ≤ d + 1 → RdP w' (fun k => w.heap.size ≤ k ∧ k < w'.heap.size) d n p l)
  ∧ (k ≠ 0 → ∀ d, RdP w' (fun k => w.heap.size ≤ k ∧ k < w'.heap.size) d n p l)) ∧ Below w.heap.size w w'
set_option maxRecDepth 100000 in
set_option maxHeartbeats 8000000 in
theorem rformula_x (s : ByteArray) (w : World) : Calls Tryz.prog 26 #[.string s] w (RfmX w) := by
  have hA0 : Hid (BlkC (w.alloc (.cells (ndA ndZ none 0 0) tRn)) w.heap.size (ndA ndZ none 0 0) tRn) := heap_alloc_new w _
  have hB0 : Hid (Below w.heap.size w (w.alloc (.cells (ndA ndZ none 0 0) tRn))) := by unfold Hid; (repeat' (first | (with_reducible exact Below.refl _ _) | (with_reducible assumption) | (with_reducible refine Below.alloc ?_ ?_ _) | (with_reducible refine bel_drewN ?_ _) | (with_reducible refine Below.drew ?_) | (with_reducible refine Below.setCell ?_ ?_ _) | (with_reducible refine bel_call ‹_› ?_ ?_) | go_size))
  have HSP := Lib.hid (fun (hs : s.size ≤ 256) R hR W => Tks.refSplit_any s R (by omega) hR W)
  have HDL := Lib.hid (Lib.size_eq s)
  go_enter Tryz.func26, Tryz.ntmps26
  go_upto_region 1 with fail
  have e0 : w.alloc (.cells #[.int .i64 0, .int .i64 0, .string ⟨#[]⟩, .int .i64 0, .int .i64 0, .slice none 0 0] tRn) = w.alloc (.cells (ndA ndZ none 0 0) tRn) := rfl
  rw [e0]
  clear e0
  generalize w.alloc (.cells (ndA ndZ none 0 0) tRn) = w0 at hA0 hB0 ⊢
  by_cases hlong : 256 < s.size
  · have hl : (256 : Int) < (s.size : Int) := by omega
    clear HSP HDL
    go_upto_region 2 with fail
    refine wp_region_lit ?_
    refine wpList_plain rfl fun K hK => ?_
    go_simp
    refine hK _ _ ?_
    clear hK K
    refine wpList_store_mid (by rfl) _ _ _ (by rfl) w.heap.size 0 #[.int .i64 0, .int .i64 0, .string ⟨#[]⟩, .int .i64 0, .int .i64 0, .slice none 0 0] (by rfl) (by rfl) (block_there hA0.out 6 (Nat.le_refl _)) (by kernel_rfl) (by simp [Value.oneCell']) ?_
    have e8 : w0.setCells w.heap.size 0 (#[.int .i64 0, .int .i64 0, .string ⟨#[]⟩, .int .i64 0, .int .i64 0, .slice none 0 0]).toList = w0.setCells w.heap.size 0 (ndA ndZ none 0 0).toList := rfl
    rw [e8]
    clear e8
    have HS8 : Hid (BlkC (w0.setCells w.heap.size 0 (ndA ndZ none 0 0).toList) w.heap.size (ndA ndZ none 0 0) tRn) := store_block hA0.out _ rfl
    have HB8 : Hid (Below w.heap.size w (w0.setCells w.heap.size 0 (ndA ndZ none 0 0).toList)) := store_below (Nat.le_refl _) _ _ _ hB0.out
    clear hA0 hB0
    generalize w0.setCells w.heap.size 0 (ndA ndZ none 0 0).toList = w9 at HS8 HB8 ⊢
    go_simp
    go_wp2_with fail
    try simp only [Exit.inBlock, Exit.then]
    exact bodyPost_ret (results_row_tmp rfl _ _ w.heap.size tRn (ndA ndZ none 0 0) (0, 0) _ rfl HS8.out Tryz.underlying25 rfl (by kernel_rfl) _ rfl) rfl ⟨⟨ndZ, none, 0, 0, 30, rfl, fun h => absurd h (by first | decide | omega), fun _ d => rdp6_leaf _ _ rfl _ d⟩, HB8.out⟩
  · have hl : ¬ (256 : Int) < (s.size : Int) := by omega
    have hLL : s.data.toList.length ≤ 256 := by rw [← HDL.out]; omega
    cases hspl : Tks.spl s.data.toList 0 with
    | mk oT x =>
      have HS1 := Lib.hid (HSP.out (by omega) _ hspl w0)
      cases oT with
      | none =>
        clear HSP HDL hspl hLL
        go_wp2_with fail
        refine HS1.out.mono ?_
        rintro e w1 ⟨hb1, rfl⟩
        have hA1 := Lib.hid (hA0.out.below hb1)
        have hB1 : Hid (Below w.heap.size w w1) := bel_call hb1 hB0.out hB0.out.size
        clear hb1 hA0 hB0 HS1
        go_upto_region 5 with fail
        refine wp_region_lit ?_
        refine wpList_plain rfl fun K hK => ?_
        go_simp
        refine hK _ _ ?_
        clear hK K
        refine wpList_store_mid (by rfl) _ _ _ (by rfl) w.heap.size 0 #[.int .i64 0, .int .i64 0, .string ⟨#[]⟩, .int .i64 0, .int .i64 0, .slice none 0 0] (by rfl) (by rfl) (block_there hA1.out 6 (Nat.le_refl _)) (by kernel_rfl) (by simp [Value.oneCell']) ?_
        have e8 : w1.setCells w.heap.size 0 (#[.int .i64 0, .int .i64 0, .string ⟨#[]⟩, .int .i64 0, .int .i64 0, .slice none 0 0]).toList = w1.setCells w.heap.size 0 (ndA ndZ none 0 0).toList := rfl
        rw [e8]
        clear e8
        have HS8 : Hid (BlkC (w1.setCells w.heap.size 0 (ndA ndZ none 0 0).toList) w.heap.size (ndA ndZ none 0 0) tRn) := store_block hA1.out _ rfl
        have HB8 : Hid (Below w.heap.size w (w1.setCells w.heap.size 0 (ndA ndZ none 0 0).toList)) := store_below (Nat.le_refl _) _ _ _ hB1.out
        clear hA1 hB1
        generalize w1.setCells w.heap.size 0 (ndA ndZ none 0 0).toList = w9 at HS8 HB8 ⊢
        go_simp
        go_wp2_with fail
        try simp only [Exit.inBlock, Exit.then]
        exact bodyPost_ret (results_row_tmp rfl _ _ w.heap.size tRn (ndA ndZ none 0 0) (0, 0) _ rfl HS8.out Tryz.underlying25 rfl (by kernel_rfl) _ rfl) rfl ⟨⟨ndZ, none, 0, 0, 21, rfl, fun h => absurd h (by first | decide | omega), fun _ d => rdp6_leaf _ _ rfl _ d⟩, HB8.out⟩
      | some Ts =>
        obtain ⟨htk, hcnt⟩ := tokOk_spl s.data.toList.length s.data.toList 0 Ts x (by omega) hLL hspl
        have hle : Ts.length ≤ 256 := by omega
        have HPA := Lib.hid (rpart_any Ts (by omega) htk)
        clear HSP HDL hspl hLL htk hcnt
        go_wp2_with fail
        refine HS1.out.mono ?_
        rintro e w1 ⟨hb1, p, cT, rfl, hrt⟩
        have hA1 := Lib.hid (hA0.out.below hb1)
        have hB1 : Hid (Below w.heap.size w w1) := bel_call hb1 hB0.out hB0.out.size
        have HRT := Lib.hid hrt
        have hw1 : w.heap.size < w1.heap.size := lt_some hA1.out
        clear hb1 hA0 hB0 HS1 hrt
        unfold RPartC at HPA
        have HTR0 : Hid (∀ W, Below w1.heap.size w1 W → W.heap.size > w1.heap.size → TkR W w1.heap.size p Ts) := by
          intro W hW hsz
          obtain ⟨h1, _, _, h2 | ⟨g, h3, h4, h5⟩⟩ := HRT.out
          · exact .inl (List.eq_nil_of_length_eq_zero (by omega))
          · refine .inr ⟨g, h3, by omega, by omega, fun j x hx => ?_⟩
            obtain ⟨k1, k2, k3⟩ := h5 j x hx
            exact ⟨(hW.cell (p := ⟨g, j * 3, none⟩) h4).trans k1, (hW.cell (p := ⟨g, j * 3 + 1, none⟩) h4).trans k2, (hW.cell (p := ⟨g, j * 3 + 2, none⟩) h4).trans k3⟩
        clear HRT
        obtain ⟨nT, hnT⟩ : ∃ n, Ts.length = n := ⟨_, rfl⟩
        rw [hnT] at hle HPA ⊢
        clear hnT
        go_upto_region 7 with fail
        have HP2 : Hid (Rdr (w1.alloc (.cells #[.slice p nT cT, .int .i64 0, .int .i64 0] tRd)) w1.heap.size p nT cT 0 0) := heap_alloc_new w1 _
        have hb2 : Below w1.heap.size w1 (w1.alloc (.cells #[.slice p nT cT, .int .i64 0, .int .i64 0] tRd)) := (Below.refl _ _).alloc (Nat.le_refl _) _
        have hA2 := Lib.hid (hA1.out.below hb2)
        have hB2 : Hid (Below w.heap.size w (w1.alloc (.cells #[.slice p nT cT, .int .i64 0, .int .i64 0] tRd))) := bel_call hb2 hB1.out hB1.out.size
        have hs2 : (w1.alloc (.cells #[.slice p nT cT, .int .i64 0, .int .i64 0] tRd)).heap.size = w1.heap.size + 1 := World.size_alloc _ _
        have HT2 := Lib.hid (HTR0.out _ hb2 (by omega))
        clear hb2 hA1 hB1 HTR0
        generalize w1.alloc (.cells #[.slice p nT cT, .int .i64 0, .int .i64 0] tRd) = w2 at HP2 hA2 hB2 hs2 HT2 ⊢
        generalize w1.heap.size = b at HP2 hs2 HT2 hw1 ⊢
        have HPJ := Lib.hid (HPA.out w2 b p cT HP2.out HT2.out)
        clear HPA HT2 HP2
        go_wp2_with fail
        refine HPJ.out.mono ?_
        rintro e w4 ⟨n, p1, l, cap, i', bad, rfl, hp4, ho4, hk4⟩
        have HP4 := Lib.hid hp4
        have hA4 := Lib.hid (ho4.bc (by omega) hA2.out)
        have hB4 : Hid (Below w.heap.size w w4) := hB2.out.trans (ho4.below (by omega) (by omega))
        have HK4 : Hid (bad = 0 → RnF nT 0 i' n p1 l w4 (fun k => w2.heap.size ≤ k ∧ k < w4.heap.size)) := hk4
        have hz4 := ho4.size
        clear hp4 ho4 hk4 hA2 hB2 HPJ
        rename_i KK aK
        go_simp
        refine aK _ _ ?_
        clear aK
        rw [show Value.agg (ndA n p1 l cap) = .agg #[.int .i64 n.kind, .int .i64 n.num, .string ⟨n.text.toArray⟩, .int .i64 n.frm, .int .i64 n.tor, .slice p1 l cap] from rfl]
        iterate 3 (first | go_values | go_step)
        have e2 : w4.alloc (.cells #[.int .i64 0, .int .i64 0, .string ⟨#[]⟩, .int .i64 0, .int .i64 0, .slice none 0 0] tRn) = w4.alloc (.cells (ndA ndZ none 0 0) tRn) := rfl
        rw [e2]
        clear e2
        have HG5 : Hid (BlkC (w4.alloc (.cells (ndA ndZ none 0 0) tRn)) w4.heap.size (ndA ndZ none 0 0) tRn) := heap_alloc_new w4 _
        have hb : Below w4.heap.size w4 (w4.alloc (.cells (ndA ndZ none 0 0) tRn)) := by (repeat' (first | (with_reducible exact Below.refl _ _) | (with_reducible assumption) | (with_reducible refine Below.alloc ?_ ?_ _) | (with_reducible refine bel_drewN ?_ _) | (with_reducible refine Below.drew ?_) | (with_reducible refine Below.setCell ?_ ?_ _) | (with_reducible refine bel_call ‹_› ?_ ?_) | go_size))
        have hA5 := Lib.hid (hA4.out.below hb)
        have HP5 := Lib.hid (HP4.out.below hb)
        have hB5 : Hid (Below w.heap.size w (w4.alloc (.cells (ndA ndZ none 0 0) tRn))) := bel_call hb hB4.out hB4.out.size
        have hs5 : (w4.alloc (.cells (ndA ndZ none 0 0) tRn)).heap.size = w4.heap.size + 1 := World.size_alloc _ _
        have HK5 : Hid (bad = 0 → RnF nT 0 i' n p1 l (w4.alloc (.cells (ndA ndZ none 0 0) tRn)) (fun k => w2.heap.size ≤ k ∧ k < w4.heap.size)) := fun h => (HK4.out h).carry (fun k hk => ⟨hk, hb.block k hk.2⟩)
        have hbw4 : b < w4.heap.size := by omega
        clear hb hA4 HP4 hB4 HK4
        generalize w4.alloc (.cells (ndA ndZ none 0 0) tRn) = w5 at HG5 hA5 HP5 hB5 HK5 hs5 ⊢
        generalize w4.heap.size = G at HG5 HK5 hs5 hz4 hbw4 ⊢
        refine wpList_store_mid (by rfl) _ _ _ (by rfl) G 0 #[.int .i64 n.kind, .int .i64 n.num, .string ⟨n.text.toArray⟩, .int .i64 n.frm, .int .i64 n.tor, .slice p1 l cap] (by rfl) (by rfl) (block_there HG5.out 6 (Nat.le_refl _)) (by kernel_rfl) (by simp [Value.oneCell']) ?_
        have e8 : w5.setCells G 0 (#[.int .i64 n.kind, .int .i64 n.num, .string ⟨n.text.toArray⟩, .int .i64 n.frm, .int .i64 n.tor, .slice p1 l cap]).toList = w5.setCells G 0 (ndA n p1 l cap).toList := rfl
        rw [e8]
        clear e8
        have HG6 : Hid (BlkC (w5.setCells G 0 (ndA n p1 l cap).toList) G (ndA n p1 l cap) tRn) := store_block HG5.out _ rfl
        have hA6 : Hid (BlkC (w5.setCells G 0 (ndA n p1 l cap).toList) w.heap.size (ndA ndZ none 0 0) tRn) := (store_other (by omega) _ _ _).trans hA5.out
        have HP6 : Hid (Rdr (w5.setCells G 0 (ndA n p1 l cap).toList) b p nT cT i' bad) := (store_other (by omega) _ _ _).trans HP5.out
        have hB6 : Hid (Below w.heap.size w (w5.setCells G 0 (ndA n p1 l cap).toList)) := store_below (by omega) _ _ _ hB5.out
        have hz6 := (store_below (Nat.zero_le G) (ndA n p1 l cap).toList 0 w5 (Below.refl 0 w5)).size
        have HK6 : Hid (bad = 0 → RnF nT 0 i' n p1 l (w5.setCells G 0 (ndA n p1 l cap).toList) (fun k => w.heap.size < k ∧ k < (w5.setCells G 0 (ndA n p1 l cap).toList).heap.size ∧ k ≠ G ∧ k ≠ b)) := fun h => (HK5.out h).carry (fun k hk => ⟨⟨by omega, by omega, by omega, by omega⟩, store_other (by omega) _ _ _⟩)
        have hGb : G ≠ b := by omega
        clear HG5 hA5 HP5 hB5 HK5
        generalize w5.setCells G 0 (ndA n p1 l cap).toList = w6 at HG6 hA6 HP6 hB6 HK6 hz6 ⊢
        go_simp
        iterate 3 (first | go_values | go_skip | go_guarded | go_step | go_upon)
        have hb6 : b < w6.heap.size := lt_some HP6.out
        have hG6 : G < w6.heap.size := lt_some HG6.out
        go_upto_region 8 with fail
        go_cut [40] (fun v wx => v = .bool (decide (bad = 0 ∧ i' < nT)) ∧ wx = w6)
        case first =>
          obtain ⟨p0, p1', p2, _, pf⟩ := HP6.out.cells
          by_cases hb0 : bad = 0
          · subst hb0
            by_cases hlt : i' < nT
            · have hli : (i' : Int) < (nT : Int) := by omega
              go_wp2_with fail
              go_meet
              exact ⟨by simp [hlt], rfl⟩
            · have hli : ¬ (i' : Int) < (nT : Int) := by omega
              go_wp2_with fail
              go_meet
              exact ⟨by simp [hlt], rfl⟩
          · have hbe : (bad == 0) = false := by simpa using hb0
            go_wp2_with fail
            go_meet
            exact ⟨by simp [hb0], rfl⟩
        case rest =>
        obtain ⟨hv, hw⟩ := hcut
        rw [hw]
        subst hv
        clear hw
        go_upto_if 40 with fail
        go_cut [] (fun wx => ∃ bad2 : Int, Rdr wx b p nT cT i' bad2 ∧ BlkC wx G (ndA n p1 l cap) tRn ∧ BlkC wx w.heap.size (ndA ndZ none 0 0) tRn ∧ Below w.heap.size w wx ∧ (bad2 = 0 → bad = 0 ∧ nT ≤ i') ∧ wx.heap.size = w6.heap.size ∧ (∀ k, k < w6.heap.size → k ≠ b → wx.heap[k]? = w6.heap[k]?))
        case first =>
          obtain ⟨p0, p1', p2, _, pf⟩ := HP6.out.cells
          by_cases hR : bad = 0 ∧ i' < nT
          · rw [decide_eq_true hR]
            go_wp2_with fail
            go_meet
            exact ⟨21, HP6.out.setB 21, (heap_setCell_other _ _ _ _ hGb).trans HG6.out, (heap_setCell_other _ _ _ _ (show w.heap.size ≠ b by omega)).trans hA6.out, hB6.out.setCell (by show w.heap.size ≤ b; omega) _, fun h => absurd h (by decide), World.size_setCell _ _ _, fun k _ hk => heap_setCell_other _ _ _ _ (fun e => hk e)⟩
          · rw [decide_eq_false hR]
            go_wp2_with fail
            go_meet
            exact ⟨bad, HP6.out, HG6.out, hA6.out, hB6.out, fun h => ⟨h, by omega⟩, rfl, fun k _ _ => rfl⟩
        case rest =>
          obtain ⟨bad2, hp7, hg7, ha7, hb7, hz7, hs7, hk7⟩ := hcut
          have HP7 := Lib.hid hp7
          have HG7 := Lib.hid hg7
          have hA7 := Lib.hid ha7
          have hB7 := Lib.hid hb7
          have HK7 : Hid (bad2 = 0 → RnF nT 0 i' n p1 l wc (fun k => w.heap.size < k ∧ k < wc.heap.size)) := fun h => (HK6.out (hz7 h).1).carry (fun k hk => ⟨⟨hk.1, by omega⟩, hk7 k hk.2.1 hk.2.2.2⟩)
          clear hp7 hg7 ha7 hb7 hk7 hz7 HP6 HG6 hA6 hB6 HK6
          generalize wc = w7 at HP7 HG7 hA7 hB7 HK7 hs7 ⊢
          obtain ⟨p0, p1', p2, _, pf⟩ := HP7.out.cells
          by_cases hb0 : bad2 = 0
          · subst hb0
            have hK := HK7.out rfl
            have HF7 := Lib.hid hK.2.2.1
            have HL7 := Lib.hid hK.1
            have hcn := hK.2.2.1.cn
            have hwt := hK.2.2.1.wt
            have hiT := hK.2.1
            have HD7 : Hid (∀ d, dpN n ≤ d + 1 → RdP w7 (fun k => w.heap.size < k ∧ k < w7.heap.size) d n p1 l) := hK.2.2.2
            clear hK HK7
            obtain ⟨c0, c1, c2, c3, c4, c5⟩ : w7.cell? ⟨G, 0, none⟩ = some (.int .i64 n.kind) ∧ w7.cell? ⟨G, 1, none⟩ = some (.int .i64 n.num) ∧ w7.cell? ⟨G, 2, none⟩ = some (.string ⟨n.text.toArray⟩) ∧ w7.cell? ⟨G, 3, none⟩ = some (.int .i64 n.frm) ∧ w7.cell? ⟨G, 4, none⟩ = some (.int .i64 n.tor) ∧ w7.cell? ⟨G, 5, none⟩ = some (.slice p1 l cap) := ⟨HG7.out.cell 0 _ rfl, HG7.out.cell 1 _ rfl, HG7.out.cell 2 _ rfl, HG7.out.cell 3 _ rfl, HG7.out.cell 4 _ rfl, HG7.out.cell 5 _ rfl⟩
            have hdc : dpN n ≤ 1000000 := by
              have := dp_cn n
              omega
            have HDD := Lib.hid (rdepth_any (dpN n) n p1 l cap w7 ((HD7.out (dpN n) (by omega)).rdT (fun k hk => hk.2)) HF7.out.ok hdc)
            rw [ndA_eq] at HDD
            obtain ⟨dp, hdp⟩ : ∃ dp, dpN n = dp := ⟨_, rfl⟩
            have HDP := Lib.hid hdp
            rw [hdp] at HDD
            clear hdp hdc
            by_cases h64 : 64 < dp
            · have h65 : (64 : Int) < (dp : Int) := by omega
              clear hs7 hs5 hz6 hz4 hs2
              go_wp2_with fail
              refine HDD.out.mono ?_
              rintro e w8 ⟨rfl, hb8⟩
              have hA8 := Lib.hid (hA7.out.below hb8)
              have hB8 : Hid (Below w.heap.size w w8) := bel_call hb8 hB7.out hB7.out.size
              clear hb8 HDD c0 c1 c2 c3 c4 c5 hA7 hB7 HP7 p0 p1' p2 pf HG7 HD7
              go_upto_region 13 with fail
              refine wp_region_lit ?_
              refine wpList_plain rfl fun K hK => ?_
              go_simp
              refine hK _ _ ?_
              clear hK K
              refine wpList_store_mid (by rfl) _ _ _ (by rfl) w.heap.size 0 #[.int .i64 0, .int .i64 0, .string ⟨#[]⟩, .int .i64 0, .int .i64 0, .slice none 0 0] (by rfl) (by rfl) (block_there hA8.out 6 (Nat.le_refl _)) (by kernel_rfl) (by simp [Value.oneCell']) ?_
              have e8 : w8.setCells w.heap.size 0 (#[.int .i64 0, .int .i64 0, .string ⟨#[]⟩, .int .i64 0, .int .i64 0, .slice none 0 0]).toList = w8.setCells w.heap.size 0 (ndA ndZ none 0 0).toList := rfl
              rw [e8]
              clear e8
              have HS8 : Hid (BlkC (w8.setCells w.heap.size 0 (ndA ndZ none 0 0).toList) w.heap.size (ndA ndZ none 0 0) tRn) := store_block hA8.out _ rfl
              have HB8 : Hid (Below w.heap.size w (w8.setCells w.heap.size 0 (ndA ndZ none 0 0).toList)) := store_below (Nat.le_refl _) _ _ _ hB8.out
              clear hA8 hB8
              generalize w8.setCells w.heap.size 0 (ndA ndZ none 0 0).toList = w9 at HS8 HB8 ⊢
              go_simp
              go_wp2_with fail
              try simp only [Exit.inBlock, Exit.then]
              exact bodyPost_ret (results_row_tmp rfl _ _ w.heap.size tRn (ndA ndZ none 0 0) (0, 0) _ rfl HS8.out Tryz.underlying25 rfl (by kernel_rfl) _ rfl) rfl ⟨⟨ndZ, none, 0, 0, 22, rfl, fun h => absurd h (by first | decide | omega), fun _ d => rdp6_leaf _ _ rfl _ d⟩, HB8.out⟩
            · have h65 : ¬ (64 : Int) < (dp : Int) := by omega
              clear hs7 hs5 hz6 hz4 hs2
              go_wp2_with fail
              refine HDD.out.mono ?_
              rintro e w8 ⟨rfl, hb8⟩
              have hA8 := Lib.hid (hA7.out.below hb8)
              have HG8 := Lib.hid (HG7.out.below hb8)
              have hB8 : Hid (Below w.heap.size w w8) := bel_call hb8 hB7.out hB7.out.size
              have hs8 := hb8.size
              have HK8 : Hid (∀ d, dpN n ≤ d + 1 → RdP w8 (fun k => w.heap.size < k ∧ k < w8.heap.size) d n p1 l) := fun d hd => (HD7.out d hd).carry (fun k hk => ⟨⟨hk.1, by omega⟩, hb8.block k hk.2⟩)
              clear hb8 HDD c0 c1 c2 c3 c4 c5 hA7 hB7 HP7 p0 p1' p2 pf HG7 HD7
              go_upto_region 14 with fail
              refine wp_region_lit ?_
              refine wpList_load_mid (by rfl) _ _ (by rfl) G 0 (by rfl) [.int .i64 n.kind, .int .i64 n.num, .string ⟨n.text.toArray⟩, .int .i64 n.frm, .int .i64 n.tor, .slice p1 l cap] _ (block_range HG8.out [.int .i64 n.kind, .int .i64 n.num, .string ⟨n.text.toArray⟩, .int .i64 n.frm, .int .i64 n.tor, .slice p1 l cap] rfl) Tryz.underlying25 rfl (by kernel_rfl) ?_
              go_simp
              refine wpList_store_mid (by rfl) _ _ _ (by rfl) w.heap.size 0 #[.int .i64 n.kind, .int .i64 n.num, .string ⟨n.text.toArray⟩, .int .i64 n.frm, .int .i64 n.tor, .slice p1 l cap] (by rfl) (by rfl) (block_there hA8.out 6 (Nat.le_refl _)) (by kernel_rfl) (by simp [Value.oneCell']) ?_
              have e8 : w8.setCells w.heap.size 0 (#[.int .i64 n.kind, .int .i64 n.num, .string ⟨n.text.toArray⟩, .int .i64 n.frm, .int .i64 n.tor, .slice p1 l cap]).toList = w8.setCells w.heap.size 0 (ndA n p1 l cap).toList := rfl
              rw [e8]
              clear e8
              have HS9 : Hid (BlkC (w8.setCells w.heap.size 0 (ndA n p1 l cap).toList) w.heap.size (ndA n p1 l cap) tRn) := store_block hA8.out _ rfl
              have HB9 : Hid (Below w.heap.size w (w8.setCells w.heap.size 0 (ndA n p1 l cap).toList)) := store_below (Nat.le_refl _) _ _ _ hB8.out
              have HK9 : Hid (∀ d, dpN n ≤ d + 1 → RdP (w8.setCells w.heap.size 0 (ndA n p1 l cap).toList) (fun k => w.heap.size ≤ k ∧ k < (w8.setCells w.heap.size 0 (ndA n p1 l cap).toList).heap.size) d n p1 l) := fun d hd => (HK8.out d hd).carry (fun k hk => ⟨⟨by omega, Nat.lt_of_lt_of_le hk.2 (store_below (Nat.zero_le w.heap.size) (ndA n p1 l cap).toList 0 w8 (Below.refl 0 w8)).size⟩, store_other (by omega) _ _ _⟩)
              clear hB8 HK8 HG8 hA8
              generalize w8.setCells w.heap.size 0 (ndA n p1 l cap).toList = w9 at HS9 HB9 HK9 ⊢
              go_simp
              go_wp2_with fail
              try simp only [Exit.inBlock, Exit.then]
              exact bodyPost_ret (results_row_tmp rfl _ _ w.heap.size tRn (ndA n p1 l cap) (0, 0) _ rfl HS9.out Tryz.underlying25 rfl (by kernel_rfl) _ rfl) rfl ⟨⟨n, p1, l, cap, 0, rfl, fun _ => ⟨HL7.out, HF7.out.fm, HF7.out.ok, by omega, by omega, by have := HDP.out; omega, ⟨HF7.out.tx, by omega⟩, HK9.out⟩, fun h => absurd rfl h⟩, HB9.out⟩
          · have hbe : (bad2 == 0) = false := by simpa using hb0
            have a0 := hA7.out.cell 0 _ rfl
            have a1 := hA7.out.cell 1 _ rfl
            have a2 := hA7.out.cell 2 _ rfl
            have a3 := hA7.out.cell 3 _ rfl
            have a4 := hA7.out.cell 4 _ rfl
            have a5 := hA7.out.cell 5 _ rfl
            have z0 := hA7.out.fz 0
            have z1 := hA7.out.fz 1
            have z2 := hA7.out.fz 2
            have z3 := hA7.out.fz 3
            have z4 := hA7.out.fz 4
            have z5 := hA7.out.fz 5
            clear HG7 HK7 hs7 hs5 hz6 hz4 hs2
            go_wp2_with fail
            go_cut [3] (fun v3 wx => v3 = .int .i64 bad2 ∧ BlkC wx w.heap.size (ndA ndZ none 0 0) tRn ∧ Below w.heap.size w wx)
            case first =>
              go_region_with (fail)
              all_goals go_wp2_with fail
              all_goals go_meet
              all_goals (have X := six_heap (.int .i64 0) (.int .i64 0) (.string ⟨#[]⟩) (.int .i64 0) (.int .i64 0) (.slice none 0 0) hA7.out)
              all_goals (have Y := (((((hB7.out.setCell (p := ⟨w.heap.size, 0, none⟩) (Nat.le_refl _) (.int .i64 0)).setCell (p := ⟨w.heap.size, 1, none⟩) (Nat.le_refl _) (.int .i64 0)).setCell (p := ⟨w.heap.size, 2, none⟩) (Nat.le_refl _) (.string ⟨#[]⟩)).setCell (p := ⟨w.heap.size, 3, none⟩) (Nat.le_refl _) (.int .i64 0)).setCell (p := ⟨w.heap.size, 4, none⟩) (Nat.le_refl _) (.int .i64 0)).setCell (p := ⟨w.heap.size, 5, none⟩) (Nat.le_refl _) (.slice none 0 0))
              all_goals (have X1 := blk_eq (cs' := ndA ndZ none 0 0) X.1 rfl)
              all_goals exact ⟨rfl, blk_drew X1, Below.drew Y⟩
            case rest =>
              obtain ⟨hv, ha8, hb8⟩ := hcut
              subst hv
              have HA8 := Lib.hid ha8
              have HB8 := Lib.hid hb8
              clear ha8 hb8 hA7 hB7 HP7 p0 p1' p2 pf a0 a1 a2 a3 a4 a5 z0 z1 z2 z3 z4 z5
              go_wp2_with fail
              try simp only [Exit.inBlock, Exit.then]
              exact bodyPost_ret (results_row_tmp rfl _ _ w.heap.size tRn (ndA ndZ none 0 0) (0, 0) _ rfl HA8.out Tryz.underlying25 rfl (by kernel_rfl) _ rfl) rfl ⟨⟨ndZ, none, 0, 0, bad2, rfl, fun h => absurd h hb0, fun _ d => rdp6_leaf _ _ rfl _ d⟩, HB8.out⟩
end Go.Proofs.YtjklbbmgjjdalaaGreatDoor
