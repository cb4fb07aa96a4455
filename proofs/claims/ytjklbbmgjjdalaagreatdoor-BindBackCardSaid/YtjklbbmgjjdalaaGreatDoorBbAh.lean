/- The document's reader of formulas: 'last'. Printed by gen_rr.py. -/
import Derived.Test.YtjklbbmgjjdalaaGreatDoorBbAg
set_option linter.unusedSimpArgs false
set_option linter.unusedVariables false
namespace Go.Proofs.YtjklbbmgjjdalaaGreatDoor
open Go.RowKit Go.Joins
theorem rdp6_one {W : World} {ok : Nat → Prop} {n c : Nd} {g : Nat} {p : Option Addr} {l cp : Nat} {T : TypeId} (hn : n.args = [c]) (hg : BlkC W g (ndA c p l cp) T) (h1 : ok g) (hd : dpN n = dpN c + 1)
    (hc : ∀ d, dpN c ≤ d + 1 → RdP W ok d c p l) : ∀ d, dpN n ≤ d + 1 → RdP W ok d n (some ⟨g, 0, none⟩) 1 := by
  intro d hdd
  have hd0 : 1 ≤ dpN c := by cases c; rw [dpN]; omega
  cases d with
  | zero => omega
  | succ d =>
    refine ⟨by rw [hn]; rfl, .inr ⟨g, 0, rfl, h1, fun j x hx => ?_⟩⟩
    rw [hn] at hx
    match j, hx with
    | 0, hx =>
      simp only [List.getElem?_cons_zero, Option.some.injEq] at hx
      subst hx
      refine ⟨p, l, cp, fun k u hu => ?_, hc d (by omega)⟩
      have := BlkC.cell hg k u (by show (ndC c p l cp).toArray[k]? = some u; rw [List.getElem?_toArray]; exact hu)
      rw [show 0 + 0 * 6 + k = k from by omega]
      exact this
    | j + 1, hx => simp at hx
theorem rdp6_two {ok : Nat → Prop} {W : World} {n a c : Nd} {g : Nat} {p p' : Option Addr} {l l' cp cp' : Nat} {T : TypeId} (hn : n.args = [a, c]) (hg : BlkC W g (ndC a p l cp ++ ndC c p' l' cp').toArray T) (h1 : ok g) (hd : dpN n = max (dpN a) (dpN c) + 1)
    (ha : ∀ d, dpN a ≤ d + 1 → RdP W ok d a p l) (hc : ∀ d, dpN c ≤ d + 1 → RdP W ok d c p' l') : ∀ d, dpN n ≤ d + 1 → RdP W ok d n (some ⟨g, 0, none⟩) 2 := by
  intro d hdd
  have hd0 : 1 ≤ dpN c := by cases c; rw [dpN]; omega
  cases d with
  | zero => omega
  | succ d =>
    refine ⟨by rw [hn]; rfl, .inr ⟨g, 0, rfl, h1, fun j x hx => ?_⟩⟩
    rw [hn] at hx
    match j, hx with
    | 0, hx =>
      simp only [List.getElem?_cons_zero, Option.some.injEq] at hx
      subst hx
      refine ⟨p, l, cp, fun k u hu => ?_, ha d (by omega)⟩
      have hk : k < (ndC a p l cp).length := (List.getElem?_eq_some_iff.1 hu).1
      have := BlkC.cell hg k u (by rw [List.getElem?_toArray, List.getElem?_append_left hk]; exact hu)
      rw [show 0 + 0 * 6 + k = k from by omega]
      exact this
    | 1, hx =>
      simp only [List.getElem?_cons_succ, List.getElem?_cons_zero, Option.some.injEq] at hx
      subst hx
      refine ⟨p', l', cp', fun k u hu => ?_, hc d (by omega)⟩
      have := BlkC.cell hg (6 + k) u (by rw [List.getElem?_toArray, List.getElem?_append_right (by show 6 ≤ 6 + k; omega)]; rw [← hu]; congr 1; show 6 + k - 6 = k; omega)
      rw [show 0 + 1 * 6 + k = 6 + k from by omega]
      exact this
    | j + 2, hx => simp at hx
theorem RnF.neg {nT j j' i' : Nat} {n : Nd} {p : Option Addr} {l cp g : Nat} {W : World} {ok : Nat → Prop} {T : TypeId} (h : RnF nT j' i' n p l W ok) (hj : j < j') (hg : BlkC W g (ndA n p l cp) T) (hok : ok g) : RnF nT j i' (.mk 5 0 [] 0 0 [n]) (some ⟨g, 0, none⟩) 1 W ok :=
  ⟨rfl, h.2.1, (gd_neg h.2.2.1).up (by have := h.2.2.1.pos; omega), rdp6_one rfl hg hok (dpN_one 5 [] n) h.2.2.2⟩
theorem RnF.up {nT j j' i' i'' : Nat} {n : Nd} {p : Option Addr} {l : Nat} {W : World} {ok : Nat → Prop} (h : RnF nT j' i' n p l W ok) (h1 : i'' ≤ nT) (h2 : i' - j' ≤ i'' - j) : RnF nT j i'' n p l W ok := ⟨h.1, h1, h.2.2.1.up h2, h.2.2.2⟩
set_option maxRecDepth 100000 in
set_option maxHeartbeats 8000000 in
theorem rlast_any (Ts : List Tks.Tk) (hle : Ts.length ≤ 1000) (htk : TokOk Ts) (i : Nat) (hin : i ≤ Ts.length) (IHl : ∀ p, i < p → p ≤ Ts.length → RLastC Ts p) (IHp : ∀ p, i < p → p ≤ Ts.length → RPartC Ts p 1) (IHn : ∀ t : Bs, t.length ≤ 256 → i + 1 ≤ Ts.length → RNamedC Ts (i + 1) t) : RLastC Ts i := by
  intro w b q cT hp ht
  have HI1 := Lib.hid (fun W (h : Rdr W b q Ts.length cT i 0) (h' : TkR W b q Ts) => ris_any b q cT i 0 Ts [45] W h h' hle)
  rw [decide_eq_true rfl, Bool.true_and] at HI1
  have HI2 := Lib.hid (fun W (h : Rdr W b q Ts.length cT i 0) (h' : TkR W b q Ts) => ris_any b q cT i 0 Ts [40] W h h' hle)
  rw [decide_eq_true rfl, Bool.true_and] at HI2
  have HI3 := Lib.hid (fun bad j W (h : Rdr W b q Ts.length cT j bad) (h' : TkR W b q Ts) => ris_any b q cT j bad Ts [41] W h h' hle)
  have HF := Lib.hid (fun bad k j W (h : Rdr W b q Ts.length cT j bad) => rfail_any b q Ts.length cT j bad k W h)
  have HLA := Lib.hid (fun p h1 h2 W h h' => IHl p h1 h2 W b q cT h h')
  have HPA := Lib.hid (fun p h1 h2 W h h' => IHp p h1 h2 W b q cT h h')
  have HNA := Lib.hid (fun t h1 h2 W h h' => IHn t h1 h2 W b q cT h h')
  have HIB := Lib.hid (fun p s (h : isB Ts p s = true) => isB_lt h)
  have HTOK := Lib.hid htk
  clear IHl IHp IHn htk
  obtain ⟨nT, hnT⟩ : ∃ n, Ts.length = n := ⟨_, rfl⟩
  have HNT := Lib.hid hnT
  rw [hnT] at HI1 HI2 HI3 HF hle hin HIB hp HLA HPA HNA ⊢
  clear hnT
  have hA0 : Hid (BlkC (w.alloc (.cells (ndA ndZ none 0 0) tRn)) w.heap.size (ndA ndZ none 0 0) tRn) := heap_alloc_new w _
  have hAB : Below w.heap.size w (w.alloc (.cells (ndA ndZ none 0 0) tRn)) := by (repeat' (first | (with_reducible exact Below.refl _ _) | (with_reducible assumption) | (with_reducible refine Below.alloc ?_ ?_ _) | (with_reducible refine bel_drewN ?_ _) | (with_reducible refine Below.drew ?_) | (with_reducible refine Below.setCell ?_ ?_ _) | (with_reducible refine bel_call ‹_› ?_ ?_) | go_size))
  have HP0 := Lib.hid (hp.below hAB)
  have HO0 := Lib.hid (Off.of_below (b := b) hAB)
  have hbw : b < w.heap.size := lt_some hp
  have HT0 := Lib.hid (ht.off (Off.of_below hAB))
  have HTW := Lib.hid (fun W (h : Off b w W) => ht.off h)
  clear hp hAB
  go_enter Tryz.func70, Tryz.ntmps70
  go_upto_region 1 with fail
  have e0 : w.alloc (.cells #[.int .i64 0, .int .i64 0, .string ⟨#[]⟩, .int .i64 0, .int .i64 0, .slice none 0 0] tRn) = w.alloc (.cells (ndA ndZ none 0 0) tRn) := rfl
  rw [e0]
  clear e0
  generalize w.alloc (.cells (ndA ndZ none 0 0) tRn) = w0 at hA0 HP0 HO0 HT0 ⊢
  clear ht
  have hbne : ∀ k : Int, 0 < k → ¬ (if (0 : Int) = 0 then k else 0) = 0 := fun k h => by rw [if_pos rfl]; omega
  obtain ⟨p0, p1, p2, _⟩ := HP0.out.cells
  have r0 := cell_regrown p0
  have r1 := cell_regrown p1
  have r2 := cell_regrown p2
  have hBR : ∀ dd os, Below w0.heap.size w0 (Go.Sort.grow (redrawn w0 dd) os) := fun dd os => below_regrown w0 dd os
  clear p0 p1 p2
  cases hx : Ts[i]? with
  | none =>
    have hge : ¬ (i : Int) < (nT : Int) := by
      have h := List.getElem?_eq_none_iff.1 hx
      have h2 := HNT.out
      omega
    have hge2 : (nT : Int) ≤ (i : Int) := by omega
    clear hx
    refine wp_region_quiet_below (by kernel_rfl) (by kernel_rfl) ?_
    repeat (go_big_quiet_step (fail))
    refine wpQuiet_nil ?_
    intro _ hw'
    obtain ⟨⟨dz, osz⟩, hw''⟩ := hw'
    subst hw''
    have hB1 := hBR dz osz
    have HP1 := Lib.hid (HP0.out.below hB1)
    have hA1 := Lib.hid (hA0.out.below hB1)
    have HO1 := Lib.hid (HO0.out.call hB1)
    have HT1 := Lib.hid (HT0.out.off (Off.of_below hB1))
    have hz1 := hB1.size
    clear r0 r1 r2 hBR hB1 HP0 hA0 HO0 HT0
    generalize Go.Sort.grow (redrawn w0 dz) osz = w1 at HP1 hA1 HO1 HT1 hz1 ⊢
    go_wp2_with fail
    refine ((Lib.hid (HF.out 0 21 i)).out w1 HP1.out).mono ?_
    rintro e wf ⟨rfl, hpf, hof⟩
    have HPf := Lib.hid hpf
    have hAf := Lib.hid (hof.bc (by omega) hA1.out)
    have HOf := Lib.hid (HO1.out.trans hof)
    clear hpf hof hA1 HP1 HO1 HT1
    rw [show Value.agg (ndA ndZ none 0 0) = .agg #[.int .i64 0, .int .i64 0, .string ⟨#[]⟩, .int .i64 0, .int .i64 0, .slice none 0 0] from rfl]
    rename_i KK aK
    go_simp
    refine aK _ _ ?_
    clear aK
    refine wpList_store_mid (by rfl) _ _ _ (by rfl) w.heap.size 0 #[.int .i64 0, .int .i64 0, .string ⟨#[]⟩, .int .i64 0, .int .i64 0, .slice none 0 0] (by rfl) (by rfl) (block_there hAf.out 6 (Nat.le_refl _)) (by kernel_rfl) (by simp [Value.oneCell']) ?_
    have e8 : wf.setCells w.heap.size 0 (#[.int .i64 0, .int .i64 0, .string ⟨#[]⟩, .int .i64 0, .int .i64 0, .slice none 0 0]).toList = wf.setCells w.heap.size 0 (ndA ndZ none 0 0).toList := rfl
    rw [e8]
    clear e8
    have HS8 : Hid (BlkC (wf.setCells w.heap.size 0 (ndA ndZ none 0 0).toList) w.heap.size (ndA ndZ none 0 0) tRn) := store_block hAf.out _ rfl
    have HO8 : Hid (Off b w (wf.setCells w.heap.size 0 (ndA ndZ none 0 0).toList)) := HOf.out.set_cells (Nat.le_refl _) _ _
    have HP8 := Lib.hid ((store_other (b := w.heap.size) (by omega) (ndA ndZ none 0 0).toList 0 wf).trans HPf.out)
    clear hAf HOf HPf
    generalize wf.setCells w.heap.size 0 (ndA ndZ none 0 0).toList = w9 at HS8 HO8 HP8 ⊢
    go_simp
    iterate 3 (first | go_values | go_skip | go_guarded | go_step | go_upon)
    apply wp_ret
    try simp only [Exit.inBlock, Exit.then]
    exact bodyPost_ret (results_cell_row rfl _ _ w.heap.size tRn (ndA ndZ none 0 0) (0, 0) _ rfl HS8.out Tryz.underlying25 rfl (by kernel_rfl)) rfl ⟨ndZ, none, 0, 0, _, _, rfl, HP8.out, HO8.out, fun h => absurd h (hbne 21 (by omega))⟩
  | some x =>
    have hlt : (i : Int) < (nT : Int) := by
      have h := (List.getElem?_eq_some_iff.1 hx).1
      have h2 := HNT.out
      omega
    have hlt2 : ¬ (nT : Int) ≤ (i : Int) := by omega
    have hlt3 : i < nT := by omega
    have HTX := Lib.hid (HTOK.out x (List.mem_of_getElem? hx))
    obtain ⟨g, rfl, hgb, _, _, _, _⟩ := HT0.out.at hx
    have HTA := Lib.hid (fun W (h : TkR W b (some ⟨g, 0, none⟩) Ts) => h.at hx)
    obtain ⟨kx, tx, ax⟩ := x
    clear hx
    refine wp_region_quiet_below (by kernel_rfl) (by kernel_rfl) ?_
    repeat (go_big_quiet_step (fail))
    refine wpQuiet_nil ?_
    intro _ hw'
    obtain ⟨⟨dz, osz⟩, hw''⟩ := hw'
    subst hw''
    have hB1 := hBR dz osz
    have HP1 := Lib.hid (HP0.out.below hB1)
    have hA1 := Lib.hid (hA0.out.below hB1)
    have HO1 := Lib.hid (HO0.out.call hB1)
    have HT1 := Lib.hid (HT0.out.off (Off.of_below hB1))
    have hz1 := hB1.size
    clear r0 r1 r2 hBR hB1 HP0 hA0 HO0 HT0
    generalize Go.Sort.grow (redrawn w0 dz) osz = w1 at HP1 hA1 HO1 HT1 hz1 ⊢
    cases hib : isB Ts i [45] with
    | true =>
      rw [hib] at HI1
      go_wp2_with fail
      refine (HI1.out w1 HP1.out HT1.out).mono ?_
      rintro e w2 ⟨rfl, hb⟩
      have hA2 := Lib.hid (hA1.out.below hb)
      have HP2 := Lib.hid (HP1.out.below hb)
      have HO2 := Lib.hid (HO1.out.call hb)
      have HT2 := Lib.hid (HT1.out.off (Off.of_below hb))
      have hz2 := hb.size
      clear hb hA1 HP1 HO1 HT1
      obtain ⟨_, p1, _, pf, _⟩ := HP2.out.cells
      have f1 : IntKind.i64.wrap ((i : Int) + 1) = (i : Int) + 1 := IntWalk.i64_in _ (by omega)
      go_upto_region 5 with fail
      have HP3 : Hid (Rdr (w2.setCell ⟨b, 1, none⟩ (.int .i64 ((i : Int) + 1))) b (some ⟨g, 0, none⟩) nT cT (i + 1) 0) := HP2.out.set ((i : Int) + 1) (i + 1) (by omega)
      have HO3 := Lib.hid (HO2.out.set 1 (.int .i64 ((i : Int) + 1)))
      have hO3 := Off.set (Off.refl b w2) 1 (.int .i64 ((i : Int) + 1))
      have HT3 := Lib.hid (HT2.out.off hO3)
      have hA3 := Lib.hid (hO3.bc (by omega) hA2.out)
      have hz3 := hO3.size
      clear HP2 HO2 HT2 hA2 p1 pf f1 hO3
      generalize w2.setCell ⟨b, 1, none⟩ (.int .i64 ((i : Int) + 1)) = w3 at HP3 HO3 HT3 hA3 hz3 ⊢
      go_wp2_with fail
      refine (HLA.out (i + 1) (by omega) (by omega) w3 HP3.out HT3.out).mono ?_
      rintro e w4 ⟨n, p, l, cap, i', bad', rfl, hpr, hor, hkr⟩
      have hw03 : w.heap.size < w3.heap.size := lt_some hA3.out
      have HP4 := Lib.hid hpr
      have hA4 := Lib.hid (hor.bc (by omega) hA3.out)
      have HO4 := Lib.hid (HO3.out.trans hor)
      have HT4 := Lib.hid (HT3.out.off hor)
      have HK4 : Hid (bad' = 0 → RnF nT (i + 1) i' n p l w4 (fun k => w3.heap.size ≤ k ∧ k < w4.heap.size)) := hkr
      have hz4 := hor.size
      clear hpr hor hkr hA3 HP3 HO3 HT3
      rename_i KK aK
      go_simp
      refine aK _ _ ?_
      clear aK
      rw [show Value.agg (ndA n p l cap) = .agg #[.int .i64 n.kind, .int .i64 n.num, .string ⟨n.text.toArray⟩, .int .i64 n.frm, .int .i64 n.tor, .slice p l cap] from rfl]
      iterate 3 (first | go_values | go_step)
      have e2 : w4.alloc (.cells #[.int .i64 n.kind, .int .i64 n.num, .string ⟨n.text.toArray⟩, .int .i64 n.frm, .int .i64 n.tor, .slice p l cap] tRn) = w4.alloc (.cells (ndA n p l cap) tRn) := rfl
      rw [e2]
      clear e2
      have HG5 : Hid (BlkC (w4.alloc (.cells (ndA n p l cap) tRn)) w4.heap.size (ndA n p l cap) tRn) := heap_alloc_new w4 _
      have hb : Below w4.heap.size w4 (w4.alloc (.cells (ndA n p l cap) tRn)) := by (repeat' (first | (with_reducible exact Below.refl _ _) | (with_reducible assumption) | (with_reducible refine Below.alloc ?_ ?_ _) | (with_reducible refine bel_drewN ?_ _) | (with_reducible refine Below.drew ?_) | (with_reducible refine Below.setCell ?_ ?_ _) | (with_reducible refine bel_call ‹_› ?_ ?_) | go_size))
      have hA5 := Lib.hid (hA4.out.below hb)
      have HP5 := Lib.hid (HP4.out.below hb)
      have HO5 := Lib.hid (HO4.out.call hb)
      have hs5 : (w4.alloc (.cells (ndA n p l cap) tRn)).heap.size = w4.heap.size + 1 := World.size_alloc _ _
      have HK5 : Hid (bad' = 0 → RnF nT i i' (.mk 5 0 [] 0 0 [n]) (some ⟨w4.heap.size, 0, none⟩) 1 (w4.alloc (.cells (ndA n p l cap) tRn)) (fun k => w.heap.size < k ∧ k < (w4.alloc (.cells (ndA n p l cap) tRn)).heap.size)) := fun h =>
        ((HK4.out h).carry (ok' := fun k => w.heap.size < k ∧ k < (w4.alloc (.cells (ndA n p l cap) tRn)).heap.size) (fun k hk => ⟨⟨by omega, by omega⟩, hb.block k hk.2⟩)).neg (by omega) HG5.out ⟨by omega, by omega⟩
      clear hb hA4 HP4 HO4 HK4 HG5
      generalize w4.alloc (.cells (ndA n p l cap) tRn) = w5 at hA5 HP5 HO5 HK5 hs5 ⊢
      generalize w4.heap.size = g5 at HK5 hs5 hz4 ⊢
      refine wpList_plain rfl fun K hK => ?_
      go_simp
      refine hK _ _ ?_
      clear hK K
      refine wpList_store_mid (by rfl) _ _ _ (by rfl) w.heap.size 0 #[.int .i64 5, .int .i64 0, .string ⟨#[]⟩, .int .i64 0, .int .i64 0, .slice (some ⟨g5, 0, none⟩) 1 1] (by rfl) (by rfl) (block_there hA5.out 6 (Nat.le_refl _)) (by kernel_rfl) (by simp [Value.oneCell']) ?_
      have e8 : w5.setCells w.heap.size 0 (#[.int .i64 5, .int .i64 0, .string ⟨#[]⟩, .int .i64 0, .int .i64 0, .slice (some ⟨g5, 0, none⟩) 1 1]).toList = w5.setCells w.heap.size 0 (ndA (.mk 5 0 [] 0 0 [n]) (some ⟨g5, 0, none⟩) 1 1).toList := rfl
      rw [e8]
      clear e8
      have HS8 : Hid (BlkC (w5.setCells w.heap.size 0 (ndA (.mk 5 0 [] 0 0 [n]) (some ⟨g5, 0, none⟩) 1 1).toList) w.heap.size (ndA (.mk 5 0 [] 0 0 [n]) (some ⟨g5, 0, none⟩) 1 1) tRn) := store_block hA5.out _ rfl
      have HO8 : Hid (Off b w (w5.setCells w.heap.size 0 (ndA (.mk 5 0 [] 0 0 [n]) (some ⟨g5, 0, none⟩) 1 1).toList)) := HO5.out.set_cells (Nat.le_refl _) _ _
      have HP8 := Lib.hid ((store_other (b := w.heap.size) (by omega) (ndA (.mk 5 0 [] 0 0 [n]) (some ⟨g5, 0, none⟩) 1 1).toList 0 w5).trans HP5.out)
      have HK8 : Hid (bad' = 0 → RnF nT i i' (.mk 5 0 [] 0 0 [n]) (some ⟨g5, 0, none⟩) 1 (w5.setCells w.heap.size 0 (ndA (.mk 5 0 [] 0 0 [n]) (some ⟨g5, 0, none⟩) 1 1).toList) (fun k => w.heap.size ≤ k ∧ k < (w5.setCells w.heap.size 0 (ndA (.mk 5 0 [] 0 0 [n]) (some ⟨g5, 0, none⟩) 1 1).toList).heap.size)) := fun h => (HK5.out h).carry (fun k hk => ⟨⟨by omega, Nat.lt_of_lt_of_le hk.2 (store_below (Nat.zero_le w.heap.size) (ndA (.mk 5 0 [] 0 0 [n]) (some ⟨g5, 0, none⟩) 1 1).toList 0 w5 (Below.refl 0 w5)).size⟩, store_other (by omega) _ _ _⟩)
      clear HK5
      clear hA5 HO5 HP5
      generalize w5.setCells w.heap.size 0 (ndA (.mk 5 0 [] 0 0 [n]) (some ⟨g5, 0, none⟩) 1 1).toList = w9 at HS8 HO8 HP8 HK8 ⊢
      go_simp
      iterate 3 (first | go_values | go_skip | go_guarded | go_step | go_upon)
      apply wp_ret
      try simp only [Exit.inBlock, Exit.then]
      exact bodyPost_ret (results_cell_row rfl _ _ w.heap.size tRn (ndA (.mk 5 0 [] 0 0 [n]) (some ⟨g5, 0, none⟩) 1 1) (0, 0) _ rfl HS8.out Tryz.underlying25 rfl (by kernel_rfl)) rfl ⟨.mk 5 0 [] 0 0 [n], some ⟨g5, 0, none⟩, 1, 1, i', bad', rfl, HP8.out, HO8.out, HK8.out⟩
    | false =>
      rw [hib] at HI1
      go_wp2_with fail
      refine (HI1.out w1 HP1.out HT1.out).mono ?_
      rintro e w2 ⟨rfl, hb⟩
      have hA2 := Lib.hid (hA1.out.below hb)
      have HP2 := Lib.hid (HP1.out.below hb)
      have HO2 := Lib.hid (HO1.out.call hb)
      have HT2 := Lib.hid (HT1.out.off (Off.of_below hb))
      have hz2 := hb.size
      clear hb hA1 HP1 HO1 HT1
      cases hib2 : isB Ts i [40] with
      | true =>
        rw [hib2] at HI2
        go_wp2_with fail
        refine (HI2.out w2 HP2.out HT2.out).mono ?_
        rintro e w3 ⟨rfl, hb⟩
        have hA3 := Lib.hid (hA2.out.below hb)
        have HP3 := Lib.hid (HP2.out.below hb)
        have HO3 := Lib.hid (HO2.out.call hb)
        have HT3 := Lib.hid (HT2.out.off (Off.of_below hb))
        have hz3 := hb.size
        clear hb hA2 HP2 HO2 HT2
        obtain ⟨_, p1, _, pf, _⟩ := HP3.out.cells
        have f1 : IntKind.i64.wrap ((i : Int) + 1) = (i : Int) + 1 := IntWalk.i64_in _ (by omega)
        go_upto_region 8 with fail
        have HP4 : Hid (Rdr (w3.setCell ⟨b, 1, none⟩ (.int .i64 ((i : Int) + 1))) b (some ⟨g, 0, none⟩) nT cT (i + 1) 0) := HP3.out.set ((i : Int) + 1) (i + 1) (by omega)
        have HO4 := Lib.hid (HO3.out.set 1 (.int .i64 ((i : Int) + 1)))
        have hO4 := Off.set (Off.refl b w3) 1 (.int .i64 ((i : Int) + 1))
        have HT4 := Lib.hid (HT3.out.off hO4)
        have hA4 := Lib.hid (hO4.bc (by omega) hA3.out)
        have hz4 := hO4.size
        clear HP3 HO3 HT3 hA3 p1 pf f1 hO4
        generalize w3.setCell ⟨b, 1, none⟩ (.int .i64 ((i : Int) + 1)) = w4 at HP4 HO4 HT4 hA4 hz4 ⊢
        go_wp2_with fail
        refine (HPA.out (i + 1) (by omega) (by omega) w4 HP4.out HT4.out).mono ?_
        rintro e wa ⟨n, p, l, cap, i', bad', rfl, hpr, hor, hkr⟩
        have hw04 : w.heap.size < w4.heap.size := lt_some hA4.out
        have HPa := Lib.hid hpr
        have hAa := Lib.hid (hor.bc (by omega) hA4.out)
        have HOa := Lib.hid (HO4.out.trans hor)
        have HTa := Lib.hid (HT4.out.off hor)
        have HKa : Hid (bad' = 0 → RnF nT (i + 1) i' n p l wa (fun k => w4.heap.size ≤ k ∧ k < wa.heap.size)) := hkr
        have hza := hor.size
        clear hpr hor hkr hA4 HP4 HO4 HT4
        rename_i KK aK
        go_simp
        refine aK _ _ ?_
        clear aK
        rw [show Value.agg (ndA n p l cap) = .agg #[.int .i64 n.kind, .int .i64 n.num, .string ⟨n.text.toArray⟩, .int .i64 n.frm, .int .i64 n.tor, .slice p l cap] from rfl]
        iterate 3 (first | go_values | go_step)
        have e2 : wa.alloc (.cells #[.int .i64 0, .int .i64 0, .string ⟨#[]⟩, .int .i64 0, .int .i64 0, .slice none 0 0] tRn) = wa.alloc (.cells (ndA ndZ none 0 0) tRn) := rfl
        rw [e2]
        clear e2
        have HGb : Hid (BlkC (wa.alloc (.cells (ndA ndZ none 0 0) tRn)) wa.heap.size (ndA ndZ none 0 0) tRn) := heap_alloc_new wa _
        have hb : Below wa.heap.size wa (wa.alloc (.cells (ndA ndZ none 0 0) tRn)) := by (repeat' (first | (with_reducible exact Below.refl _ _) | (with_reducible assumption) | (with_reducible refine Below.alloc ?_ ?_ _) | (with_reducible refine bel_drewN ?_ _) | (with_reducible refine Below.drew ?_) | (with_reducible refine Below.setCell ?_ ?_ _) | (with_reducible refine bel_call ‹_› ?_ ?_) | go_size))
        have hAb := Lib.hid (hAa.out.below hb)
        have HPb := Lib.hid (HPa.out.below hb)
        have HOb := Lib.hid (HOa.out.call hb)
        have HTb := Lib.hid (HTa.out.off (Off.of_below hb))
        have hsb : (wa.alloc (.cells (ndA ndZ none 0 0) tRn)).heap.size = wa.heap.size + 1 := World.size_alloc _ _
        have HKb : Hid (bad' = 0 → RnF nT (i + 1) i' n p l (wa.alloc (.cells (ndA ndZ none 0 0) tRn)) (fun k => w.heap.size < k ∧ k < wa.heap.size)) := fun h => (HKa.out h).carry (fun k hk => ⟨⟨by omega, hk.2⟩, hb.block k hk.2⟩)
        have hxa : w.heap.size < wa.heap.size := lt_some hAa.out
        have hya : b < wa.heap.size := lt_some HPa.out
        clear hb hAa HPa HOa HTa HKa
        generalize wa.alloc (.cells (ndA ndZ none 0 0) tRn) = wb at HGb hAb HPb HOb HTb HKb hsb ⊢
        generalize wa.heap.size = G at HGb HKb hsb hxa hya ⊢
        refine wpList_store_mid (by rfl) _ _ _ (by rfl) G 0 #[.int .i64 n.kind, .int .i64 n.num, .string ⟨n.text.toArray⟩, .int .i64 n.frm, .int .i64 n.tor, .slice p l cap] (by rfl) (by rfl) (block_there HGb.out 6 (Nat.le_refl _)) (by kernel_rfl) (by simp [Value.oneCell']) ?_
        have e8 : wb.setCells G 0 (#[.int .i64 n.kind, .int .i64 n.num, .string ⟨n.text.toArray⟩, .int .i64 n.frm, .int .i64 n.tor, .slice p l cap]).toList = wb.setCells G 0 (ndA n p l cap).toList := rfl
        rw [e8]
        clear e8
        have HGc : Hid (BlkC (wb.setCells G 0 (ndA n p l cap).toList) G (ndA n p l cap) tRn) := store_block HGb.out _ rfl
        have HOc : Hid (Off b w (wb.setCells G 0 (ndA n p l cap).toList)) := HOb.out.set_cells (by omega) _ _
        have hAc : Hid (BlkC (wb.setCells G 0 (ndA n p l cap).toList) w.heap.size (ndA ndZ none 0 0) tRn) := (store_other (by omega) _ _ _).trans hAb.out
        have HPc : Hid (Rdr (wb.setCells G 0 (ndA n p l cap).toList) b (some ⟨g, 0, none⟩) nT cT i' bad') := (store_other (by omega) _ _ _).trans HPb.out
        have HTc : Hid (TkR (wb.setCells G 0 (ndA n p l cap).toList) b (some ⟨g, 0, none⟩) Ts) := HTW.out _ HOc.out
        have hzc := (store_below (Nat.zero_le G) (ndA n p l cap).toList 0 wb (Below.refl 0 wb)).size
        have HKc : Hid (bad' = 0 → RnF nT (i + 1) i' n p l (wb.setCells G 0 (ndA n p l cap).toList) (fun k => w.heap.size < k ∧ k < G)) := fun h => (HKb.out h).carry (fun k hk => ⟨hk, store_other (by omega) _ _ _⟩)
        have hGb : G ≠ b := by omega
        clear HGb hAb HPb HOb HTb HKb
        generalize wb.setCells G 0 (ndA n p l cap).toList = wc at HGc hAc HPc HOc HTc HKc hzc ⊢
        go_simp
        iterate 3 (first | go_values | go_skip | go_guarded | go_step | go_upon)
        obtain ⟨R, hR⟩ : ∃ R, (decide (bad' = 0) && isB Ts i' [41]) = R := ⟨_, rfl⟩
        have HIC := Lib.hid (HI3.out bad' i')
        rw [hR] at HIC
        cases R with
        | false =>
          have hbne2 : ¬ (if bad' = 0 then (21 : Int) else bad') = 0 := by split <;> omega
          go_wp2_with fail
          refine (HIC.out wc HPc.out HTc.out).mono ?_
          rintro e wd ⟨rfl, hb⟩
          have hAd := Lib.hid (hAc.out.below hb)
          have HPd := Lib.hid (HPc.out.below hb)
          have HOd := Lib.hid (HOc.out.call hb)
          have HTd := Lib.hid (HTc.out.off (Off.of_below hb))
          have hzd := hb.size
          have HGd := Lib.hid (HGc.out.below hb)
          clear hb hAc HPc HOc HTc HGc
          go_wp2_with fail
          refine ((Lib.hid (HF.out bad' 21 i')).out wd HPd.out).mono ?_
          rintro e wf ⟨rfl, hpf, hof⟩
          have HPf := Lib.hid hpf
          have hAf := Lib.hid (hof.bc (by omega) hAd.out)
          have HOf := Lib.hid (HOd.out.trans hof)
          clear hpf hof hAd HPd HOd HTd
          rw [show Value.agg (ndA ndZ none 0 0) = .agg #[.int .i64 0, .int .i64 0, .string ⟨#[]⟩, .int .i64 0, .int .i64 0, .slice none 0 0] from rfl]
          rename_i KK aK
          go_simp
          refine aK _ _ ?_
          clear aK
          refine wpList_store_mid (by rfl) _ _ _ (by rfl) w.heap.size 0 #[.int .i64 0, .int .i64 0, .string ⟨#[]⟩, .int .i64 0, .int .i64 0, .slice none 0 0] (by rfl) (by rfl) (block_there hAf.out 6 (Nat.le_refl _)) (by kernel_rfl) (by simp [Value.oneCell']) ?_
          have e8 : wf.setCells w.heap.size 0 (#[.int .i64 0, .int .i64 0, .string ⟨#[]⟩, .int .i64 0, .int .i64 0, .slice none 0 0]).toList = wf.setCells w.heap.size 0 (ndA ndZ none 0 0).toList := rfl
          rw [e8]
          clear e8
          have HS8 : Hid (BlkC (wf.setCells w.heap.size 0 (ndA ndZ none 0 0).toList) w.heap.size (ndA ndZ none 0 0) tRn) := store_block hAf.out _ rfl
          have HO8 : Hid (Off b w (wf.setCells w.heap.size 0 (ndA ndZ none 0 0).toList)) := HOf.out.set_cells (Nat.le_refl _) _ _
          have HP8 := Lib.hid ((store_other (b := w.heap.size) (by omega) (ndA ndZ none 0 0).toList 0 wf).trans HPf.out)
          clear hAf HOf HPf
          generalize wf.setCells w.heap.size 0 (ndA ndZ none 0 0).toList = w9 at HS8 HO8 HP8 ⊢
          go_simp
          iterate 3 (first | go_values | go_skip | go_guarded | go_step | go_upon)
          apply wp_ret
          try simp only [Exit.inBlock, Exit.then]
          exact bodyPost_ret (results_cell_row rfl _ _ w.heap.size tRn (ndA ndZ none 0 0) (0, 0) _ rfl HS8.out Tryz.underlying25 rfl (by kernel_rfl)) rfl ⟨ndZ, none, 0, 0, _, _, rfl, HP8.out, HO8.out, fun h => absurd h hbne2⟩
        | true =>
          rw [Bool.and_eq_true, decide_eq_true_eq] at hR
          obtain ⟨rfl, hib3⟩ := hR
          have hil := HIB.out _ _ hib3
          have HZc := Lib.hid (Off.refl b wc)
          go_wp2_with fail
          refine (HIC.out wc HPc.out HTc.out).mono ?_
          rintro e wd ⟨rfl, hb⟩
          have hAd := Lib.hid (hAc.out.below hb)
          have HPd := Lib.hid (HPc.out.below hb)
          have HOd := Lib.hid (HOc.out.call hb)
          have HTd := Lib.hid (HTc.out.off (Off.of_below hb))
          have hzd := hb.size
          have HGd := Lib.hid (HGc.out.below hb)
          have HZd := Lib.hid (HZc.out.call hb)
          clear hb hAc HPc HOc HTc HGc HZc
          obtain ⟨_, p1, _, pf, _⟩ := HPd.out.cells
          have f1 : IntKind.i64.wrap ((i' : Int) + 1) = (i' : Int) + 1 := IntWalk.i64_in _ (by omega)
          go_upto_region 12 with fail
          have HPe : Hid (Rdr (wd.setCell ⟨b, 1, none⟩ (.int .i64 ((i' : Int) + 1))) b (some ⟨g, 0, none⟩) nT cT (i' + 1) 0) := HPd.out.set ((i' : Int) + 1) (i' + 1) (by omega)
          have HOe := Lib.hid (HOd.out.set 1 (.int .i64 ((i' : Int) + 1)))
          have hOe := Off.set (Off.refl b wd) 1 (.int .i64 ((i' : Int) + 1))
          have HTe := Lib.hid (HTd.out.off hOe)
          have hAe := Lib.hid (hOe.bc (by omega) hAd.out)
          have hze := hOe.size
          have HGe := Lib.hid (hOe.bc (by omega) HGd.out)
          have HZe := Lib.hid (HZd.out.trans hOe)
          clear HPd HOd HTd hAd p1 pf f1 hOe HGd HZd
          generalize wd.setCell ⟨b, 1, none⟩ (.int .i64 ((i' : Int) + 1)) = we at HPe HOe HTe hAe hze HGe HZe ⊢
          have HKe : Hid (RnF nT i (i' + 1) n p l we (fun k => w.heap.size < k ∧ k < we.heap.size)) := ((HKc.out (by trivial)).carry (fun k hk => ⟨⟨hk.1, by have := HZe.out.size; omega⟩, HZe.out.block k (by omega) (by omega)⟩)).up (by omega) (by omega)
          go_upto_region 12 with fail
          refine wp_region_lit ?_
          refine wpList_load_mid (by rfl) _ _ (by rfl) G 0 (by rfl) [.int .i64 n.kind, .int .i64 n.num, .string ⟨n.text.toArray⟩, .int .i64 n.frm, .int .i64 n.tor, .slice p l cap] _ (block_range HGe.out [.int .i64 n.kind, .int .i64 n.num, .string ⟨n.text.toArray⟩, .int .i64 n.frm, .int .i64 n.tor, .slice p l cap] rfl) Tryz.underlying25 rfl (by kernel_rfl) ?_
          go_simp
          refine wpList_store_mid (by rfl) _ _ _ (by rfl) w.heap.size 0 #[.int .i64 n.kind, .int .i64 n.num, .string ⟨n.text.toArray⟩, .int .i64 n.frm, .int .i64 n.tor, .slice p l cap] (by rfl) (by rfl) (block_there hAe.out 6 (Nat.le_refl _)) (by kernel_rfl) (by simp [Value.oneCell']) ?_
          have e8 : we.setCells w.heap.size 0 (#[.int .i64 n.kind, .int .i64 n.num, .string ⟨n.text.toArray⟩, .int .i64 n.frm, .int .i64 n.tor, .slice p l cap]).toList = we.setCells w.heap.size 0 (ndA n p l cap).toList := rfl
          rw [e8]
          clear e8
          have HS8 : Hid (BlkC (we.setCells w.heap.size 0 (ndA n p l cap).toList) w.heap.size (ndA n p l cap) tRn) := store_block hAe.out _ rfl
          have HO8 : Hid (Off b w (we.setCells w.heap.size 0 (ndA n p l cap).toList)) := HOe.out.set_cells (Nat.le_refl _) _ _
          have HP8 := Lib.hid ((store_other (b := w.heap.size) (by omega) (ndA n p l cap).toList 0 we).trans HPe.out)
          have HK8 : Hid (RnF nT i (i' + 1) n p l (we.setCells w.heap.size 0 (ndA n p l cap).toList) (fun k => w.heap.size ≤ k ∧ k < (we.setCells w.heap.size 0 (ndA n p l cap).toList).heap.size)) := HKe.out.carry (fun k hk => ⟨⟨by omega, Nat.lt_of_lt_of_le hk.2 (store_below (Nat.zero_le w.heap.size) (ndA n p l cap).toList 0 we (Below.refl 0 we)).size⟩, store_other (by omega) _ _ _⟩)
          clear HKe
          clear hAe HOe HPe
          generalize we.setCells w.heap.size 0 (ndA n p l cap).toList = w9 at HS8 HO8 HP8 HK8 ⊢
          go_simp
          iterate 3 (first | go_values | go_skip | go_guarded | go_step | go_upon)
          apply wp_ret
          try simp only [Exit.inBlock, Exit.then]
          exact bodyPost_ret (results_cell_row rfl _ _ w.heap.size tRn (ndA n p l cap) (0, 0) _ rfl HS8.out Tryz.underlying25 rfl (by kernel_rfl)) rfl ⟨n, p, l, cap, i' + 1, 0, rfl, HP8.out, HO8.out, fun _ => HK8.out⟩
      | false =>
        rw [hib2] at HI2
        go_wp2_with fail
        refine (HI2.out w2 HP2.out HT2.out).mono ?_
        rintro e w3 ⟨rfl, hb⟩
        have hA3 := Lib.hid (hA2.out.below hb)
        have HP3 := Lib.hid (HP2.out.below hb)
        have HO3 := Lib.hid (HO2.out.call hb)
        have HT3 := Lib.hid (HT2.out.off (Off.of_below hb))
        have hz3 := hb.size
        clear hb hA2 HP2 HO2 HT2
        obtain ⟨p0, p1, p2, _⟩ := HP3.out.cells
        obtain ⟨g', hg', _, hgl, k0, k1, k2⟩ := HTA.out w3 HT3.out
        cases hg'
        have hbl : b < w3.heap.size := lt_some HP3.out
        try simp only at k0 k1 k2
        go_upto_region 13 with fail
        go_cut [4] (fun v3 wx => v3 = .pointer (some ⟨w3.heap.size, 0, none⟩) ∧ wx = (w3.alloc (.cells #[.int .i64 kx, .string ⟨tx.toArray⟩, .int .i64 (ax : Int)] 136)).drew)
        case first =>
          go_region_with (fail)
          all_goals go_wp2_with fail
          all_goals go_meet
          all_goals exact ⟨rfl, rfl⟩
        case rest =>
          obtain ⟨hv, hw⟩ := hcut
          subst hv
          subst hw
          have HX4 : Hid (BlkC (w3.alloc (.cells #[.int .i64 kx, .string ⟨tx.toArray⟩, .int .i64 (ax : Int)] 136)).drew w3.heap.size #[.int .i64 kx, .string ⟨tx.toArray⟩, .int .i64 (ax : Int)] 136) := heap_alloc_new w3 _
          have hb : Below w3.heap.size w3 (w3.alloc (.cells #[.int .i64 kx, .string ⟨tx.toArray⟩, .int .i64 (ax : Int)] 136)).drew := Below.drew ((Below.refl _ _).alloc (Nat.le_refl _) _)
          have HP4 := Lib.hid (HP3.out.below hb)
          have hA4 := Lib.hid (hA3.out.below hb)
          have HO4 := Lib.hid (HO3.out.call hb)
          have HT4 := Lib.hid (HT3.out.off (Off.of_below hb))
          have hG : w.heap.size < w3.heap.size := lt_some hA3.out
          have hGb : w3.heap.size ≠ b := by omega
          clear hb HP3 hA3 HO3 HT3 p0 p1 p2 k0 k1 k2 hgl hbl HTA
          generalize (w3.alloc (.cells #[.int .i64 kx, .string ⟨tx.toArray⟩, .int .i64 (ax : Int)] 136)).drew = w4 at HX4 HP4 hA4 HO4 HT4 ⊢
          generalize w3.heap.size = G at HX4 hG hGb ⊢
          obtain ⟨_, p1, _, pf, _⟩ := HP4.out.cells
          have f1 : IntKind.i64.wrap ((i : Int) + 1) = (i : Int) + 1 := IntWalk.i64_in _ (by omega)
          go_upto_region 15 with fail
          have HP5 : Hid (Rdr (w4.setCell ⟨b, 1, none⟩ (.int .i64 ((i : Int) + 1))) b (some ⟨g, 0, none⟩) nT cT (i + 1) 0) := HP4.out.set ((i : Int) + 1) (i + 1) (by omega)
          have HO5 := Lib.hid (HO4.out.set 1 (.int .i64 ((i : Int) + 1)))
          have hO5 := Off.set (Off.refl b w4) 1 (.int .i64 ((i : Int) + 1))
          have HT5 := Lib.hid (HT4.out.off hO5)
          have hA5 := Lib.hid (hO5.bc (by omega) hA4.out)
          have hz5 := hO5.size
          have HX5 := Lib.hid (hO5.bc (by omega) HX4.out)
          clear HP4 HO4 HT4 hA4 p1 pf f1 hO5 HX4
          generalize w4.setCell ⟨b, 1, none⟩ (.int .i64 ((i : Int) + 1)) = w5 at HP5 HO5 HT5 hA5 hz5 HX5 ⊢
          have c0 : w5.cell? ⟨G, 0, none⟩ = some (.int .i64 kx) := HX5.out.cell 0 _ rfl
          have c1 : w5.cell? ⟨G, 1, none⟩ = some (.string ⟨tx.toArray⟩) := HX5.out.cell 1 _ rfl
          have htl := HTX.out.1
          try simp only at htl
          by_cases hk1 : kx = 1
          · subst hk1
            have hnn := num_pos (HTX.out.2 rfl)
            have HPR := Lib.hid (fun W => refParse_any ⟨tx.toArray⟩ (by rw [Lib.size_eq]; show tx.length ≤ 900; omega) W)
            rw [show (⟨tx.toArray⟩ : ByteArray).data.toList = tx from by simp] at HPR
            try simp only at hnn
            go_wp2_with fail
            refine (HPR.out w5).mono ?_
            rintro e w6 ⟨rfl, hb⟩
            have HP6 := Lib.hid (HP5.out.below hb)
            have hA6 := Lib.hid (hA5.out.below hb)
            have HO6 := Lib.hid (HO5.out.call hb)
            have HT6 := Lib.hid (HT5.out.off (Off.of_below hb))
            clear hb HP5 hA5 HO5 HT5 HX5 c0 c1
            obtain ⟨u, hu⟩ : ∃ u, rprsV tx = u := ⟨_, rfl⟩
            rw [hu] at hnn ⊢
            cases hok : rprsOk tx with
            | false =>
              go_wp2_with fail
              refine ((Lib.hid (HF.out 0 31 (i + 1))).out w6 HP6.out).mono ?_
              rintro e wf ⟨rfl, hpf, hof⟩
              have HPf := Lib.hid hpf
              have hAf := Lib.hid (hof.bc (by omega) hA6.out)
              have HOf := Lib.hid (HO6.out.trans hof)
              clear hpf hof hA6 HP6 HO6 HT6
              rw [show Value.agg (ndA ndZ none 0 0) = .agg #[.int .i64 0, .int .i64 0, .string ⟨#[]⟩, .int .i64 0, .int .i64 0, .slice none 0 0] from rfl]
              rename_i KK aK
              go_simp
              refine aK _ _ ?_
              clear aK
              refine wpList_store_mid (by rfl) _ _ _ (by rfl) w.heap.size 0 #[.int .i64 0, .int .i64 0, .string ⟨#[]⟩, .int .i64 0, .int .i64 0, .slice none 0 0] (by rfl) (by rfl) (block_there hAf.out 6 (Nat.le_refl _)) (by kernel_rfl) (by simp [Value.oneCell']) ?_
              have e8 : wf.setCells w.heap.size 0 (#[.int .i64 0, .int .i64 0, .string ⟨#[]⟩, .int .i64 0, .int .i64 0, .slice none 0 0]).toList = wf.setCells w.heap.size 0 (ndA ndZ none 0 0).toList := rfl
              rw [e8]
              clear e8
              have HS8 : Hid (BlkC (wf.setCells w.heap.size 0 (ndA ndZ none 0 0).toList) w.heap.size (ndA ndZ none 0 0) tRn) := store_block hAf.out _ rfl
              have HO8 : Hid (Off b w (wf.setCells w.heap.size 0 (ndA ndZ none 0 0).toList)) := HOf.out.set_cells (Nat.le_refl _) _ _
              have HP8 := Lib.hid ((store_other (b := w.heap.size) (by omega) (ndA ndZ none 0 0).toList 0 wf).trans HPf.out)
              clear hAf HOf HPf
              generalize wf.setCells w.heap.size 0 (ndA ndZ none 0 0).toList = w9 at HS8 HO8 HP8 ⊢
              go_simp
              iterate 3 (first | go_values | go_skip | go_guarded | go_step | go_upon)
              apply wp_ret
              try simp only [Exit.inBlock, Exit.then]
              exact bodyPost_ret (results_cell_row rfl _ _ w.heap.size tRn (ndA ndZ none 0 0) (0, 0) _ rfl HS8.out Tryz.underlying25 rfl (by kernel_rfl)) rfl ⟨ndZ, none, 0, 0, _, _, rfl, HP8.out, HO8.out, fun h => absurd h (hbne 31 (by omega))⟩
            | true =>
              go_upto_region 20 with fail
              refine wp_region_lit ?_
              refine wpList_plain rfl fun K hK => ?_
              go_simp
              refine hK _ _ ?_
              clear hK K
              refine wpList_plain rfl fun K hK => ?_
              go_simp
              refine hK _ _ ?_
              clear hK K
              refine wpList_store_mid (by rfl) _ _ _ (by rfl) w.heap.size 0 #[.int .i64 1, .int .i64 u, .string ⟨#[]⟩, .int .i64 0, .int .i64 0, .slice none 0 0] (by rfl) (by rfl) (block_there hA6.out 6 (Nat.le_refl _)) (by kernel_rfl) (by simp [Value.oneCell']) ?_
              have e8 : w6.setCells w.heap.size 0 (#[.int .i64 1, .int .i64 u, .string ⟨#[]⟩, .int .i64 0, .int .i64 0, .slice none 0 0]).toList = w6.setCells w.heap.size 0 (ndA (.mk 1 u [] 0 0 []) none 0 0).toList := rfl
              rw [e8]
              clear e8
              have HS8 : Hid (BlkC (w6.setCells w.heap.size 0 (ndA (.mk 1 u [] 0 0 []) none 0 0).toList) w.heap.size (ndA (.mk 1 u [] 0 0 []) none 0 0) tRn) := store_block hA6.out _ rfl
              have HO8 : Hid (Off b w (w6.setCells w.heap.size 0 (ndA (.mk 1 u [] 0 0 []) none 0 0).toList)) := HO6.out.set_cells (Nat.le_refl _) _ _
              have HP8 := Lib.hid ((store_other (b := w.heap.size) (by omega) (ndA (.mk 1 u [] 0 0 []) none 0 0).toList 0 w6).trans HP6.out)
              clear hA6 HO6 HP6
              generalize w6.setCells w.heap.size 0 (ndA (.mk 1 u [] 0 0 []) none 0 0).toList = w9 at HS8 HO8 HP8 ⊢
              go_simp
              iterate 3 (first | go_values | go_skip | go_guarded | go_step | go_upon)
              apply wp_ret
              try simp only [Exit.inBlock, Exit.then]
              exact bodyPost_ret (results_cell_row rfl _ _ w.heap.size tRn (ndA (.mk 1 u [] 0 0 []) none 0 0) (0, 0) _ rfl HS8.out Tryz.underlying25 rfl (by kernel_rfl)) rfl ⟨(.mk 1 u [] 0 0 []), none, 0, 0, i + 1, 0, rfl, HP8.out, HO8.out, fun _ => RnF.leaf rfl (by omega) (by omega) (gd_num hnn.1 hnn.2) none⟩
          · have hke1 : (kx == 1) = false := by simpa using hk1
            by_cases hk2 : kx = 2
            · subst hk2
              go_upto_region 22 with fail
              refine wp_region_lit ?_
              refine wpList_plain rfl fun K hK => ?_
              go_simp
              refine hK _ _ ?_
              clear hK K
              refine wpList_plain rfl fun K hK => ?_
              go_simp
              refine hK _ _ ?_
              clear hK K
              refine wpList_plain rfl fun K hK => ?_
              go_simp
              refine hK _ _ ?_
              clear hK K
              refine wpList_store_mid (by rfl) _ _ _ (by rfl) w.heap.size 0 #[.int .i64 2, .int .i64 0, .string ⟨tx.toArray⟩, .int .i64 0, .int .i64 0, .slice none 0 0] (by rfl) (by rfl) (block_there hA5.out 6 (Nat.le_refl _)) (by kernel_rfl) (by simp [Value.oneCell']) ?_
              have e8 : w5.setCells w.heap.size 0 (#[.int .i64 2, .int .i64 0, .string ⟨tx.toArray⟩, .int .i64 0, .int .i64 0, .slice none 0 0]).toList = w5.setCells w.heap.size 0 (ndA (.mk 2 0 tx 0 0 []) none 0 0).toList := rfl
              rw [e8]
              clear e8
              have HS8 : Hid (BlkC (w5.setCells w.heap.size 0 (ndA (.mk 2 0 tx 0 0 []) none 0 0).toList) w.heap.size (ndA (.mk 2 0 tx 0 0 []) none 0 0) tRn) := store_block hA5.out _ rfl
              have HO8 : Hid (Off b w (w5.setCells w.heap.size 0 (ndA (.mk 2 0 tx 0 0 []) none 0 0).toList)) := HO5.out.set_cells (Nat.le_refl _) _ _
              have HP8 := Lib.hid ((store_other (b := w.heap.size) (by omega) (ndA (.mk 2 0 tx 0 0 []) none 0 0).toList 0 w5).trans HP5.out)
              clear hA5 HO5 HP5
              generalize w5.setCells w.heap.size 0 (ndA (.mk 2 0 tx 0 0 []) none 0 0).toList = w9 at HS8 HO8 HP8 ⊢
              go_simp
              iterate 3 (first | go_values | go_skip | go_guarded | go_step | go_upon)
              apply wp_ret
              try simp only [Exit.inBlock, Exit.then]
              exact bodyPost_ret (results_cell_row rfl _ _ w.heap.size tRn (ndA (.mk 2 0 tx 0 0 []) none 0 0) (0, 0) _ rfl HS8.out Tryz.underlying25 rfl (by kernel_rfl)) rfl ⟨(.mk 2 0 tx 0 0 []), none, 0, 0, i + 1, 0, rfl, HP8.out, HO8.out, fun _ => RnF.leaf rfl (by omega) (by omega) (gd_txt htl) none⟩
            · have hke2 : (kx == 2) = false := by simpa using hk2
              by_cases hk3 : kx = 3
              · subst hk3
                have HCC := Lib.hid (fun W h h' => HNA.out tx htl (by omega) W h h')
                go_wp2_with fail
                refine (HCC.out w5 HP5.out HT5.out).mono ?_
                rintro e wr ⟨n, p, l, cap, i', bad', rfl, hpr, hor, hkr⟩
                have hw05 : w.heap.size < w5.heap.size := lt_some hA5.out
                have HPr := Lib.hid hpr
                have hAr := Lib.hid (hor.bc (by omega) hA5.out)
                have HOr := Lib.hid (HO5.out.trans hor)
                have HKr := Lib.hid hkr
                clear hpr hor hkr hA5 HP5 HO5 HT5
                rw [show Value.agg (ndA n p l cap) = .agg #[.int .i64 n.kind, .int .i64 n.num, .string ⟨n.text.toArray⟩, .int .i64 n.frm, .int .i64 n.tor, .slice p l cap] from rfl]
                rename_i KK aK
                go_simp
                refine aK _ _ ?_
                clear aK
                refine wpList_store_mid (by rfl) _ _ _ (by rfl) w.heap.size 0 #[.int .i64 n.kind, .int .i64 n.num, .string ⟨n.text.toArray⟩, .int .i64 n.frm, .int .i64 n.tor, .slice p l cap] (by rfl) (by rfl) (block_there hAr.out 6 (Nat.le_refl _)) (by kernel_rfl) (by simp [Value.oneCell']) ?_
                have e8 : wr.setCells w.heap.size 0 (#[.int .i64 n.kind, .int .i64 n.num, .string ⟨n.text.toArray⟩, .int .i64 n.frm, .int .i64 n.tor, .slice p l cap]).toList = wr.setCells w.heap.size 0 (ndA n p l cap).toList := rfl
                rw [e8]
                clear e8
                have HS8 : Hid (BlkC (wr.setCells w.heap.size 0 (ndA n p l cap).toList) w.heap.size (ndA n p l cap) tRn) := store_block hAr.out _ rfl
                have HO8 : Hid (Off b w (wr.setCells w.heap.size 0 (ndA n p l cap).toList)) := HOr.out.set_cells (Nat.le_refl _) _ _
                have HP8 := Lib.hid ((store_other (b := w.heap.size) (by omega) (ndA n p l cap).toList 0 wr).trans HPr.out)
                have HK8 : Hid (bad' = 0 → RnF nT (i + 1 - 1) i' n p l (wr.setCells w.heap.size 0 (ndA n p l cap).toList) (fun k => w.heap.size ≤ k ∧ k < (wr.setCells w.heap.size 0 (ndA n p l cap).toList).heap.size)) := fun h => (HKr.out h).carry (fun k hk => ⟨⟨by omega, Nat.lt_of_lt_of_le hk.2 (store_below (Nat.zero_le w.heap.size) (ndA n p l cap).toList 0 wr (Below.refl 0 wr)).size⟩, store_other (by omega) _ _ _⟩)
                clear HKr
                clear hAr HOr HPr
                generalize wr.setCells w.heap.size 0 (ndA n p l cap).toList = w9 at HS8 HO8 HP8 HK8 ⊢
                go_simp
                iterate 3 (first | go_values | go_skip | go_guarded | go_step | go_upon)
                apply wp_ret
                try simp only [Exit.inBlock, Exit.then]
                exact bodyPost_ret (results_cell_row rfl _ _ w.heap.size tRn (ndA n p l cap) (0, 0) _ rfl HS8.out Tryz.underlying25 rfl (by kernel_rfl)) rfl ⟨n, p, l, cap, i', bad', rfl, HP8.out, HO8.out, by rw [show i = i + 1 - 1 from by omega]; exact HK8.out⟩
              · have hke3 : (kx == 3) = false := by simpa using hk3
                by_cases hk5 : kx = 5
                · subst hk5
                  go_upto_region 26 with fail
                  refine wp_region_lit ?_
                  refine wpList_plain rfl fun K hK => ?_
                  go_simp
                  refine hK _ _ ?_
                  clear hK K
                  refine wpList_store_mid (by rfl) _ _ _ (by rfl) w.heap.size 0 #[.int .i64 8, .int .i64 0, .string ⟨#[]⟩, .int .i64 0, .int .i64 0, .slice none 0 0] (by rfl) (by rfl) (block_there hA5.out 6 (Nat.le_refl _)) (by kernel_rfl) (by simp [Value.oneCell']) ?_
                  have e8 : w5.setCells w.heap.size 0 (#[.int .i64 8, .int .i64 0, .string ⟨#[]⟩, .int .i64 0, .int .i64 0, .slice none 0 0]).toList = w5.setCells w.heap.size 0 (ndA (.mk 8 0 [] 0 0 []) none 0 0).toList := rfl
                  rw [e8]
                  clear e8
                  have HS8 : Hid (BlkC (w5.setCells w.heap.size 0 (ndA (.mk 8 0 [] 0 0 []) none 0 0).toList) w.heap.size (ndA (.mk 8 0 [] 0 0 []) none 0 0) tRn) := store_block hA5.out _ rfl
                  have HO8 : Hid (Off b w (w5.setCells w.heap.size 0 (ndA (.mk 8 0 [] 0 0 []) none 0 0).toList)) := HO5.out.set_cells (Nat.le_refl _) _ _
                  have HP8 := Lib.hid ((store_other (b := w.heap.size) (by omega) (ndA (.mk 8 0 [] 0 0 []) none 0 0).toList 0 w5).trans HP5.out)
                  clear hA5 HO5 HP5
                  generalize w5.setCells w.heap.size 0 (ndA (.mk 8 0 [] 0 0 []) none 0 0).toList = w9 at HS8 HO8 HP8 ⊢
                  go_simp
                  iterate 3 (first | go_values | go_skip | go_guarded | go_step | go_upon)
                  apply wp_ret
                  try simp only [Exit.inBlock, Exit.then]
                  exact bodyPost_ret (results_cell_row rfl _ _ w.heap.size tRn (ndA (.mk 8 0 [] 0 0 []) none 0 0) (0, 0) _ rfl HS8.out Tryz.underlying25 rfl (by kernel_rfl)) rfl ⟨(.mk 8 0 [] 0 0 []), none, 0, 0, i + 1, 0, rfl, HP8.out, HO8.out, fun _ => RnF.leaf rfl (by omega) (by omega) gd_flt none⟩
                · have hke5 : (kx == 5) = false := by simpa using hk5
                  go_wp2_with fail
                  refine ((Lib.hid (HF.out 0 21 (i + 1))).out w5 HP5.out).mono ?_
                  rintro e wf ⟨rfl, hpf, hof⟩
                  have HPf := Lib.hid hpf
                  have hAf := Lib.hid (hof.bc (by omega) hA5.out)
                  have HOf := Lib.hid (HO5.out.trans hof)
                  clear hpf hof hA5 HP5 HO5 HT5
                  rw [show Value.agg (ndA ndZ none 0 0) = .agg #[.int .i64 0, .int .i64 0, .string ⟨#[]⟩, .int .i64 0, .int .i64 0, .slice none 0 0] from rfl]
                  rename_i KK aK
                  go_simp
                  refine aK _ _ ?_
                  clear aK
                  refine wpList_store_mid (by rfl) _ _ _ (by rfl) w.heap.size 0 #[.int .i64 0, .int .i64 0, .string ⟨#[]⟩, .int .i64 0, .int .i64 0, .slice none 0 0] (by rfl) (by rfl) (block_there hAf.out 6 (Nat.le_refl _)) (by kernel_rfl) (by simp [Value.oneCell']) ?_
                  have e8 : wf.setCells w.heap.size 0 (#[.int .i64 0, .int .i64 0, .string ⟨#[]⟩, .int .i64 0, .int .i64 0, .slice none 0 0]).toList = wf.setCells w.heap.size 0 (ndA ndZ none 0 0).toList := rfl
                  rw [e8]
                  clear e8
                  have HS8 : Hid (BlkC (wf.setCells w.heap.size 0 (ndA ndZ none 0 0).toList) w.heap.size (ndA ndZ none 0 0) tRn) := store_block hAf.out _ rfl
                  have HO8 : Hid (Off b w (wf.setCells w.heap.size 0 (ndA ndZ none 0 0).toList)) := HOf.out.set_cells (Nat.le_refl _) _ _
                  have HP8 := Lib.hid ((store_other (b := w.heap.size) (by omega) (ndA ndZ none 0 0).toList 0 wf).trans HPf.out)
                  clear hAf HOf HPf
                  generalize wf.setCells w.heap.size 0 (ndA ndZ none 0 0).toList = w9 at HS8 HO8 HP8 ⊢
                  go_simp
                  iterate 3 (first | go_values | go_skip | go_guarded | go_step | go_upon)
                  apply wp_ret
                  try simp only [Exit.inBlock, Exit.then]
                  exact bodyPost_ret (results_cell_row rfl _ _ w.heap.size tRn (ndA ndZ none 0 0) (0, 0) _ rfl HS8.out Tryz.underlying25 rfl (by kernel_rfl)) rfl ⟨ndZ, none, 0, 0, _, _, rfl, HP8.out, HO8.out, fun h => absurd h (hbne 21 (by omega))⟩
end Go.Proofs.YtjklbbmgjjdalaaGreatDoor
