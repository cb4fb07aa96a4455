/- The document's reader of formulas: 'named'. Printed by gen_rr.py. -/
import Derived.Test.YtjklbbmgjjdalaaGreatDoorBbV
set_option linter.unusedSimpArgs false
set_option linter.unusedVariables false
namespace Go.Proofs.YtjklbbmgjjdalaaGreatDoor
open Go.RowKit Go.Joins
def RnF (nT j i' : Nat) (n : Nd) (p : Option Addr) (l : Nat) (W : World) (ok : Nat → Prop) : Prop := l = n.args.length ∧ i' ≤ nT ∧ Gd n (i' - j) ∧ ∀ d, dpN n ≤ d + 1 → RdP W ok d n p l
theorem RnF.carry {nT j i' : Nat} {n : Nd} {p : Option Addr} {l : Nat} {W W' : World} {ok ok' : Nat → Prop} (h : RnF nT j i' n p l W ok) (hb : ∀ k, ok k → ok' k ∧ W'.heap[k]? = W.heap[k]?) : RnF nT j i' n p l W' ok' := ⟨h.1, h.2.1, h.2.2.1, fun d hd => (h.2.2.2 d hd).carry hb⟩
theorem rdp6_leaf (W : World) (ok : Nat → Prop) {n : Nd} (hn : n.args = []) (p : Option Addr) : ∀ d, RdP W ok d n p 0
  | 0 => ⟨hn, rfl⟩
  | d + 1 => ⟨by rw [hn]; rfl, .inl rfl⟩
theorem RnF.leaf {nT j i' : Nat} {n : Nd} {W : World} {ok : Nat → Prop} (hn : n.args = []) (h1 : i' ≤ nT) (h2 : j < i') (hg : Gd n 1) (p : Option Addr) : RnF nT j i' n p 0 W ok := ⟨by rw [hn]; rfl, h1, hg.up (by omega), fun d _ => rdp6_leaf W ok hn p d⟩
def RnP (b : Nat) (q : Option Addr) (nT cT j : Nat) (w : World) (e : Ending) (w' : World) : Prop := ∃ (n : Nd) (p : Option Addr) (l cap i' : Nat) (bad' : Int), e = .returned (.agg (ndA n p l cap)) ∧ Rdr w' b q nT cT i' bad' ∧ Off b w w' ∧ (bad' = 0 → RnF nT j i' n p l w' (fun k => w.heap.size ≤ k ∧ k < w'.heap.size))
def RPartC (Ts : List Tks.Tk) (i : Nat) (lv : Int) : Prop := ∀ (w : World) (b : Nat) (q : Option Addr) (cT : Nat), Rdr w b q Ts.length cT i 0 → TkR w b q Ts →
  Calls Tryz.prog 51 #[.pointer (some ⟨b, 0, none⟩), .int .i64 lv] w (RnP b q Ts.length cT i w)
def RLastC (Ts : List Tks.Tk) (i : Nat) : Prop := ∀ (w : World) (b : Nat) (q : Option Addr) (cT : Nat), Rdr w b q Ts.length cT i 0 → TkR w b q Ts →
  Calls Tryz.prog 70 #[.pointer (some ⟨b, 0, none⟩)] w (RnP b q Ts.length cT i w)
def RNamedC (Ts : List Tks.Tk) (i : Nat) (t : Bs) : Prop := ∀ (w : World) (b : Nat) (q : Option Addr) (cT : Nat), Rdr w b q Ts.length cT i 0 → TkR w b q Ts →
  Calls Tryz.prog 94 #[.pointer (some ⟨b, 0, none⟩), .string ⟨t.toArray⟩] w (RnP b q Ts.length cT (i - 1) w)
def RCallC (Ts : List Tks.Tk) (i : Nat) (t : Bs) : Prop := ∀ (w : World) (b : Nat) (q : Option Addr) (cT : Nat), Rdr w b q Ts.length cT i 0 → TkR w b q Ts →
  Calls Tryz.prog 113 #[.pointer (some ⟨b, 0, none⟩), .string ⟨t.toArray⟩] w (RnP b q Ts.length cT (i - 2) w)
theorem rset6 {b A : Nat} {q : Option Addr} {nT cT m : Nat} {bad : Int} {w wz : World} {c0 c1 c2 c3 c4 c5 v0 v1 v2 v3 v4 v5 : Value} (hA : BlkC wz A #[c0, c1, c2, c3, c4, c5] tRn) (hAb : A ≠ b) (hw : w.heap.size ≤ A) (hP : Rdr wz b q nT cT m bad) (hO : Off b w wz) :
    BlkC ((((((wz.setCell ⟨A, 0, none⟩ v0).setCell ⟨A, 1, none⟩ v1).setCell ⟨A, 2, none⟩ v2).setCell ⟨A, 3, none⟩ v3).setCell ⟨A, 4, none⟩ v4).setCell ⟨A, 5, none⟩ v5) A #[v0, v1, v2, v3, v4, v5] tRn ∧ Rdr ((((((wz.setCell ⟨A, 0, none⟩ v0).setCell ⟨A, 1, none⟩ v1).setCell ⟨A, 2, none⟩ v2).setCell ⟨A, 3, none⟩ v3).setCell ⟨A, 4, none⟩ v4).setCell ⟨A, 5, none⟩ v5) b q nT cT m bad ∧ Off b w ((((((wz.setCell ⟨A, 0, none⟩ v0).setCell ⟨A, 1, none⟩ v1).setCell ⟨A, 2, none⟩ v2).setCell ⟨A, 3, none⟩ v3).setCell ⟨A, 4, none⟩ v4).setCell ⟨A, 5, none⟩ v5) :=
  have h := six_heap v0 v1 v2 v3 v4 v5 hA
  ⟨h.1, (h.2.1 b (fun e => hAb e.symm)).trans hP, (((((hO.set_new hw 0 v0).set_new hw 1 v1).set_new hw 2 v2).set_new hw 3 v3).set_new hw 4 v4).set_new hw 5 v5⟩
theorem isB_lt {Ts : List Tks.Tk} {i : Nat} {s : Bs} (h : isB Ts i s = true) : i < Ts.length := by
  unfold isB at h
  cases hx : Ts[i]? with
  | none => rw [hx] at h; cases h
  | some x => exact (List.getElem?_eq_some_iff.1 hx).1
set_option maxRecDepth 100000 in
set_option maxHeartbeats 8000000 in
theorem rnamed_any (Ts : List Tks.Tk) (hle : Ts.length ≤ 1000) (htk : TokOk Ts) (i : Nat) (hi1 : 1 ≤ i) (hin : i ≤ Ts.length) (t : Bs) (htl : t.length ≤ 256) (IH : isB Ts i [40] = true → RCallC Ts (i + 1) t) : RNamedC Ts i t := by
  intro w b q cT hp ht
  have HI1 := Lib.hid (fun W (h : Rdr W b q Ts.length cT i 0) (h' : TkR W b q Ts) => ris_any b q cT i 0 Ts [40] W h h' hle)
  rw [decide_eq_true rfl, Bool.true_and] at HI1
  have HI2 := Lib.hid (fun bad W (h : Rdr W b q Ts.length cT i bad) (h' : TkR W b q Ts) => ris_any b q cT i bad Ts [58] W h h' hle)
  have HC1 := Lib.hid (fun W (h : Rdr W b q Ts.length cT i 0) => rcell_any b q Ts.length cT i t htl W h)
  have HF := Lib.hid (fun j W (h : Rdr W b q Ts.length cT j 0) => rfail_any b q Ts.length cT j 0 21 W h)
  rw [if_pos rfl] at HF
  have HIC := Lib.hid (fun h => IH h)
  have HIB := Lib.hid (fun s (h : isB Ts i s = true) => isB_lt h)
  have HTOK := Lib.hid htk
  clear IH htk
  obtain ⟨nT, hnT⟩ : ∃ n, Ts.length = n := ⟨_, rfl⟩
  have HNT := Lib.hid hnT
  rw [hnT] at HI1 HI2 HC1 HF hle hin HIB hp ⊢
  clear hnT
  have hA0 : Hid (BlkC (w.alloc (.cells (ndA ndZ none 0 0) tRn)) w.heap.size (ndA ndZ none 0 0) tRn) := heap_alloc_new w _
  have hAB : Below w.heap.size w (w.alloc (.cells (ndA ndZ none 0 0) tRn)) := by (repeat' (first | (with_reducible exact Below.refl _ _) | (with_reducible assumption) | (with_reducible refine Below.alloc ?_ ?_ _) | (with_reducible refine bel_drewN ?_ _) | (with_reducible refine Below.drew ?_) | (with_reducible refine Below.setCell ?_ ?_ _) | (with_reducible refine bel_call ‹_› ?_ ?_) | go_size))
  have HP0 := Lib.hid (hp.below hAB)
  have HO0 := Lib.hid (Off.of_below (b := b) hAB)
  have hbw : b < w.heap.size := lt_some hp
  have HT0 := Lib.hid (ht.off (Off.of_below hAB))
  clear hp hAB
  go_enter Tryz.func94, Tryz.ntmps94
  go_upto_region 1 with fail
  have e0 : w.alloc (.cells #[.int .i64 0, .int .i64 0, .string ⟨#[]⟩, .int .i64 0, .int .i64 0, .slice none 0 0] tRn) = w.alloc (.cells (ndA ndZ none 0 0) tRn) := rfl
  rw [e0]
  clear e0
  generalize w.alloc (.cells (ndA ndZ none 0 0) tRn) = w0 at hA0 HP0 HO0 HT0 ⊢
  clear ht
  cases hib : isB Ts i [40] with
  | true =>
    rw [hib] at HI1
    have HRC := Lib.hid (HIC.out hib)
    have hil := HIB.out _ hib
    go_wp2_with fail
    refine (HI1.out w0 HP0.out HT0.out).mono ?_
    rintro e w1 ⟨rfl, hb⟩
    have hA1 := Lib.hid (hA0.out.below hb)
    have HP1 := Lib.hid (HP0.out.below hb)
    have HO1 := Lib.hid (HO0.out.call hb)
    have HT1 := Lib.hid (HT0.out.off (Off.of_below hb))
    have hz1 := hb.size
    clear hb hA0 HP0 HO0 HT0
    obtain ⟨_, p1, _, pf, _⟩ := HP1.out.cells
    have f1 : IntKind.i64.wrap ((i : Int) + 1) = (i : Int) + 1 := IntWalk.i64_in _ (by omega)
    go_upto_region 3 with fail
    have HP2 : Hid (Rdr (w1.setCell ⟨b, 1, none⟩ (.int .i64 ((i : Int) + 1))) b q nT cT (i + 1) 0) := HP1.out.set ((i : Int) + 1) (i + 1) (by omega)
    have HO2 := Lib.hid (HO1.out.set 1 (.int .i64 ((i : Int) + 1)))
    have hO2 := Off.set (Off.refl b w1) 1 (.int .i64 ((i : Int) + 1))
    have HT2 := Lib.hid (HT1.out.off hO2)
    have hA2 := Lib.hid (hO2.bc (by omega) hA1.out)
    have hz2 := hO2.size
    clear HP1 HO1 HT1 hA1 p1 pf f1 hO2
    generalize w1.setCell ⟨b, 1, none⟩ (.int .i64 ((i : Int) + 1)) = w2 at HP2 HO2 HT2 hA2 hz2 ⊢
    have HCC := Lib.hid (fun W (h : Rdr W b q nT cT (i + 1) 0) h' => HRC.out W b q cT (by rw [HNT.out]; exact h) h')
    rw [HNT.out] at HCC
    clear HRC
    go_wp2_with fail
    refine (HCC.out w2 HP2.out HT2.out).mono ?_
    rintro e wr ⟨n, p, l, cap, i', bad', rfl, hpr, hor, hkr⟩
    have hw02 : w.heap.size < w2.heap.size := lt_some hA2.out
    have HPr := Lib.hid hpr
    have hAr := Lib.hid (hor.bc (by omega) hA2.out)
    have HOr := Lib.hid (HO2.out.trans hor)
    have HKr := Lib.hid hkr
    clear hpr hor hkr hA2 HP2 HO2 HT2
    rw [show Value.agg (ndA n p l cap) = .agg #[.int .i64 n.kind, .int .i64 n.num, .string ⟨n.text.toArray⟩, .int .i64 n.frm, .int .i64 n.tor, .slice p l cap] from rfl]
    rename_i KK aK
    go_simp
    refine aK _ _ ?_
    clear aK
    refine wpList_store_mid (by rfl) _ _ _ (by rfl) w.heap.size 0 #[.int .i64 n.kind, .int .i64 n.num, .string ⟨n.text.toArray⟩, .int .i64 n.frm, .int .i64 n.tor, .slice p l cap] (by rfl) (by rfl) (block_there hAr.out 6 (Nat.le_refl _)) (by kernel_rfl) (by simp [Value.oneCell']) ?_
    have e8 : wr.setCells w.heap.size 0 (#[.int .i64 n.kind, .int .i64 n.num, .string ⟨n.text.toArray⟩, .int .i64 n.frm, .int .i64 n.tor, .slice p l cap]).toList = wr.setCells w.heap.size 0 (ndA n p l cap).toList := rfl
    rw [e8]
    clear e8
    have HS8 : Hid (BlkC (wr.setCells w.heap.size 0 (ndA n p l cap).toList) w.heap.size (ndA n p l cap) tRn) := store_block hAr.out _ rfl
    have HO8 : Hid (Off b w (wr.setCells w.heap.size 0 (ndA n p l cap).toList)) := HOr.out.set_cells (Nat.le_refl _) _ _
    have HP8 := Lib.hid ((store_other (b := w.heap.size) (by omega) (ndA n p l cap).toList 0 wr).trans HPr.out)
    have HK8 : Hid (bad' = 0 → RnF nT (i + 1 - 2) i' n p l (wr.setCells w.heap.size 0 (ndA n p l cap).toList) (fun k => w.heap.size ≤ k ∧ k < (wr.setCells w.heap.size 0 (ndA n p l cap).toList).heap.size)) := fun h => (HKr.out h).carry (fun k hk => ⟨⟨by omega, Nat.lt_of_lt_of_le hk.2 (store_below (Nat.zero_le w.heap.size) (ndA n p l cap).toList 0 wr (Below.refl 0 wr)).size⟩, store_other (by omega) _ _ _⟩)
    clear HKr
    clear hAr HOr HPr
    generalize wr.setCells w.heap.size 0 (ndA n p l cap).toList = w9 at HS8 HO8 HP8 HK8 ⊢
    go_simp
    iterate 3 (first | go_values | go_skip | go_guarded | go_step | go_upon)
    apply wp_ret
    try simp only [Exit.inBlock, Exit.then]
    exact bodyPost_ret (results_cell_row rfl _ _ w.heap.size tRn (ndA n p l cap) (0, 0) _ rfl HS8.out Tryz.underlying25 rfl (by kernel_rfl)) rfl ⟨n, p, l, cap, i', bad', rfl, HP8.out, HO8.out, by rw [show i - 1 = i + 1 - 2 from by omega]; exact HK8.out⟩
  | false =>
    rw [hib] at HI1
    go_wp2_with fail
    refine (HI1.out w0 HP0.out HT0.out).mono ?_
    rintro e w1 ⟨rfl, hb⟩
    have hA1 := Lib.hid (hA0.out.below hb)
    have HP1 := Lib.hid (HP0.out.below hb)
    have HO1 := Lib.hid (HO0.out.call hb)
    have HT1 := Lib.hid (HT0.out.off (Off.of_below hb))
    have hz1 := hb.size
    clear hb hA0 HP0 HO0 HT0
    go_wp2_with fail
    refine (HC1.out w1 HP1.out).mono ?_
    rintro e w2 ⟨k, bad2, rfl, hp2, ho2, hk2⟩
    have HP2 := Lib.hid hp2
    have hA2 := Lib.hid (ho2.bc (by omega) hA1.out)
    have HO2 := Lib.hid (HO1.out.trans ho2)
    have HT2 := Lib.hid (HT1.out.off ho2)
    have HK2 := Lib.hid hk2
    have hz2 := ho2.size
    clear hp2 ho2 hk2 hA1 HP1 HO1 HT1
    obtain ⟨R, hR⟩ : ∃ R, (decide (bad2 = 0) && isB Ts i [58]) = R := ⟨_, rfl⟩
    have HI3 := Lib.hid (HI2.out bad2)
    rw [hR] at HI3
    cases R with
    | false =>
      go_wp2_with fail
      refine (HI3.out w2 HP2.out HT2.out).mono ?_
      rintro e w3 ⟨rfl, hb⟩
      have hA3 := Lib.hid (hA2.out.below hb)
      have HP3 := Lib.hid (HP2.out.below hb)
      have HO3 := Lib.hid (HO2.out.call hb)
      have HT3 := Lib.hid (HT2.out.off (Off.of_below hb))
      have hz3 := hb.size
      clear hb hA2 HP2 HO2 HT2
      go_upto_region 6 with fail
      refine wp_region_lit ?_
      refine wpList_plain rfl fun K hK => ?_
      go_simp
      refine hK _ _ ?_
      clear hK K
      refine wpList_plain rfl fun K hK => ?_
      go_simp
      refine hK _ _ ?_
      clear hK K
      refine wpList_store_mid (by rfl) _ _ _ (by rfl) w.heap.size 0 #[.int .i64 3, .int .i64 0, .string ⟨#[]⟩, .int .i64 k, .int .i64 0, .slice none 0 0] (by rfl) (by rfl) (block_there hA3.out 6 (Nat.le_refl _)) (by kernel_rfl) (by simp [Value.oneCell']) ?_
      have e8 : w3.setCells w.heap.size 0 (#[.int .i64 3, .int .i64 0, .string ⟨#[]⟩, .int .i64 k, .int .i64 0, .slice none 0 0]).toList = w3.setCells w.heap.size 0 (ndA (.mk 3 0 [] k 0 []) none 0 0).toList := rfl
      rw [e8]
      clear e8
      have HS8 : Hid (BlkC (w3.setCells w.heap.size 0 (ndA (.mk 3 0 [] k 0 []) none 0 0).toList) w.heap.size (ndA (.mk 3 0 [] k 0 []) none 0 0) tRn) := store_block hA3.out _ rfl
      have HO8 : Hid (Off b w (w3.setCells w.heap.size 0 (ndA (.mk 3 0 [] k 0 []) none 0 0).toList)) := HO3.out.set_cells (Nat.le_refl _) _ _
      have HP8 := Lib.hid ((store_other (b := w.heap.size) (by omega) (ndA (.mk 3 0 [] k 0 []) none 0 0).toList 0 w3).trans HP3.out)
      clear hA3 HO3 HP3
      generalize w3.setCells w.heap.size 0 (ndA (.mk 3 0 [] k 0 []) none 0 0).toList = w9 at HS8 HO8 HP8 ⊢
      go_simp
      iterate 3 (first | go_values | go_skip | go_guarded | go_step | go_upon)
      apply wp_ret
      try simp only [Exit.inBlock, Exit.then]
      exact bodyPost_ret (results_cell_row rfl _ _ w.heap.size tRn (ndA (.mk 3 0 [] k 0 []) none 0 0) (0, 0) _ rfl HS8.out Tryz.underlying25 rfl (by kernel_rfl)) rfl ⟨.mk 3 0 [] k 0 [], none, 0, 0, i, bad2, rfl, HP8.out, HO8.out, fun h => RnF.leaf rfl hin (by omega) (gd_ref (HK2.out h).1 (HK2.out h).2.1 (HK2.out h).2.2) none⟩
    | true =>
      rw [Bool.and_eq_true, decide_eq_true_eq] at hR
      obtain ⟨rfl, hib2⟩ := hR
      have hil := HIB.out _ hib2
      go_wp2_with fail
      refine (HI3.out w2 HP2.out HT2.out).mono ?_
      rintro e w3 ⟨rfl, hb⟩
      have hA3 := Lib.hid (hA2.out.below hb)
      have HP3 := Lib.hid (HP2.out.below hb)
      have HO3 := Lib.hid (HO2.out.call hb)
      have HT3 := Lib.hid (HT2.out.off (Off.of_below hb))
      have hz3 := hb.size
      clear hb hA2 HP2 HO2 HT2
      obtain ⟨_, p1, _, pf, _⟩ := HP3.out.cells
      have f1 : IntKind.i64.wrap ((i : Int) + 1) = (i : Int) + 1 := IntWalk.i64_in _ (by omega)
      go_upto_region 8 with fail
      have HP4 : Hid (Rdr (w3.setCell ⟨b, 1, none⟩ (.int .i64 ((i : Int) + 1))) b q nT cT (i + 1) 0) := HP3.out.set ((i : Int) + 1) (i + 1) (by omega)
      have HO4 := Lib.hid (HO3.out.set 1 (.int .i64 ((i : Int) + 1)))
      have hO4 := Off.set (Off.refl b w3) 1 (.int .i64 ((i : Int) + 1))
      have HT4 := Lib.hid (HT3.out.off hO4)
      have hA4 := Lib.hid (hO4.bc (by omega) hA3.out)
      have hz4 := hO4.size
      clear HP3 HO3 HT3 hA3 p1 pf f1 hO4
      generalize w3.setCell ⟨b, 1, none⟩ (.int .i64 ((i : Int) + 1)) = w4 at HP4 HO4 HT4 hA4 hz4 ⊢
      obtain ⟨j, hj⟩ : ∃ j, i + 1 = j := ⟨_, rfl⟩
      have hil2 : i + 1 ≤ nT := hil
      rw [hj] at HP4 hil2
      have HJ := Lib.hid hj
      clear hj
      obtain ⟨p0, p1, p2, _⟩ := HP4.out.cells
      have r0 := cell_regrown p0
      have r1 := cell_regrown p1
      have hBR : ∀ dd os, Below w4.heap.size w4 (Go.Sort.grow (redrawn w4 dd) os) := fun dd os => below_regrown w4 dd os
      cases hx : Ts[j]? with
      | none =>
        have hge : ¬ (j : Int) < (nT : Int) := by
          have h := List.getElem?_eq_none_iff.1 hx
          have h2 := HNT.out
          omega
        have hge2 : (nT : Int) ≤ (j : Int) := by omega
        clear p0 p1 p2 hx
        refine wp_region_quiet_below (by kernel_rfl) (by kernel_rfl) ?_
        repeat (go_big_quiet_step (fail))
        refine wpQuiet_nil ?_
        intro _ hw'
        obtain ⟨⟨dz, osz⟩, hw''⟩ := hw'
        subst hw''
        have hB5 := hBR dz osz
        have HP5 := Lib.hid (HP4.out.below hB5)
        have hA5 := Lib.hid (hA4.out.below hB5)
        have HO5 := Lib.hid (HO4.out.call hB5)
        have HT5 := Lib.hid (HT4.out.off (Off.of_below hB5))
        have hz5 := hB5.size
        clear r0 r1 hBR hB5 HP4 hA4 HO4 HT4
        generalize Go.Sort.grow (redrawn w4 dz) osz = w5 at HP5 hA5 HO5 HT5 hz5 ⊢
        go_wp2_with fail
        refine ((Lib.hid (HF.out j)).out w5 HP5.out).mono ?_
        rintro e wf ⟨rfl, hpf, hof⟩
        have HPf := Lib.hid hpf
        have hAf := Lib.hid (hof.bc (by omega) hA5.out)
        have HOf := Lib.hid (HO5.out.trans hof)
        clear hpf hof hA5 HP5 HO5 HT5
        rw [show Value.agg (ndA ndZ none 0 0) = .agg #[.int .i64 0, .int .i64 0, .string ⟨#[]⟩, .int .i64 0, .int .i64 0, .slice none 0 0] from rfl]
        rename_i KK aK
        go_simp
        refine aK _ _ ?_
        clear aK
        refine wpList_store_mid (by rfl) _ _ _ (by rfl) w.heap.size 0 #[.int .i64 0, .int .i64 0, .string ⟨#[]⟩, .int .i64 0, .int .i64 0, .slice none 0 0] (by rfl) (by rfl) (block_there hAf.out 6 (Nat.le_refl _)) (by kernel_rfl) (by simp [Value.oneCell']) ?_
        have e8 : wf.setCells w.heap.size 0 (#[.int .i64 0, .int .i64 0, .string ⟨#[]⟩, .int .i64 0, .int .i64 0, .slice none 0 0]).toList = wf.setCells w.heap.size 0 (ndA ndZ none 0 0).toList := rfl
        rw [e8]
        clear e8
        have HS8 : Hid (BlkC (wf.setCells w.heap.size 0 (ndA ndZ none 0 0).toList) w.heap.size (ndA ndZ none 0 0) tRn) := store_block hAf.out _ rfl
        have HO8 : Hid (Off b w (wf.setCells w.heap.size 0 (ndA ndZ none 0 0).toList)) := HOf.out.set_cells (Nat.le_refl _) _ _
        have HP8 := Lib.hid ((store_other (b := w.heap.size) (by omega) (ndA ndZ none 0 0).toList 0 wf).trans HPf.out)
        clear hAf HOf HPf
        generalize wf.setCells w.heap.size 0 (ndA ndZ none 0 0).toList = w9 at HS8 HO8 HP8 ⊢
        go_simp
        iterate 3 (first | go_values | go_skip | go_guarded | go_step | go_upon)
        apply wp_ret
        try simp only [Exit.inBlock, Exit.then]
        exact bodyPost_ret (results_cell_row rfl _ _ w.heap.size tRn (ndA ndZ none 0 0) (0, 0) _ rfl HS8.out Tryz.underlying25 rfl (by kernel_rfl)) rfl ⟨ndZ, none, 0, 0, _, _, rfl, HP8.out, HO8.out, fun h => absurd h (by decide)⟩
      | some x =>
        have hlt : (j : Int) < (nT : Int) := by
          have h := (List.getElem?_eq_some_iff.1 hx).1
          have h2 := HNT.out
          omega
        have hlt2 : ¬ (nT : Int) ≤ (j : Int) := by omega
        have hlt3 : j < nT := by omega
        have HTX := Lib.hid (HTOK.out x (List.mem_of_getElem? hx))
        obtain ⟨g, rfl, hgb, _, k0, k1, _⟩ := HT4.out.at hx
        have HTA := Lib.hid (fun W (h : TkR W b (some ⟨g, 0, none⟩) Ts) => h.at hx)
        have r3 := cell_regrown k0
        obtain ⟨kx, tx, ax⟩ := x
        simp only at r3
        clear p0 p1 p2 hx k0 k1
        by_cases hk3 : kx = 3
        · subst hk3
          refine wp_region_quiet_below (by kernel_rfl) (by kernel_rfl) ?_
          repeat (go_big_quiet_step (fail))
          refine wpQuiet_nil ?_
          intro _ hw'
          obtain ⟨⟨dz, osz⟩, hw''⟩ := hw'
          subst hw''
          have hB5 := hBR dz osz
          have HP5 := Lib.hid (HP4.out.below hB5)
          have hA5 := Lib.hid (hA4.out.below hB5)
          have HO5 := Lib.hid (HO4.out.call hB5)
          have HT5 := Lib.hid (HT4.out.off (Off.of_below hB5))
          have hz5 := hB5.size
          clear r0 r1 r3 hBR hB5 HP4 hA4 HO4 HT4
          generalize Go.Sort.grow (redrawn w4 dz) osz = w5 at HP5 hA5 HO5 HT5 hz5 ⊢
          obtain ⟨_, p1, _, pf, _⟩ := HP5.out.cells
          have f1 : IntKind.i64.wrap ((j : Int) + 1) = (j : Int) + 1 := IntWalk.i64_in _ (by omega)
          go_upto_region 11 with fail
          have HP6 : Hid (Rdr (w5.setCell ⟨b, 1, none⟩ (.int .i64 ((j : Int) + 1))) b (some ⟨g, 0, none⟩) nT cT (j + 1) 0) := HP5.out.set ((j : Int) + 1) (j + 1) (by omega)
          have HO6 := Lib.hid (HO5.out.set 1 (.int .i64 ((j : Int) + 1)))
          have hO6 := Off.set (Off.refl b w5) 1 (.int .i64 ((j : Int) + 1))
          have HT6 := Lib.hid (HT5.out.off hO6)
          have hA6 := Lib.hid (hO6.bc (by omega) hA5.out)
          have hz6 := hO6.size
          clear HP5 HO5 HT5 hA5 p1 pf f1 hO6
          generalize w5.setCell ⟨b, 1, none⟩ (.int .i64 ((j : Int) + 1)) = w6 at HP6 HO6 HT6 hA6 hz6 ⊢
          obtain ⟨m, hm⟩ : ∃ m, j + 1 = m := ⟨_, rfl⟩
          rw [hm] at HP6
          have hmn : m ≤ nT := by omega
          have HM := Lib.hid hm
          have f2 : IntKind.i64.wrap ((m : Int) - 1) = (j : Int) := by rw [show (m : Int) - 1 = (j : Int) from by omega]; exact IntWalk.i64_in _ (by omega)
          clear hm
          obtain ⟨p0, p1, _, _⟩ := HP6.out.cells
          obtain ⟨g', hg', _, hgl, _, k1, _⟩ := HTA.out w6 HT6.out
          cases hg'
          try simp only at k1
          have hbl : b < w6.heap.size := lt_some HP6.out
          have HC2 := Lib.hid (fun W (h : Rdr W b (some ⟨g, 0, none⟩) nT cT m 0) => rcell_any b (some ⟨g, 0, none⟩) nT cT m tx HTX.out.1 W h)
          have hwA : w.heap.size ≠ b := by omega
          go_cut [] (fun wx => ∃ (k2 bad3 : Int), BlkC wx w.heap.size (ndA (.mk 4 0 [] k k2 []) none 0 0) tRn ∧ Rdr wx b (some ⟨g, 0, none⟩) nT cT m bad3 ∧ Off b w wx ∧ (bad3 = 0 → OkC k2 ∧ 0 ≤ k2 ∧ k2 ≤ 10000000))
          case first =>
            go_region_with (go_at_call 114; refine (HC2.out _ (by exact HP6.out)).mono ?_; rintro e wz ⟨k2, bad3, rfl, hpz, hoz, hkz⟩; (have hAz := Lib.hid (hoz.bc hwA hA6.out)); (have a0 := hAz.out.cell 0 _ rfl); (have a1 := hAz.out.cell 1 _ rfl); (have a2 := hAz.out.cell 2 _ rfl); (have a3 := hAz.out.cell 3 _ rfl); (have a4 := hAz.out.cell 4 _ rfl); (have a5 := hAz.out.cell 5 _ rfl); (have z0 := hAz.out.fz 0); (have z1 := hAz.out.fz 1); (have z2 := hAz.out.fz 2); (have z3 := hAz.out.fz 3); (have z4 := hAz.out.fz 4); (have z5 := hAz.out.fz 5))
            all_goals go_wp2_with fail
            all_goals go_meet
            all_goals (have X := rset6 (v0 := .int .i64 4) (v1 := .int .i64 0) (v2 := .string ⟨#[]⟩) (v3 := .int .i64 k) (v4 := .int .i64 k2) (v5 := .slice none 0 0) hAz.out hwA (Nat.le_refl _) hpz (by first | exact HO6.out.trans hoz | exact (HO6.out.call (Below.drew (Below.refl _ _))).trans hoz))
            all_goals first
              | exact ⟨k2, bad3, X.1, X.2.1, X.2.2, hkz⟩
              | exact ⟨k2, bad3, X.1, X.2.1, X.2.2.drewN _, hkz⟩
              | exact ⟨k2, bad3, X.1, X.2.1, X.2.2.call (Below.drew (Below.refl _ _)), hkz⟩
          case rest =>
            obtain ⟨k2, bad3, hs8, hp8, ho8, hk8⟩ := hcut
            have HS8 := Lib.hid hs8
            have HP8 := Lib.hid hp8
            have HO8 := Lib.hid ho8
            have HK8 := Lib.hid hk8
            clear hs8 hp8 ho8 hk8 HP6 HO6 HT6 hA6 HC2 p0 p1 k1 HTA
            go_wp2_with fail
            try simp only [Exit.inBlock, Exit.then]
            exact bodyPost_ret (results_cell_row rfl _ _ w.heap.size tRn (ndA (.mk 4 0 [] k k2 []) none 0 0) (0, 0) _ rfl HS8.out Tryz.underlying25 rfl (by kernel_rfl)) rfl ⟨.mk 4 0 [] k k2 [], none, 0, 0, m, bad3, rfl, HP8.out, HO8.out, fun h => RnF.leaf rfl hmn (by have := HJ.out; have := HM.out; omega) (gd_rng (HK2.out trivial).1 (HK2.out trivial).2.1 (HK2.out trivial).2.2 (HK8.out h).1 (HK8.out h).2.1 (HK8.out h).2.2) none⟩
        · have hke : (kx == 3) = false := by simpa using hk3
          refine wp_region_quiet_below (by kernel_rfl) (by kernel_rfl) ?_
          repeat (go_big_quiet_step (fail))
          refine wpQuiet_nil ?_
          intro _ hw'
          obtain ⟨⟨dz, osz⟩, hw''⟩ := hw'
          subst hw''
          have hB5 := hBR dz osz
          have HP5 := Lib.hid (HP4.out.below hB5)
          have hA5 := Lib.hid (hA4.out.below hB5)
          have HO5 := Lib.hid (HO4.out.call hB5)
          have HT5 := Lib.hid (HT4.out.off (Off.of_below hB5))
          have hz5 := hB5.size
          clear r0 r1 r3 hBR hB5 HP4 hA4 HO4 HT4
          generalize Go.Sort.grow (redrawn w4 dz) osz = w5 at HP5 hA5 HO5 HT5 hz5 ⊢
          go_wp2_with fail
          refine ((Lib.hid (HF.out j)).out w5 HP5.out).mono ?_
          rintro e wf ⟨rfl, hpf, hof⟩
          have HPf := Lib.hid hpf
          have hAf := Lib.hid (hof.bc (by omega) hA5.out)
          have HOf := Lib.hid (HO5.out.trans hof)
          clear hpf hof hA5 HP5 HO5 HT5
          rw [show Value.agg (ndA ndZ none 0 0) = .agg #[.int .i64 0, .int .i64 0, .string ⟨#[]⟩, .int .i64 0, .int .i64 0, .slice none 0 0] from rfl]
          rename_i KK aK
          go_simp
          refine aK _ _ ?_
          clear aK
          refine wpList_store_mid (by rfl) _ _ _ (by rfl) w.heap.size 0 #[.int .i64 0, .int .i64 0, .string ⟨#[]⟩, .int .i64 0, .int .i64 0, .slice none 0 0] (by rfl) (by rfl) (block_there hAf.out 6 (Nat.le_refl _)) (by kernel_rfl) (by simp [Value.oneCell']) ?_
          have e8 : wf.setCells w.heap.size 0 (#[.int .i64 0, .int .i64 0, .string ⟨#[]⟩, .int .i64 0, .int .i64 0, .slice none 0 0]).toList = wf.setCells w.heap.size 0 (ndA ndZ none 0 0).toList := rfl
          rw [e8]
          clear e8
          have HS8 : Hid (BlkC (wf.setCells w.heap.size 0 (ndA ndZ none 0 0).toList) w.heap.size (ndA ndZ none 0 0) tRn) := store_block hAf.out _ rfl
          have HO8 : Hid (Off b w (wf.setCells w.heap.size 0 (ndA ndZ none 0 0).toList)) := HOf.out.set_cells (Nat.le_refl _) _ _
          have HP8 := Lib.hid ((store_other (b := w.heap.size) (by omega) (ndA ndZ none 0 0).toList 0 wf).trans HPf.out)
          clear hAf HOf HPf
          generalize wf.setCells w.heap.size 0 (ndA ndZ none 0 0).toList = w9 at HS8 HO8 HP8 ⊢
          go_simp
          iterate 3 (first | go_values | go_skip | go_guarded | go_step | go_upon)
          apply wp_ret
          try simp only [Exit.inBlock, Exit.then]
          exact bodyPost_ret (results_cell_row rfl _ _ w.heap.size tRn (ndA ndZ none 0 0) (0, 0) _ rfl HS8.out Tryz.underlying25 rfl (by kernel_rfl)) rfl ⟨ndZ, none, 0, 0, _, _, rfl, HP8.out, HO8.out, fun h => absurd h (by decide)⟩
end Go.Proofs.YtjklbbmgjjdalaaGreatDoor
