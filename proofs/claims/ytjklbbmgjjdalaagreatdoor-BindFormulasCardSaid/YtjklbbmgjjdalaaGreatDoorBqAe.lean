/- The document's cell and Formula of ref11. Printed by gen_bfm.py. The document's Formula of ref11. Printed by gen_bfm.py. -/
import Derived.Test.YtjklbbmgjjdalaaGreatDoorBqZ
import Derived.Test.YtjklbbmgjjdalaaGreatDoorBqM
import Derived.Test.YtjklbbmgjjdalaaGreatDoorBqAd
set_option linter.unusedSimpArgs false
set_option linter.unusedVariables false
namespace Go.Proofs.YtjklbbmgjjdalaaGreatDoor.Bd
open Go.RowKit Go.Joins
theorem off_stores {b : Nat} {w w' : World} (h : Off b w w') (j : Nat) (vs : List Value) : Off b w (w'.setCells b j vs) :=
  have hb := store_below (B := 0) (b := b) (Nat.zero_le _) vs j w' (Below.refl _ _)
  ⟨hb.os.trans h.os, hb.tape.trans h.tape, hb.output.trans h.output, Nat.le_trans h.size hb.size, fun k hk hn => (store_other hn _ _ _).trans (h.block k hk hn)⟩
set_option maxRecDepth 100000 in
set_option maxHeartbeats 16000000 in
theorem rfc_any (rows cols : List Idp) (k : Int) (hk1 : -9223372036854775808 ≤ k) (hk2 : k ≤ 9223372036854775807) (p : Option Addr) (n cap : Nat) (p2 : Option Addr) (n2 cap2 : Nat) (w : World) (hrd : RdG idE 2 w p n rows) (hn : n ≤ 1000000) (hrd2 : RdG idE 2 w p2 n2 cols) (hn2 : n2 ≤ 1000000) :
    Calls Tryz.prog 31 #[.slice p n cap, .slice p2 n2 cap2, .int .i64 k] w fun e w' => e = .returned (.tuple #[.agg #[.int .u64 (bdC rows cols k).1.1.1, .int .i64 (bdC rows cols k).1.1.2, .int .u64 (bdC rows cols k).1.2.1, .int .i64 (bdC rows cols k).1.2.2], .int .i64 (bdC rows cols k).2]) ∧ Below w.heap.size w w' := by
  have hA0 : Hid (BlkC (w.alloc (.cells #[.int .u64 0, .int .i64 0, .int .u64 0, .int .i64 0] tPr)) w.heap.size #[.int .u64 0, .int .i64 0, .int .u64 0, .int .i64 0] tPr) := heap_alloc_new w _
  have hAB : Hid (Below w.heap.size w (w.alloc (.cells #[.int .u64 0, .int .i64 0, .int .u64 0, .int .i64 0] tPr))) := by unfold Hid; (repeat' (first | (with_reducible exact Below.refl _ _) | (with_reducible assumption) | (with_reducible refine Below.alloc ?_ ?_ _) | (with_reducible refine bel_drewN ?_ _) | (with_reducible refine Below.drew ?_) | (with_reducible refine Below.setCell ?_ ?_ _) | (with_reducible refine bel_call ‹_› ?_ ?_) | go_size))
  have hR1 := Lib.hid hrd
  have hR2 := Lib.hid hrd2
  have hl1 : rows.length = n := hrd.1
  have hl2 : cols.length = n2 := hrd2.1
  have g1 : Int.tdiv k 10000 = cC k := rfl
  have g2 : Int.tmod k 10000 = cR k := rfl
  obtain ⟨d1, d2, d3, d4⟩ := cC_in hk1 hk2
  obtain ⟨S, hS⟩ : ∃ S, bdC rows cols k = S := ⟨_, rfl⟩
  have HS : Hid (S = celS rows cols (cC k) (cR k)) := hS.symm
  rw [hS]
  clear hS hrd hrd2
  generalize cC k = c at *
  generalize cR k = r at *
  have g3 : IntKind.i64.wrap c = c := IntWalk.i64_in _ (by omega)
  have g4 : IntKind.i64.wrap r = r := IntWalk.i64_in _ (by omega)
  go_enter Tryz.func31, Tryz.ntmps31
  go_upto_region 1 with fail
  generalize w.alloc (.cells #[.int .u64 0, .int .i64 0, .int .u64 0, .int .i64 0] tPr) = w0 at hA0 hAB ⊢
  have hB := hAB.out
  have hle : w.heap.size ≤ w.heap.size := Nat.le_refl _
  by_cases hr : rtC c r = true
  · have hbd : 1 ≤ c ∧ c ≤ 702 ∧ 1 ≤ r ∧ r ≤ 9999 := by
      unfold rtC at hr
      simpa using hr
    have hsc := HS.out
    unfold celS at hsc
    rw [if_pos hr] at hsc
    have HSC := Lib.hid hsc
    clear hr HS hsc
    by_cases h1 : (rows.length : Int) < r
    · have HR : Hid (S = (((0, 0), (0, 0)), 23)) := by
        unfold Hid
        rw [HSC.out, atL_out h1, if_neg (by simp)]
      have h1' : (n : Int) < r := by omega
      have z0 := hA0.out.cell 0 _ rfl
      have z1 := hA0.out.cell 1 _ rfl
      have z2 := hA0.out.cell 2 _ rfl
      have z3 := hA0.out.cell 3 _ rfl
      have f0 := hA0.out.fz 0
      have f1 := hA0.out.fz 1
      have f2 := hA0.out.fz 2
      have f3 := hA0.out.fz 3
      clear HSC hA0 hR1 hR2
      go_wp2_with fail
      refine bodyPost_ret (v := .tuple #[.agg #[.int .u64 0, .int .i64 0, .int .u64 0, .int .i64 0], .int .i64 23]) (by simp only [results, Tryz.results31]; go_simp) rfl ⟨by rw [HR.out], by (repeat' (first | (with_reducible exact Below.refl _ _) | (with_reducible assumption) | (with_reducible refine Below.alloc ?_ ?_ _) | (with_reducible refine bel_drewN ?_ _) | (with_reducible refine Below.drew ?_) | (with_reducible refine Below.setCell ?_ ?_ _) | (with_reducible refine bel_call ‹_› ?_ ?_) | go_size))⟩
    · have h1' : ¬ (n : Int) < r := by omega
      by_cases h2 : (cols.length : Int) < c
      · have HR : Hid (S = (((0, 0), (0, 0)), 23)) := by
          unfold Hid
          rw [HSC.out, atL_out h2, if_neg (by simp)]
        have h2' : (n2 : Int) < c := by omega
        have z0 := hA0.out.cell 0 _ rfl
        have z1 := hA0.out.cell 1 _ rfl
        have z2 := hA0.out.cell 2 _ rfl
        have z3 := hA0.out.cell 3 _ rfl
        have f0 := hA0.out.fz 0
        have f1 := hA0.out.fz 1
        have f2 := hA0.out.fz 2
        have f3 := hA0.out.fz 3
        clear HSC hA0 hR1 hR2
        go_wp2_with fail
        refine bodyPost_ret (v := .tuple #[.agg #[.int .u64 0, .int .i64 0, .int .u64 0, .int .i64 0], .int .i64 23]) (by simp only [results, Tryz.results31]; go_simp) rfl ⟨by rw [HR.out], by (repeat' (first | (with_reducible exact Below.refl _ _) | (with_reducible assumption) | (with_reducible refine Below.alloc ?_ ?_ _) | (with_reducible refine bel_drewN ?_ _) | (with_reducible refine Below.drew ?_) | (with_reducible refine Below.setCell ?_ ?_ _) | (with_reducible refine bel_call ‹_› ?_ ?_) | go_size))⟩
      · have h2' : ¬ (n2 : Int) < c := by omega
        obtain ⟨i, hi⟩ : ∃ i : Nat, r = (i : Int) + 1 := ⟨(r - 1).toNat, by omega⟩
        obtain ⟨j, hj⟩ : ∃ j : Nat, c = (j : Int) + 1 := ⟨(c - 1).toNat, by omega⟩
        subst hi hj
        obtain ⟨b1, o1, rfl, hb1, hx1⟩ := hR1.out.some (j := i) (by omega)
        obtain ⟨b2, o2, rfl, hb2, hx2⟩ := hR2.out.some (j := j) (by omega)
        obtain ⟨u, hu⟩ : ∃ u, rows[i]? = some u := ⟨_, List.getElem?_eq_getElem (by omega)⟩
        obtain ⟨v, hv⟩ : ∃ v, cols[j]? = some v := ⟨_, List.getElem?_eq_getElem (by omega)⟩
        have HR : Hid (S = ((u, v), 0)) := by
          unfold Hid
          rw [HSC.out, atL_in hu, atL_in hv, if_pos ⟨rfl, rfl⟩]
        have p0 : w0.cell? ⟨b1, o1 + i * 2, none⟩ = some (.int .u64 u.1) := (hB.cell (p := ⟨b1, o1 + i * 2, none⟩) hb1).trans (hx1 i _ hu 0 _ rfl)
        have p1 : w0.cell? ⟨b1, o1 + i * 2 + 1, none⟩ = some (.int .i64 u.2) := (hB.cell (p := ⟨b1, o1 + i * 2 + 1, none⟩) hb1).trans (hx1 i _ hu 1 _ rfl)
        have t0 : w0.cell? ⟨b2, o2 + j * 2, none⟩ = some (.int .u64 v.1) := (hB.cell (p := ⟨b2, o2 + j * 2, none⟩) hb2).trans (hx2 j _ hv 0 _ rfl)
        have t1 : w0.cell? ⟨b2, o2 + j * 2 + 1, none⟩ = some (.int .i64 v.2) := (hB.cell (p := ⟨b2, o2 + j * 2 + 1, none⟩) hb2).trans (hx2 j _ hv 1 _ rfl)
        have y1 : IntKind.i64.wrap ((i : Int) + 1 - 1) = (i : Int) := by rw [show (i : Int) + 1 - 1 = (i : Int) from by omega]; exact IntWalk.i64_in _ (by omega)
        have y2 : IntKind.i64.wrap ((j : Int) + 1 - 1) = (j : Int) := by rw [show (j : Int) + 1 - 1 = (j : Int) from by omega]; exact IntWalk.i64_in _ (by omega)
        have h1n : i < n := by omega
        have h2n : j < n2 := by omega
        have P0 := KeptO.cell (b := w.heap.size) (by omega) p0
        have P1 := KeptO.cell (b := w.heap.size) (by omega) p1
        have T0 := KeptO.cell (b := w.heap.size) (by omega) t0
        have T1 := KeptO.cell (b := w.heap.size) (by omega) t1
        clear HSC hx1 hx2 hu hv hR1 hR2 h1 h2 hl1 hl2 d1 d2 d3 d4
        go_upto_region 6 with fail
        refine wp_region_sched (fun wx => ∃ x : KeptO w.heap.size w0, wx = x.v) [([0, 1, 2, 3, 4, 5, 6, 7, 8, 9, 10], 11)] [12] (by kernel_rfl) (by kernel_rfl) (by kernel_rfl) rfl (keptO_drew _ _) ?_
        (unfold wpSeg; simp only [pick_nil, pick_cons, nthO_zero, nthO_succ, List.append])
        clear p0 p1 t0 t1
        repeat (go_big_quiet_step (fail))
        refine wpQuiet_nil ?_
        have hBd : Below w0.heap.size w0 w0.drew := Below.drew (Below.refl _ _)
        have hHz := hA0.out.below hBd
        refine wpList_store_mid (by rfl) _ _ _ (by rfl) w.heap.size 0 #[.int .u64 u.1, .int .i64 u.2, .int .u64 v.1, .int .i64 v.2] (by rfl) (by rfl) (block_there hHz 4 (Nat.le_refl _)) (by kernel_rfl) (by simp [Value.oneCell']) ?_
        have HS8 : Hid (BlkC (w0.drew.setCells w.heap.size 0 (#[.int .u64 u.1, .int .i64 u.2, .int .u64 v.1, .int .i64 v.2]).toList) w.heap.size #[.int .u64 u.1, .int .i64 u.2, .int .u64 v.1, .int .i64 v.2] tPr) := store_block hHz _ rfl
        have HB8 : Hid (Below w.heap.size w (w0.drew.setCells w.heap.size 0 (#[.int .u64 u.1, .int .i64 u.2, .int .u64 v.1, .int .i64 v.2]).toList)) := store_below (Nat.le_refl _) _ _ _ (bel_call hBd hB hB.size)
        have HO8 : Hid (Off w.heap.size w0 (w0.drew.setCells w.heap.size 0 (#[.int .u64 u.1, .int .i64 u.2, .int .u64 v.1, .int .i64 v.2]).toList)) := off_stores (Off.of_below hBd) 0 _
        generalize w0.drew.setCells w.heap.size 0 (#[.int .u64 u.1, .int .i64 u.2, .int .u64 v.1, .int .i64 v.2]).toList = w9 at HS8 HB8 HO8 ⊢
        go_simp
        go_wp2_with fail
        refine ⟨rfl, ⟨⟨w9, HO8.out⟩, rfl⟩, ?_⟩
        (unfold wpSeg; simp only [pick_nil, pick_cons, nthO_zero, nthO_succ, List.append])
        repeat (go_big_quiet_step (fail))
        refine wpQuiet_nil ?_
        have z0 := HS8.out.cell 0 _ rfl
        have z1 := HS8.out.cell 1 _ rfl
        have z2 := HS8.out.cell 2 _ rfl
        have z3 := HS8.out.cell 3 _ rfl
        go_wp2_with fail
        try simp only [Exit.inBlock, Exit.then]
        refine bodyPost_ret (v := .tuple #[.agg #[.int .u64 u.1, .int .i64 u.2, .int .u64 v.1, .int .i64 v.2], .int .i64 0]) (by simp only [results, Tryz.results31]; go_simp) rfl ⟨by rw [HR.out], HB8.out⟩
  · have hr2 : rtC c r = false := by simpa using hr
    have HR : Hid (S = (((0, 0), (0, 0)), 20)) := by
      unfold Hid
      rw [HS.out]
      unfold celS
      rw [if_neg hr]
    clear HS hR1 hR2 hr
    have z0 := hA0.out.cell 0 _ rfl
    have z1 := hA0.out.cell 1 _ rfl
    have z2 := hA0.out.cell 2 _ rfl
    have z3 := hA0.out.cell 3 _ rfl
    have f0 := hA0.out.fz 0
    have f1 := hA0.out.fz 1
    have f2 := hA0.out.fz 2
    have f3 := hA0.out.fz 3
    clear hA0
    unfold rtC at hr2
    by_cases h1 : r < 1
    · go_wp2_with fail
      refine bodyPost_ret (v := .tuple #[.agg #[.int .u64 0, .int .i64 0, .int .u64 0, .int .i64 0], .int .i64 20]) (by simp only [results, Tryz.results31]; go_simp) rfl ⟨by rw [HR.out], by (repeat' (first | (with_reducible exact Below.refl _ _) | (with_reducible assumption) | (with_reducible refine Below.alloc ?_ ?_ _) | (with_reducible refine bel_drewN ?_ _) | (with_reducible refine Below.drew ?_) | (with_reducible refine Below.setCell ?_ ?_ _) | (with_reducible refine bel_call ‹_› ?_ ?_) | go_size))⟩
    · by_cases h2 : 9999 < r
      · go_wp2_with fail
        refine bodyPost_ret (v := .tuple #[.agg #[.int .u64 0, .int .i64 0, .int .u64 0, .int .i64 0], .int .i64 20]) (by simp only [results, Tryz.results31]; go_simp) rfl ⟨by rw [HR.out], by (repeat' (first | (with_reducible exact Below.refl _ _) | (with_reducible assumption) | (with_reducible refine Below.alloc ?_ ?_ _) | (with_reducible refine bel_drewN ?_ _) | (with_reducible refine Below.drew ?_) | (with_reducible refine Below.setCell ?_ ?_ _) | (with_reducible refine bel_call ‹_› ?_ ?_) | go_size))⟩
      · by_cases h3 : c < 1
        · go_wp2_with fail
          refine bodyPost_ret (v := .tuple #[.agg #[.int .u64 0, .int .i64 0, .int .u64 0, .int .i64 0], .int .i64 20]) (by simp only [results, Tryz.results31]; go_simp) rfl ⟨by rw [HR.out], by (repeat' (first | (with_reducible exact Below.refl _ _) | (with_reducible assumption) | (with_reducible refine Below.alloc ?_ ?_ _) | (with_reducible refine bel_drewN ?_ _) | (with_reducible refine Below.drew ?_) | (with_reducible refine Below.setCell ?_ ?_ _) | (with_reducible refine bel_call ‹_› ?_ ?_) | go_size))⟩
        · have h4 : 702 < c := by
            simp at hr2
            omega
          clear hr2
          go_wp2_with fail
          refine bodyPost_ret (v := .tuple #[.agg #[.int .u64 0, .int .i64 0, .int .u64 0, .int .i64 0], .int .i64 20]) (by simp only [results, Tryz.results31]; go_simp) rfl ⟨by rw [HR.out], by (repeat' (first | (with_reducible exact Below.refl _ _) | (with_reducible assumption) | (with_reducible refine Below.alloc ?_ ?_ _) | (with_reducible refine bel_drewN ?_ _) | (with_reducible refine Below.drew ?_) | (with_reducible refine Below.setCell ?_ ?_ _) | (with_reducible refine bel_call ‹_› ?_ ?_) | go_size))⟩
end Go.Proofs.YtjklbbmgjjdalaaGreatDoor.Bd
namespace Go.Proofs.YtjklbbmgjjdalaaGreatDoor.Bd
open Go.RowKit Go.Joins
def rfR (rows cols : List Idp) (n : Nd) : Bn := if bdE rows cols n = 0 then bdM rows cols n else bnZ
theorem bdEL_mem {rows cols : List Idp} : ∀ {a : List Nd}, bdEL rows cols a = 0 → ∀ c ∈ a, bdE rows cols c = 0
  | [], _, c, hc => by cases hc
  | x :: r, h, c, hc => by
    rw [bdEL] at h
    have hx : bdE rows cols x = 0 := by
      split at h
      · assumption
      · exact h
    rw [if_pos hx] at h
    rcases List.mem_cons.1 hc with rfl | hc
    · exact hx
    · exact bdEL_mem h c hc
theorem rfR_map {rows cols : List Idp} {a : List Nd} (h : bdEL rows cols a = 0) : a.map (rfR rows cols) = a.map (bdM rows cols) := List.map_congr_left fun c hc => by
  unfold rfR
  rw [if_pos (bdEL_mem h c hc)]
theorem info_bn2 : (Tryz.prog.info? tN2).map (fun i => (i.zero, i.size, i.bytes)) = some (some (.agg #[.int .i64 0, .int .i64 0, .string ⟨#[]⟩, .int .u64 0, .int .i64 0, .int .u64 0, .int .i64 0, .int .u64 0, .int .i64 0, .int .u64 0, .int .i64 0, .slice none 0 0]), 12, 120) := by kernel_rfl
theorem newBn2 (w : World) (c : Bn) (p2 : Option Addr) (l' c2 : Nat) : ∀ j u, (kidQ rfE (c, p2, l', c2))[j]? = some u → (w.alloc (.cells (bnA c p2 l' c2) tN2)).cell? ((⟨w.heap.size, 0, none⟩ : Addr).add j) = some u := by
  intro j u hj
  have hb : BlkC (w.alloc (.cells (bnA c p2 l' c2) tN2)) w.heap.size (bnA c p2 l' c2) tN2 := heap_alloc_new w _
  rw [Addr.add_mid, Nat.zero_add, cell_of_block hb]
  have e : bnA c p2 l' c2 = (kidQ rfE (c, p2, l', c2)).toArray := rfl
  rw [e]
  simpa using hj
def rfmC (rows cols : List Idp) (d : Nat) : Prop := ∀ (n : Nd) (p : Option Addr) (len cap : Nat) (p1 : Option Addr) (n1 c1 : Nat) (p2 : Option Addr) (n2 c2 : Nat) (w : World), RdG idE 2 w p1 n1 rows → RdG idE 2 w p2 n2 cols → n1 ≤ 60 → n2 ≤ 60 → RdT w w.heap.size d n p len → Fm n → OkN n → Calls Tryz.prog 10 #[.slice p1 n1 c1, .slice p2 n2 c2, .agg (ndA n p len cap)] w fun e w' => (∃ p' len' cap', e = .returned (.tuple #[.agg (bnA (rfR rows cols n) p' len' cap'), .int .i64 (bdE rows cols n)]) ∧ RdQ rfE 12 w' (fun b => w.heap.size ≤ b ∧ b < w'.heap.size) d (rfR rows cols n) p' len') ∧ Below w.heap.size w w'
set_option maxRecDepth 100000 in
set_option maxHeartbeats 16000000 in
theorem rfm_s (rows cols : List Idp) (d : Nat) (IH : ∀ d', d = d' + 1 → rfmC rows cols d') : rfmC rows cols d := by
  intro n p len cap p1 n1 c1 p2 n2 c2 w hr1 hr2 hn1 hn2 hrd hok hkn
  have HRD := Lib.hid hrd
  have HIH := Lib.hid IH
  have HR1 := Lib.hid hr1
  have HR2 := Lib.hid hr2
  have hlen := fm_len hok
  rw [hrd.len] at hlen
  have HAL := Lib.hid hrd.len
  have HOK := Lib.hid (fun c hc => fm_child (c := c) hok hc)
  have HKN := Lib.hid (fun c hc => OkN.child (c := c) hkn hc)
  have HCF := Lib.hid (fun W (hW : Below w.heap.size w W) => rfc_any rows cols n.frm (by have := hkn.frm; omega) (by have := hkn.frm; omega) p1 n1 c1 p2 n2 c2 W (hr1.below hW) (by omega) (hr2.below hW) (by omega))
  have HCT := Lib.hid (fun W (hW : Below w.heap.size w W) => rfc_any rows cols n.tor (by have := hkn.tor; omega) (by have := hkn.tor; omega) p1 n1 c1 p2 n2 c2 W (hr1.below hW) (by omega) (hr2.below hW) (by omega))
  rw [show Value.agg (ndA n p len cap) = .agg #[.int .i64 n.kind, .int .i64 n.num, .string ⟨n.text.toArray⟩, .int .i64 n.frm, .int .i64 n.tor, .slice p len cap] from rfl]
  obtain ⟨EF, hEF⟩ : ∃ x, bdE rows cols n = x := ⟨_, rfl⟩
  obtain ⟨R, hR⟩ : ∃ x, rfR rows cols n = x := ⟨_, rfl⟩
  rw [hEF, hR]
  have HEF00 := Lib.hid hEF
  have HR00 := Lib.hid hR
  clear hrd IH hok hr1 hr2 hkn hEF hR
  go_enter Tryz.func10, Tryz.ntmps10
  go_upto_region 3 with fail
  have e0 : ((w.alloc (.cells #[.int .i64 n.kind, .int .i64 n.num, .string ⟨n.text.toArray⟩, .int .i64 n.frm, .int .i64 n.tor, .slice p len cap] tRn)).alloc (.cells #[.int .i64 0, .int .i64 0, .string ⟨#[]⟩, .int .u64 0, .int .i64 0, .int .u64 0, .int .i64 0, .int .u64 0, .int .i64 0, .int .u64 0, .int .i64 0, .slice none 0 0] tN2)).alloc (.cells #[.int .i64 n.kind, .int .i64 n.num, .string ⟨n.text.toArray⟩, .int .u64 0, .int .i64 0, .int .u64 0, .int .i64 0, .int .u64 0, .int .i64 0, .int .u64 0, .int .i64 0, .slice none 0 0] tN2) = ((w.alloc (.cells (ndA n p len cap) tRn)).alloc (.cells (bnA bnZ none 0 0) tN2)).alloc (.cells #[.int .i64 n.kind, .int .i64 n.num, .string ⟨n.text.toArray⟩, .int .u64 0, .int .i64 0, .int .u64 0, .int .i64 0, .int .u64 0, .int .i64 0, .int .u64 0, .int .i64 0, .slice none 0 0] tN2) := rfl
  rw [e0]
  clear e0
  have HN1 : Hid (BlkC (((w.alloc (.cells (ndA n p len cap) tRn)).alloc (.cells (bnA bnZ none 0 0) tN2)).alloc (.cells #[.int .i64 n.kind, .int .i64 n.num, .string ⟨n.text.toArray⟩, .int .u64 0, .int .i64 0, .int .u64 0, .int .i64 0, .int .u64 0, .int .i64 0, .int .u64 0, .int .i64 0, .slice none 0 0] tN2)) w.heap.size (ndA n p len cap) tRn) := (three_ho w _ _ _).1
  have HZ1 : Hid (BlkC (((w.alloc (.cells (ndA n p len cap) tRn)).alloc (.cells (bnA bnZ none 0 0) tN2)).alloc (.cells #[.int .i64 n.kind, .int .i64 n.num, .string ⟨n.text.toArray⟩, .int .u64 0, .int .i64 0, .int .u64 0, .int .i64 0, .int .u64 0, .int .i64 0, .int .u64 0, .int .i64 0, .slice none 0 0] tN2)) (w.heap.size + 1) (bnA bnZ none 0 0) tN2) := (three_ho w _ _ _).2.1
  have HL1 : Hid (BlkC (((w.alloc (.cells (ndA n p len cap) tRn)).alloc (.cells (bnA bnZ none 0 0) tN2)).alloc (.cells #[.int .i64 n.kind, .int .i64 n.num, .string ⟨n.text.toArray⟩, .int .u64 0, .int .i64 0, .int .u64 0, .int .i64 0, .int .u64 0, .int .i64 0, .int .u64 0, .int .i64 0, .slice none 0 0] tN2)) (w.heap.size + 2) #[.int .i64 n.kind, .int .i64 n.num, .string ⟨n.text.toArray⟩, .int .u64 0, .int .i64 0, .int .u64 0, .int .i64 0, .int .u64 0, .int .i64 0, .int .u64 0, .int .i64 0, .slice none 0 0] tN2) := (three_ho w _ _ _).2.2
  have HB1 : Hid (Below w.heap.size w (((w.alloc (.cells (ndA n p len cap) tRn)).alloc (.cells (bnA bnZ none 0 0) tN2)).alloc (.cells #[.int .i64 n.kind, .int .i64 n.num, .string ⟨n.text.toArray⟩, .int .u64 0, .int .i64 0, .int .u64 0, .int .i64 0, .int .u64 0, .int .i64 0, .int .u64 0, .int .i64 0, .slice none 0 0] tN2))) := three_bo _ _ _
  generalize ((w.alloc (.cells (ndA n p len cap) tRn)).alloc (.cells (bnA bnZ none 0 0) tN2)).alloc (.cells #[.int .i64 n.kind, .int .i64 n.num, .string ⟨n.text.toArray⟩, .int .u64 0, .int .i64 0, .int .u64 0, .int .i64 0, .int .u64 0, .int .i64 0, .int .u64 0, .int .i64 0, .slice none 0 0] tN2) = w1 at HN1 HZ1 HL1 HB1 ⊢
  go_cut [27] (fun v wx => v = .bool (decide (n.kind = 3 ∨ n.kind = 4)) ∧ wx = w1)
  case first =>
    have k0 : w1.cell? ⟨w.heap.size, 0, none⟩ = some (.int .i64 n.kind) := HN1.out.cell 0 _ rfl
    by_cases h3 : n.kind = 3
    · have b3' : (n.kind == 3) = true := by simpa using h3
      go_wp2_with fail
      go_meet
      exact ⟨by rw [decide_eq_true (show n.kind = 3 ∨ n.kind = 4 from .inl h3)], rfl⟩
    · have b3' : (n.kind == 3) = false := by simpa using h3
      by_cases h4 : n.kind = 4
      · have b4' : (n.kind == 4) = true := by simpa using h4
        go_wp2_with fail
        go_meet
        exact ⟨by rw [decide_eq_true (show n.kind = 3 ∨ n.kind = 4 from .inr h4)], rfl⟩
      · have b4' : (n.kind == 4) = false := by simpa using h4
        go_wp2_with fail
        go_meet
        exact ⟨by rw [decide_eq_false (by omega)], rfl⟩
  case rest =>
  obtain ⟨hv, hw⟩ := hcut
  rw [hw]
  clear hw
  obtain ⟨T1, hT1⟩ : ∃ x, decide (n.kind = 3 ∨ n.kind = 4) = x := ⟨_, rfl⟩
  rw [hT1] at hv
  rw [hv]
  clear hv
  obtain ⟨F1, hF1⟩ : ∃ x, (if n.kind = 3 ∨ n.kind = 4 then (bdC rows cols n.frm).1 else rfZ) = x := ⟨_, rfl⟩
  obtain ⟨E1, hE1⟩ : ∃ x, (if n.kind = 3 ∨ n.kind = 4 then (bdC rows cols n.frm).2 else 0) = x := ⟨_, rfl⟩
  go_upto_if 27 with fail
  go_cut [9] (fun v9 wx => v9 = .int .i64 E1 ∧ BlkC wx w.heap.size (ndA n p len cap) tRn ∧ BlkC wx (w.heap.size + 1) (bnA bnZ none 0 0) tN2 ∧ BlkC wx (w.heap.size + 2) #[.int .i64 n.kind, .int .i64 n.num, .string ⟨n.text.toArray⟩, .int .u64 F1.1.1, .int .i64 F1.1.2, .int .u64 F1.2.1, .int .i64 F1.2.2, .int .u64 0, .int .i64 0, .int .u64 0, .int .i64 0, .slice none 0 0] tN2 ∧ Below w.heap.size w wx)
  case first =>
    cases T1 with
    | true =>
      have h34 := of_decide_eq_true hT1
      have hfe : F1 = (bdC rows cols n.frm).1 := by rw [← hF1, if_pos h34]
      have hee : E1 = (bdC rows cols n.frm).2 := by rw [← hE1, if_pos h34]
      have HC1 := Lib.hid (HCF.out w1 HB1.out)
      rw [← hfe, ← hee] at HC1
      clear HCF HCT hF1 hE1 hfe hee hT1 h34
      have q3 : w1.cell? ⟨w.heap.size, 3, none⟩ = some (.int .i64 n.frm) := HN1.out.cell 3 _ rfl
      go_wp2_with fail
      refine HC1.out.mono ?_
      rintro e w2 ⟨rfl, hb⟩
      have HN2 := Lib.hid (HN1.out.below hb)
      have HZ2 := Lib.hid (HZ1.out.below hb)
      have HL2 : Hid (BlkC w2 (w.heap.size + 2) _ _) := BlkC.below HL1.out hb
      have HB2 : Hid (Below w.heap.size w w2) := bel_call hb HB1.out HB1.out.size
      clear hb q3 HC1
      have l0 : w2.cell? ⟨w.heap.size + 2, 3, none⟩ = some (.int .u64 0) := HL2.out.cell 3 _ rfl
      have f0 := HL2.out.fz 3
      have l1 : w2.cell? ⟨w.heap.size + 2, 4, none⟩ = some (.int .i64 0) := HL2.out.cell 4 _ rfl
      have f1 := HL2.out.fz 4
      have l2 : w2.cell? ⟨w.heap.size + 2, 5, none⟩ = some (.int .u64 0) := HL2.out.cell 5 _ rfl
      have f2 := HL2.out.fz 5
      have l3 : w2.cell? ⟨w.heap.size + 2, 6, none⟩ = some (.int .i64 0) := HL2.out.cell 6 _ rfl
      have f3 := HL2.out.fz 6
      go_wp2_with fail
      go_meet
      have hl2 := lt_some HL2.out
      exact ⟨rfl, (heap_setCell_other _ _ _ _ (by show w.heap.size ≠ w.heap.size + 2; omega)).trans ((heap_setCell_other _ _ _ _ (by show w.heap.size ≠ w.heap.size + 2; omega)).trans ((heap_setCell_other _ _ _ _ (by show w.heap.size ≠ w.heap.size + 2; omega)).trans ((heap_setCell_other _ _ _ _ (by show w.heap.size ≠ w.heap.size + 2; omega)).trans HN2.out))), (heap_setCell_other _ _ _ _ (by show w.heap.size + 1 ≠ w.heap.size + 2; omega)).trans ((heap_setCell_other _ _ _ _ (by show w.heap.size + 1 ≠ w.heap.size + 2; omega)).trans ((heap_setCell_other _ _ _ _ (by show w.heap.size + 1 ≠ w.heap.size + 2; omega)).trans ((heap_setCell_other _ _ _ _ (by show w.heap.size + 1 ≠ w.heap.size + 2; omega)).trans HZ2.out))), block_setCell (block_setCell (block_setCell (block_setCell HL2.out _) _) _) _, (((HB2.out.setCell (by show w.heap.size ≤ w.heap.size + 2; omega) _).setCell (by show w.heap.size ≤ w.heap.size + 2; omega) _).setCell (by show w.heap.size ≤ w.heap.size + 2; omega) _).setCell (by show w.heap.size ≤ w.heap.size + 2; omega) _⟩
    | false =>
      have hfe : F1 = rfZ := by rw [← hF1, if_neg (of_decide_eq_false hT1)]
      have hee : E1 = 0 := by rw [← hE1, if_neg (of_decide_eq_false hT1)]
      go_wp2_with fail
      go_meet
      exact ⟨by rw [hee], HN1.out, HZ1.out, by rw [hfe]; exact HL1.out, HB1.out⟩
  case rest =>
  obtain ⟨hv9, hn3, hz3, hl3, hb3⟩ := hcut
  subst hv9
  have HN3 := Lib.hid hn3
  have HZ3 := Lib.hid hz3
  have HL3 := Lib.hid hl3
  have HB3 := Lib.hid hb3
  clear hn3 hz3 hl3 hb3 HN1 HZ1 HL1 HB1 HCF
  generalize wc = w3 at *
  have HH : Hid (hdE rows cols n.kind n.frm n.tor = if n.kind = 4 ∧ E1 = 0 then (bdC rows cols n.tor).2 else E1) := by
    unfold Hid hdE
    rw [← hE1]
    by_cases h34 : n.kind = 3 ∨ n.kind = 4
    · rw [if_pos h34, if_pos h34]
      by_cases hz : (bdC rows cols n.frm).2 = 0
      · rw [if_pos hz]
        by_cases h4 : n.kind = 4
        · rw [if_pos h4, if_pos ⟨h4, hz⟩]
        · rw [if_neg h4, if_neg (fun h => h4 h.1), hz]
      · rw [if_neg hz, if_neg (fun h => hz h.2)]
    · rw [if_neg h34, if_neg h34, if_neg (by omega)]
  have k0' : w3.cell? ⟨w.heap.size, 0, none⟩ = some (.int .i64 n.kind) := HN3.out.cell 0 _ rfl
  go_upto_region 5 with fail
  go_cut [43] (fun v wx => v = .bool (decide (n.kind = 4 ∧ E1 = 0)) ∧ wx = w3)
  case first =>
    have k0 : w3.cell? ⟨w.heap.size, 0, none⟩ = some (.int .i64 n.kind) := HN3.out.cell 0 _ rfl
    by_cases h4 : n.kind = 4
    · have b4' : (n.kind == 4) = true := by simpa using h4
      by_cases z1 : E1 = 0
      · have y1 : (E1 == 0) = true := by simpa using z1
        go_wp2_with fail
        go_meet
        exact ⟨by rw [decide_eq_true (show n.kind = 4 ∧ E1 = 0 from ⟨h4, z1⟩)], rfl⟩
      · have y1 : (E1 == 0) = false := by simpa using z1
        go_wp2_with fail
        go_meet
        exact ⟨by rw [decide_eq_false (fun h => z1 h.2)], rfl⟩
    · have b4' : (n.kind == 4) = false := by simpa using h4
      go_wp2_with fail
      go_meet
      exact ⟨by rw [decide_eq_false (fun h => h4 h.1)], rfl⟩
  case rest =>
  obtain ⟨hv, hw⟩ := hcut
  rw [hw]
  clear hw
  obtain ⟨T2, hT2⟩ : ∃ x, decide (n.kind = 4 ∧ E1 = 0) = x := ⟨_, rfl⟩
  rw [hT2] at hv
  rw [hv]
  clear hv k0'
  obtain ⟨G1, hG1⟩ : ∃ x, (if n.kind = 4 ∧ E1 = 0 then (bdC rows cols n.tor).1 else rfZ) = x := ⟨_, rfl⟩
  obtain ⟨E2, hE2⟩ : ∃ x, hdE rows cols n.kind n.frm n.tor = x := ⟨_, rfl⟩
  have HH2 : Hid (E2 = if n.kind = 4 ∧ E1 = 0 then (bdC rows cols n.tor).2 else E1) := by unfold Hid; rw [← hE2]; exact HH.out
  go_upto_if 43 with fail
  go_cut [9] (fun v9 wx => v9 = .int .i64 E2 ∧ BlkC wx w.heap.size (ndA n p len cap) tRn ∧ BlkC wx (w.heap.size + 1) (bnA bnZ none 0 0) tN2 ∧ BlkC wx (w.heap.size + 2) (bnA (.mk n.kind n.num n.text F1 G1 [] : Bn) none 0 0) tN2 ∧ Below w.heap.size w wx)
  case first =>
    cases T2 with
    | true =>
      have h34 := of_decide_eq_true hT2
      have hfe : G1 = (bdC rows cols n.tor).1 := by rw [← hG1, if_pos h34]
      have hee : E2 = (bdC rows cols n.tor).2 := by rw [HH2.out, if_pos h34]
      have HC1 := Lib.hid (HCT.out w3 HB3.out)
      rw [← hfe, ← hee] at HC1
      clear HCT hF1 hE1 hfe hee hT2 HH HH2 hG1 hE2 h34
      have q3 : w3.cell? ⟨w.heap.size, 4, none⟩ = some (.int .i64 n.tor) := HN3.out.cell 4 _ rfl
      go_wp2_with fail
      refine HC1.out.mono ?_
      rintro e w2 ⟨rfl, hb⟩
      have HN2 := Lib.hid (HN3.out.below hb)
      have HZ2 := Lib.hid (HZ3.out.below hb)
      have HL2 : Hid (BlkC w2 (w.heap.size + 2) _ _) := BlkC.below HL3.out hb
      have HB2 : Hid (Below w.heap.size w w2) := bel_call hb HB3.out HB3.out.size
      clear hb q3 HC1
      have l0 : w2.cell? ⟨w.heap.size + 2, 7, none⟩ = some (.int .u64 0) := HL2.out.cell 7 _ rfl
      have f0 := HL2.out.fz 7
      have l1 : w2.cell? ⟨w.heap.size + 2, 8, none⟩ = some (.int .i64 0) := HL2.out.cell 8 _ rfl
      have f1 := HL2.out.fz 8
      have l2 : w2.cell? ⟨w.heap.size + 2, 9, none⟩ = some (.int .u64 0) := HL2.out.cell 9 _ rfl
      have f2 := HL2.out.fz 9
      have l3 : w2.cell? ⟨w.heap.size + 2, 10, none⟩ = some (.int .i64 0) := HL2.out.cell 10 _ rfl
      have f3 := HL2.out.fz 10
      go_wp2_with fail
      go_meet
      have hl2 := lt_some HL2.out
      exact ⟨rfl, (heap_setCell_other _ _ _ _ (by show w.heap.size ≠ w.heap.size + 2; omega)).trans ((heap_setCell_other _ _ _ _ (by show w.heap.size ≠ w.heap.size + 2; omega)).trans ((heap_setCell_other _ _ _ _ (by show w.heap.size ≠ w.heap.size + 2; omega)).trans ((heap_setCell_other _ _ _ _ (by show w.heap.size ≠ w.heap.size + 2; omega)).trans HN2.out))), (heap_setCell_other _ _ _ _ (by show w.heap.size + 1 ≠ w.heap.size + 2; omega)).trans ((heap_setCell_other _ _ _ _ (by show w.heap.size + 1 ≠ w.heap.size + 2; omega)).trans ((heap_setCell_other _ _ _ _ (by show w.heap.size + 1 ≠ w.heap.size + 2; omega)).trans ((heap_setCell_other _ _ _ _ (by show w.heap.size + 1 ≠ w.heap.size + 2; omega)).trans HZ2.out))), block_setCell (block_setCell (block_setCell (block_setCell HL2.out _) _) _) _, (((HB2.out.setCell (by show w.heap.size ≤ w.heap.size + 2; omega) _).setCell (by show w.heap.size ≤ w.heap.size + 2; omega) _).setCell (by show w.heap.size ≤ w.heap.size + 2; omega) _).setCell (by show w.heap.size ≤ w.heap.size + 2; omega) _⟩
    | false =>
      have hn : ¬ (n.kind = 4 ∧ E1 = 0) := of_decide_eq_false hT2
      have hfe : G1 = rfZ := by rw [← hG1, if_neg hn]
      have hee : E2 = E1 := by rw [HH2.out, if_neg hn]
      go_wp2_with fail
      go_meet
      exact ⟨by rw [hee], HN3.out, HZ3.out, by rw [hfe]; exact HL3.out, HB3.out⟩
  case rest =>
  obtain ⟨hv9, hn4, hz4, hl4, hb4⟩ := hcut
  subst hv9
  have HN4 := Lib.hid hn4
  have HZ4 := Lib.hid hz4
  have HL4 := Lib.hid hl4
  have HB4 := Lib.hid hb4
  have hLb : w.heap.size + 2 < wc.heap.size := lt_some hl4
  have hLH : w.heap.size + 1 < w.heap.size + 2 := by omega
  have hH1 : w.heap.size + 1 < wc.heap.size := by omega
  have HEF : Hid (bdE rows cols n = if E2 = 0 then bdEL rows cols (n.args.drop 0) else E2) := by
    unfold Hid
    rw [List.drop_zero]
    by_cases h0 : E2 = 0
    · rw [if_pos h0]; exact bdE_go (by rw [hE2]; exact h0)
    · rw [if_neg h0, ← hE2]; exact bdE_flt (by rw [hE2]; exact h0)
  have HRR : Hid (bdE rows cols n = 0 → rfR rows cols n = .mk n.kind n.num n.text F1 G1 (n.args.map (rfR rows cols))) := fun h0 => by
    have he2 : E2 = 0 := by
      rw [HEF.out] at h0
      split at h0
      · assumption
      · exact h0
    have hbl : bdEL rows cols n.args = 0 := by
      have h1 := HEF.out
      rw [if_pos he2, List.drop_zero, h0] at h1
      exact h1.symm
    unfold rfR
    rw [if_pos h0, bdM_go (by rw [hE2]; exact he2)]
    have h1 : n.args.map (fun n => if bdE rows cols n = 0 then bdM rows cols n else bnZ) = n.args.map (bdM rows cols) := rfR_map hbl
    rw [h1, ← hF1, ← hG1]
    have hee1 : n.kind = 4 → E1 = 0 := fun h4 => by
      have h2 := HH2.out
      by_cases hz : E1 = 0
      · exact hz
      · rw [if_neg (fun h => hz h.2)] at h2
        omega
    by_cases h4 : n.kind = 4
    · have h5 := hee1 h4
      simp [h4, h5]
    · simp [h4]
  have HR0 : Hid (bdE rows cols n ≠ 0 → rfR rows cols n = bnZ) := fun h0 => if_neg h0
  have hEF := HEF00.out
  have hR := HR00.out
  rw [hEF] at HEF HRR HR0
  rw [hR] at HRR HR0
  clear hEF hR HEF00 HR00 hn4 hz4 hl4 hb4 HN3 HZ3 HL3 HB3 hT1 hT2 hF1 hG1 hE1 hE2 HH HH2 HCT
  generalize wc = w3 at *
  obtain ⟨L, hLe⟩ : ∃ L, w.heap.size + 2 = L := ⟨_, rfl⟩
  rw [hLe] at HL4 hLb hLH ⊢
  clear hLe
  obtain ⟨base, hbase⟩ : ∃ base, w3.heap.size = base := ⟨_, rfl⟩
  have HB0 := Lib.hid hbase
  rw [hbase] at hLb hH1
  clear hbase
  obtain ⟨i0, hi, hz0, hz1, hz2⟩ := info_of info_bn2
  go_wp2_with fail
  go_loopg [9, 10] (len + 1) (fun g v9 v wr => ∃ (i : Nat) (acc : List (KidQ Rfp)) (q : Option Addr) (cp : Nat) (Ei : Int), i + g = len + 1 ∧ v9 = .int .i64 Ei ∧ v = .int .i64 i ∧ i ≤ len ∧ acc.map Prod.fst = (n.args.take i).map (rfR rows cols) ∧ BlkC wr w.heap.size (ndA n p len cap) tRn ∧ BlkC wr (w.heap.size + 1) (bnA bnZ none 0 0) tN2 ∧ BlkC wr L (bnA (.mk n.kind n.num n.text F1 G1 [] : Bn) q i cp) tN2 ∧ wr.ownsRow base tN2 12 (.slice q i cp) i (acc.flatMap (kidQ rfE)) ∧ (∀ d', d = d' + 1 → ∀ x ∈ acc, RdQ rfE 12 wr (okQ base wr (.slice q i cp)) d' x.1 x.2.1 x.2.2.1) ∧ Below w.heap.size w wr ∧ base ≤ wr.heap.size ∧ EF = (if Ei = 0 then bdEL rows cols (n.args.drop i) else Ei))
  case atStart => exact ⟨0, [], none, 0, E2, by omega, rfl, rfl, Nat.zero_le _, rfl, HN4.out, HZ4.out, HL4.out, World.ownsRow_nil _ _ _ _, fun _ _ x hx => (by cases hx), HB4.out, by rw [HB0.out]; exact Nat.le_refl _, HEF.out⟩
  case round =>
    obtain ⟨i, acc, q, cp, Ei, hig, rfl, rfl, hil, hacc, hn1', hn0, hn2', hown, hkid, hbel, hbs, hef⟩ := hrel
    have HAC := Lib.hid hacc
    have HN1 := Lib.hid hn1'
    have HN0 := Lib.hid hn0
    have HN2 := Lib.hid hn2'
    have HOW := Lib.hid hown
    have HKD := Lib.hid hkid
    have HBL := Lib.hid hbel
    have HEI := Lib.hid hef
    have hzr := hbel.size
    clear hacc hn1' hn0 hn2' hown hkid hbel HN4 HZ4 HL4 HB4 HB0 hef HEF
    have a5 : wr.cell? ⟨w.heap.size, 5, none⟩ = some (.slice p len cap) := HN1.out.cell 5 _ rfl
    have hla : acc.length = i := by
      have h := congrArg List.length HAC.out
      simp only [List.length_map, List.length_take] at h
      rw [HAL.out] at h
      omega
    by_cases hgo : i < len ∧ Ei = 0
    · obtain ⟨hlt, hE0⟩ := hgo
      subst hE0
      have hli : (i : Int) < (len : Int) := by omega
      obtain ⟨d', b, off, c, p', l', c', hd, rfl, hbN, hc, hrc, q0, q1, q2, q3, q4, q5⟩ := (HRD.out.below HBL.out).at hlt
      have HC : Hid (rfmC rows cols d') := HIH.out d' hd
      have HCO := Lib.hid (HOK.out c (mem_at hc))
      have HCN := Lib.hid (HKN.out c (mem_at hc))
      have HCC := Lib.hid (HC.out c p' l' c' p1 n1 c1 p2 n2 c2 wr (HR1.out.below HBL.out) (HR2.out.below HBL.out) hn1 hn2 (hrc.mono hzr) HCO.out HCN.out)
      rw [show Value.agg (ndA c p' l' c') = .agg #[.int .i64 c.kind, .int .i64 c.num, .string ⟨c.text.toArray⟩, .int .i64 c.frm, .int .i64 c.tor, .slice p' l' c'] from rfl] at HCC
      have HHC := Lib.hid hc
      have HHD := Lib.hid hd
      clear hc hd hrc HC HCO HCN
      go_wp2_with fail
      refine HCC.out.mono ?_
      rintro e w4 ⟨⟨p3, l3, c3, rfl, hk3⟩, hb4⟩
      have HK3 : Hid (RdQ rfE 12 w4 (fun k => wr.heap.size ≤ k ∧ k < w4.heap.size) d' ((rfR rows cols) c) p3 l3) := hk3
      have HB4 := Lib.hid hb4
      have HEN : Hid (EF = if bdE rows cols c = 0 then bdEL rows cols (n.args.drop (i + 1)) else bdE rows cols c) := by
        unfold Hid
        have h := HEI.out
        simp only [if_true] at h
        rw [h, bdEL_at HHC.out]
      obtain ⟨En, hEn⟩ : ∃ x, bdE rows cols c = x := ⟨_, rfl⟩
      rw [hEn] at HEN ⊢
      clear hEn HCC hk3 hb4 a5 q0 q1 q2 q3 q4 q5 HEI
      rw [show Value.agg (bnA ((rfR rows cols) c) p3 l3 c3) = .agg #[.int .i64 ((rfR rows cols) c).kind, .int .i64 ((rfR rows cols) c).num, .string ⟨((rfR rows cols) c).text.toArray⟩, .int .u64 ((rfR rows cols) c).frm.1.1, .int .i64 ((rfR rows cols) c).frm.1.2, .int .u64 ((rfR rows cols) c).frm.2.1, .int .i64 ((rfR rows cols) c).frm.2.2, .int .u64 ((rfR rows cols) c).tor.1.1, .int .i64 ((rfR rows cols) c).tor.1.2, .int .u64 ((rfR rows cols) c).tor.2.1, .int .i64 ((rfR rows cols) c).tor.2.2, .slice p3 l3 c3] from rfl]
      go_upto_region 11 with fail
      have e4 : w4.alloc (.cells #[.int .i64 ((rfR rows cols) c).kind, .int .i64 ((rfR rows cols) c).num, .string ⟨((rfR rows cols) c).text.toArray⟩, .int .u64 ((rfR rows cols) c).frm.1.1, .int .i64 ((rfR rows cols) c).frm.1.2, .int .u64 ((rfR rows cols) c).frm.2.1, .int .i64 ((rfR rows cols) c).frm.2.2, .int .u64 ((rfR rows cols) c).tor.1.1, .int .i64 ((rfR rows cols) c).tor.1.2, .int .u64 ((rfR rows cols) c).tor.2.1, .int .i64 ((rfR rows cols) c).tor.2.2, .slice p3 l3 c3] tN2) = w4.alloc (.cells (bnA ((rfR rows cols) c) p3 l3 c3) tN2) := rfl
      rw [e4]
      clear e4
      have hs4 := HB4.out.size
      have HG5 : Hid (BlkC (w4.alloc (.cells (bnA ((rfR rows cols) c) p3 l3 c3) tN2)) w4.heap.size (bnA ((rfR rows cols) c) p3 l3 c3) tN2) := heap_alloc_new w4 _
      have hbn : Below w4.heap.size w4 (w4.alloc (.cells (bnA ((rfR rows cols) c) p3 l3 c3) tN2)) := (Below.refl _ _).alloc (Nat.le_refl _) _
      have HB5 : Hid (Below wr.heap.size wr (w4.alloc (.cells (bnA ((rfR rows cols) c) p3 l3 c3) tN2))) := bel_call hbn HB4.out hs4
      have HK5 := Lib.hid (HK3.out.below hbn)
      have hz5 := hbn.size
      clear hbn HK3 HB4
      generalize w4.alloc (.cells (bnA ((rfR rows cols) c) p3 l3 c3) tN2) = w5 at HG5 HB5 HK5 hz5 ⊢
      generalize w4.heap.size = g5 at HG5 hs4 hz5 HK5 ⊢
      have hg5 := lt_some HG5.out
      have b11 : w5.cell? ⟨L, 11, none⟩ = some (.slice q i cp) := (HN2.out.below HB5.out).cell 11 _ rfl
      have f11 := (HN2.out.below HB5.out).fz 11
      have x0 : w5.cell? ⟨g5, 0, none⟩ = some (.int .i64 (rfR rows cols c).kind) := HG5.out.cell 0 (.int .i64 (rfR rows cols c).kind) rfl
      have x1 : w5.cell? ⟨g5, 1, none⟩ = some (.int .i64 (rfR rows cols c).num) := HG5.out.cell 1 (.int .i64 (rfR rows cols c).num) rfl
      have x2 : w5.cell? ⟨g5, 2, none⟩ = some (.string ⟨(rfR rows cols c).text.toArray⟩) := HG5.out.cell 2 (.string ⟨(rfR rows cols c).text.toArray⟩) rfl
      have x3 : w5.cell? ⟨g5, 3, none⟩ = some (.int .u64 (rfR rows cols c).frm.1.1) := HG5.out.cell 3 (.int .u64 (rfR rows cols c).frm.1.1) rfl
      have x4 : w5.cell? ⟨g5, 4, none⟩ = some (.int .i64 (rfR rows cols c).frm.1.2) := HG5.out.cell 4 (.int .i64 (rfR rows cols c).frm.1.2) rfl
      have x5 : w5.cell? ⟨g5, 5, none⟩ = some (.int .u64 (rfR rows cols c).frm.2.1) := HG5.out.cell 5 (.int .u64 (rfR rows cols c).frm.2.1) rfl
      have x6 : w5.cell? ⟨g5, 6, none⟩ = some (.int .i64 (rfR rows cols c).frm.2.2) := HG5.out.cell 6 (.int .i64 (rfR rows cols c).frm.2.2) rfl
      have x7 : w5.cell? ⟨g5, 7, none⟩ = some (.int .u64 (rfR rows cols c).tor.1.1) := HG5.out.cell 7 (.int .u64 (rfR rows cols c).tor.1.1) rfl
      have x8 : w5.cell? ⟨g5, 8, none⟩ = some (.int .i64 (rfR rows cols c).tor.1.2) := HG5.out.cell 8 (.int .i64 (rfR rows cols c).tor.1.2) rfl
      have x9 : w5.cell? ⟨g5, 9, none⟩ = some (.int .u64 (rfR rows cols c).tor.2.1) := HG5.out.cell 9 (.int .u64 (rfR rows cols c).tor.2.1) rfl
      have x10 : w5.cell? ⟨g5, 10, none⟩ = some (.int .i64 (rfR rows cols c).tor.2.2) := HG5.out.cell 10 (.int .i64 (rfR rows cols c).tor.2.2) rfl
      have x11 : w5.cell? ⟨g5, 11, none⟩ = some (.slice p3 l3 c3) := HG5.out.cell 11 (.slice p3 l3 c3) rfl
      have HRW := Lib.hid (row_below HOW.out HB5.out)
      have HN15 := Lib.hid (HN1.out.below HB5.out)
      have HN05 := Lib.hid (HN0.out.below HB5.out)
      have HN25 := Lib.hid (HN2.out.below HB5.out)
      have HBL5 : Hid (Below w.heap.size w w5) := bel_call HB5.out HBL.out hzr
      have hzs5 := HB5.out.size
      clear HN1 HN0 HN2 HBL
      go_wp2_with (at_builtin; refine wpList_append_own_at _ rfl _ _ _ rfl base tN2 i0 _ 12 120 Tryz.underlying51 hi hz0 hz1 hz2 rfl (by decide) _ _ _ rfl (HRW.out.alloc _) ⟨w5.heap.size, 0, none⟩ 1 1 (kidQ rfE (((rfR rows cols) c), p3, l3, c3)) rfl rfl (newBn2 w5 ((rfR rows cols) c) p3 l3 c3) (kidR_one (((rfR rows cols) c), p3, l3, c3)) (by unfold maxLen; omega) (by omega) (by rw [World.size_alloc]; omega) ?_; intro v' w6 hown6 hgrow6 _ hat6; have HOW6 : Hid (w6.ownsRow base tN2 12 v' (i + 1) ((acc ++ [(((rfR rows cols) c), p3, l3, c3)]).flatMap (kidQ rfE))) := (by unfold Hid; rw [flat_snoc]; exact hown6); obtain ⟨q5, cp5, hv5, _, _, _, _⟩ := RdG.of_own kidR_len (by rw [List.length_append, List.length_singleton, hla]) HOW6.out; subst hv5; have HB6 : Hid (Below base w5 w6) := ((Below.refl _ _).alloc (by omega) _).grown hgrow6 (by rw [World.size_alloc]; omega) (fun k hk => (HRW.out.lt k hk).1); have HKN6 := Lib.hid (kidsB_off (b := w.heap.size) (G := L) (kk := 11) (u := .slice q5 (i + 1) cp5) (c2 := c3) hLb (by omega) hbs (Off.of_below HB5.out) hgrow6 hat6 (fun k e => (HOW.out.lt k e).2) (HKD.out d' HHD.out) (RdQ.carry (fun k hk _ => ⟨⟨hk.1, by omega⟩, rfl⟩) HK5.out)); have HN6 : Hid (BlkC w6 L (bnA (.mk n.kind n.num n.text F1 G1 [] : Bn) q i cp) tN2) := (HB6.out.block _ hLb).trans HN25.out; have e11 : w6.cell? ⟨L, 11, none⟩ = some (.slice q i cp) := HN6.out.cell 11 _ rfl; have g11 := HN6.out.fz 11; clear hown6 hgrow6 hat6 HRW b11 f11 x0 x1 x2 x3 x4 x5 x6 x7 x8 x9 x10 x11)
      have HP7 : Hid (BlkC (w6.setCell ⟨L, 11, none⟩ (.slice q5 (i + 1) cp5)) L (bnA (.mk n.kind n.num n.text F1 G1 [] : Bn) q5 (i + 1) cp5) tN2) := block_setCell HN6.out _
      have HR7 : Hid (BlkC (w6.setCell ⟨L, 11, none⟩ (.slice q5 (i + 1) cp5)) w.heap.size (ndA n (some ⟨b, off, none⟩) len cap) tRn) := (heap_setCell_other _ _ _ _ (by show w.heap.size ≠ L; omega)).trans ((HB6.out.block _ (by omega)).trans HN15.out)
      have HZ7 : Hid (BlkC (w6.setCell ⟨L, 11, none⟩ (.slice q5 (i + 1) cp5)) (w.heap.size + 1) (bnA bnZ none 0 0) tN2) := (heap_setCell_other _ _ _ _ (by show w.heap.size + 1 ≠ L; omega)).trans ((HB6.out.block _ (by omega)).trans HN05.out)
      have HW7 : Hid ((w6.setCell ⟨L, 11, none⟩ (.slice q5 (i + 1) cp5)).ownsRow base tN2 12 (.slice q5 (i + 1) cp5) (i + 1) ((acc ++ [(((rfR rows cols) c), p3, l3, c3)]).flatMap (kidQ rfE))) :=
        row_carry HOW6.out (fun k hb => heap_setCell_other _ _ _ _ (by have := (HOW6.out.lt k hb).1; show k ≠ L; omega))
      have HL7 : Hid (Below w.heap.size w (w6.setCell ⟨L, 11, none⟩ (.slice q5 (i + 1) cp5))) := (HBL5.out.trans (HB6.out.mono (by omega))).setCell (by show w.heap.size ≤ L; omega) _
      have hz7 : base ≤ (w6.setCell ⟨L, 11, none⟩ (.slice q5 (i + 1) cp5)).heap.size := by rw [World.size_setCell]; have := HB6.out.size; omega
      have HAN : Hid ((acc ++ [(((rfR rows cols) c), p3, l3, c3)]).map Prod.fst = (n.args.take (i + 1)).map (rfR rows cols)) := by
        unfold Hid
        rw [List.map_append, HAC.out, List.take_add_one, HHC.out]
        simp
      generalize w6.setCell ⟨L, 11, none⟩ (.slice q5 (i + 1) cp5) = w7 at HP7 HR7 HZ7 HW7 HL7 HKN6 hz7 ⊢
      go_roundg (gk - 1)
      case measure => omega
      case rel =>
        refine ⟨i + 1, acc ++ [(((rfR rows cols) c), p3, l3, c3)], q5, cp5, En, by omega, rfl, by go_num, by omega, HAN.out, HR7.out, HZ7.out, HP7.out, HW7.out, fun d'' hd x hx => ?_, HL7.out, hz7, HEN.out⟩
        obtain rfl : d' = d'' := by have := HHD.out; omega
        exact HKN6.out x hx
    · by_cases hE0 : Ei = 0
      · obtain rfl : i = len := by omega
        subst hE0
        have hli : ¬ (i : Int) < (i : Int) := by omega
        have hEF0 : EF = 0 := by
          rw [HEI.out, if_pos rfl, List.drop_eq_nil_of_le (by rw [HAL.out]; exact Nat.le_refl _), bdEL]
        have HRE := Lib.hid (HRR.out hEF0)
        subst hEF0
        have HAE : Hid (acc.map Prod.fst = n.args.map (rfR rows cols)) := by unfold Hid; rw [HAC.out, List.take_of_length_le (by rw [HAL.out]; exact Nat.le_refl _)]
        clear HEI HRR HR0 hgo HAC
        go_upto_region 15 with fail
        refine wp_region_lit ?_
        refine wpList_load_mid (by rfl) _ _ (by rfl) L 0 (by rfl) [.int .i64 n.kind, .int .i64 n.num, .string ⟨n.text.toArray⟩, .int .u64 F1.1.1, .int .i64 F1.1.2, .int .u64 F1.2.1, .int .i64 F1.2.2, .int .u64 G1.1.1, .int .i64 G1.1.2, .int .u64 G1.2.1, .int .i64 G1.2.2, .slice q i cp] _ (block_range HN2.out [.int .i64 n.kind, .int .i64 n.num, .string ⟨n.text.toArray⟩, .int .u64 F1.1.1, .int .i64 F1.1.2, .int .u64 F1.2.1, .int .i64 F1.2.2, .int .u64 G1.1.1, .int .i64 G1.1.2, .int .u64 G1.2.1, .int .i64 G1.2.2, .slice q i cp] rfl) Tryz.underlying53 rfl (by kernel_rfl) ?_
        go_simp
        refine wpList_store_mid (by rfl) _ _ _ (by rfl) (w.heap.size + 1) 0 #[.int .i64 n.kind, .int .i64 n.num, .string ⟨n.text.toArray⟩, .int .u64 F1.1.1, .int .i64 F1.1.2, .int .u64 F1.2.1, .int .i64 F1.2.2, .int .u64 G1.1.1, .int .i64 G1.1.2, .int .u64 G1.2.1, .int .i64 G1.2.2, .slice q i cp] (by rfl) (by rfl) (block_there HN0.out 12 (Nat.le_refl _)) (by kernel_rfl) (by simp [Value.oneCell']) ?_
        have HS8 : Hid (BlkC (wr.setCells (w.heap.size + 1) 0 (#[.int .i64 n.kind, .int .i64 n.num, .string ⟨n.text.toArray⟩, .int .u64 F1.1.1, .int .i64 F1.1.2, .int .u64 F1.2.1, .int .i64 F1.2.2, .int .u64 G1.1.1, .int .i64 G1.1.2, .int .u64 G1.2.1, .int .i64 G1.2.2, .slice q i cp]).toList) (w.heap.size + 1) (bnA (.mk n.kind n.num n.text F1 G1 [] : Bn) q i cp) tN2) := store_block HN0.out _ rfl
        have HB8 : Hid (Below w.heap.size w (wr.setCells (w.heap.size + 1) 0 (#[.int .i64 n.kind, .int .i64 n.num, .string ⟨n.text.toArray⟩, .int .u64 F1.1.1, .int .i64 F1.1.2, .int .u64 F1.2.1, .int .i64 F1.2.2, .int .u64 G1.1.1, .int .i64 G1.1.2, .int .u64 G1.2.1, .int .i64 G1.2.2, .slice q i cp]).toList)) := store_below (by omega) _ _ _ HBL.out
        have hz8 := (store_below (Nat.zero_le (w.heap.size + 1)) (#[.int .i64 n.kind, .int .i64 n.num, .string ⟨n.text.toArray⟩, .int .u64 F1.1.1, .int .i64 F1.1.2, .int .u64 F1.2.1, .int .i64 F1.2.2, .int .u64 G1.1.1, .int .i64 G1.1.2, .int .u64 G1.2.1, .int .i64 G1.2.2, .slice q i cp]).toList 0 wr (Below.refl 0 wr)).size
        have HO8 : Hid (∀ k, k ≠ w.heap.size + 1 → (wr.setCells (w.heap.size + 1) 0 (#[.int .i64 n.kind, .int .i64 n.num, .string ⟨n.text.toArray⟩, .int .u64 F1.1.1, .int .i64 F1.1.2, .int .u64 F1.2.1, .int .i64 F1.2.2, .int .u64 G1.1.1, .int .i64 G1.1.2, .int .u64 G1.2.1, .int .i64 G1.2.2, .slice q i cp]).toList).heap[k]? = wr.heap[k]?) := fun k hk => store_other hk _ _ _
        generalize wr.setCells (w.heap.size + 1) 0 (#[.int .i64 n.kind, .int .i64 n.num, .string ⟨n.text.toArray⟩, .int .u64 F1.1.1, .int .i64 F1.1.2, .int .u64 F1.2.1, .int .i64 F1.2.2, .int .u64 G1.1.1, .int .i64 G1.1.2, .int .u64 G1.2.1, .int .i64 G1.2.2, .slice q i cp]).toList = w9 at HS8 HB8 HO8 hz8 ⊢
        go_simp
        go_wp2_with fail
        try simp only [Exit.inBlock, Exit.then]
        refine bodyPost_ret (results_row_tmp rfl _ _ (w.heap.size + 1) tN2 (bnA (.mk n.kind n.num n.text F1 G1 [] : Bn) q i cp) (0, 0) _ rfl HS8.out Tryz.underlying53 rfl (by kernel_rfl) _ rfl) rfl ⟨⟨q, i, ⟨cp, ?_⟩, ?_⟩, HB8.out⟩
        · rw [HRE.out]; rfl
        · rw [HRE.out]
          cases d with
          | zero =>
            have h := HRD.out
            refine ⟨?_, h.2⟩
            show n.args.map (rfR rows cols) = []
            rw [h.1]; rfl
          | succ d =>
            subst hla
            obtain ⟨q', cp', hv, hr⟩ := RdQ.of_row kidR_len (n := (.mk n.kind n.num n.text F1 G1 (n.args.map (rfR rows cols)))) (d := d) (ok := fun b => base ≤ b ∧ b < wr.heap.size) HOW.out HAE.out (fun x hx => RdQ.carry (fun b hb _ => ⟨⟨hb.1, hb.2.1⟩, rfl⟩) (HKD.out d rfl x hx)) (fun b hb => HOW.out.lt b hb)
            cases hv
            exact RdQ.carry (fun b hb _ => ⟨⟨by omega, by omega⟩, HO8.out b (by omega)⟩) hr
      · have hEFE : EF = Ei := by rw [HEI.out, if_neg hE0]
        have HRE := Lib.hid (HR0.out (by rw [hEFE]; exact hE0))
        subst hEFE
        have y1 : (EF == 0) = false := by simpa using hE0
        have hgl : Hid ((i : Int) < (len : Int) ∨ ¬ (i : Int) < (len : Int)) := by unfold Hid; omega
        clear HEI HRR HR0 hgo
        rcases hgl.out with hli | hli
        all_goals clear hgl
        all_goals go_upto_region 14 with fail
        all_goals refine wp_region_lit ?_
        all_goals refine wpList_plain rfl fun K hK => ?_
        all_goals go_simp
        all_goals refine hK _ _ ?_
        all_goals clear hK K
        all_goals refine wpList_plain rfl fun K hK => ?_
        all_goals go_simp
        all_goals refine hK _ _ ?_
        all_goals clear hK K
        all_goals refine wpList_store_mid (by rfl) _ _ _ (by rfl) (w.heap.size + 1) 0 #[.int .i64 0, .int .i64 0, .string ⟨#[]⟩, .int .u64 0, .int .i64 0, .int .u64 0, .int .i64 0, .int .u64 0, .int .i64 0, .int .u64 0, .int .i64 0, .slice none 0 0] (by rfl) (by rfl) (block_there HN0.out 12 (Nat.le_refl _)) (by kernel_rfl) (by simp [Value.oneCell']) ?_
        all_goals have HS8 : Hid (BlkC (wr.setCells (w.heap.size + 1) 0 (#[.int .i64 0, .int .i64 0, .string ⟨#[]⟩, .int .u64 0, .int .i64 0, .int .u64 0, .int .i64 0, .int .u64 0, .int .i64 0, .int .u64 0, .int .i64 0, .slice none 0 0]).toList) (w.heap.size + 1) (bnA bnZ none 0 0) tN2) := store_block HN0.out _ rfl
        all_goals have HB8 : Hid (Below w.heap.size w (wr.setCells (w.heap.size + 1) 0 (#[.int .i64 0, .int .i64 0, .string ⟨#[]⟩, .int .u64 0, .int .i64 0, .int .u64 0, .int .i64 0, .int .u64 0, .int .i64 0, .int .u64 0, .int .i64 0, .slice none 0 0]).toList)) := store_below (by omega) _ _ _ HBL.out
        all_goals generalize wr.setCells (w.heap.size + 1) 0 (#[.int .i64 0, .int .i64 0, .string ⟨#[]⟩, .int .u64 0, .int .i64 0, .int .u64 0, .int .i64 0, .int .u64 0, .int .i64 0, .int .u64 0, .int .i64 0, .slice none 0 0]).toList = w9 at HS8 HB8 ⊢
        all_goals go_simp
        all_goals go_wp2_with fail
        all_goals try simp only [Exit.inBlock, Exit.then]
        all_goals first
          | exact bodyPost_ret (results_row_tmp rfl _ _ (w.heap.size + 1) tN2 (bnA bnZ none 0 0) (0, 0) _ rfl HS8.out Tryz.underlying53 rfl (by kernel_rfl) _ rfl) rfl ⟨⟨none, 0, ⟨0, by rw [HRE.out]; rfl⟩, by rw [HRE.out]; exact bn_leaf _ _ rfl _ _⟩, HB8.out⟩
          | exact bodyPost_ret (results_row_tmp rfl _ _ (w.heap.size + 1) tN2 (bnA bnZ none 0 0) (0, 0) _ rfl HS8.out Tryz.underlying53 rfl (by kernel_rfl) _ rfl) rfl ⟨⟨none, 0, 0, by rw [HRE.out]; rfl, by rw [HRE.out]; exact bn_leaf _ _ rfl _ _⟩, HB8.out⟩
theorem rfm_any (rows cols : List Idp) : ∀ d, rfmC rows cols d
  | 0 => rfm_s rows cols 0 (fun d' h => by omega)
  | d + 1 => rfm_s rows cols (d + 1) (fun d' h => (show d = d' from by omega) ▸ rfm_any rows cols d)
end Go.Proofs.YtjklbbmgjjdalaaGreatDoor.Bd
