/- The parser: 'binary': parts with signs of a level between. Printed by gen_par.py. What the document's Parse reads, as a plain function, and that it is what Parse reads; and that a number's text reads as the number. Parse of the document's answer: the walk. -/
import Derived.Test.YtigmcoelkkihkaaGreatDoorPwR
import Derived.Test.YtigmcoelkkihkaaGreatDoorPwP
set_option linter.unusedSimpArgs false
set_option linter.unusedVariables false
namespace Go.Proofs.YtigmcoelkkihkaaGreatDoor
open Go.RowKit Go.Joins

set_option maxRecDepth 100000 in
set_option maxHeartbeats 8000000 in
theorem bin_s (n : Nd) (lv : Int) (h1 : 1 ≤ lv) (h4 : lv ≤ 4) (hf : Fm n) (IH : ∀ m, Fm m → (wtN m < wtN n ∨ (m = n ∧ hdS m.kind m.text ≠ lv)) → BinC m (lv + 1)) : BinC n lv := by
  intro ws w b q cT i Ts rest hst hat hrs
  obtain ⟨x, L, hn, hx, hxl, hL, hxw, htk⟩ := spine lv h4 hf
  rw [htk] at hat ⊢
  have hIx : BinC x (lv + 1) := IH x hx (by
    rcases hxw with ⟨_, e⟩ | h
    · exact .inr ⟨e, hxl⟩
    · exact .inl h)
  have hIy : ∀ y ∈ L, BinC y.2 (lv + 1) := fun y hy => IH y.2 (hL y hy).2.2.1 (.inl (hL y hy).2.2.2)
  have hLs : ∀ y ∈ L, lvS y.1 = lv ∧ 1 ≤ lvS y.1 := fun y hy => ⟨(hL y hy).1, (hL y hy).2.1⟩
  have hat0 : At Ts i (tkN nmS x (lv + 1) ++ (tkS lv L ++ rest)) := by rw [← List.append_assoc]; exact hat
  have hatS := At.app hat0
  subst hn
  have hA0 : Hid (BlkC (w.alloc (.cells (Cel.ndA nodeZ none 0 0) Cel.tPn)) w.heap.size (Cel.ndA nodeZ none 0 0) Cel.tPn) := heap_alloc_new w _
  have hAB : Below w.heap.size w (w.alloc (.cells (Cel.ndA nodeZ none 0 0) Cel.tPn)) := by (repeat' (first | (with_reducible exact Below.refl _ _) | (with_reducible assumption) | (with_reducible refine Below.alloc ?_ ?_ _) | (with_reducible refine bel_drewN ?_ _) | (with_reducible refine Below.drew ?_) | (with_reducible refine Below.setCell ?_ ?_ _) | (with_reducible refine bel_call ‹_› ?_ ?_) | go_size))
  have HS0 := Lib.hid (hst.below hAB)
  have HO0 := Lib.hid (Off.of_below (b := b) hAB)
  have hbw := hst.lt
  have HUN := Lib.hid (fun W (h : PSt ws W b q Ts cT i) => hIx ws W b q cT i Ts _ h hat0 (rest_tkS hLs hrs))
  have HSW := Lib.hid hst
  have HLS := Lib.hid hLs
  have HIY := Lib.hid hIy
  have HRS := Lib.hid hrs
  have HSG := Lib.hid (fun W j (h : PSt ws W b q Ts cT j) => psign_any b q cT j Ts lv W h.psr h.tks h.len)
  have HK := Lib.hid (show i + (tkN nmS x (lv + 1)).length + (tkS lv L).length = i + (tkN nmS x (lv + 1) ++ tkS lv L).length from by rw [List.length_append]; omega)
  have HAT := Lib.hid hatS
  generalize (tkN nmS x (lv + 1) ++ tkS lv L).length = kk at HK ⊢
  generalize (tkN nmS x (lv + 1)).length = k at HK HUN HAT
  have hle := hst.len
  obtain ⟨nT, hnT⟩ : ∃ n, Ts.length = n := ⟨_, rfl⟩
  have HNT := Lib.hid hnT
  rw [hnT] at HUN HSG hle ⊢
  clear hnT
  clear hat hat0 hatS hrs IH hf htk hx hxl hxw hL hIx hIy hLs
  have f1 : IntKind.i64.wrap (lv + 1) = lv + 1 := IntWalk.i64_in _ (by omega)
  have g4 : ¬ lv > 4 := by omega
  clear hst hAB
  go_enter Tryz.func24, Tryz.ntmps24
  go_upto_region 1 with fail
  have e0 : w.alloc (.cells #[.int .i64 0, .int .i64 0, .string ⟨#[]⟩, .int .i64 0, .int .i64 0, .int .i64 0, .int .i64 0, .slice none 0 0] Cel.tPn) = w.alloc (.cells (Cel.ndA nodeZ none 0 0) Cel.tPn) := rfl
  rw [e0]
  clear e0
  generalize w.alloc (.cells (Cel.ndA nodeZ none 0 0) Cel.tPn) = w0 at hA0 HS0 HO0 ⊢
  go_wp2_with fail
  refine (HUN.out w0 HS0.out).mono ?_
  rintro e w1 ⟨⟨p, cap, rfl, hk⟩, hp1, ho1⟩
  rename_i KK aK
  go_simp
  refine aK _ _ ?_
  clear aK
  obtain ⟨l, hl⟩ : ∃ l, x.args.length = l := ⟨_, rfl⟩
  rw [hl] at hk ⊢
  have hA1 := Lib.hid (ho1.bc (by omega) hA0.out)
  have HP1 := Lib.hid hp1
  have HO1 := Lib.hid (HO0.out.trans ho1)
  have HK1 := Lib.hid hk
  have HL := Lib.hid hl
  have hs0 : w.heap.size < w0.heap.size := lt_some hA0.out
  have hs1 := ho1.size
  clear hp1 ho1 hA0 HS0 HO0 HUN hk hl
  rw [show Value.agg (Cel.ndA x p l cap) = .agg #[.int .i64 x.kind, .int .i64 x.num, .string ⟨x.text.toArray⟩, .int .i64 (cC x.frm), .int .i64 (cR x.frm), .int .i64 (cC x.tor), .int .i64 (cR x.tor), .slice p l cap] from rfl]
  iterate 3 (first | go_values | go_step)
  have e2 : w1.alloc (.cells #[.int .i64 0, .int .i64 0, .string ⟨#[]⟩, .int .i64 0, .int .i64 0, .int .i64 0, .int .i64 0, .slice none 0 0] Cel.tPn) = w1.alloc (.cells (Cel.ndA nodeZ none 0 0) Cel.tPn) := rfl
  rw [e2]
  clear e2
  have HG2 : Hid (BlkC (w1.alloc (.cells (Cel.ndA nodeZ none 0 0) Cel.tPn)) w1.heap.size (Cel.ndA nodeZ none 0 0) Cel.tPn) := heap_alloc_new w1 _
  have hAB2 : Below w1.heap.size w1 (w1.alloc (.cells (Cel.ndA nodeZ none 0 0) Cel.tPn)) := by (repeat' (first | (with_reducible exact Below.refl _ _) | (with_reducible assumption) | (with_reducible refine Below.alloc ?_ ?_ _) | (with_reducible refine bel_drewN ?_ _) | (with_reducible refine Below.drew ?_) | (with_reducible refine Below.setCell ?_ ?_ _) | (with_reducible refine bel_call ‹_› ?_ ?_) | go_size))
  have hA2 := Lib.hid (hA1.out.below hAB2)
  have HP2 := Lib.hid (HP1.out.below hAB2)
  have HO2 := Lib.hid (HO1.out.call hAB2)
  have HK2 : Hid (∀ d, dpN x ≤ d + 1 → Cel.RdP (w1.alloc (.cells (Cel.ndA nodeZ none 0 0) Cel.tPn)) (fun k => w0.heap.size ≤ k ∧ k < w1.heap.size) d x p l) := fun d hd => (HK1.out d hd).carry (fun k hk => ⟨hk, hAB2.block k hk.2⟩)
  have hs2 : (w1.alloc (.cells (Cel.ndA nodeZ none 0 0) Cel.tPn)).heap.size = w1.heap.size + 1 := World.size_alloc _ _
  clear hAB2 hA1 HP1 HO1 HK1
  generalize w1.alloc (.cells (Cel.ndA nodeZ none 0 0) Cel.tPn) = w2 at HG2 hA2 HP2 HO2 HK2 hs2 ⊢
  generalize w1.heap.size = G at HG2 HK2 hs1 hs2 ⊢
  refine wpList_store_mid (by rfl) _ _ _ (by rfl) G 0 #[.int .i64 x.kind, .int .i64 x.num, .string ⟨x.text.toArray⟩, .int .i64 (cC x.frm), .int .i64 (cR x.frm), .int .i64 (cC x.tor), .int .i64 (cR x.tor), .slice p l cap] (by rfl) (by rfl) (block_there HG2.out 8 (Nat.le_refl _)) (by kernel_rfl) (by simp [Value.oneCell']) ?_
  have e8 : w2.setCells G 0 (#[.int .i64 x.kind, .int .i64 x.num, .string ⟨x.text.toArray⟩, .int .i64 (cC x.frm), .int .i64 (cR x.frm), .int .i64 (cC x.tor), .int .i64 (cR x.tor), .slice p l cap]).toList = w2.setCells G 0 (Cel.ndA x p l cap).toList := rfl
  rw [e8]
  clear e8
  have HG3 : Hid (BlkC (w2.setCells G 0 (Cel.ndA x p l cap).toList) G (Cel.ndA x p l cap) Cel.tPn) := store_block HG2.out _ rfl
  have HO3 : Hid (Off b w (w2.setCells G 0 (Cel.ndA x p l cap).toList)) := HO2.out.set_cells (by omega) _ _
  have hA3 : Hid (BlkC (w2.setCells G 0 (Cel.ndA x p l cap).toList) w.heap.size (Cel.ndA nodeZ none 0 0) Cel.tPn) := (store_other (by omega) _ _ _).trans hA2.out
  have HP3 : Hid (Psr (w2.setCells G 0 (Cel.ndA x p l cap).toList) b q nT cT (i + k)) := (store_other (by omega) _ _ _).trans HP2.out
  have hz3 := (store_below (Nat.zero_le G) (Cel.ndA x p l cap).toList 0 w2 (Below.refl 0 w2)).size
  have HK3 : Hid (∀ d, dpN x ≤ d + 1 → Cel.RdP (w2.setCells G 0 (Cel.ndA x p l cap).toList) (fun k => w.heap.size < k ∧ k < (w2.setCells G 0 (Cel.ndA x p l cap).toList).heap.size ∧ k ≠ G) d x p l) := fun d hd => (HK2.out d hd).carry (fun k hk => ⟨⟨by omega, by omega, by omega⟩, store_other (by omega) _ _ _⟩)
  clear HG2 hA2 HP2 HO2 HK2
  generalize w2.setCells G 0 (Cel.ndA x p l cap).toList = w3 at HG3 hA3 HP3 HO3 HK3 hz3 ⊢
  go_simp
  iterate 3 (first | go_values | go_skip | go_guarded | go_step | go_upon)
  go_wp2_with fail
  have hHG : w.heap.size < G := by omega
  have hGz : G < w3.heap.size := by omega
  have hGb : G ≠ b := by omega
  clear hs0 hs1 hs2 hz3
  go_loopg [6] L.length (fun g v6 wr => ∃ (l1 l2 : List (Bs × Nd)) (p : Option Addr) (l cap : Nat), L = l1 ++ l2 ∧ l2.length = g ∧ BlkC wr G (Cel.ndA (foldS x l1) p l cap) Cel.tPn ∧ (foldS x l1).args.length = l ∧ BlkC wr w.heap.size (Cel.ndA nodeZ none 0 0) Cel.tPn ∧ Psr wr b q nT cT (i + k + (tkS lv l1).length) ∧ Off b w wr ∧ G < wr.heap.size ∧ ∀ d, dpN (foldS x l1) ≤ d + 1 → Cel.RdP wr (fun k => w.heap.size < k ∧ k < wr.heap.size ∧ k ≠ G) d (foldS x l1) p l)
  case atStart => exact ⟨[], L, p, l, cap, rfl, rfl, HG3.out, HL.out, hA3.out, HP3.out, HO3.out, hGz, HK3.out⟩
  case round =>
    obtain ⟨l1, l2, p, l, cap, hLe, hg, hG, hl, hA, hP, hO, hGr, hKd⟩ := hrel
    have HLE := Lib.hid hLe
    have HG := Lib.hid hG
    have HLL := Lib.hid hl
    have HA := Lib.hid hA
    have HP := Lib.hid hP
    have HO := Lib.hid hO
    have HKD := Lib.hid hKd
    have HSR : Hid (PSt ws wr b q Ts cT (i + k + (tkS lv l1).length)) := HSW.out.off hO (by rw [HNT.out]; exact hP)
    obtain ⟨_, _, pf, _⟩ := hP.cells
    have HAT1 : Hid (At Ts (i + k + (tkS lv l1).length) (tkS lv l2 ++ rest)) := by
      have h := HAT.out
      rw [hLe, tkS_app, List.append_assoc] at h
      exact At.app h
    clear hLe hG hl hA hP hO hKd HG3 hA3 HP3 HO3 HK3
    cases l2 with
    | nil =>
      have HON : Hid (sgO Ts (i + k + (tkS lv l1).length) lv = []) := (isB_rest HAT1.out HRS.out).2.2 lv (Int.le_refl _)
      have HSC := Lib.hid (HSG.out wr _ HSR.out)
      rw [HON.out] at HSC
      have HE : Hid (i + k + (tkS lv l1).length = i + kk) := by
        unfold Hid
        have h := HLE.out
        rw [List.append_nil] at h
        rw [← HK.out, h]
      go_wp2_with fail
      refine HSC.out.mono ?_
      rintro e w4 ⟨rfl, hp4, ho4⟩
      rw [if_pos rfl] at hp4
      have HP4 : Hid (Psr w4 b q nT cT (i + kk)) := by unfold Hid; rw [← HE.out]; exact hp4
      have HG4 := Lib.hid (ho4.bc hGb HG.out)
      have HA4 := Lib.hid (ho4.bc (by omega) HA.out)
      have HO4 := Lib.hid (HO.out.trans ho4)
      have HLF : Hid (foldS x L = foldS x l1) := by have h := HLE.out; rw [List.append_nil] at h; unfold Hid; rw [h]
      have hs4 := ho4.size
      have HK4 : Hid (∀ d, dpN (foldS x l1) ≤ d + 1 → Cel.RdP w4 (fun k => w.heap.size < k ∧ k < w4.heap.size) d (foldS x l1) p l) := fun d hd => (HKD.out d hd).carry (fun k hk => ⟨⟨hk.1, by omega⟩, ho4.block k hk.2.1 (by omega)⟩)
      clear hp4 ho4 HSC HON HG HA HO HP HKD HSR HLE HAT1 HAT HIY
      generalize foldS x l1 = n at *
      go_upto_region 8 with fail
      refine wp_region_lit ?_
      refine wpList_load_mid (by rfl) _ _ (by rfl) G 0 (by rfl) [.int .i64 n.kind, .int .i64 n.num, .string ⟨n.text.toArray⟩, .int .i64 (cC n.frm), .int .i64 (cR n.frm), .int .i64 (cC n.tor), .int .i64 (cR n.tor), .slice p l cap] _ (block_range HG4.out [.int .i64 n.kind, .int .i64 n.num, .string ⟨n.text.toArray⟩, .int .i64 (cC n.frm), .int .i64 (cR n.frm), .int .i64 (cC n.tor), .int .i64 (cR n.tor), .slice p l cap] rfl) Tryz.underlying34 rfl (by kernel_rfl) ?_
      go_simp
      refine wpList_store_mid (by rfl) _ _ _ (by rfl) w.heap.size 0 #[.int .i64 n.kind, .int .i64 n.num, .string ⟨n.text.toArray⟩, .int .i64 (cC n.frm), .int .i64 (cR n.frm), .int .i64 (cC n.tor), .int .i64 (cR n.tor), .slice p l cap] (by rfl) (by rfl) (block_there HA4.out 8 (Nat.le_refl _)) (by kernel_rfl) (by simp [Value.oneCell']) ?_
      obtain ⟨hs8, hf8⟩ := res_store (n := n) (p := p) (l := l) (cp := cap) HA4.out rfl HP4.out HO4.out hbw HLL.out HK4.out
      have HS8 := Lib.hid hs8
      have HF8 := Lib.hid hf8
      clear hs8 hf8
      have e8 : w4.setCells w.heap.size 0 (#[.int .i64 n.kind, .int .i64 n.num, .string ⟨n.text.toArray⟩, .int .i64 (cC n.frm), .int .i64 (cR n.frm), .int .i64 (cC n.tor), .int .i64 (cR n.tor), .slice p l cap]).toList = w4.setCells w.heap.size 0 (Cel.ndA n p l cap).toList := rfl
      rw [e8]
      clear e8
      generalize w4.setCells w.heap.size 0 (Cel.ndA n p l cap).toList = w9 at HS8 HF8 ⊢
      go_simp
      iterate 3 (first | go_values | go_skip | go_guarded | go_step | go_upon)
      apply wp_ret
      try simp only [Exit.inBlock, Exit.then]
      exact bodyPost_ret (results_cell_row rfl _ _ w.heap.size Cel.tPn (Cel.ndA n p l cap) (0, 0) _ rfl HS8.out Tryz.underlying34 rfl (by kernel_rfl)) rfl (by rw [HLF.out]; exact HF8.out)
    | cons y l2 =>
      have hyL : y ∈ L := by rw [HLE.out]; simp
      obtain ⟨hy1, hy2⟩ := HLS.out y hyL
      have HAT2 : Hid (At Ts (i + k + (tkS lv l1).length) ((4, y.1) :: (tkN nmS y.2 (lv + 1) ++ (tkS lv l2 ++ rest)))) := by
        have h := HAT1.out
        unfold Hid
        rw [tkS, List.cons_append, List.append_assoc] at h
        exact h
      have HON : Hid (sgO Ts (i + k + (tkS lv l1).length) lv = y.1) := sgO_head HAT2.out (by rw [← hy1]; exact lvS_in hy2)
      have hne : y.1 ≠ [] := sgS_ne lv _ (by rw [← hy1]; exact lvS_in hy2)
      have HSC := Lib.hid (HSG.out wr _ HSR.out)
      rw [HON.out] at HSC
      obtain ⟨_, _, _, HAT3⟩ := HAT2.out.get
      have HRO : Hid (RestOk (lv + 1) (tkS lv l2 ++ rest)) := rest_tkS (fun z hz => HLS.out z (by rw [HLE.out]; simp [hz])) HRS.out
      have HUY := Lib.hid (fun W (h : PSt ws W b q Ts cT (i + k + (tkS lv l1).length + 1)) => HIY.out y hyL ws W b q cT _ Ts _ h HAT3 HRO.out)
      rw [HNT.out] at HUY
      have HKY : Hid (i + k + (tkS lv l1).length + 1 + (tkN nmS y.2 (lv + 1)).length = i + k + (tkS lv (l1 ++ [y])).length) := by
        unfold Hid
        rw [tkS_app, List.length_append, tkS, List.length_cons, List.length_append, tkS]
        simp
        omega
      have HFN : Hid (foldS x (l1 ++ [y]) = .mk 6 0 y.1 0 0 [foldS x l1, y.2]) := foldS_snoc x l1 y.1 y.2
      have HL2 : Hid (L = (l1 ++ [y]) ++ l2) := by unfold Hid; rw [HLE.out]; simp
      have hl2 : l2.length = gk - 1 := by rw [List.length_cons] at hg; omega
      have hgk : 0 < gk := by rw [List.length_cons] at hg; omega
      obtain ⟨t, ht⟩ : ∃ t, y.1 = t := ⟨_, rfl⟩
      rw [ht] at hne HSC HFN
      have hn1 : (t == []) = false := by simpa using hne
      have hn2 : t.isEmpty = false := by cases t with | nil => exact absurd rfl hne | cons => rfl
      clear hyL hy1 hy2 HAT1 HAT2 HAT3 HON HRO HLE hg ht
      go_wp2_with fail
      refine HSC.out.mono ?_
      rintro e w4 ⟨rfl, hp4, ho4⟩
      rw [if_neg hne] at hp4
      have HP4 := Lib.hid hp4
      have HG4 := Lib.hid (ho4.bc hGb HG.out)
      have HA4 := Lib.hid (ho4.bc (by omega) HA.out)
      have HO4 := Lib.hid (HO.out.trans ho4)
      have hs4 := ho4.size
      have HK4 : Hid (∀ d, dpN (foldS x l1) ≤ d + 1 → Cel.RdP w4 (fun k => w.heap.size < k ∧ k < wr.heap.size ∧ k ≠ G) d (foldS x l1) p l) := fun d hd => (HKD.out d hd).carry (fun k hk => ⟨hk, ho4.block k hk.2.1 (by omega)⟩)
      clear hp4 ho4 HSC HG HA HO HP HKD HSR pf
      obtain ⟨n, hn⟩ : ∃ n, foldS x l1 = n := ⟨_, rfl⟩
      rw [hn] at HG4 HK4 HLL HFN
      clear hn
      have Y0 := KeptO.cell (b := b) hGb (HG4.out.cell 0 (.int .i64 n.kind) rfl)
      have Y1 := KeptO.cell (b := b) hGb (HG4.out.cell 1 (.int .i64 n.num) rfl)
      have Y2 := KeptO.cell (b := b) hGb (HG4.out.cell 2 (.string ⟨n.text.toArray⟩) rfl)
      have Y3 := KeptO.cell (b := b) hGb (HG4.out.cell 3 (.int .i64 (cC n.frm)) rfl)
      have Y4 := KeptO.cell (b := b) hGb (HG4.out.cell 4 (.int .i64 (cR n.frm)) rfl)
      have Y5 := KeptO.cell (b := b) hGb (HG4.out.cell 5 (.int .i64 (cC n.tor)) rfl)
      have Y6 := KeptO.cell (b := b) hGb (HG4.out.cell 6 (.int .i64 (cR n.tor)) rfl)
      have Y7 := KeptO.cell (b := b) hGb (HG4.out.cell 7 (.slice p l cap) rfl)
      go_upto_region 7 with fail
      refine wp_region_schedT (fun wx => ∃ x : KeptO b w4, wx = x.v) 8 [([0, 1, 2, 3, 4], 5), ([], 6)] [7] (by kernel_rfl) (by kernel_rfl) (by kernel_rfl) (by kernel_rfl) (keptO_drew _ _) ?_
      (unfold wpSegK; simp only [pick_nil, pick_cons, nthO_zero, nthO_succ, List.append])
      repeat (go_big_quiet_step (fail))
      refine wpQuiet_nil ?_
      have hBd : Below w4.heap.size w4 w4.drew := Below.drew (Below.refl _ _)
      have HUY2 := Lib.hid (HUY.out w4.drew (HSW.out.off (HO4.out.call hBd) (by rw [HNT.out]; exact HP4.out.below hBd)))
      clear HUY
      go_wp2_with fail
      refine HUY2.out.mono ?_
      rintro e w5 ⟨⟨p2, cap2, rfl, hk5⟩, hp5, ho5⟩
      obtain ⟨c, hc⟩ : ∃ c, y.2 = c := ⟨_, rfl⟩
      rw [hc] at hk5 hp5 HKY HFN ⊢
      obtain ⟨l3, hl3⟩ : ∃ l3, c.args.length = l3 := ⟨_, rfl⟩
      rw [hl3] at hk5 ⊢
      have hO5 : Off b w4 w5 := (Off.of_below hBd).trans ho5
      have HO5 := Lib.hid hO5
      have HP5 : Hid (Psr w5 b q nT cT (i + k + (tkS lv (l1 ++ [y])).length)) := by unfold Hid; rw [← HKY.out]; exact hp5
      have HK5 : Hid (∀ d, dpN c ≤ d + 1 → Cel.RdP w5 (fun k => w4.heap.size ≤ k ∧ k < w5.heap.size) d c p2 l3) := hk5
      have hs5 := hO5.size
      clear ho5 hp5 hk5 HUY2 HKY hc hl3
      rw [show Value.agg (Cel.ndA c p2 l3 cap2) = .agg #[.int .i64 c.kind, .int .i64 c.num, .string ⟨c.text.toArray⟩, .int .i64 (cC c.frm), .int .i64 (cR c.frm), .int .i64 (cC c.tor), .int .i64 (cR c.tor), .slice p2 l3 cap2] from rfl]
      go_wp2_with fail
      refine ⟨rfl, ⟨⟨w5, HO5.out⟩, rfl⟩, ?_⟩
      (unfold wpSegK; simp only [pick_nil, pick_cons, nthO_zero, nthO_succ, List.append])
      refine wpQuiet_nil ?_
      go_wp2_with fail
      have e6 : w5.alloc (.cells #[.int .i64 n.kind, .int .i64 n.num, .string ⟨n.text.toArray⟩, .int .i64 (cC n.frm), .int .i64 (cR n.frm), .int .i64 (cC n.tor), .int .i64 (cR n.tor), .slice p l cap, .int .i64 c.kind, .int .i64 c.num, .string ⟨c.text.toArray⟩, .int .i64 (cC c.frm), .int .i64 (cR c.frm), .int .i64 (cC c.tor), .int .i64 (cR c.tor), .slice p2 l3 cap2] Cel.tPn) = w5.alloc (.cells (Cel.ndC n p l cap ++ Cel.ndC c p2 l3 cap2).toArray Cel.tPn) := rfl
      rw [e6]
      clear e6
      have HG6 : Hid (BlkC (w5.alloc (.cells (Cel.ndC n p l cap ++ Cel.ndC c p2 l3 cap2).toArray Cel.tPn)) w5.heap.size (Cel.ndC n p l cap ++ Cel.ndC c p2 l3 cap2).toArray Cel.tPn) := heap_alloc_new w5 _
      have hAB6 : Below w5.heap.size w5 (w5.alloc (.cells (Cel.ndC n p l cap ++ Cel.ndC c p2 l3 cap2).toArray Cel.tPn)) := by (repeat' (first | (with_reducible exact Below.refl _ _) | (with_reducible assumption) | (with_reducible refine Below.alloc ?_ ?_ _) | (with_reducible refine bel_drewN ?_ _) | (with_reducible refine Below.drew ?_) | (with_reducible refine Below.setCell ?_ ?_ _) | (with_reducible refine bel_call ‹_› ?_ ?_) | go_size))
      have HO6 := Lib.hid (HO5.out.call hAB6)
      have HX6 := Lib.hid ((HO6.out).bc hGb HG4.out)
      have HA6 := Lib.hid ((HO6.out).bc (by omega) HA4.out)
      have HP6 := Lib.hid (HP5.out.below hAB6)
      have hs6 : (w5.alloc (.cells (Cel.ndC n p l cap ++ Cel.ndC c p2 l3 cap2).toArray Cel.tPn)).heap.size = w5.heap.size + 1 := World.size_alloc _ _
      have HKN : Hid (∀ d, dpN n ≤ d + 1 → Cel.RdP (w5.alloc (.cells (Cel.ndC n p l cap ++ Cel.ndC c p2 l3 cap2).toArray Cel.tPn)) (fun k => w.heap.size < k ∧ k < w5.heap.size ∧ k ≠ G) d n p l) := fun d hd => (HK4.out d hd).carry (fun k hk => ⟨⟨by omega, by omega, by omega⟩, HO6.out.block k (by omega) (by omega)⟩)
      have HKC : Hid (∀ d, dpN c ≤ d + 1 → Cel.RdP (w5.alloc (.cells (Cel.ndC n p l cap ++ Cel.ndC c p2 l3 cap2).toArray Cel.tPn)) (fun k => w.heap.size < k ∧ k < w5.heap.size ∧ k ≠ G) d c p2 l3) := fun d hd => (HK5.out d hd).carry (fun k hk => ⟨⟨by omega, by omega, by omega⟩, hAB6.block k (by omega)⟩)
      clear hAB6 HG4 HA4 HP5 HK4 HK5 HO5 HP4
      generalize w5.alloc (.cells (Cel.ndC n p l cap ++ Cel.ndC c p2 l3 cap2).toArray Cel.tPn) = w6 at HG6 HO6 HX6 HA6 HP6 hs6 HKN HKC ⊢
      generalize w5.heap.size = g5 at HG6 HKN HKC hs5 hs6 ⊢
      refine ⟨rfl, ⟨⟨w6, HO6.out⟩, rfl⟩, ?_⟩
      (unfold wpSegK; simp only [pick_nil, pick_cons, nthO_zero, nthO_succ, List.append])
      repeat (go_big_quiet_step (fail))
      refine wpQuiet_nil ?_
      refine wpList_store_mid (by rfl) _ _ _ (by rfl) G 0 #[.int .i64 6, .int .i64 0, .string ⟨t.toArray⟩, .int .i64 0, .int .i64 0, .int .i64 0, .int .i64 0, .slice (some ⟨g5, 0, none⟩) 2 2] (by rfl) (by rfl) (block_there HX6.out 8 (Nat.le_refl _)) (by kernel_rfl) (by simp [Value.oneCell']) ?_
      have e8 : w6.setCells G 0 (#[.int .i64 6, .int .i64 0, .string ⟨t.toArray⟩, .int .i64 0, .int .i64 0, .int .i64 0, .int .i64 0, .slice (some ⟨g5, 0, none⟩) 2 2]).toList = w6.setCells G 0 (Cel.ndA (.mk 6 0 t 0 0 [n, c]) (some ⟨g5, 0, none⟩) 2 2).toList := rfl
      rw [e8]
      clear e8
      have HO7 : Hid (Off b w (w6.setCells G 0 (Cel.ndA (.mk 6 0 t 0 0 [n, c]) (some ⟨g5, 0, none⟩) 2 2).toList)) := (HO4.out.trans HO6.out).set_cells (by omega) _ _
      have HX7 : Hid (BlkC (w6.setCells G 0 (Cel.ndA (.mk 6 0 t 0 0 [n, c]) (some ⟨g5, 0, none⟩) 2 2).toList) G (Cel.ndA (.mk 6 0 t 0 0 [n, c]) (some ⟨g5, 0, none⟩) 2 2) Cel.tPn) := store_block HX6.out _ rfl
      have HA7 : Hid (BlkC (w6.setCells G 0 (Cel.ndA (.mk 6 0 t 0 0 [n, c]) (some ⟨g5, 0, none⟩) 2 2).toList) w.heap.size (Cel.ndA nodeZ none 0 0) Cel.tPn) := (store_other (by omega) _ _ _).trans HA6.out
      have HP7 : Hid (Psr (w6.setCells G 0 (Cel.ndA (.mk 6 0 t 0 0 [n, c]) (some ⟨g5, 0, none⟩) 2 2).toList) b q nT cT (i + k + (tkS lv (l1 ++ [y])).length)) := (store_other (by omega) _ _ _).trans HP6.out
      have hz7 := (store_below (Nat.zero_le G) (Cel.ndA (.mk 6 0 t 0 0 [n, c]) (some ⟨g5, 0, none⟩) 2 2).toList 0 w6 (Below.refl 0 w6)).size
      have hG7 : G < (w6.setCells G 0 (Cel.ndA (.mk 6 0 t 0 0 [n, c]) (some ⟨g5, 0, none⟩) 2 2).toList).heap.size := by omega
      have HK7 : Hid (∀ d, dpN (.mk 6 0 t 0 0 [n, c]) ≤ d + 1 → Cel.RdP (w6.setCells G 0 (Cel.ndA (.mk 6 0 t 0 0 [n, c]) (some ⟨g5, 0, none⟩) 2 2).toList) (fun k => w.heap.size < k ∧ k < (w6.setCells G 0 (Cel.ndA (.mk 6 0 t 0 0 [n, c]) (some ⟨g5, 0, none⟩) 2 2).toList).heap.size ∧ k ≠ G) d (.mk 6 0 t 0 0 [n, c]) (some ⟨g5, 0, none⟩) 2) := fun d hd =>
        (rdp_two' (ok := fun k => w.heap.size < k ∧ k < w6.heap.size ∧ k ≠ G) (a := n) (c := c) rfl HG6.out ⟨by omega, by omega, by omega⟩ (dpN_bin t n c) (fun d hd => (HKN.out d hd).carry (fun k hk => ⟨⟨by omega, by omega, by omega⟩, rfl⟩)) (fun d hd => (HKC.out d hd).carry (fun k hk => ⟨⟨by omega, by omega, by omega⟩, rfl⟩)) d hd).carry (fun k hk => ⟨⟨by omega, by omega, by omega⟩, store_other (by omega) _ _ _⟩)
      clear HG6 HO6 HX6 HA6 HP6 HKN HKC HO4 hz7
      generalize w6.setCells G 0 (Cel.ndA (.mk 6 0 t 0 0 [n, c]) (some ⟨g5, 0, none⟩) 2 2).toList = w7 at HO7 HX7 HA7 HP7 HK7 hG7 ⊢
      rw [← HFN.out] at HX7 HK7
      have HLN : Hid ((foldS x (l1 ++ [y])).args.length = 2) := by unfold Hid; rw [HFN.out]; rfl
      go_simp
      go_wp2_with fail
      refine ⟨rfl, ?_⟩
      go_wp2_with fail
      go_roundg (gk - 1)
      case measure => omega
      case rel => exact ⟨l1 ++ [y], l2, some ⟨g5, 0, none⟩, 2, 2, HL2.out, hl2, HX7.out, HLN.out, HA7.out, HP7.out, HO7.out, hG7, HK7.out⟩
end Go.Proofs.YtigmcoelkkihkaaGreatDoor
namespace Go.Proofs.YtigmcoelkkihkaaGreatDoor
open Go.RowKit

/-- A cut at one letter. -/
theorem index_one (c : UInt8) : ∀ (s : List UInt8), (Lib.index s [c] = -1 ∧ c ∉ s) ∨ ∃ A B, s = A ++ c :: B ∧ c ∉ A ∧ Lib.index s [c] = (A.length : Int)
  | [] => .inl ⟨rfl, by simp⟩
  | b :: l => by
    by_cases h : c = b
    · subst h
      have hp : ([c] : List UInt8).isPrefixOf (c :: l) = true := by simp [List.isPrefixOf]
      exact .inr ⟨[], l, rfl, List.not_mem_nil, by unfold Lib.index; rw [hp]; rfl⟩
    · have hp : ([c] : List UInt8).isPrefixOf (b :: l) = false := by simp [List.isPrefixOf, h]
      rcases index_one c l with ⟨h1, h2⟩ | ⟨A, B, h1, h2, h3⟩
      · exact .inl ⟨by unfold Lib.index; rw [hp, h1]; rfl, by simp [h, h2]⟩
      · refine .inr ⟨b :: A, B, by rw [h1]; rfl, by simp [h, h2], ?_⟩
        unfold Lib.index
        rw [hp, h3]
        have : ((A.length : Int) == -1) = false := by rw [beq_eq_false_iff_ne]; omega
        simp [this]
theorem cut_one (c : UInt8) (s : List UInt8) : (c ∉ s ∧ Lib.cut s [c] = (s, [], false)) ∨ ∃ A B, s = A ++ c :: B ∧ c ∉ A ∧ Lib.cut s [c] = (A, B, true) := by
  rcases index_one c s with ⟨h1, h2⟩ | ⟨A, B, h1, h2, h3⟩
  · exact .inl ⟨h2, by unfold Lib.cut; rw [h1]; rfl⟩
  · refine .inr ⟨A, B, h1, h2, ?_⟩
    unfold Lib.cut
    rw [h3, if_pos (by omega), h1]
    simp
theorem cut_at (c : UInt8) (A B : List UInt8) (h : c ∉ A) : Lib.cut (A ++ c :: B) [c] = (A, B, true) := by
  rcases cut_one c (A ++ c :: B) with ⟨h1, _⟩ | ⟨A', B', h1, h2, h3⟩
  · exact absurd (by simp) h1
  · rw [h3]
    have key : ∀ (A A' : List UInt8), c ∉ A → c ∉ A' → A ++ c :: B = A' ++ c :: B' → A = A' ∧ B = B' := by
      intro A
      induction A with
      | nil =>
        intro A' _ h2 h
        cases A' with
        | nil => simp at h; exact ⟨rfl, h⟩
        | cons x r => simp at h; exact absurd (by simp [h.1]) h2
      | cons y t ih =>
        intro A' h1 h2 h
        cases A' with
        | nil => simp at h; exact absurd (by simp [h.1]) h1
        | cons x r =>
          simp at h h1 h2
          obtain ⟨e1, e2⟩ := ih r h1.2 h2.2 h.2
          exact ⟨by rw [h.1, e1], e2⟩
    obtain ⟨e1, e2⟩ := key A A' h h2 h1
    rw [e1, e2]

/-- Is a letter a digit? -/
def isDg (c : UInt8) : Bool := decide (48 ≤ c.toNat) && decide (c.toNat ≤ 57)
/-- What letters come to behind n. -/
def vl (n : Nat) (L : List UInt8) : Nat := L.foldl (fun n c => c.toNat - 48 + 10 * n) n
theorem vl_cons (n : Nat) (c : UInt8) (L : List UInt8) : vl n (c :: L) = vl (c.toNat - 48 + 10 * n) L := rfl
theorem vl_append (n : Nat) (A B : List UInt8) : vl n (A ++ B) = vl (vl n A) B := by simp [vl]
theorem vl_split (n : Nat) (L : List UInt8) : vl n L = n * 10 ^ L.length + vl 0 L := by
  induction L generalizing n with
  | nil => simp [vl]
  | cons c L ih =>
    rw [vl_cons, vl_cons, ih, ih (c.toNat - 48 + 10 * 0), List.length_cons, Nat.pow_succ, Nat.add_mul, Nat.add_mul]
    have : 10 * n * 10 ^ L.length = n * (10 ^ L.length * 10) := by rw [Nat.mul_comm 10 n, Nat.mul_assoc, Nat.mul_comm 10]
    omega
theorem vl_le (n : Nat) (L : List UInt8) : n ≤ vl n L := by
  rw [vl_split]
  have : n * 1 ≤ n * 10 ^ L.length := Nat.mul_le_mul_left _ (Nat.pow_pos (by omega))
  omega
theorem vl_lt {L : List UInt8} (h : L.all isDg = true) : vl 0 L < 10 ^ L.length := by
  have key : ∀ (L : List UInt8) (n : Nat), L.all isDg = true → vl n L < (n + 1) * 10 ^ L.length := by
    intro L
    induction L with
    | nil => intro n _; simp [vl]
    | cons c L ih =>
      intro n h
      simp [isDg] at h
      rw [vl_cons]
      refine Nat.lt_of_lt_of_le (ih _ (by simpa [isDg] using h.2)) ?_
      rw [List.length_cons, Nat.pow_succ, Nat.mul_comm (10 ^ L.length), ← Nat.mul_assoc]
      exact Nat.mul_le_mul_right _ (by omega)
  simpa using key L 0 h

/-- The letter loop: the number, the places behind the point (-1: no point yet), the letters ahead of it. -/
def rp : List UInt8 → Nat → Int → Nat → Option (Nat × Int × Nat)
  | [], n, p, k => some (n, p, k)
  | c :: r, n, p, k => if c.toNat = 46 ∧ p < 0 then rp r n 0 k else if 48 ≤ c.toNat ∧ c.toNat ≤ 57 then (if p < 0 then rp r (c.toNat - 48 + 10 * n) p (k + 1) else rp r (c.toNat - 48 + 10 * n) (p + 1) k) else none

theorem rp_behind : ∀ (B : List UInt8) (n p k : Nat), rp B n p k = if B.all isDg then some (vl n B, ((p + B.length : Nat) : Int), k) else none
  | [], n, p, k => by simp [rp, vl]
  | c :: B, n, p, k => by
    rw [rp, if_neg (by omega)]
    by_cases h : 48 ≤ c.toNat ∧ c.toNat ≤ 57
    · have hd : isDg c = true := by simp [isDg, h]
      rw [if_pos h, if_neg (by omega), show ((p : Int) + 1) = ((p + 1 : Nat) : Int) from by omega, rp_behind B, List.all_cons, hd, Bool.true_and, vl_cons, List.length_cons, show p + 1 + B.length = p + (B.length + 1) from by omega]
    · have hd : isDg c = false := by
        unfold isDg
        rw [Bool.and_eq_false_iff]
        by_cases h1 : 48 ≤ c.toNat
        · exact .inr (decide_eq_false (fun h2 => h ⟨h1, h2⟩))
        · exact .inl (decide_eq_false h1)
      rw [if_neg h, List.all_cons, hd]
      rfl
theorem rp_ahead : ∀ (A R : List UInt8) (n k : Nat), (46 : UInt8) ∉ A → rp (A ++ R) n (-1) k = if A.all isDg then rp R (vl n A) (-1) (k + A.length) else none
  | [], R, n, k, _ => by simp [vl]
  | c :: A, R, n, k, h => by
    have h1 : c ≠ 46 := by intro e; exact h (by simp [e])
    have h2 : (46 : UInt8) ∉ A := fun e => h (by simp [e])
    have h3 : c.toNat ≠ 46 := by
      intro e
      apply h1
      exact UInt8.toNat_inj.1 e
    rw [List.cons_append, rp, if_neg (by omega)]
    by_cases h : 48 ≤ c.toNat ∧ c.toNat ≤ 57
    · have hd : isDg c = true := by simp [isDg, h]
      rw [if_pos h, if_pos (by omega), rp_ahead A R _ _ h2, List.all_cons, hd, Bool.true_and, vl_cons, List.length_cons, show k + 1 + A.length = k + (A.length + 1) from by omega]
    · have hd : isDg c = false := by
        unfold isDg
        rw [Bool.and_eq_false_iff]
        by_cases h1 : 48 ≤ c.toNat
        · exact .inr (decide_eq_false (fun h2 => h ⟨h1, h2⟩))
        · exact .inl (decide_eq_false h1)
      rw [if_neg h, List.all_cons, hd]
      rfl

/-- dec's reader, in these words. -/
theorem rdFrom_is : ∀ (L : List UInt8) (n : Nat), n < U64 → rdFrom (some n) L = if L.all isDg = true ∧ vl n L < U64 then some (vl n L) else none
  | [], n, h => by
    have e : vl n [] = n := rfl
    rw [e, if_pos ⟨rfl, h⟩]
    rfl
  | c :: L, n, h => by
    show rdFrom (rdStep (some n) c) L = _
    simp only [rdStep]
    rw [vl_cons]
    have hle := vl_le (c.toNat - 48 + 10 * n) L
    by_cases hc : 48 ≤ c.toNat ∧ c.toNat ≤ 57 ∧ n * 10 + (c.toNat - 48) < U64
    · have hd : isDg c = true := by simp [isDg, hc.1, hc.2.1]
      rw [if_pos hc, rdFrom_is L _ hc.2.2, List.all_cons, hd, Bool.true_and, show n * 10 + (c.toNat - 48) = c.toNat - 48 + 10 * n from by omega]
    · rw [if_neg hc, rdFrom_none, if_neg]
      rintro ⟨h1, h2⟩
      rw [List.all_cons, Bool.and_eq_true] at h1
      have h3 : 48 ≤ c.toNat ∧ c.toNat ≤ 57 := by simpa [isDg] using h1.1
      exact hc ⟨h3.1, h3.2, by omega⟩
theorem rdOk_is (L : List UInt8) : rdOk L = (L.all isDg && (decide (vl 0 L < U64) && !L.isEmpty)) := by
  unfold rdOk
  rw [rdFrom_is L 0 (by unfold U64; omega)]
  by_cases h : L.all isDg = true ∧ vl 0 L < U64
  · rw [if_pos h, h.1, decide_eq_true h.2]; rfl
  · rw [if_neg h]
    cases h1 : L.all isDg
    · rfl
    · rw [decide_eq_false (fun h2 => h ⟨h1, h2⟩)]; rfl
theorem rdV_is {L : List UInt8} (h : L.all isDg = true) (h2 : vl 0 L < U64) : rdV L = vl 0 L := by
  unfold rdV
  rw [rdFrom_is L 0 (by unfold U64; omega), if_pos ⟨h, h2⟩]
  rfl

/-- What is known when the letters have been read: is it a number, and which. -/
def rpOk (o : Option (Nat × Int × Nat)) : Bool := match o with | none => false | some (_, p, k) => !decide (k = 0) && (!decide (p = 0) && decide (p ≤ 6))
def rpN (o : Option (Nat × Int × Nat)) : Nat := match o with | none => 0 | some (n, p, _) => n * 10 ^ (6 - (max p 0).toNat)
/-- The document's Parse. -/
def rprsOk (L : List UInt8) : Bool := rpOk (rp (Lib.trimPrefix L [45]) 0 (-1) 0) && inR (sv (prsMi L) (rpN (rp (Lib.trimPrefix L [45]) 0 (-1) 0)))
def rprsV (L : List UInt8) : Int := if rprsOk L then sv (prsMi L) (rpN (rp (Lib.trimPrefix L [45]) 0 (-1) 0)) else 0

theorem inR_big (mi : Bool) (n : Nat) (h : U64 ≤ n) : inR (sv mi n) = false := by
  unfold U64 at h
  apply inR_no
  unfold sv
  cases mi
  · right; simp; omega
  · left; simp; omega

theorem six_more : 10 ^ (6 - (max (-1 : Int) 0).toNat) = 1000000 := by decide

theorem prs_is (L : List UInt8) : prsOk L = rprsOk L ∧ (rprsOk L = true → prsN L = rpN (rp (Lib.trimPrefix L [45]) 0 (-1) 0)) := by
  unfold prsOk rprsOk prsN prsA prsB
  obtain ⟨R, hR⟩ : ∃ R, Lib.trimPrefix L [45] = R := ⟨_, rfl⟩
  obtain ⟨mi, hmi⟩ : ∃ mi, prsMi L = mi := ⟨_, rfl⟩
  rw [hR, hmi]
  rcases cut_one 46 R with ⟨h1, h2⟩ | ⟨A, B, h1, h2, h3⟩
  · rw [h2]
    have e := rp_ahead R [] 0 0 h1
    rw [List.append_nil] at e
    rw [e]
    simp only [Bool.false_eq_true, if_false]
    have r48 : rdOk [48] = true := by decide
    have v48 : rdV [48] = 0 := by decide
    rw [r48, v48, rdOk_is]
    cases hd : R.all isDg
    · simp [rpOk]
    · simp only [rp, rpOk, rpN, if_true]
      by_cases hv : vl 0 R < U64
      · rw [rdV_is hd hv]
        have e2 : vl 0 R * 1000000 + 0 * 10 ^ (6 - [(48 : UInt8)].length) = vl 0 R * 10 ^ (6 - (max (-1 : Int) 0).toNat) := by rw [six_more]; simp
        rw [e2]
        refine ⟨?_, fun _ => rfl⟩
        obtain ⟨N, hN⟩ : ∃ N, vl 0 R * 10 ^ (6 - (max (-1 : Int) 0).toNat) = N := ⟨_, rfl⟩
        rw [hN, decide_eq_true hv]
        cases R with
        | nil => simp
        | cons c R =>
          simp only [List.isEmpty_cons, List.length_cons]
          by_cases hn : N < U64
          · simp [hn]
          · rw [inR_big mi N (by omega)]
            simp
      · have h6 : vl 0 R * 1000000 = vl 0 R * 10 ^ (6 - (max (-1 : Int) 0).toNat) := by rw [six_more]
        have hb := inR_big mi (vl 0 R * 10 ^ (6 - (max (-1 : Int) 0).toNat)) (by rw [← h6]; omega)
        rw [hb, decide_eq_false hv]
        simp
  · rw [h3, h1, rp_ahead A (46 :: B) 0 0 h2]
    simp only [if_true]
    rw [rdOk_is A]
    cases hd : A.all isDg
    · simp [rpOk]
    · simp only [if_true, rp]
      rw [if_pos ⟨by decide, by omega⟩, show (0 : Int) = ((0 : Nat) : Int) from rfl, rp_behind, rdOk_is B]
      cases hdb : B.all isDg
      · simp [rpOk]
      · simp only [if_true, rpOk, rpN]
        by_cases hl : B.length ≤ 6
        · have hvb : vl 0 B < U64 := by
            refine Nat.lt_of_lt_of_le (vl_lt hdb) ?_
            exact Nat.le_trans (Nat.pow_le_pow_right (by omega) hl) (by decide)
          have e0 : (max ((0 + B.length : Nat) : Int) 0).toNat = B.length := by omega
          rw [e0, rdV_is hdb hvb]
          have e1 : vl (vl 0 A) B * 10 ^ (6 - B.length) = vl 0 A * 1000000 + vl 0 B * 10 ^ (6 - B.length) := by
            rw [vl_split, Nat.add_mul, Nat.mul_assoc, ← Nat.pow_add, show B.length + (6 - B.length) = 6 from by omega]
          rw [e1]
          by_cases hv : vl 0 A < U64
          · rw [rdV_is hd hv]
            refine ⟨?_, fun _ => rfl⟩
            obtain ⟨N, hN⟩ : ∃ N, vl 0 A * 1000000 + vl 0 B * 10 ^ (6 - B.length) = N := ⟨_, rfl⟩
            rw [hN, decide_eq_true hv, decide_eq_true hvb, decide_eq_true hl]
            have hn : (decide (N < U64) && inR (sv mi N)) = inR (sv mi N) := by
              by_cases hn : N < U64
              · simp [hn]
              · rw [inR_big mi N (by omega)]; simp
            rw [Bool.true_and, Bool.true_and, Bool.true_and, Bool.true_and, hn]
            cases A with
            | nil => simp
            | cons a A =>
              cases B with
              | nil => simp
              | cons b B =>
                have t1 : ¬ (0 + (a :: A).length = 0) := by simp
                have t2 : ¬ (((0 + (b :: B).length : Nat) : Int) = 0) := by simp; omega
                have t3 : ((0 + (b :: B).length : Nat) : Int) ≤ 6 := by omega
                rw [decide_eq_false t1, decide_eq_false t2, decide_eq_true t3]
                rfl
          · have hb := inR_big mi (vl 0 A * 1000000 + vl 0 B * 10 ^ (6 - B.length)) (by omega)
            rw [hb, decide_eq_false hv]
            simp
        · have hl2 : ¬ (((0 + B.length : Nat) : Int) ≤ 6) := by omega
          rw [decide_eq_false hl, decide_eq_false hl2]
          simp
theorem prs_ok (L : List UInt8) : rprsOk L = prsOk L := (prs_is L).1.symm
theorem prs_v (L : List UInt8) : rprsV L = prsV L := by
  unfold rprsV prsV
  rw [(prs_is L).1]
  cases h : rprsOk L
  · rfl
  · simp only [if_true]
    rw [(prs_is L).2 h]

/-- The letters of digits read as what the digits come to. -/
theorem letter_toNat {d : Nat} (h : d < 10) : (UInt8.ofNat (48 + d)).toNat = 48 + d := by simp; omega
theorem letters_dg {D : List Nat} (h : ∀ d ∈ D, d < 10) : (lettersOf D).all isDg = true := by
  unfold lettersOf
  rw [List.all_eq_true]
  intro c hc
  obtain ⟨d, hd, rfl⟩ := List.mem_map.1 hc
  have := letter_toNat (h d hd)
  simp [isDg, this]
  have := h d hd
  omega
theorem vl_letters {D : List Nat} (h : ∀ d ∈ D, d < 10) : vl 0 (lettersOf D.reverse) = dval D := by
  induction D with
  | nil => rfl
  | cons d D ih =>
    have e : lettersOf (d :: D).reverse = lettersOf D.reverse ++ [UInt8.ofNat (48 + d)] := by simp [lettersOf]
    rw [e, vl_append, ih (fun x hx => h x (by simp [hx])), vl_cons, letter_toNat (h d (by simp))]
    simp [vl, dval]
theorem dgText_dg (n least : Nat) : (dgText n least).all isDg = true := letters_dg (fun d hd => padL_lt n least d (List.mem_reverse.1 hd))
theorem dval_pad (n least : Nat) : dval (padL n least) = n := by
  unfold padL
  rw [dval_append, dval_digs]
  have : dval (List.replicate (least - (digs n).length) 0) = 0 := by
    have := dval_zeros (least - (digs n).length) []
    simpa [dval] using this
  rw [this]
  simp
theorem dgText_vl (n least : Nat) : vl 0 (dgText n least) = n := by
  unfold dgText
  rw [vl_letters (padL_lt n least), dval_pad]
theorem dg_ne {L : List UInt8} (h : L.all isDg = true) {c : UInt8} (hc : c.toNat < 48) : c ∉ L := by
  intro hm
  rw [List.all_eq_true] at h
  have := h c hm
  simp [isDg] at this
  omega
theorem dgText_ne (n least : Nat) (hl : 0 < least) : dgText n least ≠ [] := by
  intro e
  have h1 := congrArg List.length e
  have h2 : (dgText n least).length = (padL n least).length := by simp [dgText, lettersOf]
  rw [h2, padL_len] at h1
  simp at h1
  omega
theorem dgText_six {n : Nat} (h : n < 1000000) : (dgText n 6).length = 6 := by
  have := digs_length_le (n := n) (k := 6) (by omega)
  simp [dgText, lettersOf, padL]
  omega
theorem vl_zeros (n g : Nat) : vl n (List.replicate g 48) = n * 10 ^ g := by
  induction g generalizing n with
  | zero => simp [vl]
  | succ g ih =>
    rw [List.replicate_succ, vl_cons, ih, Nat.pow_succ]
    have : (48 : UInt8).toNat - 48 + 10 * n = n * 10 := by simp; omega
    rw [this, Nat.mul_assoc, Nat.mul_comm 10]

theorem txt_ok (d : Int) (hlo : -9223372036854775808 ≤ d) (hhi : d ≤ 9223372036854775807) : rprsOk (txt d) = true ∧ rprsV (txt d) = d := by
  obtain ⟨a, ha⟩ : ∃ a, d.natAbs = a := ⟨_, rfl⟩
  obtain ⟨q, hq⟩ : ∃ q, a / 1000000 = q := ⟨_, rfl⟩
  obtain ⟨r, hr⟩ : ∃ r, a % 1000000 = r := ⟨_, rfl⟩
  have hr6 : r < 1000000 := by omega
  have haq : q * 1000000 + r = a := by omega
  obtain ⟨A, hA⟩ : ∃ A, dgText q 1 = A := ⟨_, rfl⟩
  have hAd : A.all isDg = true := by rw [← hA]; exact dgText_dg q 1
  have hAv : vl 0 A = q := by rw [← hA]; exact dgText_vl q 1
  have hAn : A ≠ [] := by rw [← hA]; exact dgText_ne q 1 (by omega)
  have hA46 : (46 : UInt8) ∉ A := dg_ne hAd (by decide)
  have hA45 : (45 : UInt8) ∉ A := dg_ne hAd (by decide)
  obtain ⟨F, hF⟩ : ∃ F, (if 0 < r then 46 :: Lib.trimRightB (dgText r 6) 48 else []) = F := ⟨_, rfl⟩
  have ht : txt d = (if d < 0 then [45] else []) ++ A ++ F := by
    unfold txt
    rw [ha, hq, hr, hA, hF]
  obtain ⟨c, A2, rfl⟩ : ∃ c A2, A = c :: A2 := by
    cases A with
    | nil => exact absurd rfl hAn
    | cons c A2 => exact ⟨c, A2, rfl⟩
  have hc45 : c ≠ 45 := by intro e; exact hA45 (by simp [e])
  have hmi : prsMi (txt d) = decide (d < 0) := by
    unfold prsMi Lib.hasPrefix
    rw [ht]
    by_cases h : d < 0
    · rw [if_pos h, decide_eq_true h]; simp
    · rw [if_neg h, decide_eq_false h]
      have hb : ((45 : UInt8) == c) = false := by rw [beq_eq_false_iff_ne]; exact Ne.symm hc45
      show ([45] : List UInt8).isPrefixOf (c :: (A2 ++ F)) = false
      simp only [List.isPrefixOf, hb, Bool.false_and]
  have htp : Lib.trimPrefix (txt d) [45] = (c :: A2) ++ F := by
    unfold Lib.trimPrefix
    have hm := hmi
    unfold prsMi at hm
    rw [hm, ht]
    by_cases h : d < 0
    · rw [if_pos (decide_eq_true h), if_pos h]; simp
    · rw [if_neg (by simpa using h), if_neg h]; simp
  have hrp : rpOk (rp ((c :: A2) ++ F) 0 (-1) 0) = true ∧ rpN (rp ((c :: A2) ++ F) 0 (-1) 0) = a := by
    rw [rp_ahead (c :: A2) F 0 0 hA46, hAd, hAv]
    simp only [if_true]
    rcases Nat.eq_zero_or_pos r with h0 | h0
    · rw [if_neg (by omega)] at hF
      subst hF
      refine ⟨by simp [rp, rpOk], ?_⟩
      have : q * 10 ^ (6 - (max (-1 : Int) 0).toNat) = q * 1000000 := by rw [six_more]
      simp only [rp, rpN]
      omega
    · rw [if_pos h0] at hF
      subst hF
      obtain ⟨T, hT⟩ : ∃ T, dgText r 6 = T := ⟨_, rfl⟩
      have hTd : T.all isDg = true := by rw [← hT]; exact dgText_dg r 6
      have hTv : vl 0 T = r := by rw [← hT]; exact dgText_vl r 6
      have hTl : T.length = 6 := by rw [← hT]; exact dgText_six hr6
      obtain ⟨C, y, hC, hy⟩ := trim_last T 48 (by rw [← hT]; exact dgText_some (by omega))
      obtain ⟨g, hg⟩ := trim_split T 48
      rw [hT]
      obtain ⟨B, hB⟩ : ∃ B, Lib.trimRightB T 48 = B := ⟨_, rfl⟩
      rw [hB] at hC hg ⊢
      have hBd : B.all isDg = true := by
        rw [hg, List.all_append, Bool.and_eq_true] at hTd
        exact hTd.1
      have hBg : B.length + g = 6 := by
        rw [← hTl, hg]; simp
      have hB1 : 1 ≤ B.length := by rw [hC]; simp
      have hBv : vl 0 B * 10 ^ g = r := by
        rw [← hTv, hg, vl_append, vl_zeros]
      rw [rp, if_pos ⟨by decide, by omega⟩, show (0 : Int) = ((0 : Nat) : Int) from rfl, rp_behind, hBd]
      simp only [if_true, rpOk, rpN]
      have e0 : (max ((0 + B.length : Nat) : Int) 0).toNat = B.length := by omega
      have t1 : ¬ (0 + (c :: A2).length = 0) := by simp
      have t2 : ¬ (((0 + B.length : Nat) : Int) = 0) := by omega
      have t3 : ((0 + B.length : Nat) : Int) ≤ 6 := by omega
      refine ⟨by rw [decide_eq_false t1, decide_eq_false t2, decide_eq_true t3]; rfl, ?_⟩
      rw [e0, vl_split, Nat.add_mul, Nat.mul_assoc, ← Nat.pow_add, show B.length + (6 - B.length) = 6 from by omega, show 6 - B.length = g from by omega, hBv]
      omega
  have hsv : sv (decide (d < 0)) a = d := by
    unfold sv
    by_cases h : d < 0
    · rw [decide_eq_true h]; simp; omega
    · rw [decide_eq_false h]; simp; omega
  have hok : rprsOk (txt d) = true := by
    unfold rprsOk
    rw [htp, hmi, hrp.1, hrp.2, hsv, inR_yes hlo hhi]
    rfl
  refine ⟨hok, ?_⟩
  unfold rprsV
  rw [hok, htp, hmi, hrp.2, hsv]
  rfl
theorem txt_prs (d : Int) (hlo : -9223372036854775808 ≤ d) (hhi : d ≤ 9223372036854775807) : prsV (txt d) = d ∧ prsOk (txt d) = true := by
  obtain ⟨h1, h2⟩ := txt_ok d hlo hhi
  rw [prs_ok] at h1
  rw [prs_v] at h2
  exact ⟨h2, h1⟩
end Go.Proofs.YtigmcoelkkihkaaGreatDoor
namespace Go.Proofs.YtigmcoelkkihkaaGreatDoor
open Go.RowKit

/-- What stands in the box of the number that is read: its sign, and its digits in memory of their own. -/
def PrW (B0 : Nat) (mi : Bool) (n : Nat) (k : Nat) (w0 w : World) : Prop :=
  ∃ p m cap, w.cell? ⟨B0, 0, none⟩ = some (.bool mi) ∧ w.cell? ⟨B0, 1, none⟩ = some (.slice p m cap) ∧ w.frozen? ⟨B0, 0, none⟩ = false ∧ w.frozen? ⟨B0, 1, none⟩ = false ∧
    RdN w p m cap (digs n) ∧ (∀ x, p = some x → B0 + 1 ≤ x.block) ∧ m ≤ k ∧ Below B0 w0 w ∧ B0 + 1 ≤ w.heap.size


/-- append to digits of the call's own, as one step of a region that draws. -/
theorem step_append_dig {P : Program} {ops : Array Oper} (w : World) {o : Oper} {a : Act} {K : Act → World → Prop} {Q : Exit → Act → World → Prop} {E : Prop} (hgd : o.guard = none) (s x : Operand) (t : TypeId)
    (ho : o.op = .call { callee := .builtin .append, args := #[s, x], argTypes := #[t, t] })
    (base : Nat) (e : TypeId) (i : TypeInfo) (ht : P.underlying t = some (.slice e)) (hi : P.info? e = some i) (hz : i.zero = some (.int .u8 0))
    (hsize : i.size = 1) (hby : i.bytes = 1) (v : Value) (n : Nat) (L : List Nat) (hs : a.eval s = v) (hown : w.ownsRow base e 1 v n (L.map U8))
    (q : Option Addr) (m cap : Nat) (B : List Nat) (hx : a.eval x = .slice q m cap) (hB : RdN w q m cap B) (h63 : n + m ≤ 1000000) (hbase : base ≤ w.heap.size)
    (h : ∀ v' w', w'.ownsRow base e 1 v' (n + m) ((L ++ B).map U8) → w.grownBy w' v.ownBlock → K (a.put o.dst v') w') :
    if Region.wanted o (yielded ops a.tmps) = true then Oper.wp P o a w K Q else E := by
  have hw : Region.wanted o (yielded ops a.tmps) = true := by simp [Region.wanted, hgd]
  rw [if_pos hw]
  obtain ⟨h1, h2, h3, h4, h5⟩ := hB
  rcases h5 with ⟨rfl, rfl, rfl⟩ | ⟨b, off, rfl, h7, h8⟩
  · have : B = [] := List.eq_nil_of_length_eq_zero h1
    subst this
    have hrun := run_append_owned_none (P := P) (w := w) base t o.type e i 1 ht hi v n (L.map U8) hown
    unfold Oper.wp
    simp [execOp, ho, resolve, invoke, builtin, hs, hx, hrun, Result.andThen]
    exact h v w (by simpa using hown) ⟨rfl, rfl, rfl, Nat.le_refl _, fun _ _ _ => rfl⟩
  · refine wp_append_own w s x t ho base e i (.int .u8 0) 1 1 ht hi hz hsize hby rfl (by decide) v n (L.map U8) hs hown ⟨b, off, none⟩ m cap (B.map U8) hx (by simp [h1]) ?_ ?_ (by unfold maxLen; omega) (by omega) hbase (fun v' w' r1 r2 _ => h v' w' (by simpa using r1) r2)
    · intro j u hj
      have hjl : j < B.length := by
        rcases Nat.lt_or_ge j B.length with h' | h'
        · exact h'
        · simp [h'] at hj
      have hj2 : some (Value.int .u8 (nth B j : Int)) = some u := by rw [← hj, nth_cell hjl]
      rw [← hj2]
      have e : (⟨b, off, none⟩ : Addr).add j = ⟨b, off + j, none⟩ := by
        unfold Addr.add
        split
        · rename_i h0; subst h0; rfl
        · rfl
      rw [e]
      exact h8 j (by omega)
    · intro u hu
      simp only [List.mem_map] at hu
      obtain ⟨d, _, rfl⟩ := hu
      rfl

/-- One digit ahead of a number's: its length. -/
theorem cons_len {d n m k : Nat} (hd : d < 10) (hm : (digs n).length = m) (h : m ≤ k) : (digs (d + 10 * n)).length ≤ k + 1 := by
  refine digs_length_le ?_
  have h1 := dval_lt (digs n) (digs_lt n)
  rw [dval_digs, hm] at h1
  have h2 : 10 ^ m ≤ 10 ^ k := Nat.pow_le_pow_right (by omega) h
  rw [Nat.pow_succ]
  omega
theorem PrW.next {B0 : Nat} {mi : Bool} {n k m d : Nat} {w0 wr w2 : World} {p p3 : Option Addr} {cap cap3 n4 : Nat} (hd : d < 10) (c0 : wr.cell? ⟨B0, 0, none⟩ = some (.bool mi)) (c1 : wr.cell? ⟨B0, 1, none⟩ = some (.slice p m cap)) (f0 : wr.frozen? ⟨B0, 0, none⟩ = false) (f1 : wr.frozen? ⟨B0, 1, none⟩ = false)
    (hrd : RdN wr p m cap (digs n)) (hm : m ≤ k) (hbel : Below B0 w0 wr) (hsz : B0 + 1 ≤ wr.heap.size) (hb2 : Below wr.heap.size wr w2) (hr4 : RdN w2 p3 n4 cap3 (digs (dval ([d] ++ digs n)))) (hf3 : ∀ x, p3 = some x → wr.heap.size ≤ x.block) :
    PrW B0 mi (d + 10 * n) (k + 1) w0 (w2.setCell ⟨B0, 1, none⟩ (.slice p3 n4 cap3)) := by
  have e : dval ([d] ++ digs n) = d + 10 * n := by simp [dval, dval_digs]
  rw [e] at hr4
  have hs2 := hb2.size
  have x0 : w2.cell? ⟨B0, 0, none⟩ = some (.bool mi) := (hb2.cell (p := ⟨B0, 0, none⟩) (by show B0 < _; omega)).trans c0
  have x1 : w2.cell? ⟨B0, 1, none⟩ = some (.slice p m cap) := (hb2.cell (p := ⟨B0, 1, none⟩) (by show B0 < _; omega)).trans c1
  have y0 : w2.frozen? ⟨B0, 0, none⟩ = false := (hb2.frozen (p := ⟨B0, 0, none⟩) (by show B0 < _; omega)).trans f0
  have y1 : w2.frozen? ⟨B0, 1, none⟩ = false := (hb2.frozen (p := ⟨B0, 1, none⟩) (by show B0 < _; omega)).trans f1
  refine ⟨p3, n4, cap3, by go_simp, by go_simp, by go_simp, by go_simp, hr4.stored _ _ (fun x hx => ?_), fun x hx => ?_, ?_, ?_, ?_⟩
  · have := hf3 x hx
    show x.block ≠ B0
    omega
  · have := hf3 x hx
    omega
  · rw [← hr4.len]
    exact cons_len hd hrd.len hm
  · exact (hbel.trans (hb2.mono (by omega))).setCell (Nat.le_refl _) _
  · simp only [World.size_setCell]
    omega
theorem rp_point {c : UInt8} {r : List UInt8} {n : Nat} {p : Int} {k : Nat} (h : c.toNat = 46) (hp : p < 0) : rp (c :: r) n p k = rp r n 0 k := by rw [rp, if_pos ⟨h, hp⟩]
theorem rp_bad {c : UInt8} {r : List UInt8} {n : Nat} {p : Int} {k : Nat} (h : ¬ (c.toNat = 46 ∧ p < 0)) (h2 : ¬ (48 ≤ c.toNat ∧ c.toNat ≤ 57)) : rp (c :: r) n p k = none := by rw [rp, if_neg h, if_neg h2]
theorem rp_ah {c : UInt8} {r : List UInt8} {n : Nat} {p : Int} {k d : Nat} (h : c.toNat = 48 + d) (h2 : d < 10) (hp : p < 0) : rp (c :: r) n p k = rp r (d + 10 * n) p (k + 1) := by
  rw [rp, if_neg (by omega), if_pos (by omega), if_pos hp, h, show 48 + d - 48 = d from by omega]
theorem rp_be {c : UInt8} {r : List UInt8} {n : Nat} {p : Int} {k d : Nat} (h : c.toNat = 48 + d) (h2 : d < 10) (hp : ¬ p < 0) : rp (c :: r) n p k = rp r (d + 10 * n) (p + 1) k := by
  rw [rp, if_neg (by omega), if_pos (by omega), if_neg hp, h, show 48 + d - 48 = d from by omega]

set_option maxRecDepth 100000 in
set_option maxHeartbeats 1000000 in
theorem refParse_any (s : ByteArray) (hs : s.size ≤ 900) (w : World) :
    Calls Tryz.prog 60 #[.string s] w fun e w' => e = .returned (.tuple #[.int .i64 (rprsV s.data.toList), .bool (rprsOk s.data.toList)]) ∧ Below w.heap.size w w' := by
  obtain ⟨i0, hi, hz0, hz1, hz2⟩ := info_parts info_u8
  have hl : s.data.toList.length = s.size := by rw [← Lib.size_eq]
  obtain ⟨mi, hmi⟩ : ∃ mi, prsMi s.data.toList = mi := ⟨_, rfl⟩
  obtain ⟨R, hR⟩ : ∃ R, Lib.trimPrefix s.data.toList [45] = R := ⟨_, rfl⟩
  have hRl : R.length ≤ 900 := by rw [← hR]; exact Nat.le_trans (trimPrefix_len _ _) (by omega)
  have HV : Hid (rprsOk s.data.toList = (rpOk (rp R 0 (-1) 0) && inR (sv mi (rpN (rp R 0 (-1) 0)))) ∧ rprsV s.data.toList = if (rpOk (rp R 0 (-1) 0) && inR (sv mi (rpN (rp R 0 (-1) 0)))) then sv mi (rpN (rp R 0 (-1) 0)) else 0) := by
    unfold Hid rprsV rprsOk
    rw [hR, hmi]
    exact ⟨rfl, rfl⟩
  obtain ⟨vV, hvV⟩ : ∃ x, rprsV s.data.toList = x := ⟨_, rfl⟩
  obtain ⟨vO, hvO⟩ : ∃ x, rprsOk s.data.toList = x := ⟨_, rfl⟩
  rw [hvV, hvO] at HV ⊢
  clear hvV hvO
  have HNO : Hid (rpOk (rp R 0 (-1) 0) = false → vO = false ∧ vV = 0) := by
    unfold Hid
    intro h
    have h2 := HV.out
    rw [h] at h2
    exact ⟨h2.1, by rw [h2.2]; rfl⟩
  have hcase : (s.size = 0 ∧ mi = false ∧ R = s.data.toList) ∨ (∃ h : 0 < s.size, (((s[0]'h).toNat : Int) == 45) = true ∧ mi = true ∧ s.extract 1 s.size = ⟨R.toArray⟩) ∨ (∃ h : 0 < s.size, (((s[0]'h).toNat : Int) == 45) = false ∧ mi = false ∧ R = s.data.toList) := by
    cases hL : s.data.toList with
    | nil =>
      rw [hL] at hmi hR hl
      exact .inl ⟨hl.symm, hmi.symm, hR.symm⟩
    | cons c r =>
      rw [hL] at hmi hR hl
      have hsz : 0 < s.size := by rw [← hl]; simp
      have h0 : (s[0]'hsz) = c := by
        have h1 : s.data.toList[0]? = some c := by rw [hL]; rfl
        rw [ByteArray.getElem_eq_getElem_data]
        have h2 : s.data[0]? = some c := by simpa using h1
        have h3 : 0 < s.data.size := hsz
        rw [Array.getElem?_eq_getElem h3] at h2
        exact Option.some.inj h2
      have hd : ∀ b : Bool, (c == 45) = b → (((c.toNat : Nat) : Int) == 45) = b := by
        intro b hb
        rw [← hb, Bool.eq_iff_iff, beq_iff_eq, beq_iff_eq]
        constructor
        · intro h
          exact UInt8.toNat_inj.1 (by simpa using (by omega : c.toNat = 45))
        · intro h
          subst h
          rfl
      have hp : Lib.hasPrefix (c :: r) [45] = (c == 45) := by
        unfold Lib.hasPrefix
        by_cases h : c = 45
        · subst h; simp [List.isPrefixOf]
        · have h2 : ((45 : UInt8) == c) = false := by rw [beq_eq_false_iff_ne]; exact Ne.symm h
          have h3 : (c == (45 : UInt8)) = false := by rw [beq_eq_false_iff_ne]; exact h
          simp only [List.isPrefixOf, h2, h3, Bool.false_and]
      unfold prsMi at hmi
      unfold Lib.trimPrefix at hR
      rw [hp] at hmi hR
      cases hc : (c == 45)
      · rw [hc] at hmi hR
        exact .inr (.inr ⟨hsz, by rw [h0]; exact hd _ hc, hmi.symm, hR.symm⟩)
      · rw [hc] at hmi hR
        refine .inr (.inl ⟨hsz, by rw [h0]; exact hd _ hc, hmi.symm, ?_⟩)
        rw [← hR]
        apply ByteArray.ext
        apply Array.ext'
        rw [ByteArray.data_extract, Array.toList_extract, List.extract_eq_take_drop, hL, ← hl]
        simp
  have HR := Lib.hid hR
  clear hmi hR hl
  obtain ⟨t, ht⟩ : ∃ t : ByteArray, t = ⟨R.toArray⟩ := ⟨_, rfl⟩
  have HT := Lib.hid ht
  have htl : t.size = R.length := by rw [ht, Lib.size_eq]
  have hst : R = s.data.toList → s = t := fun h => by rw [ht, h]
  have HST := Lib.hid hst
  clear ht hst
  go_enter Tryz.func60, Tryz.ntmps60
  have hcon : (mi = true ∧ 1 ≤ s.size ∧ s.extract 1 s.size = t) ∨ (mi = false ∧ s = t) := by
    rcases hcase with ⟨h0, h1, hRs⟩ | ⟨h0, hb, h1, hRs⟩ | ⟨h0, hb, h1, hRs⟩
    · exact .inr ⟨h1, HST.out hRs⟩
    · exact .inl ⟨h1, by omega, by rw [hRs, HT.out]⟩
    · exact .inr ⟨h1, HST.out hRs⟩
  have HCON := Lib.hid hcon
  clear hcon
  go_upto_region 2 with fail
  go_cut [0, 19] (fun v0 v19 wx => v0 = .string s ∧ v19 = .bool mi ∧ wx = w.alloc (.cells #[.bool false, .slice none 0 0] 115))
  case first =>
    rcases hcase with ⟨h0, rfl, hRs⟩ | ⟨h0, hb, rfl, hRs⟩ | ⟨h0, hb, rfl, hRs⟩
    · go_wp2_with fail
      go_meet
      exact ⟨rfl, rfl, rfl⟩
    · have g0 : (0 : Int) < (s.size : Int) := by omega
      go_wp2_with fail
      go_meet
      exact ⟨rfl, rfl, rfl⟩
    · have g0 : (0 : Int) < (s.size : Int) := by omega
      go_wp2_with fail
      go_meet
      exact ⟨rfl, rfl, rfl⟩
  case rest =>
    obtain ⟨rfl, rfl, rfl⟩ := hcut
    clear hcase
    go_upto_if 19 with fail
    go_cut [0] (fun v0 wx => v0 = .string t ∧ PrW w.heap.size mi 0 0 w wx)
    case first =>
      rcases HCON.out with ⟨rfl, h1, h2⟩ | ⟨rfl, rfl⟩
      · have g0 : (1 : Int) ≤ (s.size : Int) := by omega
        have H2 := Lib.hid h2
        clear h2
        go_wp2_with fail
        go_meet
        exact ⟨by rw [H2.out], none, 0, 0, by go_simp, by go_simp, by go_simp, by go_simp, by rw [digs_zero]; exact RdN.nil _, (fun x hx => nomatch hx), Nat.le_refl _, Below.alloc (Below.refl _ _) (Nat.le_refl _) _, by rw [World.size_alloc]; exact Nat.le_refl _⟩
      · go_wp2_with fail
        go_meet
        exact ⟨rfl, none, 0, 0, by go_simp, by go_simp, by go_simp, by go_simp, by rw [digs_zero]; exact RdN.nil _, (fun x hx => nomatch hx), Nat.le_refl _, Below.alloc (Below.refl _ _) (Nat.le_refl _) _, by rw [World.size_alloc]; exact Nat.le_refl _⟩
    case rest =>
      obtain ⟨rfl, p0, m0, cap0, c0, c1, f0, f1, hrd, hfr, hm0, hbel, hsz⟩ := hcut
      have HRD := Lib.hid hrd
      have HFR := Lib.hid hfr
      clear hrd hfr
      go_upto_region 6 with fail
      go_wp2_with fail
      go_loopg [5, 6, 7] R.length (fun g v5 v6 v7 wr => ∃ (i n k : Nat) (p : Int), i + g = R.length ∧ v7 = .int .i64 i ∧ v5 = .int .i64 p ∧ v6 = .int .i64 k ∧ -1 ≤ p ∧ p ≤ i ∧ k ≤ i ∧ rp R 0 (-1) 0 = rp (R.drop i) n p k ∧ PrW w.heap.size mi n i w wr)
      case atStart => exact ⟨0, 0, 0, -1, by omega, rfl, rfl, rfl, by omega, by omega, by omega, rfl, p0, m0, cap0, c0, c1, f0, f1, HRD.out, HFR.out, hm0, hbel, hsz⟩
      case round =>
        clear c0 c1 f0 f1 HRD HFR hm0 hbel hsz
        obtain ⟨i, n, k, q, hig, rfl, rfl, rfl, hq1, hq2, hk, hrp, p, m, cap, c0, c1, f0, f1, hrd, hfr, hm, hbel, hsz⟩ := hrel
        have HRP := Lib.hid hrp
        have HRD := Lib.hid hrd
        have HFR := Lib.hid hfr
        clear hrp hrd hfr
        by_cases hgo : i < R.length
        · obtain ⟨c, hc⟩ : ∃ c, R[i] = c := ⟨_, rfl⟩
          have hdr : R.drop i = c :: R.drop (i + 1) := by rw [List.drop_eq_getElem_cons hgo, hc]
          have hit : i < t.size := by omega
          obtain ⟨b, hb⟩ : ∃ b : Nat, c.toNat = b := ⟨_, rfl⟩
          have hby : ((t[i]'hit).toNat : Int) = (b : Int) := by
            have h1 := HT.out
            subst h1
            rw [← hb, ← hc]
            simp [ByteArray.getElem_eq_getElem_data]
          have hgo' : (i : Int) < (t.size : Int) := by omega
          have HB := Lib.hid hb
          have HDR := Lib.hid hdr
          clear hb hdr hc
          rcases Nat.lt_or_ge b 48 with h48 | h48
          · -- no digit, below
            have g48 : ((t[i]'hit).toNat : Int) < 48 := by omega
            by_cases h46 : b = 46
            · have e46 : (((t[i]'hit).toNat : Int) == 46) = true := by rw [hby, h46]; first | done | rfl
              by_cases hq0 : q < 0
              · have hnx : Hid (rp R 0 (-1) 0 = rp (R.drop (i + 1)) n 0 k) := by unfold Hid; rw [HRP.out, HDR.out]; exact rp_point (by rw [HB.out, h46]) hq0
                clear hby h46 h48
                go_wp2
                go_roundg (gk - 1)
                case measure => omega
                case rel => exact ⟨i + 1, n, k, 0, by omega, by go_num, rfl, rfl, by omega, by omega, by omega, hnx.out, p, m, cap, c0, c1, f0, f1, HRD.out, HFR.out, by omega, hbel, hsz⟩
              · have hnx := HNO.out (by rw [HRP.out, HDR.out, rp_bad (by omega) (by rw [HB.out]; omega)]; rfl)
                have HNX := Lib.hid hnx
                clear hby h46 h48 hnx
                go_wp2
                go_ret2
                exact ⟨by rw [HNX.out.1, HNX.out.2]; rfl, hbel⟩
            · have e46 : (((t[i]'hit).toNat : Int) == 46) = false := by rw [hby]; simp; omega
              have hnx := HNO.out (by rw [HRP.out, HDR.out, rp_bad (by rw [HB.out]; omega) (by rw [HB.out]; omega)]; rfl)
              have HNX := Lib.hid hnx
              clear hby h46 h48 hnx
              go_wp2
              go_ret2
              exact ⟨by rw [HNX.out.1, HNX.out.2]; rfl, hbel⟩
          · have e46 : (((t[i]'hit).toNat : Int) == 46) = false := by rw [hby]; simp; omega
            have g48 : ¬ ((t[i]'hit).toNat : Int) < 48 := by omega
            rcases Nat.lt_or_ge 57 b with h57 | h57
            · have g57 : (57 : Int) < ((t[i]'hit).toNat : Int) := by omega
              have hnx := HNO.out (by rw [HRP.out, HDR.out, rp_bad (by rw [HB.out]; omega) (by rw [HB.out]; omega)]; rfl)
              have HNX := Lib.hid hnx
              clear hby h57 h48 hnx
              go_wp2
              go_ret2
              exact ⟨by rw [HNX.out.1, HNX.out.2]; rfl, hbel⟩
            · have g57 : ¬ (57 : Int) < ((t[i]'hit).toNat : Int) := by omega
              obtain ⟨d, rfl⟩ : ∃ d, b = 48 + d := ⟨b - 48, by omega⟩
              have hd10 : d < 10 := by omega
              have hwr : IntKind.u8.wrap (((t[i]'hit).toNat : Int) - 48) = (d : Int) := by
                rw [hby, IntWalk.u8_in _ (by omega)]
                omega
              clear hby h57 h48
              by_cases hq0 : q < 0
              · have hnx : Hid (rp R 0 (-1) 0 = rp (R.drop (i + 1)) (d + 10 * n) q (k + 1)) := by unfold Hid; rw [HRP.out, HDR.out]; exact rp_ah HB.out hd10 hq0
                go_wp2_with fail
                go_region_law (first
                  | (go_simp
                     go_at_call 83
                     refine (cut_any _ _ _ _ (by omega) _ HR3.out).mono ?_
                     rintro e' w3 ⟨n4, rfl, hr4, rfl⟩
                     have HR4 := Lib.hid hr4
                     clear hr4
                     go_simp)
                  | (refine step_append_dig _ (by rfl) _ _ _ (by rfl) wr.heap.size 5 i0 Tryz.underlying113 hi hz0 hz1 hz2 _ 1 [d] (by rfl) (own_new wr.drew d _) p m cap (digs n) (by rfl) ((HRD.out.below (Below.drew (Below.refl _ _))).alloc _) (by omega) (by simp) ?_
                     intro v' w2 hown2 hgrow2
                     obtain ⟨p3, cap3, rfl, hr3, hf3⟩ := own_cells (L := [d] ++ digs n) hown2 (fun z hz => by rcases List.mem_append.1 hz with h | h; simp at h; omega; exact digs_lt n z h)
                     have hb2 : Below wr.heap.size wr w2 := (((Below.refl _ _).drew).alloc (Nat.le_refl _) _).grown hgrow2 (by simp) (fun k h => by cases h; exact Nat.le_refl _)
                     have HR3 := Lib.hid hr3
                     have HF3 := Lib.hid hf3
                     obtain ⟨hc2, hfz2, hs2⟩ := bcell hb2 rfl
                     clear hr3 hf3 hown2 hgrow2))
                all_goals
                  go_wp2_with fail
                  go_roundg (gk - 1)
                  case measure => omega
                  case rel => exact ⟨i + 1, d + 10 * n, k + 1, q, by omega, by go_num, rfl, by go_num, by omega, by omega, by omega, hnx.out, PrW.next hd10 c0 c1 f0 f1 HRD.out hm hbel hsz hb2 HR4.out HF3.out⟩
              · have hnx : Hid (rp R 0 (-1) 0 = rp (R.drop (i + 1)) (d + 10 * n) (q + 1) k) := by unfold Hid; rw [HRP.out, HDR.out]; exact rp_be HB.out hd10 hq0
                go_wp2_with fail
                go_region_law (first
                  | (go_simp
                     go_at_call 83
                     refine (cut_any _ _ _ _ (by omega) _ HR3.out).mono ?_
                     rintro e' w3 ⟨n4, rfl, hr4, rfl⟩
                     have HR4 := Lib.hid hr4
                     clear hr4
                     go_simp)
                  | (refine step_append_dig _ (by rfl) _ _ _ (by rfl) wr.heap.size 5 i0 Tryz.underlying113 hi hz0 hz1 hz2 _ 1 [d] (by rfl) (own_new wr.drew d _) p m cap (digs n) (by rfl) ((HRD.out.below (Below.drew (Below.refl _ _))).alloc _) (by omega) (by simp) ?_
                     intro v' w2 hown2 hgrow2
                     obtain ⟨p3, cap3, rfl, hr3, hf3⟩ := own_cells (L := [d] ++ digs n) hown2 (fun z hz => by rcases List.mem_append.1 hz with h | h; simp at h; omega; exact digs_lt n z h)
                     have hb2 : Below wr.heap.size wr w2 := (((Below.refl _ _).drew).alloc (Nat.le_refl _) _).grown hgrow2 (by simp) (fun k h => by cases h; exact Nat.le_refl _)
                     have HR3 := Lib.hid hr3
                     have HF3 := Lib.hid hf3
                     obtain ⟨hc2, hfz2, hs2⟩ := bcell hb2 rfl
                     clear hr3 hf3 hown2 hgrow2))
                all_goals
                  go_wp2_with fail
                  go_roundg (gk - 1)
                  case measure => omega
                  case rel => exact ⟨i + 1, d + 10 * n, k, q + 1, by omega, by go_num, by go_num, rfl, by omega, by omega, by omega, hnx.out, PrW.next hd10 c0 c1 f0 f1 HRD.out hm hbel hsz hb2 HR4.out HF3.out⟩
        · have hiR : i = R.length := by omega
          have hend : rp R 0 (-1) 0 = some (n, q, k) := by rw [HRP.out, List.drop_of_length_le (by omega)]; rfl
          have hgo' : ¬ (i : Int) < (t.size : Int) := by omega
          by_cases hbad : k = 0 ∨ q = 0 ∨ 6 < q
          · have hnx := HNO.out (by
              rw [hend]
              unfold rpOk
              rcases hbad with h | h | h
              · simp [h]
              · simp [h]
              · simp; omega)
            have HNX := Lib.hid hnx
            clear hnx hend
            by_cases hk0 : k = 0
            · have ek : ((k : Int) == 0) = true := by simp [hk0]
              clear hbad hk0
              go_wp2
              go_ret2
              exact ⟨by rw [HNX.out.1, HNX.out.2]; rfl, hbel⟩
            · have ek : ((k : Int) == 0) = false := by simp; omega
              by_cases hq0 : q = 0
              · have eq0 : (q == 0) = true := by simp [hq0]
                clear hbad
                go_wp2
                go_ret2
                exact ⟨by rw [HNX.out.1, HNX.out.2]; rfl, hbel⟩
              · have eq0 : (q == 0) = false := by simp [hq0]
                have hq6 : 6 < q := by omega
                clear hbad
                go_wp2
                go_ret2
                exact ⟨by rw [HNX.out.1, HNX.out.2]; rfl, hbel⟩
          · obtain ⟨G, hG⟩ : ∃ G : Nat, 6 - (max q 0).toNat = G := ⟨_, rfl⟩
            obtain ⟨a0, ha0⟩ : ∃ a0 : Nat, (max q 0).toNat = a0 := ⟨_, rfl⟩
            have hmax : max q 0 = (a0 : Int) := by omega
            have haG : a0 + G = 6 := by omega
            have ek : ((k : Int) == 0) = false := by simp; omega
            have eq0 : (q == 0) = false := by simp; omega
            have hq6 : ¬ 6 < q := by omega
            have hfin : toV mi (n * 10 ^ G) = vV ∧ (toE mi (n * 10 ^ G) == 0) = vO := by
              have h := HV.out
              rw [hend] at h
              have h1 : rpOk (some (n, q, k)) = true := by
                unfold rpOk
                simp only [Bool.and_eq_true, Bool.not_eq_true', decide_eq_false_iff_not, decide_eq_true_eq]
                omega
              have h2 : rpN (some (n, q, k)) = n * 10 ^ G := by unfold rpN; rw [← hG]
              rw [h1, h2, Bool.true_and] at h
              obtain ⟨h3, h4⟩ := h
              rw [toV_is, toE_is, h3, h4]
              unfold okV okE
              exact ⟨rfl, by cases inR (sv mi (n * 10 ^ G)) <;> rfl⟩
            have HFIN := Lib.hid hfin
            have HG := Lib.hid hG
            obtain ⟨n0, hn0⟩ : ∃ n0, n0 = n := ⟨_, rfl⟩
            have HN0 := Lib.hid hn0
            rw [← hn0] at HFIN
            have hq66 : q ≤ 6 := by omega
            clear hbad hend hfin hG ha0
            go_wp2_with fail
            go_loopg [8] G (fun g v8 wr => ∃ (z n2 : Nat), z + g = 6 ∧ g ≤ G ∧ v8 = .int .i64 z ∧ n2 = n0 * 10 ^ (G - g) ∧ PrW w.heap.size mi n2 (R.length + (G - g)) w wr)
            case atStart => exact ⟨a0, n, by omega, Nat.le_refl _, rfl, by rw [Nat.sub_self, HN0.out]; simp, p, m, cap, c0, c1, f0, f1, HRD.out, HFR.out, by omega, hbel, hsz⟩
            case round =>
              clear c0 c1 f0 f1 HRD HFR hm hbel hsz HRP HN0
              obtain ⟨z, n, hzg, hgG, rfl, hn2, p, m, cap, c0, c1, f0, f1, hrd, hfr, hm, hbel, hsz⟩ := hrel
              have HRD := Lib.hid hrd
              have HFR := Lib.hid hfr
              have HN2 := Lib.hid hn2
              clear hrd hfr hn2
              by_cases hk0 : gk = 0
              · subst hk0
                have hz6 : z = 6 := by omega
                subst hz6
                have hN : Hid (n = n0 * 10 ^ G) := by unfold Hid; rw [HN2.out, Nat.sub_zero]
                go_wp2_with fail
                refine (to_wide mi p m cap n (by omega) _ HRD.out).mono ?_
                rintro e w3 ⟨rfl, hb3⟩
                rw [hN.out, HFIN.out.1]
                obtain ⟨vE, hvE⟩ : ∃ x, toE mi (n0 * 10 ^ G) = x := ⟨_, rfl⟩
                have hO := HFIN.out.2
                rw [hvE] at hO ⊢
                have HO := Lib.hid hO
                clear hO hvE
                go_wp2_with fail
                go_ret2
                exact ⟨by rw [← HO.out]; rfl, bel_call hb3 hbel (by omega)⟩
              · have hz6 : (z : Int) < 6 := by omega
                go_wp2_with (at_builtin; refine wpList_append_dig _ rfl (.tmp 79) (.tmp 81) _ rfl wr.heap.size 5 i0 Tryz.underlying113 hi hz0 hz1 hz2 _ 1 [0] rfl (own_new wr 0 _) p m cap (digs n) rfl (HRD.out.alloc _) (by omega) (by simp) ?_; intro v' w2 hown2 hgrow2)
                obtain ⟨p3, cap3, rfl, hr3, hf3⟩ := own_cells (L := [0] ++ digs n) hown2 (fun z hz => by rcases List.mem_append.1 hz with h | h; simp at h; omega; exact digs_lt n z h)
                have hb2 : Below wr.heap.size wr w2 := ((Below.refl _ _).alloc (Nat.le_refl _) _).grown hgrow2 (by simp) (fun k h => by cases h; exact Nat.le_refl _)
                have HR3 := Lib.hid hr3
                have HF3 := Lib.hid hf3
                obtain ⟨hc2, hfz2, hs2⟩ := bcell hb2 rfl
                clear hr3 hf3 hown2 hgrow2
                refine (cut_any _ _ _ _ (by omega) _ HR3.out).mono ?_
                rintro e' w3 ⟨n4, rfl, hr4, rfl⟩
                have HR4 := Lib.hid hr4
                clear hr4
                all_goals
                  go_wp2_with fail
                  go_roundg (gk - 1)
                  case measure => omega
                  case rel => exact ⟨z + 1, 0 + 10 * n, by omega, by omega, by go_num, by rw [HN2.out, show G - (gk - 1) = G - gk + 1 from by omega, Nat.pow_succ, Nat.zero_add, Nat.mul_comm 10, Nat.mul_assoc], by
                    have h := PrW.next (d := 0) (by omega) c0 c1 f0 f1 HRD.out hm hbel hsz hb2 HR4.out HF3.out
                    rw [show R.length + (G - gk) + 1 = R.length + (G - (gk - 1)) from by omega] at h
                    exact h⟩
end Go.Proofs.YtigmcoelkkihkaaGreatDoor
