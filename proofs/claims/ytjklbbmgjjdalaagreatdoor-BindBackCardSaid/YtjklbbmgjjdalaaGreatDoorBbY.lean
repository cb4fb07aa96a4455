/- Trees over cells by stamps, taken from bytes: bind.take: the walk. Printed by gen_tnd.py. Trees over cells by stamps: what the document's reader takes (plain), and that the program's take is the same with the stamps' check. -/
import Derived.Test.YtjklbbmgjjdalaaGreatDoorBbM
import Derived.Deep.CutBlock
import Derived.Test.YtjklbbmgjjdalaaGreatDoorBbO
set_option linter.unusedSimpArgs false
set_option linter.unusedVariables false
namespace Go.Proofs.YtjklbbmgjjdalaaGreatDoor.Bd
open Go.RowKit Go.Joins
abbrev bnZ : Bn := .mk 0 0 [] rfZ rfZ []
theorem Off.low {b : Nat} {w w' : World} (h : Off b w w') {N : Nat} (hb : N ≤ b) (hN : N ≤ w.heap.size) : Below N w w' := h.below hb hN
set_option maxRecDepth 100000 in
set_option maxHeartbeats 1000000 in
theorem take_res (ts : Array Value) (W : World) (H : Nat) (h4 : ts[4]? = some (.pointer (some ⟨H, 0, none⟩))) (h5 : ts[5]? = some (.bool false)) (e0 : W.cell? ⟨H, 0, none⟩ = some (.int .i64 0)) (e1 : W.cell? ⟨H, 1, none⟩ = some (.int .i64 0)) (e2 : W.cell? ⟨H, 2, none⟩ = some (.string ⟨#[]⟩))
    (e3 : W.cell? ⟨H, 3, none⟩ = some (.int .u64 0)) (e4 : W.cell? ⟨H, 4, none⟩ = some (.int .i64 0)) (e5 : W.cell? ⟨H, 5, none⟩ = some (.int .u64 0)) (e6 : W.cell? ⟨H, 6, none⟩ = some (.int .i64 0)) (e7 : W.cell? ⟨H, 7, none⟩ = some (.int .u64 0)) (e8 : W.cell? ⟨H, 8, none⟩ = some (.int .i64 0)) (e9 : W.cell? ⟨H, 9, none⟩ = some (.int .u64 0)) (e10 : W.cell? ⟨H, 10, none⟩ = some (.int .i64 0)) (e11 : W.cell? ⟨H, 11, none⟩ = some (.slice none 0 0)) :
    (results Tryz.f43 ts).run Tryz.prog W = .ok (.tuple #[.agg #[.int .i64 0, .int .i64 0, .string ⟨#[]⟩, .int .u64 0, .int .i64 0, .int .u64 0, .int .i64 0, .int .u64 0, .int .i64 0, .int .u64 0, .int .i64 0, .slice none 0 0], .bool false]) W := by
  have g4 : ts[4]?.getD undef = .pointer (some ⟨H, 0, none⟩) := by rw [h4]; rfl
  have g5 : ts[5]?.getD undef = .bool false := by rw [h5]; rfl
  simp only [results, Tryz.results43]
  go_simp
theorem bn_set1 (k : Nat) (z : Int) : (bnA (.mk k 0 [] rfZ rfZ []) none 0 0).setIfInBounds 1 (.int .i64 z) = bnA (.mk k z [] rfZ rfZ []) none 0 0 := rfl
set_option maxRecDepth 100000 in
set_option maxHeartbeats 32000000 in
theorem take_s (d : Nat) (hd64 : d ≤ 64) (IH : ∀ d', d = d' + 1 → TakeC d') : TakeC d := by
  intro b S w hrd
  have hA0 : Hid (BlkC (w.alloc (.cells (bnA bnZ none 0 0) tNr)) w.heap.size (bnA bnZ none 0 0) tNr) := heap_alloc_new w _
  have hAB : Below w.heap.size w (w.alloc (.cells (bnA bnZ none 0 0) tNr)) := by (repeat' (first | (with_reducible exact Below.refl _ _) | (with_reducible assumption) | (with_reducible refine Below.alloc ?_ ?_ _) | (with_reducible refine bel_drewN ?_ _) | (with_reducible refine Below.drew ?_) | (with_reducible refine Below.setCell ?_ ?_ _) | (with_reducible refine bel_call ‹_› ?_ ?_) | go_size))
  have hR0 := Lib.hid (hrd.below hAB)
  have hO0 := Lib.hid (Off.of_below (b := b) hAB)
  have hlt := hrd.lt
  have HIH := Lib.hid IH
  obtain ⟨O, hO⟩ : ∃ O, S.bind (tkN d) = O := ⟨_, rfl⟩
  have HO := Lib.hid hO
  rw [hO]
  clear hO hrd hAB IH
  go_enter Tryz.func43, Tryz.ntmps43
  go_upto_region 1 with fail
  have e0 : w.alloc (.cells #[.int .i64 0, .int .i64 0, .string ⟨#[]⟩, .int .u64 0, .int .i64 0, .int .u64 0, .int .i64 0, .int .u64 0, .int .i64 0, .int .u64 0, .int .i64 0, .slice none 0 0] tNr) = w.alloc (.cells (bnA bnZ none 0 0) tNr) := rfl
  rw [e0]
  clear e0
  generalize w.alloc (.cells (bnA bnZ none 0 0) tNr) = w0 at hA0 hR0 hO0 ⊢
  cases d with
  | zero =>
    have HON : Hid (O = none) := by unfold Hid; rw [← HO.out]; cases S <;> rfl
    clear HO HIH
    go_upto_region 2 with fail
    refine wp_region_lit ?_
    refine wpList_plain rfl fun K hK => ?_
    go_simp
    refine hK _ _ ?_
    clear hK K
    refine wpList_store_mid (by rfl) _ _ _ (by rfl) w.heap.size 0 #[.int .i64 0, .int .i64 0, .string ⟨#[]⟩, .int .u64 0, .int .i64 0, .int .u64 0, .int .i64 0, .int .u64 0, .int .i64 0, .int .u64 0, .int .i64 0, .slice none 0 0] (by rfl) (by rfl) (block_there hA0.out 12 (Nat.le_refl _)) (by kernel_rfl) (by simp [Value.oneCell']) ?_
    have hs8 : Hid (BlkC (w0.setCells w.heap.size 0 #[.int .i64 0, .int .i64 0, .string ⟨#[]⟩, .int .u64 0, .int .i64 0, .int .u64 0, .int .i64 0, .int .u64 0, .int .i64 0, .int .u64 0, .int .i64 0, .slice none 0 0].toList) w.heap.size #[.int .i64 0, .int .i64 0, .string ⟨#[]⟩, .int .u64 0, .int .i64 0, .int .u64 0, .int .i64 0, .int .u64 0, .int .i64 0, .int .u64 0, .int .i64 0, .slice none 0 0] tNr) := store_block hA0.out _ rfl
    have ho8 : Hid (Off b w (w0.setCells w.heap.size 0 #[.int .i64 0, .int .i64 0, .string ⟨#[]⟩, .int .u64 0, .int .i64 0, .int .u64 0, .int .i64 0, .int .u64 0, .int .i64 0, .int .u64 0, .int .i64 0, .slice none 0 0].toList)) := hO0.out.set_cells (Nat.le_refl _) _ _
    generalize w0.setCells w.heap.size 0 #[.int .i64 0, .int .i64 0, .string ⟨#[]⟩, .int .u64 0, .int .i64 0, .int .u64 0, .int .i64 0, .int .u64 0, .int .i64 0, .int .u64 0, .int .i64 0, .slice none 0 0].toList = w9 at hs8 ho8 ⊢
    go_simp
    iterate 6 (first | go_values | go_skip | go_guarded | go_step | go_upon)
    apply wp_ret
    try simp only [Exit.inBlock, Exit.then]
    have e0 : w9.cell? ⟨w.heap.size, 0, none⟩ = some (.int .i64 0) := hs8.out.cell 0 _ rfl
    have e1 : w9.cell? ⟨w.heap.size, 1, none⟩ = some (.int .i64 0) := hs8.out.cell 1 _ rfl
    have e2 : w9.cell? ⟨w.heap.size, 2, none⟩ = some (.string ⟨#[]⟩) := hs8.out.cell 2 _ rfl
    have e3 : w9.cell? ⟨w.heap.size, 3, none⟩ = some (.int .u64 0) := hs8.out.cell 3 _ rfl
    have e4 : w9.cell? ⟨w.heap.size, 4, none⟩ = some (.int .i64 0) := hs8.out.cell 4 _ rfl
    have e5 : w9.cell? ⟨w.heap.size, 5, none⟩ = some (.int .u64 0) := hs8.out.cell 5 _ rfl
    have e6 : w9.cell? ⟨w.heap.size, 6, none⟩ = some (.int .i64 0) := hs8.out.cell 6 _ rfl
    have e7 : w9.cell? ⟨w.heap.size, 7, none⟩ = some (.int .u64 0) := hs8.out.cell 7 _ rfl
    have e8 : w9.cell? ⟨w.heap.size, 8, none⟩ = some (.int .i64 0) := hs8.out.cell 8 _ rfl
    have e9 : w9.cell? ⟨w.heap.size, 9, none⟩ = some (.int .u64 0) := hs8.out.cell 9 _ rfl
    have e10 : w9.cell? ⟨w.heap.size, 10, none⟩ = some (.int .i64 0) := hs8.out.cell 10 _ rfl
    have e11 : w9.cell? ⟨w.heap.size, 11, none⟩ = some (.slice none 0 0) := hs8.out.cell 11 _ rfl
    refine bodyPost_ret (v := .tuple #[.agg #[.int .i64 0, .int .i64 0, .string ⟨#[]⟩, .int .u64 0, .int .i64 0, .int .u64 0, .int .i64 0, .int .u64 0, .int .i64 0, .int .u64 0, .int .i64 0, .slice none 0 0], .bool false]) (take_res _ _ _ rfl rfl e0 e1 e2 e3 e4 e5 e6 e7 e8 e9 e10 e11) rfl ⟨ho8.out, ?_⟩
    rw [HON.out]
    exact ⟨bnZ, none, 0, 0, rfl⟩
  | succ d =>
  have hdi : ¬ ((d : Int) + 1 < 1) := by omega
  have HI := Lib.hid (int_any b S 8 (by omega) w0 hR0.out (intR 8 S) rfl)
  have hk8 := intR_le 8 S
  have hkb := intR_bad 8 S
  have HO1 : Hid (O = match intR 8 S with
    | (_, none) => none
    | (k, some L1) => if k = 0 then none else
      if (hdP k (some L1)).ok = true then (match cP k (hdP k (some L1)).S with
        | (_, none) => none
        | (c, some L3) => (tkL (tkN d) c L3).map fun x => (.mk k (hdP k (some L1)).u (hdP k (some L1)).t (hdP k (some L1)).f (hdP k (some L1)).g x.1, x.2))
      else none) := by
    unfold Hid
    rw [← HO.out]
    cases S with
    | none => rfl
    | some L => rfl
  obtain ⟨⟨k, S1⟩, hk⟩ : ∃ x, intR 8 S = x := ⟨_, rfl⟩
  rw [hk] at HI hk8 hkb HO1
  have hk8' : k ≤ 8 := hk8
  have hkb' : S1 = none → k = 0 := hkb
  have HKB := Lib.hid hkb'
  clear hk hk8 hkb hkb' HO
  go_wp2_with fail
  refine HI.out.mono ?_
  rintro e w1 ⟨rfl, hrd, hoff⟩
  have hH1 : Hid (BlkC w1 w.heap.size (bnA bnZ none 0 0) tNr) := hoff.blk (by omega) hA0.out
  have hO1 := Lib.hid (hO0.out.trans hoff)
  have HRD := Lib.hid hrd
  clear hrd hoff HI hA0 hO0 hR0
  go_upto_region 4 with fail
  have hG2 := Lib.hid (blk_new w1 (bnA (.mk k 0 [] rfZ rfZ []) none 0 0) tNr)
  have hbn : Below w1.heap.size w1 (w1.alloc (.cells (bnA (.mk k 0 [] rfZ rfZ []) none 0 0) tNr)) := by (repeat' (first | (with_reducible exact Below.refl _ _) | (with_reducible assumption) | (with_reducible refine Below.alloc ?_ ?_ _) | (with_reducible refine bel_drewN ?_ _) | (with_reducible refine Below.drew ?_) | (with_reducible refine Below.setCell ?_ ?_ _) | (with_reducible refine bel_call ‹_› ?_ ?_) | go_size))
  have hH2 := Lib.hid (hH1.out.below hbn)
  have hO2 := Lib.hid (hO1.out.call hbn)
  have hR2 := Lib.hid (HRD.out.below hbn)
  have hgH : w.heap.size < w1.heap.size := lt_some hH1.out
  have e1 : w1.alloc (.cells #[.int .i64 (k : Nat), .int .i64 0, .string ⟨#[]⟩, .int .u64 0, .int .i64 0, .int .u64 0, .int .i64 0, .int .u64 0, .int .i64 0, .int .u64 0, .int .i64 0, .slice none 0 0] tNr) = w1.alloc (.cells (bnA (.mk k 0 [] rfZ rfZ []) none 0 0) tNr) := rfl
  rw [e1]
  clear e1 hbn hH1 hO1 HRD
  generalize w1.alloc (.cells (bnA (.mk k 0 [] rfZ rfZ []) none 0 0) tNr) = w2 at hG2 hH2 hO2 hR2 ⊢
  generalize w1.heap.size = g at hG2 hgH ⊢
  have q0 : w2.cell? ⟨g, 0, none⟩ = some (.int .i64 (k : Nat)) := hG2.out.cell 0 _ rfl
  go_wp2_with fail
  refine (count_any k _).mono ?_
  rintro e wx ⟨rfl, hwx⟩
  rw [hwx]
  clear hwx wx
  obtain ⟨hd, hhd⟩ : ∃ hd, hdP k S1 = hd := ⟨_, rfl⟩
  have HHD := Lib.hid hhd
  clear hhd
  go_upto_block 0 with fail
  go_cut [8] (fun v8 wx => v8 = .bool hd.ok ∧ BlkC wx g (bnA (.mk k hd.u hd.t hd.f hd.g []) none 0 0) tNr ∧ BlkC wx w.heap.size (bnA bnZ none 0 0) tNr ∧ Rdr wx b hd.S ∧ Off b w wx ∧ k ≠ 0)
  case first => as_aux_lemma =>
    have hkc : k = 0 ∨ k = 1 ∨ k = 2 ∨ k = 3 ∨ k = 4 ∨ k = 5 ∨ k = 6 ∨ k = 7 ∨ k = 8 := by omega
    rcases hkc with rfl | rfl | rfl | rfl | rfl | rfl | rfl | rfl | rfl
    · have HON : Hid (O = none) := by
        unfold Hid
        rw [HO1.out]
        cases S1 with
        | none => rfl
        | some L1 => exact if_pos rfl
      clear HO1 HIH HHD
      go_upto_region 7 with fail
      refine wp_region_lit ?_
      refine wpList_plain rfl fun K hK => ?_
      go_simp
      refine hK _ _ ?_
      clear hK K
      refine wpList_store_mid (by rfl) _ _ _ (by rfl) w.heap.size 0 #[.int .i64 0, .int .i64 0, .string ⟨#[]⟩, .int .u64 0, .int .i64 0, .int .u64 0, .int .i64 0, .int .u64 0, .int .i64 0, .int .u64 0, .int .i64 0, .slice none 0 0] (by rfl) (by rfl) (block_there hH2.out 12 (Nat.le_refl _)) (by kernel_rfl) (by simp [Value.oneCell']) ?_
      have hs8 : Hid (BlkC (w2.setCells w.heap.size 0 #[.int .i64 0, .int .i64 0, .string ⟨#[]⟩, .int .u64 0, .int .i64 0, .int .u64 0, .int .i64 0, .int .u64 0, .int .i64 0, .int .u64 0, .int .i64 0, .slice none 0 0].toList) w.heap.size #[.int .i64 0, .int .i64 0, .string ⟨#[]⟩, .int .u64 0, .int .i64 0, .int .u64 0, .int .i64 0, .int .u64 0, .int .i64 0, .int .u64 0, .int .i64 0, .slice none 0 0] tNr) := store_block hH2.out _ rfl
      have ho8 : Hid (Off b w (w2.setCells w.heap.size 0 #[.int .i64 0, .int .i64 0, .string ⟨#[]⟩, .int .u64 0, .int .i64 0, .int .u64 0, .int .i64 0, .int .u64 0, .int .i64 0, .int .u64 0, .int .i64 0, .slice none 0 0].toList)) := hO2.out.set_cells (Nat.le_refl _) _ _
      generalize w2.setCells w.heap.size 0 #[.int .i64 0, .int .i64 0, .string ⟨#[]⟩, .int .u64 0, .int .i64 0, .int .u64 0, .int .i64 0, .int .u64 0, .int .i64 0, .int .u64 0, .int .i64 0, .slice none 0 0].toList = w9 at hs8 ho8 ⊢
      go_simp
      iterate 6 (first | go_values | go_skip | go_guarded | go_step | go_upon)
      apply wp_ret
      try simp only [Exit.inBlock, Exit.then]
      have e0 : w9.cell? ⟨w.heap.size, 0, none⟩ = some (.int .i64 0) := hs8.out.cell 0 _ rfl
      have e1 : w9.cell? ⟨w.heap.size, 1, none⟩ = some (.int .i64 0) := hs8.out.cell 1 _ rfl
      have e2 : w9.cell? ⟨w.heap.size, 2, none⟩ = some (.string ⟨#[]⟩) := hs8.out.cell 2 _ rfl
      have e3 : w9.cell? ⟨w.heap.size, 3, none⟩ = some (.int .u64 0) := hs8.out.cell 3 _ rfl
      have e4 : w9.cell? ⟨w.heap.size, 4, none⟩ = some (.int .i64 0) := hs8.out.cell 4 _ rfl
      have e5 : w9.cell? ⟨w.heap.size, 5, none⟩ = some (.int .u64 0) := hs8.out.cell 5 _ rfl
      have e6 : w9.cell? ⟨w.heap.size, 6, none⟩ = some (.int .i64 0) := hs8.out.cell 6 _ rfl
      have e7 : w9.cell? ⟨w.heap.size, 7, none⟩ = some (.int .u64 0) := hs8.out.cell 7 _ rfl
      have e8 : w9.cell? ⟨w.heap.size, 8, none⟩ = some (.int .i64 0) := hs8.out.cell 8 _ rfl
      have e9 : w9.cell? ⟨w.heap.size, 9, none⟩ = some (.int .u64 0) := hs8.out.cell 9 _ rfl
      have e10 : w9.cell? ⟨w.heap.size, 10, none⟩ = some (.int .i64 0) := hs8.out.cell 10 _ rfl
      have e11 : w9.cell? ⟨w.heap.size, 11, none⟩ = some (.slice none 0 0) := hs8.out.cell 11 _ rfl
      refine bodyPost_ret (v := .tuple #[.agg #[.int .i64 0, .int .i64 0, .string ⟨#[]⟩, .int .u64 0, .int .i64 0, .int .u64 0, .int .i64 0, .int .u64 0, .int .i64 0, .int .u64 0, .int .i64 0, .slice none 0 0], .bool false]) (take_res _ _ _ rfl rfl e0 e1 e2 e3 e4 e5 e6 e7 e8 e9 e10 e11) rfl ⟨ho8.out, ?_⟩
      rw [HON.out]
      exact ⟨bnZ, none, 0, 0, rfl⟩
    · clear HO1 HIH HKB
      have HD1 : Hid ((⟨wrap64 ((numR S1).1 : Nat), [], rfZ, rfZ, true, (numR S1).2⟩ : Hd) = hd) := HHD.out
      have HN := Lib.hid (num_any b S1 w2 hR2.out (numR S1) rfl)
      clear HHD
      generalize numR S1 = N1 at HD1 HN
      go_wp2_with fail
      refine HN.out.mono ?_
      rintro e w3 ⟨rfl, hrd, hoff⟩
      have hG3 : Hid (BlkC w3 g (bnA (.mk (1 : Nat) 0 [] rfZ rfZ []) none 0 0) tNr) := hoff.blk (by omega) hG2.out
      have hH3 : Hid (BlkC w3 w.heap.size (bnA bnZ none 0 0) tNr) := hoff.blk (by omega) hH2.out
      have hO3 := Lib.hid (hO2.out.trans hoff)
      have HRD3 := Lib.hid hrd
      clear hrd hoff HN
      have q1 : w3.cell? ⟨g, 1, none⟩ = some (.int .i64 0) := hG3.out.cell 1 _ rfl
      have y1 := hG3.out.fz 1
      go_wp2_with fail
      go_meet
      exact ⟨by rw [← HD1.out], by rw [← HD1.out]; exact (block_setCell (hG3.out) _).trans (congrArg some (congrArg (fun x => Obj.cells x tNr) (bn_set1 1 _))), (heap_setCell_other _ _ _ _ (by show w.heap.size ≠ g; omega)).trans (hH3.out), by rw [← HD1.out]; exact HRD3.out.low (Below.setCell (Below.refl _ _) (by show b + 1 ≤ g; omega) _), Off.set_new (hO3.out) (by omega) _ _, by decide⟩
    · clear HO1 HIH HKB
      have HD1 : Hid ((⟨0, (bytR S1).1, rfZ, rfZ, true, (bytR S1).2⟩ : Hd) = hd) := HHD.out
      have HN := Lib.hid (rtext_any b S1 w2 hR2.out (bytR S1) rfl)
      clear HHD
      generalize bytR S1 = N1 at HD1 HN
      go_wp2_with fail
      refine HN.out.mono ?_
      rintro e w3 ⟨rfl, hrd, hoff⟩
      have hG3 : Hid (BlkC w3 g (bnA (.mk (2 : Nat) 0 [] rfZ rfZ []) none 0 0) tNr) := hoff.blk (by omega) hG2.out
      have hH3 : Hid (BlkC w3 w.heap.size (bnA bnZ none 0 0) tNr) := hoff.blk (by omega) hH2.out
      have hO3 := Lib.hid (hO2.out.trans hoff)
      have HRD3 := Lib.hid hrd
      clear hrd hoff HN
      have q2 : w3.cell? ⟨g, 2, none⟩ = some (.string ⟨#[]⟩) := hG3.out.cell 2 _ rfl
      have y2 := hG3.out.fz 2
      go_wp2_with fail
      go_meet
      exact ⟨by rw [← HD1.out], by rw [← HD1.out]; exact block_setCell (hG3.out) _, (heap_setCell_other _ _ _ _ (by show w.heap.size ≠ g; omega)).trans (hH3.out), by rw [← HD1.out]; exact HRD3.out.low (Below.setCell (Below.refl _ _) (by show b + 1 ≤ g; omega) _), Off.set_new (hO3.out) (by omega) _ _, by decide⟩
    · clear HO1 HIH HKB
      have HD1 : Hid ((⟨0, [], (tkF S1).1.1, rfZ, (tkF S1).1.2, (tkF S1).2⟩ : Hd) = hd) := HHD.out
      have HN := Lib.hid (takeRef_any b S1 w2 hR2.out (tkF S1) rfl)
      clear HHD
      generalize tkF S1 = N1 at HD1 HN
      go_wp2_with fail
      refine HN.out.mono ?_
      rintro e w3 ⟨rfl, hrd, hoff⟩
      have hG3 : Hid (BlkC w3 g (bnA (.mk (3 : Nat) 0 [] rfZ rfZ []) none 0 0) tNr) := hoff.blk (by omega) hG2.out
      have hH3 : Hid (BlkC w3 w.heap.size (bnA bnZ none 0 0) tNr) := hoff.blk (by omega) hH2.out
      have hO3 := Lib.hid (hO2.out.trans hoff)
      have HRD3 := Lib.hid hrd
      clear hrd hoff HN
      have q3 : w3.cell? ⟨g, 3, none⟩ = some (.int .u64 0) := hG3.out.cell 3 _ rfl
      have y3 := hG3.out.fz 3
      have q4 : w3.cell? ⟨g, 4, none⟩ = some (.int .i64 0) := hG3.out.cell 4 _ rfl
      have y4 := hG3.out.fz 4
      have q5 : w3.cell? ⟨g, 5, none⟩ = some (.int .u64 0) := hG3.out.cell 5 _ rfl
      have y5 := hG3.out.fz 5
      have q6 : w3.cell? ⟨g, 6, none⟩ = some (.int .i64 0) := hG3.out.cell 6 _ rfl
      have y6 := hG3.out.fz 6
      go_wp2_with fail
      go_meet
      exact ⟨by rw [← HD1.out], by rw [← HD1.out]; exact block_setCell (block_setCell (block_setCell (block_setCell (hG3.out) _) _) _) _, (heap_setCell_other _ _ _ _ (by show w.heap.size ≠ g; omega)).trans ((heap_setCell_other _ _ _ _ (by show w.heap.size ≠ g; omega)).trans ((heap_setCell_other _ _ _ _ (by show w.heap.size ≠ g; omega)).trans ((heap_setCell_other _ _ _ _ (by show w.heap.size ≠ g; omega)).trans (hH3.out)))), by rw [← HD1.out]; exact HRD3.out.low (Below.setCell (Below.setCell (Below.setCell (Below.setCell (Below.refl _ _) (by show b + 1 ≤ g; omega) _) (by show b + 1 ≤ g; omega) _) (by show b + 1 ≤ g; omega) _) (by show b + 1 ≤ g; omega) _), Off.set_new (Off.set_new (Off.set_new (Off.set_new (hO3.out) (by omega) _ _) (by omega) _ _) (by omega) _ _) (by omega) _ _, by decide⟩
    · clear HO1 HIH HKB
      have HD1 : Hid ((if (tkF S1).1.2 = true then ⟨0, [], (tkF S1).1.1, (tkF (tkF S1).2).1.1, (tkF (tkF S1).2).1.2, (tkF (tkF S1).2).2⟩ else ⟨0, [], (tkF S1).1.1, rfZ, false, (tkF S1).2⟩ : Hd) = hd) := HHD.out
      have HN := Lib.hid (takeRef_any b S1 w2 hR2.out (tkF S1) rfl)
      clear HHD
      generalize tkF S1 = N1 at HD1 HN
      obtain ⟨⟨x1, ok1⟩, S2⟩ := N1
      go_wp2_with fail
      refine HN.out.mono ?_
      rintro e w3 ⟨rfl, hrd, hoff⟩
      have hG3 : Hid (BlkC w3 g (bnA (.mk (4 : Nat) 0 [] rfZ rfZ []) none 0 0) tNr) := hoff.blk (by omega) hG2.out
      have hH3 : Hid (BlkC w3 w.heap.size (bnA bnZ none 0 0) tNr) := hoff.blk (by omega) hH2.out
      have hO3 := Lib.hid (hO2.out.trans hoff)
      have HRD3 := Lib.hid hrd
      clear hrd hoff HN
      have q3 : w3.cell? ⟨g, 3, none⟩ = some (.int .u64 0) := hG3.out.cell 3 _ rfl
      have y3 := hG3.out.fz 3
      have q4 : w3.cell? ⟨g, 4, none⟩ = some (.int .i64 0) := hG3.out.cell 4 _ rfl
      have y4 := hG3.out.fz 4
      have q5 : w3.cell? ⟨g, 5, none⟩ = some (.int .u64 0) := hG3.out.cell 5 _ rfl
      have y5 := hG3.out.fz 5
      have q6 : w3.cell? ⟨g, 6, none⟩ = some (.int .i64 0) := hG3.out.cell 6 _ rfl
      have y6 := hG3.out.fz 6
      cases ok1
      · have HD2 : Hid ((⟨0, [], x1, rfZ, false, S2⟩ : Hd) = hd) := HD1.out
        clear HD1
        go_wp2_with fail
        go_meet
        exact ⟨by rw [← HD2.out], by rw [← HD2.out]; exact block_setCell (block_setCell (block_setCell (block_setCell (hG3.out) _) _) _) _, (heap_setCell_other _ _ _ _ (by show w.heap.size ≠ g; omega)).trans ((heap_setCell_other _ _ _ _ (by show w.heap.size ≠ g; omega)).trans ((heap_setCell_other _ _ _ _ (by show w.heap.size ≠ g; omega)).trans ((heap_setCell_other _ _ _ _ (by show w.heap.size ≠ g; omega)).trans (hH3.out)))), by rw [← HD2.out]; exact HRD3.out.low (Below.setCell (Below.setCell (Below.setCell (Below.setCell (Below.refl _ _) (by show b + 1 ≤ g; omega) _) (by show b + 1 ≤ g; omega) _) (by show b + 1 ≤ g; omega) _) (by show b + 1 ≤ g; omega) _), Off.set_new (Off.set_new (Off.set_new (Off.set_new (hO3.out) (by omega) _ _) (by omega) _ _) (by omega) _ _) (by omega) _ _, by decide⟩
      · have HD2 : Hid ((⟨0, [], x1, (tkF S2).1.1, (tkF S2).1.2, (tkF S2).2⟩ : Hd) = hd) := HD1.out
        clear HD1
        go_upto_region 19 with fail
        have hG4 : Hid (BlkC ((((w3.setCell ⟨g, 3, none⟩ (.int .u64 x1.1.1)).setCell ⟨g, 4, none⟩ (.int .i64 x1.1.2)).setCell ⟨g, 5, none⟩ (.int .u64 x1.2.1)).setCell ⟨g, 6, none⟩ (.int .i64 x1.2.2)) g (bnA (.mk (4 : Nat) 0 [] x1 rfZ []) none 0 0) tNr) := block_setCell (block_setCell (block_setCell (block_setCell hG3.out _) _) _) _
        have hH4 : Hid (BlkC ((((w3.setCell ⟨g, 3, none⟩ (.int .u64 x1.1.1)).setCell ⟨g, 4, none⟩ (.int .i64 x1.1.2)).setCell ⟨g, 5, none⟩ (.int .u64 x1.2.1)).setCell ⟨g, 6, none⟩ (.int .i64 x1.2.2)) w.heap.size (bnA bnZ none 0 0) tNr) := (heap_setCell_other _ _ _ _ (by show w.heap.size ≠ g; omega)).trans ((heap_setCell_other _ _ _ _ (by show w.heap.size ≠ g; omega)).trans ((heap_setCell_other _ _ _ _ (by show w.heap.size ≠ g; omega)).trans ((heap_setCell_other _ _ _ _ (by show w.heap.size ≠ g; omega)).trans hH3.out)))
        have hR4 : Hid (Rdr ((((w3.setCell ⟨g, 3, none⟩ (.int .u64 x1.1.1)).setCell ⟨g, 4, none⟩ (.int .i64 x1.1.2)).setCell ⟨g, 5, none⟩ (.int .u64 x1.2.1)).setCell ⟨g, 6, none⟩ (.int .i64 x1.2.2)) b S2) := HRD3.out.low (Below.setCell (Below.setCell (Below.setCell (Below.setCell (Below.refl _ _) (by show b + 1 ≤ g; omega) _) (by show b + 1 ≤ g; omega) _) (by show b + 1 ≤ g; omega) _) (by show b + 1 ≤ g; omega) _)
        have hO4 : Hid (Off b w ((((w3.setCell ⟨g, 3, none⟩ (.int .u64 x1.1.1)).setCell ⟨g, 4, none⟩ (.int .i64 x1.1.2)).setCell ⟨g, 5, none⟩ (.int .u64 x1.2.1)).setCell ⟨g, 6, none⟩ (.int .i64 x1.2.2))) := Off.set_new (Off.set_new (Off.set_new (Off.set_new hO3.out (by omega) _ _) (by omega) _ _) (by omega) _ _) (by omega) _ _
        clear q3 q4 q5 q6 y3 y4 y5 y6 hG3 hH3 hO3 HRD3
        generalize (((w3.setCell ⟨g, 3, none⟩ (.int .u64 x1.1.1)).setCell ⟨g, 4, none⟩ (.int .i64 x1.1.2)).setCell ⟨g, 5, none⟩ (.int .u64 x1.2.1)).setCell ⟨g, 6, none⟩ (.int .i64 x1.2.2) = w4 at hG4 hH4 hR4 hO4 ⊢
        have HN := Lib.hid (takeRef_any b S2 w4 hR4.out (tkF S2) rfl)
        generalize tkF S2 = N2 at HD2 HN
        go_wp2_with fail
        refine HN.out.mono ?_
        rintro e w5 ⟨rfl, hrd, hoff⟩
        have hG5 : Hid (BlkC w5 g (bnA (.mk (4 : Nat) 0 [] x1 rfZ []) none 0 0) tNr) := hoff.blk (by omega) hG4.out
        have hH5 : Hid (BlkC w5 w.heap.size (bnA bnZ none 0 0) tNr) := hoff.blk (by omega) hH4.out
        have hO5 := Lib.hid (hO4.out.trans hoff)
        have HRD5 := Lib.hid hrd
        clear hrd hoff HN
        have q7 : w5.cell? ⟨g, 7, none⟩ = some (.int .u64 0) := hG5.out.cell 7 _ rfl
        have y7 := hG5.out.fz 7
        have q8 : w5.cell? ⟨g, 8, none⟩ = some (.int .i64 0) := hG5.out.cell 8 _ rfl
        have y8 := hG5.out.fz 8
        have q9 : w5.cell? ⟨g, 9, none⟩ = some (.int .u64 0) := hG5.out.cell 9 _ rfl
        have y9 := hG5.out.fz 9
        have q10 : w5.cell? ⟨g, 10, none⟩ = some (.int .i64 0) := hG5.out.cell 10 _ rfl
        have y10 := hG5.out.fz 10
        go_wp2_with fail
        go_meet
        exact ⟨by rw [← HD2.out], by rw [← HD2.out]; exact block_setCell (block_setCell (block_setCell (block_setCell (hG5.out) _) _) _) _, (heap_setCell_other _ _ _ _ (by show w.heap.size ≠ g; omega)).trans ((heap_setCell_other _ _ _ _ (by show w.heap.size ≠ g; omega)).trans ((heap_setCell_other _ _ _ _ (by show w.heap.size ≠ g; omega)).trans ((heap_setCell_other _ _ _ _ (by show w.heap.size ≠ g; omega)).trans (hH5.out)))), by rw [← HD2.out]; exact HRD5.out.low (Below.setCell (Below.setCell (Below.setCell (Below.setCell (Below.refl _ _) (by show b + 1 ≤ g; omega) _) (by show b + 1 ≤ g; omega) _) (by show b + 1 ≤ g; omega) _) (by show b + 1 ≤ g; omega) _), Off.set_new (Off.set_new (Off.set_new (Off.set_new (hO5.out) (by omega) _ _) (by omega) _ _) (by omega) _ _) (by omega) _ _, by decide⟩
    · clear HO1 HIH HKB
      have HD1 : Hid ((⟨0, [], rfZ, rfZ, true, S1⟩ : Hd) = hd) := HHD.out
      clear HHD
      go_wp2_with fail
      go_meet
      exact ⟨by rw [← HD1.out], by rw [← HD1.out]; exact hG2.out, hH2.out, by rw [← HD1.out]; exact hR2.out.low (Below.refl _ _), hO2.out, by decide⟩
    · clear HO1 HIH HKB
      have HD1 : Hid ((⟨0, (bytR S1).1, rfZ, rfZ, true, (bytR S1).2⟩ : Hd) = hd) := HHD.out
      have HN := Lib.hid (rtext_any b S1 w2 hR2.out (bytR S1) rfl)
      clear HHD
      generalize bytR S1 = N1 at HD1 HN
      go_wp2_with fail
      refine HN.out.mono ?_
      rintro e w3 ⟨rfl, hrd, hoff⟩
      have hG3 : Hid (BlkC w3 g (bnA (.mk (6 : Nat) 0 [] rfZ rfZ []) none 0 0) tNr) := hoff.blk (by omega) hG2.out
      have hH3 : Hid (BlkC w3 w.heap.size (bnA bnZ none 0 0) tNr) := hoff.blk (by omega) hH2.out
      have hO3 := Lib.hid (hO2.out.trans hoff)
      have HRD3 := Lib.hid hrd
      clear hrd hoff HN
      have q2 : w3.cell? ⟨g, 2, none⟩ = some (.string ⟨#[]⟩) := hG3.out.cell 2 _ rfl
      have y2 := hG3.out.fz 2
      go_wp2_with fail
      go_meet
      exact ⟨by rw [← HD1.out], by rw [← HD1.out]; exact block_setCell (hG3.out) _, (heap_setCell_other _ _ _ _ (by show w.heap.size ≠ g; omega)).trans (hH3.out), by rw [← HD1.out]; exact HRD3.out.low (Below.setCell (Below.refl _ _) (by show b + 1 ≤ g; omega) _), Off.set_new (hO3.out) (by omega) _ _, by decide⟩
    · clear HO1 HIH HKB
      have HD1 : Hid ((⟨0, (bytR S1).1, rfZ, rfZ, true, (bytR S1).2⟩ : Hd) = hd) := HHD.out
      have HN := Lib.hid (rtext_any b S1 w2 hR2.out (bytR S1) rfl)
      clear HHD
      generalize bytR S1 = N1 at HD1 HN
      go_wp2_with fail
      refine HN.out.mono ?_
      rintro e w3 ⟨rfl, hrd, hoff⟩
      have hG3 : Hid (BlkC w3 g (bnA (.mk (7 : Nat) 0 [] rfZ rfZ []) none 0 0) tNr) := hoff.blk (by omega) hG2.out
      have hH3 : Hid (BlkC w3 w.heap.size (bnA bnZ none 0 0) tNr) := hoff.blk (by omega) hH2.out
      have hO3 := Lib.hid (hO2.out.trans hoff)
      have HRD3 := Lib.hid hrd
      clear hrd hoff HN
      have q2 : w3.cell? ⟨g, 2, none⟩ = some (.string ⟨#[]⟩) := hG3.out.cell 2 _ rfl
      have y2 := hG3.out.fz 2
      go_wp2_with fail
      go_meet
      exact ⟨by rw [← HD1.out], by rw [← HD1.out]; exact block_setCell (hG3.out) _, (heap_setCell_other _ _ _ _ (by show w.heap.size ≠ g; omega)).trans (hH3.out), by rw [← HD1.out]; exact HRD3.out.low (Below.setCell (Below.refl _ _) (by show b + 1 ≤ g; omega) _), Off.set_new (hO3.out) (by omega) _ _, by decide⟩
    · clear HO1 HIH HKB
      have HD1 : Hid ((⟨0, [], rfZ, rfZ, true, S1⟩ : Hd) = hd) := HHD.out
      clear HHD
      go_wp2_with fail
      go_meet
      exact ⟨by rw [← HD1.out], by rw [← HD1.out]; exact hG2.out, hH2.out, by rw [← HD1.out]; exact hR2.out.low (Below.refl _ _), hO2.out, by decide⟩
  case rest =>
  obtain ⟨rfl, hg, hh, hr, ho, hk0⟩ := hcut
  have HG := Lib.hid hg
  have HH := Lib.hid hh
  have HR := Lib.hid hr
  have HOF := Lib.hid ho
  have HO2 : Hid (O = if hd.ok = true then (match cP k hd.S with
        | (_, none) => none
        | (c, some L3) => (tkL (tkN d) c L3).map fun x => (.mk k hd.u hd.t hd.f hd.g x.1, x.2)) else none) := by
    unfold Hid
    rw [HO1.out]
    cases S1 with
    | none => exact absurd (HKB.out rfl) hk0
    | some L1 =>
      simp only []
      rw [if_neg hk0, HHD.out]
  clear hg hh hr ho HO1 HKB HHD hG2 hH2 hO2 hR2 q0
  obtain ⟨⟨c, S3⟩, hc⟩ : ∃ x, cP k hd.S = x := ⟨_, rfl⟩
  have HO3 : Hid (O = if hd.ok = true then (S3.bind fun L3 => (tkL (tkN d) c L3).map fun x => (.mk k hd.u hd.t hd.f hd.g x.1, x.2)) else none) := by
    unfold Hid
    rw [HO2.out, hc]
    cases S3 <;> rfl
  have hc16 : c ≤ 16 := by
    have h1 := intR_le 16 hd.S
    unfold cP at hc
    split at hc
    · rw [hc] at h1; exact h1
    · injection hc with hc1 hc2
      rw [← hc1]
      unfold cntK
      split
      · omega
      · split <;> omega
  have HC := Lib.hid hc
  clear hc HO2
  have q0 : wc.cell? ⟨g, 0, none⟩ = some (.int .i64 (k : Nat)) := HG.out.cell 0 _ rfl
  go_upto_if 63 with fail
  go_cut [7] (fun v7 wx => v7 = .int .i64 (c : Nat) ∧ BlkC wx g (bnA (.mk k hd.u hd.t hd.f hd.g []) none 0 0) tNr ∧ BlkC wx w.heap.size (bnA bnZ none 0 0) tNr ∧ Rdr wx b S3 ∧ Off b w wx)
  case first => as_aux_lemma =>
    by_cases h7 : k = 7
    · have b7 : ((k : Int) == 7) = true := by simp; omega
      have HC2 : Hid (intR 16 hd.S = (c, S3)) := by
        have := HC.out
        unfold cP at this
        rw [if_pos h7] at this
        exact this
      have HN := Lib.hid (int_any b hd.S 16 (by omega) wc HR.out (c, S3) HC2.out)
      clear HC HC2 HO3 HIH h7
      go_wp2_with fail
      refine HN.out.mono ?_
      rintro e w3 ⟨rfl, hrd, hoff⟩
      have hG3 : Hid (BlkC w3 g (bnA (.mk k hd.u hd.t hd.f hd.g []) none 0 0) tNr) := hoff.blk (by omega) HG.out
      have hH3 : Hid (BlkC w3 w.heap.size (bnA bnZ none 0 0) tNr) := hoff.blk (by omega) HH.out
      have hO3 := Lib.hid (HOF.out.trans hoff)
      have HRD3 := Lib.hid hrd
      clear hrd hoff HN
      go_wp2_with fail
      go_meet
      exact ⟨rfl, hG3.out, hH3.out, HRD3.out, hO3.out⟩
    · have b7 : ((k : Int) == 7) = false := by simp; omega
      have HC2 : Hid (cntK k = c ∧ hd.S = S3) := by
        have := HC.out
        unfold cP at this
        rw [if_neg h7] at this
        injection this with h1 h2
        exact ⟨h1, h2⟩
      clear HC HO3 HIH h7
      go_wp2_with fail
      go_meet
      exact ⟨by rw [← HC2.out.1], HG.out, HH.out, by rw [← HC2.out.2]; exact HR.out, HOF.out⟩
  case rest =>
  obtain ⟨rfl, hg, hh, hr, ho⟩ := hcut
  clear HG HH HR HOF HC q0
  have hgl : g < wc.heap.size := lt_some hg
  have hstart : Hid (TkS O b g d c 0 k hd hd.ok (.slice none 0 0) wc) := by
    unfold Hid TkS
    cases hok : hd.ok with
    | true =>
      left
      refine ⟨rfl, S3, [], hr, World.ownsRow_nil _ _ _ _, (fun x hx => (by cases hx)), rfl, ?_⟩
      have := HO3.out
      rw [if_pos hok] at this
      rw [this]
      rfl
    | false =>
      right
      refine ⟨rfl, ?_⟩
      have := HO3.out
      rw [if_neg (by rw [hok]; simp)] at this
      exact this
  have HG := Lib.hid hg
  have HH := Lib.hid hh
  have HOF := Lib.hid ho
  clear hg hh hr ho HO3
  obtain ⟨i0, hi, hz0, hz1, hz2⟩ := info_of info_bn
  have hd63 : d ≤ 63 := by omega
  have HT : Hid (TakeC d) := HIH.out d rfl
  clear HIH
  go_wp2_with fail
  go_loopg [8, 67] c (fun gm v8 v67 wr => ∃ (i : Nat) (okv : Bool) (q : Option Addr) (cp : Nat), i + gm = c ∧ v67 = .int .i64 i ∧ v8 = .bool okv ∧ BlkC wr g (bnA (.mk k hd.u hd.t hd.f hd.g []) q i cp) tNr ∧ BlkC wr w.heap.size (bnA bnZ none 0 0) tNr ∧ Off b w wr ∧ g < wr.heap.size ∧ TkS O b g d c i k hd okv (.slice q i cp) wr)
  case atStart => exact ⟨0, hd.ok, none, 0, by omega, rfl, rfl, HG.out, HH.out, HOF.out, hgl, hstart.out⟩
  case round =>
    obtain ⟨i, okv, q, cp, hig, rfl, rfl, hg, hh, ho, hglr, hst⟩ := hrel
    have HGr := Lib.hid hg
    have HHr := Lib.hid hh
    have HOr := Lib.hid ho
    have HST := Lib.hid hst
    clear hg hh ho hst hstart HG HH HOF
    by_cases hlt : i < c
    · have hli : (i : Int) < (c : Int) := by omega
      cases okv with
      | false =>
        have HON : Hid (O = none) := by
          rcases HST.out with ⟨h, _⟩ | ⟨_, h⟩
          · cases h
          · exact h
        clear HST HT
        go_upto_region 25 with fail
        refine wp_region_lit ?_
        refine wpList_plain rfl fun K hK => ?_
        go_simp
        refine hK _ _ ?_
        clear hK K
        refine wpList_store_mid (by rfl) _ _ _ (by rfl) w.heap.size 0 #[.int .i64 0, .int .i64 0, .string ⟨#[]⟩, .int .u64 0, .int .i64 0, .int .u64 0, .int .i64 0, .int .u64 0, .int .i64 0, .int .u64 0, .int .i64 0, .slice none 0 0] (by rfl) (by rfl) (block_there HHr.out 12 (Nat.le_refl _)) (by kernel_rfl) (by simp [Value.oneCell']) ?_
        have hs8 : Hid (BlkC (wr.setCells w.heap.size 0 #[.int .i64 0, .int .i64 0, .string ⟨#[]⟩, .int .u64 0, .int .i64 0, .int .u64 0, .int .i64 0, .int .u64 0, .int .i64 0, .int .u64 0, .int .i64 0, .slice none 0 0].toList) w.heap.size #[.int .i64 0, .int .i64 0, .string ⟨#[]⟩, .int .u64 0, .int .i64 0, .int .u64 0, .int .i64 0, .int .u64 0, .int .i64 0, .int .u64 0, .int .i64 0, .slice none 0 0] tNr) := store_block HHr.out _ rfl
        have ho8 : Hid (Off b w (wr.setCells w.heap.size 0 #[.int .i64 0, .int .i64 0, .string ⟨#[]⟩, .int .u64 0, .int .i64 0, .int .u64 0, .int .i64 0, .int .u64 0, .int .i64 0, .int .u64 0, .int .i64 0, .slice none 0 0].toList)) := HOr.out.set_cells (Nat.le_refl _) _ _
        generalize wr.setCells w.heap.size 0 #[.int .i64 0, .int .i64 0, .string ⟨#[]⟩, .int .u64 0, .int .i64 0, .int .u64 0, .int .i64 0, .int .u64 0, .int .i64 0, .int .u64 0, .int .i64 0, .slice none 0 0].toList = w9 at hs8 ho8 ⊢
        go_simp
        iterate 6 (first | go_values | go_skip | go_guarded | go_step | go_upon)
        apply wp_ret
        try simp only [Exit.inBlock, Exit.then]
        have e0 : w9.cell? ⟨w.heap.size, 0, none⟩ = some (.int .i64 0) := hs8.out.cell 0 _ rfl
        have e1 : w9.cell? ⟨w.heap.size, 1, none⟩ = some (.int .i64 0) := hs8.out.cell 1 _ rfl
        have e2 : w9.cell? ⟨w.heap.size, 2, none⟩ = some (.string ⟨#[]⟩) := hs8.out.cell 2 _ rfl
        have e3 : w9.cell? ⟨w.heap.size, 3, none⟩ = some (.int .u64 0) := hs8.out.cell 3 _ rfl
        have e4 : w9.cell? ⟨w.heap.size, 4, none⟩ = some (.int .i64 0) := hs8.out.cell 4 _ rfl
        have e5 : w9.cell? ⟨w.heap.size, 5, none⟩ = some (.int .u64 0) := hs8.out.cell 5 _ rfl
        have e6 : w9.cell? ⟨w.heap.size, 6, none⟩ = some (.int .i64 0) := hs8.out.cell 6 _ rfl
        have e7 : w9.cell? ⟨w.heap.size, 7, none⟩ = some (.int .u64 0) := hs8.out.cell 7 _ rfl
        have e8 : w9.cell? ⟨w.heap.size, 8, none⟩ = some (.int .i64 0) := hs8.out.cell 8 _ rfl
        have e9 : w9.cell? ⟨w.heap.size, 9, none⟩ = some (.int .u64 0) := hs8.out.cell 9 _ rfl
        have e10 : w9.cell? ⟨w.heap.size, 10, none⟩ = some (.int .i64 0) := hs8.out.cell 10 _ rfl
        have e11 : w9.cell? ⟨w.heap.size, 11, none⟩ = some (.slice none 0 0) := hs8.out.cell 11 _ rfl
        refine bodyPost_ret (v := .tuple #[.agg #[.int .i64 0, .int .i64 0, .string ⟨#[]⟩, .int .u64 0, .int .i64 0, .int .u64 0, .int .i64 0, .int .u64 0, .int .i64 0, .int .u64 0, .int .i64 0, .slice none 0 0], .bool false]) (take_res _ _ _ rfl rfl e0 e1 e2 e3 e4 e5 e6 e7 e8 e9 e10 e11) rfl ⟨ho8.out, ?_⟩
        rw [HON.out]
        exact ⟨bnZ, none, 0, 0, rfl⟩
      | true =>
        have hgood : ∃ (S' : Option (List UInt8)) (acc : List (KidQ Rfp)), Rdr wr b S' ∧ wr.ownsRow (g + 1) tNr 12 (.slice q i cp) i (acc.flatMap (kidQ rfE)) ∧ (∀ x ∈ acc, RdQ rfE 12 wr (okQ (g + 1) wr (.slice q i cp)) d x.1 x.2.1 x.2.2.1) ∧ acc.length = i ∧
            O = S'.bind fun L => (tkL (tkN d) (c - i) L).map fun x => (.mk k hd.u hd.t hd.f hd.g (acc.map Prod.fst ++ x.1), x.2) := by
          rcases HST.out with ⟨_, h⟩ | ⟨h, _⟩
          · exact h
          · cases h
        obtain ⟨S', acc, hrd, hown, hkid, hla, hOO⟩ := hgood
        have HRD := Lib.hid hrd
        have HOW := Lib.hid hown
        have HKD := Lib.hid hkid
        have HLA := Lib.hid hla
        have HOO := Lib.hid hOO
        have HFN := Lib.hid (fine_any b S' wr hrd)
        clear hrd hown hkid hla hOO HST
        cases S' with
        | none =>
          have HON : Hid (O = none) := HOO.out
          clear HT HOO HKD HOW
          go_wp2_with fail
          refine HFN.out.mono ?_
          rintro e wx ⟨rfl, hwx⟩
          rw [← hwx]
          clear hwx wx HFN
          go_upto_region 25 with fail
          refine wp_region_lit ?_
          refine wpList_plain rfl fun K hK => ?_
          go_simp
          refine hK _ _ ?_
          clear hK K
          refine wpList_store_mid (by rfl) _ _ _ (by rfl) w.heap.size 0 #[.int .i64 0, .int .i64 0, .string ⟨#[]⟩, .int .u64 0, .int .i64 0, .int .u64 0, .int .i64 0, .int .u64 0, .int .i64 0, .int .u64 0, .int .i64 0, .slice none 0 0] (by rfl) (by rfl) (block_there HHr.out 12 (Nat.le_refl _)) (by kernel_rfl) (by simp [Value.oneCell']) ?_
          have hs8 : Hid (BlkC (wr.setCells w.heap.size 0 #[.int .i64 0, .int .i64 0, .string ⟨#[]⟩, .int .u64 0, .int .i64 0, .int .u64 0, .int .i64 0, .int .u64 0, .int .i64 0, .int .u64 0, .int .i64 0, .slice none 0 0].toList) w.heap.size #[.int .i64 0, .int .i64 0, .string ⟨#[]⟩, .int .u64 0, .int .i64 0, .int .u64 0, .int .i64 0, .int .u64 0, .int .i64 0, .int .u64 0, .int .i64 0, .slice none 0 0] tNr) := store_block HHr.out _ rfl
          have ho8 : Hid (Off b w (wr.setCells w.heap.size 0 #[.int .i64 0, .int .i64 0, .string ⟨#[]⟩, .int .u64 0, .int .i64 0, .int .u64 0, .int .i64 0, .int .u64 0, .int .i64 0, .int .u64 0, .int .i64 0, .slice none 0 0].toList)) := HOr.out.set_cells (Nat.le_refl _) _ _
          generalize wr.setCells w.heap.size 0 #[.int .i64 0, .int .i64 0, .string ⟨#[]⟩, .int .u64 0, .int .i64 0, .int .u64 0, .int .i64 0, .int .u64 0, .int .i64 0, .int .u64 0, .int .i64 0, .slice none 0 0].toList = w9 at hs8 ho8 ⊢
          go_simp
          iterate 6 (first | go_values | go_skip | go_guarded | go_step | go_upon)
          apply wp_ret
          try simp only [Exit.inBlock, Exit.then]
          have e0 : w9.cell? ⟨w.heap.size, 0, none⟩ = some (.int .i64 0) := hs8.out.cell 0 _ rfl
          have e1 : w9.cell? ⟨w.heap.size, 1, none⟩ = some (.int .i64 0) := hs8.out.cell 1 _ rfl
          have e2 : w9.cell? ⟨w.heap.size, 2, none⟩ = some (.string ⟨#[]⟩) := hs8.out.cell 2 _ rfl
          have e3 : w9.cell? ⟨w.heap.size, 3, none⟩ = some (.int .u64 0) := hs8.out.cell 3 _ rfl
          have e4 : w9.cell? ⟨w.heap.size, 4, none⟩ = some (.int .i64 0) := hs8.out.cell 4 _ rfl
          have e5 : w9.cell? ⟨w.heap.size, 5, none⟩ = some (.int .u64 0) := hs8.out.cell 5 _ rfl
          have e6 : w9.cell? ⟨w.heap.size, 6, none⟩ = some (.int .i64 0) := hs8.out.cell 6 _ rfl
          have e7 : w9.cell? ⟨w.heap.size, 7, none⟩ = some (.int .u64 0) := hs8.out.cell 7 _ rfl
          have e8 : w9.cell? ⟨w.heap.size, 8, none⟩ = some (.int .i64 0) := hs8.out.cell 8 _ rfl
          have e9 : w9.cell? ⟨w.heap.size, 9, none⟩ = some (.int .u64 0) := hs8.out.cell 9 _ rfl
          have e10 : w9.cell? ⟨w.heap.size, 10, none⟩ = some (.int .i64 0) := hs8.out.cell 10 _ rfl
          have e11 : w9.cell? ⟨w.heap.size, 11, none⟩ = some (.slice none 0 0) := hs8.out.cell 11 _ rfl
          refine bodyPost_ret (v := .tuple #[.agg #[.int .i64 0, .int .i64 0, .string ⟨#[]⟩, .int .u64 0, .int .i64 0, .int .u64 0, .int .i64 0, .int .u64 0, .int .i64 0, .int .u64 0, .int .i64 0, .slice none 0 0], .bool false]) (take_res _ _ _ rfl rfl e0 e1 e2 e3 e4 e5 e6 e7 e8 e9 e10 e11) rfl ⟨ho8.out, ?_⟩
          rw [HON.out]
          exact ⟨bnZ, none, 0, 0, rfl⟩
        | some L =>
          have HTT := Lib.hid (HT.out b (some L) wr HRD.out)
          go_wp2_with fail
          refine HFN.out.mono ?_
          rintro e wx ⟨rfl, hwx⟩
          rw [← hwx]
          clear hwx wx HFN
          go_wp2_with fail
          refine HTT.out.mono ?_
          rintro e w3 ⟨hoff, hm⟩
          obtain ⟨a, p2, l2, c2, ys, rfl, hyes, hno⟩ : ∃ a p2 l2 c2 ys, e = .returned (.tuple #[.agg (bnA a p2 l2 c2), .bool ys]) ∧ (ys = true → ∃ r, tkN d L = some (a, r) ∧ RdQ rfE 12 w3 (fun k => wr.heap.size ≤ k) d a p2 l2 ∧ Rdr w3 b (some r)) ∧ (ys = false → tkN d L = none) := by
            have hbind : (some L : Option (List UInt8)).bind (tkN d) = tkN d L := rfl
            rw [hbind] at hm
            cases hT : tkN d L with
            | none =>
              rw [hT] at hm
              obtain ⟨n, p, l, c', rfl⟩ := hm
              exact ⟨n, p, l, c', false, rfl, (fun h => (by cases h)), fun _ => rfl⟩
            | some x =>
              obtain ⟨n, r⟩ := x
              rw [hT] at hm
              obtain ⟨p, cap, rfl, h1, h2⟩ := hm
              exact ⟨n, p, _, cap, true, rfl, (fun _ => ⟨r, rfl, h1, h2⟩), (fun h => (by cases h))⟩
          have HY := Lib.hid hyes
          have HNO := Lib.hid hno
          have hG3 : Hid (BlkC w3 g (bnA (.mk k hd.u hd.t hd.f hd.g []) q i cp) tNr) := hoff.blk (by omega) HGr.out
          have hH3 : Hid (BlkC w3 w.heap.size (bnA bnZ none 0 0) tNr) := hoff.blk (by omega) HHr.out
          have hO3 := Lib.hid (HOr.out.trans hoff)
          have hlt3 : ∀ k', (Value.slice q i cp).ownBlock = some k' → g + 1 ≤ k' ∧ k' < wr.heap.size := fun k' h => HOW.out.lt k' h
          have HLT := Lib.hid hlt3
          have HRW : Hid (w3.ownsRow (g + 1) tNr 12 (.slice q i cp) i (acc.flatMap (kidQ rfE))) := row_carry HOW.out (fun k' h => hoff.block k' (hlt3 k' h).2 (by have := (hlt3 k' h).1; omega))
          have HOFF := Lib.hid hoff
          have hs3 := hoff.size
          clear hm hyes hno hlt3 hoff HTT
          rw [bnA_eq]
          go_upto_region 27 with fail
          have e1 : w3.alloc (.cells #[.int .i64 a.kind, .int .i64 a.num, .string ⟨a.text.toArray⟩, .int .u64 a.frm.1.1, .int .i64 a.frm.1.2, .int .u64 a.frm.2.1, .int .i64 a.frm.2.2, .int .u64 a.tor.1.1, .int .i64 a.tor.1.2, .int .u64 a.tor.2.1, .int .i64 a.tor.2.2, .slice p2 l2 c2] tNr) = w3.alloc (.cells (bnA a p2 l2 c2) tNr) := rfl
          rw [e1]
          clear e1
          have hN4 := Lib.hid (blk_new w3 (bnA a p2 l2 c2) tNr)
          have hbn : Below w3.heap.size w3 (w3.alloc (.cells (bnA a p2 l2 c2) tNr)) := by (repeat' (first | (with_reducible exact Below.refl _ _) | (with_reducible assumption) | (with_reducible refine Below.alloc ?_ ?_ _) | (with_reducible refine bel_drewN ?_ _) | (with_reducible refine Below.drew ?_) | (with_reducible refine Below.setCell ?_ ?_ _) | (with_reducible refine bel_call ‹_› ?_ ?_) | go_size))
          have hG4 := Lib.hid (hG3.out.below hbn)
          have HRW4 := Lib.hid (row_below HRW.out hbn)
          have hsz : (w3.alloc (.cells (bnA a p2 l2 c2) tNr)).heap.size = w3.heap.size + 1 := World.size_alloc _ _
          have HSZ := Lib.hid hsz
          obtain ⟨w4, hw4⟩ : ∃ w4, w3.alloc (.cells (bnA a p2 l2 c2) tNr) = w4 := ⟨_, rfl⟩
          have HW4 := Lib.hid hw4
          rw [hw4] at hN4 hG4 HRW4 HSZ ⊢
          clear hbn hsz hw4 HRW
          have g11 : w4.cell? ⟨g, 11, none⟩ = some (.slice q i cp) := hG4.out.cell 11 _ rfl
          refine wp_region_lit ?_
          refine wpList_plain rfl fun K hK => ?_
          go_simp
          refine hK _ _ ?_
          clear hK K
          refine wpList_plain rfl fun K hK => ?_
          go_simp
          refine hK _ _ ?_
          clear hK K
          refine wpList_load_mid (by rfl) _ _ (by rfl) w3.heap.size 0 (by rfl) [.int .i64 a.kind, .int .i64 a.num, .string ⟨a.text.toArray⟩, .int .u64 a.frm.1.1, .int .i64 a.frm.1.2, .int .u64 a.frm.2.1, .int .i64 a.frm.2.2, .int .u64 a.tor.1.1, .int .i64 a.tor.1.2, .int .u64 a.tor.2.1, .int .i64 a.tor.2.2, .slice p2 l2 c2] _ (block_range hN4.out [.int .i64 a.kind, .int .i64 a.num, .string ⟨a.text.toArray⟩, .int .u64 a.frm.1.1, .int .i64 a.frm.1.2, .int .u64 a.frm.2.1, .int .i64 a.frm.2.2, .int .u64 a.tor.1.1, .int .i64 a.tor.1.2, .int .u64 a.tor.2.1, .int .i64 a.tor.2.2, .slice p2 l2 c2] rfl) Tryz.underlying38 rfl (by kernel_rfl) ?_
          go_simp
          refine wpList_plain rfl fun K hK => ?_
          go_simp
          refine hK _ _ ?_
          clear hK K
          refine wpList_append_own_at _ rfl _ _ _ rfl (g + 1) tNr i0 _ 12 120 Tryz.underlying36 hi hz0 hz1 hz2 rfl (by decide) _ _ _ rfl (HRW4.out.alloc _) ⟨w4.heap.size, 0, none⟩ 1 1 (kidQ rfE (a, p2, l2, c2)) rfl rfl (newBn w4 a p2 l2 c2) ?c2 ?c3 ?c4 ?c5 ?_
          case c2 => exact kidR_one (a, p2, l2, c2)
          case c3 => unfold maxLen; omega
          case c4 => omega
          case c5 => rw [World.size_alloc, HSZ.out]; omega
          intro v' w5 hown5 hgrow5 _ hat5
          have hgw3 : g < w3.heap.size := by omega
          have hB35 : Hid (Below (g + 1) w3 w5) := by
            unfold Hid
            have h1 : Below (g + 1) w3 w4 := by
              rw [← HW4.out]
              exact (Below.refl _ _).alloc (by omega) _
            exact (h1.alloc (by rw [HSZ.out]; omega) _).grown hgrow5 (by rw [World.size_alloc, HSZ.out]; omega) (fun k' hk' => (HLT.out k' hk').1)
          have hG5 : Hid (BlkC w5 g (bnA (.mk k hd.u hd.t hd.f hd.g []) q i cp) tNr) := (hB35.out.block g (by omega)).trans hG3.out
          have hH5 : Hid (BlkC w5 w.heap.size (bnA bnZ none 0 0) tNr) := (hB35.out.block w.heap.size (by omega)).trans hH3.out
          have hO5 : Hid (Off b w w5) := ⟨hB35.out.os.trans hO3.out.os, hB35.out.tape.trans hO3.out.tape, hB35.out.output.trans hO3.out.output, Nat.le_trans hO3.out.size hB35.out.size, fun k' hk' hn' => (hB35.out.block k' (by omega)).trans (hO3.out.block k' hk' hn')⟩
          have HOW5 : Hid (w5.ownsRow (g + 1) tNr 12 v' (i + 1) ((acc ++ [(a, p2, l2, c2)]).flatMap (kidQ rfE))) := by
            unfold Hid
            rw [flat_snoc]
            exact hown5
          obtain ⟨q5, cp5, hv5, _, _, _, _⟩ := RdG.of_own kidR_len (by rw [List.length_append, List.length_singleton, HLA.out]) HOW5.out
          subst hv5
          have HKN : Hid (ys = true → ∀ x ∈ acc ++ [(a, p2, l2, c2)], RdQ rfE 12 (w5.setCell ⟨g, 11, none⟩ (.slice q5 (i + 1) cp5)) (okQ (g + 1) (w5.setCell ⟨g, 11, none⟩ (.slice q5 (i + 1) cp5)) (.slice q5 (i + 1) cp5)) d x.1 x.2.1 x.2.2.1) := fun hy => by
            obtain ⟨r, _, hrq, _⟩ := HY.out hy
            have hg5 := hgrow5
            have ha5 := hat5
            rw [← HW4.out] at hg5 ha5
            exact kidsB_on (by omega) hglr HOFF.out hg5 ha5 HLT.out HKD.out hrq
          have hs5 := hB35.out.size
          clear hown5 hgrow5 hat5 HOFF HKD HOW HRW4 hN4 hG4 g11 hG3 hH3 hO3 HW4 HSZ
          have g11 : w5.cell? ⟨g, 11, none⟩ = some (.slice q i cp) := hG5.out.cell 11 _ rfl
          have y11 := hG5.out.fz 11
          go_simp
          go_wp2_with fail
          go_roundg (gk - 1)
          case measure => omega
          case rel =>
            refine ⟨i + 1, ys, q5, cp5, by omega, by go_num, rfl, block_setCell hG5.out _, (heap_setCell_other _ _ _ _ (by show w.heap.size ≠ g; omega)).trans hH5.out, hO5.out.set_new (by omega) _ _, by rw [World.size_setCell]; omega, ?_⟩
            have hci : c - i = (c - (i + 1)) + 1 := by omega
            have hO' := HOO.out
            rw [Option.bind_some, hci, tkL_succ] at hO'
            cases ys with
            | false =>
              right
              rw [HNO.out rfl] at hO'
              exact ⟨rfl, hO'⟩
            | true =>
              left
              obtain ⟨r, hTd, hrq, hrr⟩ := HY.out rfl
              refine ⟨rfl, some r, acc ++ [(a, p2, l2, c2)], ?_, row_carry HOW5.out (fun k' h => heap_setCell_other _ _ _ _ (by have := (HOW5.out.lt k' h).1; show k' ≠ g; omega)), HKN.out rfl, by rw [List.length_append, HLA.out]; rfl, ?_⟩
              · exact (hrr.low (hB35.out.mono (by omega))).low (Below.setCell (Below.refl _ _) (by show b + 1 ≤ g; omega) _)
              · rw [hTd] at hO'
                rw [hO']
                simp only [Option.bind_some, Option.map_map]
                congr 1
                funext x
                simp
    · obtain rfl : i = c := by omega
      have hli : ¬ (i : Int) < (i : Int) := by omega
      obtain ⟨S', hrd, hOx⟩ := HST.out.ends
      have HE := Lib.hid hOx
      have HRD := Lib.hid hrd
      clear hOx hrd HST HT
      go_upto_region 29 with fail
      have Y0 := KeptO.cell (b := w.heap.size) (by omega) (HGr.out.cell 0 (.int .i64 (k : Nat)) rfl)
      have Y1 := KeptO.cell (b := w.heap.size) (by omega) (HGr.out.cell 1 (.int .i64 hd.u) rfl)
      have Y2 := KeptO.cell (b := w.heap.size) (by omega) (HGr.out.cell 2 (.string ⟨hd.t.toArray⟩) rfl)
      have Y3 := KeptO.cell (b := w.heap.size) (by omega) (HGr.out.cell 3 (.int .u64 hd.f.1.1) rfl)
      have Y4 := KeptO.cell (b := w.heap.size) (by omega) (HGr.out.cell 4 (.int .i64 hd.f.1.2) rfl)
      have Y5 := KeptO.cell (b := w.heap.size) (by omega) (HGr.out.cell 5 (.int .u64 hd.f.2.1) rfl)
      have Y6 := KeptO.cell (b := w.heap.size) (by omega) (HGr.out.cell 6 (.int .i64 hd.f.2.2) rfl)
      have Y7 := KeptO.cell (b := w.heap.size) (by omega) (HGr.out.cell 7 (.int .u64 hd.g.1.1) rfl)
      have Y8 := KeptO.cell (b := w.heap.size) (by omega) (HGr.out.cell 8 (.int .i64 hd.g.1.2) rfl)
      have Y9 := KeptO.cell (b := w.heap.size) (by omega) (HGr.out.cell 9 (.int .u64 hd.g.2.1) rfl)
      have Y10 := KeptO.cell (b := w.heap.size) (by omega) (HGr.out.cell 10 (.int .i64 hd.g.2.2) rfl)
      have Y11 := KeptO.cell (b := w.heap.size) (by omega) (HGr.out.cell 11 (.slice q i cp) rfl)
      have HFN := Lib.hid (fun (h : okv = true) W (hW : Below wr.heap.size wr W) => fine_any b S' W ((HRD.out h).below hW))
      have hglr' := hglr
      have fin : ∀ (W : World) (o : Bool), Hid (Below wr.heap.size wr W) → Hid (o = (okv && S'.isSome)) → Hid (∀ W', W' = W.setCells w.heap.size 0 #[.int .i64 (k : Nat), .int .i64 hd.u, .string ⟨hd.t.toArray⟩, .int .u64 hd.f.1.1, .int .i64 hd.f.1.2, .int .u64 hd.f.2.1, .int .i64 hd.f.2.2, .int .u64 hd.g.1.1, .int .i64 hd.g.1.2, .int .u64 hd.g.2.1, .int .i64 hd.g.2.2, .slice q i cp].toList → BlkC W' w.heap.size #[.int .i64 (k : Nat), .int .i64 hd.u, .string ⟨hd.t.toArray⟩, .int .u64 hd.f.1.1, .int .i64 hd.f.1.2, .int .u64 hd.f.2.1, .int .i64 hd.f.2.2, .int .u64 hd.g.1.1, .int .i64 hd.g.1.2, .int .u64 hd.g.2.1, .int .i64 hd.g.2.2, .slice q i cp] tNr ∧ Off w.heap.size wr W' ∧ TakP b (d + 1) O w (.returned (.tuple #[.agg #[.int .i64 (k : Nat), .int .i64 hd.u, .string ⟨hd.t.toArray⟩, .int .u64 hd.f.1.1, .int .i64 hd.f.1.2, .int .u64 hd.f.2.1, .int .i64 hd.f.2.2, .int .u64 hd.g.1.1, .int .i64 hd.g.1.2, .int .u64 hd.g.2.1, .int .i64 hd.g.2.2, .slice q i cp], .bool o])) W') := by
        intro W o hW ho W' hW'
        subst hW'
        have hH4 : BlkC W w.heap.size (bnA bnZ none 0 0) tNr := HHr.out.below hW.out
        have hbs : Below w.heap.size W (W.setCells w.heap.size 0 #[.int .i64 (k : Nat), .int .i64 hd.u, .string ⟨hd.t.toArray⟩, .int .u64 hd.f.1.1, .int .i64 hd.f.1.2, .int .u64 hd.f.2.1, .int .i64 hd.f.2.2, .int .u64 hd.g.1.1, .int .i64 hd.g.1.2, .int .u64 hd.g.2.1, .int .i64 hd.g.2.2, .slice q i cp].toList) := store_below (Nat.le_refl _) _ _ _ (Below.refl _ _)
        have hof : Off w.heap.size wr (W.setCells w.heap.size 0 #[.int .i64 (k : Nat), .int .i64 hd.u, .string ⟨hd.t.toArray⟩, .int .u64 hd.f.1.1, .int .i64 hd.f.1.2, .int .u64 hd.f.2.1, .int .i64 hd.f.2.2, .int .u64 hd.g.1.1, .int .i64 hd.g.1.2, .int .u64 hd.g.2.1, .int .i64 hd.g.2.2, .slice q i cp].toList) := ⟨hbs.os.trans hW.out.os, hbs.tape.trans hW.out.tape, hbs.output.trans hW.out.output, Nat.le_trans hW.out.size hbs.size, fun k' hk' hn' => (store_other hn' _ _ _).trans (hW.out.block k' hk')⟩
        refine ⟨store_block hH4 _ rfl, hof, (HOr.out.call hW.out).set_cells (Nat.le_refl _) _ _, ?_⟩
        have hE := HE.out
        unfold EndS at hE
        cases O with
        | none =>
          simp only [] at hE ⊢
          rw [ho.out, hE]
          exact ⟨.mk k hd.u hd.t hd.f hd.g [], q, i, cp, rfl⟩
        | some x =>
          obtain ⟨n, r⟩ := x
          simp only [] at hE ⊢
          obtain ⟨e1, e2, e3, e4, e5⟩ := hE
          refine ⟨q, cp, ?_, ?_, ?_⟩
          · rw [ho.out, e1, e2, e4, e3]
            rfl
          · rw [e4]
            refine RdQ.carry (fun k' h1 h2 => ⟨by show w.heap.size ≤ k'; omega, ?_⟩) e5
            rw [store_other (by omega), hW.out.block k' h2]
          · have h1 := HRD.out e1
            rw [e2] at h1
            exact (h1.below hW.out).low (store_below (by omega) _ _ _ (Below.refl _ _))
      have HFIN := Lib.hid fin
      clear fin HE
      have hBd : Hid (Below wr.heap.size wr wr.drew) := Below.drew (Below.refl _ _)
      cases okv
      · clear HFN
        refine wp_region_sched (fun wx => ∃ x : KeptO w.heap.size wr, wx = x.v) [([0, 1, 2, 3], 4), ([5], 6)] [7] (by kernel_rfl) (by kernel_rfl) (by kernel_rfl) rfl (keptO_drew _ _) ?_
        (unfold wpSeg; simp only [pick_nil, pick_cons, nthO_zero, nthO_succ, List.append])
        repeat (go_big_quiet_step (fail))
        refine wpQuiet_nil ?_
        go_wp2_with fail
        refine ⟨rfl, ⟨⟨wr.drew, Off.of_below hBd.out⟩, rfl⟩, ?_⟩
        (unfold wpSeg; simp only [pick_nil, pick_cons, nthO_zero, nthO_succ, List.append])
        repeat (go_big_quiet_step (fail))
        refine wpQuiet_nil ?_
        have hHz := HHr.out.below hBd.out
        refine wpList_store_mid (by rfl) _ _ _ (by rfl) w.heap.size 0 #[.int .i64 (k : Nat), .int .i64 hd.u, .string ⟨hd.t.toArray⟩, .int .u64 hd.f.1.1, .int .i64 hd.f.1.2, .int .u64 hd.f.2.1, .int .i64 hd.f.2.2, .int .u64 hd.g.1.1, .int .i64 hd.g.1.2, .int .u64 hd.g.2.1, .int .i64 hd.g.2.2, .slice q i cp] (by rfl) (by rfl) (block_there hHz 12 (Nat.le_refl _)) (by kernel_rfl) (by simp [Value.oneCell']) ?_
        have hfin := HFIN.out wr.drew false hBd (by rfl)
        clear hHz
        generalize wr.drew.setCells w.heap.size 0 #[.int .i64 (k : Nat), .int .i64 hd.u, .string ⟨hd.t.toArray⟩, .int .u64 hd.f.1.1, .int .i64 hd.f.1.2, .int .u64 hd.f.2.1, .int .i64 hd.f.2.2, .int .u64 hd.g.1.1, .int .i64 hd.g.1.2, .int .u64 hd.g.2.1, .int .i64 hd.g.2.2, .slice q i cp].toList = W6 at hfin ⊢
        obtain ⟨hA6, hO6, hT6⟩ := hfin.out W6 rfl
        have HA6 := Lib.hid hA6
        have HT6 := Lib.hid hT6
        clear hfin hA6 hT6
        go_simp
        go_wp2_with fail
        refine ⟨rfl, ⟨⟨W6, hO6⟩, rfl⟩, ?_⟩
        (unfold wpSeg; simp only [pick_nil, pick_cons, nthO_zero, nthO_succ, List.append])
        repeat (go_big_quiet_step (fail))
        refine wpQuiet_nil ?_
        have e0 : W6.cell? ⟨w.heap.size, 0, none⟩ = some (.int .i64 (k : Nat)) := HA6.out.cell 0 _ rfl
        have e1 : W6.cell? ⟨w.heap.size, 1, none⟩ = some (.int .i64 hd.u) := HA6.out.cell 1 _ rfl
        have e2 : W6.cell? ⟨w.heap.size, 2, none⟩ = some (.string ⟨hd.t.toArray⟩) := HA6.out.cell 2 _ rfl
        have e3 : W6.cell? ⟨w.heap.size, 3, none⟩ = some (.int .u64 hd.f.1.1) := HA6.out.cell 3 _ rfl
        have e4 : W6.cell? ⟨w.heap.size, 4, none⟩ = some (.int .i64 hd.f.1.2) := HA6.out.cell 4 _ rfl
        have e5 : W6.cell? ⟨w.heap.size, 5, none⟩ = some (.int .u64 hd.f.2.1) := HA6.out.cell 5 _ rfl
        have e6 : W6.cell? ⟨w.heap.size, 6, none⟩ = some (.int .i64 hd.f.2.2) := HA6.out.cell 6 _ rfl
        have e7 : W6.cell? ⟨w.heap.size, 7, none⟩ = some (.int .u64 hd.g.1.1) := HA6.out.cell 7 _ rfl
        have e8 : W6.cell? ⟨w.heap.size, 8, none⟩ = some (.int .i64 hd.g.1.2) := HA6.out.cell 8 _ rfl
        have e9 : W6.cell? ⟨w.heap.size, 9, none⟩ = some (.int .u64 hd.g.2.1) := HA6.out.cell 9 _ rfl
        have e10 : W6.cell? ⟨w.heap.size, 10, none⟩ = some (.int .i64 hd.g.2.2) := HA6.out.cell 10 _ rfl
        have e11 : W6.cell? ⟨w.heap.size, 11, none⟩ = some (.slice q i cp) := HA6.out.cell 11 _ rfl
        go_simp
        iterate 2 (first | go_values | go_skip | go_guarded | go_step | go_upon)
        refine bodyPost_ret (v := .tuple #[.agg #[.int .i64 (k : Nat), .int .i64 hd.u, .string ⟨hd.t.toArray⟩, .int .u64 hd.f.1.1, .int .i64 hd.f.1.2, .int .u64 hd.f.2.1, .int .i64 hd.f.2.2, .int .u64 hd.g.1.1, .int .i64 hd.g.1.2, .int .u64 hd.g.2.1, .int .i64 hd.g.2.2, .slice q i cp], .bool false]) (by simp only [results, Tryz.results43]; go_simp) rfl HT6.out
      · have HFN2 := Lib.hid (HFN.out rfl wr.drew hBd.out)
        clear HFN
        refine wp_region_sched (fun wx => ∃ x : KeptO w.heap.size wr, wx = x.v) [([0, 1, 2, 3], 4), ([5], 6)] [7] (by kernel_rfl) (by kernel_rfl) (by kernel_rfl) rfl (keptO_drew _ _) ?_
        (unfold wpSeg; simp only [pick_nil, pick_cons, nthO_zero, nthO_succ, List.append])
        repeat (go_big_quiet_step (fail))
        refine wpQuiet_nil ?_
        go_wp2_with fail
        refine HFN2.out.mono ?_
        rintro e wx ⟨rfl, hwx⟩
        rw [← hwx]
        clear hwx wx
        go_wp2_with fail
        refine ⟨rfl, ⟨⟨wr.drew, Off.of_below hBd.out⟩, rfl⟩, ?_⟩
        (unfold wpSeg; simp only [pick_nil, pick_cons, nthO_zero, nthO_succ, List.append])
        repeat (go_big_quiet_step (fail))
        refine wpQuiet_nil ?_
        have hHz := HHr.out.below hBd.out
        refine wpList_store_mid (by rfl) _ _ _ (by rfl) w.heap.size 0 #[.int .i64 (k : Nat), .int .i64 hd.u, .string ⟨hd.t.toArray⟩, .int .u64 hd.f.1.1, .int .i64 hd.f.1.2, .int .u64 hd.f.2.1, .int .i64 hd.f.2.2, .int .u64 hd.g.1.1, .int .i64 hd.g.1.2, .int .u64 hd.g.2.1, .int .i64 hd.g.2.2, .slice q i cp] (by rfl) (by rfl) (block_there hHz 12 (Nat.le_refl _)) (by kernel_rfl) (by simp [Value.oneCell']) ?_
        have hfin := HFIN.out wr.drew S'.isSome hBd (by rfl)
        clear hHz
        generalize wr.drew.setCells w.heap.size 0 #[.int .i64 (k : Nat), .int .i64 hd.u, .string ⟨hd.t.toArray⟩, .int .u64 hd.f.1.1, .int .i64 hd.f.1.2, .int .u64 hd.f.2.1, .int .i64 hd.f.2.2, .int .u64 hd.g.1.1, .int .i64 hd.g.1.2, .int .u64 hd.g.2.1, .int .i64 hd.g.2.2, .slice q i cp].toList = W6 at hfin ⊢
        obtain ⟨hA6, hO6, hT6⟩ := hfin.out W6 rfl
        have HA6 := Lib.hid hA6
        have HT6 := Lib.hid hT6
        clear hfin hA6 hT6
        go_simp
        go_wp2_with fail
        refine ⟨rfl, ⟨⟨W6, hO6⟩, rfl⟩, ?_⟩
        (unfold wpSeg; simp only [pick_nil, pick_cons, nthO_zero, nthO_succ, List.append])
        repeat (go_big_quiet_step (fail))
        refine wpQuiet_nil ?_
        have e0 : W6.cell? ⟨w.heap.size, 0, none⟩ = some (.int .i64 (k : Nat)) := HA6.out.cell 0 _ rfl
        have e1 : W6.cell? ⟨w.heap.size, 1, none⟩ = some (.int .i64 hd.u) := HA6.out.cell 1 _ rfl
        have e2 : W6.cell? ⟨w.heap.size, 2, none⟩ = some (.string ⟨hd.t.toArray⟩) := HA6.out.cell 2 _ rfl
        have e3 : W6.cell? ⟨w.heap.size, 3, none⟩ = some (.int .u64 hd.f.1.1) := HA6.out.cell 3 _ rfl
        have e4 : W6.cell? ⟨w.heap.size, 4, none⟩ = some (.int .i64 hd.f.1.2) := HA6.out.cell 4 _ rfl
        have e5 : W6.cell? ⟨w.heap.size, 5, none⟩ = some (.int .u64 hd.f.2.1) := HA6.out.cell 5 _ rfl
        have e6 : W6.cell? ⟨w.heap.size, 6, none⟩ = some (.int .i64 hd.f.2.2) := HA6.out.cell 6 _ rfl
        have e7 : W6.cell? ⟨w.heap.size, 7, none⟩ = some (.int .u64 hd.g.1.1) := HA6.out.cell 7 _ rfl
        have e8 : W6.cell? ⟨w.heap.size, 8, none⟩ = some (.int .i64 hd.g.1.2) := HA6.out.cell 8 _ rfl
        have e9 : W6.cell? ⟨w.heap.size, 9, none⟩ = some (.int .u64 hd.g.2.1) := HA6.out.cell 9 _ rfl
        have e10 : W6.cell? ⟨w.heap.size, 10, none⟩ = some (.int .i64 hd.g.2.2) := HA6.out.cell 10 _ rfl
        have e11 : W6.cell? ⟨w.heap.size, 11, none⟩ = some (.slice q i cp) := HA6.out.cell 11 _ rfl
        go_simp
        iterate 2 (first | go_values | go_skip | go_guarded | go_step | go_upon)
        refine bodyPost_ret (v := .tuple #[.agg #[.int .i64 (k : Nat), .int .i64 hd.u, .string ⟨hd.t.toArray⟩, .int .u64 hd.f.1.1, .int .i64 hd.f.1.2, .int .u64 hd.f.2.1, .int .i64 hd.f.2.2, .int .u64 hd.g.1.1, .int .i64 hd.g.1.2, .int .u64 hd.g.2.1, .int .i64 hd.g.2.2, .slice q i cp], .bool S'.isSome]) (by simp only [results, Tryz.results43]; go_simp) rfl HT6.out
theorem take_any : ∀ d, d ≤ 64 → TakeC d
  | 0, _ => take_s 0 (by omega) (fun d' h => by omega)
  | d + 1, h => take_s (d + 1) h (fun d' h' => (show d = d' from by omega) ▸ take_any d (by omega))
end Go.Proofs.YtjklbbmgjjdalaaGreatDoor.Bd
namespace Go.Proofs.YtjklbbmgjjdalaaGreatDoor.Bd
open Go.RowKit Go.Joins
def hdQ (k : Nat) (S : Option (List UInt8)) : Hd :=
  if k = 1 then ⟨wrap64 ((numR S).1 : Nat), [], rfZ, rfZ, true, (numR S).2⟩
  else if k = 2 ∨ k = 6 ∨ k = 7 then ⟨0, (bytR S).1, rfZ, rfZ, true, (bytR S).2⟩
  else if k = 3 then ⟨0, [], (prR S).1, rfZ, true, (prR S).2⟩
  else if k = 4 then ⟨0, [], (prR S).1, (prR (prR S).2).1, true, (prR (prR S).2).2⟩
  else ⟨0, [], rfZ, rfZ, true, S⟩
def rkN : Nat → List UInt8 → Option (Bn × List UInt8)
  | 0, _ => none
  | d + 1, L => match intR 8 (some L) with
    | (_, none) => none
    | (k, some L1) => if k = 0 then none else
      (match cP k (hdQ k (some L1)).S with
        | (_, none) => none
        | (c, some L3) => (tkL (rkN d) c L3).map fun x => (.mk k (hdQ k (some L1)).u (hdQ k (some L1)).t (hdQ k (some L1)).f (hdQ k (some L1)).g x.1, x.2))
def rtP (x : Rfp) : Bool := rtI x.1 && rtI x.2
end Go.Proofs.YtjklbbmgjjdalaaGreatDoor.Bd
