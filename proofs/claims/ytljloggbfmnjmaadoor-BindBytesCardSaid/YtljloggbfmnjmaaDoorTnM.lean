/- Trees over stamps: bind.Take, the document's Same: the walks. Printed by gen_tnm.py. -/
import Derived.Test.YtljloggbfmnjmaaDoorTnJ
import Derived.Test.YtljloggbfmnjmaaDoorTnK
import Derived.Test.YtljloggbfmnjmaaDoorResR
import Derived.ChangeKeysEq
set_option linter.unusedSimpArgs false
set_option linter.unusedVariables false
namespace Go.Proofs.YtljloggbfmnjmaaDoor
open Go.RowKit Go.Joins

/-- What bind.Take answers. -/
def BTkP (b : Nat) (O : Option (Bn × List UInt8)) (w : World) (e : Ending) (w' : World) : Prop := Off b w w' ∧ match O with
  | none => e = .returned (.tuple #[.agg (bnA bnZ none 0 0), .bool false])
  | some (x, r) => ∃ p cap, e = .returned (.tuple #[.agg (bnA x p x.args.length cap), .bool true]) ∧ RdQ rfE 12 w' okA 64 x p x.args.length ∧ Rdr w' b (some r)
theorem tkN_good (d : Nat) (L : List UInt8) (x : Bn) (r : List UInt8) (h : tkN d L = some (x, r)) : Gd x ∧ r.length ≤ L.length := by
  rw [tkN_is] at h
  cases hk : rkN d L with
  | none => rw [hk] at h; cases h
  | some z =>
    rw [hk] at h
    simp only [Option.bind_some] at h
    split at h
    · cases h
      exact rkN_good d L _ _ hk
    · cases h
set_option maxRecDepth 100000 in
set_option maxHeartbeats 16000000 in
theorem btake2_any (b : Nat) (L : List UInt8) (w : World) (hrd : Rdr w b (some L)) : Calls Tryd.prog 12 #[.pointer (some ⟨b, 0, none⟩)] w (BTkP b (takB L) w) := by
  have hA0 : Hid (BlkC (w.alloc (.cells (bnA bnZ none 0 0) tNr)) w.heap.size (bnA bnZ none 0 0) tNr) := heap_alloc_new w _
  have hAB : Below w.heap.size w (w.alloc (.cells (bnA bnZ none 0 0) tNr)) := by (repeat' (first | (with_reducible exact Below.refl _ _) | (with_reducible assumption) | (with_reducible refine Below.alloc ?_ ?_ _) | (with_reducible refine bel_drewN ?_ _) | (with_reducible refine Below.drew ?_) | (with_reducible refine Below.setCell ?_ ?_ _) | (with_reducible refine bel_call ‹_› ?_ ?_) | go_size))
  have hR0 := Lib.hid (hrd.below hAB)
  have hO0 := Lib.hid (Off.of_below (b := b) hAB)
  have hlt := hrd.lt
  have HRK := Lib.hid (fun x r h => (tkN_good 64 L x r h).1)
  obtain ⟨O, hO⟩ : ∃ O, takB L = O := ⟨_, rfl⟩
  have HO : Hid (O = (tkN 64 L).bind fun x => if rtT x.1 64 = true then some x else none) := by unfold Hid; rw [← hO, takB_prog]
  rw [hO]
  clear hO hrd hAB
  go_enter Tryd.func12, Tryd.ntmps12
  go_upto_region 1 with fail
  have e0 : w.alloc (.cells #[.int .i64 0, .int .i64 0, .string ⟨#[]⟩, .int .u64 0, .int .i64 0, .int .u64 0, .int .i64 0, .int .u64 0, .int .i64 0, .int .u64 0, .int .i64 0, .slice none 0 0] tNr) = w.alloc (.cells (bnA bnZ none 0 0) tNr) := rfl
  rw [e0]
  clear e0
  generalize w.alloc (.cells (bnA bnZ none 0 0) tNr) = w0 at hA0 hR0 hO0 ⊢
  have HT := Lib.hid (take_any 64 (by omega) b (some L) w0 hR0.out)
  clear hR0
  go_wp2_with fail
  refine HT.out.mono ?_
  rintro e w2 ⟨hoff, hm⟩
  rw [show (some L : Option (List UInt8)).bind (tkN 64) = tkN 64 L from rfl] at hm
  have hO2 := Lib.hid (hO0.out.trans hoff)
  have hH2 : Hid (BlkC w2 w.heap.size (bnA bnZ none 0 0) tNr) := hoff.blk (by omega) hA0.out
  have hs0 : w.heap.size < w0.heap.size := lt_some hA0.out
  have hs2 := hoff.size
  clear hoff HT hA0 hO0
  cases hk : tkN 64 L with
  | none =>
    rw [hk] at hm
    obtain ⟨x, p1, l1, c1, rfl⟩ := hm
    have HON : Hid (O = none) := by unfold Hid; rw [HO.out, hk]; rfl
    rw [bnA_eq]
    clear hk HO HRK
    go_upto_region 2 with fail
    have e1 : w2.alloc (.cells #[.int .i64 x.kind, .int .i64 x.num, .string ⟨x.text.toArray⟩, .int .u64 x.frm.1.1, .int .i64 x.frm.1.2, .int .u64 x.frm.2.1, .int .i64 x.frm.2.2, .int .u64 x.tor.1.1, .int .i64 x.tor.1.2, .int .u64 x.tor.2.1, .int .i64 x.tor.2.2, .slice p1 l1 c1] tNr) = w2.alloc (.cells (bnA x p1 l1 c1) tNr) := rfl
    rw [e1]
    clear e1
    have hbn : Below w2.heap.size w2 (w2.alloc (.cells (bnA x p1 l1 c1) tNr)) := by (repeat' (first | (with_reducible exact Below.refl _ _) | (with_reducible assumption) | (with_reducible refine Below.alloc ?_ ?_ _) | (with_reducible refine bel_drewN ?_ _) | (with_reducible refine Below.drew ?_) | (with_reducible refine Below.setCell ?_ ?_ _) | (with_reducible refine bel_call ‹_› ?_ ?_) | go_size))
    have hO3 := Lib.hid (hO2.out.call hbn)
    have hH3 := Lib.hid (hH2.out.below hbn)
    clear hbn hO2 hH2
    generalize w2.alloc (.cells (bnA x p1 l1 c1) tNr) = w3 at hO3 hH3 ⊢
    go_upto_region 3 with fail
    refine wp_region_lit ?_
    refine wpList_plain rfl fun K hK => ?_
    go_simp
    refine hK _ _ ?_
    clear hK K
    refine wpList_store_mid (by rfl) _ _ _ (by rfl) w.heap.size 0 #[.int .i64 0, .int .i64 0, .string ⟨#[]⟩, .int .u64 0, .int .i64 0, .int .u64 0, .int .i64 0, .int .u64 0, .int .i64 0, .int .u64 0, .int .i64 0, .slice none 0 0] (by rfl) (by rfl) (block_there hH3.out 12 (Nat.le_refl _)) (by kernel_rfl) (by simp [Value.oneCell']) ?_
    have hs8 : Hid (BlkC (w3.setCells w.heap.size 0 #[.int .i64 0, .int .i64 0, .string ⟨#[]⟩, .int .u64 0, .int .i64 0, .int .u64 0, .int .i64 0, .int .u64 0, .int .i64 0, .int .u64 0, .int .i64 0, .slice none 0 0].toList) w.heap.size (bnA bnZ none 0 0) tNr) := store_block hH3.out _ rfl
    have ho8 : Hid (Off b w (w3.setCells w.heap.size 0 #[.int .i64 0, .int .i64 0, .string ⟨#[]⟩, .int .u64 0, .int .i64 0, .int .u64 0, .int .i64 0, .int .u64 0, .int .i64 0, .int .u64 0, .int .i64 0, .slice none 0 0].toList)) := hO3.out.set_cells (Nat.le_refl _) _ _
    generalize w3.setCells w.heap.size 0 #[.int .i64 0, .int .i64 0, .string ⟨#[]⟩, .int .u64 0, .int .i64 0, .int .u64 0, .int .i64 0, .int .u64 0, .int .i64 0, .int .u64 0, .int .i64 0, .slice none 0 0].toList = w9 at hs8 ho8 ⊢
    go_simp
    go_wp2_with fail
    try simp only [Exit.inBlock, Exit.then]
    refine bodyPost_ret (results_row_tmp rfl _ _ w.heap.size tNr (bnA bnZ none 0 0) (0, 0) _ rfl hs8.out Tryd.underlying48 rfl (by kernel_rfl) _ rfl) rfl ⟨ho8.out, ?_⟩
    rw [HON.out]
    rfl
  | some z =>
    obtain ⟨x, r⟩ := z
    rw [hk] at hm
    obtain ⟨p1, c1, rfl, hq, hrd⟩ := hm
    have HO1 : Hid (O = if rtT x 64 = true then some (x, r) else none) := by unfold Hid; rw [HO.out, hk]; rfl
    have hgd := HRK.out x r hk
    have HRD := Lib.hid hrd
    have HQ := Lib.hid (hq.weak (ok' := fun k' => w.heap.size < k') (fun k' h => by omega))
    rw [bnA_eq]
    clear hk HO hrd HRK hq
    go_upto_region 2 with fail
    obtain ⟨l1, hl1⟩ : ∃ l, x.args.length = l := ⟨_, rfl⟩
    rw [hl1] at HQ ⊢
    have HL1 := Lib.hid hl1
    clear hl1
    have e1 : w2.alloc (.cells #[.int .i64 x.kind, .int .i64 x.num, .string ⟨x.text.toArray⟩, .int .u64 x.frm.1.1, .int .i64 x.frm.1.2, .int .u64 x.frm.2.1, .int .i64 x.frm.2.2, .int .u64 x.tor.1.1, .int .i64 x.tor.1.2, .int .u64 x.tor.2.1, .int .i64 x.tor.2.2, .slice p1 l1 c1] tNr) = w2.alloc (.cells (bnA x p1 l1 c1) tNr) := rfl
    rw [e1]
    clear e1
    have hbn : Below w2.heap.size w2 (w2.alloc (.cells (bnA x p1 l1 c1) tNr)) := by (repeat' (first | (with_reducible exact Below.refl _ _) | (with_reducible assumption) | (with_reducible refine Below.alloc ?_ ?_ _) | (with_reducible refine bel_drewN ?_ _) | (with_reducible refine Below.drew ?_) | (with_reducible refine Below.setCell ?_ ?_ _) | (with_reducible refine bel_call ‹_› ?_ ?_) | go_size))
    have hO3 := Lib.hid (hO2.out.call hbn)
    have hH3 := Lib.hid (hH2.out.below hbn)
    have hR3 := Lib.hid (HRD.out.below hbn)
    have hQ3 := Lib.hid (HQ.out.below hbn)
    have hN3 : Hid (BlkC (w2.alloc (.cells (bnA x p1 l1 c1) tNr)) w2.heap.size (bnA x p1 l1 c1) tNr) := heap_alloc_new w2 _
    have hg2 : w.heap.size < w2.heap.size := lt_some hH2.out
    clear hbn hO2 hH2 HRD HQ
    generalize w2.alloc (.cells (bnA x p1 l1 c1) tNr) = w3 at hO3 hH3 hR3 hQ3 hN3 ⊢
    generalize w2.heap.size = g at hN3 hg2 ⊢
    have HRC := Lib.hid (BRight_any 64 x p1 l1 c1 w3 (hQ3.out.weak (fun _ _ => trivial)) hgd.sm)
    rw [bnA_eq] at HRC
    obtain ⟨rg, hrg⟩ : ∃ rg, rtT x 64 = rg := ⟨_, rfl⟩
    rw [hrg] at HRC HO1
    clear hgd hrg
    have e0 : w3.cell? ⟨g, 0, none⟩ = some (.int .i64 x.kind) := hN3.out.cell 0 _ rfl
    have e1 : w3.cell? ⟨g, 1, none⟩ = some (.int .i64 x.num) := hN3.out.cell 1 _ rfl
    have e2 : w3.cell? ⟨g, 2, none⟩ = some (.string ⟨x.text.toArray⟩) := hN3.out.cell 2 _ rfl
    have e3 : w3.cell? ⟨g, 3, none⟩ = some (.int .u64 x.frm.1.1) := hN3.out.cell 3 _ rfl
    have e4 : w3.cell? ⟨g, 4, none⟩ = some (.int .i64 x.frm.1.2) := hN3.out.cell 4 _ rfl
    have e5 : w3.cell? ⟨g, 5, none⟩ = some (.int .u64 x.frm.2.1) := hN3.out.cell 5 _ rfl
    have e6 : w3.cell? ⟨g, 6, none⟩ = some (.int .i64 x.frm.2.2) := hN3.out.cell 6 _ rfl
    have e7 : w3.cell? ⟨g, 7, none⟩ = some (.int .u64 x.tor.1.1) := hN3.out.cell 7 _ rfl
    have e8 : w3.cell? ⟨g, 8, none⟩ = some (.int .i64 x.tor.1.2) := hN3.out.cell 8 _ rfl
    have e9 : w3.cell? ⟨g, 9, none⟩ = some (.int .u64 x.tor.2.1) := hN3.out.cell 9 _ rfl
    have e10 : w3.cell? ⟨g, 10, none⟩ = some (.int .i64 x.tor.2.2) := hN3.out.cell 10 _ rfl
    have e11 : w3.cell? ⟨g, 11, none⟩ = some (.slice p1 l1 c1) := hN3.out.cell 11 _ rfl
    go_wp2_with fail
    refine HRC.out.mono ?_
    rintro e w4 ⟨rfl, hb4⟩
    have hO4 := Lib.hid (hO3.out.call hb4)
    have hH4 := Lib.hid (hH3.out.below hb4)
    have hN4 := Lib.hid (hN3.out.below hb4)
    have hQ4 := Lib.hid (hQ3.out.below hb4)
    have hR4 := Lib.hid (hR3.out.below hb4)
    clear hb4 HRC hO3 hH3 hN3 hQ3 hR3 e0 e1 e2 e3 e4 e5 e6 e7 e8 e9 e10 e11
    cases rg
    · have HON : Hid (O = none) := HO1.out
      clear HO1
      go_upto_region 3 with fail
      refine wp_region_lit ?_
      refine wpList_plain rfl fun K hK => ?_
      go_simp
      refine hK _ _ ?_
      clear hK K
      refine wpList_store_mid (by rfl) _ _ _ (by rfl) w.heap.size 0 #[.int .i64 0, .int .i64 0, .string ⟨#[]⟩, .int .u64 0, .int .i64 0, .int .u64 0, .int .i64 0, .int .u64 0, .int .i64 0, .int .u64 0, .int .i64 0, .slice none 0 0] (by rfl) (by rfl) (block_there hH4.out 12 (Nat.le_refl _)) (by kernel_rfl) (by simp [Value.oneCell']) ?_
      have hs8 : Hid (BlkC (w4.setCells w.heap.size 0 #[.int .i64 0, .int .i64 0, .string ⟨#[]⟩, .int .u64 0, .int .i64 0, .int .u64 0, .int .i64 0, .int .u64 0, .int .i64 0, .int .u64 0, .int .i64 0, .slice none 0 0].toList) w.heap.size (bnA bnZ none 0 0) tNr) := store_block hH4.out _ rfl
      have ho8 : Hid (Off b w (w4.setCells w.heap.size 0 #[.int .i64 0, .int .i64 0, .string ⟨#[]⟩, .int .u64 0, .int .i64 0, .int .u64 0, .int .i64 0, .int .u64 0, .int .i64 0, .int .u64 0, .int .i64 0, .slice none 0 0].toList)) := hO4.out.set_cells (Nat.le_refl _) _ _
      generalize w4.setCells w.heap.size 0 #[.int .i64 0, .int .i64 0, .string ⟨#[]⟩, .int .u64 0, .int .i64 0, .int .u64 0, .int .i64 0, .int .u64 0, .int .i64 0, .int .u64 0, .int .i64 0, .slice none 0 0].toList = w9 at hs8 ho8 ⊢
      go_simp
      go_wp2_with fail
      try simp only [Exit.inBlock, Exit.then]
      refine bodyPost_ret (results_row_tmp rfl _ _ w.heap.size tNr (bnA bnZ none 0 0) (0, 0) _ rfl hs8.out Tryd.underlying48 rfl (by kernel_rfl) _ rfl) rfl ⟨ho8.out, ?_⟩
      rw [HON.out]
      rfl
    · have HON : Hid (O = some (x, r)) := HO1.out
      clear HO1
      go_upto_region 4 with fail
      refine wp_region_lit ?_
      refine wpList_load_mid (by rfl) _ _ (by rfl) g 0 (by rfl) [.int .i64 x.kind, .int .i64 x.num, .string ⟨x.text.toArray⟩, .int .u64 x.frm.1.1, .int .i64 x.frm.1.2, .int .u64 x.frm.2.1, .int .i64 x.frm.2.2, .int .u64 x.tor.1.1, .int .i64 x.tor.1.2, .int .u64 x.tor.2.1, .int .i64 x.tor.2.2, .slice p1 l1 c1] _ (block_range hN4.out [.int .i64 x.kind, .int .i64 x.num, .string ⟨x.text.toArray⟩, .int .u64 x.frm.1.1, .int .i64 x.frm.1.2, .int .u64 x.frm.2.1, .int .i64 x.frm.2.2, .int .u64 x.tor.1.1, .int .i64 x.tor.1.2, .int .u64 x.tor.2.1, .int .i64 x.tor.2.2, .slice p1 l1 c1] rfl) Tryd.underlying48 rfl (by kernel_rfl) ?_
      go_simp
      refine wpList_store_mid (by rfl) _ _ _ (by rfl) w.heap.size 0 #[.int .i64 x.kind, .int .i64 x.num, .string ⟨x.text.toArray⟩, .int .u64 x.frm.1.1, .int .i64 x.frm.1.2, .int .u64 x.frm.2.1, .int .i64 x.frm.2.2, .int .u64 x.tor.1.1, .int .i64 x.tor.1.2, .int .u64 x.tor.2.1, .int .i64 x.tor.2.2, .slice p1 l1 c1] (by rfl) (by rfl) (block_there hH4.out 12 (Nat.le_refl _)) (by kernel_rfl) (by simp [Value.oneCell']) ?_
      have hs8 : Hid (BlkC (w4.setCells w.heap.size 0 #[.int .i64 x.kind, .int .i64 x.num, .string ⟨x.text.toArray⟩, .int .u64 x.frm.1.1, .int .i64 x.frm.1.2, .int .u64 x.frm.2.1, .int .i64 x.frm.2.2, .int .u64 x.tor.1.1, .int .i64 x.tor.1.2, .int .u64 x.tor.2.1, .int .i64 x.tor.2.2, .slice p1 l1 c1].toList) w.heap.size (bnA x p1 l1 c1) tNr) := store_block hH4.out _ rfl
      have hk8 : Hid (∀ k', k' ≠ w.heap.size → (w4.setCells w.heap.size 0 #[.int .i64 x.kind, .int .i64 x.num, .string ⟨x.text.toArray⟩, .int .u64 x.frm.1.1, .int .i64 x.frm.1.2, .int .u64 x.frm.2.1, .int .i64 x.frm.2.2, .int .u64 x.tor.1.1, .int .i64 x.tor.1.2, .int .u64 x.tor.2.1, .int .i64 x.tor.2.2, .slice p1 l1 c1].toList).heap[k']? = w4.heap[k']?) := fun k' hk' => store_other hk' _ _ _
      have ho8 : Hid (Off b w (w4.setCells w.heap.size 0 #[.int .i64 x.kind, .int .i64 x.num, .string ⟨x.text.toArray⟩, .int .u64 x.frm.1.1, .int .i64 x.frm.1.2, .int .u64 x.frm.2.1, .int .i64 x.frm.2.2, .int .u64 x.tor.1.1, .int .i64 x.tor.1.2, .int .u64 x.tor.2.1, .int .i64 x.tor.2.2, .slice p1 l1 c1].toList)) := hO4.out.set_cells (Nat.le_refl _) _ _
      have hr8 : Hid (Rdr (w4.setCells w.heap.size 0 #[.int .i64 x.kind, .int .i64 x.num, .string ⟨x.text.toArray⟩, .int .u64 x.frm.1.1, .int .i64 x.frm.1.2, .int .u64 x.frm.2.1, .int .i64 x.frm.2.2, .int .u64 x.tor.1.1, .int .i64 x.tor.1.2, .int .u64 x.tor.2.1, .int .i64 x.tor.2.2, .slice p1 l1 c1].toList) b (some r)) := hR4.out.low (store_below (by omega) _ _ _ (Below.refl _ _))
      generalize w4.setCells w.heap.size 0 #[.int .i64 x.kind, .int .i64 x.num, .string ⟨x.text.toArray⟩, .int .u64 x.frm.1.1, .int .i64 x.frm.1.2, .int .u64 x.frm.2.1, .int .i64 x.frm.2.2, .int .u64 x.tor.1.1, .int .i64 x.tor.1.2, .int .u64 x.tor.2.1, .int .i64 x.tor.2.2, .slice p1 l1 c1].toList = w9 at hs8 hk8 ho8 hr8 ⊢
      go_simp
      go_wp2_with fail
      try simp only [Exit.inBlock, Exit.then]
      refine bodyPost_ret (results_row_tmp rfl _ _ w.heap.size tNr (bnA x p1 l1 c1) (0, 0) _ rfl hs8.out Tryd.underlying48 rfl (by kernel_rfl) _ rfl) rfl ⟨ho8.out, ?_⟩
      rw [HON.out]
      refine ⟨p1, c1, by rw [HL1.out]; rfl, ?_, hr8.out⟩
      rw [HL1.out]
      exact RdQ.carry (fun k' h1 h2 => ⟨trivial, hk8.out k' (by omega)⟩) hQ4.out
theorem info_idS : (Tryd.prog.info? tId).isSome = true := by kernel_rfl
theorem cells_id : Tryd.prog.cellsOf tId = 2 := by kernel_rfl
set_option maxRecDepth 100000 in
theorem neq_pr (x : Rfp) (W : World) : (binOp .neq tPr (.agg #[.int .u64 x.1.1, .int .i64 x.1.2, .int .u64 x.2.1, .int .i64 x.2.2]) (.agg #[.int .u64 x.1.1, .int .i64 x.1.2, .int .u64 x.2.1, .int .i64 x.2.2])).run Tryd.prog W = .ok (.bool false) W := by
  obtain ⟨i, hi⟩ := Option.isSome_iff_exists.1 info_idS
  have h := run_equalIn_array (P := Tryd.prog) (w := W) 9999 (i := i) #[.int .u64 x.1.1, .int .i64 x.1.2, .int .u64 x.2.1, .int .i64 x.2.2] #[.int .u64 x.1.1, .int .i64 x.1.2, .int .u64 x.2.1, .int .i64 x.2.2] Tryd.underlying28 hi
  rw [cells_id] at h
  simp only [show List.range 2 = [0, 1] from rfl, Op.eqItems] at h
  go_simp
/-- The document's Same at one tree, however often it lies in memory. -/
def RSame1C (d : Nat) : Prop := ∀ (n : Bn) (p p' : Option Addr) (len cap cap' : Nat) (w : World), RdQ rfE 12 w okA d n p len → RdQ rfE 12 w okA d n p' len → Sm n → Calls Tryd.prog 14 #[.agg (bnA n p len cap), .agg (bnA n p' len cap')] w fun e w' => e = .returned (.bool true) ∧ Below w.heap.size w w'
set_option maxRecDepth 100000 in
set_option maxHeartbeats 16000000 in
theorem rsame1_s (d : Nat) (IH : ∀ d', d = d' + 1 → RSame1C d') : RSame1C d := by
  intro n p p' len cap cap' w hrd hrd' hok
  have hA0 : Hid (BlkC ((w.alloc (.cells (bnA n p len cap) tN2)).alloc (.cells (bnA n p' len cap') tN2)) w.heap.size (bnA n p len cap) tN2) := (heap_alloc_old _ _ (by rw [World.size_alloc]; omega)).trans (heap_alloc_new w _)
  have hA1 : Hid (BlkC ((w.alloc (.cells (bnA n p len cap) tN2)).alloc (.cells (bnA n p' len cap') tN2)) (w.heap.size + 1) (bnA n p' len cap') tN2) := by
    have := heap_alloc_new (w.alloc (.cells (bnA n p len cap) tN2)) (.cells (bnA n p' len cap') tN2)
    rw [World.size_alloc] at this
    exact this
  have hAB : Hid (Below w.heap.size w ((w.alloc (.cells (bnA n p len cap) tN2)).alloc (.cells (bnA n p' len cap') tN2))) := by unfold Hid; (repeat' (first | (with_reducible exact Below.refl _ _) | (with_reducible assumption) | (with_reducible refine Below.alloc ?_ ?_ _) | (with_reducible refine bel_drewN ?_ _) | (with_reducible refine Below.drew ?_) | (with_reducible refine Below.setCell ?_ ?_ _) | (with_reducible refine bel_call ‹_› ?_ ?_) | go_size))
  have HR0 := Lib.hid hrd
  have HR1 := Lib.hid hrd'
  have HIH := Lib.hid IH
  have hlen := hok.len
  rw [hrd.len] at hlen
  have HOK := Lib.hid (fun c hc => Sm.child (c := c) hok hc)
  have hq1 := neq_pr n.frm
  have hq2 := neq_pr n.tor
  rw [bnA_eq n p len cap, bnA_eq n p' len cap']
  clear hrd hrd' IH hok
  go_enter Tryd.func14, Tryd.ntmps14
  go_upto_region 1 with fail
  have e0 : (w.alloc (.cells #[.int .i64 n.kind, .int .i64 n.num, .string ⟨n.text.toArray⟩, .int .u64 n.frm.1.1, .int .i64 n.frm.1.2, .int .u64 n.frm.2.1, .int .i64 n.frm.2.2, .int .u64 n.tor.1.1, .int .i64 n.tor.1.2, .int .u64 n.tor.2.1, .int .i64 n.tor.2.2, .slice p len cap] tN2)).alloc (.cells #[.int .i64 n.kind, .int .i64 n.num, .string ⟨n.text.toArray⟩, .int .u64 n.frm.1.1, .int .i64 n.frm.1.2, .int .u64 n.frm.2.1, .int .i64 n.frm.2.2, .int .u64 n.tor.1.1, .int .i64 n.tor.1.2, .int .u64 n.tor.2.1, .int .i64 n.tor.2.2, .slice p' len cap'] tN2) = (w.alloc (.cells (bnA n p len cap) tN2)).alloc (.cells (bnA n p' len cap') tN2) := rfl
  rw [e0]
  clear e0
  generalize (w.alloc (.cells (bnA n p len cap) tN2)).alloc (.cells (bnA n p' len cap') tN2) = w0 at hA0 hA1 hAB ⊢
  have a0 : w0.cell? ⟨w.heap.size, 0, none⟩ = some (.int .i64 n.kind) := hA0.out.cell 0 _ rfl
  have a1 : w0.cell? ⟨w.heap.size, 1, none⟩ = some (.int .i64 n.num) := hA0.out.cell 1 _ rfl
  have a2 : w0.cell? ⟨w.heap.size, 2, none⟩ = some (.string ⟨n.text.toArray⟩) := hA0.out.cell 2 _ rfl
  have a3 : w0.cell? ⟨w.heap.size, 3, none⟩ = some (.int .u64 n.frm.1.1) := hA0.out.cell 3 _ rfl
  have a4 : w0.cell? ⟨w.heap.size, 4, none⟩ = some (.int .i64 n.frm.1.2) := hA0.out.cell 4 _ rfl
  have a5 : w0.cell? ⟨w.heap.size, 5, none⟩ = some (.int .u64 n.frm.2.1) := hA0.out.cell 5 _ rfl
  have a6 : w0.cell? ⟨w.heap.size, 6, none⟩ = some (.int .i64 n.frm.2.2) := hA0.out.cell 6 _ rfl
  have a7 : w0.cell? ⟨w.heap.size, 7, none⟩ = some (.int .u64 n.tor.1.1) := hA0.out.cell 7 _ rfl
  have a8 : w0.cell? ⟨w.heap.size, 8, none⟩ = some (.int .i64 n.tor.1.2) := hA0.out.cell 8 _ rfl
  have a9 : w0.cell? ⟨w.heap.size, 9, none⟩ = some (.int .u64 n.tor.2.1) := hA0.out.cell 9 _ rfl
  have a10 : w0.cell? ⟨w.heap.size, 10, none⟩ = some (.int .i64 n.tor.2.2) := hA0.out.cell 10 _ rfl
  have a11 : w0.cell? ⟨w.heap.size, 11, none⟩ = some (.slice p len cap) := hA0.out.cell 11 _ rfl
  have b0 : w0.cell? ⟨w.heap.size + 1, 0, none⟩ = some (.int .i64 n.kind) := hA1.out.cell 0 _ rfl
  have b1 : w0.cell? ⟨w.heap.size + 1, 1, none⟩ = some (.int .i64 n.num) := hA1.out.cell 1 _ rfl
  have b2 : w0.cell? ⟨w.heap.size + 1, 2, none⟩ = some (.string ⟨n.text.toArray⟩) := hA1.out.cell 2 _ rfl
  have b3 : w0.cell? ⟨w.heap.size + 1, 3, none⟩ = some (.int .u64 n.frm.1.1) := hA1.out.cell 3 _ rfl
  have b4 : w0.cell? ⟨w.heap.size + 1, 4, none⟩ = some (.int .i64 n.frm.1.2) := hA1.out.cell 4 _ rfl
  have b5 : w0.cell? ⟨w.heap.size + 1, 5, none⟩ = some (.int .u64 n.frm.2.1) := hA1.out.cell 5 _ rfl
  have b6 : w0.cell? ⟨w.heap.size + 1, 6, none⟩ = some (.int .i64 n.frm.2.2) := hA1.out.cell 6 _ rfl
  have b7 : w0.cell? ⟨w.heap.size + 1, 7, none⟩ = some (.int .u64 n.tor.1.1) := hA1.out.cell 7 _ rfl
  have b8 : w0.cell? ⟨w.heap.size + 1, 8, none⟩ = some (.int .i64 n.tor.1.2) := hA1.out.cell 8 _ rfl
  have b9 : w0.cell? ⟨w.heap.size + 1, 9, none⟩ = some (.int .u64 n.tor.2.1) := hA1.out.cell 9 _ rfl
  have b10 : w0.cell? ⟨w.heap.size + 1, 10, none⟩ = some (.int .i64 n.tor.2.2) := hA1.out.cell 10 _ rfl
  have b11 : w0.cell? ⟨w.heap.size + 1, 11, none⟩ = some (.slice p' len cap') := hA1.out.cell 11 _ rfl
  go_wp2_with fail
  go_loopg [5] len (fun g v5 wr => ∃ i : Nat, i + g = len ∧ v5 = .int .i64 i ∧ BlkC wr w.heap.size (bnA n p len cap) tN2 ∧ BlkC wr (w.heap.size + 1) (bnA n p' len cap') tN2 ∧ Below w.heap.size w wr)
  case atStart => exact ⟨0, by omega, rfl, hA0.out, hA1.out, hAB.out⟩
  case round =>
    obtain ⟨i, hig, rfl, hA, hA', hbel⟩ := hrel
    have HA := Lib.hid hA
    have HA' := Lib.hid hA'
    have HBL := Lib.hid hbel
    have hzr := hbel.size
    clear hA hA' hbel a0 a1 a2 a3 a4 a5 a6 a7 a8 a9 a10 a11 b0 b1 b2 b3 b4 b5 b6 b7 b8 b9 b10 b11 hA0 hA1 hAB
    have a11 : wr.cell? ⟨w.heap.size, 11, none⟩ = some (.slice p len cap) := HA.out.cell 11 _ rfl
    have b11 : wr.cell? ⟨w.heap.size + 1, 11, none⟩ = some (.slice p' len cap') := HA'.out.cell 11 _ rfl
    by_cases hlt : i < len
    · have hli : (i : Int) < (len : Int) := by omega
      obtain ⟨d', b, off, c, p1, l1, c1, hd, rfl, _, hbN, hc, hrc, hrg⟩ := (HR0.out.below HBL.out).at hlt
      obtain ⟨d2, b2, off2, c2, p2, l2, c2', hd2, rfl, _, hbN2, hc2, hrc2, hrg2⟩ := (HR1.out.below HBL.out).at hlt
      obtain rfl : c = c2 := Option.some.inj (hc.symm.trans hc2)
      obtain rfl : d' = d2 := by omega
      obtain rfl : l1 = l2 := by rw [← hrc.len, ← hrc2.len]
      have HC : Hid (RSame1C d') := HIH.out d' hd
      have HCO := Lib.hid (HOK.out c (mem_of_at hc))
      have HCC := Lib.hid (HC.out c p1 p2 l1 c1 c2' wr.drew (hrc.below (Below.drew (Below.refl _ _))) (hrc2.below (Below.drew (Below.refl _ _))) HCO.out)
      rw [bnA_eq c p1 l1 c1, bnA_eq c p2 l1 c2'] at HCC
      have A11 := Kept.at a11
      have B11 := Kept.at b11
      have P0 := Kept.at (show wr.cell? ⟨b, off + i * 12, none⟩ = some (.int .i64 c.kind) from hrg 0 (.int .i64 c.kind) rfl)
      have P1 := Kept.at (show wr.cell? ⟨b, off + i * 12 + 1, none⟩ = some (.int .i64 c.num) from hrg 1 (.int .i64 c.num) rfl)
      have P2 := Kept.at (show wr.cell? ⟨b, off + i * 12 + 2, none⟩ = some (.string ⟨c.text.toArray⟩) from hrg 2 (.string ⟨c.text.toArray⟩) rfl)
      have P3 := Kept.at (show wr.cell? ⟨b, off + i * 12 + 3, none⟩ = some (.int .u64 c.frm.1.1) from hrg 3 (.int .u64 c.frm.1.1) rfl)
      have P4 := Kept.at (show wr.cell? ⟨b, off + i * 12 + 4, none⟩ = some (.int .i64 c.frm.1.2) from hrg 4 (.int .i64 c.frm.1.2) rfl)
      have P5 := Kept.at (show wr.cell? ⟨b, off + i * 12 + 5, none⟩ = some (.int .u64 c.frm.2.1) from hrg 5 (.int .u64 c.frm.2.1) rfl)
      have P6 := Kept.at (show wr.cell? ⟨b, off + i * 12 + 6, none⟩ = some (.int .i64 c.frm.2.2) from hrg 6 (.int .i64 c.frm.2.2) rfl)
      have P7 := Kept.at (show wr.cell? ⟨b, off + i * 12 + 7, none⟩ = some (.int .u64 c.tor.1.1) from hrg 7 (.int .u64 c.tor.1.1) rfl)
      have P8 := Kept.at (show wr.cell? ⟨b, off + i * 12 + 8, none⟩ = some (.int .i64 c.tor.1.2) from hrg 8 (.int .i64 c.tor.1.2) rfl)
      have P9 := Kept.at (show wr.cell? ⟨b, off + i * 12 + 9, none⟩ = some (.int .u64 c.tor.2.1) from hrg 9 (.int .u64 c.tor.2.1) rfl)
      have P10 := Kept.at (show wr.cell? ⟨b, off + i * 12 + 10, none⟩ = some (.int .i64 c.tor.2.2) from hrg 10 (.int .i64 c.tor.2.2) rfl)
      have P11 := Kept.at (show wr.cell? ⟨b, off + i * 12 + 11, none⟩ = some (.slice p1 l1 c1) from hrg 11 (.slice p1 l1 c1) rfl)
      have Q0 := Kept.at (show wr.cell? ⟨b2, off2 + i * 12, none⟩ = some (.int .i64 c.kind) from hrg2 0 (.int .i64 c.kind) rfl)
      have Q1 := Kept.at (show wr.cell? ⟨b2, off2 + i * 12 + 1, none⟩ = some (.int .i64 c.num) from hrg2 1 (.int .i64 c.num) rfl)
      have Q2 := Kept.at (show wr.cell? ⟨b2, off2 + i * 12 + 2, none⟩ = some (.string ⟨c.text.toArray⟩) from hrg2 2 (.string ⟨c.text.toArray⟩) rfl)
      have Q3 := Kept.at (show wr.cell? ⟨b2, off2 + i * 12 + 3, none⟩ = some (.int .u64 c.frm.1.1) from hrg2 3 (.int .u64 c.frm.1.1) rfl)
      have Q4 := Kept.at (show wr.cell? ⟨b2, off2 + i * 12 + 4, none⟩ = some (.int .i64 c.frm.1.2) from hrg2 4 (.int .i64 c.frm.1.2) rfl)
      have Q5 := Kept.at (show wr.cell? ⟨b2, off2 + i * 12 + 5, none⟩ = some (.int .u64 c.frm.2.1) from hrg2 5 (.int .u64 c.frm.2.1) rfl)
      have Q6 := Kept.at (show wr.cell? ⟨b2, off2 + i * 12 + 6, none⟩ = some (.int .i64 c.frm.2.2) from hrg2 6 (.int .i64 c.frm.2.2) rfl)
      have Q7 := Kept.at (show wr.cell? ⟨b2, off2 + i * 12 + 7, none⟩ = some (.int .u64 c.tor.1.1) from hrg2 7 (.int .u64 c.tor.1.1) rfl)
      have Q8 := Kept.at (show wr.cell? ⟨b2, off2 + i * 12 + 8, none⟩ = some (.int .i64 c.tor.1.2) from hrg2 8 (.int .i64 c.tor.1.2) rfl)
      have Q9 := Kept.at (show wr.cell? ⟨b2, off2 + i * 12 + 9, none⟩ = some (.int .u64 c.tor.2.1) from hrg2 9 (.int .u64 c.tor.2.1) rfl)
      have Q10 := Kept.at (show wr.cell? ⟨b2, off2 + i * 12 + 10, none⟩ = some (.int .i64 c.tor.2.2) from hrg2 10 (.int .i64 c.tor.2.2) rfl)
      have Q11 := Kept.at (show wr.cell? ⟨b2, off2 + i * 12 + 11, none⟩ = some (.slice p2 l1 c2') from hrg2 11 (.slice p2 l1 c2') rfl)
      go_upto_region 6 with fail
      refine wp_region_sched (fun wx => ∃ x : Kept wr.heap.size wr, wx = x.v) [([0, 1, 2, 3, 4, 5, 6, 7, 8, 9], 10)] [11] (by kernel_rfl) (by kernel_rfl) (by kernel_rfl) rfl (kept_drew _ _ (Nat.le_refl _)) ?_
      (unfold wpSeg; simp only [pick_nil, pick_cons, nthO_zero, nthO_succ, List.append])
      clear a11 b11 hrg hrg2 hrc hrc2 hc hc2 hd hd2 HC
      repeat (go_big_quiet_step (fail))
      refine wpQuiet_nil ?_
      go_wp2_with fail
      refine HCC.out.mono ?_
      rintro e w3 ⟨rfl, hb3⟩
      have hb4 : Hid (Below wr.heap.size wr w3) := bel_call hb3 (Below.drew (Below.refl _ _)) (Nat.le_refl _)
      have HA3 := Lib.hid (HA.out.below hb4.out)
      have HA3' := Lib.hid (HA'.out.below hb4.out)
      have hB3 : Hid (Below w.heap.size w w3) := bel_call hb4.out HBL.out HBL.out.size
      clear hb3
      go_wp2_with fail
      refine ⟨rfl, ⟨⟨w3, hb4.out⟩, rfl⟩, ?_⟩
      (unfold wpSeg; simp only [pick_nil, pick_cons, nthO_zero, nthO_succ, List.append])
      repeat (go_big_quiet_step (fail))
      refine wpQuiet_nil ?_
      clear HA HA' HBL HCC hb4 A11 B11 P0 P1 P2 P3 P4 P5 P6 P7 P8 P9 P10 P11 Q0 Q1 Q2 Q3 Q4 Q5 Q6 Q7 Q8 Q9 Q10 Q11
      go_wp2_with fail
      go_roundg (gk - 1)
      case measure => omega
      case rel => exact ⟨i + 1, by omega, by go_num, HA3.out, HA3'.out, hB3.out⟩
    · obtain rfl : i = len := by omega
      have hli : ¬ (i : Int) < (i : Int) := by omega
      go_wp2_with fail
      go_ret
      exact ⟨rfl, HBL.out⟩
theorem rsame1_any : ∀ d, RSame1C d
  | 0 => rsame1_s 0 (fun d' h => by omega)
  | d + 1 => rsame1_s (d + 1) (fun d' h => (show d = d' from by omega) ▸ rsame1_any d)
end Go.Proofs.YtljloggbfmnjmaaDoor
