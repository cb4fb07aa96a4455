/- Trees over stamps: the document's Take, bind.Take, the document's Same: the walks. Printed by gen_tnl.py. -/
import Derived.Test.YtljloggbfmnjmaaDoorTnJ
import Derived.Test.YtljloggbfmnjmaaDoorTnK
import Derived.Test.YtljloggbfmnjmaaDoorResR
set_option linter.unusedSimpArgs false
set_option linter.unusedVariables false
namespace Go.Proofs.YtljloggbfmnjmaaDoor
open Go.RowKit Go.Joins

/-- What the document's Take answers. -/
def RTk2P (O : Option (Bn × List UInt8)) (w : World) (e : Ending) (w' : World) : Prop := Below w.heap.size w w' ∧ match O with
  | none => e = .returned (.tuple #[.agg (bnA bnZ none 0 0), .int .i64 0, .bool false])
  | some (x, r) => ∃ p cap, e = .returned (.tuple #[.agg (bnA x p x.args.length cap), .int .i64 (r.length : Nat), .bool true]) ∧ RdQ rfE 12 w' okA 64 x p x.args.length
set_option maxRecDepth 100000 in
set_option maxHeartbeats 16000000 in
theorem rtake2_any (p : Option Addr) (n cap : Nat) (L : List UInt8) (hn : L.length ≤ 100000) (w : World) (hL : RdU w w.heap.size p n cap L) : Calls Tryd.prog 13 #[.slice p n cap] w (RTk2P (takB L) w) := by
  have hA0 : Hid (BlkC (w.alloc (.cells (bnA bnZ none 0 0) tN2)) w.heap.size (bnA bnZ none 0 0) tN2) := heap_alloc_new w _
  have hA1 : Hid (BlkC ((w.alloc (.cells (bnA bnZ none 0 0) tN2)).alloc (.cells #[.slice p n cap, .bool false] tR2)) w.heap.size (bnA bnZ none 0 0) tN2) := hA0.out.below ((Below.refl _ _).alloc (Nat.le_refl _) _)
  have hAB : Hid (Below w.heap.size w ((w.alloc (.cells (bnA bnZ none 0 0) tN2)).alloc (.cells #[.slice p n cap, .bool false] tR2))) := by unfold Hid; (repeat' (first | (with_reducible exact Below.refl _ _) | (with_reducible assumption) | (with_reducible refine Below.alloc ?_ ?_ _) | (with_reducible refine bel_drewN ?_ _) | (with_reducible refine Below.drew ?_) | (with_reducible refine Below.setCell ?_ ?_ _) | (with_reducible refine bel_call ‹_› ?_ ?_) | go_size))
  have hR1 : Hid (RRd ((w.alloc (.cells (bnA bnZ none 0 0) tN2)).alloc (.cells #[.slice p n cap, .bool false] tR2)) (w.heap.size + 1) (some L)) := by
    refine ⟨p, n, cap, false, L, ?_, hn, (hL.below hAB.out).mono (by omega), rfl⟩
    have := blk_new (w.alloc (.cells (bnA bnZ none 0 0) tN2)) #[.slice p n cap, .bool false] tR2
    rw [World.size_alloc] at this
    exact this
  have HRK := Lib.hid (fun x r h => (rkN_good 64 L x r h).1)
  obtain ⟨O, hO⟩ : ∃ O, takB L = O := ⟨_, rfl⟩
  have HO : Hid (O = (rkN 64 L).bind fun x => if rgN x.1 = true then some x else none) := hO.symm
  rw [hO]
  clear hO hL hA0
  go_enter Tryd.func13, Tryd.ntmps13
  go_upto_region 2 with fail
  have e0 : (w.alloc (.cells #[.int .i64 0, .int .i64 0, .string ⟨#[]⟩, .int .u64 0, .int .i64 0, .int .u64 0, .int .i64 0, .int .u64 0, .int .i64 0, .int .u64 0, .int .i64 0, .slice none 0 0] tN2)).alloc (.cells #[.slice p n cap, .bool false] tR2) = (w.alloc (.cells (bnA bnZ none 0 0) tN2)).alloc (.cells #[.slice p n cap, .bool false] tR2) := rfl
  rw [e0]
  clear e0
  have hsz : w.heap.size + 1 < ((w.alloc (.cells (bnA bnZ none 0 0) tN2)).alloc (.cells #[.slice p n cap, .bool false] tR2)).heap.size := by simp only [World.size_alloc]; omega
  generalize (w.alloc (.cells (bnA bnZ none 0 0) tN2)).alloc (.cells #[.slice p n cap, .bool false] tR2) = w1 at hA1 hAB hR1 hsz ⊢
  have HN := Lib.hid (rnode_any 64 (by omega) (w.heap.size + 1) (some L) w1 hR1.out)
  clear hR1
  go_wp2_with fail
  refine HN.out.mono ?_
  rintro e w2 ⟨hoff, hm⟩
  rw [show (some L : Option (List UInt8)).bind (rkN 64) = rkN 64 L from rfl] at hm
  have hB2 : Hid (Below w.heap.size w w2) := hAB.out.trans (hoff.below (by omega) (by omega))
  have hH2 : Hid (BlkC w2 w.heap.size (bnA bnZ none 0 0) tN2) := hoff.blk (by omega) hA1.out
  clear hoff HN hA1 hAB
  cases hk : rkN 64 L with
  | none =>
    rw [hk] at hm
    obtain ⟨⟨x, p1, l1, c1, rfl⟩, hrd⟩ := hm
    have HON : Hid (O = none) := by unfold Hid; rw [HO.out, hk]; rfl
    have HRD := Lib.hid hrd
    rw [bnA_eq]
    clear hk HO hrd HRK hsz
    go_upto_region 3 with fail
    have e1 : w2.alloc (.cells #[.int .i64 x.kind, .int .i64 x.num, .string ⟨x.text.toArray⟩, .int .u64 x.frm.1.1, .int .i64 x.frm.1.2, .int .u64 x.frm.2.1, .int .i64 x.frm.2.2, .int .u64 x.tor.1.1, .int .i64 x.tor.1.2, .int .u64 x.tor.2.1, .int .i64 x.tor.2.2, .slice p1 l1 c1] tN2) = w2.alloc (.cells (bnA x p1 l1 c1) tN2) := rfl
    rw [e1]
    clear e1
    have hbn : Below w2.heap.size w2 (w2.alloc (.cells (bnA x p1 l1 c1) tN2)) := by (repeat' (first | (with_reducible exact Below.refl _ _) | (with_reducible assumption) | (with_reducible refine Below.alloc ?_ ?_ _) | (with_reducible refine bel_drewN ?_ _) | (with_reducible refine Below.drew ?_) | (with_reducible refine Below.setCell ?_ ?_ _) | (with_reducible refine bel_call ‹_› ?_ ?_) | go_size))
    have hB3 : Hid (Below w.heap.size w (w2.alloc (.cells (bnA x p1 l1 c1) tN2))) := bel_call hbn hB2.out hB2.out.size
    have hH3 := Lib.hid (hH2.out.below hbn)
    have hR3 := Lib.hid (HRD.out.below hbn)
    clear hbn hB2 hH2 HRD
    generalize w2.alloc (.cells (bnA x p1 l1 c1) tN2) = w3 at hB3 hH3 hR3 ⊢
    obtain ⟨p5, n5, cap5, bad5, L5, hb5, _, _, hs5⟩ := hR3.out
    cases bad5 with
    | false => cases hs5
    | true =>
    have d1 : w3.cell? ⟨w.heap.size + 1, 1, none⟩ = some (.bool true) := hb5.cell 1 _ rfl
    clear hb5 hs5
    go_upto_region 4 with fail
    refine wp_region_lit ?_
    refine wpList_plain rfl fun K hK => ?_
    go_simp
    refine hK _ _ ?_
    clear hK K
    refine wpList_store_mid (by rfl) _ _ _ (by rfl) w.heap.size 0 #[.int .i64 0, .int .i64 0, .string ⟨#[]⟩, .int .u64 0, .int .i64 0, .int .u64 0, .int .i64 0, .int .u64 0, .int .i64 0, .int .u64 0, .int .i64 0, .slice none 0 0] (by rfl) (by rfl) (block_there hH3.out 12 (Nat.le_refl _)) (by kernel_rfl) (by simp [Value.oneCell']) ?_
    have hs8 : Hid (BlkC (w3.setCells w.heap.size 0 #[.int .i64 0, .int .i64 0, .string ⟨#[]⟩, .int .u64 0, .int .i64 0, .int .u64 0, .int .i64 0, .int .u64 0, .int .i64 0, .int .u64 0, .int .i64 0, .slice none 0 0].toList) w.heap.size (bnA bnZ none 0 0) tN2) := store_block hH3.out _ rfl
    have hk8 : Hid (Below w.heap.size w (w3.setCells w.heap.size 0 #[.int .i64 0, .int .i64 0, .string ⟨#[]⟩, .int .u64 0, .int .i64 0, .int .u64 0, .int .i64 0, .int .u64 0, .int .i64 0, .int .u64 0, .int .i64 0, .slice none 0 0].toList)) := store_below (Nat.le_refl _) _ _ _ hB3.out
    generalize w3.setCells w.heap.size 0 #[.int .i64 0, .int .i64 0, .string ⟨#[]⟩, .int .u64 0, .int .i64 0, .int .u64 0, .int .i64 0, .int .u64 0, .int .i64 0, .int .u64 0, .int .i64 0, .slice none 0 0].toList = w9 at hs8 hk8 ⊢
    go_simp
    go_wp2_with fail
    try simp only [Exit.inBlock, Exit.then]
    refine bodyPost_ret (results_row_tmp2 rfl _ _ w.heap.size tN2 (bnA bnZ none 0 0) (0, 0) _ rfl hs8.out Tryd.underlying53 rfl (by kernel_rfl) _ _ rfl rfl) rfl ⟨hk8.out, ?_⟩
    rw [HON.out]
    rfl
  | some z =>
    obtain ⟨x, r⟩ := z
    rw [hk] at hm
    obtain ⟨p1, c1, rfl, hq, hrd⟩ := hm
    have HO1 : Hid (O = if rgN x = true then some (x, r) else none) := by unfold Hid; rw [HO.out, hk]; rfl
    have hgd := HRK.out x r hk
    have HRD := Lib.hid hrd
    have HQ := Lib.hid (hq.weak (ok' := fun k' => w.heap.size < k') (fun k' h => by omega))
    rw [bnA_eq]
    clear hk HO hrd HRK hq hsz
    go_upto_region 3 with fail
    obtain ⟨l1, hl1⟩ : ∃ l, x.args.length = l := ⟨_, rfl⟩
    rw [hl1] at HQ ⊢
    have HL1 := Lib.hid hl1
    clear hl1
    have e1 : w2.alloc (.cells #[.int .i64 x.kind, .int .i64 x.num, .string ⟨x.text.toArray⟩, .int .u64 x.frm.1.1, .int .i64 x.frm.1.2, .int .u64 x.frm.2.1, .int .i64 x.frm.2.2, .int .u64 x.tor.1.1, .int .i64 x.tor.1.2, .int .u64 x.tor.2.1, .int .i64 x.tor.2.2, .slice p1 l1 c1] tN2) = w2.alloc (.cells (bnA x p1 l1 c1) tN2) := rfl
    rw [e1]
    clear e1
    have hbn : Below w2.heap.size w2 (w2.alloc (.cells (bnA x p1 l1 c1) tN2)) := by (repeat' (first | (with_reducible exact Below.refl _ _) | (with_reducible assumption) | (with_reducible refine Below.alloc ?_ ?_ _) | (with_reducible refine bel_drewN ?_ _) | (with_reducible refine Below.drew ?_) | (with_reducible refine Below.setCell ?_ ?_ _) | (with_reducible refine bel_call ‹_› ?_ ?_) | go_size))
    have hB3 : Hid (Below w.heap.size w (w2.alloc (.cells (bnA x p1 l1 c1) tN2))) := bel_call hbn hB2.out hB2.out.size
    have hH3 := Lib.hid (hH2.out.below hbn)
    have hR3 := Lib.hid (HRD.out.below hbn)
    have hQ3 := Lib.hid (HQ.out.below hbn)
    have hN3 : Hid (BlkC (w2.alloc (.cells (bnA x p1 l1 c1) tN2)) w2.heap.size (bnA x p1 l1 c1) tN2) := heap_alloc_new w2 _
    have hg2 : w.heap.size < w2.heap.size := lt_some hH2.out
    clear hbn hB2 hH2 HRD HQ
    generalize w2.alloc (.cells (bnA x p1 l1 c1) tN2) = w3 at hB3 hH3 hR3 hQ3 hN3 ⊢
    generalize w2.heap.size = g at hN3 hg2 ⊢
    obtain ⟨p5, n5, cap5, bad5, L5, hb5, _, hu5, hs5⟩ := hR3.out
    cases bad5 with
    | true => cases hs5
    | false =>
    obtain rfl : r = L5 := Option.some.inj hs5
    have d1 : w3.cell? ⟨w.heap.size + 1, 1, none⟩ = some (.bool false) := hb5.cell 1 _ rfl
    have HRL : Hid (r.length = n5) := hu5.1
    have HB5 := Lib.hid hb5
    have HRC := Lib.hid (rr2_any 64 x p1 l1 c1 w3 (hQ3.out.weak (fun _ _ => trivial)) hgd)
    rw [bnA_eq] at HRC
    obtain ⟨rg, hrg⟩ : ∃ rg, rgN x = rg := ⟨_, rfl⟩
    rw [hrg] at HRC HO1
    clear hb5 hs5 hu5 hgd hrg
    have e0 : w3.cell? ⟨g, 0, none⟩ = some (.int .i64 x.kind) := hN3.out.cell 0 _ rfl
    have e1 : w3.cell? ⟨g, 1, none⟩ = some (.int .i64 x.num) := hN3.out.cell 1 _ rfl
    have e2 : w3.cell? ⟨g, 2, none⟩ = some (.string ⟨x.text.toArray⟩) := hN3.out.cell 2 _ rfl
    have e3 : w3.cell? ⟨g, 3, none⟩ = some (.int .u64 x.frm.1.1) := hN3.out.cell 3 _ rfl
    have e4 : w3.cell? ⟨g, 4, none⟩ = some (.int .i64 x.frm.1.2) := hN3.out.cell 4 _ rfl
    have e5 : w3.cell? ⟨g, 5, none⟩ = some (.int .u64 x.frm.2.1) := hN3.out.cell 5 _ rfl
    have e6 : w3.cell? ⟨g, 6, none⟩ = some (.int .i64 x.frm.2.2) := hN3.out.cell 6 _ rfl
    have e7 : w3.cell? ⟨g, 7, none⟩ = some (.int .u64 x.tor.1.1) := hN3.out.cell 7 _ rfl
    have e8 : w3.cell? ⟨g, 8, none⟩ = some (.int .i64 x.tor.1.2) := hN3.out.cell 8 _ rfl
    have e9 : w3.cell? ⟨g, 9, none⟩ = some (.int .u64 x.tor.2.1) := hN3.out.cell 9 _ rfl
    have e10 : w3.cell? ⟨g, 10, none⟩ = some (.int .i64 x.tor.2.2) := hN3.out.cell 10 _ rfl
    have e11 : w3.cell? ⟨g, 11, none⟩ = some (.slice p1 l1 c1) := hN3.out.cell 11 _ rfl
    go_wp2_with fail
    refine HRC.out.mono ?_
    rintro e w4 ⟨rfl, hb4⟩
    have hB4 : Hid (Below w.heap.size w w4) := bel_call hb4 hB3.out hB3.out.size
    have hH4 := Lib.hid (hH3.out.below hb4)
    have hN4 := Lib.hid (hN3.out.below hb4)
    have hQ4 := Lib.hid (hQ3.out.below hb4)
    have hR4 := Lib.hid (HB5.out.below hb4)
    clear hb4 HRC hB3 hH3 hN3 hQ3 HB5 hR3 d1 e0 e1 e2 e3 e4 e5 e6 e7 e8 e9 e10 e11
    cases rg
    · have HON : Hid (O = none) := HO1.out
      clear HO1
      go_upto_region 4 with fail
      refine wp_region_lit ?_
      refine wpList_plain rfl fun K hK => ?_
      go_simp
      refine hK _ _ ?_
      clear hK K
      refine wpList_store_mid (by rfl) _ _ _ (by rfl) w.heap.size 0 #[.int .i64 0, .int .i64 0, .string ⟨#[]⟩, .int .u64 0, .int .i64 0, .int .u64 0, .int .i64 0, .int .u64 0, .int .i64 0, .int .u64 0, .int .i64 0, .slice none 0 0] (by rfl) (by rfl) (block_there hH4.out 12 (Nat.le_refl _)) (by kernel_rfl) (by simp [Value.oneCell']) ?_
      have hs8 : Hid (BlkC (w4.setCells w.heap.size 0 #[.int .i64 0, .int .i64 0, .string ⟨#[]⟩, .int .u64 0, .int .i64 0, .int .u64 0, .int .i64 0, .int .u64 0, .int .i64 0, .int .u64 0, .int .i64 0, .slice none 0 0].toList) w.heap.size (bnA bnZ none 0 0) tN2) := store_block hH4.out _ rfl
      have hk8 : Hid (Below w.heap.size w (w4.setCells w.heap.size 0 #[.int .i64 0, .int .i64 0, .string ⟨#[]⟩, .int .u64 0, .int .i64 0, .int .u64 0, .int .i64 0, .int .u64 0, .int .i64 0, .int .u64 0, .int .i64 0, .slice none 0 0].toList)) := store_below (Nat.le_refl _) _ _ _ hB4.out
      generalize w4.setCells w.heap.size 0 #[.int .i64 0, .int .i64 0, .string ⟨#[]⟩, .int .u64 0, .int .i64 0, .int .u64 0, .int .i64 0, .int .u64 0, .int .i64 0, .int .u64 0, .int .i64 0, .slice none 0 0].toList = w9 at hs8 hk8 ⊢
      go_simp
      go_wp2_with fail
      try simp only [Exit.inBlock, Exit.then]
      refine bodyPost_ret (results_row_tmp2 rfl _ _ w.heap.size tN2 (bnA bnZ none 0 0) (0, 0) _ rfl hs8.out Tryd.underlying53 rfl (by kernel_rfl) _ _ rfl rfl) rfl ⟨hk8.out, ?_⟩
      rw [HON.out]
      rfl
    · have HON : Hid (O = some (x, r)) := HO1.out
      clear HO1
      go_upto_region 5 with fail
      have d0 : w4.cell? ⟨w.heap.size + 1, 0, none⟩ = some (.slice p5 n5 cap5) := hR4.out.cell 0 _ rfl
      have e0 : w4.cell? ⟨g, 0, none⟩ = some (.int .i64 x.kind) := hN4.out.cell 0 _ rfl
      have e1 : w4.cell? ⟨g, 1, none⟩ = some (.int .i64 x.num) := hN4.out.cell 1 _ rfl
      have e2 : w4.cell? ⟨g, 2, none⟩ = some (.string ⟨x.text.toArray⟩) := hN4.out.cell 2 _ rfl
      have e3 : w4.cell? ⟨g, 3, none⟩ = some (.int .u64 x.frm.1.1) := hN4.out.cell 3 _ rfl
      have e4 : w4.cell? ⟨g, 4, none⟩ = some (.int .i64 x.frm.1.2) := hN4.out.cell 4 _ rfl
      have e5 : w4.cell? ⟨g, 5, none⟩ = some (.int .u64 x.frm.2.1) := hN4.out.cell 5 _ rfl
      have e6 : w4.cell? ⟨g, 6, none⟩ = some (.int .i64 x.frm.2.2) := hN4.out.cell 6 _ rfl
      have e7 : w4.cell? ⟨g, 7, none⟩ = some (.int .u64 x.tor.1.1) := hN4.out.cell 7 _ rfl
      have e8 : w4.cell? ⟨g, 8, none⟩ = some (.int .i64 x.tor.1.2) := hN4.out.cell 8 _ rfl
      have e9 : w4.cell? ⟨g, 9, none⟩ = some (.int .u64 x.tor.2.1) := hN4.out.cell 9 _ rfl
      have e10 : w4.cell? ⟨g, 10, none⟩ = some (.int .i64 x.tor.2.2) := hN4.out.cell 10 _ rfl
      have e11 : w4.cell? ⟨g, 11, none⟩ = some (.slice p1 l1 c1) := hN4.out.cell 11 _ rfl
      have z0 : w4.cell? ⟨w.heap.size, 0, none⟩ = some (.int .i64 0) := hH4.out.cell 0 _ rfl
      have f0 := hH4.out.fz 0
      have z1 : w4.cell? ⟨w.heap.size, 1, none⟩ = some (.int .i64 0) := hH4.out.cell 1 _ rfl
      have f1 := hH4.out.fz 1
      have z2 : w4.cell? ⟨w.heap.size, 2, none⟩ = some (.string ⟨#[]⟩) := hH4.out.cell 2 _ rfl
      have f2 := hH4.out.fz 2
      have z3 : w4.cell? ⟨w.heap.size, 3, none⟩ = some (.int .u64 0) := hH4.out.cell 3 _ rfl
      have f3 := hH4.out.fz 3
      have z4 : w4.cell? ⟨w.heap.size, 4, none⟩ = some (.int .i64 0) := hH4.out.cell 4 _ rfl
      have f4 := hH4.out.fz 4
      have z5 : w4.cell? ⟨w.heap.size, 5, none⟩ = some (.int .u64 0) := hH4.out.cell 5 _ rfl
      have f5 := hH4.out.fz 5
      have z6 : w4.cell? ⟨w.heap.size, 6, none⟩ = some (.int .i64 0) := hH4.out.cell 6 _ rfl
      have f6 := hH4.out.fz 6
      have z7 : w4.cell? ⟨w.heap.size, 7, none⟩ = some (.int .u64 0) := hH4.out.cell 7 _ rfl
      have f7 := hH4.out.fz 7
      have z8 : w4.cell? ⟨w.heap.size, 8, none⟩ = some (.int .i64 0) := hH4.out.cell 8 _ rfl
      have f8 := hH4.out.fz 8
      have z9 : w4.cell? ⟨w.heap.size, 9, none⟩ = some (.int .u64 0) := hH4.out.cell 9 _ rfl
      have f9 := hH4.out.fz 9
      have z10 : w4.cell? ⟨w.heap.size, 10, none⟩ = some (.int .i64 0) := hH4.out.cell 10 _ rfl
      have f10 := hH4.out.fz 10
      have z11 : w4.cell? ⟨w.heap.size, 11, none⟩ = some (.slice none 0 0) := hH4.out.cell 11 _ rfl
      have f11 := hH4.out.fz 11
      go_region_with (fail)
      all_goals
        have e9 : ((((((((((((w4.setCell ⟨w.heap.size, 0, none⟩ (.int .i64 x.kind)).setCell ⟨w.heap.size, 1, none⟩ (.int .i64 x.num)).setCell ⟨w.heap.size, 2, none⟩ (.string ⟨x.text.toArray⟩)).setCell ⟨w.heap.size, 3, none⟩ (.int .u64 x.frm.1.1)).setCell ⟨w.heap.size, 4, none⟩ (.int .i64 x.frm.1.2)).setCell ⟨w.heap.size, 5, none⟩ (.int .u64 x.frm.2.1)).setCell ⟨w.heap.size, 6, none⟩ (.int .i64 x.frm.2.2)).setCell ⟨w.heap.size, 7, none⟩ (.int .u64 x.tor.1.1)).setCell ⟨w.heap.size, 8, none⟩ (.int .i64 x.tor.1.2)).setCell ⟨w.heap.size, 9, none⟩ (.int .u64 x.tor.2.1)).setCell ⟨w.heap.size, 10, none⟩ (.int .i64 x.tor.2.2)).setCell ⟨w.heap.size, 11, none⟩ (.slice p1 l1 c1)) = w4.setCells w.heap.size 0 #[.int .i64 x.kind, .int .i64 x.num, .string ⟨x.text.toArray⟩, .int .u64 x.frm.1.1, .int .i64 x.frm.1.2, .int .u64 x.frm.2.1, .int .i64 x.frm.2.2, .int .u64 x.tor.1.1, .int .i64 x.tor.1.2, .int .u64 x.tor.2.1, .int .i64 x.tor.2.2, .slice p1 l1 c1].toList := rfl
        rw [e9]
        clear e9 z0 z1 z2 z3 z4 z5 z6 z7 z8 z9 z10 z11 f0 f1 f2 f3 f4 f5 f6 f7 f8 f9 f10 f11 d0
        have hs8 : Hid (BlkC (w4.setCells w.heap.size 0 #[.int .i64 x.kind, .int .i64 x.num, .string ⟨x.text.toArray⟩, .int .u64 x.frm.1.1, .int .i64 x.frm.1.2, .int .u64 x.frm.2.1, .int .i64 x.frm.2.2, .int .u64 x.tor.1.1, .int .i64 x.tor.1.2, .int .u64 x.tor.2.1, .int .i64 x.tor.2.2, .slice p1 l1 c1].toList) w.heap.size (bnA x p1 l1 c1) tN2) := store_block hH4.out _ rfl
        have hk8 : Hid (∀ k', k' ≠ w.heap.size → (w4.setCells w.heap.size 0 #[.int .i64 x.kind, .int .i64 x.num, .string ⟨x.text.toArray⟩, .int .u64 x.frm.1.1, .int .i64 x.frm.1.2, .int .u64 x.frm.2.1, .int .i64 x.frm.2.2, .int .u64 x.tor.1.1, .int .i64 x.tor.1.2, .int .u64 x.tor.2.1, .int .i64 x.tor.2.2, .slice p1 l1 c1].toList).heap[k']? = w4.heap[k']?) := fun k' hk' => store_other hk' _ _ _
        have hb8 : Hid (Below w.heap.size w (w4.setCells w.heap.size 0 #[.int .i64 x.kind, .int .i64 x.num, .string ⟨x.text.toArray⟩, .int .u64 x.frm.1.1, .int .i64 x.frm.1.2, .int .u64 x.frm.2.1, .int .i64 x.frm.2.2, .int .u64 x.tor.1.1, .int .i64 x.tor.1.2, .int .u64 x.tor.2.1, .int .i64 x.tor.2.2, .slice p1 l1 c1].toList)) := store_below (Nat.le_refl _) _ _ _ hB4.out
        generalize w4.setCells w.heap.size 0 #[.int .i64 x.kind, .int .i64 x.num, .string ⟨x.text.toArray⟩, .int .u64 x.frm.1.1, .int .i64 x.frm.1.2, .int .u64 x.frm.2.1, .int .i64 x.frm.2.2, .int .u64 x.tor.1.1, .int .i64 x.tor.1.2, .int .u64 x.tor.2.1, .int .i64 x.tor.2.2, .slice p1 l1 c1].toList = w9 at hs8 hk8 hb8 ⊢
        go_wp2_with fail
        try simp only [Exit.inBlock, Exit.then]
        have hs9 : Hid (BlkC w9.drew w.heap.size (bnA x p1 l1 c1) tN2) := hs8.out
        refine bodyPost_ret (results_row_tmp2 rfl _ _ w.heap.size tN2 (bnA x p1 l1 c1) (0, 0) _ rfl hs9.out Tryd.underlying53 rfl (by kernel_rfl) _ _ rfl rfl) rfl ⟨Below.drew hb8.out, ?_⟩
        rw [HON.out]
        refine ⟨p1, c1, by rw [HRL.out, HL1.out]; rfl, ?_⟩
        rw [HL1.out]
        exact RdQ.carry (fun k' h1 h2 => ⟨trivial, hk8.out k' (by omega)⟩) hQ4.out
end Go.Proofs.YtljloggbfmnjmaaDoor
