/- The document's reader: node: the walk. Printed by gen_wiri.py. -/
import Derived.Test.YtljloggbfmnjmaaDoorWirH
import Derived.Test.YtljloggbfmnjmaaDoorTnF
import Derived.Test.YtljloggbfmnjmaaDoorTnD
import Derived.Test.YtljloggbfmnjmaaDoorKept
import Derived.Great.BuildSlice
set_option linter.unusedSimpArgs false
set_option linter.unusedVariables false
namespace Go.Proofs.YtljloggbfmnjmaaDoor
open Go.RowKit Go.Joins

abbrev tN2 : TypeId := 53
/-- What the document's node answers. -/
def RNodP (b : Nat) (d : Nat) (O : Option (Bn × List UInt8)) (w : World) (e : Ending) (w' : World) : Prop := Off b w w' ∧ match O with
  | none => (∃ n p l c, e = .returned (.agg (bnA n p l c))) ∧ RRd w' b none
  | some (n, r) => ∃ p cap, e = .returned (.agg (bnA n p n.args.length cap)) ∧ RdQ rfE 12 w' (fun k => w.heap.size ≤ k) d n p n.args.length ∧ RRd w' b (some r)
def RNodC (d : Nat) : Prop := ∀ (b : Nat) (S : Option (List UInt8)) (w : World), RRd w b S → Calls Tryd.prog 20 #[.pointer (some ⟨b, 0, none⟩), .int .i64 (d : Nat)] w (RNodP b d (S.bind (rkN d)) w)
theorem info_n2 : (Tryd.prog.info? tN2).map (fun i => (i.zero, i.size, i.bytes)) = some (some (.agg #[.int .i64 0, .int .i64 0, .string ⟨#[]⟩, .int .u64 0, .int .i64 0, .int .u64 0, .int .i64 0, .int .u64 0, .int .i64 0, .int .u64 0, .int .i64 0, .slice none 0 0]), 12, 120) := by kernel_rfl
/-- The node's own part, as the document reads it: kind 0 spoils the reader. -/
def hdR (k : Nat) (S : Option (List UInt8)) : Hd := if k = 0 then ⟨0, [], rfZ, rfZ, true, none⟩ else hdQ k S
/-- What the loop over the parts holds: good so far, or lost. -/
def RkS (O : Option (Bn × List UInt8)) (b g d c i k : Nat) (hd : Hd) (v : Value) (wr : World) : Prop :=
  wr.ownsRow (g + 1) tN2 12 v 0 [] ∧ False ∨ (∃ (L' : List UInt8) (acc : List (KidQ Rfp)), RRd wr b (some L') ∧ wr.ownsRow (g + 1) tN2 12 v i (acc.flatMap (kidQ rfE)) ∧ (∀ x ∈ acc, RdQ rfE 12 wr (okQ (g + 1) wr v) d x.1 x.2.1 x.2.2.1) ∧ acc.length = i ∧
    O = (tkL (rkN d) (c - i) L').map fun x => (.mk k hd.u hd.t hd.f hd.g (acc.map Prod.fst ++ x.1), x.2)) ∨ (RRd wr b none ∧ O = none)
theorem newN2 (w : World) (c : Bn) (p2 : Option Addr) (l' c2 : Nat) : ∀ j u, (kidQ rfE (c, p2, l', c2))[j]? = some u → (w.alloc (.cells (bnA c p2 l' c2) tN2)).cell? ((⟨w.heap.size, 0, none⟩ : Addr).add j) = some u := by
  intro j u hj
  have hb : BlkC (w.alloc (.cells (bnA c p2 l' c2) tN2)) w.heap.size (bnA c p2 l' c2) tN2 := heap_alloc_new w _
  rw [Addr.add_mid, Nat.zero_add, cell_of_block hb]
  have e : bnA c p2 l' c2 = (kidQ rfE (c, p2, l', c2)).toArray := rfl
  rw [e]
  simpa using hj
/-- Worlds in which the blocks below N other than b are as they were. -/
structure KeptB (N b : Nat) (w : World) where
  v : World
  h : ∀ k, k < N → k ≠ b → v.heap[k]? = w.heap[k]?
instance (N b : Nat) (w : World) : Nonempty (KeptB N b w) := ⟨⟨w, fun _ _ _ => rfl⟩⟩
theorem KeptB.cell {N b : Nat} {w : World} {g o : Nat} {u : Value} (hg : g < N) (hb : g ≠ b) (h : w.cell? ⟨g, o, none⟩ = some u) : ∀ x : KeptB N b w, x.v.cell? ⟨g, o, none⟩ = some u := fun x => by
  unfold World.cell? at h ⊢
  rw [x.h g hg hb]
  exact h
theorem keptB_drew (N b : Nat) (w : World) : ∃ x : KeptB N b w, w.drew = x.v := ⟨⟨w.drew, fun _ _ _ => rfl⟩, rfl⟩
/-- The parts behind one more append (one new box), and behind the store of the row. -/
theorem kidsC_on {b g d l' c2 k11 : Nat} {wr w3 w5 : World} {o1 : Obj} {v v' u : Value} {acc : List (KidQ Rfp)} {c : Bn} {p2 : Option Addr} (hbg : b < g) (hg : g < wr.heap.size) (ho : Off b wr w3) (hgr : (w3.alloc o1).grownBy w5 v.ownBlock)
    (hat : v'.ownBlock = v.ownBlock ∨ v'.ownBlock = some (w3.alloc o1).heap.size) (hlt : ∀ k, v.ownBlock = some k → g + 1 ≤ k ∧ k < wr.heap.size) (hk : ∀ x ∈ acc, RdQ rfE 12 wr (okQ (g + 1) wr v) d x.1 x.2.1 x.2.2.1)
    (hn : RdQ rfE 12 w3 (fun k => wr.heap.size ≤ k) d c p2 l') :
    ∀ x ∈ acc ++ [(c, p2, l', c2)], RdQ rfE 12 (w5.setCell ⟨g, k11, none⟩ u) (okQ (g + 1) (w5.setCell ⟨g, k11, none⟩ u) v') d x.1 x.2.1 x.2.2.1 := by
  have hs := ho.size
  have hs2 := hgr.size
  simp only [World.size_alloc] at hs2 hat
  have hblk : ∀ k, g ≠ k → k < w3.heap.size → v.ownBlock ≠ some k → (w5.setCell ⟨g, k11, none⟩ u).heap[k]? = w3.heap[k]? := fun k h1 h2 h3 => by
    rw [heap_setCell_other _ _ _ _ (fun e => h1 e.symm), hgr.block k (by simp only [World.size_alloc]; omega) (fun e => h3 e.symm), heap_alloc_old _ _ h2]
  intro x hx
  rcases List.mem_append.1 hx with hx | hx
  · refine RdQ.carry (fun k hb' hkl => ?_) (hk x hx)
    obtain ⟨h1, h2, h3⟩ := hb'
    refine ⟨⟨h1, by rw [World.size_setCell]; omega, ?_⟩, ?_⟩
    · rcases hat with e | e
      · rw [e]; exact h3
      · rw [e]; intro e'; have := Option.some.inj e'; omega
    · rw [hblk k (by omega) (by omega) h3, ho.block k h2 (by omega)]
  · obtain rfl := List.mem_singleton.1 hx
    refine RdQ.carry (fun k hb' hkl => ?_) hn
    have h3 : v.ownBlock ≠ some k := fun e => by have := (hlt k e).2; omega
    refine ⟨⟨by omega, by rw [World.size_setCell]; omega, ?_⟩, ?_⟩
    · rcases hat with e | e
      · rw [e]; exact h3
      · rw [e]; intro e'; have := Option.some.inj e'; omega
    · exact hblk k (by omega) hkl h3
/-- The reader's bytes behind three stores into blocks that hold none of them. -/
theorem rdu3 {b g : Nat} {w : World} {p : Option Addr} {n cap : Nat} {L : List UInt8} (h : RdU w b p n cap L) (hg : b < g) (i1 i2 i3 : Nat) (v1 v2 v3 : Value) : RdU (((w.setCell ⟨b, i1, none⟩ v1).setCell ⟨g, i2, none⟩ v2).setCell ⟨b, i3, none⟩ v3) b p n cap L := by
  obtain ⟨h1, h2, h3, h4⟩ := h
  refine ⟨h1, h2, h3, ?_⟩
  rcases h4 with h4 | ⟨c, off, h5, h6, h7, h8⟩
  · exact .inl h4
  · refine .inr ⟨c, off, h5, h6, by simp only [World.size_setCell]; exact h7, fun j hj => ?_⟩
    rw [← h8 j hj]
    unfold World.cell?
    rw [heap_setCell_other _ _ _ _ (by show c ≠ b; omega), heap_setCell_other _ _ _ _ (by show c ≠ g; omega), heap_setCell_other _ _ _ _ (by show c ≠ b; omega)]
set_option maxRecDepth 100000 in
set_option maxHeartbeats 32000000 in
theorem rnode_s (d : Nat) (hd64 : d ≤ 64) (IH : ∀ d', d = d' + 1 → RNodC d') : RNodC d := by
  intro b S w hrd
  have hA0 : Hid (BlkC (w.alloc (.cells (bnA bnZ none 0 0) tN2)) w.heap.size (bnA bnZ none 0 0) tN2) := heap_alloc_new w _
  have hAB : Below w.heap.size w (w.alloc (.cells (bnA bnZ none 0 0) tN2)) := by (repeat' (first | (with_reducible exact Below.refl _ _) | (with_reducible assumption) | (with_reducible refine Below.alloc ?_ ?_ _) | (with_reducible refine bel_drewN ?_ _) | (with_reducible refine Below.drew ?_) | (with_reducible refine Below.setCell ?_ ?_ _) | (with_reducible refine bel_call ‹_› ?_ ?_) | go_size))
  have hR0 := Lib.hid (hrd.below hAB)
  have hO0 := Lib.hid (Off.of_below (b := b) hAB)
  have hlt := hrd.lt
  have HIH := Lib.hid IH
  obtain ⟨O, hO⟩ : ∃ O, S.bind (rkN d) = O := ⟨_, rfl⟩
  have HO := Lib.hid hO
  rw [hO]
  clear hO hrd hAB IH
  go_enter Tryd.func20, Tryd.ntmps20
  go_upto_region 1 with fail
  have e0 : w.alloc (.cells #[.int .i64 0, .int .i64 0, .string ⟨#[]⟩, .int .u64 0, .int .i64 0, .int .u64 0, .int .i64 0, .int .u64 0, .int .i64 0, .int .u64 0, .int .i64 0, .slice none 0 0] tN2) = w.alloc (.cells (bnA bnZ none 0 0) tN2) := rfl
  rw [e0]
  clear e0
  generalize w.alloc (.cells (bnA bnZ none 0 0) tN2) = w0 at hA0 hR0 hO0 ⊢
  obtain ⟨p, n, cap, bad, L0, hb0, hl0, hu0, hs0⟩ := hR0.out
  have HB0 := Lib.hid hb0
  have HU0 := Lib.hid hu0
  have HL0 := Lib.hid hl0
  have HS0 := Lib.hid hs0
  clear hb0 hl0 hu0 hs0
  cases d with
  | zero =>
    have HON : Hid (O = none) := by unfold Hid; rw [← HO.out]; cases S <;> rfl
    clear HO HIH hR0 HS0
    have c1 : w0.cell? ⟨b, 1, none⟩ = some (.bool bad) := HB0.out.cell 1 _ rfl
    have f1 := HB0.out.fz 1
    go_upto_region 3 with fail
    have hA1 : Hid (BlkC (w0.setCell ⟨b, 1, none⟩ (.bool true)) w.heap.size (bnA bnZ none 0 0) tN2) := (heap_setCell_other _ _ _ _ (by show w.heap.size ≠ b; omega)).trans hA0.out
    have hR1 : Hid (RRd (w0.setCell ⟨b, 1, none⟩ (.bool true)) b none) := ⟨p, n, cap, true, L0, block_setCell HB0.out (.bool true), HL0.out, HU0.out.off ((Off.refl b w0).set 1 _) (Nat.le_refl _), rfl⟩
    have hO1 : Hid (Off b w (w0.setCell ⟨b, 1, none⟩ (.bool true))) := hO0.out.set _ _
    clear c1 f1
    generalize w0.setCell ⟨b, 1, none⟩ (.bool true) = w1 at hA1 hR1 hO1 ⊢
    refine wp_region_lit ?_
    refine wpList_plain rfl fun K hK => ?_
    go_simp
    refine hK _ _ ?_
    clear hK K
    refine wpList_store_mid (by rfl) _ _ _ (by rfl) w.heap.size 0 #[.int .i64 0, .int .i64 0, .string ⟨#[]⟩, .int .u64 0, .int .i64 0, .int .u64 0, .int .i64 0, .int .u64 0, .int .i64 0, .int .u64 0, .int .i64 0, .slice none 0 0] (by rfl) (by rfl) (block_there hA1.out 12 (Nat.le_refl _)) (by kernel_rfl) (by simp [Value.oneCell']) ?_
    have hs8 : Hid (BlkC (w1.setCells w.heap.size 0 #[.int .i64 0, .int .i64 0, .string ⟨#[]⟩, .int .u64 0, .int .i64 0, .int .u64 0, .int .i64 0, .int .u64 0, .int .i64 0, .int .u64 0, .int .i64 0, .slice none 0 0].toList) w.heap.size (bnA bnZ none 0 0) tN2) := store_block hA1.out _ rfl
    have ho8 : Hid (Off b w (w1.setCells w.heap.size 0 #[.int .i64 0, .int .i64 0, .string ⟨#[]⟩, .int .u64 0, .int .i64 0, .int .u64 0, .int .i64 0, .int .u64 0, .int .i64 0, .int .u64 0, .int .i64 0, .slice none 0 0].toList)) := hO1.out.set_cells (Nat.le_refl _) _ _
    have hr8 : Hid (RRd (w1.setCells w.heap.size 0 #[.int .i64 0, .int .i64 0, .string ⟨#[]⟩, .int .u64 0, .int .i64 0, .int .u64 0, .int .i64 0, .int .u64 0, .int .i64 0, .int .u64 0, .int .i64 0, .slice none 0 0].toList) b none) := hR1.out.low (store_below (by omega) _ _ _ (Below.refl _ _))
    have hn8 : Hid (∀ k', k' ≠ w.heap.size → (w1.setCells w.heap.size 0 #[.int .i64 0, .int .i64 0, .string ⟨#[]⟩, .int .u64 0, .int .i64 0, .int .u64 0, .int .i64 0, .int .u64 0, .int .i64 0, .int .u64 0, .int .i64 0, .slice none 0 0].toList).heap[k']? = w1.heap[k']?) := fun k' h => store_other h _ _ _
    generalize w1.setCells w.heap.size 0 #[.int .i64 0, .int .i64 0, .string ⟨#[]⟩, .int .u64 0, .int .i64 0, .int .u64 0, .int .i64 0, .int .u64 0, .int .i64 0, .int .u64 0, .int .i64 0, .slice none 0 0].toList = w9 at hs8 ho8 hr8 hn8 ⊢
    go_simp
    iterate 3 (first | go_values | go_skip | go_guarded | go_step | go_upon)
    apply wp_ret
    try simp only [Exit.inBlock, Exit.then]
    refine bodyPost_ret (results_cell_row rfl _ _ w.heap.size tN2 (bnA bnZ none 0 0) (0, 0) _ rfl hs8.out Tryd.underlying53 rfl (by kernel_rfl)) rfl ⟨ho8.out, ?_⟩
    rw [HON.out]
    exact ⟨⟨bnZ, none, 0, 0, rfl⟩, hr8.out⟩
  | succ d =>
  have hdi : ¬ ((d : Int) + 1 < 1) := by omega
  cases bad with
  | true =>
    have HON : Hid (O = none) := by unfold Hid; rw [← HO.out, HS0.out]; rfl
    clear HO HIH hR0 HS0
    obtain ⟨bad, hbad⟩ : ∃ bad, bad = true := ⟨_, rfl⟩
    rw [← hbad] at HB0
    have c1 : w0.cell? ⟨b, 1, none⟩ = some (.bool true) := by rw [← hbad]; exact HB0.out.cell 1 _ rfl
    have f1 := HB0.out.fz 1
    clear hbad
    go_upto_region 3 with fail
    have hA1 : Hid (BlkC (w0.setCell ⟨b, 1, none⟩ (.bool true)) w.heap.size (bnA bnZ none 0 0) tN2) := (heap_setCell_other _ _ _ _ (by show w.heap.size ≠ b; omega)).trans hA0.out
    have hR1 : Hid (RRd (w0.setCell ⟨b, 1, none⟩ (.bool true)) b none) := ⟨p, n, cap, true, L0, block_setCell HB0.out (.bool true), HL0.out, HU0.out.off ((Off.refl b w0).set 1 _) (Nat.le_refl _), rfl⟩
    have hO1 : Hid (Off b w (w0.setCell ⟨b, 1, none⟩ (.bool true))) := hO0.out.set _ _
    clear c1 f1
    generalize w0.setCell ⟨b, 1, none⟩ (.bool true) = w1 at hA1 hR1 hO1 ⊢
    refine wp_region_lit ?_
    refine wpList_plain rfl fun K hK => ?_
    go_simp
    refine hK _ _ ?_
    clear hK K
    refine wpList_store_mid (by rfl) _ _ _ (by rfl) w.heap.size 0 #[.int .i64 0, .int .i64 0, .string ⟨#[]⟩, .int .u64 0, .int .i64 0, .int .u64 0, .int .i64 0, .int .u64 0, .int .i64 0, .int .u64 0, .int .i64 0, .slice none 0 0] (by rfl) (by rfl) (block_there hA1.out 12 (Nat.le_refl _)) (by kernel_rfl) (by simp [Value.oneCell']) ?_
    have hs8 : Hid (BlkC (w1.setCells w.heap.size 0 #[.int .i64 0, .int .i64 0, .string ⟨#[]⟩, .int .u64 0, .int .i64 0, .int .u64 0, .int .i64 0, .int .u64 0, .int .i64 0, .int .u64 0, .int .i64 0, .slice none 0 0].toList) w.heap.size (bnA bnZ none 0 0) tN2) := store_block hA1.out _ rfl
    have ho8 : Hid (Off b w (w1.setCells w.heap.size 0 #[.int .i64 0, .int .i64 0, .string ⟨#[]⟩, .int .u64 0, .int .i64 0, .int .u64 0, .int .i64 0, .int .u64 0, .int .i64 0, .int .u64 0, .int .i64 0, .slice none 0 0].toList)) := hO1.out.set_cells (Nat.le_refl _) _ _
    have hr8 : Hid (RRd (w1.setCells w.heap.size 0 #[.int .i64 0, .int .i64 0, .string ⟨#[]⟩, .int .u64 0, .int .i64 0, .int .u64 0, .int .i64 0, .int .u64 0, .int .i64 0, .int .u64 0, .int .i64 0, .slice none 0 0].toList) b none) := hR1.out.low (store_below (by omega) _ _ _ (Below.refl _ _))
    have hn8 : Hid (∀ k', k' ≠ w.heap.size → (w1.setCells w.heap.size 0 #[.int .i64 0, .int .i64 0, .string ⟨#[]⟩, .int .u64 0, .int .i64 0, .int .u64 0, .int .i64 0, .int .u64 0, .int .i64 0, .int .u64 0, .int .i64 0, .slice none 0 0].toList).heap[k']? = w1.heap[k']?) := fun k' h => store_other h _ _ _
    generalize w1.setCells w.heap.size 0 #[.int .i64 0, .int .i64 0, .string ⟨#[]⟩, .int .u64 0, .int .i64 0, .int .u64 0, .int .i64 0, .int .u64 0, .int .i64 0, .int .u64 0, .int .i64 0, .slice none 0 0].toList = w9 at hs8 ho8 hr8 hn8 ⊢
    go_simp
    iterate 3 (first | go_values | go_skip | go_guarded | go_step | go_upon)
    apply wp_ret
    try simp only [Exit.inBlock, Exit.then]
    refine bodyPost_ret (results_cell_row rfl _ _ w.heap.size tN2 (bnA bnZ none 0 0) (0, 0) _ rfl hs8.out Tryd.underlying53 rfl (by kernel_rfl)) rfl ⟨ho8.out, ?_⟩
    rw [HON.out]
    exact ⟨⟨bnZ, none, 0, 0, rfl⟩, hr8.out⟩
  | false =>
  have hSL : S = some L0 := HS0.out
  subst hSL
  have c1 : w0.cell? ⟨b, 1, none⟩ = some (.bool false) := HB0.out.cell 1 _ rfl
  have HI := Lib.hid (rnumr_any b (some L0) 8 w0 hR0.out (intR 8 (some L0)) rfl)
  have hk8 := intR_le 8 (some L0)
  have hkb := intR_bad 8 (some L0)
  have HO1 : Hid (O = match intR 8 (some L0) with
    | (_, none) => none
    | (k, some L1) => if k = 0 then none else
      (match cP k (hdQ k (some L1)).S with
        | (_, none) => none
        | (c, some L3) => (tkL (rkN d) c L3).map fun x => (.mk k (hdQ k (some L1)).u (hdQ k (some L1)).t (hdQ k (some L1)).f (hdQ k (some L1)).g x.1, x.2))) := by
    unfold Hid
    rw [← HO.out]
    rfl
  obtain ⟨⟨k, S1⟩, hk⟩ : ∃ x, intR 8 (some L0) = x := ⟨_, rfl⟩
  rw [hk] at HI hk8 hkb HO1
  have hk8' : k ≤ 8 := hk8
  have hkb' : S1 = none → k = 0 := hkb
  have HKB := Lib.hid hkb'
  clear hk hk8 hkb hkb' HO HS0 HL0 HU0
  go_wp2_with fail
  refine HI.out.mono ?_
  rintro e w1 ⟨rfl, hrd, hoff⟩
  have hw64 : IntKind.i64.wrap (k : Nat) = (k : Nat) := IntWalk.i64_in _ (by omega)
  have hH1 : Hid (BlkC w1 w.heap.size (bnA bnZ none 0 0) tN2) := hoff.blk (by omega) hA0.out
  have hO1 := Lib.hid (hO0.out.trans hoff)
  have HRD := Lib.hid hrd
  clear hrd hoff HI hA0 hO0 hR0 HB0 c1
  go_upto_region 5 with fail
  have hG2 := Lib.hid (blk_new w1 (bnA (.mk k 0 [] rfZ rfZ []) none 0 0) tN2)
  have hbn : Below w1.heap.size w1 (w1.alloc (.cells (bnA (.mk k 0 [] rfZ rfZ []) none 0 0) tN2)) := by (repeat' (first | (with_reducible exact Below.refl _ _) | (with_reducible assumption) | (with_reducible refine Below.alloc ?_ ?_ _) | (with_reducible refine bel_drewN ?_ _) | (with_reducible refine Below.drew ?_) | (with_reducible refine Below.setCell ?_ ?_ _) | (with_reducible refine bel_call ‹_› ?_ ?_) | go_size))
  have hH2 := Lib.hid (hH1.out.below hbn)
  have hO2 := Lib.hid (hO1.out.call hbn)
  have hR2 := Lib.hid (HRD.out.below hbn)
  have hgH : w.heap.size < w1.heap.size := lt_some hH1.out
  have e1 : w1.alloc (.cells #[.int .i64 (k : Nat), .int .i64 0, .string ⟨#[]⟩, .int .u64 0, .int .i64 0, .int .u64 0, .int .i64 0, .int .u64 0, .int .i64 0, .int .u64 0, .int .i64 0, .slice none 0 0] tN2) = w1.alloc (.cells (bnA (.mk k 0 [] rfZ rfZ []) none 0 0) tN2) := rfl
  rw [e1]
  clear e1 hbn hH1 hO1 HRD hw64
  generalize w1.alloc (.cells (bnA (.mk k 0 [] rfZ rfZ []) none 0 0) tN2) = w2 at hG2 hH2 hO2 hR2 ⊢
  generalize w1.heap.size = g at hG2 hgH ⊢
  have hkc : k = 0 ∨ k = 1 ∨ k = 2 ∨ k = 3 ∨ k = 4 ∨ k = 5 ∨ k = 6 ∨ k = 7 ∨ k = 8 := by omega
  obtain ⟨W2, hW2⟩ : ∃ W2, w2 = W2 := ⟨_, rfl⟩
  go_cut [6] (fun v6 wx => v6 = .int .i64 (cntK k : Nat) ∧ Below W2.heap.size W2 wx)
  case first => as_aux_lemma =>
    subst hW2
    have HW2 := Lib.hid hG2.out
    clear HO1 HIH HKB hH2 hO2 hR2
    have q0 : w2.cell? ⟨g, 0, none⟩ = some (.int .i64 (k : Nat)) := HW2.out.cell 0 _ rfl
    have hgw : g < w2.heap.size := lt_some HW2.out
    refine wp_region_lit ?_
    refine wpList_buildFlat rfl _ _ 9 _ rfl .i64 [0, 0, 0, 0, 0, 1, 2, 0, 0] Tryd.underlying88 (by kernel_rfl) (by kernel_rfl) rfl (by decide) (by decide) (by rfl) ?_
    have hB9 : BlkC (w2.alloc (.cells (List.map (Value.int .i64) [0, 0, 0, 0, 0, 1, 2, 0, 0]).toArray 3)) w2.heap.size (List.map (Value.int .i64) [0, 0, 0, 0, 0, 1, 2, 0, 0]).toArray 3 := heap_alloc_new w2 _
    have hb9 : Below w2.heap.size w2 (w2.alloc (.cells (List.map (Value.int .i64) [0, 0, 0, 0, 0, 1, 2, 0, 0]).toArray 3)) := (Below.refl _ _).alloc (Nat.le_refl _) _
    have HB9 := Lib.hid hb9
    have hq9 := (hb9.cell (p := ⟨g, 0, none⟩) hgw).trans q0
    clear hb9 q0
    generalize w2.alloc (.cells (List.map (Value.int .i64) [0, 0, 0, 0, 0, 1, 2, 0, 0]).toArray 3) = w4 at hB9 HB9 hq9 ⊢
    have hT9 : w4.cell? ⟨w2.heap.size, k, none⟩ = some (.int .i64 (cntK k : Nat)) := by
      rw [cell_of_block hB9]
      rcases hkc with rfl | rfl | rfl | rfl | rfl | rfl | rfl | rfl | rfl <;> rfl
    have hk9 : (k : Int) < 9 := by omega
    clear hB9 hkc
    go_wp2_with fail
    go_meet
    exact ⟨rfl, HB9.out⟩
  case rest =>
  obtain ⟨rfl, hbx⟩ := hcut
  subst hW2
  replace hG2 := Lib.hid (hG2.out.below hbx)
  replace hH2 := Lib.hid (hH2.out.below hbx)
  replace hO2 := Lib.hid (hO2.out.call hbx)
  replace hR2 := Lib.hid (hR2.out.below hbx)
  clear hbx
  generalize wc = w2 at hG2 hH2 hO2 hR2 ⊢
  have q0 : w2.cell? ⟨g, 0, none⟩ = some (.int .i64 (k : Nat)) := hG2.out.cell 0 _ rfl
  obtain ⟨hd, hhd⟩ : ∃ hd, hdR k S1 = hd := ⟨_, rfl⟩
  have HHD := Lib.hid hhd
  clear hhd
  go_upto_block 0 with fail
  go_cut [] (fun wx => BlkC wx g (bnA (.mk k hd.u hd.t hd.f hd.g []) none 0 0) tN2 ∧ BlkC wx w.heap.size (bnA bnZ none 0 0) tN2 ∧ RRd wx b hd.S ∧ Off b w wx)
  case first => as_aux_lemma =>
    clear HO1
    rcases hkc with rfl | rfl | rfl | rfl | rfl | rfl | rfl | rfl | rfl
    · clear HIH HKB
      have HD1 : Hid ((⟨0, [], rfZ, rfZ, true, none⟩ : Hd) = hd) := HHD.out
      clear HHD
      obtain ⟨p, n, cap, bad, L0, hb0, hl0, hu0, hs0⟩ := hR2.out
      have HB0 := Lib.hid hb0
      have HU0 := Lib.hid hu0
      have c1 : w2.cell? ⟨b, 1, none⟩ = some (.bool bad) := hb0.cell 1 _ rfl
      have f1 := hb0.fz 1
      clear hb0 hu0 hs0
      go_wp2_with fail
      go_meet
      exact ⟨by rw [← HD1.out]; exact (heap_setCell_other _ _ _ _ (by show g ≠ b; omega)).trans hG2.out, (heap_setCell_other _ _ _ _ (by show w.heap.size ≠ b; omega)).trans hH2.out, by rw [← HD1.out]; exact ⟨p, n, cap, true, L0, block_setCell HB0.out (.bool true), hl0, HU0.out.off ((Off.refl b w2).set 1 _) (Nat.le_refl _), rfl⟩, hO2.out.set _ _⟩
    · clear HIH HKB
      have HD1 : Hid ((⟨wrap64 ((numR S1).1 : Nat), [], rfZ, rfZ, true, (numR S1).2⟩ : Hd) = hd) := HHD.out
      have HN := Lib.hid (rnumr_any b S1 18446744073709551615 w2 hR2.out (numR S1) (intR_num S1))
      clear HHD
      generalize numR S1 = N1 at HD1 HN
      go_wp2_with fail
      refine HN.out.mono ?_
      rintro e w3 ⟨rfl, hrd, hoff⟩
      have hG3 : Hid (BlkC w3 g (bnA (.mk (1 : Nat) 0 [] rfZ rfZ []) none 0 0) tN2) := hoff.blk (by omega) hG2.out
      have hH3 : Hid (BlkC w3 w.heap.size (bnA bnZ none 0 0) tN2) := hoff.blk (by omega) hH2.out
      have hO3 := Lib.hid (hO2.out.trans hoff)
      have HRD3 := Lib.hid hrd
      clear hrd hoff HN
      have q1 : w3.cell? ⟨g, 1, none⟩ = some (.int .i64 0) := hG3.out.cell 1 _ rfl
      have y1 := hG3.out.fz 1
      go_wp2_with fail
      go_meet
      exact ⟨by rw [← HD1.out]; exact (block_setCell (hG3.out) _).trans (congrArg some (congrArg (fun x => Obj.cells x tN2) (bn_set1 1 _))), (heap_setCell_other _ _ _ _ (by show w.heap.size ≠ g; omega)).trans hH3.out, by rw [← HD1.out]; exact HRD3.out.low (Below.setCell (Below.refl _ _) (by show b + 1 ≤ g; omega) _), Off.set_new hO3.out (by omega) _ _⟩
    · clear HIH
      have HD1 : Hid ((⟨0, (bytR S1).1, rfZ, rfZ, true, (bytR S1).2⟩ : Hd) = hd) := HHD.out
      clear HHD
      obtain ⟨L1, hS1⟩ : ∃ L1, S1 = some L1 := by cases S1 with | none => exact absurd (HKB.out rfl) (by decide) | some L1 => exact ⟨L1, rfl⟩
      clear HKB
      rw [hS1] at HD1
      obtain ⟨p, n, cap, bad, L0, hb0, hl0, hu0, hs0⟩ := hR2.out
      rw [hS1] at hs0
      cases bad with
      | true => cases hs0
      | false =>
      obtain rfl : L1 = L0 := Option.some.inj hs0
      have hnl : L1.length = n := hu0.1
      have hnc : n ≤ cap := hu0.2.1
      have hcm : cap ≤ maxLen := hu0.2.2.1
      unfold maxLen at hcm
      have HN := Lib.hid (rrun_any p n cap b L1 (by omega) w2 hu0)
      have HB0 := Lib.hid hb0
      have HU0 := Lib.hid hu0
      have HNL := Lib.hid hnl
      have HL0 := Lib.hid hl0
      have c0 : w2.cell? ⟨b, 0, none⟩ = some (.slice p n cap) := hb0.cell 0 _ rfl
      clear hb0 hu0 hs0 hS1 hnl hl0
      go_wp2_with fail
      refine HN.out.mono ?_
      rintro e w3 ⟨hb3, hm⟩
      have hG3 : Hid (BlkC w3 g (bnA (.mk (2 : Nat) 0 [] rfZ rfZ []) none 0 0) tN2) := hG2.out.below hb3
      have hH3 : Hid (BlkC w3 w.heap.size (bnA bnZ none 0 0) tN2) := hH2.out.below hb3
      have hO3 : Hid (Off b w w3) := hO2.out.call hb3
      have HB3 := Lib.hid (HB0.out.below hb3)
      have HU3 := Lib.hid (HU0.out.below hb3)
      have c0 : w3.cell? ⟨b, 0, none⟩ = some (.slice p n cap) := HB3.out.cell 0 _ rfl
      have c1 : w3.cell? ⟨b, 1, none⟩ = some (.bool false) := HB3.out.cell 1 _ rfl
      have f0 := HB3.out.fz 0
      have f1 := HB3.out.fz 1
      have hbg : b ≠ g := by omega
      have q2 : w3.cell? ⟨g, 2, none⟩ = some (.string ⟨#[]⟩) := hG3.out.cell 2 _ rfl
      have y2 := hG3.out.fz 2
      clear hb3 HN HB0 HU0
      cases hd2 : bytD L1 with
      | none =>
        rw [hd2] at hm
        obtain rfl := hm
        have HD2 : Hid ((⟨0, [], rfZ, rfZ, true, none⟩ : Hd) = hd) := by
          have := HD1.out
          unfold bytR at this
          simp only [hd2] at this
          exact this
        have hcv := fun (W : World) => RdU.conv (w := W) (B := b) (p := none) (n := 0) (c := 0) (L := []) ⟨rfl, Nat.le_refl _, Nat.zero_le _, .inl ⟨rfl, rfl, rfl⟩⟩
        have HUc := HU3.out.2.2.2
        clear HD1 hd2
        rcases HUc with ⟨rfl, rfl, rfl⟩ | ⟨b', off, rfl, _, _, _⟩
        · go_wp2_with fail
          go_meet
          exact ⟨by rw [← HD2.out]; exact (heap_setCell_other _ _ _ _ (by show g ≠ b; omega)).trans (block_setCell ((heap_setCell_other _ _ _ _ (by show g ≠ b; omega)).trans hG3.out) _), (heap_setCell_other _ _ _ _ (by show w.heap.size ≠ b; omega)).trans ((heap_setCell_other _ _ _ _ (by show w.heap.size ≠ g; omega)).trans ((heap_setCell_other _ _ _ _ (by show w.heap.size ≠ b; omega)).trans hH3.out)), by rw [← HD2.out]; exact ⟨_, _, _, true, L1, block_setCell ((heap_setCell_other _ _ _ _ (by show b ≠ g; omega)).trans (block_setCell HB3.out _)) _, HL0.out, rdu3 HU3.out (by omega) _ _ _ _ _ _, rfl⟩, (((hO3.out.set _ _).set_new (by omega) _ _).set _ _)⟩
        · by_cases hce : cap = 0
          · subst hce
            obtain rfl : n = 0 := by omega
            go_wp2_with fail
            go_meet
            exact ⟨by rw [← HD2.out]; exact (heap_setCell_other _ _ _ _ (by show g ≠ b; omega)).trans (block_setCell ((heap_setCell_other _ _ _ _ (by show g ≠ b; omega)).trans hG3.out) _), (heap_setCell_other _ _ _ _ (by show w.heap.size ≠ b; omega)).trans ((heap_setCell_other _ _ _ _ (by show w.heap.size ≠ g; omega)).trans ((heap_setCell_other _ _ _ _ (by show w.heap.size ≠ b; omega)).trans hH3.out)), by rw [← HD2.out]; exact ⟨_, _, _, true, L1, block_setCell ((heap_setCell_other _ _ _ _ (by show b ≠ g; omega)).trans (block_setCell HB3.out _)) _, HL0.out, rdu3 HU3.out (by omega) _ _ _ _ _ _, rfl⟩, (((hO3.out.set _ _).set_new (by omega) _ _).set _ _)⟩
          · have hc0 : (0 : Int) < (cap : Int) := by omega
            clear hce
            go_wp2_with fail
            go_meet
            exact ⟨by rw [← HD2.out]; exact (heap_setCell_other _ _ _ _ (by show g ≠ b; omega)).trans (block_setCell ((heap_setCell_other _ _ _ _ (by show g ≠ b; omega)).trans hG3.out) _), (heap_setCell_other _ _ _ _ (by show w.heap.size ≠ b; omega)).trans ((heap_setCell_other _ _ _ _ (by show w.heap.size ≠ g; omega)).trans ((heap_setCell_other _ _ _ _ (by show w.heap.size ≠ b; omega)).trans hH3.out)), by rw [← HD2.out]; exact ⟨_, _, _, true, L1, block_setCell ((heap_setCell_other _ _ _ _ (by show b ≠ g; omega)).trans (block_setCell HB3.out _)) _, HL0.out, rdu3 HU3.out (by omega) _ _ _ _ _ _, rfl⟩, (((hO3.out.set _ _).set_new (by omega) _ _).set _ _)⟩
      | some z =>
        obtain ⟨x, r⟩ := z
        rw [hd2] at hm
        obtain ⟨p', cap', kk, rfl, hux, hk0, hkl, hrd⟩ := hm
        have HD2 : Hid ((⟨0, x, rfZ, rfZ, true, some r⟩ : Hd) = hd) := by
          have := HD1.out
          unfold bytR at this
          simp only [hd2] at this
          exact this
        have hcv : ∀ W, RdU W b p' x.length cap' x → (convert 42 9 (.slice p' x.length cap')).run Tryd.prog W = .ok (.string ⟨x.toArray⟩) W := fun W h => h.conv
        have hcv1 := hcv _ (hux.off ((Off.refl b w3).set 1 (.bool false)) (Nat.le_refl _))
        have hkn : kk ≤ n := by have := HNL.out; omega
        have hk0i : ((kk : Int) == 0) = false := by simp; omega
        have HRD := Lib.hid hrd
        have hrl : r.length ≤ 100000 := by rw [hrd, List.length_drop]; have := HL0.out; omega
        have HRL := Lib.hid hrl
        have HUc := HU3.out.2.2.2
        clear HD1 hd2 hcv hux hrd hrl hkl
        rcases HUc with ⟨_, h0, _⟩ | ⟨b', off, rfl, _, _, _⟩
        · omega
        by_cases hce : cap = kk
        · subst hce
          obtain rfl : n = cap := by omega
          have HDR : Hid (RdU w3 b (some ⟨b', off, none⟩) 0 0 r) := by
            have := HU3.out.drop n (Nat.le_refl _) off (.inr rfl)
            rw [Nat.sub_self] at this
            rw [HRD.out]
            exact this
          go_wp2_with fail
          go_meet
          exact ⟨by rw [← HD2.out]; exact (heap_setCell_other _ _ _ _ (by show g ≠ b; omega)).trans (block_setCell ((heap_setCell_other _ _ _ _ (by show g ≠ b; omega)).trans hG3.out) _), (heap_setCell_other _ _ _ _ (by show w.heap.size ≠ b; omega)).trans ((heap_setCell_other _ _ _ _ (by show w.heap.size ≠ g; omega)).trans ((heap_setCell_other _ _ _ _ (by show w.heap.size ≠ b; omega)).trans hH3.out)), by rw [← HD2.out]; exact ⟨_, _, _, false, r, block_setCell ((heap_setCell_other _ _ _ _ (by show b ≠ g; omega)).trans (block_setCell HB3.out _)) _, HRL.out, rdu3 (by first | exact HDR.out | (rw [HRD.out]; exact HDR.out)) (by omega) _ _ _ _ _ _, rfl⟩, (((hO3.out.set _ _).set_new (by omega) _ _).set _ _)⟩
        · have hvl2 : (kk : Int) < (cap : Int) := by omega
          have hknI : (kk : Int) ≤ (n : Int) := by omega
          have HDR := Lib.hid (HU3.out.drop kk (by omega) (off + kk) (.inl rfl))
          clear hce
          go_wp2_with fail
          go_meet
          exact ⟨by rw [← HD2.out]; exact (heap_setCell_other _ _ _ _ (by show g ≠ b; omega)).trans (block_setCell ((heap_setCell_other _ _ _ _ (by show g ≠ b; omega)).trans hG3.out) _), (heap_setCell_other _ _ _ _ (by show w.heap.size ≠ b; omega)).trans ((heap_setCell_other _ _ _ _ (by show w.heap.size ≠ g; omega)).trans ((heap_setCell_other _ _ _ _ (by show w.heap.size ≠ b; omega)).trans hH3.out)), by rw [← HD2.out]; exact ⟨_, _, _, false, r, block_setCell ((heap_setCell_other _ _ _ _ (by show b ≠ g; omega)).trans (block_setCell HB3.out _)) _, HRL.out, rdu3 (by first | exact HDR.out | (rw [HRD.out]; exact HDR.out)) (by omega) _ _ _ _ _ _, rfl⟩, (((hO3.out.set _ _).set_new (by omega) _ _).set _ _)⟩
    · clear HIH HKB
      have HD1 : Hid ((⟨0, [], (prR S1).1, rfZ, true, (prR S1).2⟩ : Hd) = hd) := HHD.out
      have HN := Lib.hid (rpair_any b S1 w2 hR2.out (prR S1) rfl)
      clear HHD
      generalize prR S1 = N1 at HD1 HN
      go_wp2_with fail
      refine HN.out.mono ?_
      rintro e w3 ⟨rfl, hrd, hoff⟩
      have hG3 : Hid (BlkC w3 g (bnA (.mk (3 : Nat) 0 [] rfZ rfZ []) none 0 0) tN2) := hoff.blk (by omega) hG2.out
      have hH3 : Hid (BlkC w3 w.heap.size (bnA bnZ none 0 0) tN2) := hoff.blk (by omega) hH2.out
      have hO3 := Lib.hid (hO2.out.trans hoff)
      have HRD3 := Lib.hid hrd
      clear hrd hoff HN
      have q3 : w3.cell? ⟨g, 3, none⟩ = some (.int .u64 0) := hG3.out.cell 3 _ rfl
      have y3 := hG3.out.fz 3
      have q4 : w3.cell? ⟨g, 4, none⟩ = some (.int .i64 0) := hG3.out.cell 4 _ rfl
      have y4 := hG3.out.fz 4
      have q5 : w3.cell? ⟨g, 5, none⟩ = some (.int .u64 0) := hG3.out.cell 5 _ rfl
      have y5 := hG3.out.fz 5
      have q6 : w3.cell? ⟨g, 6, none⟩ = some (.int .i64 0) := hG3.out.cell 6 _ rfl
      have y6 := hG3.out.fz 6
      go_wp2_with fail
      go_meet
      exact ⟨by rw [← HD1.out]; exact block_setCell (block_setCell (block_setCell (block_setCell (hG3.out) _) _) _) _, (heap_setCell_other _ _ _ _ (by show w.heap.size ≠ g; omega)).trans ((heap_setCell_other _ _ _ _ (by show w.heap.size ≠ g; omega)).trans ((heap_setCell_other _ _ _ _ (by show w.heap.size ≠ g; omega)).trans ((heap_setCell_other _ _ _ _ (by show w.heap.size ≠ g; omega)).trans (hH3.out)))), by rw [← HD1.out]; exact HRD3.out.low (Below.setCell (Below.setCell (Below.setCell (Below.setCell (Below.refl _ _) (by show b + 1 ≤ g; omega) _) (by show b + 1 ≤ g; omega) _) (by show b + 1 ≤ g; omega) _) (by show b + 1 ≤ g; omega) _), Off.set_new (Off.set_new (Off.set_new (Off.set_new (hO3.out) (by omega) _ _) (by omega) _ _) (by omega) _ _) (by omega) _ _⟩
    · clear HIH HKB
      have HD1 : Hid ((⟨0, [], (prR S1).1, (prR (prR S1).2).1, true, (prR (prR S1).2).2⟩ : Hd) = hd) := HHD.out
      have HN := Lib.hid (rpair_any b S1 w2 hR2.out (prR S1) rfl)
      clear HHD
      generalize prR S1 = N1 at HD1 HN
      go_wp2_with fail
      refine HN.out.mono ?_
      rintro e w3 ⟨rfl, hrd, hoff⟩
      have hG3 : Hid (BlkC w3 g (bnA (.mk (4 : Nat) 0 [] rfZ rfZ []) none 0 0) tN2) := hoff.blk (by omega) hG2.out
      have hH3 : Hid (BlkC w3 w.heap.size (bnA bnZ none 0 0) tN2) := hoff.blk (by omega) hH2.out
      have hO3 := Lib.hid (hO2.out.trans hoff)
      have HRD3 := Lib.hid hrd
      clear hrd hoff HN
      have q3 : w3.cell? ⟨g, 3, none⟩ = some (.int .u64 0) := hG3.out.cell 3 _ rfl
      have y3 := hG3.out.fz 3
      have q4 : w3.cell? ⟨g, 4, none⟩ = some (.int .i64 0) := hG3.out.cell 4 _ rfl
      have y4 := hG3.out.fz 4
      have q5 : w3.cell? ⟨g, 5, none⟩ = some (.int .u64 0) := hG3.out.cell 5 _ rfl
      have y5 := hG3.out.fz 5
      have q6 : w3.cell? ⟨g, 6, none⟩ = some (.int .i64 0) := hG3.out.cell 6 _ rfl
      have y6 := hG3.out.fz 6
      go_upto_region 22 with fail
      have hG4 : Hid (BlkC ((((w3.setCell ⟨g, 3, none⟩ (.int .u64 N1.1.1.1)).setCell ⟨g, 4, none⟩ (.int .i64 N1.1.1.2)).setCell ⟨g, 5, none⟩ (.int .u64 N1.1.2.1)).setCell ⟨g, 6, none⟩ (.int .i64 N1.1.2.2)) g (bnA (.mk (4 : Nat) 0 [] N1.1 rfZ []) none 0 0) tN2) := block_setCell (block_setCell (block_setCell (block_setCell hG3.out _) _) _) _
      have hH4 : Hid (BlkC ((((w3.setCell ⟨g, 3, none⟩ (.int .u64 N1.1.1.1)).setCell ⟨g, 4, none⟩ (.int .i64 N1.1.1.2)).setCell ⟨g, 5, none⟩ (.int .u64 N1.1.2.1)).setCell ⟨g, 6, none⟩ (.int .i64 N1.1.2.2)) w.heap.size (bnA bnZ none 0 0) tN2) := (heap_setCell_other _ _ _ _ (by show w.heap.size ≠ g; omega)).trans ((heap_setCell_other _ _ _ _ (by show w.heap.size ≠ g; omega)).trans ((heap_setCell_other _ _ _ _ (by show w.heap.size ≠ g; omega)).trans ((heap_setCell_other _ _ _ _ (by show w.heap.size ≠ g; omega)).trans hH3.out)))
      have hR4 : Hid (RRd ((((w3.setCell ⟨g, 3, none⟩ (.int .u64 N1.1.1.1)).setCell ⟨g, 4, none⟩ (.int .i64 N1.1.1.2)).setCell ⟨g, 5, none⟩ (.int .u64 N1.1.2.1)).setCell ⟨g, 6, none⟩ (.int .i64 N1.1.2.2)) b N1.2) := HRD3.out.low (Below.setCell (Below.setCell (Below.setCell (Below.setCell (Below.refl _ _) (by show b + 1 ≤ g; omega) _) (by show b + 1 ≤ g; omega) _) (by show b + 1 ≤ g; omega) _) (by show b + 1 ≤ g; omega) _)
      have hO4 : Hid (Off b w ((((w3.setCell ⟨g, 3, none⟩ (.int .u64 N1.1.1.1)).setCell ⟨g, 4, none⟩ (.int .i64 N1.1.1.2)).setCell ⟨g, 5, none⟩ (.int .u64 N1.1.2.1)).setCell ⟨g, 6, none⟩ (.int .i64 N1.1.2.2))) := Off.set_new (Off.set_new (Off.set_new (Off.set_new hO3.out (by omega) _ _) (by omega) _ _) (by omega) _ _) (by omega) _ _
      clear q3 q4 q5 q6 y3 y4 y5 y6 hG3 hH3 hO3 HRD3
      generalize ((((w3.setCell ⟨g, 3, none⟩ (.int .u64 N1.1.1.1)).setCell ⟨g, 4, none⟩ (.int .i64 N1.1.1.2)).setCell ⟨g, 5, none⟩ (.int .u64 N1.1.2.1)).setCell ⟨g, 6, none⟩ (.int .i64 N1.1.2.2)) = w4 at hG4 hH4 hR4 hO4 ⊢
      have HN := Lib.hid (rpair_any b N1.2 w4 hR4.out (prR N1.2) rfl)
      generalize prR N1.2 = N2 at HD1 HN
      go_wp2_with fail
      refine HN.out.mono ?_
      rintro e w5 ⟨rfl, hrd, hoff⟩
      have hG5 : Hid (BlkC w5 g (bnA (.mk (4 : Nat) 0 [] N1.1 rfZ []) none 0 0) tN2) := hoff.blk (by omega) hG4.out
      have hH5 : Hid (BlkC w5 w.heap.size (bnA bnZ none 0 0) tN2) := hoff.blk (by omega) hH4.out
      have hO5 := Lib.hid (hO4.out.trans hoff)
      have HRD5 := Lib.hid hrd
      clear hrd hoff HN
      have q7 : w5.cell? ⟨g, 7, none⟩ = some (.int .u64 0) := hG5.out.cell 7 _ rfl
      have y7 := hG5.out.fz 7
      have q8 : w5.cell? ⟨g, 8, none⟩ = some (.int .i64 0) := hG5.out.cell 8 _ rfl
      have y8 := hG5.out.fz 8
      have q9 : w5.cell? ⟨g, 9, none⟩ = some (.int .u64 0) := hG5.out.cell 9 _ rfl
      have y9 := hG5.out.fz 9
      have q10 : w5.cell? ⟨g, 10, none⟩ = some (.int .i64 0) := hG5.out.cell 10 _ rfl
      have y10 := hG5.out.fz 10
      go_wp2_with fail
      go_meet
      exact ⟨by rw [← HD1.out]; exact block_setCell (block_setCell (block_setCell (block_setCell (hG5.out) _) _) _) _, (heap_setCell_other _ _ _ _ (by show w.heap.size ≠ g; omega)).trans ((heap_setCell_other _ _ _ _ (by show w.heap.size ≠ g; omega)).trans ((heap_setCell_other _ _ _ _ (by show w.heap.size ≠ g; omega)).trans ((heap_setCell_other _ _ _ _ (by show w.heap.size ≠ g; omega)).trans (hH5.out)))), by rw [← HD1.out]; exact HRD5.out.low (Below.setCell (Below.setCell (Below.setCell (Below.setCell (Below.refl _ _) (by show b + 1 ≤ g; omega) _) (by show b + 1 ≤ g; omega) _) (by show b + 1 ≤ g; omega) _) (by show b + 1 ≤ g; omega) _), Off.set_new (Off.set_new (Off.set_new (Off.set_new (hO5.out) (by omega) _ _) (by omega) _ _) (by omega) _ _) (by omega) _ _⟩
    · clear HIH HKB
      have HD1 : Hid ((⟨0, [], rfZ, rfZ, true, S1⟩ : Hd) = hd) := HHD.out
      clear HHD
      go_wp2_with fail
      go_meet
      exact ⟨by rw [← HD1.out]; exact hG2.out, hH2.out, by rw [← HD1.out]; exact hR2.out.low (Below.refl _ _), hO2.out⟩
    · clear HIH
      have HD1 : Hid ((⟨0, (bytR S1).1, rfZ, rfZ, true, (bytR S1).2⟩ : Hd) = hd) := HHD.out
      clear HHD
      obtain ⟨L1, hS1⟩ : ∃ L1, S1 = some L1 := by cases S1 with | none => exact absurd (HKB.out rfl) (by decide) | some L1 => exact ⟨L1, rfl⟩
      clear HKB
      rw [hS1] at HD1
      obtain ⟨p, n, cap, bad, L0, hb0, hl0, hu0, hs0⟩ := hR2.out
      rw [hS1] at hs0
      cases bad with
      | true => cases hs0
      | false =>
      obtain rfl : L1 = L0 := Option.some.inj hs0
      have hnl : L1.length = n := hu0.1
      have hnc : n ≤ cap := hu0.2.1
      have hcm : cap ≤ maxLen := hu0.2.2.1
      unfold maxLen at hcm
      have HN := Lib.hid (rrun_any p n cap b L1 (by omega) w2 hu0)
      have HB0 := Lib.hid hb0
      have HU0 := Lib.hid hu0
      have HNL := Lib.hid hnl
      have HL0 := Lib.hid hl0
      have c0 : w2.cell? ⟨b, 0, none⟩ = some (.slice p n cap) := hb0.cell 0 _ rfl
      clear hb0 hu0 hs0 hS1 hnl hl0
      go_wp2_with fail
      refine HN.out.mono ?_
      rintro e w3 ⟨hb3, hm⟩
      have hG3 : Hid (BlkC w3 g (bnA (.mk (6 : Nat) 0 [] rfZ rfZ []) none 0 0) tN2) := hG2.out.below hb3
      have hH3 : Hid (BlkC w3 w.heap.size (bnA bnZ none 0 0) tN2) := hH2.out.below hb3
      have hO3 : Hid (Off b w w3) := hO2.out.call hb3
      have HB3 := Lib.hid (HB0.out.below hb3)
      have HU3 := Lib.hid (HU0.out.below hb3)
      have c0 : w3.cell? ⟨b, 0, none⟩ = some (.slice p n cap) := HB3.out.cell 0 _ rfl
      have c1 : w3.cell? ⟨b, 1, none⟩ = some (.bool false) := HB3.out.cell 1 _ rfl
      have f0 := HB3.out.fz 0
      have f1 := HB3.out.fz 1
      have hbg : b ≠ g := by omega
      have q2 : w3.cell? ⟨g, 2, none⟩ = some (.string ⟨#[]⟩) := hG3.out.cell 2 _ rfl
      have y2 := hG3.out.fz 2
      clear hb3 HN HB0 HU0
      cases hd2 : bytD L1 with
      | none =>
        rw [hd2] at hm
        obtain rfl := hm
        have HD2 : Hid ((⟨0, [], rfZ, rfZ, true, none⟩ : Hd) = hd) := by
          have := HD1.out
          unfold bytR at this
          simp only [hd2] at this
          exact this
        have hcv := fun (W : World) => RdU.conv (w := W) (B := b) (p := none) (n := 0) (c := 0) (L := []) ⟨rfl, Nat.le_refl _, Nat.zero_le _, .inl ⟨rfl, rfl, rfl⟩⟩
        have HUc := HU3.out.2.2.2
        clear HD1 hd2
        rcases HUc with ⟨rfl, rfl, rfl⟩ | ⟨b', off, rfl, _, _, _⟩
        · go_wp2_with fail
          go_meet
          exact ⟨by rw [← HD2.out]; exact (heap_setCell_other _ _ _ _ (by show g ≠ b; omega)).trans (block_setCell ((heap_setCell_other _ _ _ _ (by show g ≠ b; omega)).trans hG3.out) _), (heap_setCell_other _ _ _ _ (by show w.heap.size ≠ b; omega)).trans ((heap_setCell_other _ _ _ _ (by show w.heap.size ≠ g; omega)).trans ((heap_setCell_other _ _ _ _ (by show w.heap.size ≠ b; omega)).trans hH3.out)), by rw [← HD2.out]; exact ⟨_, _, _, true, L1, block_setCell ((heap_setCell_other _ _ _ _ (by show b ≠ g; omega)).trans (block_setCell HB3.out _)) _, HL0.out, rdu3 HU3.out (by omega) _ _ _ _ _ _, rfl⟩, (((hO3.out.set _ _).set_new (by omega) _ _).set _ _)⟩
        · by_cases hce : cap = 0
          · subst hce
            obtain rfl : n = 0 := by omega
            go_wp2_with fail
            go_meet
            exact ⟨by rw [← HD2.out]; exact (heap_setCell_other _ _ _ _ (by show g ≠ b; omega)).trans (block_setCell ((heap_setCell_other _ _ _ _ (by show g ≠ b; omega)).trans hG3.out) _), (heap_setCell_other _ _ _ _ (by show w.heap.size ≠ b; omega)).trans ((heap_setCell_other _ _ _ _ (by show w.heap.size ≠ g; omega)).trans ((heap_setCell_other _ _ _ _ (by show w.heap.size ≠ b; omega)).trans hH3.out)), by rw [← HD2.out]; exact ⟨_, _, _, true, L1, block_setCell ((heap_setCell_other _ _ _ _ (by show b ≠ g; omega)).trans (block_setCell HB3.out _)) _, HL0.out, rdu3 HU3.out (by omega) _ _ _ _ _ _, rfl⟩, (((hO3.out.set _ _).set_new (by omega) _ _).set _ _)⟩
          · have hc0 : (0 : Int) < (cap : Int) := by omega
            clear hce
            go_wp2_with fail
            go_meet
            exact ⟨by rw [← HD2.out]; exact (heap_setCell_other _ _ _ _ (by show g ≠ b; omega)).trans (block_setCell ((heap_setCell_other _ _ _ _ (by show g ≠ b; omega)).trans hG3.out) _), (heap_setCell_other _ _ _ _ (by show w.heap.size ≠ b; omega)).trans ((heap_setCell_other _ _ _ _ (by show w.heap.size ≠ g; omega)).trans ((heap_setCell_other _ _ _ _ (by show w.heap.size ≠ b; omega)).trans hH3.out)), by rw [← HD2.out]; exact ⟨_, _, _, true, L1, block_setCell ((heap_setCell_other _ _ _ _ (by show b ≠ g; omega)).trans (block_setCell HB3.out _)) _, HL0.out, rdu3 HU3.out (by omega) _ _ _ _ _ _, rfl⟩, (((hO3.out.set _ _).set_new (by omega) _ _).set _ _)⟩
      | some z =>
        obtain ⟨x, r⟩ := z
        rw [hd2] at hm
        obtain ⟨p', cap', kk, rfl, hux, hk0, hkl, hrd⟩ := hm
        have HD2 : Hid ((⟨0, x, rfZ, rfZ, true, some r⟩ : Hd) = hd) := by
          have := HD1.out
          unfold bytR at this
          simp only [hd2] at this
          exact this
        have hcv : ∀ W, RdU W b p' x.length cap' x → (convert 42 9 (.slice p' x.length cap')).run Tryd.prog W = .ok (.string ⟨x.toArray⟩) W := fun W h => h.conv
        have hcv1 := hcv _ (hux.off ((Off.refl b w3).set 1 (.bool false)) (Nat.le_refl _))
        have hkn : kk ≤ n := by have := HNL.out; omega
        have hk0i : ((kk : Int) == 0) = false := by simp; omega
        have HRD := Lib.hid hrd
        have hrl : r.length ≤ 100000 := by rw [hrd, List.length_drop]; have := HL0.out; omega
        have HRL := Lib.hid hrl
        have HUc := HU3.out.2.2.2
        clear HD1 hd2 hcv hux hrd hrl hkl
        rcases HUc with ⟨_, h0, _⟩ | ⟨b', off, rfl, _, _, _⟩
        · omega
        by_cases hce : cap = kk
        · subst hce
          obtain rfl : n = cap := by omega
          have HDR : Hid (RdU w3 b (some ⟨b', off, none⟩) 0 0 r) := by
            have := HU3.out.drop n (Nat.le_refl _) off (.inr rfl)
            rw [Nat.sub_self] at this
            rw [HRD.out]
            exact this
          go_wp2_with fail
          go_meet
          exact ⟨by rw [← HD2.out]; exact (heap_setCell_other _ _ _ _ (by show g ≠ b; omega)).trans (block_setCell ((heap_setCell_other _ _ _ _ (by show g ≠ b; omega)).trans hG3.out) _), (heap_setCell_other _ _ _ _ (by show w.heap.size ≠ b; omega)).trans ((heap_setCell_other _ _ _ _ (by show w.heap.size ≠ g; omega)).trans ((heap_setCell_other _ _ _ _ (by show w.heap.size ≠ b; omega)).trans hH3.out)), by rw [← HD2.out]; exact ⟨_, _, _, false, r, block_setCell ((heap_setCell_other _ _ _ _ (by show b ≠ g; omega)).trans (block_setCell HB3.out _)) _, HRL.out, rdu3 (by first | exact HDR.out | (rw [HRD.out]; exact HDR.out)) (by omega) _ _ _ _ _ _, rfl⟩, (((hO3.out.set _ _).set_new (by omega) _ _).set _ _)⟩
        · have hvl2 : (kk : Int) < (cap : Int) := by omega
          have hknI : (kk : Int) ≤ (n : Int) := by omega
          have HDR := Lib.hid (HU3.out.drop kk (by omega) (off + kk) (.inl rfl))
          clear hce
          go_wp2_with fail
          go_meet
          exact ⟨by rw [← HD2.out]; exact (heap_setCell_other _ _ _ _ (by show g ≠ b; omega)).trans (block_setCell ((heap_setCell_other _ _ _ _ (by show g ≠ b; omega)).trans hG3.out) _), (heap_setCell_other _ _ _ _ (by show w.heap.size ≠ b; omega)).trans ((heap_setCell_other _ _ _ _ (by show w.heap.size ≠ g; omega)).trans ((heap_setCell_other _ _ _ _ (by show w.heap.size ≠ b; omega)).trans hH3.out)), by rw [← HD2.out]; exact ⟨_, _, _, false, r, block_setCell ((heap_setCell_other _ _ _ _ (by show b ≠ g; omega)).trans (block_setCell HB3.out _)) _, HRL.out, rdu3 (by first | exact HDR.out | (rw [HRD.out]; exact HDR.out)) (by omega) _ _ _ _ _ _, rfl⟩, (((hO3.out.set _ _).set_new (by omega) _ _).set _ _)⟩
    · clear HIH
      have HD1 : Hid ((⟨0, (bytR S1).1, rfZ, rfZ, true, (bytR S1).2⟩ : Hd) = hd) := HHD.out
      clear HHD
      obtain ⟨L1, hS1⟩ : ∃ L1, S1 = some L1 := by cases S1 with | none => exact absurd (HKB.out rfl) (by decide) | some L1 => exact ⟨L1, rfl⟩
      clear HKB
      rw [hS1] at HD1
      obtain ⟨p, n, cap, bad, L0, hb0, hl0, hu0, hs0⟩ := hR2.out
      rw [hS1] at hs0
      cases bad with
      | true => cases hs0
      | false =>
      obtain rfl : L1 = L0 := Option.some.inj hs0
      have hnl : L1.length = n := hu0.1
      have hnc : n ≤ cap := hu0.2.1
      have hcm : cap ≤ maxLen := hu0.2.2.1
      unfold maxLen at hcm
      have HN := Lib.hid (rrun_any p n cap b L1 (by omega) w2 hu0)
      have HB0 := Lib.hid hb0
      have HU0 := Lib.hid hu0
      have HNL := Lib.hid hnl
      have HL0 := Lib.hid hl0
      have c0 : w2.cell? ⟨b, 0, none⟩ = some (.slice p n cap) := hb0.cell 0 _ rfl
      clear hb0 hu0 hs0 hS1 hnl hl0
      go_wp2_with fail
      refine HN.out.mono ?_
      rintro e w3 ⟨hb3, hm⟩
      have hG3 : Hid (BlkC w3 g (bnA (.mk (7 : Nat) 0 [] rfZ rfZ []) none 0 0) tN2) := hG2.out.below hb3
      have hH3 : Hid (BlkC w3 w.heap.size (bnA bnZ none 0 0) tN2) := hH2.out.below hb3
      have hO3 : Hid (Off b w w3) := hO2.out.call hb3
      have HB3 := Lib.hid (HB0.out.below hb3)
      have HU3 := Lib.hid (HU0.out.below hb3)
      have c0 : w3.cell? ⟨b, 0, none⟩ = some (.slice p n cap) := HB3.out.cell 0 _ rfl
      have c1 : w3.cell? ⟨b, 1, none⟩ = some (.bool false) := HB3.out.cell 1 _ rfl
      have f0 := HB3.out.fz 0
      have f1 := HB3.out.fz 1
      have hbg : b ≠ g := by omega
      have q2 : w3.cell? ⟨g, 2, none⟩ = some (.string ⟨#[]⟩) := hG3.out.cell 2 _ rfl
      have y2 := hG3.out.fz 2
      clear hb3 HN HB0 HU0
      cases hd2 : bytD L1 with
      | none =>
        rw [hd2] at hm
        obtain rfl := hm
        have HD2 : Hid ((⟨0, [], rfZ, rfZ, true, none⟩ : Hd) = hd) := by
          have := HD1.out
          unfold bytR at this
          simp only [hd2] at this
          exact this
        have hcv := fun (W : World) => RdU.conv (w := W) (B := b) (p := none) (n := 0) (c := 0) (L := []) ⟨rfl, Nat.le_refl _, Nat.zero_le _, .inl ⟨rfl, rfl, rfl⟩⟩
        have HUc := HU3.out.2.2.2
        clear HD1 hd2
        rcases HUc with ⟨rfl, rfl, rfl⟩ | ⟨b', off, rfl, _, _, _⟩
        · go_wp2_with fail
          go_meet
          exact ⟨by rw [← HD2.out]; exact (heap_setCell_other _ _ _ _ (by show g ≠ b; omega)).trans (block_setCell ((heap_setCell_other _ _ _ _ (by show g ≠ b; omega)).trans hG3.out) _), (heap_setCell_other _ _ _ _ (by show w.heap.size ≠ b; omega)).trans ((heap_setCell_other _ _ _ _ (by show w.heap.size ≠ g; omega)).trans ((heap_setCell_other _ _ _ _ (by show w.heap.size ≠ b; omega)).trans hH3.out)), by rw [← HD2.out]; exact ⟨_, _, _, true, L1, block_setCell ((heap_setCell_other _ _ _ _ (by show b ≠ g; omega)).trans (block_setCell HB3.out _)) _, HL0.out, rdu3 HU3.out (by omega) _ _ _ _ _ _, rfl⟩, (((hO3.out.set _ _).set_new (by omega) _ _).set _ _)⟩
        · by_cases hce : cap = 0
          · subst hce
            obtain rfl : n = 0 := by omega
            go_wp2_with fail
            go_meet
            exact ⟨by rw [← HD2.out]; exact (heap_setCell_other _ _ _ _ (by show g ≠ b; omega)).trans (block_setCell ((heap_setCell_other _ _ _ _ (by show g ≠ b; omega)).trans hG3.out) _), (heap_setCell_other _ _ _ _ (by show w.heap.size ≠ b; omega)).trans ((heap_setCell_other _ _ _ _ (by show w.heap.size ≠ g; omega)).trans ((heap_setCell_other _ _ _ _ (by show w.heap.size ≠ b; omega)).trans hH3.out)), by rw [← HD2.out]; exact ⟨_, _, _, true, L1, block_setCell ((heap_setCell_other _ _ _ _ (by show b ≠ g; omega)).trans (block_setCell HB3.out _)) _, HL0.out, rdu3 HU3.out (by omega) _ _ _ _ _ _, rfl⟩, (((hO3.out.set _ _).set_new (by omega) _ _).set _ _)⟩
          · have hc0 : (0 : Int) < (cap : Int) := by omega
            clear hce
            go_wp2_with fail
            go_meet
            exact ⟨by rw [← HD2.out]; exact (heap_setCell_other _ _ _ _ (by show g ≠ b; omega)).trans (block_setCell ((heap_setCell_other _ _ _ _ (by show g ≠ b; omega)).trans hG3.out) _), (heap_setCell_other _ _ _ _ (by show w.heap.size ≠ b; omega)).trans ((heap_setCell_other _ _ _ _ (by show w.heap.size ≠ g; omega)).trans ((heap_setCell_other _ _ _ _ (by show w.heap.size ≠ b; omega)).trans hH3.out)), by rw [← HD2.out]; exact ⟨_, _, _, true, L1, block_setCell ((heap_setCell_other _ _ _ _ (by show b ≠ g; omega)).trans (block_setCell HB3.out _)) _, HL0.out, rdu3 HU3.out (by omega) _ _ _ _ _ _, rfl⟩, (((hO3.out.set _ _).set_new (by omega) _ _).set _ _)⟩
      | some z =>
        obtain ⟨x, r⟩ := z
        rw [hd2] at hm
        obtain ⟨p', cap', kk, rfl, hux, hk0, hkl, hrd⟩ := hm
        have HD2 : Hid ((⟨0, x, rfZ, rfZ, true, some r⟩ : Hd) = hd) := by
          have := HD1.out
          unfold bytR at this
          simp only [hd2] at this
          exact this
        have hcv : ∀ W, RdU W b p' x.length cap' x → (convert 42 9 (.slice p' x.length cap')).run Tryd.prog W = .ok (.string ⟨x.toArray⟩) W := fun W h => h.conv
        have hcv1 := hcv _ (hux.off ((Off.refl b w3).set 1 (.bool false)) (Nat.le_refl _))
        have hkn : kk ≤ n := by have := HNL.out; omega
        have hk0i : ((kk : Int) == 0) = false := by simp; omega
        have HRD := Lib.hid hrd
        have hrl : r.length ≤ 100000 := by rw [hrd, List.length_drop]; have := HL0.out; omega
        have HRL := Lib.hid hrl
        have HUc := HU3.out.2.2.2
        clear HD1 hd2 hcv hux hrd hrl hkl
        rcases HUc with ⟨_, h0, _⟩ | ⟨b', off, rfl, _, _, _⟩
        · omega
        by_cases hce : cap = kk
        · subst hce
          obtain rfl : n = cap := by omega
          have HDR : Hid (RdU w3 b (some ⟨b', off, none⟩) 0 0 r) := by
            have := HU3.out.drop n (Nat.le_refl _) off (.inr rfl)
            rw [Nat.sub_self] at this
            rw [HRD.out]
            exact this
          go_wp2_with fail
          go_meet
          exact ⟨by rw [← HD2.out]; exact (heap_setCell_other _ _ _ _ (by show g ≠ b; omega)).trans (block_setCell ((heap_setCell_other _ _ _ _ (by show g ≠ b; omega)).trans hG3.out) _), (heap_setCell_other _ _ _ _ (by show w.heap.size ≠ b; omega)).trans ((heap_setCell_other _ _ _ _ (by show w.heap.size ≠ g; omega)).trans ((heap_setCell_other _ _ _ _ (by show w.heap.size ≠ b; omega)).trans hH3.out)), by rw [← HD2.out]; exact ⟨_, _, _, false, r, block_setCell ((heap_setCell_other _ _ _ _ (by show b ≠ g; omega)).trans (block_setCell HB3.out _)) _, HRL.out, rdu3 (by first | exact HDR.out | (rw [HRD.out]; exact HDR.out)) (by omega) _ _ _ _ _ _, rfl⟩, (((hO3.out.set _ _).set_new (by omega) _ _).set _ _)⟩
        · have hvl2 : (kk : Int) < (cap : Int) := by omega
          have hknI : (kk : Int) ≤ (n : Int) := by omega
          have HDR := Lib.hid (HU3.out.drop kk (by omega) (off + kk) (.inl rfl))
          clear hce
          go_wp2_with fail
          go_meet
          exact ⟨by rw [← HD2.out]; exact (heap_setCell_other _ _ _ _ (by show g ≠ b; omega)).trans (block_setCell ((heap_setCell_other _ _ _ _ (by show g ≠ b; omega)).trans hG3.out) _), (heap_setCell_other _ _ _ _ (by show w.heap.size ≠ b; omega)).trans ((heap_setCell_other _ _ _ _ (by show w.heap.size ≠ g; omega)).trans ((heap_setCell_other _ _ _ _ (by show w.heap.size ≠ b; omega)).trans hH3.out)), by rw [← HD2.out]; exact ⟨_, _, _, false, r, block_setCell ((heap_setCell_other _ _ _ _ (by show b ≠ g; omega)).trans (block_setCell HB3.out _)) _, HRL.out, rdu3 (by first | exact HDR.out | (rw [HRD.out]; exact HDR.out)) (by omega) _ _ _ _ _ _, rfl⟩, (((hO3.out.set _ _).set_new (by omega) _ _).set _ _)⟩
    · clear HIH HKB
      have HD1 : Hid ((⟨0, [], rfZ, rfZ, true, S1⟩ : Hd) = hd) := HHD.out
      clear HHD
      go_wp2_with fail
      go_meet
      exact ⟨by rw [← HD1.out]; exact hG2.out, hH2.out, by rw [← HD1.out]; exact hR2.out.low (Below.refl _ _), hO2.out⟩
  case rest =>
  obtain ⟨hg, hh, hr, ho⟩ := hcut
  have HG := Lib.hid hg
  have HH := Lib.hid hh
  have HR := Lib.hid hr
  have HOF := Lib.hid ho
  have HO2 : Hid (O = match cP k hd.S with
        | (_, none) => none
        | (c, some L3) => (tkL (rkN d) c L3).map fun x => (.mk k hd.u hd.t hd.f hd.g x.1, x.2)) := by
    unfold Hid
    rw [HO1.out, ← HHD.out]
    by_cases hk0 : k = 0
    · subst hk0
      cases S1 <;> rfl
    · have e : hdR k S1 = hdQ k S1 := if_neg hk0
      rw [e]
      cases S1 with
      | none => exact absurd (HKB.out rfl) hk0
      | some L1 =>
        simp only []
        rw [if_neg hk0]
  clear hg hh hr ho HO1 HKB HHD hG2 hH2 hO2 hR2 q0
  obtain ⟨⟨c, S3⟩, hc⟩ : ∃ x, cP k hd.S = x := ⟨_, rfl⟩
  have HO3 : Hid (O = S3.bind fun L3 => (tkL (rkN d) c L3).map fun x => (.mk k hd.u hd.t hd.f hd.g x.1, x.2)) := by
    unfold Hid
    rw [HO2.out, hc]
    cases S3 <;> rfl
  have hc16 : c ≤ 16 := by
    have h1 := intR_le 16 hd.S
    unfold cP at hc
    split at hc
    · rw [hc] at h1; exact h1
    · injection hc with hc1 hc2
      rw [← hc1]
      unfold cntK
      split
      · omega
      · split <;> omega
  have HC := Lib.hid hc
  clear hc HO2 hkc
  have q0 : wc.cell? ⟨g, 0, none⟩ = some (.int .i64 (k : Nat)) := HG.out.cell 0 _ rfl
  go_upto_if 94 with fail
  go_cut [6] (fun v6 wx => v6 = .int .i64 (c : Nat) ∧ BlkC wx g (bnA (.mk k hd.u hd.t hd.f hd.g []) none 0 0) tN2 ∧ BlkC wx w.heap.size (bnA bnZ none 0 0) tN2 ∧ RRd wx b S3 ∧ Off b w wx)
  case first => as_aux_lemma =>
    by_cases h7 : k = 7
    · have b7 : ((k : Int) == 7) = true := by simp; omega
      have HC2 : Hid (intR 16 hd.S = (c, S3)) := by
        have := HC.out
        unfold cP at this
        rw [if_pos h7] at this
        exact this
      have HN := Lib.hid (rnumr_any b hd.S 16 wc HR.out (c, S3) HC2.out)
      have hw64 : IntKind.i64.wrap (c : Nat) = (c : Nat) := IntWalk.i64_in _ (by omega)
      clear HC HC2 HO3 HIH h7
      go_wp2_with fail
      refine HN.out.mono ?_
      rintro e w3 ⟨rfl, hrd, hoff⟩
      have hG3 : Hid (BlkC w3 g (bnA (.mk k hd.u hd.t hd.f hd.g []) none 0 0) tN2) := hoff.blk (by omega) HG.out
      have hH3 : Hid (BlkC w3 w.heap.size (bnA bnZ none 0 0) tN2) := hoff.blk (by omega) HH.out
      have hO3 := Lib.hid (HOF.out.trans hoff)
      have HRD3 := Lib.hid hrd
      clear hrd hoff HN
      go_wp2_with fail
      go_meet
      exact ⟨rfl, hG3.out, hH3.out, HRD3.out, hO3.out⟩
    · have b7 : ((k : Int) == 7) = false := by simp; omega
      have HC2 : Hid (cntK k = c ∧ hd.S = S3) := by
        have := HC.out
        unfold cP at this
        rw [if_neg h7] at this
        injection this with h1 h2
        exact ⟨h1, h2⟩
      clear HC HO3 HIH h7
      go_wp2_with fail
      go_meet
      exact ⟨by rw [← HC2.out.1], HG.out, HH.out, by rw [← HC2.out.2]; exact HR.out, HOF.out⟩
  case rest =>
  obtain ⟨rfl, hg, hh, hr, ho⟩ := hcut
  clear HG HH HR HOF HC q0
  have hgl : g < wc.heap.size := lt_some hg
  have hstart : Hid (RkS O b g d c 0 k hd (.slice none 0 0) wc) := by
    unfold Hid RkS
    cases S3 with
    | some L3 =>
      refine .inr (.inl ⟨L3, [], hr, World.ownsRow_nil _ _ _ _, (fun x hx => (by cases hx)), rfl, ?_⟩)
      rw [HO3.out]
      rfl
    | none => exact .inr (.inr ⟨hr, HO3.out⟩)
  have HG := Lib.hid hg
  have HH := Lib.hid hh
  have HOF := Lib.hid ho
  clear hg hh hr ho HO3
  obtain ⟨i0, hi, hz0, hz1, hz2⟩ := info_of info_n2
  have HT : Hid (RNodC d) := HIH.out d rfl
  clear HIH
  go_wp2_with fail
  go_loopg [9] c (fun gm v9 wr => ∃ (i : Nat) (q : Option Addr) (cp : Nat), i + gm = c ∧ v9 = .int .i64 i ∧ BlkC wr g (bnA (.mk k hd.u hd.t hd.f hd.g []) q i cp) tN2 ∧ BlkC wr w.heap.size (bnA bnZ none 0 0) tN2 ∧ Off b w wr ∧ g < wr.heap.size ∧ RkS O b g d c i k hd (.slice q i cp) wr)
  case atStart => exact ⟨0, none, 0, by omega, rfl, HG.out, HH.out, HOF.out, hgl, hstart.out⟩
  case round =>
    obtain ⟨i, q, cp, hig, rfl, hg, hh, ho, hglr, hst⟩ := hrel
    have HGr := Lib.hid hg
    have HHr := Lib.hid hh
    have HOr := Lib.hid ho
    clear hg hh ho hstart HG HH HOF
    rcases hst with ⟨_, h⟩ | ⟨L, acc, hrd, hown, hkid, hla, hOO⟩ | ⟨hrd, hOO⟩
    · exact h.elim
    · have HRD := Lib.hid hrd
      have HOW := Lib.hid hown
      have HKD := Lib.hid hkid
      have HLA := Lib.hid hla
      have HOO := Lib.hid hOO
      obtain ⟨p', n', cap', bad', L'', hb', hl', hu', hs'⟩ := hrd
      cases bad' with
      | true => cases hs'
      | false =>
      have c1 : wr.cell? ⟨b, 1, none⟩ = some (.bool false) := hb'.cell 1 _ rfl
      clear hown hkid hla hOO hb' hl' hu' hs'
      by_cases hlt : i < c
      · have hli : (i : Int) < (c : Int) := by omega
        have Y11 := KeptB.cell (N := g + 1) (b := b) (by omega) (by omega) (HGr.out.cell 11 (.slice q i cp) rfl)
        go_upto_region 28 with fail
        clear c1
        refine wp_region_schedT (fun wx => ∃ x : KeptB (g + 1) b wr, wx = x.v) 9 [([0,1,2,3,4],5),([],6),([],7)] [8] (by kernel_rfl) (by kernel_rfl) (by kernel_rfl) (by kernel_rfl) (keptB_drew _ _ _) ?_
        (unfold wpSegK; simp only [pick_nil, pick_cons, nthO_zero, nthO_succ, List.append])
        repeat (go_big_quiet_step (fail))
        refine wpQuiet_nil ?_
        have hBd : Below wr.heap.size wr wr.drew := Below.drew (Below.refl _ _)
        have HTT := Lib.hid (HT.out b (some L) wr.drew (HRD.out.below hBd))
        have HBD := Lib.hid hBd
        clear hBd
        go_wp2_with fail
        refine HTT.out.mono ?_
        rintro e w3 ⟨hoff, hm⟩
        replace hoff : Off b wr w3 := (Off.of_below HBD.out).trans hoff
        obtain ⟨a, p2, l2, c2, rfl, hyes, hno⟩ : ∃ a p2 l2 c2, e = .returned (.agg (bnA a p2 l2 c2)) ∧ (∀ a' r, rkN d L = some (a', r) → a' = a ∧ RdQ rfE 12 w3 (fun k => wr.heap.size ≤ k) d a p2 l2 ∧ RRd w3 b (some r)) ∧ (rkN d L = none → RRd w3 b none) := by
          have hbind : (some L : Option (List UInt8)).bind (rkN d) = rkN d L := rfl
          rw [hbind] at hm
          cases hT : rkN d L with
          | none =>
            rw [hT] at hm
            obtain ⟨⟨n, p, l, c', rfl⟩, h2⟩ := hm
            exact ⟨n, p, l, c', rfl, (fun _ _ h => (by cases h)), fun _ => h2⟩
          | some x =>
            obtain ⟨n, r⟩ := x
            rw [hT] at hm
            obtain ⟨p, cap, rfl, h1, h2⟩ := hm
            exact ⟨n, p, _, cap, rfl, (fun a' r' h => by cases h; exact ⟨rfl, h1, h2⟩), (fun h => (by cases h))⟩
        have HY := Lib.hid hyes
        have HNO := Lib.hid hno
        have hG3 : Hid (BlkC w3 g (bnA (.mk k hd.u hd.t hd.f hd.g []) q i cp) tN2) := hoff.blk (by omega) HGr.out
        have hH3 : Hid (BlkC w3 w.heap.size (bnA bnZ none 0 0) tN2) := hoff.blk (by omega) HHr.out
        have hO3 := Lib.hid (HOr.out.trans hoff)
        have hlt3 : ∀ k', (Value.slice q i cp).ownBlock = some k' → g + 1 ≤ k' ∧ k' < wr.heap.size := fun k' h => HOW.out.lt k' h
        have HLT := Lib.hid hlt3
        have HRW : Hid (w3.ownsRow (g + 1) tN2 12 (.slice q i cp) i (acc.flatMap (kidQ rfE))) := row_carry HOW.out (fun k' h => hoff.block k' (hlt3 k' h).2 (by have := (hlt3 k' h).1; omega))
        have HOFF := Lib.hid hoff
        have hs3 := hoff.size
        clear hm hyes hno hlt3 hoff HTT
        rw [bnA_eq]
        go_wp2_with fail
        have hKB : ∀ k', k' < g + 1 → k' ≠ b → w3.heap[k']? = wr.heap[k']? := fun k' h1 h2 => HOFF.out.block k' (by omega) h2
        refine ⟨rfl, ⟨⟨w3, hKB⟩, rfl⟩, ?_⟩
        (unfold wpSegK; simp only [pick_nil, pick_cons, nthO_zero, nthO_succ, List.append])
        refine wpQuiet_nil ?_
        go_wp2_with fail
        refine ⟨rfl, ⟨⟨_, fun k' h1 h2 => (heap_alloc_old _ _ (by omega)).trans (hKB k' h1 h2)⟩, rfl⟩, ?_⟩
        (unfold wpSegK; simp only [pick_nil, pick_cons, nthO_zero, nthO_succ, List.append])
        refine wpQuiet_nil ?_
        refine wpList_append_own_at _ rfl _ _ _ rfl (g + 1) tN2 i0 _ 12 120 Tryd.underlying51 hi hz0 hz1 hz2 rfl (by decide) _ _ _ rfl (HRW.out.alloc _) ⟨w3.heap.size, 0, none⟩ 1 1 (kidQ rfE (a, p2, l2, c2)) rfl rfl (newN2 w3 a p2 l2 c2) ?c2 ?c3 ?c4 ?c5 ?_
        case c2 => exact kidR_one (a, p2, l2, c2)
        case c3 => unfold maxLen; omega
        case c4 => omega
        case c5 => rw [World.size_alloc]; omega
        intro v' w5 hown5 hgrow5 _ hat5
        have hB35 : Hid (Below (g + 1) w3 w5) := ((Below.refl _ _).alloc (by omega) _).grown hgrow5 (by rw [World.size_alloc]; omega) (fun k' hk' => (HLT.out k' hk').1)
        have hG5 : Hid (BlkC w5 g (bnA (.mk k hd.u hd.t hd.f hd.g []) q i cp) tN2) := (hB35.out.block g (by omega)).trans hG3.out
        have hH5 : Hid (BlkC w5 w.heap.size (bnA bnZ none 0 0) tN2) := (hB35.out.block w.heap.size (by omega)).trans hH3.out
        have hO5 : Hid (Off b w w5) := ⟨hB35.out.os.trans hO3.out.os, hB35.out.tape.trans hO3.out.tape, hB35.out.output.trans hO3.out.output, Nat.le_trans hO3.out.size hB35.out.size, fun k' hk' hn' => (hB35.out.block k' (by omega)).trans (hO3.out.block k' hk' hn')⟩
        have hgw : g < w5.heap.size := lt_some hG5.out
        have HOW5 : Hid (w5.ownsRow (g + 1) tN2 12 v' (i + 1) ((acc ++ [(a, p2, l2, c2)]).flatMap (kidQ rfE))) := by
          unfold Hid
          rw [flat_snoc]
          exact hown5
        obtain ⟨q5, cp5, hv5, _, _, _, _⟩ := RdG.of_own kidR_len (by rw [List.length_append, List.length_singleton, HLA.out]) HOW5.out
        subst hv5
        have HKN : Hid (∀ a' r, rkN d L = some (a', r) → ∀ x ∈ acc ++ [(a, p2, l2, c2)], RdQ rfE 12 (w5.setCell ⟨g, 11, none⟩ (.slice q5 (i + 1) cp5)) (okQ (g + 1) (w5.setCell ⟨g, 11, none⟩ (.slice q5 (i + 1) cp5)) (.slice q5 (i + 1) cp5)) d x.1 x.2.1 x.2.2.1) := fun a' r hy => by
          obtain ⟨_, hrq, _⟩ := HY.out a' r hy
          exact kidsC_on (b := b) (k11 := 11) (u := .slice q5 (i + 1) cp5) (by omega) hglr HOFF.out hgrow5 hat5 HLT.out HKD.out hrq
        have g11 := hG5.out.cell 11 _ rfl
        have z11 := hG5.out.fz 11
        clear hown5 hgrow5 hat5 HRW HKD HT Y11
        go_wp2_with fail
        refine ⟨rfl, ⟨⟨w5, fun k' h1 h2 => (hB35.out.block k' h1).trans (hKB k' h1 h2)⟩, rfl⟩, ?_⟩
        (unfold wpSegK; simp only [pick_nil, pick_cons, nthO_zero, nthO_succ, List.append])
        repeat (go_big_quiet_step (fail))
        refine wpQuiet_nil ?_
        go_wp2_with fail
        refine ⟨rfl, ?_⟩
        have hG6 : Hid (BlkC (w5.setCell ⟨g, 11, none⟩ (.slice q5 (i + 1) cp5)) g (bnA (.mk k hd.u hd.t hd.f hd.g []) q5 (i + 1) cp5) tN2) := block_setCell hG5.out _
        have hH6 : Hid (BlkC (w5.setCell ⟨g, 11, none⟩ (.slice q5 (i + 1) cp5)) w.heap.size (bnA bnZ none 0 0) tN2) := (heap_setCell_other _ _ _ _ (by show w.heap.size ≠ g; omega)).trans hH5.out
        have hO6 : Hid (Off b w (w5.setCell ⟨g, 11, none⟩ (.slice q5 (i + 1) cp5))) := hO5.out.set_new (by omega) _ _
        have hW6 : Hid ((w5.setCell ⟨g, 11, none⟩ (.slice q5 (i + 1) cp5)).ownsRow (g + 1) tN2 12 (.slice q5 (i + 1) cp5) (i + 1) ((acc ++ [(a, p2, l2, c2)]).flatMap (kidQ rfE))) := row_carry HOW5.out (fun k' h => heap_setCell_other _ _ _ _ (by have := (HOW5.out.lt k' h).1; show k' ≠ g; omega))
        have hB36 : Hid (Below (b + 1) w3 (w5.setCell ⟨g, 11, none⟩ (.slice q5 (i + 1) cp5))) := (hB35.out.mono (by omega)).setCell (by show b + 1 ≤ g; omega) _
        have hgw6 : g < (w5.setCell ⟨g, 11, none⟩ (.slice q5 (i + 1) cp5)).heap.size := by rw [World.size_setCell]; exact hgw
        clear g11 z11 hG5 hH5 hO5 HOW5 hB35 hKB hgw
        generalize w5.setCell ⟨g, 11, none⟩ (.slice q5 (i + 1) cp5) = w6 at hG6 hH6 hO6 hW6 hB36 hgw6 HKN ⊢
        go_wp2_with fail
        go_roundg (gk - 1)
        case measure => omega
        case rel =>
          refine ⟨i + 1, q5, cp5, by omega, by go_num, hG6.out, hH6.out, hO6.out, hgw6, ?_⟩
          have hci : c - i = (c - (i + 1)) + 1 := by omega
          have hO' := HOO.out
          rw [hci, tkL_succ] at hO'
          cases hT : rkN d L with
          | none =>
            rw [hT] at hO'
            exact .inr (.inr ⟨(HNO.out hT).low hB36.out, hO'⟩)
          | some z =>
            obtain ⟨a', r⟩ := z
            obtain ⟨rfl, hrq, hrr⟩ := HY.out a' r hT
            rw [hT] at hO'
            refine .inr (.inl ⟨r, acc ++ [(a', p2, l2, c2)], hrr.low hB36.out, hW6.out, HKN.out a' r hT, by rw [List.length_append, HLA.out]; rfl, ?_⟩)
            rw [hO']
            simp only [Option.bind_some, Option.map_map]
            congr 1
            funext x
            simp
      · obtain rfl : i = c := by omega
        have hli : ¬ (i : Int) < (i : Int) := by omega
        clear HT
        go_upto_region 29 with fail
        refine wp_region_lit ?_
        refine wpList_load_mid (by rfl) _ _ (by rfl) g 0 (by rfl) [.int .i64 (k : Nat), .int .i64 hd.u, .string ⟨hd.t.toArray⟩, .int .u64 hd.f.1.1, .int .i64 hd.f.1.2, .int .u64 hd.f.2.1, .int .i64 hd.f.2.2, .int .u64 hd.g.1.1, .int .i64 hd.g.1.2, .int .u64 hd.g.2.1, .int .i64 hd.g.2.2, .slice q i cp] _ (block_range HGr.out [.int .i64 (k : Nat), .int .i64 hd.u, .string ⟨hd.t.toArray⟩, .int .u64 hd.f.1.1, .int .i64 hd.f.1.2, .int .u64 hd.f.2.1, .int .i64 hd.f.2.2, .int .u64 hd.g.1.1, .int .i64 hd.g.1.2, .int .u64 hd.g.2.1, .int .i64 hd.g.2.2, .slice q i cp] rfl) Tryd.underlying53 rfl (by kernel_rfl) ?_
        go_simp
        refine wpList_store_mid (by rfl) _ _ _ (by rfl) w.heap.size 0 #[.int .i64 (k : Nat), .int .i64 hd.u, .string ⟨hd.t.toArray⟩, .int .u64 hd.f.1.1, .int .i64 hd.f.1.2, .int .u64 hd.f.2.1, .int .i64 hd.f.2.2, .int .u64 hd.g.1.1, .int .i64 hd.g.1.2, .int .u64 hd.g.2.1, .int .i64 hd.g.2.2, .slice q i cp] (by rfl) (by rfl) (block_there HHr.out 12 (Nat.le_refl _)) (by kernel_rfl) (by simp [Value.oneCell']) ?_
        have hs8 : Hid (BlkC (wr.setCells w.heap.size 0 #[.int .i64 (k : Nat), .int .i64 hd.u, .string ⟨hd.t.toArray⟩, .int .u64 hd.f.1.1, .int .i64 hd.f.1.2, .int .u64 hd.f.2.1, .int .i64 hd.f.2.2, .int .u64 hd.g.1.1, .int .i64 hd.g.1.2, .int .u64 hd.g.2.1, .int .i64 hd.g.2.2, .slice q i cp].toList) w.heap.size (bnA (.mk k hd.u hd.t hd.f hd.g []) q i cp) tN2) := store_block HHr.out _ rfl
        have ho8 : Hid (Off b w (wr.setCells w.heap.size 0 #[.int .i64 (k : Nat), .int .i64 hd.u, .string ⟨hd.t.toArray⟩, .int .u64 hd.f.1.1, .int .i64 hd.f.1.2, .int .u64 hd.f.2.1, .int .i64 hd.f.2.2, .int .u64 hd.g.1.1, .int .i64 hd.g.1.2, .int .u64 hd.g.2.1, .int .i64 hd.g.2.2, .slice q i cp].toList)) := HOr.out.set_cells (Nat.le_refl _) _ _
        have hr8 : Hid (RRd (wr.setCells w.heap.size 0 #[.int .i64 (k : Nat), .int .i64 hd.u, .string ⟨hd.t.toArray⟩, .int .u64 hd.f.1.1, .int .i64 hd.f.1.2, .int .u64 hd.f.2.1, .int .i64 hd.f.2.2, .int .u64 hd.g.1.1, .int .i64 hd.g.1.2, .int .u64 hd.g.2.1, .int .i64 hd.g.2.2, .slice q i cp].toList) b (some L)) := HRD.out.low (store_below (by omega) _ _ _ (Below.refl _ _))
        have hn8 : Hid (∀ k', k' ≠ w.heap.size → (wr.setCells w.heap.size 0 #[.int .i64 (k : Nat), .int .i64 hd.u, .string ⟨hd.t.toArray⟩, .int .u64 hd.f.1.1, .int .i64 hd.f.1.2, .int .u64 hd.f.2.1, .int .i64 hd.f.2.2, .int .u64 hd.g.1.1, .int .i64 hd.g.1.2, .int .u64 hd.g.2.1, .int .i64 hd.g.2.2, .slice q i cp].toList).heap[k']? = wr.heap[k']?) := fun k' h => store_other h _ _ _
        generalize wr.setCells w.heap.size 0 #[.int .i64 (k : Nat), .int .i64 hd.u, .string ⟨hd.t.toArray⟩, .int .u64 hd.f.1.1, .int .i64 hd.f.1.2, .int .u64 hd.f.2.1, .int .i64 hd.f.2.2, .int .u64 hd.g.1.1, .int .i64 hd.g.1.2, .int .u64 hd.g.2.1, .int .i64 hd.g.2.2, .slice q i cp].toList = w9 at hs8 ho8 hr8 hn8 ⊢
        go_simp
        iterate 3 (first | go_values | go_skip | go_guarded | go_step | go_upon)
        apply wp_ret
        try simp only [Exit.inBlock, Exit.then]
        refine bodyPost_ret (results_cell_row rfl _ _ w.heap.size tN2 (bnA (.mk k hd.u hd.t hd.f hd.g []) q i cp) (0, 0) _ rfl hs8.out Tryd.underlying53 rfl (by kernel_rfl)) rfl ⟨ho8.out, ?_⟩
        rw [HOO.out, Nat.sub_self]
        obtain ⟨q', cp', hv, hr⟩ := RdQ.of_row (n := .mk k hd.u hd.t hd.f hd.g (acc.map Prod.fst)) (ok := fun k' => w.heap.size < k') kidR_len (by rw [HLA.out]; exact HOW.out) rfl (fun x hx => RdQ.weak (HKD.out x hx) (fun k' h => by have := h.1; omega)) (fun k' h => by have := (HOW.out.lt k' h).1; omega)
        cases hv
        refine ⟨q, cp, ?_, ?_, hr8.out⟩
        · show _ = Ending.returned (.agg (bnA (.mk k hd.u hd.t hd.f hd.g (acc.map Prod.fst ++ [])) q (List.length (acc.map Prod.fst ++ [])) cp))
          rw [List.append_nil, List.length_map, HLA.out]
          rfl
        · show RdQ rfE 12 w9 _ (d + 1) (.mk k hd.u hd.t hd.f hd.g (acc.map Prod.fst ++ [])) q (List.length (acc.map Prod.fst ++ []))
          rw [List.append_nil, List.length_map]
          exact RdQ.carry (fun k' h1 h2 => ⟨Nat.le_of_lt h1, hn8.out k' (Nat.ne_of_gt h1)⟩) hr
    · obtain ⟨p', n', cap', bad', L'', hb', hl', hu', hs'⟩ := hrd
      have HRD : Hid (RRd wr b none) := ⟨p', n', cap', bad', L'', hb', hl', hu', hs'⟩
      have HON := Lib.hid hOO
      cases bad' with
      | false => cases hs'
      | true =>
      have c1 : wr.cell? ⟨b, 1, none⟩ = some (.bool true) := hb'.cell 1 _ rfl
      clear hOO hb' hl' hu' hs' HT
      by_cases hlt : i < c
      · have hli : (i : Int) < (c : Int) := by omega
        go_upto_region 29 with fail
        refine wp_region_lit ?_
        refine wpList_load_mid (by rfl) _ _ (by rfl) g 0 (by rfl) [.int .i64 (k : Nat), .int .i64 hd.u, .string ⟨hd.t.toArray⟩, .int .u64 hd.f.1.1, .int .i64 hd.f.1.2, .int .u64 hd.f.2.1, .int .i64 hd.f.2.2, .int .u64 hd.g.1.1, .int .i64 hd.g.1.2, .int .u64 hd.g.2.1, .int .i64 hd.g.2.2, .slice q i cp] _ (block_range HGr.out [.int .i64 (k : Nat), .int .i64 hd.u, .string ⟨hd.t.toArray⟩, .int .u64 hd.f.1.1, .int .i64 hd.f.1.2, .int .u64 hd.f.2.1, .int .i64 hd.f.2.2, .int .u64 hd.g.1.1, .int .i64 hd.g.1.2, .int .u64 hd.g.2.1, .int .i64 hd.g.2.2, .slice q i cp] rfl) Tryd.underlying53 rfl (by kernel_rfl) ?_
        go_simp
        refine wpList_store_mid (by rfl) _ _ _ (by rfl) w.heap.size 0 #[.int .i64 (k : Nat), .int .i64 hd.u, .string ⟨hd.t.toArray⟩, .int .u64 hd.f.1.1, .int .i64 hd.f.1.2, .int .u64 hd.f.2.1, .int .i64 hd.f.2.2, .int .u64 hd.g.1.1, .int .i64 hd.g.1.2, .int .u64 hd.g.2.1, .int .i64 hd.g.2.2, .slice q i cp] (by rfl) (by rfl) (block_there HHr.out 12 (Nat.le_refl _)) (by kernel_rfl) (by simp [Value.oneCell']) ?_
        have hs8 : Hid (BlkC (wr.setCells w.heap.size 0 #[.int .i64 (k : Nat), .int .i64 hd.u, .string ⟨hd.t.toArray⟩, .int .u64 hd.f.1.1, .int .i64 hd.f.1.2, .int .u64 hd.f.2.1, .int .i64 hd.f.2.2, .int .u64 hd.g.1.1, .int .i64 hd.g.1.2, .int .u64 hd.g.2.1, .int .i64 hd.g.2.2, .slice q i cp].toList) w.heap.size (bnA (.mk k hd.u hd.t hd.f hd.g []) q i cp) tN2) := store_block HHr.out _ rfl
        have ho8 : Hid (Off b w (wr.setCells w.heap.size 0 #[.int .i64 (k : Nat), .int .i64 hd.u, .string ⟨hd.t.toArray⟩, .int .u64 hd.f.1.1, .int .i64 hd.f.1.2, .int .u64 hd.f.2.1, .int .i64 hd.f.2.2, .int .u64 hd.g.1.1, .int .i64 hd.g.1.2, .int .u64 hd.g.2.1, .int .i64 hd.g.2.2, .slice q i cp].toList)) := HOr.out.set_cells (Nat.le_refl _) _ _
        have hr8 : Hid (RRd (wr.setCells w.heap.size 0 #[.int .i64 (k : Nat), .int .i64 hd.u, .string ⟨hd.t.toArray⟩, .int .u64 hd.f.1.1, .int .i64 hd.f.1.2, .int .u64 hd.f.2.1, .int .i64 hd.f.2.2, .int .u64 hd.g.1.1, .int .i64 hd.g.1.2, .int .u64 hd.g.2.1, .int .i64 hd.g.2.2, .slice q i cp].toList) b none) := HRD.out.low (store_below (by omega) _ _ _ (Below.refl _ _))
        have hn8 : Hid (∀ k', k' ≠ w.heap.size → (wr.setCells w.heap.size 0 #[.int .i64 (k : Nat), .int .i64 hd.u, .string ⟨hd.t.toArray⟩, .int .u64 hd.f.1.1, .int .i64 hd.f.1.2, .int .u64 hd.f.2.1, .int .i64 hd.f.2.2, .int .u64 hd.g.1.1, .int .i64 hd.g.1.2, .int .u64 hd.g.2.1, .int .i64 hd.g.2.2, .slice q i cp].toList).heap[k']? = wr.heap[k']?) := fun k' h => store_other h _ _ _
        generalize wr.setCells w.heap.size 0 #[.int .i64 (k : Nat), .int .i64 hd.u, .string ⟨hd.t.toArray⟩, .int .u64 hd.f.1.1, .int .i64 hd.f.1.2, .int .u64 hd.f.2.1, .int .i64 hd.f.2.2, .int .u64 hd.g.1.1, .int .i64 hd.g.1.2, .int .u64 hd.g.2.1, .int .i64 hd.g.2.2, .slice q i cp].toList = w9 at hs8 ho8 hr8 hn8 ⊢
        go_simp
        iterate 3 (first | go_values | go_skip | go_guarded | go_step | go_upon)
        apply wp_ret
        try simp only [Exit.inBlock, Exit.then]
        refine bodyPost_ret (results_cell_row rfl _ _ w.heap.size tN2 (bnA (.mk k hd.u hd.t hd.f hd.g []) q i cp) (0, 0) _ rfl hs8.out Tryd.underlying53 rfl (by kernel_rfl)) rfl ⟨ho8.out, ?_⟩
        rw [HON.out]
        exact ⟨⟨_, _, _, _, rfl⟩, hr8.out⟩
      · have hli : ¬ (i : Int) < (c : Int) := by omega
        go_upto_region 29 with fail
        refine wp_region_lit ?_
        refine wpList_load_mid (by rfl) _ _ (by rfl) g 0 (by rfl) [.int .i64 (k : Nat), .int .i64 hd.u, .string ⟨hd.t.toArray⟩, .int .u64 hd.f.1.1, .int .i64 hd.f.1.2, .int .u64 hd.f.2.1, .int .i64 hd.f.2.2, .int .u64 hd.g.1.1, .int .i64 hd.g.1.2, .int .u64 hd.g.2.1, .int .i64 hd.g.2.2, .slice q i cp] _ (block_range HGr.out [.int .i64 (k : Nat), .int .i64 hd.u, .string ⟨hd.t.toArray⟩, .int .u64 hd.f.1.1, .int .i64 hd.f.1.2, .int .u64 hd.f.2.1, .int .i64 hd.f.2.2, .int .u64 hd.g.1.1, .int .i64 hd.g.1.2, .int .u64 hd.g.2.1, .int .i64 hd.g.2.2, .slice q i cp] rfl) Tryd.underlying53 rfl (by kernel_rfl) ?_
        go_simp
        refine wpList_store_mid (by rfl) _ _ _ (by rfl) w.heap.size 0 #[.int .i64 (k : Nat), .int .i64 hd.u, .string ⟨hd.t.toArray⟩, .int .u64 hd.f.1.1, .int .i64 hd.f.1.2, .int .u64 hd.f.2.1, .int .i64 hd.f.2.2, .int .u64 hd.g.1.1, .int .i64 hd.g.1.2, .int .u64 hd.g.2.1, .int .i64 hd.g.2.2, .slice q i cp] (by rfl) (by rfl) (block_there HHr.out 12 (Nat.le_refl _)) (by kernel_rfl) (by simp [Value.oneCell']) ?_
        have hs8 : Hid (BlkC (wr.setCells w.heap.size 0 #[.int .i64 (k : Nat), .int .i64 hd.u, .string ⟨hd.t.toArray⟩, .int .u64 hd.f.1.1, .int .i64 hd.f.1.2, .int .u64 hd.f.2.1, .int .i64 hd.f.2.2, .int .u64 hd.g.1.1, .int .i64 hd.g.1.2, .int .u64 hd.g.2.1, .int .i64 hd.g.2.2, .slice q i cp].toList) w.heap.size (bnA (.mk k hd.u hd.t hd.f hd.g []) q i cp) tN2) := store_block HHr.out _ rfl
        have ho8 : Hid (Off b w (wr.setCells w.heap.size 0 #[.int .i64 (k : Nat), .int .i64 hd.u, .string ⟨hd.t.toArray⟩, .int .u64 hd.f.1.1, .int .i64 hd.f.1.2, .int .u64 hd.f.2.1, .int .i64 hd.f.2.2, .int .u64 hd.g.1.1, .int .i64 hd.g.1.2, .int .u64 hd.g.2.1, .int .i64 hd.g.2.2, .slice q i cp].toList)) := HOr.out.set_cells (Nat.le_refl _) _ _
        have hr8 : Hid (RRd (wr.setCells w.heap.size 0 #[.int .i64 (k : Nat), .int .i64 hd.u, .string ⟨hd.t.toArray⟩, .int .u64 hd.f.1.1, .int .i64 hd.f.1.2, .int .u64 hd.f.2.1, .int .i64 hd.f.2.2, .int .u64 hd.g.1.1, .int .i64 hd.g.1.2, .int .u64 hd.g.2.1, .int .i64 hd.g.2.2, .slice q i cp].toList) b none) := HRD.out.low (store_below (by omega) _ _ _ (Below.refl _ _))
        have hn8 : Hid (∀ k', k' ≠ w.heap.size → (wr.setCells w.heap.size 0 #[.int .i64 (k : Nat), .int .i64 hd.u, .string ⟨hd.t.toArray⟩, .int .u64 hd.f.1.1, .int .i64 hd.f.1.2, .int .u64 hd.f.2.1, .int .i64 hd.f.2.2, .int .u64 hd.g.1.1, .int .i64 hd.g.1.2, .int .u64 hd.g.2.1, .int .i64 hd.g.2.2, .slice q i cp].toList).heap[k']? = wr.heap[k']?) := fun k' h => store_other h _ _ _
        generalize wr.setCells w.heap.size 0 #[.int .i64 (k : Nat), .int .i64 hd.u, .string ⟨hd.t.toArray⟩, .int .u64 hd.f.1.1, .int .i64 hd.f.1.2, .int .u64 hd.f.2.1, .int .i64 hd.f.2.2, .int .u64 hd.g.1.1, .int .i64 hd.g.1.2, .int .u64 hd.g.2.1, .int .i64 hd.g.2.2, .slice q i cp].toList = w9 at hs8 ho8 hr8 hn8 ⊢
        go_simp
        iterate 3 (first | go_values | go_skip | go_guarded | go_step | go_upon)
        apply wp_ret
        try simp only [Exit.inBlock, Exit.then]
        refine bodyPost_ret (results_cell_row rfl _ _ w.heap.size tN2 (bnA (.mk k hd.u hd.t hd.f hd.g []) q i cp) (0, 0) _ rfl hs8.out Tryd.underlying53 rfl (by kernel_rfl)) rfl ⟨ho8.out, ?_⟩
        rw [HON.out]
        exact ⟨⟨_, _, _, _, rfl⟩, hr8.out⟩
theorem rnode_any : ∀ d, d ≤ 64 → RNodC d
  | 0, _ => rnode_s 0 (by omega) (fun d' h => by omega)
  | d + 1, h => rnode_s (d + 1) h (fun d' h' => (show d = d' from by omega) ▸ rnode_any d (by omega))
end Go.Proofs.YtljloggbfmnjmaaDoor
