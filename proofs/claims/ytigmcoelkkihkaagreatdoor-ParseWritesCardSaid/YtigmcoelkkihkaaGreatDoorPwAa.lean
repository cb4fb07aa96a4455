/- The law's 'To': the document's trees as the program's. Printed by gen_map2.py. The walk of ParseTrees. Printed by gen_parp.py. -/
import Derived.Test.YtigmcoelkkihkaaGreatDoorPwN
import Derived.Test.YtigmcoelkkihkaaGreatDoorPwR
import Derived.Test.YtigmcoelkkihkaaGreatDoorPwJ
import Derived.Test.YtigmcoelkkihkaaGreatDoorPwY
import Derived.Test.YtigmcoelkkihkaaGreatDoorPwZ
set_option linter.unusedSimpArgs false
set_option linter.unusedVariables false
namespace Go.Proofs.YtigmcoelkkihkaaGreatDoor
open Go.RowKit Go.Joins

set_option maxRecDepth 100000 in
set_option maxHeartbeats 16000000 in
theorem lcell_any (k : Int) (h1 : -9223372036854775808 ≤ k) (h2 : k ≤ 9223372036854775807) (w : World) : Calls Tryz.prog 22 #[.int .i64 k] w fun e w' => e = .returned (.agg #[.int .i64 (cC k), .int .i64 (cR k)]) ∧ Below w.heap.size w w' := by
  obtain ⟨b1, b2, b3, b4⟩ := cC_in h1 h2
  have hA0 : Hid (BlkC (w.alloc (.cells #[.int .i64 0, .int .i64 0] 31)) w.heap.size #[.int .i64 0, .int .i64 0] 31) := heap_alloc_new w _
  have hAB : Hid (Below w.heap.size w (w.alloc (.cells #[.int .i64 0, .int .i64 0] 31))) := by unfold Hid; (repeat' (first | (with_reducible exact Below.refl _ _) | (with_reducible assumption) | (with_reducible refine Below.alloc ?_ ?_ _) | (with_reducible refine bel_drewN ?_ _) | (with_reducible refine Below.drew ?_) | (with_reducible refine Below.setCell ?_ ?_ _) | (with_reducible refine bel_call ‹_› ?_ ?_) | go_size))
  obtain ⟨c, hc⟩ : ∃ c, cC k = c := ⟨_, rfl⟩
  obtain ⟨r, hr⟩ : ∃ r, cR k = r := ⟨_, rfl⟩
  rw [hc, hr]
  have g1 : Int.tdiv k 10000 = c := hc
  have g2 : Int.tmod k 10000 = r := hr
  have g3 : IntKind.i64.wrap c = c := IntWalk.i64_in _ (by omega)
  have g4 : IntKind.i64.wrap r = r := IntWalk.i64_in _ (by omega)
  clear hc hr b1 b2 b3 b4 h1 h2
  go_enter Tryz.func22, Tryz.ntmps22
  go_upto_region 1 with fail
  generalize w.alloc (.cells #[.int .i64 0, .int .i64 0] 31) = w0 at hA0 hAB ⊢
  refine wp_region_lit ?_
  refine wpList_plain rfl fun K hK => ?_
  go_simp
  refine hK _ _ ?_
  clear hK K
  refine wpList_plain rfl fun K hK => ?_
  go_simp
  refine hK _ _ ?_
  clear hK K
  refine wpList_plain rfl fun K hK => ?_
  go_simp
  refine hK _ _ ?_
  clear hK K
  refine wpList_plain rfl fun K hK => ?_
  go_simp
  refine hK _ _ ?_
  clear hK K
  refine wpList_plain rfl fun K hK => ?_
  go_simp
  refine hK _ _ ?_
  clear hK K
  refine wpList_store_mid (by rfl) _ _ _ (by rfl) w.heap.size 0 #[.int .i64 c, .int .i64 r] (by rfl) (by rfl) (block_there hA0.out 2 (Nat.le_refl _)) (by kernel_rfl) (by simp [Value.oneCell']) ?_
  have hs8 : Hid (BlkC (w0.setCells w.heap.size 0 #[.int .i64 c, .int .i64 r].toList) w.heap.size #[.int .i64 c, .int .i64 r] 31) := store_block hA0.out _ rfl
  have hb8 : Hid (Below w.heap.size w (w0.setCells w.heap.size 0 #[.int .i64 c, .int .i64 r].toList)) := store_below (Nat.le_refl _) _ _ _ hAB.out
  generalize w0.setCells w.heap.size 0 #[.int .i64 c, .int .i64 r].toList = w9 at hs8 hb8 ⊢
  go_simp
  iterate 3 (first | go_values | go_skip | go_guarded | go_step | go_upon)
  apply wp_ret
  try simp only [Exit.inBlock, Exit.then]
  exact bodyPost_ret (results_cell_row rfl _ _ w.heap.size 31 #[.int .i64 c, .int .i64 r] (0, 0) _ rfl hs8.out Tryz.underlying31 rfl (by kernel_rfl)) rfl ⟨rfl, hb8.out⟩
theorem o1 {w1 wz wy : World} (hbz : Below w1.drew.heap.size w1.drew wz) (hby : Below wz.heap.size wz wy) : Below w1.heap.size w1 wy := by
  have hz : Below w1.heap.size w1 wz := bel_call hbz (Below.drew (Below.refl _ _)) (Nat.le_refl _)
  exact bel_call hby hz hz.size
theorem o2 {w1 wz wy : World} {o : Obj} (hbz : Below w1.drew.heap.size w1.drew wz) (hby : Below (wz.alloc o).heap.size (wz.alloc o) wy) : Below w1.heap.size w1 wy ∧ w1.heap.size ≤ wz.heap.size ∧ wy.heap[wz.heap.size]? = some o := by
  have hz : Below w1.heap.size w1 wz := bel_call hbz (Below.drew (Below.refl _ _)) (Nat.le_refl _)
  have ha := hz.alloc hz.size o
  exact ⟨bel_call hby ha ha.size, hz.size, (hby.block _ (lt_some (heap_alloc_new wz o))).trans (heap_alloc_new wz o)⟩
theorem o3 {w1 wz wy : World} {o : Obj} (hbz : Below (w1.alloc o).drew.heap.size (w1.alloc o).drew wz) (hby : Below wz.heap.size wz wy) : Below w1.heap.size w1 wy ∧ wy.heap[w1.heap.size]? = some o := by
  have ha : Below w1.heap.size w1 (w1.alloc o).drew := Below.drew ((Below.refl _ _).alloc (Nat.le_refl _) o)
  have hz := bel_call hbz ha ha.size
  have hk : wz.heap[w1.heap.size]? = some o := (hbz.block _ (lt_some (heap_alloc_new w1 o))).trans (heap_alloc_new w1 o)
  exact ⟨bel_call hby hz hz.size, (hby.block _ (lt_some hk)).trans hk⟩
theorem set8 {a W : World} {N L : Nat} {u0 u1 u2 u3 u4 u5 u6 u7 v0 v1 v2 v3 v4 v5 v6 v7 : Value} {T : TypeId} (h : W.heap[L]? = some (.cells #[u0, u1, u2, u3, u4, u5, u6, u7] T)) (hb : Below N a W) (hN : N ≤ L) :
    BlkC ((((((((W.setCell ⟨L, 0, none⟩ v0).setCell ⟨L, 1, none⟩ v1).setCell ⟨L, 2, none⟩ v2).setCell ⟨L, 3, none⟩ v3).setCell ⟨L, 4, none⟩ v4).setCell ⟨L, 5, none⟩ v5).setCell ⟨L, 6, none⟩ v6).setCell ⟨L, 7, none⟩ v7) L #[v0, v1, v2, v3, v4, v5, v6, v7] T ∧ Below N a ((((((((W.setCell ⟨L, 0, none⟩ v0).setCell ⟨L, 1, none⟩ v1).setCell ⟨L, 2, none⟩ v2).setCell ⟨L, 3, none⟩ v3).setCell ⟨L, 4, none⟩ v4).setCell ⟨L, 5, none⟩ v5).setCell ⟨L, 6, none⟩ v6).setCell ⟨L, 7, none⟩ v7) := by
  refine ⟨?_, ?_⟩
  · have h0 := heap_setCell_same W L 0 _ _ v0 h
    have h1 := heap_setCell_same _ L 1 _ _ v1 h0
    have h2 := heap_setCell_same _ L 2 _ _ v2 h1
    have h3 := heap_setCell_same _ L 3 _ _ v3 h2
    have h4 := heap_setCell_same _ L 4 _ _ v4 h3
    have h5 := heap_setCell_same _ L 5 _ _ v5 h4
    have h6 := heap_setCell_same _ L 6 _ _ v6 h5
    have h7 := heap_setCell_same _ L 7 _ _ v7 h6
    unfold BlkC
    rw [h7]
    simp
  · have g0 := hb.setCell (p := ⟨L, 0, none⟩) hN v0
    have g1 := g0.setCell (p := ⟨L, 1, none⟩) hN v1
    have g2 := g1.setCell (p := ⟨L, 2, none⟩) hN v2
    have g3 := g2.setCell (p := ⟨L, 3, none⟩) hN v3
    have g4 := g3.setCell (p := ⟨L, 4, none⟩) hN v4
    have g5 := g4.setCell (p := ⟨L, 5, none⟩) hN v5
    have g6 := g5.setCell (p := ⟨L, 6, none⟩) hN v6
    have g7 := g6.setCell (p := ⟨L, 7, none⟩) hN v7
    exact g7
/-- Which blocks the parts of a row may lie in. -/
def okMtom (base : Nat) (w : World) (v : Value) (k : Nat) : Prop := base ≤ k ∧ k < w.heap.size ∧ v.ownBlock ≠ some k
theorem kidsMtom {base G d' l' c2 : Nat} {wr w3 w5 : World} {o : Obj} {v v' u : Value} {acc : List Cel.Kid} {c : Nd} {p2 : Option Addr} (hG : G < base) (hbs : base ≤ wr.heap.size) (hb : Below wr.heap.size wr w3) (hg : (w3.alloc o).grownBy w5 v.ownBlock)
    (hat : v'.ownBlock = v.ownBlock ∨ v'.ownBlock = some (w3.alloc o).heap.size) (hlt : ∀ b, v.ownBlock = some b → b < wr.heap.size) (hk : ∀ x ∈ acc, Cel.RdP wr (okMtom base wr v) d' x.1 x.2.1 x.2.2.1)
    (hn : Cel.RdP w3 (fun b => wr.heap.size ≤ b ∧ b < w3.heap.size) d' c p2 l') :
    ∀ x ∈ acc ++ [(c, p2, l', c2)], Cel.RdP (w5.setCell ⟨G, 7, none⟩ u) (okMtom base (w5.setCell ⟨G, 7, none⟩ u) v') d' x.1 x.2.1 x.2.2.1 := by
  have hs := hb.size
  have hs2 := hg.size
  rw [World.size_alloc] at hs2 hat
  have hblk : ∀ b, G ≠ b → b < w3.heap.size → v.ownBlock ≠ some b → (w5.setCell ⟨G, 7, none⟩ u).heap[b]? = w3.heap[b]? := fun b h1 h2 h3 => by
    rw [heap_setCell_other _ _ _ _ (fun e => h1 e.symm), hg.block b (by rw [World.size_alloc]; omega) (fun e => h3 e.symm), heap_alloc_old _ _ h2]
  intro x hx
  rcases List.mem_append.1 hx with hx | hx
  · refine Cel.RdP.carry (fun b hb' => ?_) (hk x hx)
    obtain ⟨h1, h2, h3⟩ := hb'
    refine ⟨⟨h1, by rw [World.size_setCell]; omega, ?_⟩, ?_⟩
    · rcases hat with e | e
      · rw [e]; exact h3
      · rw [e]; intro e'; have := Option.some.inj e'; omega
    · rw [hblk b (by omega) (by omega) h3, hb.block b h2]
  · obtain rfl := List.mem_singleton.1 hx
    refine Cel.RdP.carry (fun b hb' => ?_) hn
    obtain ⟨h1, h2⟩ := hb'
    have h3 : v.ownBlock ≠ some b := fun e => by have := hlt b e; omega
    refine ⟨⟨by omega, by rw [World.size_setCell]; omega, ?_⟩, ?_⟩
    · rcases hat with e | e
      · rw [e]; exact h3
      · rw [e]; intro e'; have := Option.some.inj e'; omega
    · exact hblk b (by omega) h2 h3
def tomC (d : Nat) : Prop := ∀ (n : Nd) (p : Option Addr) (len cap : Nat) (w : World), RdT w w.heap.size d n p len → OkN n → FewN n → Calls Tryz.prog 8 #[.agg (ndA n p len cap)] w fun e w' => (∃ p' cap', e = .returned (.agg (Cel.ndA n p' len cap')) ∧ Cel.RdP w' (fun b => w.heap.size ≤ b ∧ b < w'.heap.size) d n p' len) ∧ Below w.heap.size w w'
set_option maxRecDepth 100000 in
set_option maxHeartbeats 16000000 in
theorem tom_s (d : Nat) (IH : ∀ d', d = d' + 1 → tomC d') : tomC d := by
  intro n p len cap w hrd hok hfew
  have HRD := Lib.hid hrd
  have HIH := Lib.hid IH
  have hlen := hfew.len
  rw [hrd.len] at hlen
  have HAL := Lib.hid hrd.len
  have HOK := Lib.hid (fun c hc => OkN.child (c := c) hok hc)
  have HFW := Lib.hid (fun c hc => FewN.child (c := c) hfew hc)
  have hofr := hok.frm
  have hoto := hok.tor

  have HCA := Lib.hid (fun W => lcell_any n.frm hofr.1 hofr.2 W)
  have HCB := Lib.hid (fun W => lcell_any n.tor hoto.1 hoto.2 W)
  rw [ndA_eq]
  clear hrd IH hok hfew hofr hoto
  go_enter Tryz.func8, Tryz.ntmps8
  go_upto_region 1 with fail
  have e0 : (w.alloc (.cells #[.int .i64 n.kind, .int .i64 n.num, .string ⟨n.text.toArray⟩, .int .i64 n.frm, .int .i64 n.tor, .slice p len cap] tRn)).alloc (.cells #[.int .i64 0, .int .i64 0, .string ⟨#[]⟩, .int .i64 0, .int .i64 0, .int .i64 0, .int .i64 0, .slice none 0 0] Cel.tPn) = (w.alloc (.cells (ndA n p len cap) tRn)).alloc (.cells (Cel.ndA nodeZ none 0 0) Cel.tPn) := rfl
  rw [e0]
  clear e0
  have HN1 : Hid (NdB tRn ((w.alloc (.cells (ndA n p len cap) tRn)).alloc (.cells (Cel.ndA nodeZ none 0 0) Cel.tPn)) w.heap.size n p len cap) := by
    unfold Hid NdB
    rw [Lib.alloc_old _ _ _ (by simp)]
    exact heap_alloc_new w _
  have HZ1 : Hid (BlkC ((w.alloc (.cells (ndA n p len cap) tRn)).alloc (.cells (Cel.ndA nodeZ none 0 0) Cel.tPn)) (w.heap.size + 1) (Cel.ndA nodeZ none 0 0) Cel.tPn) := by
    have := heap_alloc_new (w.alloc (.cells (ndA n p len cap) tRn)) (.cells (Cel.ndA nodeZ none 0 0) Cel.tPn)
    rw [World.size_alloc] at this
    exact this
  have HB1 : Hid (Below w.heap.size w ((w.alloc (.cells (ndA n p len cap) tRn)).alloc (.cells (Cel.ndA nodeZ none 0 0) Cel.tPn))) := by unfold Hid; (repeat' (first | (with_reducible exact Below.refl _ _) | (with_reducible assumption) | (with_reducible refine Below.alloc ?_ ?_ _) | (with_reducible refine bel_drewN ?_ _) | (with_reducible refine Below.drew ?_) | (with_reducible refine Below.setCell ?_ ?_ _) | (with_reducible refine bel_call ‹_› ?_ ?_) | go_size))
  generalize (w.alloc (.cells (ndA n p len cap) tRn)).alloc (.cells (Cel.ndA nodeZ none 0 0) Cel.tPn) = w1 at HN1 HZ1 HB1 ⊢
  obtain ⟨c0, c1, c2, c3, c4, c5⟩ := HN1.out.cells
  have hl1 : w.heap.size + 1 < w1.heap.size := lt_some HZ1.out
  go_cut [3] (fun v3 wx => ∃ L, v3 = .pointer (some ⟨L, 0, none⟩) ∧ w1.heap.size ≤ L ∧ BlkC wx L (Cel.ndA n none 0 0) Cel.tPn ∧ Below w1.heap.size w1 wx)
  case first =>
    go_region_held3 (fun w' => w'.cell? ⟨w.heap.size, 0, none⟩ = some (.int .i64 n.kind) ∧ w'.cell? ⟨w.heap.size, 1, none⟩ = some (.int .i64 n.num) ∧ w'.cell? ⟨w.heap.size, 2, none⟩ = some (.string ⟨n.text.toArray⟩) ∧ w'.cell? ⟨w.heap.size, 3, none⟩ = some (.int .i64 n.frm) ∧ w'.cell? ⟨w.heap.size, 4, none⟩ = some (.int .i64 n.tor)) (first | (go_simp; done) | go_keep) (first | (go_at_call 22; with_reducible refine (HCA.out _).mono ?_; rintro e wz ⟨rfl, hbz⟩; obtain ⟨hcz, hfz, hzz⟩ := bcell hbz (by first | (simp only [World.size_alloc, World.size_setCell, World.size_drew]; rfl) | rfl)) | (go_at_call 22; with_reducible refine (HCB.out _).mono ?_; rintro e wy ⟨rfl, hby⟩; obtain ⟨hcy, hfy, hzy⟩ := bcell hby (by first | (simp only [World.size_alloc, World.size_setCell, World.size_drew]; rfl) | rfl)))
    all_goals go_wp2_with fail
    all_goals go_meet
    all_goals (refine ⟨_, rfl, ?_, ?_, ?_⟩)
    · exact (o1 hbz hby).size
    · exact heap_alloc_new wy _
    · exact (o1 hbz hby).alloc (o1 hbz hby).size _
    · exact (o2 hbz hby).2.1
    · exact (set8 (o2 hbz hby).2.2 (o2 hbz hby).1 (o2 hbz hby).2.1).1
    · exact (set8 (o2 hbz hby).2.2 (o2 hbz hby).1 (o2 hbz hby).2.1).2
    · exact Nat.le_refl _
    · exact (set8 (o3 hbz hby).2 (o3 hbz hby).1 (Nat.le_refl _)).1
    · exact (set8 (o3 hbz hby).2 (o3 hbz hby).1 (Nat.le_refl _)).2
  case rest =>
    obtain ⟨L, hv, hL, hT3, hB3⟩ := hcut
    subst hv
    have HL3 := Lib.hid hT3
    have HN3 : Hid (NdB tRn wc w.heap.size n p len cap) := HN1.out.below hB3
    have HZ3 := Lib.hid (HZ1.out.below hB3)
    have HB3 : Hid (Below w.heap.size w wc) := bel_call hB3 HB1.out HB1.out.size
    have hLb : L < wc.heap.size := lt_some hT3
    have hLH : w.heap.size + 1 < L := by omega
    have hH1 : w.heap.size + 1 < wc.heap.size := by omega
    clear hT3 hB3 c0 c1 c2 c3 c4 c5 HN1 HZ1 HB1 HCA HCB hL hl1
    generalize wc = w3 at *
    obtain ⟨base, hbase⟩ : ∃ base, w3.heap.size = base := ⟨_, rfl⟩
    have HB0 := Lib.hid hbase
    rw [hbase] at hLb hH1
    clear hbase
    obtain ⟨i0, hi, hz0, hz1, hz2⟩ := info_of Cel.info_nd
    go_wp2_with fail
    go_loopg [4] len (fun g v wr => ∃ (i : Nat) (acc : List Cel.Kid) (q : Option Addr) (cp : Nat), i + g = len ∧ v = .int .i64 i ∧ acc.map Prod.fst = n.args.take i ∧ NdB tRn wr w.heap.size n p len cap ∧ BlkC wr (w.heap.size + 1) (Cel.ndA nodeZ none 0 0) Cel.tPn ∧ BlkC wr L (Cel.ndA n q i cp) Cel.tPn ∧ wr.ownsRow base Cel.tPn 8 (.slice q i cp) i (acc.flatMap Cel.kidC) ∧ (∀ d', d = d' + 1 → ∀ x ∈ acc, Cel.RdP wr (okMtom base wr (.slice q i cp)) d' x.1 x.2.1 x.2.2.1) ∧ Below w.heap.size w wr ∧ base ≤ wr.heap.size)
    case atStart => exact ⟨0, [], none, 0, by omega, rfl, rfl, HN3.out, HZ3.out, HL3.out, World.ownsRow_nil _ _ _ _, fun _ _ x hx => (by cases hx), HB3.out, by rw [HB0.out]; exact Nat.le_refl _⟩
    case round =>
      obtain ⟨i, acc, q, cp, hig, rfl, hacc, hn1, hn0, hn2, hown, hkid, hbel, hbs⟩ := hrel
      have HAC := Lib.hid hacc
      have HN1 := Lib.hid hn1
      have HN0 := Lib.hid hn0
      have HN2 := Lib.hid hn2
      have HOW := Lib.hid hown
      have HKD := Lib.hid hkid
      have HBL := Lib.hid hbel
      have hzr := hbel.size
      clear hacc hn1 hn0 hn2 hown hkid hbel HN3 HZ3 HL3 HB3 HB0
      obtain ⟨a0, a1, a2, a3, a4, a5⟩ := HN1.out.cells
      have b5 : wr.cell? ⟨L, 7, none⟩ = some (.slice q i cp) := HN2.out.cell 7 _ rfl
      by_cases hlt : i < len
      · have hli : (i : Int) < (len : Int) := by omega
        obtain ⟨d', b, off, c, p', l', c', hd, rfl, hbN, hc, hrc, q0, q1, q2, q3, q4, q5⟩ := (HRD.out.below HBL.out).at hlt
        have HC : Hid (tomC d') := HIH.out d' hd
        have HCO := Lib.hid (HOK.out c (mem_at hc))
        have HCF := Lib.hid (HFW.out c (mem_at hc))
        have A5 := Kept.cell (N := base) a5 (by omega)
        have B5 := Kept.cell (N := base) b5 (by omega)
        have Q0 := Kept.cell (N := base) q0 (by omega)
        have Q1 := Kept.cell (N := base) q1 (by omega)
        have Q2 := Kept.cell (N := base) q2 (by omega)
        have Q3 := Kept.cell (N := base) q3 (by omega)
        have Q4 := Kept.cell (N := base) q4 (by omega)
        have Q5 := Kept.cell (N := base) q5 (by omega)
        go_upto_region 5 with fail
        refine wp_region_schedT (fun wx => ∃ x : Kept base wr, wx = x.v) 11 [([0,1,2,3,4,5,6],7),([],8),([],9)] [10] (by kernel_rfl) (by kernel_rfl) (by kernel_rfl) (by kernel_rfl) (kept_drew _ _ (by omega)) ?_
        (unfold wpSegK; simp only [pick_nil, pick_cons, nthO_zero, nthO_succ, List.append])
        clear a0 a1 a2 a3 a4 a5 b5 q0 q1 q2 q3 q4 q5
        repeat (go_big_quiet_step (fail))
        refine wpQuiet_nil ?_
        have HRC := Lib.hid hrc
        have HHC := Lib.hid hc
        have HHD := Lib.hid hd
        clear hrc hc hd
        have HCC := Lib.hid (HC.out c p' l' c' wr.drew ((HRC.out.below (Below.drew (Below.refl _ _))).mono hzr) HCO.out HCF.out)
        rw [ndA_eq c p' l' c'] at HCC
        go_wp2_with fail
        refine HCC.out.mono ?_
        rintro e w3 ⟨⟨p2, c2, rfl, hk3⟩, hb3⟩
        have hb4 : Hid (Below wr.heap.size wr w3) := bel_call hb3 (Below.drew (Below.refl _ _)) (Nat.le_refl _)
        have HK3 := Lib.hid hk3
        rw [show Value.agg (Cel.ndA c p2 l' c2) = .agg #[.int .i64 c.kind, .int .i64 c.num, .string ⟨c.text.toArray⟩, .int .i64 (cC c.frm), .int .i64 (cR c.frm), .int .i64 (cC c.tor), .int .i64 (cR c.tor), .slice p2 l' c2] from rfl]
        clear HCC hk3 hb3
        go_wp2_with fail
        have hB3 : Hid (Below base wr w3) := hb4.out.mono (by omega)
        refine ⟨rfl, ⟨⟨w3, hB3.out⟩, rfl⟩, ?_⟩
        (unfold wpSegK; simp only [pick_nil, pick_cons, nthO_zero, nthO_succ, List.append])
        refine wpQuiet_nil ?_
        go_wp2_with fail
        have e4 : w3.alloc (.cells #[.int .i64 c.kind, .int .i64 c.num, .string ⟨c.text.toArray⟩, .int .i64 (cC c.frm), .int .i64 (cR c.frm), .int .i64 (cC c.tor), .int .i64 (cR c.tor), .slice p2 l' c2] Cel.tPn) = w3.alloc (.cells (Cel.ndA c p2 l' c2) Cel.tPn) := rfl
        rw [e4]
        clear e4
        refine ⟨rfl, ⟨⟨_, hB3.out.alloc (by have := hb4.out.size; omega) _⟩, rfl⟩, ?_⟩
        (unfold wpSegK; simp only [pick_nil, pick_cons, nthO_zero, nthO_succ, List.append])
        refine wpQuiet_nil ?_
        have HRW := Lib.hid (row_below HOW.out hb4.out)
        refine wpList_append_own_at _ rfl _ _ _ rfl base Cel.tPn i0 _ 8 88 Tryz.underlying32 hi hz0 hz1 hz2 rfl (by decide) _ _ _ rfl (HRW.out.alloc _) ⟨w3.heap.size, 0, none⟩ 1 1 (Cel.ndC c p2 l' c2) rfl rfl (Cel.newNd w3 c p2 l' c2) ?c2 ?c3 ?c4 ?c5 ?_
        case c2 => exact Cel.kidC_one (c, p2, l', c2)
        case c3 => unfold maxLen; omega
        case c4 => omega
        case c5 => rw [World.size_alloc]; have := hb4.out.size; omega
        intro v' w5 hown5 hgrow5 _ hat5
        have hB5 : Hid (Below base wr w5) := (hB3.out.alloc (by have := hb4.out.size; omega) _).grown hgrow5 (by rw [World.size_alloc]; have := hb4.out.size; omega) (fun k hk => (HRW.out.lt k hk).1)
        have HOW5 : Hid (w5.ownsRow base Cel.tPn 8 v' (i + 1) ((acc ++ [(c, p2, l', c2)]).flatMap Cel.kidC)) := by
          unfold Hid
          rw [flat_snoc]
          exact hown5
        have hla : acc.length = i := by
          have h := congrArg List.length HAC.out
          simp only [List.length_map, List.length_take] at h
          rw [HAL.out] at h
          omega
        obtain ⟨q5, cp5, hv5, _, _, _, _⟩ := RdG.of_own Cel.kidC_len (by rw [List.length_append, List.length_singleton, hla]) HOW5.out
        subst hv5
        have HN5 : Hid (BlkC w5 L (Cel.ndA n q i cp) Cel.tPn) := (hB5.out.block _ hLb).trans HN2.out
        have HKN := Lib.hid (kidsMtom (G := L) (u := .slice q5 (i + 1) cp5) (c2 := c2) hLb hbs hb4.out hgrow5 hat5 (fun b e => (HOW.out.lt b e).2) (HKD.out d' HHD.out) HK3.out)
        have hs5 := hB5.out.size
        clear hown5 hgrow5 hat5 HRW HK3 HKD HCF HCO HC HIH HOK HFW A5 B5 Q0 Q1 Q2 Q3 Q4 Q5
        have e5 : w5.cell? ⟨L, 7, none⟩ = some (.slice q i cp) := HN5.out.cell 7 _ rfl
        have g5 := HN5.out.fz 7
        go_wp2_with fail
        refine ⟨rfl, ⟨⟨w5, hB5.out⟩, rfl⟩, ?_⟩
        (unfold wpSegK; simp only [pick_nil, pick_cons, nthO_zero, nthO_succ, List.append])
        repeat (go_big_quiet_step (fail))
        refine wpQuiet_nil ?_
        go_wp2_with fail
        refine ⟨rfl, ?_⟩
        have HP6 : Hid (BlkC (w5.setCell ⟨L, 7, none⟩ (.slice q5 (i + 1) cp5)) L (Cel.ndA n q5 (i + 1) cp5) Cel.tPn) := block_setCell HN5.out _
        have HR6 : Hid (NdB tRn (w5.setCell ⟨L, 7, none⟩ (.slice q5 (i + 1) cp5)) w.heap.size n (some ⟨b, off, none⟩) len cap) := by
          unfold Hid NdB
          rw [heap_setCell_other _ _ _ _ (by show w.heap.size ≠ L; omega), hB5.out.block _ (by omega)]
          exact HN1.out
        have HZ6 : Hid (BlkC (w5.setCell ⟨L, 7, none⟩ (.slice q5 (i + 1) cp5)) (w.heap.size + 1) (Cel.ndA nodeZ none 0 0) Cel.tPn) := by
          unfold Hid BlkC
          rw [heap_setCell_other _ _ _ _ (by show w.heap.size + 1 ≠ L; omega), hB5.out.block _ (by omega)]
          exact HN0.out
        have HW6 : Hid ((w5.setCell ⟨L, 7, none⟩ (.slice q5 (i + 1) cp5)).ownsRow base Cel.tPn 8 (.slice q5 (i + 1) cp5) (i + 1) ((acc ++ [(c, p2, l', c2)]).flatMap Cel.kidC)) :=
          row_carry HOW5.out (fun b hb => heap_setCell_other _ _ _ _ (by have := (HOW5.out.lt b hb).1; show b ≠ L; omega))
        have HL6 : Hid (Below w.heap.size w (w5.setCell ⟨L, 7, none⟩ (.slice q5 (i + 1) cp5))) := (HBL.out.trans (hB5.out.mono (by omega))).setCell (by show w.heap.size ≤ L; omega) _
        have hz6 : base ≤ (w5.setCell ⟨L, 7, none⟩ (.slice q5 (i + 1) cp5)).heap.size := by rw [World.size_setCell]; omega
        have HAN : Hid ((acc ++ [(c, p2, l', c2)]).map Prod.fst = n.args.take (i + 1)) := by
          unfold Hid
          rw [List.map_append, HAC.out, List.take_add_one, HHC.out]
          simp
        generalize w5.setCell ⟨L, 7, none⟩ (.slice q5 (i + 1) cp5) = w6 at HP6 HR6 HZ6 HW6 HL6 HKN hz6 ⊢
        clear HHC HN5 HN0 HN1 HN2 HOW HOW5 hB5 hB3 hb4 e5 g5 HBL
        go_wp2_with fail
        go_roundg (gk - 1)
        case measure => omega
        case rel =>
          refine ⟨i + 1, acc ++ [(c, p2, l', c2)], q5, cp5, by omega, by go_num, HAN.out, HR6.out, HZ6.out, HP6.out, HW6.out, fun d'' hd x hx => ?_, HL6.out, hz6⟩
          obtain rfl : d' = d'' := by have := HHD.out; omega
          exact HKN.out x hx
      · obtain rfl : i = len := by omega
        have hli : ¬ (i : Int) < (i : Int) := by omega
        have hla : acc.length = i := by
          have h := congrArg List.length HAC.out
          simp only [List.length_map, List.length_take] at h
          rw [HAL.out] at h
          omega
        clear a0 a1 a2 a3 a4 b5
        go_upto_region 6 with fail
        refine wp_region_lit ?_
        refine wpList_load_mid (by rfl) _ _ (by rfl) L 0 (by rfl) [.int .i64 n.kind, .int .i64 n.num, .string ⟨n.text.toArray⟩, .int .i64 (cC n.frm), .int .i64 (cR n.frm), .int .i64 (cC n.tor), .int .i64 (cR n.tor), .slice q i cp] _ (block_range HN2.out [.int .i64 n.kind, .int .i64 n.num, .string ⟨n.text.toArray⟩, .int .i64 (cC n.frm), .int .i64 (cR n.frm), .int .i64 (cC n.tor), .int .i64 (cR n.tor), .slice q i cp] rfl) Tryz.underlying34 rfl (by kernel_rfl) ?_
        go_simp
        refine wpList_store_mid (by rfl) _ _ _ (by rfl) (w.heap.size + 1) 0 #[.int .i64 n.kind, .int .i64 n.num, .string ⟨n.text.toArray⟩, .int .i64 (cC n.frm), .int .i64 (cR n.frm), .int .i64 (cC n.tor), .int .i64 (cR n.tor), .slice q i cp] (by rfl) (by rfl) (block_there HN0.out 8 (Nat.le_refl _)) (by kernel_rfl) (by simp [Value.oneCell']) ?_
        have e8 : wr.setCells (w.heap.size + 1) 0 (#[.int .i64 n.kind, .int .i64 n.num, .string ⟨n.text.toArray⟩, .int .i64 (cC n.frm), .int .i64 (cR n.frm), .int .i64 (cC n.tor), .int .i64 (cR n.tor), .slice q i cp]).toList = wr.setCells (w.heap.size + 1) 0 (Cel.ndA n q i cp).toList := rfl
        rw [e8]
        clear e8
        have HS8 : Hid (BlkC (wr.setCells (w.heap.size + 1) 0 (Cel.ndA n q i cp).toList) (w.heap.size + 1) (Cel.ndA n q i cp) Cel.tPn) := store_block HN0.out _ rfl
        have HB8 : Hid (Below w.heap.size w (wr.setCells (w.heap.size + 1) 0 (Cel.ndA n q i cp).toList)) := store_below (by omega) _ _ _ HBL.out
        have hz8 := (store_below (Nat.zero_le (w.heap.size + 1)) (Cel.ndA n q i cp).toList 0 wr (Below.refl 0 wr)).size
        have HO8 : Hid (∀ k, k ≠ w.heap.size + 1 → (wr.setCells (w.heap.size + 1) 0 (Cel.ndA n q i cp).toList).heap[k]? = wr.heap[k]?) := fun k hk => store_other hk _ _ _
        generalize wr.setCells (w.heap.size + 1) 0 (Cel.ndA n q i cp).toList = w9 at HS8 HB8 HO8 hz8 ⊢
        go_simp
        iterate 3 (first | go_values | go_skip | go_guarded | go_step | go_upon)
        apply wp_ret
        try simp only [Exit.inBlock, Exit.then]
        refine bodyPost_ret (results_cell_row rfl _ _ (w.heap.size + 1) Cel.tPn (Cel.ndA n q i cp) (0, 0) _ rfl HS8.out Tryz.underlying34 rfl (by kernel_rfl)) rfl ⟨⟨q, cp, rfl, ?_⟩, HB8.out⟩
        cases d with
        | zero =>
          have h := HRD.out
          refine ⟨?_, h.2⟩
          exact h.1
        | succ d =>
          subst hla
          obtain ⟨q', cp', hv, hr⟩ := Cel.RdP.of_row (n := n) (d := d) (ok := fun b => base ≤ b ∧ b < wr.heap.size) HOW.out (by rw [HAC.out, List.take_of_length_le (by rw [HAL.out]; exact Nat.le_refl _)]) (fun x hx => Cel.RdP.carry (fun b hb => ⟨⟨hb.1, hb.2.1⟩, rfl⟩) (HKD.out d rfl x hx)) (fun b hb => HOW.out.lt b hb)
          cases hv
          exact Cel.RdP.carry (fun b hb => ⟨⟨by omega, by omega⟩, HO8.out b (by omega)⟩) hr
theorem tom_any : ∀ d, tomC d
  | 0 => tom_s 0 (fun d' h => by omega)
  | d + 1 => tom_s (d + 1) (fun d' h => (show d = d' from by omega) ▸ tom_any d)
end Go.Proofs.YtigmcoelkkihkaaGreatDoor
namespace Go.Proofs.YtigmcoelkkihkaaGreatDoor
open Go.RowKit Go.Joins

theorem ndA_c6 (n : Nd) (p : Option Addr) (l c : Nat) : Value.agg (ndA n p l c) = .agg #[.int .i64 n.kind, .int .i64 n.num, .string ⟨n.text.toArray⟩, .int .i64 n.frm, .int .i64 n.tor, .slice p l c] := rfl
theorem ndA_c8 (n : Nd) (p : Option Addr) (l c : Nat) : Value.agg (Cel.ndA n p l c) = .agg #[.int .i64 n.kind, .int .i64 n.num, .string ⟨n.text.toArray⟩, .int .i64 (cC n.frm), .int .i64 (cR n.frm), .int .i64 (cC n.tor), .int .i64 (cR n.tor), .slice p l c] := rfl
theorem few_of {n : Nd} (h : szN n 100 ≤ 100) : FewN n := ⟨100, by omega, h⟩
mutual
theorem pl_sz : ∀ (n : Nd) (m : Int), szN (plN n) m = szN n m
  | .mk k u t f o a, m => by rw [plN, szN, szN, pl_szL a]
theorem pl_szL : ∀ (a : List Nd) (k m : Int), szL (plNL a) k m = szL a k m
  | [], k, m => by rw [plNL]
  | c :: r, k, m => by rw [plNL, szL, szL, pl_sz c, pl_szL r]
end
theorem pl_few {n : Nd} (h : FewN n) : FewN (plN n) := by
  obtain ⟨m, h1, h2⟩ := h
  exact ⟨m, h1, by rw [pl_sz]; exact h2⟩
theorem pl_ok : ∀ {n : Nd}, OkN n → OkN (plN n)
  | _, .mk k u t f o a h1 h2 h3 h4 h5 h6 => by
    rw [plN]
    refine .mk _ _ _ _ _ _ ?_ ?_ ?_ ?_ ?_ (fun c hc => ?_)
    · split
      · exact h1
      · simp
    · rw [plNL_map, List.length_map]; exact h2
    · split <;> omega
    · split <;> omega
    · split <;> omega
    · rw [plNL_map] at hc
      obtain ⟨y, hy, rfl⟩ := List.mem_map.1 hc
      exact pl_ok (h6 y hy)
theorem x_len (n : Nd) : (xN n).args.length = n.args.length := by
  unfold xN
  rw [pcN_args, plN_args, List.length_map, List.length_map]
set_option maxRecDepth 100000 in
set_option maxHeartbeats 16000000 in
theorem trees_walk (d : Nat) (n : Nd) (p : Option Addr) (len cap : Nat) (c r : Int) (w : World) (hrd : RdT w w.heap.size d n p len) (hok : OkN n) (hwt : wtN n ≤ 2200000 ∨ ¬ szN n 100 ≤ 100) (hsh : w.ShapedOpen Tryz.prog) :
    Calls Tryz.prog 4 #[.agg (ndA n p len cap), .agg #[.int .i64 c, .int .i64 r]] w fun e w' => e = .returned (.bool true) ∧ Below w.heap.size w w' := by
  have HN := Lib.hid (fun W (hW : Below w.heap.size w W) => (hrd.below hW).mono hW.size)
  have HSH := Lib.hid (fun W (hW : Below w.heap.size w W) => shaped_below hsh hW)
  have HSZ := Lib.hid (fun W (hW : Below w.heap.size w W) => size_any d n p len cap 100 W (HN.out W hW) hok (by omega) (by omega))
  have HRR := Lib.hid (fun W (hW : Below w.heap.size w W) => rright_any d n p len cap 64 W (HN.out W hW) hok (by omega) (by omega))
  have HPN := Lib.hid (fun W => pname_any c r W)
  have HRT := Lib.hid (fun W => r7text_any c r W)
  have HAW := Lib.hid (fun W (hW : Below w.heap.size w W) => awake_any W (HSH.out W hW))
  have HOK := Lib.hid hok
  have HWT := Lib.hid hwt
  obtain ⟨X, hX⟩ : ∃ X, cellS c r = X := ⟨_, rfl⟩
  rw [hX] at HPN HRT
  obtain ⟨rt, hrt⟩ : ∃ rt, rtN n 64 = rt := ⟨_, rfl⟩
  obtain ⟨sz, hsz⟩ : ∃ sz, szN n 100 = sz := ⟨_, rfl⟩
  rw [hrt] at HRR
  rw [hsz] at HSZ HWT
  have HRTE := Lib.hid hrt
  have HSZE := Lib.hid hsz
  have hA0 : Hid (NdB tRn ((w.alloc (.cells (ndA n p len cap) tRn)).alloc (.cells #[.int .i64 c, .int .i64 r] 31)) w.heap.size n p len cap) := by
    unfold Hid NdB
    rw [Lib.alloc_old _ _ _ (by simp)]
    exact heap_alloc_new w _
  have hC0 : Hid (BlkC ((w.alloc (.cells (ndA n p len cap) tRn)).alloc (.cells #[.int .i64 c, .int .i64 r] 31)) (w.heap.size + 1) #[.int .i64 c, .int .i64 r] 31) := by
    have := heap_alloc_new (w.alloc (.cells (ndA n p len cap) tRn)) (.cells #[.int .i64 c, .int .i64 r] 31)
    rw [World.size_alloc] at this
    exact this
  have hAB : Hid (Below w.heap.size w ((w.alloc (.cells (ndA n p len cap) tRn)).alloc (.cells #[.int .i64 c, .int .i64 r] 31))) := by unfold Hid; (repeat' (first | (with_reducible exact Below.refl _ _) | (with_reducible assumption) | (with_reducible refine Below.alloc ?_ ?_ _) | (with_reducible refine bel_drewN ?_ _) | (with_reducible refine Below.drew ?_) | (with_reducible refine Below.setCell ?_ ?_ _) | (with_reducible refine bel_call ‹_› ?_ ?_) | go_size))
  clear hrd hok hwt hsh hX hrt hsz
  rw [ndA_c6]
  go_enter Tryz.func4, Tryz.ntmps4
  go_upto_region 1 with fail
  have e0 : (w.alloc (.cells #[.int .i64 n.kind, .int .i64 n.num, .string ⟨n.text.toArray⟩, .int .i64 n.frm, .int .i64 n.tor, .slice p len cap] tRn)).alloc (.cells #[.int .i64 c, .int .i64 r] 31) = (w.alloc (.cells (ndA n p len cap) tRn)).alloc (.cells #[.int .i64 c, .int .i64 r] 31) := rfl
  rw [e0]
  clear e0
  generalize (w.alloc (.cells (ndA n p len cap) tRn)).alloc (.cells #[.int .i64 c, .int .i64 r] 31) = w0 at hA0 hC0 hAB ⊢
  have hBR : ∀ dd os, Below w.heap.size w (Go.Sort.grow (redrawn w0 dd) os) := fun dd os => bel_call (below_regrown w0 dd os) hAB.out hAB.out.size
  obtain ⟨c0, c1, c2, c3, c4, c5⟩ := hA0.out.cells
  have k0 : w0.cell? ⟨w.heap.size + 1, 0, none⟩ = some (.int .i64 c) := hC0.out.cell 0 _ rfl
  have k1 : w0.cell? ⟨w.heap.size + 1, 1, none⟩ = some (.int .i64 r) := hC0.out.cell 1 _ rfl
  go_cut [26] (fun v wx => v = .bool (decide (100 < sz) || !rt) ∧ Below w0.heap.size w0 wx)
  case first =>
    have r0 := cell_regrown c0
    have r1 := cell_regrown c1
    have r2 := cell_regrown c2
    have r3 := cell_regrown c3
    have r4 := cell_regrown c4
    have r5 := cell_regrown c5
    have r6 := cell_regrown k0
    have r7 := cell_regrown k1
    have q1 : ∀ dd os, Calls Tryz.prog 12 #[.agg #[.int .i64 n.kind, .int .i64 n.num, .string ⟨n.text.toArray⟩, .int .i64 n.frm, .int .i64 n.tor, .slice p len cap], .int .i64 100] (Go.Sort.grow (redrawn w0 dd) os) fun e w'' => e = .returned (.int .i64 sz) ∧ ∃ p : Regrown, w'' = Go.Sort.grow (redrawn w0 p.1) p.2 := fun dd os => Calls.regrown_of (HSZ.out _ (hBR dd os))
    have q2 : ∀ dd os, Calls Tryz.prog 13 #[.agg #[.int .i64 n.kind, .int .i64 n.num, .string ⟨n.text.toArray⟩, .int .i64 n.frm, .int .i64 n.tor, .slice p len cap], .int .i64 64] (Go.Sort.grow (redrawn w0 dd) os) fun e w'' => e = .returned (.bool rt) ∧ ∃ p : Regrown, w'' = Go.Sort.grow (redrawn w0 p.1) p.2 := fun dd os => Calls.regrown_of (HRR.out _ (hBR dd os))
    have q3 : ∀ dd os, Calls Tryz.prog 14 #[.agg #[.int .i64 c, .int .i64 r]] (Go.Sort.grow (redrawn w0 dd) os) fun e w'' => e = .returned (.string ⟨X.toArray⟩) ∧ ∃ p : Regrown, w'' = Go.Sort.grow (redrawn w0 p.1) p.2 := fun dd os => Calls.regrown_of (HPN.out _)
    have q4 : ∀ dd os, Calls Tryz.prog 15 #[.int .i64 c, .int .i64 r] (Go.Sort.grow (redrawn w0 dd) os) fun e w'' => e = .returned (.string ⟨X.toArray⟩) ∧ ∃ p : Regrown, w'' = Go.Sort.grow (redrawn w0 p.1) p.2 := fun dd os => Calls.regrown_of (HRT.out _)
    clear c0 c1 c2 c3 c4 c5 k0 k1 HSZ HRR HPN HRT HAW HN HSH HOK HWT HRTE HSZE hA0 hC0 hAB
    have ho : (100 < sz) ∨ ((¬ 100 < sz) ∧ rt = false) ∨ ((¬ 100 < sz) ∧ rt = true) := by
      cases rt
      · by_cases h : 100 < sz
        · exact .inl h
        · exact .inr (.inl ⟨h, rfl⟩)
      · by_cases h : 100 < sz
        · exact .inl h
        · exact .inr (.inr ⟨h, rfl⟩)
    rcases ho with hs | ⟨hs, rfl⟩ | ⟨hs, rfl⟩
    all_goals
      refine wp_region_quiet_below (by kernel_rfl) (by kernel_rfl) ?_
      repeat (go_big_quiet_step ((first | with_reducible exact q1 _ _ | with_reducible exact q2 _ _ | with_reducible exact q3 _ _ | with_reducible exact q4 _ _)))
      refine wpQuiet_nil ?_
      intro _ hw'
      obtain ⟨⟨dz, osz⟩, hw''⟩ := hw'
      subst hw''
      have hBz : Below w0.heap.size w0 (Go.Sort.grow (redrawn w0 dz) osz) := below_regrown w0 dz osz
      clear r0 r1 r2 r3 r4 r5 r6 r7 q1 q2 q3 q4
      go_wp2_with fail
      go_meet
      exact ⟨by first | rfl | (simp [hs]), hBz⟩
  case rest =>
    obtain ⟨hv, hB⟩ := hcut
    have HA1 : Hid (NdB tRn wc w.heap.size n p len cap) := hA0.out.below hB
    have HC1 : Hid (BlkC wc (w.heap.size + 1) #[.int .i64 c, .int .i64 r] 31) := hC0.out.below hB
    have HB1 : Hid (Below w.heap.size w wc) := bel_call hB hAB.out hAB.out.size
    clear hB hA0 hC0 hAB hBR HSZ HRR c0 c1 c2 c3 c4 c5 k0 k1
    generalize wc = w1 at hv HA1 HC1 HB1 ⊢
    by_cases hgo : 100 < sz ∨ rt = false
    · have hv1 : (decide (100 < sz) || !rt) = true := by
        rcases hgo with h | h
        · simp [h]
        · simp [h]
      rw [hv1] at hv
      subst hv
      clear hgo hv1 HN HOK HWT HRTE HSZE HA1 HSH
      have k0 : w1.cell? ⟨w.heap.size + 1, 0, none⟩ = some (.int .i64 c) := HC1.out.cell 0 _ rfl
      have k1 : w1.cell? ⟨w.heap.size + 1, 1, none⟩ = some (.int .i64 r) := HC1.out.cell 1 _ rfl
      have r6 := cell_regrown k0
      have r7 := cell_regrown k1
      have hBR : ∀ dd os, Below w.heap.size w (Go.Sort.grow (redrawn w1 dd) os) := fun dd os => bel_call (below_regrown w1 dd os) HB1.out HB1.out.size
      have q3 : ∀ dd os, Calls Tryz.prog 14 #[.agg #[.int .i64 c, .int .i64 r]] (Go.Sort.grow (redrawn w1 dd) os) fun e w'' => e = .returned (.string ⟨X.toArray⟩) ∧ ∃ p : Regrown, w'' = Go.Sort.grow (redrawn w1 p.1) p.2 := fun dd os => Calls.regrown_of (HPN.out _)
      have q4 : ∀ dd os, Calls Tryz.prog 15 #[.int .i64 c, .int .i64 r] (Go.Sort.grow (redrawn w1 dd) os) fun e w'' => e = .returned (.string ⟨X.toArray⟩) ∧ ∃ p : Regrown, w'' = Go.Sort.grow (redrawn w1 p.1) p.2 := fun dd os => Calls.regrown_of (HRT.out _)
      have q5 : ∀ dd os, Calls Tryz.prog 5 #[] (Go.Sort.grow (redrawn w1 dd) os) fun e w'' => e = .returned (.bool true) ∧ ∃ p : Regrown, w'' = Go.Sort.grow (redrawn w1 p.1) p.2 := fun dd os => Calls.regrown_of (HAW.out _ (hBR dd os))
      clear k0 k1 HPN HRT HAW HC1
      go_upto_region 2 with fail
      refine wp_region_quiet_below (by kernel_rfl) (by kernel_rfl) ?_
      repeat (go_big_quiet_step ((first | with_reducible exact q3 _ _ | with_reducible exact q4 _ _ | with_reducible exact q5 _ _)))
      refine wpQuiet_nil ?_
      intro _ hw'
      obtain ⟨⟨dz, osz⟩, hw''⟩ := hw'
      subst hw''
      have hBz := hBR dz osz
      clear r6 r7 q3 q4 q5 hBR
      go_wp2_with fail
      go_ret
      exact ⟨rfl, hBz⟩
    · have hs : ¬ 100 < sz := fun h => hgo (.inl h)
      have hrt : rt = true := by
        cases rt
        · exact absurd (.inr rfl) hgo
        · rfl
      subst hrt
      have hv1 : (decide (100 < sz) || !true) = false := by simp; omega
      rw [hv1] at hv
      subst hv
      have HFW : Hid (FewN n) := few_of (by rw [HSZE.out]; omega)
      have hwn : wtN n ≤ 2200000 := by
        rcases HWT.out with h | h
        · exact h
        · omega
      have hfm := x_fm HOK.out 64 HRTE.out
      have hdp : dpN (xN n) ≤ 64 := by
        have h := dp_rt n 64 HRTE.out
        have e : dpN (xN n) = dpN n := x_dp n
        omega
      have HXF := Lib.hid hfm
      have HXD := Lib.hid hdp
      have HXR : Hid (rtN (xN n) 64 = true) := rt_fm hfm 64 (by omega)
      have HXO : Hid (OkN (xN n)) := x_ok HOK.out
      have HXW : Hid (FewN (xN n)) := by
        obtain ⟨m, h1, h2⟩ := HFW.out
        exact ⟨m, h1, by have e : szN (xN n) m = szN n m := x_sz n m
                         rw [e]; exact h2⟩
      have HXT : Hid (wtN (xN n) ≤ 2200000) := Nat.le_trans (x_wt n) hwn
      have HPL := Lib.hid (fun W (hW : Below w.heap.size w W) => pl_any d n p len cap W (HN.out W hW) HOK.out HFW.out)
      clear hgo hs hv1 hwn hfm hdp HWT HRTE HSZE HPN HRT HC1
      obtain ⟨c0, c1, c2, c3, c4, c5⟩ := HA1.out.cells
      have HPL1 := Lib.hid (HPL.out w1 HB1.out)
      rw [ndA_c6] at HPL1
      clear HPL HA1
      go_wp2_with fail
      refine HPL1.out.mono ?_
      rintro e w2 ⟨⟨p1, cap1, rfl, hk1⟩, hb2⟩
      have HB2 : Hid (Below w.heap.size w w2) := bel_call hb2 HB1.out HB1.out.size
      have HPC1 := Lib.hid (pc_any d (plN n) p1 len cap1 w2 (hk1.rdT (fun b h => h.2)) (pl_ok HOK.out) (pl_few HFW.out))
      rw [show pcN (plN n) = xN n from rfl] at HPC1
      generalize plN n = m at HPC1
      rw [ndA_c6] at HPC1
      rw [ndA_c6]
      clear hk1 hb2 c0 c1 c2 c3 c4 c5 HPL1 HB1 HN HOK HFW
      go_wp2_with fail
      refine HPC1.out.mono ?_
      rintro e w3 ⟨⟨p2, cap2, rfl, hk2⟩, hb3⟩
      have HB3 : Hid (Below w.heap.size w w3) := bel_call hb3 HB2.out HB2.out.size
      have HK3 : Hid (RdT w3 w3.heap.size d (xN n) p2 len) := hk2.rdT (fun b h => h.2)
      clear hk2 hb3 HPC1 HB2
      generalize xN n = x at *
      rw [ndA_c6]
      go_upto_region 4 with fail
      have e1 : w3.alloc (.cells #[.int .i64 x.kind, .int .i64 x.num, .string ⟨x.text.toArray⟩, .int .i64 x.frm, .int .i64 x.tor, .slice p2 len cap2] tRn) = w3.alloc (.cells (ndA x p2 len cap2) tRn) := rfl
      rw [e1]
      clear e1
      have HX4 : Hid (NdB tRn (w3.alloc (.cells (ndA x p2 len cap2) tRn)) w3.heap.size x p2 len cap2) := heap_alloc_new w3 _
      have hb4 : Below w3.heap.size w3 (w3.alloc (.cells (ndA x p2 len cap2) tRn)) := (Below.refl _ _).alloc (Nat.le_refl _) _
      have HB4 : Hid (Below w.heap.size w (w3.alloc (.cells (ndA x p2 len cap2) tRn))) := bel_call hb4 HB3.out HB3.out.size
      have HK4 : Hid (RdT (w3.alloc (.cells (ndA x p2 len cap2) tRn)) w3.heap.size d x p2 len) := HK3.out.below hb4
      have hz4 := hb4.size
      clear hb4 HK3 HB3
      generalize w3.alloc (.cells (ndA x p2 len cap2) tRn) = w4 at HX4 HB4 HK4 hz4 ⊢
      generalize w3.heap.size = B at HX4 HK4 hz4 ⊢
      have HKB := Lib.hid (fun W (hW : Below w4.heap.size w4 W) => (HK4.out.below (hW.mono hz4)).mono (Nat.le_trans hz4 hW.size))
      have HTO := Lib.hid (fun W (hW : Below w4.heap.size w4 W) => tom_any d x p2 len cap2 W (HKB.out W hW) HXO.out HXW.out)
      have HRX := Lib.hid (fun W (hW : Below w4.heap.size w4 W) => rtext10_any x d p2 len cap2 64 W (HKB.out W hW) HXO.out HXW.out HXR.out HXT.out)
      have HPX := Lib.hid (fun q cq W (h : Cel.RdT W W.heap.size d x q len) (hs : W.ShapedOpen Tryz.prog) => ptext_any x d q len cq 64 W h HXO.out HXR.out hs HXT.out)
      have HSA := Lib.hid (fun q1 c1 d2 q2 c2 l2 W (h1 : Cel.RdT W W.heap.size d2 x q1 l2) (h2 : Cel.RdT W W.heap.size d x q2 len) => Cel.same1_any d2 d x q1 q2 l2 c1 len c2 W h1 h2 HXW.out)
      have HFO := Lib.hid (fun (hl : (prN nmS x 1).length ≤ 256) W (hs : W.ShapedOpen Tryz.prog) => formula_ok x HXF.out HXD.out HXO.out ⟨(prN nmS x 1).toArray⟩ (by simp) (by rw [Lib.size_eq]; simpa using hl) W hs)
      clear HK4
      generalize prN nmS x 1 = t at HRX HPX HFO
      obtain ⟨c0, c1, c2, c3, c4, c5⟩ := HX4.out.cells
      have HT1 := Lib.hid (HTO.out w4 (Below.refl _ _))
      rw [ndA_c6] at HT1
      go_wp2_with fail
      refine HT1.out.mono ?_
      rintro e w5 ⟨⟨q1, cq1, rfl, hk5⟩, hb5⟩
      have HB5 : Hid (Below w4.heap.size w4 w5) := hb5
      have HP5 := Lib.hid (HPX.out q1 cq1 w5 (hk5.rdT (fun b h => h.2)) (HSH.out w5 (bel_call hb5 HB4.out HB4.out.size)))
      rw [ndA_c8] at HP5
      rw [ndA_c8]
      clear hk5 hb5 HT1 c0 c1 c2 c3 c4 c5
      go_wp2_with fail
      refine HP5.out.mono ?_
      rintro e w6 ⟨rfl, hb6⟩
      have HB6 : Hid (Below w4.heap.size w4 w6) := bel_call hb6 HB5.out HB5.out.size
      have HX6 := Lib.hid (HX4.out.below HB6.out)
      have HBW6 : Hid (Below w.heap.size w w6) := bel_call HB6.out HB4.out HB4.out.size
      clear hb6 HP5 HB5
      have hts : (⟨t.toArray⟩ : ByteArray).size = t.length := by rw [Lib.size_eq]
      by_cases hlong : 256 < t.length
      · have hl : (256 : Int) < (((⟨t.toArray⟩ : ByteArray).size : Nat) : Int) := by rw [hts]; omega
        clear HFO HSA HPX HTO
        obtain ⟨c0, c1, c2, c3, c4, c5⟩ := HX6.out.cells
        have HR6 := Lib.hid (HRX.out w6 HB6.out)
        rw [ndA_c6] at HR6
        have hl2 : (256 : Int) < (t.length : Int) := by omega
        clear hts
        go_wp2_with fail
        refine HR6.out.mono ?_
        rintro e w7 ⟨rfl, hb7⟩
        have HBW7 : Hid (Below w.heap.size w w7) := bel_call hb7 HBW6.out HBW6.out.size
        clear hb7 HR6 c0 c1 c2 c3 c4 c5 HX6
        go_wp2_with fail
        refine (HAW.out w7 HBW7.out).mono ?_
        rintro e w8 ⟨rfl, hb8⟩
        have HBW8 : Hid (Below w.heap.size w w8) := bel_call hb8 HBW7.out HBW7.out.size
        clear hb8
        go_wp2_with fail
        go_ret
        exact ⟨rfl, HBW8.out⟩
      · have hl : ¬ (256 : Int) < (((⟨t.toArray⟩ : ByteArray).size : Nat) : Int) := by rw [hts]; omega
        have HF6 := Lib.hid (HFO.out (by omega) w6 (HSH.out w6 HBW6.out))
        have hl2 : ¬ (256 : Int) < (t.length : Int) := by omega
        clear hts HFO HPX
        go_wp2_with fail
        refine HF6.out.mono ?_
        rintro e w7 ⟨⟨q2, cq2, rfl, hk7⟩, hb7⟩
        have HB7 : Hid (Below w4.heap.size w4 w7) := bel_call hb7 HB6.out HB6.out.size
        obtain ⟨l2, hl2⟩ : ∃ l2, x.args.length = l2 := ⟨_, rfl⟩
        rw [hl2] at hk7 ⊢
        have HK7 : Hid (Cel.RdT w7 w7.heap.size (dpN x) x q2 l2) := (hk7 (dpN x) (by omega)).rdT (fun b h => h.2)
        rw [ndA_c8]
        clear hk7 hb7 HF6 HB6 HX6 HBW6 hl2
        go_upto_region 8 with fail
        have e8 : w7.alloc (.cells #[.int .i64 x.kind, .int .i64 x.num, .string ⟨x.text.toArray⟩, .int .i64 (cC x.frm), .int .i64 (cR x.frm), .int .i64 (cC x.tor), .int .i64 (cR x.tor), .slice q2 l2 cq2] Cel.tPn) = w7.alloc (.cells (Cel.ndA x q2 l2 cq2) Cel.tPn) := rfl
        rw [e8]
        clear e8
        have HY8 : Hid (Cel.NdB Cel.tPn (w7.alloc (.cells (Cel.ndA x q2 l2 cq2) Cel.tPn)) w7.heap.size x q2 l2 cq2) := heap_alloc_new w7 _
        have hb8 : Below w7.heap.size w7 (w7.alloc (.cells (Cel.ndA x q2 l2 cq2) Cel.tPn)) := (Below.refl _ _).alloc (Nat.le_refl _) _
        have HB8 : Hid (Below w4.heap.size w4 (w7.alloc (.cells (Cel.ndA x q2 l2 cq2) Cel.tPn))) := bel_call hb8 HB7.out HB7.out.size
        have HK8 : Hid (Cel.RdT (w7.alloc (.cells (Cel.ndA x q2 l2 cq2) Cel.tPn)) w7.heap.size (dpN x) x q2 l2) := HK7.out.below hb8
        have hz8 := hb8.size
        clear hb8 HK7 HB7
        generalize w7.alloc (.cells (Cel.ndA x q2 l2 cq2) Cel.tPn) = w8 at HY8 HB8 HK8 hz8 ⊢
        generalize w7.heap.size = G at HY8 HK8 hz8 ⊢
        have HX8 := Lib.hid (HX4.out.below HB8.out)
        obtain ⟨c0, c1, c2, c3, c4, c5⟩ := HX8.out.cells
        obtain ⟨y0, y1, y2, y3, yd3, y4, yd4, y5⟩ := HY8.out.cells
        have R0 := Kept.at c0
        have R1 := Kept.at c1
        have R2 := Kept.at c2
        have R3 := Kept.at c3
        have R4 := Kept.at c4
        have R5 := Kept.at c5
        have S0 := Kept.at y0
        have S1 := Kept.at y1
        have S2 := Kept.at y2
        have S3 := Kept.at y3
        have Sd3 := Kept.at yd3
        have S4 := Kept.at y4
        have Sd4 := Kept.at yd4
        have S5 := Kept.at y5
        clear c0 c1 c2 c3 c4 c5 y0 y1 y2 y3 yd3 y4 yd4 y5
        refine wp_region_sched (fun wx => ∃ x : Kept w8.heap.size w8, wx = x.v) [([0, 1], 2), ([3, 4, 5, 6, 7, 8, 9, 10], 11), ([], 12), ([13, 14], 15)] [16, 17] (by kernel_rfl) (by kernel_rfl) (by kernel_rfl) rfl (kept_drew _ _ (Nat.le_refl _)) ?_
        have kb0 : Hid (Below w8.heap.size w8 w8.drew) := Below.drew (Below.refl _ _)
        (unfold wpSeg; simp only [pick_nil, pick_cons, nthO_zero, nthO_succ, List.append])
        repeat (go_big_quiet_step (fail))
        refine wpQuiet_nil ?_
        have hc1 := Lib.hid (HRX.out w8.drew (bel_call kb0.out HB8.out HB8.out.size))
        simp only [ndA_c6] at hc1
        go_wp2_with fail
        refine hc1.out.mono ?_
        rintro e x1 ⟨rfl, hb⟩
        have kb1 : Hid (Below w8.heap.size w8 x1) := bel_call hb kb0.out kb0.out.size
        clear hb hc1
        go_wp2_with fail
        refine ⟨rfl, ⟨⟨x1, kb1.out⟩, rfl⟩, ?_⟩
        (unfold wpSeg; simp only [pick_nil, pick_cons, nthO_zero, nthO_succ, List.append])
        repeat (go_big_quiet_step (fail))
        refine wpQuiet_nil ?_
        have hc2 := Lib.hid (HTO.out x1 (bel_call kb1.out HB8.out HB8.out.size))
        simp only [ndA_c6] at hc2
        go_wp2_with fail
        refine hc2.out.mono ?_
        rintro e x2 ⟨⟨q3, cq3, rfl, hk⟩, hb⟩
        have kb2 : Hid (Below w8.heap.size w8 x2) := bel_call hb kb1.out kb1.out.size
        have hc3 := Lib.hid (HSA.out q2 cq2 (dpN x) q3 cq3 l2 x2 ((HK8.out.below (kb2.out.mono hz8)).mono (Nat.le_trans hz8 kb2.out.size)) (hk.rdT (fun b h => h.2)))
        rw [ndA_c8] at hc3
        rw [ndA_c8 x q3] at hc3
        rw [ndA_c8]
        clear hb hc2 hk
        go_wp2_with fail
        refine ⟨rfl, ⟨⟨x2, kb2.out⟩, rfl⟩, ?_⟩
        (unfold wpSeg; simp only [pick_nil, pick_cons, nthO_zero, nthO_succ, List.append])
        repeat (go_big_quiet_step (fail))
        refine wpQuiet_nil ?_
        go_wp2_with fail
        refine hc3.out.mono ?_
        rintro e x3 ⟨rfl, hb⟩
        have kb3 : Hid (Below w8.heap.size w8 x3) := bel_call hb kb2.out kb2.out.size
        clear hb hc3
        go_wp2_with fail
        refine ⟨rfl, ⟨⟨x3, kb3.out⟩, rfl⟩, ?_⟩
        (unfold wpSeg; simp only [pick_nil, pick_cons, nthO_zero, nthO_succ, List.append])
        repeat (go_big_quiet_step (fail))
        refine wpQuiet_nil ?_
        have hbx : Hid (Below w.heap.size w x3) := bel_call kb3.out (bel_call HB8.out HB4.out HB4.out.size) (by have h1 := HB8.out.size; have h2 := HB4.out.size; omega)
        have hc5 := Lib.hid (HAW.out x3 hbx.out)
        go_wp2_with fail
        refine hc5.out.mono ?_
        rintro e x5 ⟨rfl, hb⟩
        have kb5 : Hid (Below w8.heap.size w8 x5) := bel_call hb kb3.out kb3.out.size
        have hb6 : Hid (Below w.heap.size w x5) := bel_call hb hbx.out hbx.out.size
        clear hb hc5
        go_wp2_with fail
        refine ⟨rfl, ⟨⟨x5, kb5.out⟩, rfl⟩, ?_⟩
        (unfold wpSeg; simp only [pick_nil, pick_cons, nthO_zero, nthO_succ, List.append])
        repeat (go_big_quiet_step (fail))
        refine wpQuiet_nil ?_
        go_wp2_with fail
        go_ret
        exact ⟨rfl, hb6.out⟩
end Go.Proofs.YtigmcoelkkihkaaGreatDoor
