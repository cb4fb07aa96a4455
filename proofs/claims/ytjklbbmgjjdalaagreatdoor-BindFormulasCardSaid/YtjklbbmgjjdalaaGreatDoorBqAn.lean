/- The law's 'cells': the document's trees as the program's. Printed by gen_bfu.py. -/
import Derived.Test.YtjklbbmgjjdalaaGreatDoorBqR
import Derived.Test.YtjklbbmgjjdalaaGreatDoorBqV
import Derived.Test.YtjklbbmgjjdalaaGreatDoorBqI
import Derived.Test.YtjklbbmgjjdalaaGreatDoorBqY
import Derived.Test.YtjklbbmgjjdalaaGreatDoorBqP
set_option linter.unusedSimpArgs false
set_option linter.unusedVariables false
namespace Go.Proofs.YtjklbbmgjjdalaaGreatDoor
open Go.RowKit Go.Joins
def okMcls (base : Nat) (w : World) (v : Value) (k : Nat) : Prop := base ≤ k ∧ k < w.heap.size ∧ v.ownBlock ≠ some k
theorem kidsMcls {base G d' l' c2 : Nat} {wr w3 w5 : World} {o : Obj} {v v' u : Value} {acc : List Cel.Kid} {c : Nd} {p2 : Option Addr} (hG : G < base) (hbs : base ≤ wr.heap.size) (hb : Below wr.heap.size wr w3) (hg : (w3.alloc o).grownBy w5 v.ownBlock)
    (hat : v'.ownBlock = v.ownBlock ∨ v'.ownBlock = some (w3.alloc o).heap.size) (hlt : ∀ b, v.ownBlock = some b → b < wr.heap.size) (hk : ∀ x ∈ acc, Cel.RdP wr (okMcls base wr v) d' x.1 x.2.1 x.2.2.1)
    (hn : Cel.RdP w3 (fun b => wr.heap.size ≤ b ∧ b < w3.heap.size) d' c p2 l') :
    ∀ x ∈ acc ++ [(c, p2, l', c2)], Cel.RdP (w5.setCell ⟨G, 7, none⟩ u) (okMcls base (w5.setCell ⟨G, 7, none⟩ u) v') d' x.1 x.2.1 x.2.2.1 := by
  have hs := hb.size
  have hs2 := hg.size
  rw [World.size_alloc] at hs2 hat
  have hblk : ∀ b, G ≠ b → b < w3.heap.size → v.ownBlock ≠ some b → (w5.setCell ⟨G, 7, none⟩ u).heap[b]? = w3.heap[b]? := fun b h1 h2 h3 => by
    rw [heap_setCell_other _ _ _ _ (fun e => h1 e.symm), hg.block b (by rw [World.size_alloc]; omega) (fun e => h3 e.symm), heap_alloc_old _ _ h2]
  intro x hx
  rcases List.mem_append.1 hx with hx | hx
  · refine Cel.RdP.carry (fun b hb' => ?_) (hk x hx)
    obtain ⟨h1, h2, h3⟩ := hb'
    refine ⟨⟨h1, by rw [World.size_setCell]; omega, ?_⟩, ?_⟩
    · rcases hat with e | e
      · rw [e]; exact h3
      · rw [e]; intro e'; have := Option.some.inj e'; omega
    · rw [hblk b (by omega) (by omega) h3, hb.block b h2]
  · obtain rfl := List.mem_singleton.1 hx
    refine Cel.RdP.carry (fun b hb' => ?_) hn
    obtain ⟨h1, h2⟩ := hb'
    have h3 : v.ownBlock ≠ some b := fun e => by have := hlt b e; omega
    refine ⟨⟨by omega, by rw [World.size_setCell]; omega, ?_⟩, ?_⟩
    · rcases hat with e | e
      · rw [e]; exact h3
      · rw [e]; intro e'; have := Option.some.inj e'; omega
    · exact hblk b (by omega) h2 h3
theorem three_hc (w : World) (a b c : Obj) : (((w.alloc a).alloc b).alloc c).heap[w.heap.size]? = some a ∧ (((w.alloc a).alloc b).alloc c).heap[w.heap.size + 1]? = some b ∧ (((w.alloc a).alloc b).alloc c).heap[w.heap.size + 2]? = some c := by
  refine ⟨?_, ?_, ?_⟩ <;> simp only [World.alloc, Array.getElem?_push, Array.size_push] <;> (repeat (first | rfl | (rw [if_neg (by omega)]) | (rw [if_pos (by omega)])))
theorem three_bc {w : World} (a b c : Obj) : Below w.heap.size w (((w.alloc a).alloc b).alloc c) := by
  (repeat' (first | (with_reducible exact Below.refl _ _) | (with_reducible assumption) | (with_reducible refine Below.alloc ?_ ?_ _) | (with_reducible refine bel_drewN ?_ _) | (with_reducible refine Below.drew ?_) | (with_reducible refine Below.setCell ?_ ?_ _) | (with_reducible refine bel_call ‹_› ?_ ?_) | go_size))
def clsC (d : Nat) : Prop := ∀ (n : Nd) (p : Option Addr) (len cap : Nat) (w : World), RdT w w.heap.size d n p len → OkN n → FewN n → Calls Tryz.prog 9 #[.agg (ndA n p len cap)] w fun e w' => (∃ p' cap', e = .returned (.agg (Cel.ndA n p' len cap')) ∧ Cel.RdP w' (fun b => w.heap.size ≤ b ∧ b < w'.heap.size) d n p' len) ∧ Below w.heap.size w w'
set_option maxRecDepth 100000 in
set_option maxHeartbeats 16000000 in
theorem cls_s (d : Nat) (IH : ∀ d', d = d' + 1 → clsC d') : clsC d := by
  intro n p len cap w hrd hok hfew
  have HRD := Lib.hid hrd
  have HIH := Lib.hid IH
  have hlen := hfew.len
  rw [hrd.len] at hlen
  have HAL := Lib.hid hrd.len
  have HOK := Lib.hid (fun c hc => OkN.child (c := c) hok hc)
  have HFW := Lib.hid (fun c hc => FewN.child (c := c) hfew hc)
  have hofr := hok.frm
  have hoto := hok.tor
  obtain ⟨d1, d2, d3, d4⟩ := cC_in hofr.1 hofr.2
  obtain ⟨d5, d6, d7, d8⟩ := cC_in hoto.1 hoto.2
  obtain ⟨c1, hc1⟩ : ∃ c, cC n.frm = c := ⟨_, rfl⟩
  obtain ⟨r1, hr1⟩ : ∃ c, cR n.frm = c := ⟨_, rfl⟩
  obtain ⟨c2, hc2⟩ : ∃ c, cC n.tor = c := ⟨_, rfl⟩
  obtain ⟨r2, hr2⟩ : ∃ c, cR n.tor = c := ⟨_, rfl⟩
  have HE : Hid (Cel.ndA n none 0 0 = #[.int .i64 n.kind, .int .i64 n.num, .string ⟨n.text.toArray⟩, .int .i64 c1, .int .i64 r1, .int .i64 c2, .int .i64 r2, .slice none 0 0]) := by unfold Hid; rw [← hc1, ← hr1, ← hc2, ← hr2]; rfl
  rw [hc1] at d1 d2
  rw [hr1] at d3 d4
  rw [hc2] at d5 d6
  rw [hr2] at d7 d8
  have g1 : Int.tdiv n.frm 10000 = c1 := hc1
  have g2 : Int.tmod n.frm 10000 = r1 := hr1
  have g3 : Int.tdiv n.tor 10000 = c2 := hc2
  have g4 : Int.tmod n.tor 10000 = r2 := hr2
  have g5 : IntKind.i64.wrap c1 = c1 := IntWalk.i64_in _ (by omega)
  have g6 : IntKind.i64.wrap r1 = r1 := IntWalk.i64_in _ (by omega)
  have g7 : IntKind.i64.wrap c2 = c2 := IntWalk.i64_in _ (by omega)
  have g8 : IntKind.i64.wrap r2 = r2 := IntWalk.i64_in _ (by omega)
  rw [ndA_eq]
  clear hrd IH hok hfew hofr hoto d1 d2 d3 d4 d5 d6 d7 d8 hc1 hr1 hc2 hr2
  go_enter Tryz.func9, Tryz.ntmps9
  go_upto_region 2 with fail
  have e0 : ((w.alloc (.cells #[.int .i64 n.kind, .int .i64 n.num, .string ⟨n.text.toArray⟩, .int .i64 n.frm, .int .i64 n.tor, .slice p len cap] tRn)).alloc (.cells #[.int .i64 0, .int .i64 0, .string ⟨#[]⟩, .int .i64 0, .int .i64 0, .int .i64 0, .int .i64 0, .slice none 0 0] Cel.tPn)).alloc (.cells #[.int .i64 n.kind, .int .i64 n.num, .string ⟨n.text.toArray⟩, .int .i64 c1, .int .i64 r1, .int .i64 c2, .int .i64 r2, .slice none 0 0] Cel.tPn) = ((w.alloc (.cells (ndA n p len cap) tRn)).alloc (.cells (Cel.ndA nodeZ none 0 0) Cel.tPn)).alloc (.cells #[.int .i64 n.kind, .int .i64 n.num, .string ⟨n.text.toArray⟩, .int .i64 c1, .int .i64 r1, .int .i64 c2, .int .i64 r2, .slice none 0 0] Cel.tPn) := rfl
  rw [e0]
  clear e0
  have HN3 : Hid (NdB tRn (((w.alloc (.cells (ndA n p len cap) tRn)).alloc (.cells (Cel.ndA nodeZ none 0 0) Cel.tPn)).alloc (.cells #[.int .i64 n.kind, .int .i64 n.num, .string ⟨n.text.toArray⟩, .int .i64 c1, .int .i64 r1, .int .i64 c2, .int .i64 r2, .slice none 0 0] Cel.tPn)) w.heap.size n p len cap) := (three_hc w _ _ _).1
  have HZ3 : Hid (BlkC (((w.alloc (.cells (ndA n p len cap) tRn)).alloc (.cells (Cel.ndA nodeZ none 0 0) Cel.tPn)).alloc (.cells #[.int .i64 n.kind, .int .i64 n.num, .string ⟨n.text.toArray⟩, .int .i64 c1, .int .i64 r1, .int .i64 c2, .int .i64 r2, .slice none 0 0] Cel.tPn)) (w.heap.size + 1) (Cel.ndA nodeZ none 0 0) Cel.tPn) := (three_hc w _ _ _).2.1
  have HL3 : Hid (BlkC (((w.alloc (.cells (ndA n p len cap) tRn)).alloc (.cells (Cel.ndA nodeZ none 0 0) Cel.tPn)).alloc (.cells #[.int .i64 n.kind, .int .i64 n.num, .string ⟨n.text.toArray⟩, .int .i64 c1, .int .i64 r1, .int .i64 c2, .int .i64 r2, .slice none 0 0] Cel.tPn)) (w.heap.size + 2) (Cel.ndA n none 0 0) Cel.tPn) := by unfold Hid; rw [HE.out]; exact (three_hc w _ _ _).2.2
  have HB3 : Hid (Below w.heap.size w (((w.alloc (.cells (ndA n p len cap) tRn)).alloc (.cells (Cel.ndA nodeZ none 0 0) Cel.tPn)).alloc (.cells #[.int .i64 n.kind, .int .i64 n.num, .string ⟨n.text.toArray⟩, .int .i64 c1, .int .i64 r1, .int .i64 c2, .int .i64 r2, .slice none 0 0] Cel.tPn))) := three_bc _ _ _
  generalize ((w.alloc (.cells (ndA n p len cap) tRn)).alloc (.cells (Cel.ndA nodeZ none 0 0) Cel.tPn)).alloc (.cells #[.int .i64 n.kind, .int .i64 n.num, .string ⟨n.text.toArray⟩, .int .i64 c1, .int .i64 r1, .int .i64 c2, .int .i64 r2, .slice none 0 0] Cel.tPn) = w3 at HN3 HZ3 HL3 HB3 ⊢
  have hLb : w.heap.size + 2 < w3.heap.size := lt_some HL3.out
  have hLH : w.heap.size + 1 < w.heap.size + 2 := by omega
  have hH1 : w.heap.size + 1 < w3.heap.size := by omega
  obtain ⟨L, hLe⟩ : ∃ L, w.heap.size + 2 = L := ⟨_, rfl⟩
  rw [hLe] at HL3 hLb hLH ⊢
  clear hLe HE g1 g2 g3 g4 g5 g6 g7 g8
  obtain ⟨base, hbase⟩ : ∃ base, w3.heap.size = base := ⟨_, rfl⟩
  have HB0 := Lib.hid hbase
  rw [hbase] at hLb hH1
  clear hbase
  obtain ⟨i0, hi, hz0, hz1, hz2⟩ := info_of Cel.info_nd
  go_wp2_with fail
  go_loopg [4] len (fun g v wr => ∃ (i : Nat) (acc : List Cel.Kid) (q : Option Addr) (cp : Nat), i + g = len ∧ v = .int .i64 i ∧ acc.map Prod.fst = n.args.take i ∧ NdB tRn wr w.heap.size n p len cap ∧ BlkC wr (w.heap.size + 1) (Cel.ndA nodeZ none 0 0) Cel.tPn ∧ BlkC wr L (Cel.ndA n q i cp) Cel.tPn ∧ wr.ownsRow base Cel.tPn 8 (.slice q i cp) i (acc.flatMap Cel.kidC) ∧ (∀ d', d = d' + 1 → ∀ x ∈ acc, Cel.RdP wr (okMcls base wr (.slice q i cp)) d' x.1 x.2.1 x.2.2.1) ∧ Below w.heap.size w wr ∧ base ≤ wr.heap.size)
  case atStart => exact ⟨0, [], none, 0, by omega, rfl, rfl, HN3.out, HZ3.out, HL3.out, World.ownsRow_nil _ _ _ _, fun _ _ x hx => (by cases hx), HB3.out, by rw [HB0.out]; exact Nat.le_refl _⟩
  case round =>
    obtain ⟨i, acc, q, cp, hig, rfl, hacc, hn1, hn0, hn2, hown, hkid, hbel, hbs⟩ := hrel
    have HAC := Lib.hid hacc
    have HN1 := Lib.hid hn1
    have HN0 := Lib.hid hn0
    have HN2 := Lib.hid hn2
    have HOW := Lib.hid hown
    have HKD := Lib.hid hkid
    have HBL := Lib.hid hbel
    have hzr := hbel.size
    clear hacc hn1 hn0 hn2 hown hkid hbel HN3 HZ3 HL3 HB3 HB0
    obtain ⟨a0, a1, a2, a3, a4, a5⟩ := HN1.out.cells
    have b5 : wr.cell? ⟨L, 7, none⟩ = some (.slice q i cp) := HN2.out.cell 7 _ rfl
    by_cases hlt : i < len
    · have hli : (i : Int) < (len : Int) := by omega
      obtain ⟨d', b, off, c, p', l', c', hd, rfl, hbN, hc, hrc, q0, q1, q2, q3, q4, q5⟩ := (HRD.out.below HBL.out).at hlt
      have HC : Hid (clsC d') := HIH.out d' hd
      have HCO := Lib.hid (HOK.out c (mem_at hc))
      have HCF := Lib.hid (HFW.out c (mem_at hc))
      have A5 := Kept.cell (N := base) a5 (by omega)
      have B5 := Kept.cell (N := base) b5 (by omega)
      have Q0 := Kept.cell (N := base) q0 (by omega)
      have Q1 := Kept.cell (N := base) q1 (by omega)
      have Q2 := Kept.cell (N := base) q2 (by omega)
      have Q3 := Kept.cell (N := base) q3 (by omega)
      have Q4 := Kept.cell (N := base) q4 (by omega)
      have Q5 := Kept.cell (N := base) q5 (by omega)
      go_upto_region 5 with fail
      refine wp_region_schedT (fun wx => ∃ x : Kept base wr, wx = x.v) 11 [([0,1,2,3,4,5,6],7),([],8),([],9)] [10] (by kernel_rfl) (by kernel_rfl) (by kernel_rfl) (by kernel_rfl) (kept_drew _ _ (by omega)) ?_
      (unfold wpSegK; simp only [pick_nil, pick_cons, nthO_zero, nthO_succ, List.append])
      clear a0 a1 a2 a3 a4 a5 b5 q0 q1 q2 q3 q4 q5
      repeat (go_big_quiet_step (fail))
      refine wpQuiet_nil ?_
      have HRC := Lib.hid hrc
      have HHC := Lib.hid hc
      have HHD := Lib.hid hd
      clear hrc hc hd
      have HCC := Lib.hid (HC.out c p' l' c' wr.drew ((HRC.out.below (Below.drew (Below.refl _ _))).mono hzr) HCO.out HCF.out)
      rw [ndA_eq c p' l' c'] at HCC
      go_wp2_with fail
      refine HCC.out.mono ?_
      rintro e w3 ⟨⟨p2, c2, rfl, hk3⟩, hb3⟩
      have hb4 : Hid (Below wr.heap.size wr w3) := bel_call hb3 (Below.drew (Below.refl _ _)) (Nat.le_refl _)
      have HK3 := Lib.hid hk3
      rw [show Value.agg (Cel.ndA c p2 l' c2) = .agg #[.int .i64 c.kind, .int .i64 c.num, .string ⟨c.text.toArray⟩, .int .i64 (cC c.frm), .int .i64 (cR c.frm), .int .i64 (cC c.tor), .int .i64 (cR c.tor), .slice p2 l' c2] from rfl]
      clear HCC hk3 hb3
      go_wp2_with fail
      have hB3 : Hid (Below base wr w3) := hb4.out.mono (by omega)
      refine ⟨rfl, ⟨⟨w3, hB3.out⟩, rfl⟩, ?_⟩
      (unfold wpSegK; simp only [pick_nil, pick_cons, nthO_zero, nthO_succ, List.append])
      refine wpQuiet_nil ?_
      go_wp2_with fail
      have e4 : w3.alloc (.cells #[.int .i64 c.kind, .int .i64 c.num, .string ⟨c.text.toArray⟩, .int .i64 (cC c.frm), .int .i64 (cR c.frm), .int .i64 (cC c.tor), .int .i64 (cR c.tor), .slice p2 l' c2] Cel.tPn) = w3.alloc (.cells (Cel.ndA c p2 l' c2) Cel.tPn) := rfl
      rw [e4]
      clear e4
      refine ⟨rfl, ⟨⟨_, hB3.out.alloc (by have := hb4.out.size; omega) _⟩, rfl⟩, ?_⟩
      (unfold wpSegK; simp only [pick_nil, pick_cons, nthO_zero, nthO_succ, List.append])
      refine wpQuiet_nil ?_
      have HRW := Lib.hid (row_below HOW.out hb4.out)
      refine wpList_append_own_at _ rfl _ _ _ rfl base Cel.tPn i0 _ 8 88 Tryz.underlying46 hi hz0 hz1 hz2 rfl (by decide) _ _ _ rfl (HRW.out.alloc _) ⟨w3.heap.size, 0, none⟩ 1 1 (Cel.ndC c p2 l' c2) rfl rfl (Cel.newNd w3 c p2 l' c2) ?c2 ?c3 ?c4 ?c5 ?_
      case c2 => exact Cel.kidC_one (c, p2, l', c2)
      case c3 => unfold maxLen; omega
      case c4 => omega
      case c5 => rw [World.size_alloc]; have := hb4.out.size; omega
      intro v' w5 hown5 hgrow5 _ hat5
      have hB5 : Hid (Below base wr w5) := (hB3.out.alloc (by have := hb4.out.size; omega) _).grown hgrow5 (by rw [World.size_alloc]; have := hb4.out.size; omega) (fun k hk => (HRW.out.lt k hk).1)
      have HOW5 : Hid (w5.ownsRow base Cel.tPn 8 v' (i + 1) ((acc ++ [(c, p2, l', c2)]).flatMap Cel.kidC)) := by
        unfold Hid
        rw [flat_snoc]
        exact hown5
      have hla : acc.length = i := by
        have h := congrArg List.length HAC.out
        simp only [List.length_map, List.length_take] at h
        rw [HAL.out] at h
        omega
      obtain ⟨q5, cp5, hv5, _, _, _, _⟩ := RdG.of_own Cel.kidC_len (by rw [List.length_append, List.length_singleton, hla]) HOW5.out
      subst hv5
      have HN5 : Hid (BlkC w5 L (Cel.ndA n q i cp) Cel.tPn) := (hB5.out.block _ hLb).trans HN2.out
      have HKN := Lib.hid (kidsMcls (G := L) (u := .slice q5 (i + 1) cp5) (c2 := c2) hLb hbs hb4.out hgrow5 hat5 (fun b e => (HOW.out.lt b e).2) (HKD.out d' HHD.out) HK3.out)
      have hs5 := hB5.out.size
      clear hown5 hgrow5 hat5 HRW HK3 HKD HCF HCO HC HIH HOK HFW A5 B5 Q0 Q1 Q2 Q3 Q4 Q5
      have e5 : w5.cell? ⟨L, 7, none⟩ = some (.slice q i cp) := HN5.out.cell 7 _ rfl
      have g5 := HN5.out.fz 7
      go_wp2_with fail
      refine ⟨rfl, ⟨⟨w5, hB5.out⟩, rfl⟩, ?_⟩
      (unfold wpSegK; simp only [pick_nil, pick_cons, nthO_zero, nthO_succ, List.append])
      repeat (go_big_quiet_step (fail))
      refine wpQuiet_nil ?_
      go_wp2_with fail
      refine ⟨rfl, ?_⟩
      have HP6 : Hid (BlkC (w5.setCell ⟨L, 7, none⟩ (.slice q5 (i + 1) cp5)) L (Cel.ndA n q5 (i + 1) cp5) Cel.tPn) := block_setCell HN5.out _
      have HR6 : Hid (NdB tRn (w5.setCell ⟨L, 7, none⟩ (.slice q5 (i + 1) cp5)) w.heap.size n (some ⟨b, off, none⟩) len cap) := by
        unfold Hid NdB
        rw [heap_setCell_other _ _ _ _ (by show w.heap.size ≠ L; omega), hB5.out.block _ (by omega)]
        exact HN1.out
      have HZ6 : Hid (BlkC (w5.setCell ⟨L, 7, none⟩ (.slice q5 (i + 1) cp5)) (w.heap.size + 1) (Cel.ndA nodeZ none 0 0) Cel.tPn) := by
        unfold Hid BlkC
        rw [heap_setCell_other _ _ _ _ (by show w.heap.size + 1 ≠ L; omega), hB5.out.block _ (by omega)]
        exact HN0.out
      have HW6 : Hid ((w5.setCell ⟨L, 7, none⟩ (.slice q5 (i + 1) cp5)).ownsRow base Cel.tPn 8 (.slice q5 (i + 1) cp5) (i + 1) ((acc ++ [(c, p2, l', c2)]).flatMap Cel.kidC)) :=
        row_carry HOW5.out (fun b hb => heap_setCell_other _ _ _ _ (by have := (HOW5.out.lt b hb).1; show b ≠ L; omega))
      have HL6 : Hid (Below w.heap.size w (w5.setCell ⟨L, 7, none⟩ (.slice q5 (i + 1) cp5))) := (HBL.out.trans (hB5.out.mono (by omega))).setCell (by show w.heap.size ≤ L; omega) _
      have hz6 : base ≤ (w5.setCell ⟨L, 7, none⟩ (.slice q5 (i + 1) cp5)).heap.size := by rw [World.size_setCell]; omega
      have HAN : Hid ((acc ++ [(c, p2, l', c2)]).map Prod.fst = n.args.take (i + 1)) := by
        unfold Hid
        rw [List.map_append, HAC.out, List.take_add_one, HHC.out]
        simp
      generalize w5.setCell ⟨L, 7, none⟩ (.slice q5 (i + 1) cp5) = w6 at HP6 HR6 HZ6 HW6 HL6 HKN hz6 ⊢
      clear HHC HN5 HN0 HN1 HN2 HOW HOW5 hB5 hB3 hb4 e5 g5 HBL
      go_wp2_with fail
      go_roundg (gk - 1)
      case measure => omega
      case rel =>
        refine ⟨i + 1, acc ++ [(c, p2, l', c2)], q5, cp5, by omega, by go_num, HAN.out, HR6.out, HZ6.out, HP6.out, HW6.out, fun d'' hd x hx => ?_, HL6.out, hz6⟩
        obtain rfl : d' = d'' := by have := HHD.out; omega
        exact HKN.out x hx
    · obtain rfl : i = len := by omega
      have hli : ¬ (i : Int) < (i : Int) := by omega
      have hla : acc.length = i := by
        have h := congrArg List.length HAC.out
        simp only [List.length_map, List.length_take] at h
        rw [HAL.out] at h
        omega
      clear a0 a1 a2 a3 a4 b5
      go_upto_region 6 with fail
      refine wp_region_lit ?_
      refine wpList_load_mid (by rfl) _ _ (by rfl) L 0 (by rfl) [.int .i64 n.kind, .int .i64 n.num, .string ⟨n.text.toArray⟩, .int .i64 (cC n.frm), .int .i64 (cR n.frm), .int .i64 (cC n.tor), .int .i64 (cR n.tor), .slice q i cp] _ (block_range HN2.out [.int .i64 n.kind, .int .i64 n.num, .string ⟨n.text.toArray⟩, .int .i64 (cC n.frm), .int .i64 (cR n.frm), .int .i64 (cC n.tor), .int .i64 (cR n.tor), .slice q i cp] rfl) Tryz.underlying48 rfl (by kernel_rfl) ?_
      go_simp
      refine wpList_store_mid (by rfl) _ _ _ (by rfl) (w.heap.size + 1) 0 #[.int .i64 n.kind, .int .i64 n.num, .string ⟨n.text.toArray⟩, .int .i64 (cC n.frm), .int .i64 (cR n.frm), .int .i64 (cC n.tor), .int .i64 (cR n.tor), .slice q i cp] (by rfl) (by rfl) (block_there HN0.out 8 (Nat.le_refl _)) (by kernel_rfl) (by simp [Value.oneCell']) ?_
      have e8 : wr.setCells (w.heap.size + 1) 0 (#[.int .i64 n.kind, .int .i64 n.num, .string ⟨n.text.toArray⟩, .int .i64 (cC n.frm), .int .i64 (cR n.frm), .int .i64 (cC n.tor), .int .i64 (cR n.tor), .slice q i cp]).toList = wr.setCells (w.heap.size + 1) 0 (Cel.ndA n q i cp).toList := rfl
      rw [e8]
      clear e8
      have HS8 : Hid (BlkC (wr.setCells (w.heap.size + 1) 0 (Cel.ndA n q i cp).toList) (w.heap.size + 1) (Cel.ndA n q i cp) Cel.tPn) := store_block HN0.out _ rfl
      have HB8 : Hid (Below w.heap.size w (wr.setCells (w.heap.size + 1) 0 (Cel.ndA n q i cp).toList)) := store_below (by omega) _ _ _ HBL.out
      have hz8 := (store_below (Nat.zero_le (w.heap.size + 1)) (Cel.ndA n q i cp).toList 0 wr (Below.refl 0 wr)).size
      have HO8 : Hid (∀ k, k ≠ w.heap.size + 1 → (wr.setCells (w.heap.size + 1) 0 (Cel.ndA n q i cp).toList).heap[k]? = wr.heap[k]?) := fun k hk => store_other hk _ _ _
      generalize wr.setCells (w.heap.size + 1) 0 (Cel.ndA n q i cp).toList = w9 at HS8 HB8 HO8 hz8 ⊢
      go_simp
      iterate 3 (first | go_values | go_skip | go_guarded | go_step | go_upon)
      apply wp_ret
      try simp only [Exit.inBlock, Exit.then]
      refine bodyPost_ret (results_cell_row rfl _ _ (w.heap.size + 1) Cel.tPn (Cel.ndA n q i cp) (0, 0) _ rfl HS8.out Tryz.underlying48 rfl (by kernel_rfl)) rfl ⟨⟨q, cp, rfl, ?_⟩, HB8.out⟩
      cases d with
      | zero =>
        have h := HRD.out
        refine ⟨?_, h.2⟩
        exact h.1
      | succ d =>
        subst hla
        obtain ⟨q', cp', hv, hr⟩ := Cel.RdP.of_row (n := n) (d := d) (ok := fun b => base ≤ b ∧ b < wr.heap.size) HOW.out (by rw [HAC.out, List.take_of_length_le (by rw [HAL.out]; exact Nat.le_refl _)]) (fun x hx => Cel.RdP.carry (fun b hb => ⟨⟨hb.1, hb.2.1⟩, rfl⟩) (HKD.out d rfl x hx)) (fun b hb => HOW.out.lt b hb)
        cases hv
        exact Cel.RdP.carry (fun b hb => ⟨⟨by omega, by omega⟩, HO8.out b (by omega)⟩) hr
theorem cls_any : ∀ d, clsC d
  | 0 => cls_s 0 (fun d' h => by omega)
  | d + 1 => cls_s (d + 1) (fun d' h => (show d = d' from by omega) ▸ cls_any d)
end Go.Proofs.YtjklbbmgjjdalaaGreatDoor
