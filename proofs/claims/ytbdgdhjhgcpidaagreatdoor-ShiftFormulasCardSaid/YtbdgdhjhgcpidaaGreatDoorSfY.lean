/- The document's Formula of ref34: a tree moved. Printed by gen_shf.py. -/
import Derived.Test.YtbdgdhjhgcpidaaGreatDoorSfW
import Derived.Test.YtbdgdhjhgcpidaaGreatDoorSfP
import Derived.Test.YtbdgdhjhgcpidaaGreatDoorSfX
set_option linter.unusedSimpArgs false
set_option linter.unusedVariables false
namespace Go.Proofs.YtbdgdhjhgcpidaaGreatDoor
open Go.RowKit Go.Joins
def okMmf (base : Nat) (w : World) (v : Value) (k : Nat) : Prop := base ≤ k ∧ k < w.heap.size ∧ v.ownBlock ≠ some k
theorem kidsMmf {base G d' l' c2 : Nat} {wr w3 w5 : World} {o : Obj} {v v' u : Value} {acc : List Kid} {c : Nd} {p2 : Option Addr} (hG : G < base) (hbs : base ≤ wr.heap.size) (hb : Below wr.heap.size wr w3) (hg : (w3.alloc o).grownBy w5 v.ownBlock)
    (hat : v'.ownBlock = v.ownBlock ∨ v'.ownBlock = some (w3.alloc o).heap.size) (hlt : ∀ b, v.ownBlock = some b → b < wr.heap.size) (hk : ∀ x ∈ acc, RdP wr (okMmf base wr v) d' x.1 x.2.1 x.2.2.1)
    (hn : RdP w3 (fun b => wr.heap.size ≤ b ∧ b < w3.heap.size) d' c p2 l') :
    ∀ x ∈ acc ++ [(c, p2, l', c2)], RdP (w5.setCell ⟨G, 5, none⟩ u) (okMmf base (w5.setCell ⟨G, 5, none⟩ u) v') d' x.1 x.2.1 x.2.2.1 := by
  have hs := hb.size
  have hs2 := hg.size
  rw [World.size_alloc] at hs2 hat
  have hblk : ∀ b, G ≠ b → b < w3.heap.size → v.ownBlock ≠ some b → (w5.setCell ⟨G, 5, none⟩ u).heap[b]? = w3.heap[b]? := fun b h1 h2 h3 => by
    rw [heap_setCell_other _ _ _ _ (fun e => h1 e.symm), hg.block b (by rw [World.size_alloc]; omega) (fun e => h3 e.symm), heap_alloc_old _ _ h2]
  intro x hx
  rcases List.mem_append.1 hx with hx | hx
  · refine RdP.carry (fun b hb' => ?_) (hk x hx)
    obtain ⟨h1, h2, h3⟩ := hb'
    refine ⟨⟨h1, by rw [World.size_setCell]; omega, ?_⟩, ?_⟩
    · rcases hat with e | e
      · rw [e]; exact h3
      · rw [e]; intro e'; have := Option.some.inj e'; omega
    · rw [hblk b (by omega) (by omega) h3, hb.block b h2]
  · obtain rfl := List.mem_singleton.1 hx
    refine RdP.carry (fun b hb' => ?_) hn
    obtain ⟨h1, h2⟩ := hb'
    have h3 : v.ownBlock ≠ some b := fun e => by have := hlt b e; omega
    refine ⟨⟨by omega, by rw [World.size_setCell]; omega, ?_⟩, ?_⟩
    · rcases hat with e | e
      · rw [e]; exact h3
      · rw [e]; intro e'; have := Option.some.inj e'; omega
    · exact hblk b (by omega) h2 h3
def mfC (cols rows : Int) (d : Nat) : Prop := ∀ (n : Nd) (p : Option Addr) (len cap : Nat) (w : World), RdT w w.heap.size d n p len → Fm n → Calls Tryz.prog 13 #[.agg (ndA n p len cap), .int .i64 cols, .int .i64 rows] w fun e w' => (∃ p' len' cap', e = .returned (.agg (ndA (mvN cols rows n) p' len' cap')) ∧ RdP w' (fun b => w.heap.size ≤ b ∧ b < w'.heap.size) d (mvN cols rows n) p' len') ∧ Below w.heap.size w w'
set_option maxRecDepth 100000 in
set_option maxHeartbeats 16000000 in
theorem mf_s (cols rows : Int) (hc1 : -9223372036854775808 ≤ cols) (hc2 : cols ≤ 9223372036854775807) (hr1 : -9223372036854775808 ≤ rows) (hr2 : rows ≤ 9223372036854775807) (d : Nat) (IH : ∀ d', d = d' + 1 → mfC cols rows d') : mfC cols rows d := by
  intro n p len cap w hrd hok
  have HRD := Lib.hid hrd
  have HIH := Lib.hid IH
  have hlen := fm_len hok
  rw [hrd.len] at hlen
  have HAL := Lib.hid hrd.len
  have HOK := Lib.hid (fun c hc => fm_child (c := c) hok hc)
  have HRF := Lib.hid (fm_refs hok)
  have HOF := Lib.hid (fun (h : n.kind = 3 ∨ n.kind = 4) W => r34cell_any n.frm cols rows (HRF.out.1 h) hc1 hc2 hr1 hr2 W)
  have HOT := Lib.hid (fun (h : n.kind = 4) W => r34cell_any n.tor cols rows (HRF.out.2 h) hc1 hc2 hr1 hr2 W)
  rw [ndA_eq]
  clear hrd IH hok HRF hc1 hc2 hr1 hr2
  go_enter Tryz.func13, Tryz.ntmps13
  go_upto_region 2 with fail
  have e0 : ((w.alloc (.cells #[.int .i64 n.kind, .int .i64 n.num, .string ⟨n.text.toArray⟩, .int .i64 n.frm, .int .i64 n.tor, .slice p len cap] tRn)).alloc (.cells #[.int .i64 0, .int .i64 0, .string ⟨#[]⟩, .int .i64 0, .int .i64 0, .slice none 0 0] tRn)).alloc (.cells #[.int .i64 n.kind, .int .i64 n.num, .string ⟨n.text.toArray⟩, .int .i64 0, .int .i64 0, .slice none 0 0] tRn) = ((w.alloc (.cells (ndA n p len cap) tRn)).alloc (.cells (ndA nodeZ none 0 0) tRn)).alloc (.cells (ndA (.mk n.kind n.num n.text 0 0 []) none 0 0) tRn) := rfl
  rw [e0]
  clear e0
  have HN1 : Hid (NdB tRn (((w.alloc (.cells (ndA n p len cap) tRn)).alloc (.cells (ndA nodeZ none 0 0) tRn)).alloc (.cells (ndA (.mk n.kind n.num n.text 0 0 []) none 0 0) tRn)) w.heap.size n p len cap) := (three_heap w _ _ _).1
  have HZ1 : Hid (BlkC (((w.alloc (.cells (ndA n p len cap) tRn)).alloc (.cells (ndA nodeZ none 0 0) tRn)).alloc (.cells (ndA (.mk n.kind n.num n.text 0 0 []) none 0 0) tRn)) (w.heap.size + 1) (ndA nodeZ none 0 0) tRn) := (three_heap w _ _ _).2.1
  have HL1 : Hid (BlkC (((w.alloc (.cells (ndA n p len cap) tRn)).alloc (.cells (ndA nodeZ none 0 0) tRn)).alloc (.cells (ndA (.mk n.kind n.num n.text 0 0 []) none 0 0) tRn)) (w.heap.size + 2) (ndA (.mk n.kind n.num n.text 0 0 []) none 0 0) tRn) := (three_heap w _ _ _).2.2
  have HB1 : Hid (Below w.heap.size w (((w.alloc (.cells (ndA n p len cap) tRn)).alloc (.cells (ndA nodeZ none 0 0) tRn)).alloc (.cells (ndA (.mk n.kind n.num n.text 0 0 []) none 0 0) tRn))) := three_below _ _ _
  generalize ((w.alloc (.cells (ndA n p len cap) tRn)).alloc (.cells (ndA nodeZ none 0 0) tRn)).alloc (.cells (ndA (.mk n.kind n.num n.text 0 0 []) none 0 0) tRn) = w1 at HN1 HZ1 HL1 HB1 ⊢
  by_cases h4 : n.kind = 4
  · have b3 : (n.kind == 3) = false := by simp; omega
    have b4 : (n.kind == 4) = true := by simpa using h4
    obtain ⟨F1, hF1⟩ : ∃ x, mvC cols rows n.frm = x := ⟨_, rfl⟩
    obtain ⟨T1, hT1⟩ : ∃ x, mvC cols rows n.tor = x := ⟨_, rfl⟩
    have HOF2 := Lib.hid (HOF.out (.inr h4))
    have HOT2 := Lib.hid (HOT.out h4)
    rw [hF1] at HOF2
    rw [hT1] at HOT2
    have HF1 := Lib.hid hF1
    have HT1 := Lib.hid hT1
    clear HOF HOT hF1 hT1
    obtain ⟨c0, c1, c2, c3, c4, c5⟩ := HN1.out.cells
    go_wp2_with fail
    refine (HOF2.out w1).mono ?_
    rintro e wa ⟨rfl, hb⟩
    have HNa := Lib.hid (HN1.out.below hb)
    have HZa := Lib.hid (HZ1.out.below hb)
    have HLa := Lib.hid (HL1.out.below hb)
    have HBa : Hid (Below w.heap.size w wa) := bel_call hb HB1.out HB1.out.size
    clear hb c0 c1 c2 c3 c4 c5 HN1 HZ1 HL1 HB1
    have l3 : wa.cell? ⟨w.heap.size + 2, 3, none⟩ = some (.int .i64 0) := HLa.out.cell 3 _ rfl
    have z3 := HLa.out.fz 3
    have hla : w.heap.size + 2 < wa.heap.size := lt_some HLa.out
    go_upto_region 4 with fail
    have HLb : Hid (BlkC (wa.setCell ⟨w.heap.size + 2, 3, none⟩ (.int .i64 F1)) (w.heap.size + 2) #[.int .i64 n.kind, .int .i64 n.num, .string ⟨n.text.toArray⟩, .int .i64 F1, .int .i64 0, .slice none 0 0] tRn) := block_setCell HLa.out _
    have hb2 : Below (w.heap.size + 2) wa (wa.setCell ⟨w.heap.size + 2, 3, none⟩ (.int .i64 F1)) := (Below.refl _ _).setCell (p := ⟨w.heap.size + 2, 3, none⟩) (Nat.le_refl _) _
    have HNb : Hid (NdB tRn (wa.setCell ⟨w.heap.size + 2, 3, none⟩ (.int .i64 F1)) w.heap.size n p len cap) := (hb2.block _ (by omega)).trans HNa.out
    have HZb : Hid (BlkC (wa.setCell ⟨w.heap.size + 2, 3, none⟩ (.int .i64 F1)) (w.heap.size + 1) (ndA nodeZ none 0 0) tRn) := (hb2.block _ (by omega)).trans HZa.out
    have HBb : Hid (Below w.heap.size w (wa.setCell ⟨w.heap.size + 2, 3, none⟩ (.int .i64 F1))) := HBa.out.trans (hb2.mono (by omega))
    clear hb2 l3 z3 hla HNa HZa HLa HBa
    generalize (wa.setCell ⟨w.heap.size + 2, 3, none⟩ (.int .i64 F1)) = wb at HLb HNb HZb HBb ⊢
    have l3 : wb.cell? ⟨w.heap.size + 2, 3, none⟩ = some (.int .i64 F1) := HLb.out.cell 3 _ rfl
    clear HOF2
    by_cases hz1 : F1 = 0
    · have hz2 : (F1 == 0) = true := by simpa using hz1
      go_upto_region 5 with fail
      have HM : Hid (mvN cols rows n = fltN) := mvN_flt (.inl ⟨.inr h4, by rw [HF1.out]; exact hz1⟩)
      refine wp_region_lit ?_
      refine wpList_plain rfl fun K hK => ?_
      go_simp
      refine hK _ _ ?_
      clear hK K
      refine wpList_store_mid (by rfl) _ _ _ (by rfl) (w.heap.size + 1) 0 #[.int .i64 8, .int .i64 0, .string ⟨#[]⟩, .int .i64 0, .int .i64 0, .slice none 0 0] (by rfl) (by rfl) (block_there HZb.out 6 (Nat.le_refl _)) (by kernel_rfl) (by simp [Value.oneCell']) ?_
      have e8 : wb.setCells (w.heap.size + 1) 0 (#[.int .i64 8, .int .i64 0, .string ⟨#[]⟩, .int .i64 0, .int .i64 0, .slice none 0 0]).toList = wb.setCells (w.heap.size + 1) 0 (ndA fltN none 0 0).toList := rfl
      rw [e8]
      clear e8
      have HS8 : Hid (BlkC (wb.setCells (w.heap.size + 1) 0 (ndA fltN none 0 0).toList) (w.heap.size + 1) (ndA fltN none 0 0) tRn) := store_block HZb.out _ rfl
      have HB8 : Hid (Below w.heap.size w (wb.setCells (w.heap.size + 1) 0 (ndA fltN none 0 0).toList)) := store_below (by omega) _ _ _ HBb.out
      generalize wb.setCells (w.heap.size + 1) 0 (ndA fltN none 0 0).toList = w9 at HS8 HB8 ⊢
      clear HNb HZb HLb HBb
      go_simp
      go_wp2_with fail
      try simp only [Exit.inBlock, Exit.then]
      rw [HM.out]
      exact bodyPost_ret (results_cell_row rfl _ _ (w.heap.size + 1) tRn (ndA fltN none 0 0) (0, 0) _ rfl HS8.out Tryz.underlying36 rfl (by kernel_rfl)) rfl ⟨⟨none, 0, 0, rfl, rdp6_leaf _ _ rfl _ _⟩, HB8.out⟩
    · have hz2 : (F1 == 0) = false := by simpa using hz1
      obtain ⟨c0, c1, c2, c3, c4, c5⟩ := HNb.out.cells
      go_wp2_with fail
      refine (HOT2.out wb).mono ?_
      rintro e wc ⟨rfl, hb⟩
      have HNc := Lib.hid (HNb.out.below hb)
      have HZc := Lib.hid (HZb.out.below hb)
      have HLc := Lib.hid (HLb.out.below hb)
      have HBc : Hid (Below w.heap.size w wc) := bel_call hb HBb.out HBb.out.size
      clear hb c0 c1 c2 c3 c4 c5 HNb HZb HLb HBb
      have l4 : wc.cell? ⟨w.heap.size + 2, 4, none⟩ = some (.int .i64 0) := HLc.out.cell 4 _ rfl
      have z4 := HLc.out.fz 4
      have hlc : w.heap.size + 2 < wc.heap.size := lt_some HLc.out
      go_upto_region 8 with fail
      have HL3 : Hid (BlkC (wc.setCell ⟨w.heap.size + 2, 4, none⟩ (.int .i64 T1)) (w.heap.size + 2) #[.int .i64 n.kind, .int .i64 n.num, .string ⟨n.text.toArray⟩, .int .i64 F1, .int .i64 T1, .slice none 0 0] tRn) := block_setCell HLc.out _
      have hb2 : Below (w.heap.size + 2) wc (wc.setCell ⟨w.heap.size + 2, 4, none⟩ (.int .i64 T1)) := (Below.refl _ _).setCell (p := ⟨w.heap.size + 2, 4, none⟩) (Nat.le_refl _) _
      have HN3 : Hid (NdB tRn (wc.setCell ⟨w.heap.size + 2, 4, none⟩ (.int .i64 T1)) w.heap.size n p len cap) := (hb2.block _ (by omega)).trans HNc.out
      have HZ3 : Hid (BlkC (wc.setCell ⟨w.heap.size + 2, 4, none⟩ (.int .i64 T1)) (w.heap.size + 1) (ndA nodeZ none 0 0) tRn) := (hb2.block _ (by omega)).trans HZc.out
      have HB3 : Hid (Below w.heap.size w (wc.setCell ⟨w.heap.size + 2, 4, none⟩ (.int .i64 T1))) := HBc.out.trans (hb2.mono (by omega))
      clear hb2 l4 z4 hlc HNc HZc HLc HBc
      generalize (wc.setCell ⟨w.heap.size + 2, 4, none⟩ (.int .i64 T1)) = w3 at HL3 HN3 HZ3 HB3 ⊢
      have l4 : w3.cell? ⟨w.heap.size + 2, 4, none⟩ = some (.int .i64 T1) := HL3.out.cell 4 _ rfl
      clear HOT2
      by_cases hz3 : T1 = 0
      · have hz4 : (T1 == 0) = true := by simpa using hz3
        go_upto_region 9 with fail
        have HM : Hid (mvN cols rows n = fltN) := mvN_flt (.inr ⟨h4, by rw [HT1.out]; exact hz3⟩)
        refine wp_region_lit ?_
        refine wpList_plain rfl fun K hK => ?_
        go_simp
        refine hK _ _ ?_
        clear hK K
        refine wpList_store_mid (by rfl) _ _ _ (by rfl) (w.heap.size + 1) 0 #[.int .i64 8, .int .i64 0, .string ⟨#[]⟩, .int .i64 0, .int .i64 0, .slice none 0 0] (by rfl) (by rfl) (block_there HZ3.out 6 (Nat.le_refl _)) (by kernel_rfl) (by simp [Value.oneCell']) ?_
        have e8 : w3.setCells (w.heap.size + 1) 0 (#[.int .i64 8, .int .i64 0, .string ⟨#[]⟩, .int .i64 0, .int .i64 0, .slice none 0 0]).toList = w3.setCells (w.heap.size + 1) 0 (ndA fltN none 0 0).toList := rfl
        rw [e8]
        clear e8
        have HS8 : Hid (BlkC (w3.setCells (w.heap.size + 1) 0 (ndA fltN none 0 0).toList) (w.heap.size + 1) (ndA fltN none 0 0) tRn) := store_block HZ3.out _ rfl
        have HB8 : Hid (Below w.heap.size w (w3.setCells (w.heap.size + 1) 0 (ndA fltN none 0 0).toList)) := store_below (by omega) _ _ _ HB3.out
        generalize w3.setCells (w.heap.size + 1) 0 (ndA fltN none 0 0).toList = w9 at HS8 HB8 ⊢
        clear HN3 HZ3 HL3 HB3
        go_simp
        go_wp2_with fail
        try simp only [Exit.inBlock, Exit.then]
        rw [HM.out]
        exact bodyPost_ret (results_cell_row rfl _ _ (w.heap.size + 1) tRn (ndA fltN none 0 0) (0, 0) _ rfl HS8.out Tryz.underlying36 rfl (by kernel_rfl)) rfl ⟨⟨none, 0, 0, rfl, rdp6_leaf _ _ rfl _ _⟩, HB8.out⟩
      · have hz4 : (T1 == 0) = false := by simpa using hz3
        rw [← HF1.out] at hz1 HL3
        rw [← HT1.out] at hz3 HL3
        obtain ⟨c0, c1, c2, c3, c4, c5⟩ := HN3.out.cells
        go_upto_region 10 with fail
        clear c0 c1 c2 c3 c4 c5
        have HGO := mvN_go (cols := cols) (rows := rows) (n := n) (by omega)
        have HGA : Hid ((mvN cols rows n).args = n.args.map (mvN cols rows)) := by unfold Hid; rw [HGO]; rfl
        have HE : Hid (ndA (mvN cols rows n) none 0 0 = #[.int .i64 n.kind, .int .i64 n.num, .string ⟨n.text.toArray⟩, .int .i64 (mvC cols rows n.frm), .int .i64 (mvC cols rows n.tor), .slice none 0 0]) := by
          unfold Hid
          rw [HGO]
          first | rw [if_pos (by omega), if_pos (by omega)] | rw [if_pos (by omega), if_neg (by omega)] | rw [if_neg (by omega), if_neg (by omega)]
          rfl
        rw [← HE.out] at HL3
        clear HGO HE
        have hLb : w.heap.size + 2 < w3.heap.size := lt_some HL3.out
        have hLH : w.heap.size + 1 < w.heap.size + 2 := by omega
        have hH1 : w.heap.size + 1 < w3.heap.size := by omega
        obtain ⟨L, hLe⟩ : ∃ L, w.heap.size + 2 = L := ⟨_, rfl⟩
        rw [hLe] at HL3 hLb hLH ⊢
        clear hLe
        obtain ⟨base, hbase⟩ : ∃ base, w3.heap.size = base := ⟨_, rfl⟩
        have HB0 := Lib.hid hbase
        rw [hbase] at hLb hH1
        clear hbase
        obtain ⟨i0, hi, hz0, hz1, hz2⟩ := info_of info_rn
        go_wp2_with fail
        go_loopg [8] len (fun g v wr => ∃ (i : Nat) (acc : List Kid) (q : Option Addr) (cp : Nat), i + g = len ∧ v = .int .i64 i ∧ acc.map Prod.fst = (n.args.take i).map (mvN cols rows) ∧ NdB tRn wr w.heap.size n p len cap ∧ BlkC wr (w.heap.size + 1) (ndA nodeZ none 0 0) tRn ∧ BlkC wr L (ndA ((mvN cols rows) n) q i cp) tRn ∧ wr.ownsRow base tRn 6 (.slice q i cp) i (acc.flatMap kidC) ∧ (∀ d', d = d' + 1 → ∀ x ∈ acc, RdP wr (okMmf base wr (.slice q i cp)) d' x.1 x.2.1 x.2.2.1) ∧ Below w.heap.size w wr ∧ base ≤ wr.heap.size)
        case atStart => exact ⟨0, [], none, 0, by omega, rfl, rfl, HN3.out, HZ3.out, HL3.out, World.ownsRow_nil _ _ _ _, fun _ _ x hx => (by cases hx), HB3.out, by rw [HB0.out]; exact Nat.le_refl _⟩
        case round =>
          obtain ⟨i, acc, q, cp, hig, rfl, hacc, hn1, hn0, hn2, hown, hkid, hbel, hbs⟩ := hrel
          have HAC := Lib.hid hacc
          have HN1 := Lib.hid hn1
          have HN0 := Lib.hid hn0
          have HN2 := Lib.hid hn2
          have HOW := Lib.hid hown
          have HKD := Lib.hid hkid
          have HBL := Lib.hid hbel
          have hzr := hbel.size
          clear hacc hn1 hn0 hn2 hown hkid hbel HN3 HZ3 HL3 HB3 HB0
          obtain ⟨a0, a1, a2, a3, a4, a5⟩ := HN1.out.cells
          have b5 : wr.cell? ⟨L, 5, none⟩ = some (.slice q i cp) := HN2.out.cell 5 _ rfl
          by_cases hlt : i < len
          · have hli : (i : Int) < (len : Int) := by omega
            obtain ⟨d', b, off, c, p', l', c', hd, rfl, hbN, hc, hrc, q0, q1, q2, q3, q4, q5⟩ := (HRD.out.below HBL.out).at hlt
            have HC : Hid (mfC cols rows d') := HIH.out d' hd
            have HCO := Lib.hid (HOK.out c (mem_at hc))
            have A5 := Kept.cell (N := base) a5 (by omega)
            have B5 := Kept.cell (N := base) b5 (by omega)
            have Q0 := Kept.cell (N := base) q0 (by omega)
            have Q1 := Kept.cell (N := base) q1 (by omega)
            have Q2 := Kept.cell (N := base) q2 (by omega)
            have Q3 := Kept.cell (N := base) q3 (by omega)
            have Q4 := Kept.cell (N := base) q4 (by omega)
            have Q5 := Kept.cell (N := base) q5 (by omega)
            go_upto_region 13 with fail
            refine wp_region_schedT (fun wx => ∃ x : Kept base wr, wx = x.v) 13 [([0,1,2,3,4,5,6,7,8],9),([],10),([],11)] [12] (by kernel_rfl) (by kernel_rfl) (by kernel_rfl) (by kernel_rfl) (kept_drew _ _ (by omega)) ?_
            (unfold wpSegK; simp only [pick_nil, pick_cons, nthO_zero, nthO_succ, List.append])
            clear a0 a1 a2 a3 a4 a5 b5 q0 q1 q2 q3 q4 q5
            repeat (go_big_quiet_step (fail))
            refine wpQuiet_nil ?_
            have HRC := Lib.hid hrc
            have HHC := Lib.hid hc
            have HHD := Lib.hid hd
            clear hrc hc hd
            have HCC := Lib.hid (HC.out c p' l' c' wr.drew ((HRC.out.below (Below.drew (Below.refl _ _))).mono hzr) HCO.out)
            rw [ndA_eq c p' l' c'] at HCC
            go_wp2_with fail
            refine HCC.out.mono ?_
            rintro e w3 ⟨⟨p2, l2, c2, rfl, hk3⟩, hb3⟩
            have hb4 : Hid (Below wr.heap.size wr w3) := bel_call hb3 (Below.drew (Below.refl _ _)) (Nat.le_refl _)
            have HK3 := Lib.hid hk3
            rw [show Value.agg (ndA ((mvN cols rows) c) p2 l2 c2) = .agg #[.int .i64 ((mvN cols rows) c).kind, .int .i64 ((mvN cols rows) c).num, .string ⟨((mvN cols rows) c).text.toArray⟩, .int .i64 ((mvN cols rows) c).frm, .int .i64 ((mvN cols rows) c).tor, .slice p2 l2 c2] from rfl]
            clear HCC hk3 hb3
            go_wp2_with fail
            have hB3 : Hid (Below base wr w3) := hb4.out.mono (by omega)
            refine ⟨rfl, ⟨⟨w3, hB3.out⟩, rfl⟩, ?_⟩
            (unfold wpSegK; simp only [pick_nil, pick_cons, nthO_zero, nthO_succ, List.append])
            refine wpQuiet_nil ?_
            go_wp2_with fail
            have e4 : w3.alloc (.cells #[.int .i64 ((mvN cols rows) c).kind, .int .i64 ((mvN cols rows) c).num, .string ⟨((mvN cols rows) c).text.toArray⟩, .int .i64 ((mvN cols rows) c).frm, .int .i64 ((mvN cols rows) c).tor, .slice p2 l2 c2] tRn) = w3.alloc (.cells (ndA ((mvN cols rows) c) p2 l2 c2) tRn) := rfl
            rw [e4]
            clear e4
            refine ⟨rfl, ⟨⟨_, hB3.out.alloc (by have := hb4.out.size; omega) _⟩, rfl⟩, ?_⟩
            (unfold wpSegK; simp only [pick_nil, pick_cons, nthO_zero, nthO_succ, List.append])
            refine wpQuiet_nil ?_
            have HRW := Lib.hid (row_below HOW.out hb4.out)
            refine wpList_append_own_at _ rfl _ _ _ rfl base tRn i0 _ 6 72 Tryz.underlying34 hi hz0 hz1 hz2 rfl (by decide) _ _ _ rfl (HRW.out.alloc _) ⟨w3.heap.size, 0, none⟩ 1 1 (ndC ((mvN cols rows) c) p2 l2 c2) rfl rfl (newRn w3 ((mvN cols rows) c) p2 l2 c2) ?c2 ?c3 ?c4 ?c5 ?_
            case c2 => exact kidC_one (((mvN cols rows) c), p2, l2, c2)
            case c3 => unfold maxLen; omega
            case c4 => omega
            case c5 => rw [World.size_alloc]; have := hb4.out.size; omega
            intro v' w5 hown5 hgrow5 _ hat5
            have hB5 : Hid (Below base wr w5) := (hB3.out.alloc (by have := hb4.out.size; omega) _).grown hgrow5 (by rw [World.size_alloc]; have := hb4.out.size; omega) (fun k hk => (HRW.out.lt k hk).1)
            have HOW5 : Hid (w5.ownsRow base tRn 6 v' (i + 1) ((acc ++ [(((mvN cols rows) c), p2, l2, c2)]).flatMap kidC)) := by
              unfold Hid
              rw [flat_snoc]
              exact hown5
            have hla : acc.length = i := by
              have h := congrArg List.length HAC.out
              simp only [List.length_map, List.length_take] at h
              rw [HAL.out] at h
              omega
            obtain ⟨q5, cp5, hv5, _, _, _, _⟩ := RdG.of_own kidC_len (by rw [List.length_append, List.length_singleton, hla]) HOW5.out
            subst hv5
            have HN5 : Hid (BlkC w5 L (ndA ((mvN cols rows) n) q i cp) tRn) := (hB5.out.block _ hLb).trans HN2.out
            have HKN := Lib.hid (kidsMmf (G := L) (u := .slice q5 (i + 1) cp5) (c2 := c2) hLb hbs hb4.out hgrow5 hat5 (fun b e => (HOW.out.lt b e).2) (HKD.out d' HHD.out) HK3.out)
            have hs5 := hB5.out.size
            clear hown5 hgrow5 hat5 HRW HK3 HKD HCO HC HIH HOK A5 B5 Q0 Q1 Q2 Q3 Q4 Q5
            have e5 : w5.cell? ⟨L, 5, none⟩ = some (.slice q i cp) := HN5.out.cell 5 _ rfl
            have g5 := HN5.out.fz 5
            go_wp2_with fail
            refine ⟨rfl, ⟨⟨w5, hB5.out⟩, rfl⟩, ?_⟩
            (unfold wpSegK; simp only [pick_nil, pick_cons, nthO_zero, nthO_succ, List.append])
            repeat (go_big_quiet_step (fail))
            refine wpQuiet_nil ?_
            go_wp2_with fail
            refine ⟨rfl, ?_⟩
            have HP6 : Hid (BlkC (w5.setCell ⟨L, 5, none⟩ (.slice q5 (i + 1) cp5)) L (ndA ((mvN cols rows) n) q5 (i + 1) cp5) tRn) := block_setCell HN5.out _
            have HR6 : Hid (NdB tRn (w5.setCell ⟨L, 5, none⟩ (.slice q5 (i + 1) cp5)) w.heap.size n (some ⟨b, off, none⟩) len cap) := by
              unfold Hid NdB
              rw [heap_setCell_other _ _ _ _ (by show w.heap.size ≠ L; omega), hB5.out.block _ (by omega)]
              exact HN1.out
            have HZ6 : Hid (BlkC (w5.setCell ⟨L, 5, none⟩ (.slice q5 (i + 1) cp5)) (w.heap.size + 1) (ndA nodeZ none 0 0) tRn) := by
              unfold Hid BlkC
              rw [heap_setCell_other _ _ _ _ (by show w.heap.size + 1 ≠ L; omega), hB5.out.block _ (by omega)]
              exact HN0.out
            have HW6 : Hid ((w5.setCell ⟨L, 5, none⟩ (.slice q5 (i + 1) cp5)).ownsRow base tRn 6 (.slice q5 (i + 1) cp5) (i + 1) ((acc ++ [(((mvN cols rows) c), p2, l2, c2)]).flatMap kidC)) :=
              row_carry HOW5.out (fun b hb => heap_setCell_other _ _ _ _ (by have := (HOW5.out.lt b hb).1; show b ≠ L; omega))
            have HL6 : Hid (Below w.heap.size w (w5.setCell ⟨L, 5, none⟩ (.slice q5 (i + 1) cp5))) := (HBL.out.trans (hB5.out.mono (by omega))).setCell (by show w.heap.size ≤ L; omega) _
            have hz6 : base ≤ (w5.setCell ⟨L, 5, none⟩ (.slice q5 (i + 1) cp5)).heap.size := by rw [World.size_setCell]; omega
            have HAN : Hid ((acc ++ [(((mvN cols rows) c), p2, l2, c2)]).map Prod.fst = (n.args.take (i + 1)).map (mvN cols rows)) := by
              unfold Hid
              rw [List.map_append, HAC.out, List.take_add_one, HHC.out]
              simp
            generalize w5.setCell ⟨L, 5, none⟩ (.slice q5 (i + 1) cp5) = w6 at HP6 HR6 HZ6 HW6 HL6 HKN hz6 ⊢
            clear HHC HN5 HN0 HN1 HN2 HOW HOW5 hB5 hB3 hb4 e5 g5 HBL
            go_wp2_with fail
            go_roundg (gk - 1)
            case measure => omega
            case rel =>
              refine ⟨i + 1, acc ++ [(((mvN cols rows) c), p2, l2, c2)], q5, cp5, by omega, by go_num, HAN.out, HR6.out, HZ6.out, HP6.out, HW6.out, fun d'' hd x hx => ?_, HL6.out, hz6⟩
              obtain rfl : d' = d'' := by have := HHD.out; omega
              exact HKN.out x hx
          · obtain rfl : i = len := by omega
            have hli : ¬ (i : Int) < (i : Int) := by omega
            have hla : acc.length = i := by
              have h := congrArg List.length HAC.out
              simp only [List.length_map, List.length_take] at h
              rw [HAL.out] at h
              omega
            clear a0 a1 a2 a3 a4 b5
            go_upto_region 14 with fail
            refine wp_region_lit ?_
            refine wpList_load_mid (by rfl) _ _ (by rfl) L 0 (by rfl) [.int .i64 ((mvN cols rows) n).kind, .int .i64 ((mvN cols rows) n).num, .string ⟨((mvN cols rows) n).text.toArray⟩, .int .i64 ((mvN cols rows) n).frm, .int .i64 ((mvN cols rows) n).tor, .slice q i cp] _ (block_range HN2.out [.int .i64 ((mvN cols rows) n).kind, .int .i64 ((mvN cols rows) n).num, .string ⟨((mvN cols rows) n).text.toArray⟩, .int .i64 ((mvN cols rows) n).frm, .int .i64 ((mvN cols rows) n).tor, .slice q i cp] rfl) Tryz.underlying36 rfl (by kernel_rfl) ?_
            go_simp
            refine wpList_store_mid (by rfl) _ _ _ (by rfl) (w.heap.size + 1) 0 #[.int .i64 ((mvN cols rows) n).kind, .int .i64 ((mvN cols rows) n).num, .string ⟨((mvN cols rows) n).text.toArray⟩, .int .i64 ((mvN cols rows) n).frm, .int .i64 ((mvN cols rows) n).tor, .slice q i cp] (by rfl) (by rfl) (block_there HN0.out 6 (Nat.le_refl _)) (by kernel_rfl) (by simp [Value.oneCell']) ?_
            have e8 : wr.setCells (w.heap.size + 1) 0 (#[.int .i64 ((mvN cols rows) n).kind, .int .i64 ((mvN cols rows) n).num, .string ⟨((mvN cols rows) n).text.toArray⟩, .int .i64 ((mvN cols rows) n).frm, .int .i64 ((mvN cols rows) n).tor, .slice q i cp]).toList = wr.setCells (w.heap.size + 1) 0 (ndA ((mvN cols rows) n) q i cp).toList := rfl
            rw [e8]
            clear e8
            have HS8 : Hid (BlkC (wr.setCells (w.heap.size + 1) 0 (ndA ((mvN cols rows) n) q i cp).toList) (w.heap.size + 1) (ndA ((mvN cols rows) n) q i cp) tRn) := store_block HN0.out _ rfl
            have HB8 : Hid (Below w.heap.size w (wr.setCells (w.heap.size + 1) 0 (ndA ((mvN cols rows) n) q i cp).toList)) := store_below (by omega) _ _ _ HBL.out
            have hz8 := (store_below (Nat.zero_le (w.heap.size + 1)) (ndA ((mvN cols rows) n) q i cp).toList 0 wr (Below.refl 0 wr)).size
            have HO8 : Hid (∀ k, k ≠ w.heap.size + 1 → (wr.setCells (w.heap.size + 1) 0 (ndA ((mvN cols rows) n) q i cp).toList).heap[k]? = wr.heap[k]?) := fun k hk => store_other hk _ _ _
            generalize wr.setCells (w.heap.size + 1) 0 (ndA ((mvN cols rows) n) q i cp).toList = w9 at HS8 HB8 HO8 hz8 ⊢
            go_simp
            iterate 3 (first | go_values | go_skip | go_guarded | go_step | go_upon)
            apply wp_ret
            try simp only [Exit.inBlock, Exit.then]
            refine bodyPost_ret (results_cell_row rfl _ _ (w.heap.size + 1) tRn (ndA ((mvN cols rows) n) q i cp) (0, 0) _ rfl HS8.out Tryz.underlying36 rfl (by kernel_rfl)) rfl ⟨⟨q, _, cp, rfl, ?_⟩, HB8.out⟩
            cases d with
            | zero =>
              have h := HRD.out
              refine ⟨?_, h.2⟩
              rw [HGA.out, h.1]; rfl
            | succ d =>
              subst hla
              obtain ⟨q', cp', hv, hr⟩ := RdP.of_rowR (n := ((mvN cols rows) n)) (d := d) (ok := fun b => base ≤ b ∧ b < wr.heap.size) HOW.out (by rw [HAC.out, List.take_of_length_le (by rw [HAL.out]; exact Nat.le_refl _)]; exact HGA.out.symm) (fun x hx => RdP.carry (fun b hb => ⟨⟨hb.1, hb.2.1⟩, rfl⟩) (HKD.out d rfl x hx)) (fun b hb => HOW.out.lt b hb)
              cases hv
              exact RdP.carry (fun b hb => ⟨⟨by omega, by omega⟩, HO8.out b (by omega)⟩) hr
  · have b4 : (n.kind == 4) = false := by simpa using h4
    by_cases h3 : n.kind = 3
    · have b3 : (n.kind == 3) = true := by simpa using h3
      obtain ⟨F1, hF1⟩ : ∃ x, mvC cols rows n.frm = x := ⟨_, rfl⟩
      have HOF2 := Lib.hid (HOF.out (.inl h3))
      rw [hF1] at HOF2
      have HF1 := Lib.hid hF1
      clear HOF HOT hF1
      obtain ⟨c0, c1, c2, c3, c4, c5⟩ := HN1.out.cells
      go_wp2_with fail
      refine (HOF2.out w1).mono ?_
      rintro e wa ⟨rfl, hb⟩
      have HNa := Lib.hid (HN1.out.below hb)
      have HZa := Lib.hid (HZ1.out.below hb)
      have HLa := Lib.hid (HL1.out.below hb)
      have HBa : Hid (Below w.heap.size w wa) := bel_call hb HB1.out HB1.out.size
      clear hb c0 c1 c2 c3 c4 c5 HN1 HZ1 HL1 HB1
      have l3 : wa.cell? ⟨w.heap.size + 2, 3, none⟩ = some (.int .i64 0) := HLa.out.cell 3 _ rfl
      have z3 := HLa.out.fz 3
      have hla : w.heap.size + 2 < wa.heap.size := lt_some HLa.out
      go_upto_region 4 with fail
      have HL3 : Hid (BlkC (wa.setCell ⟨w.heap.size + 2, 3, none⟩ (.int .i64 F1)) (w.heap.size + 2) #[.int .i64 n.kind, .int .i64 n.num, .string ⟨n.text.toArray⟩, .int .i64 F1, .int .i64 0, .slice none 0 0] tRn) := block_setCell HLa.out _
      have hb2 : Below (w.heap.size + 2) wa (wa.setCell ⟨w.heap.size + 2, 3, none⟩ (.int .i64 F1)) := (Below.refl _ _).setCell (p := ⟨w.heap.size + 2, 3, none⟩) (Nat.le_refl _) _
      have HN3 : Hid (NdB tRn (wa.setCell ⟨w.heap.size + 2, 3, none⟩ (.int .i64 F1)) w.heap.size n p len cap) := (hb2.block _ (by omega)).trans HNa.out
      have HZ3 : Hid (BlkC (wa.setCell ⟨w.heap.size + 2, 3, none⟩ (.int .i64 F1)) (w.heap.size + 1) (ndA nodeZ none 0 0) tRn) := (hb2.block _ (by omega)).trans HZa.out
      have HB3 : Hid (Below w.heap.size w (wa.setCell ⟨w.heap.size + 2, 3, none⟩ (.int .i64 F1))) := HBa.out.trans (hb2.mono (by omega))
      clear hb2 l3 z3 hla HNa HZa HLa HBa
      generalize (wa.setCell ⟨w.heap.size + 2, 3, none⟩ (.int .i64 F1)) = w3 at HL3 HN3 HZ3 HB3 ⊢
      have l3 : w3.cell? ⟨w.heap.size + 2, 3, none⟩ = some (.int .i64 F1) := HL3.out.cell 3 _ rfl
      clear HOF2
      by_cases hz1 : F1 = 0
      · have hz2 : (F1 == 0) = true := by simpa using hz1
        go_upto_region 5 with fail
        have HM : Hid (mvN cols rows n = fltN) := mvN_flt (.inl ⟨.inl h3, by rw [HF1.out]; exact hz1⟩)
        refine wp_region_lit ?_
        refine wpList_plain rfl fun K hK => ?_
        go_simp
        refine hK _ _ ?_
        clear hK K
        refine wpList_store_mid (by rfl) _ _ _ (by rfl) (w.heap.size + 1) 0 #[.int .i64 8, .int .i64 0, .string ⟨#[]⟩, .int .i64 0, .int .i64 0, .slice none 0 0] (by rfl) (by rfl) (block_there HZ3.out 6 (Nat.le_refl _)) (by kernel_rfl) (by simp [Value.oneCell']) ?_
        have e8 : w3.setCells (w.heap.size + 1) 0 (#[.int .i64 8, .int .i64 0, .string ⟨#[]⟩, .int .i64 0, .int .i64 0, .slice none 0 0]).toList = w3.setCells (w.heap.size + 1) 0 (ndA fltN none 0 0).toList := rfl
        rw [e8]
        clear e8
        have HS8 : Hid (BlkC (w3.setCells (w.heap.size + 1) 0 (ndA fltN none 0 0).toList) (w.heap.size + 1) (ndA fltN none 0 0) tRn) := store_block HZ3.out _ rfl
        have HB8 : Hid (Below w.heap.size w (w3.setCells (w.heap.size + 1) 0 (ndA fltN none 0 0).toList)) := store_below (by omega) _ _ _ HB3.out
        generalize w3.setCells (w.heap.size + 1) 0 (ndA fltN none 0 0).toList = w9 at HS8 HB8 ⊢
        clear HN3 HZ3 HL3 HB3
        go_simp
        go_wp2_with fail
        try simp only [Exit.inBlock, Exit.then]
        rw [HM.out]
        exact bodyPost_ret (results_cell_row rfl _ _ (w.heap.size + 1) tRn (ndA fltN none 0 0) (0, 0) _ rfl HS8.out Tryz.underlying36 rfl (by kernel_rfl)) rfl ⟨⟨none, 0, 0, rfl, rdp6_leaf _ _ rfl _ _⟩, HB8.out⟩
      · have hz2 : (F1 == 0) = false := by simpa using hz1
        rw [← HF1.out] at hz1 HL3
        obtain ⟨c0, c1, c2, c3, c4, c5⟩ := HN3.out.cells
        go_upto_region 10 with fail
        clear c0 c1 c2 c3 c4 c5
        have HGO := mvN_go (cols := cols) (rows := rows) (n := n) (by omega)
        have HGA : Hid ((mvN cols rows n).args = n.args.map (mvN cols rows)) := by unfold Hid; rw [HGO]; rfl
        have HE : Hid (ndA (mvN cols rows n) none 0 0 = #[.int .i64 n.kind, .int .i64 n.num, .string ⟨n.text.toArray⟩, .int .i64 (mvC cols rows n.frm), .int .i64 0, .slice none 0 0]) := by
          unfold Hid
          rw [HGO]
          first | rw [if_pos (by omega), if_pos (by omega)] | rw [if_pos (by omega), if_neg (by omega)] | rw [if_neg (by omega), if_neg (by omega)]
          rfl
        rw [← HE.out] at HL3
        clear HGO HE
        have hLb : w.heap.size + 2 < w3.heap.size := lt_some HL3.out
        have hLH : w.heap.size + 1 < w.heap.size + 2 := by omega
        have hH1 : w.heap.size + 1 < w3.heap.size := by omega
        obtain ⟨L, hLe⟩ : ∃ L, w.heap.size + 2 = L := ⟨_, rfl⟩
        rw [hLe] at HL3 hLb hLH ⊢
        clear hLe
        obtain ⟨base, hbase⟩ : ∃ base, w3.heap.size = base := ⟨_, rfl⟩
        have HB0 := Lib.hid hbase
        rw [hbase] at hLb hH1
        clear hbase
        obtain ⟨i0, hi, hz0, hz1, hz2⟩ := info_of info_rn
        go_wp2_with fail
        go_loopg [8] len (fun g v wr => ∃ (i : Nat) (acc : List Kid) (q : Option Addr) (cp : Nat), i + g = len ∧ v = .int .i64 i ∧ acc.map Prod.fst = (n.args.take i).map (mvN cols rows) ∧ NdB tRn wr w.heap.size n p len cap ∧ BlkC wr (w.heap.size + 1) (ndA nodeZ none 0 0) tRn ∧ BlkC wr L (ndA ((mvN cols rows) n) q i cp) tRn ∧ wr.ownsRow base tRn 6 (.slice q i cp) i (acc.flatMap kidC) ∧ (∀ d', d = d' + 1 → ∀ x ∈ acc, RdP wr (okMmf base wr (.slice q i cp)) d' x.1 x.2.1 x.2.2.1) ∧ Below w.heap.size w wr ∧ base ≤ wr.heap.size)
        case atStart => exact ⟨0, [], none, 0, by omega, rfl, rfl, HN3.out, HZ3.out, HL3.out, World.ownsRow_nil _ _ _ _, fun _ _ x hx => (by cases hx), HB3.out, by rw [HB0.out]; exact Nat.le_refl _⟩
        case round =>
          obtain ⟨i, acc, q, cp, hig, rfl, hacc, hn1, hn0, hn2, hown, hkid, hbel, hbs⟩ := hrel
          have HAC := Lib.hid hacc
          have HN1 := Lib.hid hn1
          have HN0 := Lib.hid hn0
          have HN2 := Lib.hid hn2
          have HOW := Lib.hid hown
          have HKD := Lib.hid hkid
          have HBL := Lib.hid hbel
          have hzr := hbel.size
          clear hacc hn1 hn0 hn2 hown hkid hbel HN3 HZ3 HL3 HB3 HB0
          obtain ⟨a0, a1, a2, a3, a4, a5⟩ := HN1.out.cells
          have b5 : wr.cell? ⟨L, 5, none⟩ = some (.slice q i cp) := HN2.out.cell 5 _ rfl
          by_cases hlt : i < len
          · have hli : (i : Int) < (len : Int) := by omega
            obtain ⟨d', b, off, c, p', l', c', hd, rfl, hbN, hc, hrc, q0, q1, q2, q3, q4, q5⟩ := (HRD.out.below HBL.out).at hlt
            have HC : Hid (mfC cols rows d') := HIH.out d' hd
            have HCO := Lib.hid (HOK.out c (mem_at hc))
            have A5 := Kept.cell (N := base) a5 (by omega)
            have B5 := Kept.cell (N := base) b5 (by omega)
            have Q0 := Kept.cell (N := base) q0 (by omega)
            have Q1 := Kept.cell (N := base) q1 (by omega)
            have Q2 := Kept.cell (N := base) q2 (by omega)
            have Q3 := Kept.cell (N := base) q3 (by omega)
            have Q4 := Kept.cell (N := base) q4 (by omega)
            have Q5 := Kept.cell (N := base) q5 (by omega)
            go_upto_region 13 with fail
            refine wp_region_schedT (fun wx => ∃ x : Kept base wr, wx = x.v) 13 [([0,1,2,3,4,5,6,7,8],9),([],10),([],11)] [12] (by kernel_rfl) (by kernel_rfl) (by kernel_rfl) (by kernel_rfl) (kept_drew _ _ (by omega)) ?_
            (unfold wpSegK; simp only [pick_nil, pick_cons, nthO_zero, nthO_succ, List.append])
            clear a0 a1 a2 a3 a4 a5 b5 q0 q1 q2 q3 q4 q5
            repeat (go_big_quiet_step (fail))
            refine wpQuiet_nil ?_
            have HRC := Lib.hid hrc
            have HHC := Lib.hid hc
            have HHD := Lib.hid hd
            clear hrc hc hd
            have HCC := Lib.hid (HC.out c p' l' c' wr.drew ((HRC.out.below (Below.drew (Below.refl _ _))).mono hzr) HCO.out)
            rw [ndA_eq c p' l' c'] at HCC
            go_wp2_with fail
            refine HCC.out.mono ?_
            rintro e w3 ⟨⟨p2, l2, c2, rfl, hk3⟩, hb3⟩
            have hb4 : Hid (Below wr.heap.size wr w3) := bel_call hb3 (Below.drew (Below.refl _ _)) (Nat.le_refl _)
            have HK3 := Lib.hid hk3
            rw [show Value.agg (ndA ((mvN cols rows) c) p2 l2 c2) = .agg #[.int .i64 ((mvN cols rows) c).kind, .int .i64 ((mvN cols rows) c).num, .string ⟨((mvN cols rows) c).text.toArray⟩, .int .i64 ((mvN cols rows) c).frm, .int .i64 ((mvN cols rows) c).tor, .slice p2 l2 c2] from rfl]
            clear HCC hk3 hb3
            go_wp2_with fail
            have hB3 : Hid (Below base wr w3) := hb4.out.mono (by omega)
            refine ⟨rfl, ⟨⟨w3, hB3.out⟩, rfl⟩, ?_⟩
            (unfold wpSegK; simp only [pick_nil, pick_cons, nthO_zero, nthO_succ, List.append])
            refine wpQuiet_nil ?_
            go_wp2_with fail
            have e4 : w3.alloc (.cells #[.int .i64 ((mvN cols rows) c).kind, .int .i64 ((mvN cols rows) c).num, .string ⟨((mvN cols rows) c).text.toArray⟩, .int .i64 ((mvN cols rows) c).frm, .int .i64 ((mvN cols rows) c).tor, .slice p2 l2 c2] tRn) = w3.alloc (.cells (ndA ((mvN cols rows) c) p2 l2 c2) tRn) := rfl
            rw [e4]
            clear e4
            refine ⟨rfl, ⟨⟨_, hB3.out.alloc (by have := hb4.out.size; omega) _⟩, rfl⟩, ?_⟩
            (unfold wpSegK; simp only [pick_nil, pick_cons, nthO_zero, nthO_succ, List.append])
            refine wpQuiet_nil ?_
            have HRW := Lib.hid (row_below HOW.out hb4.out)
            refine wpList_append_own_at _ rfl _ _ _ rfl base tRn i0 _ 6 72 Tryz.underlying34 hi hz0 hz1 hz2 rfl (by decide) _ _ _ rfl (HRW.out.alloc _) ⟨w3.heap.size, 0, none⟩ 1 1 (ndC ((mvN cols rows) c) p2 l2 c2) rfl rfl (newRn w3 ((mvN cols rows) c) p2 l2 c2) ?c2 ?c3 ?c4 ?c5 ?_
            case c2 => exact kidC_one (((mvN cols rows) c), p2, l2, c2)
            case c3 => unfold maxLen; omega
            case c4 => omega
            case c5 => rw [World.size_alloc]; have := hb4.out.size; omega
            intro v' w5 hown5 hgrow5 _ hat5
            have hB5 : Hid (Below base wr w5) := (hB3.out.alloc (by have := hb4.out.size; omega) _).grown hgrow5 (by rw [World.size_alloc]; have := hb4.out.size; omega) (fun k hk => (HRW.out.lt k hk).1)
            have HOW5 : Hid (w5.ownsRow base tRn 6 v' (i + 1) ((acc ++ [(((mvN cols rows) c), p2, l2, c2)]).flatMap kidC)) := by
              unfold Hid
              rw [flat_snoc]
              exact hown5
            have hla : acc.length = i := by
              have h := congrArg List.length HAC.out
              simp only [List.length_map, List.length_take] at h
              rw [HAL.out] at h
              omega
            obtain ⟨q5, cp5, hv5, _, _, _, _⟩ := RdG.of_own kidC_len (by rw [List.length_append, List.length_singleton, hla]) HOW5.out
            subst hv5
            have HN5 : Hid (BlkC w5 L (ndA ((mvN cols rows) n) q i cp) tRn) := (hB5.out.block _ hLb).trans HN2.out
            have HKN := Lib.hid (kidsMmf (G := L) (u := .slice q5 (i + 1) cp5) (c2 := c2) hLb hbs hb4.out hgrow5 hat5 (fun b e => (HOW.out.lt b e).2) (HKD.out d' HHD.out) HK3.out)
            have hs5 := hB5.out.size
            clear hown5 hgrow5 hat5 HRW HK3 HKD HCO HC HIH HOK A5 B5 Q0 Q1 Q2 Q3 Q4 Q5
            have e5 : w5.cell? ⟨L, 5, none⟩ = some (.slice q i cp) := HN5.out.cell 5 _ rfl
            have g5 := HN5.out.fz 5
            go_wp2_with fail
            refine ⟨rfl, ⟨⟨w5, hB5.out⟩, rfl⟩, ?_⟩
            (unfold wpSegK; simp only [pick_nil, pick_cons, nthO_zero, nthO_succ, List.append])
            repeat (go_big_quiet_step (fail))
            refine wpQuiet_nil ?_
            go_wp2_with fail
            refine ⟨rfl, ?_⟩
            have HP6 : Hid (BlkC (w5.setCell ⟨L, 5, none⟩ (.slice q5 (i + 1) cp5)) L (ndA ((mvN cols rows) n) q5 (i + 1) cp5) tRn) := block_setCell HN5.out _
            have HR6 : Hid (NdB tRn (w5.setCell ⟨L, 5, none⟩ (.slice q5 (i + 1) cp5)) w.heap.size n (some ⟨b, off, none⟩) len cap) := by
              unfold Hid NdB
              rw [heap_setCell_other _ _ _ _ (by show w.heap.size ≠ L; omega), hB5.out.block _ (by omega)]
              exact HN1.out
            have HZ6 : Hid (BlkC (w5.setCell ⟨L, 5, none⟩ (.slice q5 (i + 1) cp5)) (w.heap.size + 1) (ndA nodeZ none 0 0) tRn) := by
              unfold Hid BlkC
              rw [heap_setCell_other _ _ _ _ (by show w.heap.size + 1 ≠ L; omega), hB5.out.block _ (by omega)]
              exact HN0.out
            have HW6 : Hid ((w5.setCell ⟨L, 5, none⟩ (.slice q5 (i + 1) cp5)).ownsRow base tRn 6 (.slice q5 (i + 1) cp5) (i + 1) ((acc ++ [(((mvN cols rows) c), p2, l2, c2)]).flatMap kidC)) :=
              row_carry HOW5.out (fun b hb => heap_setCell_other _ _ _ _ (by have := (HOW5.out.lt b hb).1; show b ≠ L; omega))
            have HL6 : Hid (Below w.heap.size w (w5.setCell ⟨L, 5, none⟩ (.slice q5 (i + 1) cp5))) := (HBL.out.trans (hB5.out.mono (by omega))).setCell (by show w.heap.size ≤ L; omega) _
            have hz6 : base ≤ (w5.setCell ⟨L, 5, none⟩ (.slice q5 (i + 1) cp5)).heap.size := by rw [World.size_setCell]; omega
            have HAN : Hid ((acc ++ [(((mvN cols rows) c), p2, l2, c2)]).map Prod.fst = (n.args.take (i + 1)).map (mvN cols rows)) := by
              unfold Hid
              rw [List.map_append, HAC.out, List.take_add_one, HHC.out]
              simp
            generalize w5.setCell ⟨L, 5, none⟩ (.slice q5 (i + 1) cp5) = w6 at HP6 HR6 HZ6 HW6 HL6 HKN hz6 ⊢
            clear HHC HN5 HN0 HN1 HN2 HOW HOW5 hB5 hB3 hb4 e5 g5 HBL
            go_wp2_with fail
            go_roundg (gk - 1)
            case measure => omega
            case rel =>
              refine ⟨i + 1, acc ++ [(((mvN cols rows) c), p2, l2, c2)], q5, cp5, by omega, by go_num, HAN.out, HR6.out, HZ6.out, HP6.out, HW6.out, fun d'' hd x hx => ?_, HL6.out, hz6⟩
              obtain rfl : d' = d'' := by have := HHD.out; omega
              exact HKN.out x hx
          · obtain rfl : i = len := by omega
            have hli : ¬ (i : Int) < (i : Int) := by omega
            have hla : acc.length = i := by
              have h := congrArg List.length HAC.out
              simp only [List.length_map, List.length_take] at h
              rw [HAL.out] at h
              omega
            clear a0 a1 a2 a3 a4 b5
            go_upto_region 14 with fail
            refine wp_region_lit ?_
            refine wpList_load_mid (by rfl) _ _ (by rfl) L 0 (by rfl) [.int .i64 ((mvN cols rows) n).kind, .int .i64 ((mvN cols rows) n).num, .string ⟨((mvN cols rows) n).text.toArray⟩, .int .i64 ((mvN cols rows) n).frm, .int .i64 ((mvN cols rows) n).tor, .slice q i cp] _ (block_range HN2.out [.int .i64 ((mvN cols rows) n).kind, .int .i64 ((mvN cols rows) n).num, .string ⟨((mvN cols rows) n).text.toArray⟩, .int .i64 ((mvN cols rows) n).frm, .int .i64 ((mvN cols rows) n).tor, .slice q i cp] rfl) Tryz.underlying36 rfl (by kernel_rfl) ?_
            go_simp
            refine wpList_store_mid (by rfl) _ _ _ (by rfl) (w.heap.size + 1) 0 #[.int .i64 ((mvN cols rows) n).kind, .int .i64 ((mvN cols rows) n).num, .string ⟨((mvN cols rows) n).text.toArray⟩, .int .i64 ((mvN cols rows) n).frm, .int .i64 ((mvN cols rows) n).tor, .slice q i cp] (by rfl) (by rfl) (block_there HN0.out 6 (Nat.le_refl _)) (by kernel_rfl) (by simp [Value.oneCell']) ?_
            have e8 : wr.setCells (w.heap.size + 1) 0 (#[.int .i64 ((mvN cols rows) n).kind, .int .i64 ((mvN cols rows) n).num, .string ⟨((mvN cols rows) n).text.toArray⟩, .int .i64 ((mvN cols rows) n).frm, .int .i64 ((mvN cols rows) n).tor, .slice q i cp]).toList = wr.setCells (w.heap.size + 1) 0 (ndA ((mvN cols rows) n) q i cp).toList := rfl
            rw [e8]
            clear e8
            have HS8 : Hid (BlkC (wr.setCells (w.heap.size + 1) 0 (ndA ((mvN cols rows) n) q i cp).toList) (w.heap.size + 1) (ndA ((mvN cols rows) n) q i cp) tRn) := store_block HN0.out _ rfl
            have HB8 : Hid (Below w.heap.size w (wr.setCells (w.heap.size + 1) 0 (ndA ((mvN cols rows) n) q i cp).toList)) := store_below (by omega) _ _ _ HBL.out
            have hz8 := (store_below (Nat.zero_le (w.heap.size + 1)) (ndA ((mvN cols rows) n) q i cp).toList 0 wr (Below.refl 0 wr)).size
            have HO8 : Hid (∀ k, k ≠ w.heap.size + 1 → (wr.setCells (w.heap.size + 1) 0 (ndA ((mvN cols rows) n) q i cp).toList).heap[k]? = wr.heap[k]?) := fun k hk => store_other hk _ _ _
            generalize wr.setCells (w.heap.size + 1) 0 (ndA ((mvN cols rows) n) q i cp).toList = w9 at HS8 HB8 HO8 hz8 ⊢
            go_simp
            iterate 3 (first | go_values | go_skip | go_guarded | go_step | go_upon)
            apply wp_ret
            try simp only [Exit.inBlock, Exit.then]
            refine bodyPost_ret (results_cell_row rfl _ _ (w.heap.size + 1) tRn (ndA ((mvN cols rows) n) q i cp) (0, 0) _ rfl HS8.out Tryz.underlying36 rfl (by kernel_rfl)) rfl ⟨⟨q, _, cp, rfl, ?_⟩, HB8.out⟩
            cases d with
            | zero =>
              have h := HRD.out
              refine ⟨?_, h.2⟩
              rw [HGA.out, h.1]; rfl
            | succ d =>
              subst hla
              obtain ⟨q', cp', hv, hr⟩ := RdP.of_rowR (n := ((mvN cols rows) n)) (d := d) (ok := fun b => base ≤ b ∧ b < wr.heap.size) HOW.out (by rw [HAC.out, List.take_of_length_le (by rw [HAL.out]; exact Nat.le_refl _)]; exact HGA.out.symm) (fun x hx => RdP.carry (fun b hb => ⟨⟨hb.1, hb.2.1⟩, rfl⟩) (HKD.out d rfl x hx)) (fun b hb => HOW.out.lt b hb)
              cases hv
              exact RdP.carry (fun b hb => ⟨⟨by omega, by omega⟩, HO8.out b (by omega)⟩) hr
    · have b3 : (n.kind == 3) = false := by simpa using h3
      obtain ⟨w3, hw3⟩ : ∃ w3, w1 = w3 := ⟨_, rfl⟩
      rw [hw3] at HN1 HZ1 HL1 HB1 ⊢
      clear hw3
      have HN3 := HN1
      have HZ3 := HZ1
      have HL3 : Hid (BlkC w3 (w.heap.size + 2) #[.int .i64 n.kind, .int .i64 n.num, .string ⟨n.text.toArray⟩, .int .i64 0, .int .i64 0, .slice none 0 0] tRn) := HL1.out
      have HB3 := HB1
      clear HOF HOT HN1 HZ1 HL1 HB1
      obtain ⟨c0, c1, c2, c3, c4, c5⟩ := HN3.out.cells
      go_upto_region 10 with fail
      clear c0 c1 c2 c3 c4 c5
      have HGO := mvN_go (cols := cols) (rows := rows) (n := n) (by omega)
      have HGA : Hid ((mvN cols rows n).args = n.args.map (mvN cols rows)) := by unfold Hid; rw [HGO]; rfl
      have HE : Hid (ndA (mvN cols rows n) none 0 0 = #[.int .i64 n.kind, .int .i64 n.num, .string ⟨n.text.toArray⟩, .int .i64 0, .int .i64 0, .slice none 0 0]) := by
        unfold Hid
        rw [HGO]
        first | rw [if_pos (by omega), if_pos (by omega)] | rw [if_pos (by omega), if_neg (by omega)] | rw [if_neg (by omega), if_neg (by omega)]
        rfl
      rw [← HE.out] at HL3
      clear HGO HE
      have hLb : w.heap.size + 2 < w3.heap.size := lt_some HL3.out
      have hLH : w.heap.size + 1 < w.heap.size + 2 := by omega
      have hH1 : w.heap.size + 1 < w3.heap.size := by omega
      obtain ⟨L, hLe⟩ : ∃ L, w.heap.size + 2 = L := ⟨_, rfl⟩
      rw [hLe] at HL3 hLb hLH ⊢
      clear hLe
      obtain ⟨base, hbase⟩ : ∃ base, w3.heap.size = base := ⟨_, rfl⟩
      have HB0 := Lib.hid hbase
      rw [hbase] at hLb hH1
      clear hbase
      obtain ⟨i0, hi, hz0, hz1, hz2⟩ := info_of info_rn
      go_wp2_with fail
      go_loopg [8] len (fun g v wr => ∃ (i : Nat) (acc : List Kid) (q : Option Addr) (cp : Nat), i + g = len ∧ v = .int .i64 i ∧ acc.map Prod.fst = (n.args.take i).map (mvN cols rows) ∧ NdB tRn wr w.heap.size n p len cap ∧ BlkC wr (w.heap.size + 1) (ndA nodeZ none 0 0) tRn ∧ BlkC wr L (ndA ((mvN cols rows) n) q i cp) tRn ∧ wr.ownsRow base tRn 6 (.slice q i cp) i (acc.flatMap kidC) ∧ (∀ d', d = d' + 1 → ∀ x ∈ acc, RdP wr (okMmf base wr (.slice q i cp)) d' x.1 x.2.1 x.2.2.1) ∧ Below w.heap.size w wr ∧ base ≤ wr.heap.size)
      case atStart => exact ⟨0, [], none, 0, by omega, rfl, rfl, HN3.out, HZ3.out, HL3.out, World.ownsRow_nil _ _ _ _, fun _ _ x hx => (by cases hx), HB3.out, by rw [HB0.out]; exact Nat.le_refl _⟩
      case round =>
        obtain ⟨i, acc, q, cp, hig, rfl, hacc, hn1, hn0, hn2, hown, hkid, hbel, hbs⟩ := hrel
        have HAC := Lib.hid hacc
        have HN1 := Lib.hid hn1
        have HN0 := Lib.hid hn0
        have HN2 := Lib.hid hn2
        have HOW := Lib.hid hown
        have HKD := Lib.hid hkid
        have HBL := Lib.hid hbel
        have hzr := hbel.size
        clear hacc hn1 hn0 hn2 hown hkid hbel HN3 HZ3 HL3 HB3 HB0
        obtain ⟨a0, a1, a2, a3, a4, a5⟩ := HN1.out.cells
        have b5 : wr.cell? ⟨L, 5, none⟩ = some (.slice q i cp) := HN2.out.cell 5 _ rfl
        by_cases hlt : i < len
        · have hli : (i : Int) < (len : Int) := by omega
          obtain ⟨d', b, off, c, p', l', c', hd, rfl, hbN, hc, hrc, q0, q1, q2, q3, q4, q5⟩ := (HRD.out.below HBL.out).at hlt
          have HC : Hid (mfC cols rows d') := HIH.out d' hd
          have HCO := Lib.hid (HOK.out c (mem_at hc))
          have A5 := Kept.cell (N := base) a5 (by omega)
          have B5 := Kept.cell (N := base) b5 (by omega)
          have Q0 := Kept.cell (N := base) q0 (by omega)
          have Q1 := Kept.cell (N := base) q1 (by omega)
          have Q2 := Kept.cell (N := base) q2 (by omega)
          have Q3 := Kept.cell (N := base) q3 (by omega)
          have Q4 := Kept.cell (N := base) q4 (by omega)
          have Q5 := Kept.cell (N := base) q5 (by omega)
          go_upto_region 13 with fail
          refine wp_region_schedT (fun wx => ∃ x : Kept base wr, wx = x.v) 13 [([0,1,2,3,4,5,6,7,8],9),([],10),([],11)] [12] (by kernel_rfl) (by kernel_rfl) (by kernel_rfl) (by kernel_rfl) (kept_drew _ _ (by omega)) ?_
          (unfold wpSegK; simp only [pick_nil, pick_cons, nthO_zero, nthO_succ, List.append])
          clear a0 a1 a2 a3 a4 a5 b5 q0 q1 q2 q3 q4 q5
          repeat (go_big_quiet_step (fail))
          refine wpQuiet_nil ?_
          have HRC := Lib.hid hrc
          have HHC := Lib.hid hc
          have HHD := Lib.hid hd
          clear hrc hc hd
          have HCC := Lib.hid (HC.out c p' l' c' wr.drew ((HRC.out.below (Below.drew (Below.refl _ _))).mono hzr) HCO.out)
          rw [ndA_eq c p' l' c'] at HCC
          go_wp2_with fail
          refine HCC.out.mono ?_
          rintro e w3 ⟨⟨p2, l2, c2, rfl, hk3⟩, hb3⟩
          have hb4 : Hid (Below wr.heap.size wr w3) := bel_call hb3 (Below.drew (Below.refl _ _)) (Nat.le_refl _)
          have HK3 := Lib.hid hk3
          rw [show Value.agg (ndA ((mvN cols rows) c) p2 l2 c2) = .agg #[.int .i64 ((mvN cols rows) c).kind, .int .i64 ((mvN cols rows) c).num, .string ⟨((mvN cols rows) c).text.toArray⟩, .int .i64 ((mvN cols rows) c).frm, .int .i64 ((mvN cols rows) c).tor, .slice p2 l2 c2] from rfl]
          clear HCC hk3 hb3
          go_wp2_with fail
          have hB3 : Hid (Below base wr w3) := hb4.out.mono (by omega)
          refine ⟨rfl, ⟨⟨w3, hB3.out⟩, rfl⟩, ?_⟩
          (unfold wpSegK; simp only [pick_nil, pick_cons, nthO_zero, nthO_succ, List.append])
          refine wpQuiet_nil ?_
          go_wp2_with fail
          have e4 : w3.alloc (.cells #[.int .i64 ((mvN cols rows) c).kind, .int .i64 ((mvN cols rows) c).num, .string ⟨((mvN cols rows) c).text.toArray⟩, .int .i64 ((mvN cols rows) c).frm, .int .i64 ((mvN cols rows) c).tor, .slice p2 l2 c2] tRn) = w3.alloc (.cells (ndA ((mvN cols rows) c) p2 l2 c2) tRn) := rfl
          rw [e4]
          clear e4
          refine ⟨rfl, ⟨⟨_, hB3.out.alloc (by have := hb4.out.size; omega) _⟩, rfl⟩, ?_⟩
          (unfold wpSegK; simp only [pick_nil, pick_cons, nthO_zero, nthO_succ, List.append])
          refine wpQuiet_nil ?_
          have HRW := Lib.hid (row_below HOW.out hb4.out)
          refine wpList_append_own_at _ rfl _ _ _ rfl base tRn i0 _ 6 72 Tryz.underlying34 hi hz0 hz1 hz2 rfl (by decide) _ _ _ rfl (HRW.out.alloc _) ⟨w3.heap.size, 0, none⟩ 1 1 (ndC ((mvN cols rows) c) p2 l2 c2) rfl rfl (newRn w3 ((mvN cols rows) c) p2 l2 c2) ?c2 ?c3 ?c4 ?c5 ?_
          case c2 => exact kidC_one (((mvN cols rows) c), p2, l2, c2)
          case c3 => unfold maxLen; omega
          case c4 => omega
          case c5 => rw [World.size_alloc]; have := hb4.out.size; omega
          intro v' w5 hown5 hgrow5 _ hat5
          have hB5 : Hid (Below base wr w5) := (hB3.out.alloc (by have := hb4.out.size; omega) _).grown hgrow5 (by rw [World.size_alloc]; have := hb4.out.size; omega) (fun k hk => (HRW.out.lt k hk).1)
          have HOW5 : Hid (w5.ownsRow base tRn 6 v' (i + 1) ((acc ++ [(((mvN cols rows) c), p2, l2, c2)]).flatMap kidC)) := by
            unfold Hid
            rw [flat_snoc]
            exact hown5
          have hla : acc.length = i := by
            have h := congrArg List.length HAC.out
            simp only [List.length_map, List.length_take] at h
            rw [HAL.out] at h
            omega
          obtain ⟨q5, cp5, hv5, _, _, _, _⟩ := RdG.of_own kidC_len (by rw [List.length_append, List.length_singleton, hla]) HOW5.out
          subst hv5
          have HN5 : Hid (BlkC w5 L (ndA ((mvN cols rows) n) q i cp) tRn) := (hB5.out.block _ hLb).trans HN2.out
          have HKN := Lib.hid (kidsMmf (G := L) (u := .slice q5 (i + 1) cp5) (c2 := c2) hLb hbs hb4.out hgrow5 hat5 (fun b e => (HOW.out.lt b e).2) (HKD.out d' HHD.out) HK3.out)
          have hs5 := hB5.out.size
          clear hown5 hgrow5 hat5 HRW HK3 HKD HCO HC HIH HOK A5 B5 Q0 Q1 Q2 Q3 Q4 Q5
          have e5 : w5.cell? ⟨L, 5, none⟩ = some (.slice q i cp) := HN5.out.cell 5 _ rfl
          have g5 := HN5.out.fz 5
          go_wp2_with fail
          refine ⟨rfl, ⟨⟨w5, hB5.out⟩, rfl⟩, ?_⟩
          (unfold wpSegK; simp only [pick_nil, pick_cons, nthO_zero, nthO_succ, List.append])
          repeat (go_big_quiet_step (fail))
          refine wpQuiet_nil ?_
          go_wp2_with fail
          refine ⟨rfl, ?_⟩
          have HP6 : Hid (BlkC (w5.setCell ⟨L, 5, none⟩ (.slice q5 (i + 1) cp5)) L (ndA ((mvN cols rows) n) q5 (i + 1) cp5) tRn) := block_setCell HN5.out _
          have HR6 : Hid (NdB tRn (w5.setCell ⟨L, 5, none⟩ (.slice q5 (i + 1) cp5)) w.heap.size n (some ⟨b, off, none⟩) len cap) := by
            unfold Hid NdB
            rw [heap_setCell_other _ _ _ _ (by show w.heap.size ≠ L; omega), hB5.out.block _ (by omega)]
            exact HN1.out
          have HZ6 : Hid (BlkC (w5.setCell ⟨L, 5, none⟩ (.slice q5 (i + 1) cp5)) (w.heap.size + 1) (ndA nodeZ none 0 0) tRn) := by
            unfold Hid BlkC
            rw [heap_setCell_other _ _ _ _ (by show w.heap.size + 1 ≠ L; omega), hB5.out.block _ (by omega)]
            exact HN0.out
          have HW6 : Hid ((w5.setCell ⟨L, 5, none⟩ (.slice q5 (i + 1) cp5)).ownsRow base tRn 6 (.slice q5 (i + 1) cp5) (i + 1) ((acc ++ [(((mvN cols rows) c), p2, l2, c2)]).flatMap kidC)) :=
            row_carry HOW5.out (fun b hb => heap_setCell_other _ _ _ _ (by have := (HOW5.out.lt b hb).1; show b ≠ L; omega))
          have HL6 : Hid (Below w.heap.size w (w5.setCell ⟨L, 5, none⟩ (.slice q5 (i + 1) cp5))) := (HBL.out.trans (hB5.out.mono (by omega))).setCell (by show w.heap.size ≤ L; omega) _
          have hz6 : base ≤ (w5.setCell ⟨L, 5, none⟩ (.slice q5 (i + 1) cp5)).heap.size := by rw [World.size_setCell]; omega
          have HAN : Hid ((acc ++ [(((mvN cols rows) c), p2, l2, c2)]).map Prod.fst = (n.args.take (i + 1)).map (mvN cols rows)) := by
            unfold Hid
            rw [List.map_append, HAC.out, List.take_add_one, HHC.out]
            simp
          generalize w5.setCell ⟨L, 5, none⟩ (.slice q5 (i + 1) cp5) = w6 at HP6 HR6 HZ6 HW6 HL6 HKN hz6 ⊢
          clear HHC HN5 HN0 HN1 HN2 HOW HOW5 hB5 hB3 hb4 e5 g5 HBL
          go_wp2_with fail
          go_roundg (gk - 1)
          case measure => omega
          case rel =>
            refine ⟨i + 1, acc ++ [(((mvN cols rows) c), p2, l2, c2)], q5, cp5, by omega, by go_num, HAN.out, HR6.out, HZ6.out, HP6.out, HW6.out, fun d'' hd x hx => ?_, HL6.out, hz6⟩
            obtain rfl : d' = d'' := by have := HHD.out; omega
            exact HKN.out x hx
        · obtain rfl : i = len := by omega
          have hli : ¬ (i : Int) < (i : Int) := by omega
          have hla : acc.length = i := by
            have h := congrArg List.length HAC.out
            simp only [List.length_map, List.length_take] at h
            rw [HAL.out] at h
            omega
          clear a0 a1 a2 a3 a4 b5
          go_upto_region 14 with fail
          refine wp_region_lit ?_
          refine wpList_load_mid (by rfl) _ _ (by rfl) L 0 (by rfl) [.int .i64 ((mvN cols rows) n).kind, .int .i64 ((mvN cols rows) n).num, .string ⟨((mvN cols rows) n).text.toArray⟩, .int .i64 ((mvN cols rows) n).frm, .int .i64 ((mvN cols rows) n).tor, .slice q i cp] _ (block_range HN2.out [.int .i64 ((mvN cols rows) n).kind, .int .i64 ((mvN cols rows) n).num, .string ⟨((mvN cols rows) n).text.toArray⟩, .int .i64 ((mvN cols rows) n).frm, .int .i64 ((mvN cols rows) n).tor, .slice q i cp] rfl) Tryz.underlying36 rfl (by kernel_rfl) ?_
          go_simp
          refine wpList_store_mid (by rfl) _ _ _ (by rfl) (w.heap.size + 1) 0 #[.int .i64 ((mvN cols rows) n).kind, .int .i64 ((mvN cols rows) n).num, .string ⟨((mvN cols rows) n).text.toArray⟩, .int .i64 ((mvN cols rows) n).frm, .int .i64 ((mvN cols rows) n).tor, .slice q i cp] (by rfl) (by rfl) (block_there HN0.out 6 (Nat.le_refl _)) (by kernel_rfl) (by simp [Value.oneCell']) ?_
          have e8 : wr.setCells (w.heap.size + 1) 0 (#[.int .i64 ((mvN cols rows) n).kind, .int .i64 ((mvN cols rows) n).num, .string ⟨((mvN cols rows) n).text.toArray⟩, .int .i64 ((mvN cols rows) n).frm, .int .i64 ((mvN cols rows) n).tor, .slice q i cp]).toList = wr.setCells (w.heap.size + 1) 0 (ndA ((mvN cols rows) n) q i cp).toList := rfl
          rw [e8]
          clear e8
          have HS8 : Hid (BlkC (wr.setCells (w.heap.size + 1) 0 (ndA ((mvN cols rows) n) q i cp).toList) (w.heap.size + 1) (ndA ((mvN cols rows) n) q i cp) tRn) := store_block HN0.out _ rfl
          have HB8 : Hid (Below w.heap.size w (wr.setCells (w.heap.size + 1) 0 (ndA ((mvN cols rows) n) q i cp).toList)) := store_below (by omega) _ _ _ HBL.out
          have hz8 := (store_below (Nat.zero_le (w.heap.size + 1)) (ndA ((mvN cols rows) n) q i cp).toList 0 wr (Below.refl 0 wr)).size
          have HO8 : Hid (∀ k, k ≠ w.heap.size + 1 → (wr.setCells (w.heap.size + 1) 0 (ndA ((mvN cols rows) n) q i cp).toList).heap[k]? = wr.heap[k]?) := fun k hk => store_other hk _ _ _
          generalize wr.setCells (w.heap.size + 1) 0 (ndA ((mvN cols rows) n) q i cp).toList = w9 at HS8 HB8 HO8 hz8 ⊢
          go_simp
          iterate 3 (first | go_values | go_skip | go_guarded | go_step | go_upon)
          apply wp_ret
          try simp only [Exit.inBlock, Exit.then]
          refine bodyPost_ret (results_cell_row rfl _ _ (w.heap.size + 1) tRn (ndA ((mvN cols rows) n) q i cp) (0, 0) _ rfl HS8.out Tryz.underlying36 rfl (by kernel_rfl)) rfl ⟨⟨q, _, cp, rfl, ?_⟩, HB8.out⟩
          cases d with
          | zero =>
            have h := HRD.out
            refine ⟨?_, h.2⟩
            rw [HGA.out, h.1]; rfl
          | succ d =>
            subst hla
            obtain ⟨q', cp', hv, hr⟩ := RdP.of_rowR (n := ((mvN cols rows) n)) (d := d) (ok := fun b => base ≤ b ∧ b < wr.heap.size) HOW.out (by rw [HAC.out, List.take_of_length_le (by rw [HAL.out]; exact Nat.le_refl _)]; exact HGA.out.symm) (fun x hx => RdP.carry (fun b hb => ⟨⟨hb.1, hb.2.1⟩, rfl⟩) (HKD.out d rfl x hx)) (fun b hb => HOW.out.lt b hb)
            cases hv
            exact RdP.carry (fun b hb => ⟨⟨by omega, by omega⟩, HO8.out b (by omega)⟩) hr
theorem mf_any (cols rows : Int) (hc1 : -9223372036854775808 ≤ cols) (hc2 : cols ≤ 9223372036854775807) (hr1 : -9223372036854775808 ≤ rows) (hr2 : rows ≤ 9223372036854775807) : ∀ d, mfC cols rows d
  | 0 => mf_s cols rows hc1 hc2 hr1 hr2 0 (fun d' h => by omega)
  | d + 1 => mf_s cols rows hc1 hc2 hr1 hr2 (d + 1) (fun d' h => (show d = d' from by omega) ▸ mf_any cols rows hc1 hc2 hr1 hr2 d)
end Go.Proofs.YtbdgdhjhgcpidaaGreatDoor
