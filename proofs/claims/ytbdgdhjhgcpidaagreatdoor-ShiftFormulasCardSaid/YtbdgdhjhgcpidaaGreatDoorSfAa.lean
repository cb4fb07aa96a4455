/- The program's Map over cells, with Move.Cell. Printed by gen_shf.py. -/
import Derived.Test.YtbdgdhjhgcpidaaGreatDoorSfZ
import Derived.Test.YtbdgdhjhgcpidaaGreatDoorSfO
import Derived.Test.YtbdgdhjhgcpidaaGreatDoorSfS
import Derived.Test.YtbdgdhjhgcpidaaGreatDoorSfL
set_option linter.unusedSimpArgs false
set_option linter.unusedVariables false
namespace Go.Proofs.YtbdgdhjhgcpidaaGreatDoor
open Go.RowKit Go.Joins
def okMmp (base : Nat) (w : World) (v : Value) (k : Nat) : Prop := base ≤ k ∧ k < w.heap.size ∧ v.ownBlock ≠ some k
theorem kidsMmp {base G d' l' c2 : Nat} {wr w3 w5 : World} {o : Obj} {v v' u : Value} {acc : List Cel.Kid} {c : Nd} {p2 : Option Addr} (hG : G < base) (hbs : base ≤ wr.heap.size) (hb : Below wr.heap.size wr w3) (hg : (w3.alloc o).grownBy w5 v.ownBlock)
    (hat : v'.ownBlock = v.ownBlock ∨ v'.ownBlock = some (w3.alloc o).heap.size) (hlt : ∀ b, v.ownBlock = some b → b < wr.heap.size) (hk : ∀ x ∈ acc, Cel.RdP wr (okMmp base wr v) d' x.1 x.2.1 x.2.2.1)
    (hn : Cel.RdP w3 (fun b => wr.heap.size ≤ b ∧ b < w3.heap.size) d' c p2 l') :
    ∀ x ∈ acc ++ [(c, p2, l', c2)], Cel.RdP (w5.setCell ⟨G, 7, none⟩ u) (okMmp base (w5.setCell ⟨G, 7, none⟩ u) v') d' x.1 x.2.1 x.2.2.1 := by
  have hs := hb.size
  have hs2 := hg.size
  rw [World.size_alloc] at hs2 hat
  have hblk : ∀ b, G ≠ b → b < w3.heap.size → v.ownBlock ≠ some b → (w5.setCell ⟨G, 7, none⟩ u).heap[b]? = w3.heap[b]? := fun b h1 h2 h3 => by
    rw [heap_setCell_other _ _ _ _ (fun e => h1 e.symm), hg.block b (by rw [World.size_alloc]; omega) (fun e => h3 e.symm), heap_alloc_old _ _ h2]
  intro x hx
  rcases List.mem_append.1 hx with hx | hx
  · refine Cel.RdP.carry (fun b hb' => ?_) (hk x hx)
    obtain ⟨h1, h2, h3⟩ := hb'
    refine ⟨⟨h1, by rw [World.size_setCell]; omega, ?_⟩, ?_⟩
    · rcases hat with e | e
      · rw [e]; exact h3
      · rw [e]; intro e'; have := Option.some.inj e'; omega
    · rw [hblk b (by omega) (by omega) h3, hb.block b h2]
  · obtain rfl := List.mem_singleton.1 hx
    refine Cel.RdP.carry (fun b hb' => ?_) hn
    obtain ⟨h1, h2⟩ := hb'
    have h3 : v.ownBlock ≠ some b := fun e => by have := hlt b e; omega
    refine ⟨⟨by omega, by rw [World.size_setCell]; omega, ?_⟩, ?_⟩
    · rcases hat with e | e
      · rw [e]; exact h3
      · rw [e]; intro e'; have := Option.some.inj e'; omega
    · exact hblk b (by omega) h2 h3
def mpC (cols rows : Int) (d : Nat) : Prop := ∀ (n : Nd) (p : Option Addr) (len cap : Nat) (w : World), Cel.RdT w w.heap.size d n p len → Fm n → Calls Tryz.prog 25 #[.agg (Cel.ndA n p len cap), .func (.func 7) #[.agg #[.int .i64 cols, .int .i64 rows]] #[]] w fun e w' => (∃ p' len' cap', e = .returned (.agg (Cel.ndA (mvN cols rows n) p' len' cap')) ∧ Cel.RdP w' (fun b => w.heap.size ≤ b ∧ b < w'.heap.size) d (mvN cols rows n) p' len') ∧ Below w.heap.size w w'
theorem okM_grow {base g : Nat} {w w' : World} {v : Value} {d' : Nat} {acc : List Cel.Kid} (hb : Below w.heap.size w w') (h : ∀ x ∈ acc, Cel.RdP w (okMmp base w v) d' x.1 x.2.1 x.2.2.1) : ∀ x ∈ acc, Cel.RdP w' (okMmp base w' v) d' x.1 x.2.1 x.2.2.1 := fun x hx =>
  (h x hx).carry (fun b hb' => ⟨⟨hb'.1, Nat.lt_of_lt_of_le hb'.2.1 hb.size, hb'.2.2⟩, hb.block b hb'.2.1⟩)
structure KeptX (base g : Nat) (w : World) where
  v : World
  h : ∀ k, (k < base ∨ k = g) → v.heap[k]? = w.heap[k]?
instance (base g : Nat) (w : World) : Nonempty (KeptX base g w) := ⟨⟨w, fun _ _ => rfl⟩⟩
theorem KeptX.cell {base g : Nat} {w : World} {k o : Nat} {u : Value} (hk : k < base ∨ k = g) (hc : w.cell? ⟨k, o, none⟩ = some u) : ∀ x : KeptX base g w, x.v.cell? ⟨k, o, none⟩ = some u := fun x => by
  rw [← hc]
  unfold World.cell?
  rw [x.h k hk]
theorem keptX_drew (base g : Nat) (w : World) : ∃ x : KeptX base g w, w.drew = x.v := ⟨⟨w.drew, fun _ _ => rfl⟩, rfl⟩
set_option maxRecDepth 100000 in
set_option maxHeartbeats 16000000 in
theorem mp_s (cols rows : Int) (d : Nat) (IH : ∀ d', d = d' + 1 → mpC cols rows d') : mpC cols rows d := by
  intro n p len cap w hrd hok
  have HRD := Lib.hid hrd
  have HIH := Lib.hid IH
  have hlen := fm_len hok
  rw [hrd.len] at hlen
  have HAL := Lib.hid hrd.len
  have HOK := Lib.hid (fun c hc => fm_child (c := c) hok hc)
  have HRF := Lib.hid (fm_refs hok)
  have HOF := Lib.hid (fun (h : n.kind = 3 ∨ n.kind = 4) W => mcell_any n.frm cols rows (HRF.out.1 h) W)
  have HOT := Lib.hid (fun (h : n.kind = 4) W => mcell_any n.tor cols rows (HRF.out.2 h) W)
  rw [Cel.ndA_eq]
  clear hrd IH hok HRF
  go_enter Tryz.func25, Tryz.ntmps25
  go_upto_region 2 with fail
  have e0 : ((w.alloc (.cells #[.int .i64 n.kind, .int .i64 n.num, .string ⟨n.text.toArray⟩, .int .i64 (cC n.frm), .int .i64 (cR n.frm), .int .i64 (cC n.tor), .int .i64 (cR n.tor), .slice p len cap] Cel.tPn)).alloc (.cells #[.int .i64 0, .int .i64 0, .string ⟨#[]⟩, .int .i64 0, .int .i64 0, .int .i64 0, .int .i64 0, .slice none 0 0] Cel.tPn)).alloc (.cells #[.int .i64 n.kind, .int .i64 n.num, .string ⟨n.text.toArray⟩, .int .i64 0, .int .i64 0, .int .i64 0, .int .i64 0, .slice none 0 0] Cel.tPn) = ((w.alloc (.cells (Cel.ndA n p len cap) Cel.tPn)).alloc (.cells (Cel.ndA nodeZ none 0 0) Cel.tPn)).alloc (.cells (Cel.ndA (.mk n.kind n.num n.text 0 0 []) none 0 0) Cel.tPn) := rfl
  rw [e0]
  clear e0
  have HN1 : Hid (Cel.NdB Cel.tPn (((w.alloc (.cells (Cel.ndA n p len cap) Cel.tPn)).alloc (.cells (Cel.ndA nodeZ none 0 0) Cel.tPn)).alloc (.cells (Cel.ndA (.mk n.kind n.num n.text 0 0 []) none 0 0) Cel.tPn)) w.heap.size n p len cap) := (three_hp w _ _ _).1
  have HZ1 : Hid (BlkC (((w.alloc (.cells (Cel.ndA n p len cap) Cel.tPn)).alloc (.cells (Cel.ndA nodeZ none 0 0) Cel.tPn)).alloc (.cells (Cel.ndA (.mk n.kind n.num n.text 0 0 []) none 0 0) Cel.tPn)) (w.heap.size + 1) (Cel.ndA nodeZ none 0 0) Cel.tPn) := (three_hp w _ _ _).2.1
  have HL1 : Hid (BlkC (((w.alloc (.cells (Cel.ndA n p len cap) Cel.tPn)).alloc (.cells (Cel.ndA nodeZ none 0 0) Cel.tPn)).alloc (.cells (Cel.ndA (.mk n.kind n.num n.text 0 0 []) none 0 0) Cel.tPn)) (w.heap.size + 2) #[.int .i64 n.kind, .int .i64 n.num, .string ⟨n.text.toArray⟩, .int .i64 0, .int .i64 0, .int .i64 0, .int .i64 0, .slice none 0 0] Cel.tPn) := (three_hp w _ _ _).2.2
  have HB1 : Hid (Below w.heap.size w (((w.alloc (.cells (Cel.ndA n p len cap) Cel.tPn)).alloc (.cells (Cel.ndA nodeZ none 0 0) Cel.tPn)).alloc (.cells (Cel.ndA (.mk n.kind n.num n.text 0 0 []) none 0 0) Cel.tPn))) := three_bl _ _ _
  generalize ((w.alloc (.cells (Cel.ndA n p len cap) Cel.tPn)).alloc (.cells (Cel.ndA nodeZ none 0 0) Cel.tPn)).alloc (.cells (Cel.ndA (.mk n.kind n.num n.text 0 0 []) none 0 0) Cel.tPn) = w1 at HN1 HZ1 HL1 HB1 ⊢
  by_cases h4 : n.kind = 4
  · have b3 : (n.kind == 3) = false := by simp; omega
    have b4 : (n.kind == 4) = true := by simpa using h4
    obtain ⟨F1, hF1⟩ : ∃ x, mvC cols rows n.frm = x := ⟨_, rfl⟩
    obtain ⟨T1, hT1⟩ : ∃ x, mvC cols rows n.tor = x := ⟨_, rfl⟩
    obtain ⟨B1, hB1⟩ : ∃ x, decide (mvC cols rows n.frm ≠ 0) = x := ⟨_, rfl⟩
    obtain ⟨B2, hB2⟩ : ∃ x, decide (mvC cols rows n.tor ≠ 0) = x := ⟨_, rfl⟩
    have HOF2 : Hid (∀ W, Calls Tryz.prog 7 #[.agg #[.int .i64 cols, .int .i64 rows], .agg #[.int .i64 (cC n.frm), .int .i64 (cR n.frm)]] W fun e w' => e = .returned (.tuple #[.agg #[.int .i64 (cC F1), .int .i64 (cR F1)], .bool B1]) ∧ Below W.heap.size W w') := fun W => by
      rw [← hB1, ← hF1]
      exact HOF.out (.inr h4) W
    have HOT2 : Hid (∀ W, Calls Tryz.prog 7 #[.agg #[.int .i64 cols, .int .i64 rows], .agg #[.int .i64 (cC n.tor), .int .i64 (cR n.tor)]] W fun e w' => e = .returned (.tuple #[.agg #[.int .i64 (cC T1), .int .i64 (cR T1)], .bool B2]) ∧ Below W.heap.size W w') := fun W => by
      rw [← hB2, ← hT1]
      exact HOT.out h4 W
    have HF1 := Lib.hid hF1
    have HT1 := Lib.hid hT1
    have HBE1 := Lib.hid hB1
    have HBE2 := Lib.hid hB2
    clear HOF HOT hF1 hT1 hB1 hB2
    obtain ⟨c0, c1, c2, c3, cd3, c4, cd4, c5⟩ := HN1.out.cells
    go_wp2_with fail
    go_at_call 7
    refine (HOF2.out w1).mono ?_
    rintro e wa ⟨rfl, hb⟩
    have HNa := Lib.hid (HN1.out.below hb)
    have HZa := Lib.hid (HZ1.out.below hb)
    have HLa := Lib.hid (HL1.out.below hb)
    have HBa : Hid (Below w.heap.size w wa) := bel_call hb HB1.out HB1.out.size
    clear hb c0 c1 c2 c3 cd3 c4 cd4 c5 HN1 HZ1 HL1 HB1
    go_upto_region 4 with fail
    have HXb : Hid (BlkC (wa.alloc (.cells #[.int .i64 (cC F1), .int .i64 (cR F1)] 23)) wa.heap.size #[.int .i64 (cC F1), .int .i64 (cR F1)] 23) := heap_alloc_new wa _
    have hb : Below wa.heap.size wa (wa.alloc (.cells #[.int .i64 (cC F1), .int .i64 (cR F1)] 23)) := (Below.refl _ _).alloc (Nat.le_refl _) _
    have HNb := Lib.hid (HNa.out.below hb)
    have HZb := Lib.hid (HZa.out.below hb)
    have HLb := Lib.hid (HLa.out.below hb)
    have HBb : Hid (Below w.heap.size w (wa.alloc (.cells #[.int .i64 (cC F1), .int .i64 (cR F1)] 23))) := bel_call hb HBa.out HBa.out.size
    clear hb HNa HZa HLa HBa
    generalize (wa.alloc (.cells #[.int .i64 (cC F1), .int .i64 (cR F1)] 23)) = wb at HXb HNb HZb HLb HBb ⊢
    generalize wa.heap.size = gXb at HXb ⊢
    have x0 := HXb.out.cell 0 _ rfl
    have x1 := HXb.out.cell 1 _ rfl
    have l1 : wb.cell? ⟨w.heap.size + 2, 3, none⟩ = some (.int .i64 0) := HLb.out.cell 3 _ rfl
    have l2 : wb.cell? ⟨w.heap.size + 2, 4, none⟩ = some (.int .i64 0) := HLb.out.cell 4 _ rfl
    have z1 := HLb.out.fz 3
    have z2 := HLb.out.fz 4
    have hlb : w.heap.size + 2 < wb.heap.size := lt_some HLb.out
    go_upto_region 5 with fail
    have HLc : Hid (BlkC ((wb.setCell ⟨w.heap.size + 2, 3, none⟩ (.int .i64 (cC F1))).setCell ⟨w.heap.size + 2, 4, none⟩ (.int .i64 (cR F1))) (w.heap.size + 2) #[.int .i64 n.kind, .int .i64 n.num, .string ⟨n.text.toArray⟩, .int .i64 (cC F1), .int .i64 (cR F1), .int .i64 0, .int .i64 0, .slice none 0 0] Cel.tPn) := block_setCell (block_setCell HLb.out _) _
    have hb2 : Below (w.heap.size + 2) wb ((wb.setCell ⟨w.heap.size + 2, 3, none⟩ (.int .i64 (cC F1))).setCell ⟨w.heap.size + 2, 4, none⟩ (.int .i64 (cR F1))) := ((Below.refl _ _).setCell (p := ⟨w.heap.size + 2, 3, none⟩) (Nat.le_refl _) _).setCell (p := ⟨w.heap.size + 2, 4, none⟩) (Nat.le_refl _) _
    have HNc : Hid (Cel.NdB Cel.tPn ((wb.setCell ⟨w.heap.size + 2, 3, none⟩ (.int .i64 (cC F1))).setCell ⟨w.heap.size + 2, 4, none⟩ (.int .i64 (cR F1))) w.heap.size n p len cap) := (hb2.block _ (by omega)).trans HNb.out
    have HZc : Hid (BlkC ((wb.setCell ⟨w.heap.size + 2, 3, none⟩ (.int .i64 (cC F1))).setCell ⟨w.heap.size + 2, 4, none⟩ (.int .i64 (cR F1))) (w.heap.size + 1) (Cel.ndA nodeZ none 0 0) Cel.tPn) := (hb2.block _ (by omega)).trans HZb.out
    have HBc : Hid (Below w.heap.size w ((wb.setCell ⟨w.heap.size + 2, 3, none⟩ (.int .i64 (cC F1))).setCell ⟨w.heap.size + 2, 4, none⟩ (.int .i64 (cR F1)))) := HBb.out.trans (hb2.mono (by omega))
    clear hb2 x0 x1 l1 l2 z1 z2 hlb HNb HZb HLb HBb HXb
    generalize ((wb.setCell ⟨w.heap.size + 2, 3, none⟩ (.int .i64 (cC F1))).setCell ⟨w.heap.size + 2, 4, none⟩ (.int .i64 (cR F1))) = wc at HLc HNc HZc HBc ⊢
    obtain ⟨c0, c1, c2, c3, cd3, c4, cd4, c5⟩ := HNc.out.cells
    go_wp2_with fail
    go_at_call 7
    refine (HOT2.out wc).mono ?_
    rintro e wd ⟨rfl, hb⟩
    have HNd := Lib.hid (HNc.out.below hb)
    have HZd := Lib.hid (HZc.out.below hb)
    have HLd := Lib.hid (HLc.out.below hb)
    have HBd : Hid (Below w.heap.size w wd) := bel_call hb HBc.out HBc.out.size
    clear hb c0 c1 c2 c3 cd3 c4 cd4 c5 HNc HZc HLc HBc
    go_upto_region 7 with fail
    have HXe : Hid (BlkC (wd.alloc (.cells #[.int .i64 (cC T1), .int .i64 (cR T1)] 23)) wd.heap.size #[.int .i64 (cC T1), .int .i64 (cR T1)] 23) := heap_alloc_new wd _
    have hb : Below wd.heap.size wd (wd.alloc (.cells #[.int .i64 (cC T1), .int .i64 (cR T1)] 23)) := (Below.refl _ _).alloc (Nat.le_refl _) _
    have HNe := Lib.hid (HNd.out.below hb)
    have HZe := Lib.hid (HZd.out.below hb)
    have HLe := Lib.hid (HLd.out.below hb)
    have HBe : Hid (Below w.heap.size w (wd.alloc (.cells #[.int .i64 (cC T1), .int .i64 (cR T1)] 23))) := bel_call hb HBd.out HBd.out.size
    clear hb HNd HZd HLd HBd
    generalize (wd.alloc (.cells #[.int .i64 (cC T1), .int .i64 (cR T1)] 23)) = we at HXe HNe HZe HLe HBe ⊢
    generalize wd.heap.size = gXe at HXe ⊢
    clear HOF2 HOT2
    cases B1 with
    | false =>
      have x0 := HXe.out.cell 0 _ rfl
      have x1 := HXe.out.cell 1 _ rfl
      have l1 : we.cell? ⟨w.heap.size + 2, 5, none⟩ = some (.int .i64 0) := HLe.out.cell 5 _ rfl
      have l2 : we.cell? ⟨w.heap.size + 2, 6, none⟩ = some (.int .i64 0) := HLe.out.cell 6 _ rfl
      have z1 := HLe.out.fz 5
      have z2 := HLe.out.fz 6
      have hle : w.heap.size + 2 < we.heap.size := lt_some HLe.out
      go_upto_region 8 with fail
      have HL3 : Hid (BlkC ((we.setCell ⟨w.heap.size + 2, 5, none⟩ (.int .i64 (cC T1))).setCell ⟨w.heap.size + 2, 6, none⟩ (.int .i64 (cR T1))) (w.heap.size + 2) #[.int .i64 n.kind, .int .i64 n.num, .string ⟨n.text.toArray⟩, .int .i64 (cC F1), .int .i64 (cR F1), .int .i64 (cC T1), .int .i64 (cR T1), .slice none 0 0] Cel.tPn) := block_setCell (block_setCell HLe.out _) _
      have hb2 : Below (w.heap.size + 2) we ((we.setCell ⟨w.heap.size + 2, 5, none⟩ (.int .i64 (cC T1))).setCell ⟨w.heap.size + 2, 6, none⟩ (.int .i64 (cR T1))) := ((Below.refl _ _).setCell (p := ⟨w.heap.size + 2, 5, none⟩) (Nat.le_refl _) _).setCell (p := ⟨w.heap.size + 2, 6, none⟩) (Nat.le_refl _) _
      have HN3 : Hid (Cel.NdB Cel.tPn ((we.setCell ⟨w.heap.size + 2, 5, none⟩ (.int .i64 (cC T1))).setCell ⟨w.heap.size + 2, 6, none⟩ (.int .i64 (cR T1))) w.heap.size n p len cap) := (hb2.block _ (by omega)).trans HNe.out
      have HZ3 : Hid (BlkC ((we.setCell ⟨w.heap.size + 2, 5, none⟩ (.int .i64 (cC T1))).setCell ⟨w.heap.size + 2, 6, none⟩ (.int .i64 (cR T1))) (w.heap.size + 1) (Cel.ndA nodeZ none 0 0) Cel.tPn) := (hb2.block _ (by omega)).trans HZe.out
      have HB3 : Hid (Below w.heap.size w ((we.setCell ⟨w.heap.size + 2, 5, none⟩ (.int .i64 (cC T1))).setCell ⟨w.heap.size + 2, 6, none⟩ (.int .i64 (cR T1)))) := HBe.out.trans (hb2.mono (by omega))
      clear hb2 x0 x1 l1 l2 z1 z2 hle HNe HZe HLe HBe HXe
      generalize ((we.setCell ⟨w.heap.size + 2, 5, none⟩ (.int .i64 (cC T1))).setCell ⟨w.heap.size + 2, 6, none⟩ (.int .i64 (cR T1))) = w3 at HL3 HN3 HZ3 HB3 ⊢
      have hm0 := of_decide_eq_false HBE1.out
      go_upto_region 9 with fail
      have HM : Hid (mvN cols rows n = fltN) := mvN_flt (.inl ⟨.inr h4, by by_cases h : mvC cols rows n.frm = 0; exact h; exact absurd h hm0⟩)
      refine wp_region_lit ?_
      refine wpList_plain rfl fun K hK => ?_
      go_simp
      refine hK _ _ ?_
      clear hK K
      refine wpList_store_mid (by rfl) _ _ _ (by rfl) (w.heap.size + 1) 0 #[.int .i64 8, .int .i64 0, .string ⟨#[]⟩, .int .i64 0, .int .i64 0, .int .i64 0, .int .i64 0, .slice none 0 0] (by rfl) (by rfl) (block_there HZ3.out 8 (Nat.le_refl _)) (by kernel_rfl) (by simp [Value.oneCell']) ?_
      have e8 : w3.setCells (w.heap.size + 1) 0 (#[.int .i64 8, .int .i64 0, .string ⟨#[]⟩, .int .i64 0, .int .i64 0, .int .i64 0, .int .i64 0, .slice none 0 0]).toList = w3.setCells (w.heap.size + 1) 0 (Cel.ndA fltN none 0 0).toList := rfl
      rw [e8]
      clear e8
      have HS8 : Hid (BlkC (w3.setCells (w.heap.size + 1) 0 (Cel.ndA fltN none 0 0).toList) (w.heap.size + 1) (Cel.ndA fltN none 0 0) Cel.tPn) := store_block HZ3.out _ rfl
      have HB8 : Hid (Below w.heap.size w (w3.setCells (w.heap.size + 1) 0 (Cel.ndA fltN none 0 0).toList)) := store_below (by omega) _ _ _ HB3.out
      generalize w3.setCells (w.heap.size + 1) 0 (Cel.ndA fltN none 0 0).toList = w9 at HS8 HB8 ⊢
      clear HN3 HZ3 HL3 HB3
      go_simp
      go_wp2_with fail
      try simp only [Exit.inBlock, Exit.then]
      rw [HM.out]
      exact bodyPost_ret (results_cell_row rfl _ _ (w.heap.size + 1) Cel.tPn (Cel.ndA fltN none 0 0) (0, 0) _ rfl HS8.out Tryz.underlying44 rfl (by kernel_rfl)) rfl ⟨⟨none, 0, 0, rfl, rdp_leaf _ _ rfl _ _⟩, HB8.out⟩
    | true =>
      have x0 := HXe.out.cell 0 _ rfl
      have x1 := HXe.out.cell 1 _ rfl
      have l1 : we.cell? ⟨w.heap.size + 2, 5, none⟩ = some (.int .i64 0) := HLe.out.cell 5 _ rfl
      have l2 : we.cell? ⟨w.heap.size + 2, 6, none⟩ = some (.int .i64 0) := HLe.out.cell 6 _ rfl
      have z1 := HLe.out.fz 5
      have z2 := HLe.out.fz 6
      have hle : w.heap.size + 2 < we.heap.size := lt_some HLe.out
      go_upto_region 8 with fail
      have HL3 : Hid (BlkC ((we.setCell ⟨w.heap.size + 2, 5, none⟩ (.int .i64 (cC T1))).setCell ⟨w.heap.size + 2, 6, none⟩ (.int .i64 (cR T1))) (w.heap.size + 2) #[.int .i64 n.kind, .int .i64 n.num, .string ⟨n.text.toArray⟩, .int .i64 (cC F1), .int .i64 (cR F1), .int .i64 (cC T1), .int .i64 (cR T1), .slice none 0 0] Cel.tPn) := block_setCell (block_setCell HLe.out _) _
      have hb2 : Below (w.heap.size + 2) we ((we.setCell ⟨w.heap.size + 2, 5, none⟩ (.int .i64 (cC T1))).setCell ⟨w.heap.size + 2, 6, none⟩ (.int .i64 (cR T1))) := ((Below.refl _ _).setCell (p := ⟨w.heap.size + 2, 5, none⟩) (Nat.le_refl _) _).setCell (p := ⟨w.heap.size + 2, 6, none⟩) (Nat.le_refl _) _
      have HN3 : Hid (Cel.NdB Cel.tPn ((we.setCell ⟨w.heap.size + 2, 5, none⟩ (.int .i64 (cC T1))).setCell ⟨w.heap.size + 2, 6, none⟩ (.int .i64 (cR T1))) w.heap.size n p len cap) := (hb2.block _ (by omega)).trans HNe.out
      have HZ3 : Hid (BlkC ((we.setCell ⟨w.heap.size + 2, 5, none⟩ (.int .i64 (cC T1))).setCell ⟨w.heap.size + 2, 6, none⟩ (.int .i64 (cR T1))) (w.heap.size + 1) (Cel.ndA nodeZ none 0 0) Cel.tPn) := (hb2.block _ (by omega)).trans HZe.out
      have HB3 : Hid (Below w.heap.size w ((we.setCell ⟨w.heap.size + 2, 5, none⟩ (.int .i64 (cC T1))).setCell ⟨w.heap.size + 2, 6, none⟩ (.int .i64 (cR T1)))) := HBe.out.trans (hb2.mono (by omega))
      clear hb2 x0 x1 l1 l2 z1 z2 hle HNe HZe HLe HBe HXe
      generalize ((we.setCell ⟨w.heap.size + 2, 5, none⟩ (.int .i64 (cC T1))).setCell ⟨w.heap.size + 2, 6, none⟩ (.int .i64 (cR T1))) = w3 at HL3 HN3 HZ3 HB3 ⊢
      cases B2 with
      | false =>
        have hm0 := of_decide_eq_false HBE2.out
        go_upto_region 9 with fail
        have HM : Hid (mvN cols rows n = fltN) := mvN_flt (.inr ⟨h4, by by_cases h : mvC cols rows n.tor = 0; exact h; exact absurd h hm0⟩)
        refine wp_region_lit ?_
        refine wpList_plain rfl fun K hK => ?_
        go_simp
        refine hK _ _ ?_
        clear hK K
        refine wpList_store_mid (by rfl) _ _ _ (by rfl) (w.heap.size + 1) 0 #[.int .i64 8, .int .i64 0, .string ⟨#[]⟩, .int .i64 0, .int .i64 0, .int .i64 0, .int .i64 0, .slice none 0 0] (by rfl) (by rfl) (block_there HZ3.out 8 (Nat.le_refl _)) (by kernel_rfl) (by simp [Value.oneCell']) ?_
        have e8 : w3.setCells (w.heap.size + 1) 0 (#[.int .i64 8, .int .i64 0, .string ⟨#[]⟩, .int .i64 0, .int .i64 0, .int .i64 0, .int .i64 0, .slice none 0 0]).toList = w3.setCells (w.heap.size + 1) 0 (Cel.ndA fltN none 0 0).toList := rfl
        rw [e8]
        clear e8
        have HS8 : Hid (BlkC (w3.setCells (w.heap.size + 1) 0 (Cel.ndA fltN none 0 0).toList) (w.heap.size + 1) (Cel.ndA fltN none 0 0) Cel.tPn) := store_block HZ3.out _ rfl
        have HB8 : Hid (Below w.heap.size w (w3.setCells (w.heap.size + 1) 0 (Cel.ndA fltN none 0 0).toList)) := store_below (by omega) _ _ _ HB3.out
        generalize w3.setCells (w.heap.size + 1) 0 (Cel.ndA fltN none 0 0).toList = w9 at HS8 HB8 ⊢
        clear HN3 HZ3 HL3 HB3
        go_simp
        go_wp2_with fail
        try simp only [Exit.inBlock, Exit.then]
        rw [HM.out]
        exact bodyPost_ret (results_cell_row rfl _ _ (w.heap.size + 1) Cel.tPn (Cel.ndA fltN none 0 0) (0, 0) _ rfl HS8.out Tryz.underlying44 rfl (by kernel_rfl)) rfl ⟨⟨none, 0, 0, rfl, rdp_leaf _ _ rfl _ _⟩, HB8.out⟩
      | true =>
        have hm1 : mvC cols rows n.frm ≠ 0 := of_decide_eq_true HBE1.out
        have hm2 : mvC cols rows n.tor ≠ 0 := of_decide_eq_true HBE2.out
        rw [← HF1.out, ← HT1.out] at HL3
        obtain ⟨c0, c1, c2, c3, cd3, c4, cd4, c5⟩ := HN3.out.cells
        go_upto_region 10 with fail
        clear c0 c1 c2 c3 cd3 c4 cd4
        have HGO := mvN_go (cols := cols) (rows := rows) (n := n) (by omega)
        have HGA : Hid ((mvN cols rows n).args = n.args.map (mvN cols rows)) := by unfold Hid; rw [HGO]; rfl
        have HE : Hid (Cel.ndA (mvN cols rows n) none 0 0 = #[.int .i64 n.kind, .int .i64 n.num, .string ⟨n.text.toArray⟩, .int .i64 (cC (mvC cols rows n.frm)), .int .i64 (cR (mvC cols rows n.frm)), .int .i64 (cC (mvC cols rows n.tor)), .int .i64 (cR (mvC cols rows n.tor)), .slice none 0 0]) := by
          unfold Hid
          rw [HGO]
          first | rw [if_pos (by omega), if_pos (by omega)] | rw [if_pos (by omega), if_neg (by omega)] | rw [if_neg (by omega), if_neg (by omega)]
          rfl
        rw [← HE.out] at HL3
        clear HGO HE
        have hLb : w.heap.size + 2 < w3.heap.size := lt_some HL3.out
        have hLH : w.heap.size + 1 < w.heap.size + 2 := by omega
        have hH1 : w.heap.size + 1 < w3.heap.size := by omega
        obtain ⟨L, hLe⟩ : ∃ L, w.heap.size + 2 = L := ⟨_, rfl⟩
        rw [hLe] at HL3 hLb hLH ⊢
        clear hLe
        obtain ⟨base, hbase⟩ : ∃ base, w3.heap.size = base := ⟨_, rfl⟩
        have HB0 := Lib.hid hbase
        rw [hbase] at hLb hH1
        clear hbase
        obtain ⟨i0, hi, hz0, hz1, hz2⟩ := info_of Cel.info_nd
        go_wp2_with fail
        go_loopg [58] len (fun g v wr => ∃ (i : Nat) (acc : List Cel.Kid) (q : Option Addr) (cp : Nat), i + g = len ∧ v = .int .i64 i ∧ acc.map Prod.fst = (n.args.take i).map (mvN cols rows) ∧ Cel.NdB Cel.tPn wr w.heap.size n p len cap ∧ BlkC wr (w.heap.size + 1) (Cel.ndA nodeZ none 0 0) Cel.tPn ∧ BlkC wr L (Cel.ndA ((mvN cols rows) n) q i cp) Cel.tPn ∧ wr.ownsRow base Cel.tPn 8 (.slice q i cp) i (acc.flatMap Cel.kidC) ∧ (∀ d', d = d' + 1 → ∀ x ∈ acc, Cel.RdP wr (okMmp base wr (.slice q i cp)) d' x.1 x.2.1 x.2.2.1) ∧ Below w.heap.size w wr ∧ base ≤ wr.heap.size)
        case atStart => exact ⟨0, [], none, 0, by omega, rfl, rfl, HN3.out, HZ3.out, HL3.out, World.ownsRow_nil _ _ _ _, fun _ _ x hx => (by cases hx), HB3.out, by rw [HB0.out]; exact Nat.le_refl _⟩
        case round =>
          obtain ⟨i, acc, q, cp, hig, rfl, hacc, hn1, hn0, hn2, hown, hkid, hbel, hbs⟩ := hrel
          have HAC := Lib.hid hacc
          have HN1 := Lib.hid hn1
          have HN0 := Lib.hid hn0
          have HN2 := Lib.hid hn2
          have HOW := Lib.hid hown
          have HKD := Lib.hid hkid
          have HBL := Lib.hid hbel
          have hzr := hbel.size
          clear hacc hn1 hn0 hn2 hown hkid hbel HN3 HZ3 HL3 HB3 HB0
          obtain ⟨a0, a1, a2, a3, ad3, a4, ad4, a5⟩ := HN1.out.cells
          have b5 : wr.cell? ⟨L, 7, none⟩ = some (.slice q i cp) := HN2.out.cell 7 _ rfl
          by_cases hlt : i < len
          · have hli : (i : Int) < (len : Int) := by omega
            obtain ⟨d', b, off, c, p', l', c', hd, rfl, hbN, hc, hrc, q0, q1, q2, q3, qd3, q4, qd4, q5⟩ := (HRD.out.below HBL.out).at hlt
            have HC : Hid (mpC cols rows d') := HIH.out d' hd
            have HCO := Lib.hid (HOK.out c (mem_at hc))
            go_upto_region 13 with fail
            have e2 : wr.alloc (.cells #[.int .i64 c.kind, .int .i64 c.num, .string ⟨c.text.toArray⟩, .int .i64 (cC c.frm), .int .i64 (cR c.frm), .int .i64 (cC c.tor), .int .i64 (cR c.tor), .slice p' l' c'] Cel.tPn) = wr.alloc (.cells (Cel.ndA c p' l' c') Cel.tPn) := rfl
            rw [e2]
            clear e2
            have HBX : Hid (BlkC (wr.alloc (.cells (Cel.ndA c p' l' c') Cel.tPn)) wr.heap.size (Cel.ndA c p' l' c') Cel.tPn) := heap_alloc_new wr _
            have hbr : Below wr.heap.size wr (wr.alloc (.cells (Cel.ndA c p' l' c') Cel.tPn)) := (Below.refl _ _).alloc (Nat.le_refl _) _
            have HN1' := Lib.hid (HN1.out.below hbr)
            have HN0' := Lib.hid (HN0.out.below hbr)
            have HN2' := Lib.hid (HN2.out.below hbr)
            have HOW' := Lib.hid (row_below HOW.out hbr)
            have hrow : ∀ k, (Value.slice q i cp).ownBlock = some k → k < wr.heap.size := fun k e => (HOW.out.lt k e).2
            have HKD' := Lib.hid (fun d' hd => okM_grow (g := 0) hbr (HKD.out d' hd))
            have HBL' : Hid (Below w.heap.size w (wr.alloc (.cells (Cel.ndA c p' l' c') Cel.tPn))) := bel_call hbr HBL.out hzr
            have hrc' := hrc.below (hbr.mono hzr)
            have hzs := hbr.size
            have hgr : wr.heap.size < (wr.alloc (.cells (Cel.ndA c p' l' c') Cel.tPn)).heap.size := lt_some HBX.out
            clear hbr HN1 HN0 HN2 HOW HKD HBL hrc a0 a1 a2 a3 ad3 a4 ad4 a5 b5 q0 q1 q2 q3 qd3 q4 qd4 q5
            generalize (wr.alloc (.cells (Cel.ndA c p' l' c') Cel.tPn)) = ws at HBX HN1' HN0' HN2' HOW' HKD' HBL' hrc' hzs hgr ⊢
            have hbs' : base ≤ ws.heap.size := by omega
            have hzr' : w.heap.size ≤ ws.heap.size := by omega
            have hgb : base ≤ wr.heap.size := hbs
            generalize wr.heap.size = gx at HBX hzs hgr hgb hzr hbs hrow ⊢
            have HN1 := HN1'
            have HN0 := HN0'
            have HN2 := HN2'
            have HOW := HOW'
            have HKD := HKD'
            have HBL := HBL'
            clear HN1' HN0' HN2' HOW' HKD' HBL' hbs hzr
            have hbs := hbs'
            have hzr := hzr'
            have b7 : ws.cell? ⟨L, 7, none⟩ = some (.slice q i cp) := HN2.out.cell 7 _ rfl
            have B7 := KeptX.cell (base := base) (g := gx) (.inl hLb) b7
            have Q0 := KeptX.cell (base := base) (g := gx) (.inr rfl) (HBX.out.cell 0 _ rfl)
            have Q1 := KeptX.cell (base := base) (g := gx) (.inr rfl) (HBX.out.cell 1 _ rfl)
            have Q2 := KeptX.cell (base := base) (g := gx) (.inr rfl) (HBX.out.cell 2 _ rfl)
            have Q3 := KeptX.cell (base := base) (g := gx) (.inr rfl) (HBX.out.cell 3 _ rfl)
            have Q4 := KeptX.cell (base := base) (g := gx) (.inr rfl) (HBX.out.cell 4 _ rfl)
            have Q5 := KeptX.cell (base := base) (g := gx) (.inr rfl) (HBX.out.cell 5 _ rfl)
            have Q6 := KeptX.cell (base := base) (g := gx) (.inr rfl) (HBX.out.cell 6 _ rfl)
            have Q7 := KeptX.cell (base := base) (g := gx) (.inr rfl) (HBX.out.cell 7 _ rfl)
            refine wp_region_schedT (fun wx => ∃ x : KeptX base gx ws, wx = x.v) 8 [([0,1,2,3],4),([],5),([],6)] [7] (by kernel_rfl) (by kernel_rfl) (by kernel_rfl) (by kernel_rfl) (keptX_drew _ _ _) ?_
            (unfold wpSegK; simp only [pick_nil, pick_cons, nthO_zero, nthO_succ, List.append])
            clear b7
            repeat (go_big_quiet_step (fail))
            refine wpQuiet_nil ?_
            have HRC := Lib.hid hrc'
            have HHC := Lib.hid hc
            have HHD := Lib.hid hd
            clear hrc' hc hd
            have HCC := Lib.hid (HC.out c p' l' c' ws.drew ((HRC.out.below (Below.drew (Below.refl _ _))).mono hzr) HCO.out)
            rw [Cel.ndA_eq c p' l' c'] at HCC
            go_wp2_with fail
            refine HCC.out.mono ?_
            rintro e w3 ⟨⟨p2, l2, c2, rfl, hk3⟩, hb3⟩
            have hb4 : Hid (Below ws.heap.size ws w3) := bel_call hb3 (Below.drew (Below.refl _ _)) (Nat.le_refl _)
            have HK3 := Lib.hid hk3
            rw [show Value.agg (Cel.ndA ((mvN cols rows) c) p2 l2 c2) = .agg #[.int .i64 ((mvN cols rows) c).kind, .int .i64 ((mvN cols rows) c).num, .string ⟨((mvN cols rows) c).text.toArray⟩, .int .i64 (cC ((mvN cols rows) c).frm), .int .i64 (cR ((mvN cols rows) c).frm), .int .i64 (cC ((mvN cols rows) c).tor), .int .i64 (cR ((mvN cols rows) c).tor), .slice p2 l2 c2] from rfl]
            clear HCC hk3 hb3
            go_wp2_with fail
            have hB3 : Hid (Below base ws w3) := hb4.out.mono (by omega)
            refine ⟨rfl, ⟨⟨w3, fun k hk => hb4.out.block k (by omega)⟩, rfl⟩, ?_⟩
            (unfold wpSegK; simp only [pick_nil, pick_cons, nthO_zero, nthO_succ, List.append])
            refine wpQuiet_nil ?_
            go_wp2_with fail
            have e4 : w3.alloc (.cells #[.int .i64 ((mvN cols rows) c).kind, .int .i64 ((mvN cols rows) c).num, .string ⟨((mvN cols rows) c).text.toArray⟩, .int .i64 (cC ((mvN cols rows) c).frm), .int .i64 (cR ((mvN cols rows) c).frm), .int .i64 (cC ((mvN cols rows) c).tor), .int .i64 (cR ((mvN cols rows) c).tor), .slice p2 l2 c2] Cel.tPn) = w3.alloc (.cells (Cel.ndA ((mvN cols rows) c) p2 l2 c2) Cel.tPn) := rfl
            rw [e4]
            clear e4
            refine ⟨rfl, ⟨⟨_, fun k hk => (heap_alloc_old _ _ (by have := hb4.out.size; omega)).trans (hb4.out.block k (by omega))⟩, rfl⟩, ?_⟩
            (unfold wpSegK; simp only [pick_nil, pick_cons, nthO_zero, nthO_succ, List.append])
            refine wpQuiet_nil ?_
            have HRW := Lib.hid (row_below HOW.out hb4.out)
            refine wpList_append_own_at _ rfl _ _ _ rfl base Cel.tPn i0 _ 8 88 Tryz.underlying42 hi hz0 hz1 hz2 rfl (by decide) _ _ _ rfl (HRW.out.alloc _) ⟨w3.heap.size, 0, none⟩ 1 1 (Cel.ndC ((mvN cols rows) c) p2 l2 c2) rfl rfl (Cel.newNd w3 ((mvN cols rows) c) p2 l2 c2) ?c2 ?c3 ?c4 ?c5 ?_
            case c2 => exact Cel.kidC_one (((mvN cols rows) c), p2, l2, c2)
            case c3 => unfold maxLen; omega
            case c4 => omega
            case c5 => rw [World.size_alloc]; have := hb4.out.size; omega
            intro v' w5 hown5 hgrow5 _ hat5
            have hB5 : Hid (Below base ws w5) := (hB3.out.alloc (by have := hb4.out.size; omega) _).grown hgrow5 (by rw [World.size_alloc]; have := hb4.out.size; omega) (fun k hk => (HRW.out.lt k hk).1)
            have HOW5 : Hid (w5.ownsRow base Cel.tPn 8 v' (i + 1) ((acc ++ [(((mvN cols rows) c), p2, l2, c2)]).flatMap Cel.kidC)) := by
              unfold Hid
              rw [flat_snoc]
              exact hown5
            have HGX5 : Hid (w5.heap[gx]? = ws.heap[gx]?) := (hgrow5.block gx (by rw [World.size_alloc]; have := hb4.out.size; omega) (fun e => by have := hrow gx e.symm; omega)).trans ((heap_alloc_old _ _ (by have := hb4.out.size; omega)).trans (hb4.out.block gx hgr))
            have hla : acc.length = i := by
              have h := congrArg List.length HAC.out
              simp only [List.length_map, List.length_take] at h
              rw [HAL.out] at h
              omega
            obtain ⟨q5, cp5, hv5, _, _, _, _⟩ := RdG.of_own Cel.kidC_len (by rw [List.length_append, List.length_singleton, hla]) HOW5.out
            subst hv5
            have HN5 : Hid (BlkC w5 L (Cel.ndA ((mvN cols rows) n) q i cp) Cel.tPn) := (hB5.out.block _ hLb).trans HN2.out
            have HKN := Lib.hid (kidsMmp (G := L) (u := .slice q5 (i + 1) cp5) (c2 := c2) hLb hbs hb4.out hgrow5 hat5 (fun b e => (HOW.out.lt b e).2) (HKD.out d' HHD.out) HK3.out)
            have hs5 := hB5.out.size
            clear hown5 hgrow5 hat5 HRW HK3 HKD HCO HC HIH HOK B7 Q0 Q1 Q2 Q3 Q4 Q5 Q6 Q7
            have e5 : w5.cell? ⟨L, 7, none⟩ = some (.slice q i cp) := HN5.out.cell 7 _ rfl
            have g5 := HN5.out.fz 7
            go_wp2_with fail
            refine ⟨rfl, ⟨⟨w5, fun k hk => hk.elim (fun h => hB5.out.block k h) (fun h => by rw [h]; exact HGX5.out)⟩, rfl⟩, ?_⟩
            (unfold wpSegK; simp only [pick_nil, pick_cons, nthO_zero, nthO_succ, List.append])
            repeat (go_big_quiet_step (fail))
            refine wpQuiet_nil ?_
            go_wp2_with fail
            refine ⟨rfl, ?_⟩
            have HP6 : Hid (BlkC (w5.setCell ⟨L, 7, none⟩ (.slice q5 (i + 1) cp5)) L (Cel.ndA ((mvN cols rows) n) q5 (i + 1) cp5) Cel.tPn) := block_setCell HN5.out _
            have HR6 : Hid (Cel.NdB Cel.tPn (w5.setCell ⟨L, 7, none⟩ (.slice q5 (i + 1) cp5)) w.heap.size n (some ⟨b, off, none⟩) len cap) := by
              unfold Hid Cel.NdB
              rw [heap_setCell_other _ _ _ _ (by show w.heap.size ≠ L; omega), hB5.out.block _ (by omega)]
              exact HN1.out
            have HZ6 : Hid (BlkC (w5.setCell ⟨L, 7, none⟩ (.slice q5 (i + 1) cp5)) (w.heap.size + 1) (Cel.ndA nodeZ none 0 0) Cel.tPn) := by
              unfold Hid BlkC
              rw [heap_setCell_other _ _ _ _ (by show w.heap.size + 1 ≠ L; omega), hB5.out.block _ (by omega)]
              exact HN0.out
            have HW6 : Hid ((w5.setCell ⟨L, 7, none⟩ (.slice q5 (i + 1) cp5)).ownsRow base Cel.tPn 8 (.slice q5 (i + 1) cp5) (i + 1) ((acc ++ [(((mvN cols rows) c), p2, l2, c2)]).flatMap Cel.kidC)) :=
              row_carry HOW5.out (fun b hb => heap_setCell_other _ _ _ _ (by have := (HOW5.out.lt b hb).1; show b ≠ L; omega))
            have HL6 : Hid (Below w.heap.size w (w5.setCell ⟨L, 7, none⟩ (.slice q5 (i + 1) cp5))) := (HBL.out.trans (hB5.out.mono (by omega))).setCell (by show w.heap.size ≤ L; omega) _
            have hz6 : base ≤ (w5.setCell ⟨L, 7, none⟩ (.slice q5 (i + 1) cp5)).heap.size := by rw [World.size_setCell]; omega
            have HAN : Hid ((acc ++ [(((mvN cols rows) c), p2, l2, c2)]).map Prod.fst = (n.args.take (i + 1)).map (mvN cols rows)) := by
              unfold Hid
              rw [List.map_append, HAC.out, List.take_add_one, HHC.out]
              simp
            generalize w5.setCell ⟨L, 7, none⟩ (.slice q5 (i + 1) cp5) = w6 at HP6 HR6 HZ6 HW6 HL6 HKN hz6 ⊢
            clear HHC HN5 HN0 HN1 HN2 HOW HOW5 hB5 hB3 hb4 e5 g5 HBL
            go_wp2_with fail
            go_roundg (gk - 1)
            case measure => omega
            case rel =>
              refine ⟨i + 1, acc ++ [(((mvN cols rows) c), p2, l2, c2)], q5, cp5, by omega, by go_num, HAN.out, HR6.out, HZ6.out, HP6.out, HW6.out, fun d'' hd x hx => ?_, HL6.out, hz6⟩
              obtain rfl : d' = d'' := by have := HHD.out; omega
              exact HKN.out x hx
          · obtain rfl : i = len := by omega
            have hli : ¬ (i : Int) < (i : Int) := by omega
            have hla : acc.length = i := by
              have h := congrArg List.length HAC.out
              simp only [List.length_map, List.length_take] at h
              rw [HAL.out] at h
              omega
            clear a0 a1 a2 a3 ad3 a4 ad4 b5
            go_upto_region 15 with fail
            refine wp_region_lit ?_
            refine wpList_load_mid (by rfl) _ _ (by rfl) L 0 (by rfl) [.int .i64 ((mvN cols rows) n).kind, .int .i64 ((mvN cols rows) n).num, .string ⟨((mvN cols rows) n).text.toArray⟩, .int .i64 (cC ((mvN cols rows) n).frm), .int .i64 (cR ((mvN cols rows) n).frm), .int .i64 (cC ((mvN cols rows) n).tor), .int .i64 (cR ((mvN cols rows) n).tor), .slice q i cp] _ (block_range HN2.out [.int .i64 ((mvN cols rows) n).kind, .int .i64 ((mvN cols rows) n).num, .string ⟨((mvN cols rows) n).text.toArray⟩, .int .i64 (cC ((mvN cols rows) n).frm), .int .i64 (cR ((mvN cols rows) n).frm), .int .i64 (cC ((mvN cols rows) n).tor), .int .i64 (cR ((mvN cols rows) n).tor), .slice q i cp] rfl) Tryz.underlying44 rfl (by kernel_rfl) ?_
            go_simp
            refine wpList_store_mid (by rfl) _ _ _ (by rfl) (w.heap.size + 1) 0 #[.int .i64 ((mvN cols rows) n).kind, .int .i64 ((mvN cols rows) n).num, .string ⟨((mvN cols rows) n).text.toArray⟩, .int .i64 (cC ((mvN cols rows) n).frm), .int .i64 (cR ((mvN cols rows) n).frm), .int .i64 (cC ((mvN cols rows) n).tor), .int .i64 (cR ((mvN cols rows) n).tor), .slice q i cp] (by rfl) (by rfl) (block_there HN0.out 8 (Nat.le_refl _)) (by kernel_rfl) (by simp [Value.oneCell']) ?_
            have e8 : wr.setCells (w.heap.size + 1) 0 (#[.int .i64 ((mvN cols rows) n).kind, .int .i64 ((mvN cols rows) n).num, .string ⟨((mvN cols rows) n).text.toArray⟩, .int .i64 (cC ((mvN cols rows) n).frm), .int .i64 (cR ((mvN cols rows) n).frm), .int .i64 (cC ((mvN cols rows) n).tor), .int .i64 (cR ((mvN cols rows) n).tor), .slice q i cp]).toList = wr.setCells (w.heap.size + 1) 0 (Cel.ndA ((mvN cols rows) n) q i cp).toList := rfl
            rw [e8]
            clear e8
            have HS8 : Hid (BlkC (wr.setCells (w.heap.size + 1) 0 (Cel.ndA ((mvN cols rows) n) q i cp).toList) (w.heap.size + 1) (Cel.ndA ((mvN cols rows) n) q i cp) Cel.tPn) := store_block HN0.out _ rfl
            have HB8 : Hid (Below w.heap.size w (wr.setCells (w.heap.size + 1) 0 (Cel.ndA ((mvN cols rows) n) q i cp).toList)) := store_below (by omega) _ _ _ HBL.out
            have hz8 := (store_below (Nat.zero_le (w.heap.size + 1)) (Cel.ndA ((mvN cols rows) n) q i cp).toList 0 wr (Below.refl 0 wr)).size
            have HO8 : Hid (∀ k, k ≠ w.heap.size + 1 → (wr.setCells (w.heap.size + 1) 0 (Cel.ndA ((mvN cols rows) n) q i cp).toList).heap[k]? = wr.heap[k]?) := fun k hk => store_other hk _ _ _
            generalize wr.setCells (w.heap.size + 1) 0 (Cel.ndA ((mvN cols rows) n) q i cp).toList = w9 at HS8 HB8 HO8 hz8 ⊢
            go_simp
            iterate 3 (first | go_values | go_skip | go_guarded | go_step | go_upon)
            apply wp_ret
            try simp only [Exit.inBlock, Exit.then]
            refine bodyPost_ret (results_cell_row rfl _ _ (w.heap.size + 1) Cel.tPn (Cel.ndA ((mvN cols rows) n) q i cp) (0, 0) _ rfl HS8.out Tryz.underlying44 rfl (by kernel_rfl)) rfl ⟨⟨q, _, cp, rfl, ?_⟩, HB8.out⟩
            cases d with
            | zero =>
              have h := HRD.out
              refine ⟨?_, h.2⟩
              rw [HGA.out, h.1]; rfl
            | succ d =>
              subst hla
              obtain ⟨q', cp', hv, hr⟩ := Cel.RdP.of_row (n := ((mvN cols rows) n)) (d := d) (ok := fun b => base ≤ b ∧ b < wr.heap.size) HOW.out (by rw [HAC.out, List.take_of_length_le (by rw [HAL.out]; exact Nat.le_refl _)]; exact HGA.out.symm) (fun x hx => Cel.RdP.carry (fun b hb => ⟨⟨hb.1, hb.2.1⟩, rfl⟩) (HKD.out d rfl x hx)) (fun b hb => HOW.out.lt b hb)
              cases hv
              exact Cel.RdP.carry (fun b hb => ⟨⟨by omega, by omega⟩, HO8.out b (by omega)⟩) hr
  · have b4 : (n.kind == 4) = false := by simpa using h4
    by_cases h3 : n.kind = 3
    · have b3 : (n.kind == 3) = true := by simpa using h3
      obtain ⟨F1, hF1⟩ : ∃ x, mvC cols rows n.frm = x := ⟨_, rfl⟩
      obtain ⟨B1, hB1⟩ : ∃ x, decide (mvC cols rows n.frm ≠ 0) = x := ⟨_, rfl⟩
      have HOF2 : Hid (∀ W, Calls Tryz.prog 7 #[.agg #[.int .i64 cols, .int .i64 rows], .agg #[.int .i64 (cC n.frm), .int .i64 (cR n.frm)]] W fun e w' => e = .returned (.tuple #[.agg #[.int .i64 (cC F1), .int .i64 (cR F1)], .bool B1]) ∧ Below W.heap.size W w') := fun W => by
        rw [← hB1, ← hF1]
        exact HOF.out (.inl h3) W
      have HF1 := Lib.hid hF1
      have HBE1 := Lib.hid hB1
      clear HOF HOT hF1 hB1
      obtain ⟨c0, c1, c2, c3, cd3, c4, cd4, c5⟩ := HN1.out.cells
      go_wp2_with fail
      go_at_call 7
      refine (HOF2.out w1).mono ?_
      rintro e wa ⟨rfl, hb⟩
      have HNa := Lib.hid (HN1.out.below hb)
      have HZa := Lib.hid (HZ1.out.below hb)
      have HLa := Lib.hid (HL1.out.below hb)
      have HBa : Hid (Below w.heap.size w wa) := bel_call hb HB1.out HB1.out.size
      clear hb c0 c1 c2 c3 cd3 c4 cd4 c5 HN1 HZ1 HL1 HB1
      go_upto_region 4 with fail
      have HXb : Hid (BlkC (wa.alloc (.cells #[.int .i64 (cC F1), .int .i64 (cR F1)] 23)) wa.heap.size #[.int .i64 (cC F1), .int .i64 (cR F1)] 23) := heap_alloc_new wa _
      have hb : Below wa.heap.size wa (wa.alloc (.cells #[.int .i64 (cC F1), .int .i64 (cR F1)] 23)) := (Below.refl _ _).alloc (Nat.le_refl _) _
      have HNb := Lib.hid (HNa.out.below hb)
      have HZb := Lib.hid (HZa.out.below hb)
      have HLb := Lib.hid (HLa.out.below hb)
      have HBb : Hid (Below w.heap.size w (wa.alloc (.cells #[.int .i64 (cC F1), .int .i64 (cR F1)] 23))) := bel_call hb HBa.out HBa.out.size
      clear hb HNa HZa HLa HBa
      generalize (wa.alloc (.cells #[.int .i64 (cC F1), .int .i64 (cR F1)] 23)) = wb at HXb HNb HZb HLb HBb ⊢
      generalize wa.heap.size = gXb at HXb ⊢
      have x0 := HXb.out.cell 0 _ rfl
      have x1 := HXb.out.cell 1 _ rfl
      have l1 : wb.cell? ⟨w.heap.size + 2, 3, none⟩ = some (.int .i64 0) := HLb.out.cell 3 _ rfl
      have l2 : wb.cell? ⟨w.heap.size + 2, 4, none⟩ = some (.int .i64 0) := HLb.out.cell 4 _ rfl
      have z1 := HLb.out.fz 3
      have z2 := HLb.out.fz 4
      have hlb : w.heap.size + 2 < wb.heap.size := lt_some HLb.out
      go_upto_region 5 with fail
      have HL3 : Hid (BlkC ((wb.setCell ⟨w.heap.size + 2, 3, none⟩ (.int .i64 (cC F1))).setCell ⟨w.heap.size + 2, 4, none⟩ (.int .i64 (cR F1))) (w.heap.size + 2) #[.int .i64 n.kind, .int .i64 n.num, .string ⟨n.text.toArray⟩, .int .i64 (cC F1), .int .i64 (cR F1), .int .i64 0, .int .i64 0, .slice none 0 0] Cel.tPn) := block_setCell (block_setCell HLb.out _) _
      have hb2 : Below (w.heap.size + 2) wb ((wb.setCell ⟨w.heap.size + 2, 3, none⟩ (.int .i64 (cC F1))).setCell ⟨w.heap.size + 2, 4, none⟩ (.int .i64 (cR F1))) := ((Below.refl _ _).setCell (p := ⟨w.heap.size + 2, 3, none⟩) (Nat.le_refl _) _).setCell (p := ⟨w.heap.size + 2, 4, none⟩) (Nat.le_refl _) _
      have HN3 : Hid (Cel.NdB Cel.tPn ((wb.setCell ⟨w.heap.size + 2, 3, none⟩ (.int .i64 (cC F1))).setCell ⟨w.heap.size + 2, 4, none⟩ (.int .i64 (cR F1))) w.heap.size n p len cap) := (hb2.block _ (by omega)).trans HNb.out
      have HZ3 : Hid (BlkC ((wb.setCell ⟨w.heap.size + 2, 3, none⟩ (.int .i64 (cC F1))).setCell ⟨w.heap.size + 2, 4, none⟩ (.int .i64 (cR F1))) (w.heap.size + 1) (Cel.ndA nodeZ none 0 0) Cel.tPn) := (hb2.block _ (by omega)).trans HZb.out
      have HB3 : Hid (Below w.heap.size w ((wb.setCell ⟨w.heap.size + 2, 3, none⟩ (.int .i64 (cC F1))).setCell ⟨w.heap.size + 2, 4, none⟩ (.int .i64 (cR F1)))) := HBb.out.trans (hb2.mono (by omega))
      clear hb2 x0 x1 l1 l2 z1 z2 hlb HNb HZb HLb HBb HXb
      generalize ((wb.setCell ⟨w.heap.size + 2, 3, none⟩ (.int .i64 (cC F1))).setCell ⟨w.heap.size + 2, 4, none⟩ (.int .i64 (cR F1))) = w3 at HL3 HN3 HZ3 HB3 ⊢
      clear HOF2
      cases B1 with
      | false =>
        have hm0 := of_decide_eq_false HBE1.out
        obtain ⟨c0, c1, c2, c3, cd3, c4, cd4, c5⟩ := HN3.out.cells
        go_upto_region 9 with fail
        have HM : Hid (mvN cols rows n = fltN) := mvN_flt (.inl ⟨.inl h3, by by_cases h : mvC cols rows n.frm = 0; exact h; exact absurd h hm0⟩)
        refine wp_region_lit ?_
        refine wpList_plain rfl fun K hK => ?_
        go_simp
        refine hK _ _ ?_
        clear hK K
        refine wpList_store_mid (by rfl) _ _ _ (by rfl) (w.heap.size + 1) 0 #[.int .i64 8, .int .i64 0, .string ⟨#[]⟩, .int .i64 0, .int .i64 0, .int .i64 0, .int .i64 0, .slice none 0 0] (by rfl) (by rfl) (block_there HZ3.out 8 (Nat.le_refl _)) (by kernel_rfl) (by simp [Value.oneCell']) ?_
        have e8 : w3.setCells (w.heap.size + 1) 0 (#[.int .i64 8, .int .i64 0, .string ⟨#[]⟩, .int .i64 0, .int .i64 0, .int .i64 0, .int .i64 0, .slice none 0 0]).toList = w3.setCells (w.heap.size + 1) 0 (Cel.ndA fltN none 0 0).toList := rfl
        rw [e8]
        clear e8
        have HS8 : Hid (BlkC (w3.setCells (w.heap.size + 1) 0 (Cel.ndA fltN none 0 0).toList) (w.heap.size + 1) (Cel.ndA fltN none 0 0) Cel.tPn) := store_block HZ3.out _ rfl
        have HB8 : Hid (Below w.heap.size w (w3.setCells (w.heap.size + 1) 0 (Cel.ndA fltN none 0 0).toList)) := store_below (by omega) _ _ _ HB3.out
        generalize w3.setCells (w.heap.size + 1) 0 (Cel.ndA fltN none 0 0).toList = w9 at HS8 HB8 ⊢
        clear HN3 HZ3 HL3 HB3 c0 c1 c2 c3 cd3 c4 cd4 c5
        go_simp
        go_wp2_with fail
        try simp only [Exit.inBlock, Exit.then]
        rw [HM.out]
        exact bodyPost_ret (results_cell_row rfl _ _ (w.heap.size + 1) Cel.tPn (Cel.ndA fltN none 0 0) (0, 0) _ rfl HS8.out Tryz.underlying44 rfl (by kernel_rfl)) rfl ⟨⟨none, 0, 0, rfl, rdp_leaf _ _ rfl _ _⟩, HB8.out⟩
      | true =>
        have hm1 : mvC cols rows n.frm ≠ 0 := of_decide_eq_true HBE1.out
        rw [← HF1.out] at HL3
        obtain ⟨c0, c1, c2, c3, cd3, c4, cd4, c5⟩ := HN3.out.cells
        go_upto_region 10 with fail
        clear c0 c1 c2 c3 cd3 c4 cd4
        have HGO := mvN_go (cols := cols) (rows := rows) (n := n) (by omega)
        have HGA : Hid ((mvN cols rows n).args = n.args.map (mvN cols rows)) := by unfold Hid; rw [HGO]; rfl
        have HE : Hid (Cel.ndA (mvN cols rows n) none 0 0 = #[.int .i64 n.kind, .int .i64 n.num, .string ⟨n.text.toArray⟩, .int .i64 (cC (mvC cols rows n.frm)), .int .i64 (cR (mvC cols rows n.frm)), .int .i64 0, .int .i64 0, .slice none 0 0]) := by
          unfold Hid
          rw [HGO]
          first | rw [if_pos (by omega), if_pos (by omega)] | rw [if_pos (by omega), if_neg (by omega)] | rw [if_neg (by omega), if_neg (by omega)]
          rfl
        rw [← HE.out] at HL3
        clear HGO HE
        have hLb : w.heap.size + 2 < w3.heap.size := lt_some HL3.out
        have hLH : w.heap.size + 1 < w.heap.size + 2 := by omega
        have hH1 : w.heap.size + 1 < w3.heap.size := by omega
        obtain ⟨L, hLe⟩ : ∃ L, w.heap.size + 2 = L := ⟨_, rfl⟩
        rw [hLe] at HL3 hLb hLH ⊢
        clear hLe
        obtain ⟨base, hbase⟩ : ∃ base, w3.heap.size = base := ⟨_, rfl⟩
        have HB0 := Lib.hid hbase
        rw [hbase] at hLb hH1
        clear hbase
        obtain ⟨i0, hi, hz0, hz1, hz2⟩ := info_of Cel.info_nd
        go_wp2_with fail
        go_loopg [58] len (fun g v wr => ∃ (i : Nat) (acc : List Cel.Kid) (q : Option Addr) (cp : Nat), i + g = len ∧ v = .int .i64 i ∧ acc.map Prod.fst = (n.args.take i).map (mvN cols rows) ∧ Cel.NdB Cel.tPn wr w.heap.size n p len cap ∧ BlkC wr (w.heap.size + 1) (Cel.ndA nodeZ none 0 0) Cel.tPn ∧ BlkC wr L (Cel.ndA ((mvN cols rows) n) q i cp) Cel.tPn ∧ wr.ownsRow base Cel.tPn 8 (.slice q i cp) i (acc.flatMap Cel.kidC) ∧ (∀ d', d = d' + 1 → ∀ x ∈ acc, Cel.RdP wr (okMmp base wr (.slice q i cp)) d' x.1 x.2.1 x.2.2.1) ∧ Below w.heap.size w wr ∧ base ≤ wr.heap.size)
        case atStart => exact ⟨0, [], none, 0, by omega, rfl, rfl, HN3.out, HZ3.out, HL3.out, World.ownsRow_nil _ _ _ _, fun _ _ x hx => (by cases hx), HB3.out, by rw [HB0.out]; exact Nat.le_refl _⟩
        case round =>
          obtain ⟨i, acc, q, cp, hig, rfl, hacc, hn1, hn0, hn2, hown, hkid, hbel, hbs⟩ := hrel
          have HAC := Lib.hid hacc
          have HN1 := Lib.hid hn1
          have HN0 := Lib.hid hn0
          have HN2 := Lib.hid hn2
          have HOW := Lib.hid hown
          have HKD := Lib.hid hkid
          have HBL := Lib.hid hbel
          have hzr := hbel.size
          clear hacc hn1 hn0 hn2 hown hkid hbel HN3 HZ3 HL3 HB3 HB0
          obtain ⟨a0, a1, a2, a3, ad3, a4, ad4, a5⟩ := HN1.out.cells
          have b5 : wr.cell? ⟨L, 7, none⟩ = some (.slice q i cp) := HN2.out.cell 7 _ rfl
          by_cases hlt : i < len
          · have hli : (i : Int) < (len : Int) := by omega
            obtain ⟨d', b, off, c, p', l', c', hd, rfl, hbN, hc, hrc, q0, q1, q2, q3, qd3, q4, qd4, q5⟩ := (HRD.out.below HBL.out).at hlt
            have HC : Hid (mpC cols rows d') := HIH.out d' hd
            have HCO := Lib.hid (HOK.out c (mem_at hc))
            go_upto_region 13 with fail
            have e2 : wr.alloc (.cells #[.int .i64 c.kind, .int .i64 c.num, .string ⟨c.text.toArray⟩, .int .i64 (cC c.frm), .int .i64 (cR c.frm), .int .i64 (cC c.tor), .int .i64 (cR c.tor), .slice p' l' c'] Cel.tPn) = wr.alloc (.cells (Cel.ndA c p' l' c') Cel.tPn) := rfl
            rw [e2]
            clear e2
            have HBX : Hid (BlkC (wr.alloc (.cells (Cel.ndA c p' l' c') Cel.tPn)) wr.heap.size (Cel.ndA c p' l' c') Cel.tPn) := heap_alloc_new wr _
            have hbr : Below wr.heap.size wr (wr.alloc (.cells (Cel.ndA c p' l' c') Cel.tPn)) := (Below.refl _ _).alloc (Nat.le_refl _) _
            have HN1' := Lib.hid (HN1.out.below hbr)
            have HN0' := Lib.hid (HN0.out.below hbr)
            have HN2' := Lib.hid (HN2.out.below hbr)
            have HOW' := Lib.hid (row_below HOW.out hbr)
            have hrow : ∀ k, (Value.slice q i cp).ownBlock = some k → k < wr.heap.size := fun k e => (HOW.out.lt k e).2
            have HKD' := Lib.hid (fun d' hd => okM_grow (g := 0) hbr (HKD.out d' hd))
            have HBL' : Hid (Below w.heap.size w (wr.alloc (.cells (Cel.ndA c p' l' c') Cel.tPn))) := bel_call hbr HBL.out hzr
            have hrc' := hrc.below (hbr.mono hzr)
            have hzs := hbr.size
            have hgr : wr.heap.size < (wr.alloc (.cells (Cel.ndA c p' l' c') Cel.tPn)).heap.size := lt_some HBX.out
            clear hbr HN1 HN0 HN2 HOW HKD HBL hrc a0 a1 a2 a3 ad3 a4 ad4 a5 b5 q0 q1 q2 q3 qd3 q4 qd4 q5
            generalize (wr.alloc (.cells (Cel.ndA c p' l' c') Cel.tPn)) = ws at HBX HN1' HN0' HN2' HOW' HKD' HBL' hrc' hzs hgr ⊢
            have hbs' : base ≤ ws.heap.size := by omega
            have hzr' : w.heap.size ≤ ws.heap.size := by omega
            have hgb : base ≤ wr.heap.size := hbs
            generalize wr.heap.size = gx at HBX hzs hgr hgb hzr hbs hrow ⊢
            have HN1 := HN1'
            have HN0 := HN0'
            have HN2 := HN2'
            have HOW := HOW'
            have HKD := HKD'
            have HBL := HBL'
            clear HN1' HN0' HN2' HOW' HKD' HBL' hbs hzr
            have hbs := hbs'
            have hzr := hzr'
            have b7 : ws.cell? ⟨L, 7, none⟩ = some (.slice q i cp) := HN2.out.cell 7 _ rfl
            have B7 := KeptX.cell (base := base) (g := gx) (.inl hLb) b7
            have Q0 := KeptX.cell (base := base) (g := gx) (.inr rfl) (HBX.out.cell 0 _ rfl)
            have Q1 := KeptX.cell (base := base) (g := gx) (.inr rfl) (HBX.out.cell 1 _ rfl)
            have Q2 := KeptX.cell (base := base) (g := gx) (.inr rfl) (HBX.out.cell 2 _ rfl)
            have Q3 := KeptX.cell (base := base) (g := gx) (.inr rfl) (HBX.out.cell 3 _ rfl)
            have Q4 := KeptX.cell (base := base) (g := gx) (.inr rfl) (HBX.out.cell 4 _ rfl)
            have Q5 := KeptX.cell (base := base) (g := gx) (.inr rfl) (HBX.out.cell 5 _ rfl)
            have Q6 := KeptX.cell (base := base) (g := gx) (.inr rfl) (HBX.out.cell 6 _ rfl)
            have Q7 := KeptX.cell (base := base) (g := gx) (.inr rfl) (HBX.out.cell 7 _ rfl)
            refine wp_region_schedT (fun wx => ∃ x : KeptX base gx ws, wx = x.v) 8 [([0,1,2,3],4),([],5),([],6)] [7] (by kernel_rfl) (by kernel_rfl) (by kernel_rfl) (by kernel_rfl) (keptX_drew _ _ _) ?_
            (unfold wpSegK; simp only [pick_nil, pick_cons, nthO_zero, nthO_succ, List.append])
            clear b7
            repeat (go_big_quiet_step (fail))
            refine wpQuiet_nil ?_
            have HRC := Lib.hid hrc'
            have HHC := Lib.hid hc
            have HHD := Lib.hid hd
            clear hrc' hc hd
            have HCC := Lib.hid (HC.out c p' l' c' ws.drew ((HRC.out.below (Below.drew (Below.refl _ _))).mono hzr) HCO.out)
            rw [Cel.ndA_eq c p' l' c'] at HCC
            go_wp2_with fail
            refine HCC.out.mono ?_
            rintro e w3 ⟨⟨p2, l2, c2, rfl, hk3⟩, hb3⟩
            have hb4 : Hid (Below ws.heap.size ws w3) := bel_call hb3 (Below.drew (Below.refl _ _)) (Nat.le_refl _)
            have HK3 := Lib.hid hk3
            rw [show Value.agg (Cel.ndA ((mvN cols rows) c) p2 l2 c2) = .agg #[.int .i64 ((mvN cols rows) c).kind, .int .i64 ((mvN cols rows) c).num, .string ⟨((mvN cols rows) c).text.toArray⟩, .int .i64 (cC ((mvN cols rows) c).frm), .int .i64 (cR ((mvN cols rows) c).frm), .int .i64 (cC ((mvN cols rows) c).tor), .int .i64 (cR ((mvN cols rows) c).tor), .slice p2 l2 c2] from rfl]
            clear HCC hk3 hb3
            go_wp2_with fail
            have hB3 : Hid (Below base ws w3) := hb4.out.mono (by omega)
            refine ⟨rfl, ⟨⟨w3, fun k hk => hb4.out.block k (by omega)⟩, rfl⟩, ?_⟩
            (unfold wpSegK; simp only [pick_nil, pick_cons, nthO_zero, nthO_succ, List.append])
            refine wpQuiet_nil ?_
            go_wp2_with fail
            have e4 : w3.alloc (.cells #[.int .i64 ((mvN cols rows) c).kind, .int .i64 ((mvN cols rows) c).num, .string ⟨((mvN cols rows) c).text.toArray⟩, .int .i64 (cC ((mvN cols rows) c).frm), .int .i64 (cR ((mvN cols rows) c).frm), .int .i64 (cC ((mvN cols rows) c).tor), .int .i64 (cR ((mvN cols rows) c).tor), .slice p2 l2 c2] Cel.tPn) = w3.alloc (.cells (Cel.ndA ((mvN cols rows) c) p2 l2 c2) Cel.tPn) := rfl
            rw [e4]
            clear e4
            refine ⟨rfl, ⟨⟨_, fun k hk => (heap_alloc_old _ _ (by have := hb4.out.size; omega)).trans (hb4.out.block k (by omega))⟩, rfl⟩, ?_⟩
            (unfold wpSegK; simp only [pick_nil, pick_cons, nthO_zero, nthO_succ, List.append])
            refine wpQuiet_nil ?_
            have HRW := Lib.hid (row_below HOW.out hb4.out)
            refine wpList_append_own_at _ rfl _ _ _ rfl base Cel.tPn i0 _ 8 88 Tryz.underlying42 hi hz0 hz1 hz2 rfl (by decide) _ _ _ rfl (HRW.out.alloc _) ⟨w3.heap.size, 0, none⟩ 1 1 (Cel.ndC ((mvN cols rows) c) p2 l2 c2) rfl rfl (Cel.newNd w3 ((mvN cols rows) c) p2 l2 c2) ?c2 ?c3 ?c4 ?c5 ?_
            case c2 => exact Cel.kidC_one (((mvN cols rows) c), p2, l2, c2)
            case c3 => unfold maxLen; omega
            case c4 => omega
            case c5 => rw [World.size_alloc]; have := hb4.out.size; omega
            intro v' w5 hown5 hgrow5 _ hat5
            have hB5 : Hid (Below base ws w5) := (hB3.out.alloc (by have := hb4.out.size; omega) _).grown hgrow5 (by rw [World.size_alloc]; have := hb4.out.size; omega) (fun k hk => (HRW.out.lt k hk).1)
            have HOW5 : Hid (w5.ownsRow base Cel.tPn 8 v' (i + 1) ((acc ++ [(((mvN cols rows) c), p2, l2, c2)]).flatMap Cel.kidC)) := by
              unfold Hid
              rw [flat_snoc]
              exact hown5
            have HGX5 : Hid (w5.heap[gx]? = ws.heap[gx]?) := (hgrow5.block gx (by rw [World.size_alloc]; have := hb4.out.size; omega) (fun e => by have := hrow gx e.symm; omega)).trans ((heap_alloc_old _ _ (by have := hb4.out.size; omega)).trans (hb4.out.block gx hgr))
            have hla : acc.length = i := by
              have h := congrArg List.length HAC.out
              simp only [List.length_map, List.length_take] at h
              rw [HAL.out] at h
              omega
            obtain ⟨q5, cp5, hv5, _, _, _, _⟩ := RdG.of_own Cel.kidC_len (by rw [List.length_append, List.length_singleton, hla]) HOW5.out
            subst hv5
            have HN5 : Hid (BlkC w5 L (Cel.ndA ((mvN cols rows) n) q i cp) Cel.tPn) := (hB5.out.block _ hLb).trans HN2.out
            have HKN := Lib.hid (kidsMmp (G := L) (u := .slice q5 (i + 1) cp5) (c2 := c2) hLb hbs hb4.out hgrow5 hat5 (fun b e => (HOW.out.lt b e).2) (HKD.out d' HHD.out) HK3.out)
            have hs5 := hB5.out.size
            clear hown5 hgrow5 hat5 HRW HK3 HKD HCO HC HIH HOK B7 Q0 Q1 Q2 Q3 Q4 Q5 Q6 Q7
            have e5 : w5.cell? ⟨L, 7, none⟩ = some (.slice q i cp) := HN5.out.cell 7 _ rfl
            have g5 := HN5.out.fz 7
            go_wp2_with fail
            refine ⟨rfl, ⟨⟨w5, fun k hk => hk.elim (fun h => hB5.out.block k h) (fun h => by rw [h]; exact HGX5.out)⟩, rfl⟩, ?_⟩
            (unfold wpSegK; simp only [pick_nil, pick_cons, nthO_zero, nthO_succ, List.append])
            repeat (go_big_quiet_step (fail))
            refine wpQuiet_nil ?_
            go_wp2_with fail
            refine ⟨rfl, ?_⟩
            have HP6 : Hid (BlkC (w5.setCell ⟨L, 7, none⟩ (.slice q5 (i + 1) cp5)) L (Cel.ndA ((mvN cols rows) n) q5 (i + 1) cp5) Cel.tPn) := block_setCell HN5.out _
            have HR6 : Hid (Cel.NdB Cel.tPn (w5.setCell ⟨L, 7, none⟩ (.slice q5 (i + 1) cp5)) w.heap.size n (some ⟨b, off, none⟩) len cap) := by
              unfold Hid Cel.NdB
              rw [heap_setCell_other _ _ _ _ (by show w.heap.size ≠ L; omega), hB5.out.block _ (by omega)]
              exact HN1.out
            have HZ6 : Hid (BlkC (w5.setCell ⟨L, 7, none⟩ (.slice q5 (i + 1) cp5)) (w.heap.size + 1) (Cel.ndA nodeZ none 0 0) Cel.tPn) := by
              unfold Hid BlkC
              rw [heap_setCell_other _ _ _ _ (by show w.heap.size + 1 ≠ L; omega), hB5.out.block _ (by omega)]
              exact HN0.out
            have HW6 : Hid ((w5.setCell ⟨L, 7, none⟩ (.slice q5 (i + 1) cp5)).ownsRow base Cel.tPn 8 (.slice q5 (i + 1) cp5) (i + 1) ((acc ++ [(((mvN cols rows) c), p2, l2, c2)]).flatMap Cel.kidC)) :=
              row_carry HOW5.out (fun b hb => heap_setCell_other _ _ _ _ (by have := (HOW5.out.lt b hb).1; show b ≠ L; omega))
            have HL6 : Hid (Below w.heap.size w (w5.setCell ⟨L, 7, none⟩ (.slice q5 (i + 1) cp5))) := (HBL.out.trans (hB5.out.mono (by omega))).setCell (by show w.heap.size ≤ L; omega) _
            have hz6 : base ≤ (w5.setCell ⟨L, 7, none⟩ (.slice q5 (i + 1) cp5)).heap.size := by rw [World.size_setCell]; omega
            have HAN : Hid ((acc ++ [(((mvN cols rows) c), p2, l2, c2)]).map Prod.fst = (n.args.take (i + 1)).map (mvN cols rows)) := by
              unfold Hid
              rw [List.map_append, HAC.out, List.take_add_one, HHC.out]
              simp
            generalize w5.setCell ⟨L, 7, none⟩ (.slice q5 (i + 1) cp5) = w6 at HP6 HR6 HZ6 HW6 HL6 HKN hz6 ⊢
            clear HHC HN5 HN0 HN1 HN2 HOW HOW5 hB5 hB3 hb4 e5 g5 HBL
            go_wp2_with fail
            go_roundg (gk - 1)
            case measure => omega
            case rel =>
              refine ⟨i + 1, acc ++ [(((mvN cols rows) c), p2, l2, c2)], q5, cp5, by omega, by go_num, HAN.out, HR6.out, HZ6.out, HP6.out, HW6.out, fun d'' hd x hx => ?_, HL6.out, hz6⟩
              obtain rfl : d' = d'' := by have := HHD.out; omega
              exact HKN.out x hx
          · obtain rfl : i = len := by omega
            have hli : ¬ (i : Int) < (i : Int) := by omega
            have hla : acc.length = i := by
              have h := congrArg List.length HAC.out
              simp only [List.length_map, List.length_take] at h
              rw [HAL.out] at h
              omega
            clear a0 a1 a2 a3 ad3 a4 ad4 b5
            go_upto_region 15 with fail
            refine wp_region_lit ?_
            refine wpList_load_mid (by rfl) _ _ (by rfl) L 0 (by rfl) [.int .i64 ((mvN cols rows) n).kind, .int .i64 ((mvN cols rows) n).num, .string ⟨((mvN cols rows) n).text.toArray⟩, .int .i64 (cC ((mvN cols rows) n).frm), .int .i64 (cR ((mvN cols rows) n).frm), .int .i64 (cC ((mvN cols rows) n).tor), .int .i64 (cR ((mvN cols rows) n).tor), .slice q i cp] _ (block_range HN2.out [.int .i64 ((mvN cols rows) n).kind, .int .i64 ((mvN cols rows) n).num, .string ⟨((mvN cols rows) n).text.toArray⟩, .int .i64 (cC ((mvN cols rows) n).frm), .int .i64 (cR ((mvN cols rows) n).frm), .int .i64 (cC ((mvN cols rows) n).tor), .int .i64 (cR ((mvN cols rows) n).tor), .slice q i cp] rfl) Tryz.underlying44 rfl (by kernel_rfl) ?_
            go_simp
            refine wpList_store_mid (by rfl) _ _ _ (by rfl) (w.heap.size + 1) 0 #[.int .i64 ((mvN cols rows) n).kind, .int .i64 ((mvN cols rows) n).num, .string ⟨((mvN cols rows) n).text.toArray⟩, .int .i64 (cC ((mvN cols rows) n).frm), .int .i64 (cR ((mvN cols rows) n).frm), .int .i64 (cC ((mvN cols rows) n).tor), .int .i64 (cR ((mvN cols rows) n).tor), .slice q i cp] (by rfl) (by rfl) (block_there HN0.out 8 (Nat.le_refl _)) (by kernel_rfl) (by simp [Value.oneCell']) ?_
            have e8 : wr.setCells (w.heap.size + 1) 0 (#[.int .i64 ((mvN cols rows) n).kind, .int .i64 ((mvN cols rows) n).num, .string ⟨((mvN cols rows) n).text.toArray⟩, .int .i64 (cC ((mvN cols rows) n).frm), .int .i64 (cR ((mvN cols rows) n).frm), .int .i64 (cC ((mvN cols rows) n).tor), .int .i64 (cR ((mvN cols rows) n).tor), .slice q i cp]).toList = wr.setCells (w.heap.size + 1) 0 (Cel.ndA ((mvN cols rows) n) q i cp).toList := rfl
            rw [e8]
            clear e8
            have HS8 : Hid (BlkC (wr.setCells (w.heap.size + 1) 0 (Cel.ndA ((mvN cols rows) n) q i cp).toList) (w.heap.size + 1) (Cel.ndA ((mvN cols rows) n) q i cp) Cel.tPn) := store_block HN0.out _ rfl
            have HB8 : Hid (Below w.heap.size w (wr.setCells (w.heap.size + 1) 0 (Cel.ndA ((mvN cols rows) n) q i cp).toList)) := store_below (by omega) _ _ _ HBL.out
            have hz8 := (store_below (Nat.zero_le (w.heap.size + 1)) (Cel.ndA ((mvN cols rows) n) q i cp).toList 0 wr (Below.refl 0 wr)).size
            have HO8 : Hid (∀ k, k ≠ w.heap.size + 1 → (wr.setCells (w.heap.size + 1) 0 (Cel.ndA ((mvN cols rows) n) q i cp).toList).heap[k]? = wr.heap[k]?) := fun k hk => store_other hk _ _ _
            generalize wr.setCells (w.heap.size + 1) 0 (Cel.ndA ((mvN cols rows) n) q i cp).toList = w9 at HS8 HB8 HO8 hz8 ⊢
            go_simp
            iterate 3 (first | go_values | go_skip | go_guarded | go_step | go_upon)
            apply wp_ret
            try simp only [Exit.inBlock, Exit.then]
            refine bodyPost_ret (results_cell_row rfl _ _ (w.heap.size + 1) Cel.tPn (Cel.ndA ((mvN cols rows) n) q i cp) (0, 0) _ rfl HS8.out Tryz.underlying44 rfl (by kernel_rfl)) rfl ⟨⟨q, _, cp, rfl, ?_⟩, HB8.out⟩
            cases d with
            | zero =>
              have h := HRD.out
              refine ⟨?_, h.2⟩
              rw [HGA.out, h.1]; rfl
            | succ d =>
              subst hla
              obtain ⟨q', cp', hv, hr⟩ := Cel.RdP.of_row (n := ((mvN cols rows) n)) (d := d) (ok := fun b => base ≤ b ∧ b < wr.heap.size) HOW.out (by rw [HAC.out, List.take_of_length_le (by rw [HAL.out]; exact Nat.le_refl _)]; exact HGA.out.symm) (fun x hx => Cel.RdP.carry (fun b hb => ⟨⟨hb.1, hb.2.1⟩, rfl⟩) (HKD.out d rfl x hx)) (fun b hb => HOW.out.lt b hb)
              cases hv
              exact Cel.RdP.carry (fun b hb => ⟨⟨by omega, by omega⟩, HO8.out b (by omega)⟩) hr
    · have b3 : (n.kind == 3) = false := by simpa using h3
      obtain ⟨w3, hw3⟩ : ∃ w3, w1 = w3 := ⟨_, rfl⟩
      rw [hw3] at HN1 HZ1 HL1 HB1 ⊢
      clear hw3
      have HN3 := HN1
      have HZ3 := HZ1
      have HL3 : Hid (BlkC w3 (w.heap.size + 2) #[.int .i64 n.kind, .int .i64 n.num, .string ⟨n.text.toArray⟩, .int .i64 0, .int .i64 0, .int .i64 0, .int .i64 0, .slice none 0 0] Cel.tPn) := HL1.out
      have HB3 := HB1
      clear HOF HOT HN1 HZ1 HL1 HB1
      obtain ⟨c0, c1, c2, c3, cd3, c4, cd4, c5⟩ := HN3.out.cells
      go_upto_region 10 with fail
      clear c0 c1 c2 c3 cd3 c4 cd4
      have HGO := mvN_go (cols := cols) (rows := rows) (n := n) (by omega)
      have HGA : Hid ((mvN cols rows n).args = n.args.map (mvN cols rows)) := by unfold Hid; rw [HGO]; rfl
      have HE : Hid (Cel.ndA (mvN cols rows n) none 0 0 = #[.int .i64 n.kind, .int .i64 n.num, .string ⟨n.text.toArray⟩, .int .i64 0, .int .i64 0, .int .i64 0, .int .i64 0, .slice none 0 0]) := by
        unfold Hid
        rw [HGO]
        first | rw [if_pos (by omega), if_pos (by omega)] | rw [if_pos (by omega), if_neg (by omega)] | rw [if_neg (by omega), if_neg (by omega)]
        rfl
      rw [← HE.out] at HL3
      clear HGO HE
      have hLb : w.heap.size + 2 < w3.heap.size := lt_some HL3.out
      have hLH : w.heap.size + 1 < w.heap.size + 2 := by omega
      have hH1 : w.heap.size + 1 < w3.heap.size := by omega
      obtain ⟨L, hLe⟩ : ∃ L, w.heap.size + 2 = L := ⟨_, rfl⟩
      rw [hLe] at HL3 hLb hLH ⊢
      clear hLe
      obtain ⟨base, hbase⟩ : ∃ base, w3.heap.size = base := ⟨_, rfl⟩
      have HB0 := Lib.hid hbase
      rw [hbase] at hLb hH1
      clear hbase
      obtain ⟨i0, hi, hz0, hz1, hz2⟩ := info_of Cel.info_nd
      go_wp2_with fail
      go_loopg [58] len (fun g v wr => ∃ (i : Nat) (acc : List Cel.Kid) (q : Option Addr) (cp : Nat), i + g = len ∧ v = .int .i64 i ∧ acc.map Prod.fst = (n.args.take i).map (mvN cols rows) ∧ Cel.NdB Cel.tPn wr w.heap.size n p len cap ∧ BlkC wr (w.heap.size + 1) (Cel.ndA nodeZ none 0 0) Cel.tPn ∧ BlkC wr L (Cel.ndA ((mvN cols rows) n) q i cp) Cel.tPn ∧ wr.ownsRow base Cel.tPn 8 (.slice q i cp) i (acc.flatMap Cel.kidC) ∧ (∀ d', d = d' + 1 → ∀ x ∈ acc, Cel.RdP wr (okMmp base wr (.slice q i cp)) d' x.1 x.2.1 x.2.2.1) ∧ Below w.heap.size w wr ∧ base ≤ wr.heap.size)
      case atStart => exact ⟨0, [], none, 0, by omega, rfl, rfl, HN3.out, HZ3.out, HL3.out, World.ownsRow_nil _ _ _ _, fun _ _ x hx => (by cases hx), HB3.out, by rw [HB0.out]; exact Nat.le_refl _⟩
      case round =>
        obtain ⟨i, acc, q, cp, hig, rfl, hacc, hn1, hn0, hn2, hown, hkid, hbel, hbs⟩ := hrel
        have HAC := Lib.hid hacc
        have HN1 := Lib.hid hn1
        have HN0 := Lib.hid hn0
        have HN2 := Lib.hid hn2
        have HOW := Lib.hid hown
        have HKD := Lib.hid hkid
        have HBL := Lib.hid hbel
        have hzr := hbel.size
        clear hacc hn1 hn0 hn2 hown hkid hbel HN3 HZ3 HL3 HB3 HB0
        obtain ⟨a0, a1, a2, a3, ad3, a4, ad4, a5⟩ := HN1.out.cells
        have b5 : wr.cell? ⟨L, 7, none⟩ = some (.slice q i cp) := HN2.out.cell 7 _ rfl
        by_cases hlt : i < len
        · have hli : (i : Int) < (len : Int) := by omega
          obtain ⟨d', b, off, c, p', l', c', hd, rfl, hbN, hc, hrc, q0, q1, q2, q3, qd3, q4, qd4, q5⟩ := (HRD.out.below HBL.out).at hlt
          have HC : Hid (mpC cols rows d') := HIH.out d' hd
          have HCO := Lib.hid (HOK.out c (mem_at hc))
          go_upto_region 13 with fail
          have e2 : wr.alloc (.cells #[.int .i64 c.kind, .int .i64 c.num, .string ⟨c.text.toArray⟩, .int .i64 (cC c.frm), .int .i64 (cR c.frm), .int .i64 (cC c.tor), .int .i64 (cR c.tor), .slice p' l' c'] Cel.tPn) = wr.alloc (.cells (Cel.ndA c p' l' c') Cel.tPn) := rfl
          rw [e2]
          clear e2
          have HBX : Hid (BlkC (wr.alloc (.cells (Cel.ndA c p' l' c') Cel.tPn)) wr.heap.size (Cel.ndA c p' l' c') Cel.tPn) := heap_alloc_new wr _
          have hbr : Below wr.heap.size wr (wr.alloc (.cells (Cel.ndA c p' l' c') Cel.tPn)) := (Below.refl _ _).alloc (Nat.le_refl _) _
          have HN1' := Lib.hid (HN1.out.below hbr)
          have HN0' := Lib.hid (HN0.out.below hbr)
          have HN2' := Lib.hid (HN2.out.below hbr)
          have HOW' := Lib.hid (row_below HOW.out hbr)
          have hrow : ∀ k, (Value.slice q i cp).ownBlock = some k → k < wr.heap.size := fun k e => (HOW.out.lt k e).2
          have HKD' := Lib.hid (fun d' hd => okM_grow (g := 0) hbr (HKD.out d' hd))
          have HBL' : Hid (Below w.heap.size w (wr.alloc (.cells (Cel.ndA c p' l' c') Cel.tPn))) := bel_call hbr HBL.out hzr
          have hrc' := hrc.below (hbr.mono hzr)
          have hzs := hbr.size
          have hgr : wr.heap.size < (wr.alloc (.cells (Cel.ndA c p' l' c') Cel.tPn)).heap.size := lt_some HBX.out
          clear hbr HN1 HN0 HN2 HOW HKD HBL hrc a0 a1 a2 a3 ad3 a4 ad4 a5 b5 q0 q1 q2 q3 qd3 q4 qd4 q5
          generalize (wr.alloc (.cells (Cel.ndA c p' l' c') Cel.tPn)) = ws at HBX HN1' HN0' HN2' HOW' HKD' HBL' hrc' hzs hgr ⊢
          have hbs' : base ≤ ws.heap.size := by omega
          have hzr' : w.heap.size ≤ ws.heap.size := by omega
          have hgb : base ≤ wr.heap.size := hbs
          generalize wr.heap.size = gx at HBX hzs hgr hgb hzr hbs hrow ⊢
          have HN1 := HN1'
          have HN0 := HN0'
          have HN2 := HN2'
          have HOW := HOW'
          have HKD := HKD'
          have HBL := HBL'
          clear HN1' HN0' HN2' HOW' HKD' HBL' hbs hzr
          have hbs := hbs'
          have hzr := hzr'
          have b7 : ws.cell? ⟨L, 7, none⟩ = some (.slice q i cp) := HN2.out.cell 7 _ rfl
          have B7 := KeptX.cell (base := base) (g := gx) (.inl hLb) b7
          have Q0 := KeptX.cell (base := base) (g := gx) (.inr rfl) (HBX.out.cell 0 _ rfl)
          have Q1 := KeptX.cell (base := base) (g := gx) (.inr rfl) (HBX.out.cell 1 _ rfl)
          have Q2 := KeptX.cell (base := base) (g := gx) (.inr rfl) (HBX.out.cell 2 _ rfl)
          have Q3 := KeptX.cell (base := base) (g := gx) (.inr rfl) (HBX.out.cell 3 _ rfl)
          have Q4 := KeptX.cell (base := base) (g := gx) (.inr rfl) (HBX.out.cell 4 _ rfl)
          have Q5 := KeptX.cell (base := base) (g := gx) (.inr rfl) (HBX.out.cell 5 _ rfl)
          have Q6 := KeptX.cell (base := base) (g := gx) (.inr rfl) (HBX.out.cell 6 _ rfl)
          have Q7 := KeptX.cell (base := base) (g := gx) (.inr rfl) (HBX.out.cell 7 _ rfl)
          refine wp_region_schedT (fun wx => ∃ x : KeptX base gx ws, wx = x.v) 8 [([0,1,2,3],4),([],5),([],6)] [7] (by kernel_rfl) (by kernel_rfl) (by kernel_rfl) (by kernel_rfl) (keptX_drew _ _ _) ?_
          (unfold wpSegK; simp only [pick_nil, pick_cons, nthO_zero, nthO_succ, List.append])
          clear b7
          repeat (go_big_quiet_step (fail))
          refine wpQuiet_nil ?_
          have HRC := Lib.hid hrc'
          have HHC := Lib.hid hc
          have HHD := Lib.hid hd
          clear hrc' hc hd
          have HCC := Lib.hid (HC.out c p' l' c' ws.drew ((HRC.out.below (Below.drew (Below.refl _ _))).mono hzr) HCO.out)
          rw [Cel.ndA_eq c p' l' c'] at HCC
          go_wp2_with fail
          refine HCC.out.mono ?_
          rintro e w3 ⟨⟨p2, l2, c2, rfl, hk3⟩, hb3⟩
          have hb4 : Hid (Below ws.heap.size ws w3) := bel_call hb3 (Below.drew (Below.refl _ _)) (Nat.le_refl _)
          have HK3 := Lib.hid hk3
          rw [show Value.agg (Cel.ndA ((mvN cols rows) c) p2 l2 c2) = .agg #[.int .i64 ((mvN cols rows) c).kind, .int .i64 ((mvN cols rows) c).num, .string ⟨((mvN cols rows) c).text.toArray⟩, .int .i64 (cC ((mvN cols rows) c).frm), .int .i64 (cR ((mvN cols rows) c).frm), .int .i64 (cC ((mvN cols rows) c).tor), .int .i64 (cR ((mvN cols rows) c).tor), .slice p2 l2 c2] from rfl]
          clear HCC hk3 hb3
          go_wp2_with fail
          have hB3 : Hid (Below base ws w3) := hb4.out.mono (by omega)
          refine ⟨rfl, ⟨⟨w3, fun k hk => hb4.out.block k (by omega)⟩, rfl⟩, ?_⟩
          (unfold wpSegK; simp only [pick_nil, pick_cons, nthO_zero, nthO_succ, List.append])
          refine wpQuiet_nil ?_
          go_wp2_with fail
          have e4 : w3.alloc (.cells #[.int .i64 ((mvN cols rows) c).kind, .int .i64 ((mvN cols rows) c).num, .string ⟨((mvN cols rows) c).text.toArray⟩, .int .i64 (cC ((mvN cols rows) c).frm), .int .i64 (cR ((mvN cols rows) c).frm), .int .i64 (cC ((mvN cols rows) c).tor), .int .i64 (cR ((mvN cols rows) c).tor), .slice p2 l2 c2] Cel.tPn) = w3.alloc (.cells (Cel.ndA ((mvN cols rows) c) p2 l2 c2) Cel.tPn) := rfl
          rw [e4]
          clear e4
          refine ⟨rfl, ⟨⟨_, fun k hk => (heap_alloc_old _ _ (by have := hb4.out.size; omega)).trans (hb4.out.block k (by omega))⟩, rfl⟩, ?_⟩
          (unfold wpSegK; simp only [pick_nil, pick_cons, nthO_zero, nthO_succ, List.append])
          refine wpQuiet_nil ?_
          have HRW := Lib.hid (row_below HOW.out hb4.out)
          refine wpList_append_own_at _ rfl _ _ _ rfl base Cel.tPn i0 _ 8 88 Tryz.underlying42 hi hz0 hz1 hz2 rfl (by decide) _ _ _ rfl (HRW.out.alloc _) ⟨w3.heap.size, 0, none⟩ 1 1 (Cel.ndC ((mvN cols rows) c) p2 l2 c2) rfl rfl (Cel.newNd w3 ((mvN cols rows) c) p2 l2 c2) ?c2 ?c3 ?c4 ?c5 ?_
          case c2 => exact Cel.kidC_one (((mvN cols rows) c), p2, l2, c2)
          case c3 => unfold maxLen; omega
          case c4 => omega
          case c5 => rw [World.size_alloc]; have := hb4.out.size; omega
          intro v' w5 hown5 hgrow5 _ hat5
          have hB5 : Hid (Below base ws w5) := (hB3.out.alloc (by have := hb4.out.size; omega) _).grown hgrow5 (by rw [World.size_alloc]; have := hb4.out.size; omega) (fun k hk => (HRW.out.lt k hk).1)
          have HOW5 : Hid (w5.ownsRow base Cel.tPn 8 v' (i + 1) ((acc ++ [(((mvN cols rows) c), p2, l2, c2)]).flatMap Cel.kidC)) := by
            unfold Hid
            rw [flat_snoc]
            exact hown5
          have HGX5 : Hid (w5.heap[gx]? = ws.heap[gx]?) := (hgrow5.block gx (by rw [World.size_alloc]; have := hb4.out.size; omega) (fun e => by have := hrow gx e.symm; omega)).trans ((heap_alloc_old _ _ (by have := hb4.out.size; omega)).trans (hb4.out.block gx hgr))
          have hla : acc.length = i := by
            have h := congrArg List.length HAC.out
            simp only [List.length_map, List.length_take] at h
            rw [HAL.out] at h
            omega
          obtain ⟨q5, cp5, hv5, _, _, _, _⟩ := RdG.of_own Cel.kidC_len (by rw [List.length_append, List.length_singleton, hla]) HOW5.out
          subst hv5
          have HN5 : Hid (BlkC w5 L (Cel.ndA ((mvN cols rows) n) q i cp) Cel.tPn) := (hB5.out.block _ hLb).trans HN2.out
          have HKN := Lib.hid (kidsMmp (G := L) (u := .slice q5 (i + 1) cp5) (c2 := c2) hLb hbs hb4.out hgrow5 hat5 (fun b e => (HOW.out.lt b e).2) (HKD.out d' HHD.out) HK3.out)
          have hs5 := hB5.out.size
          clear hown5 hgrow5 hat5 HRW HK3 HKD HCO HC HIH HOK B7 Q0 Q1 Q2 Q3 Q4 Q5 Q6 Q7
          have e5 : w5.cell? ⟨L, 7, none⟩ = some (.slice q i cp) := HN5.out.cell 7 _ rfl
          have g5 := HN5.out.fz 7
          go_wp2_with fail
          refine ⟨rfl, ⟨⟨w5, fun k hk => hk.elim (fun h => hB5.out.block k h) (fun h => by rw [h]; exact HGX5.out)⟩, rfl⟩, ?_⟩
          (unfold wpSegK; simp only [pick_nil, pick_cons, nthO_zero, nthO_succ, List.append])
          repeat (go_big_quiet_step (fail))
          refine wpQuiet_nil ?_
          go_wp2_with fail
          refine ⟨rfl, ?_⟩
          have HP6 : Hid (BlkC (w5.setCell ⟨L, 7, none⟩ (.slice q5 (i + 1) cp5)) L (Cel.ndA ((mvN cols rows) n) q5 (i + 1) cp5) Cel.tPn) := block_setCell HN5.out _
          have HR6 : Hid (Cel.NdB Cel.tPn (w5.setCell ⟨L, 7, none⟩ (.slice q5 (i + 1) cp5)) w.heap.size n (some ⟨b, off, none⟩) len cap) := by
            unfold Hid Cel.NdB
            rw [heap_setCell_other _ _ _ _ (by show w.heap.size ≠ L; omega), hB5.out.block _ (by omega)]
            exact HN1.out
          have HZ6 : Hid (BlkC (w5.setCell ⟨L, 7, none⟩ (.slice q5 (i + 1) cp5)) (w.heap.size + 1) (Cel.ndA nodeZ none 0 0) Cel.tPn) := by
            unfold Hid BlkC
            rw [heap_setCell_other _ _ _ _ (by show w.heap.size + 1 ≠ L; omega), hB5.out.block _ (by omega)]
            exact HN0.out
          have HW6 : Hid ((w5.setCell ⟨L, 7, none⟩ (.slice q5 (i + 1) cp5)).ownsRow base Cel.tPn 8 (.slice q5 (i + 1) cp5) (i + 1) ((acc ++ [(((mvN cols rows) c), p2, l2, c2)]).flatMap Cel.kidC)) :=
            row_carry HOW5.out (fun b hb => heap_setCell_other _ _ _ _ (by have := (HOW5.out.lt b hb).1; show b ≠ L; omega))
          have HL6 : Hid (Below w.heap.size w (w5.setCell ⟨L, 7, none⟩ (.slice q5 (i + 1) cp5))) := (HBL.out.trans (hB5.out.mono (by omega))).setCell (by show w.heap.size ≤ L; omega) _
          have hz6 : base ≤ (w5.setCell ⟨L, 7, none⟩ (.slice q5 (i + 1) cp5)).heap.size := by rw [World.size_setCell]; omega
          have HAN : Hid ((acc ++ [(((mvN cols rows) c), p2, l2, c2)]).map Prod.fst = (n.args.take (i + 1)).map (mvN cols rows)) := by
            unfold Hid
            rw [List.map_append, HAC.out, List.take_add_one, HHC.out]
            simp
          generalize w5.setCell ⟨L, 7, none⟩ (.slice q5 (i + 1) cp5) = w6 at HP6 HR6 HZ6 HW6 HL6 HKN hz6 ⊢
          clear HHC HN5 HN0 HN1 HN2 HOW HOW5 hB5 hB3 hb4 e5 g5 HBL
          go_wp2_with fail
          go_roundg (gk - 1)
          case measure => omega
          case rel =>
            refine ⟨i + 1, acc ++ [(((mvN cols rows) c), p2, l2, c2)], q5, cp5, by omega, by go_num, HAN.out, HR6.out, HZ6.out, HP6.out, HW6.out, fun d'' hd x hx => ?_, HL6.out, hz6⟩
            obtain rfl : d' = d'' := by have := HHD.out; omega
            exact HKN.out x hx
        · obtain rfl : i = len := by omega
          have hli : ¬ (i : Int) < (i : Int) := by omega
          have hla : acc.length = i := by
            have h := congrArg List.length HAC.out
            simp only [List.length_map, List.length_take] at h
            rw [HAL.out] at h
            omega
          clear a0 a1 a2 a3 ad3 a4 ad4 b5
          go_upto_region 15 with fail
          refine wp_region_lit ?_
          refine wpList_load_mid (by rfl) _ _ (by rfl) L 0 (by rfl) [.int .i64 ((mvN cols rows) n).kind, .int .i64 ((mvN cols rows) n).num, .string ⟨((mvN cols rows) n).text.toArray⟩, .int .i64 (cC ((mvN cols rows) n).frm), .int .i64 (cR ((mvN cols rows) n).frm), .int .i64 (cC ((mvN cols rows) n).tor), .int .i64 (cR ((mvN cols rows) n).tor), .slice q i cp] _ (block_range HN2.out [.int .i64 ((mvN cols rows) n).kind, .int .i64 ((mvN cols rows) n).num, .string ⟨((mvN cols rows) n).text.toArray⟩, .int .i64 (cC ((mvN cols rows) n).frm), .int .i64 (cR ((mvN cols rows) n).frm), .int .i64 (cC ((mvN cols rows) n).tor), .int .i64 (cR ((mvN cols rows) n).tor), .slice q i cp] rfl) Tryz.underlying44 rfl (by kernel_rfl) ?_
          go_simp
          refine wpList_store_mid (by rfl) _ _ _ (by rfl) (w.heap.size + 1) 0 #[.int .i64 ((mvN cols rows) n).kind, .int .i64 ((mvN cols rows) n).num, .string ⟨((mvN cols rows) n).text.toArray⟩, .int .i64 (cC ((mvN cols rows) n).frm), .int .i64 (cR ((mvN cols rows) n).frm), .int .i64 (cC ((mvN cols rows) n).tor), .int .i64 (cR ((mvN cols rows) n).tor), .slice q i cp] (by rfl) (by rfl) (block_there HN0.out 8 (Nat.le_refl _)) (by kernel_rfl) (by simp [Value.oneCell']) ?_
          have e8 : wr.setCells (w.heap.size + 1) 0 (#[.int .i64 ((mvN cols rows) n).kind, .int .i64 ((mvN cols rows) n).num, .string ⟨((mvN cols rows) n).text.toArray⟩, .int .i64 (cC ((mvN cols rows) n).frm), .int .i64 (cR ((mvN cols rows) n).frm), .int .i64 (cC ((mvN cols rows) n).tor), .int .i64 (cR ((mvN cols rows) n).tor), .slice q i cp]).toList = wr.setCells (w.heap.size + 1) 0 (Cel.ndA ((mvN cols rows) n) q i cp).toList := rfl
          rw [e8]
          clear e8
          have HS8 : Hid (BlkC (wr.setCells (w.heap.size + 1) 0 (Cel.ndA ((mvN cols rows) n) q i cp).toList) (w.heap.size + 1) (Cel.ndA ((mvN cols rows) n) q i cp) Cel.tPn) := store_block HN0.out _ rfl
          have HB8 : Hid (Below w.heap.size w (wr.setCells (w.heap.size + 1) 0 (Cel.ndA ((mvN cols rows) n) q i cp).toList)) := store_below (by omega) _ _ _ HBL.out
          have hz8 := (store_below (Nat.zero_le (w.heap.size + 1)) (Cel.ndA ((mvN cols rows) n) q i cp).toList 0 wr (Below.refl 0 wr)).size
          have HO8 : Hid (∀ k, k ≠ w.heap.size + 1 → (wr.setCells (w.heap.size + 1) 0 (Cel.ndA ((mvN cols rows) n) q i cp).toList).heap[k]? = wr.heap[k]?) := fun k hk => store_other hk _ _ _
          generalize wr.setCells (w.heap.size + 1) 0 (Cel.ndA ((mvN cols rows) n) q i cp).toList = w9 at HS8 HB8 HO8 hz8 ⊢
          go_simp
          iterate 3 (first | go_values | go_skip | go_guarded | go_step | go_upon)
          apply wp_ret
          try simp only [Exit.inBlock, Exit.then]
          refine bodyPost_ret (results_cell_row rfl _ _ (w.heap.size + 1) Cel.tPn (Cel.ndA ((mvN cols rows) n) q i cp) (0, 0) _ rfl HS8.out Tryz.underlying44 rfl (by kernel_rfl)) rfl ⟨⟨q, _, cp, rfl, ?_⟩, HB8.out⟩
          cases d with
          | zero =>
            have h := HRD.out
            refine ⟨?_, h.2⟩
            rw [HGA.out, h.1]; rfl
          | succ d =>
            subst hla
            obtain ⟨q', cp', hv, hr⟩ := Cel.RdP.of_row (n := ((mvN cols rows) n)) (d := d) (ok := fun b => base ≤ b ∧ b < wr.heap.size) HOW.out (by rw [HAC.out, List.take_of_length_le (by rw [HAL.out]; exact Nat.le_refl _)]; exact HGA.out.symm) (fun x hx => Cel.RdP.carry (fun b hb => ⟨⟨hb.1, hb.2.1⟩, rfl⟩) (HKD.out d rfl x hx)) (fun b hb => HOW.out.lt b hb)
            cases hv
            exact Cel.RdP.carry (fun b hb => ⟨⟨by omega, by omega⟩, HO8.out b (by omega)⟩) hr
theorem mp_any (cols rows : Int) : ∀ d, mpC cols rows d
  | 0 => mp_s cols rows 0 (fun d' h => by omega)
  | d + 1 => mp_s cols rows (d + 1) (fun d' h => (show d = d' from by omega) ▸ mp_any cols rows d)
end Go.Proofs.YtbdgdhjhgcpidaaGreatDoor
