/- The program's Map from stamps to cells, with the closure of bind.Back. Printed by gen_bfm.py. -/
import Derived.Test.YtjklbbmgjjdalaaGreatDoorBbX
set_option linter.unusedSimpArgs false
set_option linter.unusedVariables false
namespace Go.Proofs.YtjklbbmgjjdalaaGreatDoor.Bd
open Go.RowKit Go.Joins
def mkK (rows cols : List Idp) (b5 : Nat) (w0 : World) (b3 b4 : Nat) : Prop := ∀ (k : Rfp) (W : World), Off b5 w0 W → Calls Tryz.prog 34 #[.agg #[.int .u64 k.1.1, .int .i64 k.1.2, .int .u64 k.2.1, .int .i64 k.2.2], .pointer (some ⟨b3, 0, none⟩), .pointer (some ⟨b4, 0, none⟩)] W fun e w' => e = .returned (.tuple #[.agg #[.int .i64 (cC (bkC rows cols k)), .int .i64 (cR (bkC rows cols k))], .bool (decide (bkC rows cols k ≠ 0))]) ∧ Off b5 W w'
def mkC (rows cols : List Idp) (N b5 : Nat) (w0 : World) (b3 b4 : Nat) (d : Nat) : Prop := ∀ (n : Bn) (p : Option Addr) (len cap : Nat) (w : World), Off b5 w0 w → RdQ rfE 12 w (· < N) d n p len → Sm n → Calls Tryz.prog 33 #[.agg (bnA n p len cap), .func (.func 34) #[] #[.pointer (some ⟨b3, 0, none⟩), .pointer (some ⟨b4, 0, none⟩)]] w fun e w' => (∃ p' len' cap', e = .returned (.agg (Cel.ndA ((bkN rows cols) n) p' len' cap')) ∧ Cel.RdP w' (fun b => w.heap.size ≤ b ∧ b < w'.heap.size) d ((bkN rows cols) n) p' len') ∧ Off b5 w w'
set_option maxRecDepth 100000 in
set_option maxHeartbeats 16000000 in
theorem mk_s (rows cols : List Idp) (N b5 : Nat) (w0 : World) (b3 b4 : Nat) (hN : N ≤ b5) (hb5 : b5 < w0.heap.size) (HK : mkK rows cols b5 w0 b3 b4) (d : Nat) (IH : ∀ d', d = d' + 1 → mkC rows cols N b5 w0 b3 b4 d') : mkC rows cols N b5 w0 b3 b4 d := by
  intro n p len cap w hof0 hrd hok
  have HRD := Lib.hid hrd
  have HIH := Lib.hid IH
  have hlen := Sm.len hok
  rw [hrd.len] at hlen
  have HAL := Lib.hid hrd.len
  have HOK := Lib.hid (fun c hc => Sm.child (c := c) hok hc)
  have HKH := Lib.hid HK
  have HF0 := Lib.hid hof0
  have hbw : b5 < w.heap.size := Nat.lt_of_lt_of_le hb5 hof0.size
  have hNw : N ≤ w.heap.size := by omega
  rw [show Value.agg (bnA n p len cap) = .agg #[.int .i64 n.kind, .int .i64 n.num, .string ⟨n.text.toArray⟩, .int .u64 n.frm.1.1, .int .i64 n.frm.1.2, .int .u64 n.frm.2.1, .int .i64 n.frm.2.2, .int .u64 n.tor.1.1, .int .i64 n.tor.1.2, .int .u64 n.tor.2.1, .int .i64 n.tor.2.2, .slice p len cap] from rfl]
  clear hrd IH hok HK hof0
  go_enter Tryz.func33, Tryz.ntmps33
  go_upto_region 2 with fail
  have e0 : ((w.alloc (.cells #[.int .i64 n.kind, .int .i64 n.num, .string ⟨n.text.toArray⟩, .int .u64 n.frm.1.1, .int .i64 n.frm.1.2, .int .u64 n.frm.2.1, .int .i64 n.frm.2.2, .int .u64 n.tor.1.1, .int .i64 n.tor.1.2, .int .u64 n.tor.2.1, .int .i64 n.tor.2.2, .slice p len cap] tNr)).alloc (.cells #[.int .i64 0, .int .i64 0, .string ⟨#[]⟩, .int .i64 0, .int .i64 0, .int .i64 0, .int .i64 0, .slice none 0 0] Cel.tPn)).alloc (.cells #[.int .i64 n.kind, .int .i64 n.num, .string ⟨n.text.toArray⟩, .int .i64 0, .int .i64 0, .int .i64 0, .int .i64 0, .slice none 0 0] Cel.tPn) = ((w.alloc (.cells (bnA n p len cap) tNr)).alloc (.cells (Cel.ndA nodeZ none 0 0) Cel.tPn)).alloc (.cells #[.int .i64 n.kind, .int .i64 n.num, .string ⟨n.text.toArray⟩, .int .i64 0, .int .i64 0, .int .i64 0, .int .i64 0, .slice none 0 0] Cel.tPn) := rfl
  rw [e0]
  clear e0
  have HN1 : Hid (BlkC (((w.alloc (.cells (bnA n p len cap) tNr)).alloc (.cells (Cel.ndA nodeZ none 0 0) Cel.tPn)).alloc (.cells #[.int .i64 n.kind, .int .i64 n.num, .string ⟨n.text.toArray⟩, .int .i64 0, .int .i64 0, .int .i64 0, .int .i64 0, .slice none 0 0] Cel.tPn)) w.heap.size (bnA n p len cap) tNr) := (three_ho w _ _ _).1
  have HZ1 : Hid (BlkC (((w.alloc (.cells (bnA n p len cap) tNr)).alloc (.cells (Cel.ndA nodeZ none 0 0) Cel.tPn)).alloc (.cells #[.int .i64 n.kind, .int .i64 n.num, .string ⟨n.text.toArray⟩, .int .i64 0, .int .i64 0, .int .i64 0, .int .i64 0, .slice none 0 0] Cel.tPn)) (w.heap.size + 1) (Cel.ndA nodeZ none 0 0) Cel.tPn) := (three_ho w _ _ _).2.1
  have HL1 : Hid (BlkC (((w.alloc (.cells (bnA n p len cap) tNr)).alloc (.cells (Cel.ndA nodeZ none 0 0) Cel.tPn)).alloc (.cells #[.int .i64 n.kind, .int .i64 n.num, .string ⟨n.text.toArray⟩, .int .i64 0, .int .i64 0, .int .i64 0, .int .i64 0, .slice none 0 0] Cel.tPn)) (w.heap.size + 2) #[.int .i64 n.kind, .int .i64 n.num, .string ⟨n.text.toArray⟩, .int .i64 0, .int .i64 0, .int .i64 0, .int .i64 0, .slice none 0 0] Cel.tPn) := (three_ho w _ _ _).2.2
  have hbel : Below w.heap.size w (((w.alloc (.cells (bnA n p len cap) tNr)).alloc (.cells (Cel.ndA nodeZ none 0 0) Cel.tPn)).alloc (.cells #[.int .i64 n.kind, .int .i64 n.num, .string ⟨n.text.toArray⟩, .int .i64 0, .int .i64 0, .int .i64 0, .int .i64 0, .slice none 0 0] Cel.tPn)) := three_bo _ _ _
  have HB1 : Hid (Off b5 w (((w.alloc (.cells (bnA n p len cap) tNr)).alloc (.cells (Cel.ndA nodeZ none 0 0) Cel.tPn)).alloc (.cells #[.int .i64 n.kind, .int .i64 n.num, .string ⟨n.text.toArray⟩, .int .i64 0, .int .i64 0, .int .i64 0, .int .i64 0, .slice none 0 0] Cel.tPn))) := Off.of_below hbel
  clear hbel
  generalize ((w.alloc (.cells (bnA n p len cap) tNr)).alloc (.cells (Cel.ndA nodeZ none 0 0) Cel.tPn)).alloc (.cells #[.int .i64 n.kind, .int .i64 n.num, .string ⟨n.text.toArray⟩, .int .i64 0, .int .i64 0, .int .i64 0, .int .i64 0, .slice none 0 0] Cel.tPn) = w1 at HN1 HZ1 HL1 HB1 ⊢
  have k0 : w1.cell? ⟨w.heap.size, 0, none⟩ = some (.int .i64 n.kind) := HN1.out.cell 0 _ rfl
  go_cut [26] (fun v wx => v = .bool (decide (n.kind = 3 ∨ n.kind = 4)) ∧ wx = w1)
  case first =>
    clear HN1 HZ1 HL1 HB1 HKH HIH HRD HOK HAL
    by_cases h3 : n.kind = 3
    · have b3' : (n.kind == 3) = true := by simpa using h3
      go_wp2_with fail
      go_meet
      exact ⟨by rw [decide_eq_true (show n.kind = 3 ∨ n.kind = 4 from .inl h3)], rfl⟩
    · have b3' : (n.kind == 3) = false := by simpa using h3
      by_cases h4 : n.kind = 4
      · have b4' : (n.kind == 4) = true := by simpa using h4
        go_wp2_with fail
        go_meet
        exact ⟨by rw [decide_eq_true (show n.kind = 3 ∨ n.kind = 4 from .inr h4)], rfl⟩
      · have b4' : (n.kind == 4) = false := by simpa using h4
        go_wp2_with fail
        go_meet
        exact ⟨by rw [decide_eq_false (by omega)], rfl⟩
  case rest =>
  obtain ⟨hv, hw⟩ := hcut
  rw [hw]
  clear hw k0
  obtain ⟨T26, hT26⟩ : ∃ x, decide (n.kind = 3 ∨ n.kind = 4) = x := ⟨_, rfl⟩
  rw [hT26] at hv
  rw [hv]
  clear hv
  go_upto_if 26 with fail
  go_cut [] (fun wx => BlkC wx w.heap.size (bnA n p len cap) tNr ∧ BlkC wx (w.heap.size + 1) (Cel.ndA nodeZ none 0 0) Cel.tPn ∧ BlkC wx (w.heap.size + 2) (Cel.ndA ((bkN rows cols) n) none 0 0) Cel.tPn ∧ Off b5 w wx ∧ ¬ (((n.kind = 3 ∨ n.kind = 4) ∧ bkC rows cols n.frm = 0) ∨ (n.kind = 4 ∧ bkC rows cols n.tor = 0)))
  case first =>
    by_cases h4 : n.kind = 4
    · have b3' : (n.kind == 3) = false := by simp; omega
      have b4' : (n.kind == 4) = true := by simpa using h4
      obtain rfl : T26 = true := by rw [← hT26]; exact decide_eq_true (.inr h4)
      have H4 := Lib.hid h4
      clear hT26 h4
      obtain ⟨F1, hF1⟩ : ∃ x, (bkC rows cols n.frm) = x := ⟨_, rfl⟩
      obtain ⟨T1, hT1⟩ : ∃ x, (bkC rows cols n.tor) = x := ⟨_, rfl⟩
      obtain ⟨B1, hB1⟩ : ∃ x, decide (bkC rows cols n.frm ≠ 0) = x := ⟨_, rfl⟩
      obtain ⟨B2, hB2⟩ : ∃ x, decide (bkC rows cols n.tor ≠ 0) = x := ⟨_, rfl⟩
      have HKF1 : Hid (∀ W, Off b5 w0 W → Calls Tryz.prog 34 #[.agg #[.int .u64 n.frm.1.1, .int .i64 n.frm.1.2, .int .u64 n.frm.2.1, .int .i64 n.frm.2.2], .pointer (some ⟨b3, 0, none⟩), .pointer (some ⟨b4, 0, none⟩)] W fun e w' => e = .returned (.tuple #[.agg #[.int .i64 (cC F1), .int .i64 (cR F1)], .bool B1]) ∧ Off b5 W w') := fun W hW => by
        have h := HKH.out (n.frm) W hW
        rw [hB1, hF1] at h
        exact h
      have HKT1 : Hid (∀ W, Off b5 w0 W → Calls Tryz.prog 34 #[.agg #[.int .u64 n.tor.1.1, .int .i64 n.tor.1.2, .int .u64 n.tor.2.1, .int .i64 n.tor.2.2], .pointer (some ⟨b3, 0, none⟩), .pointer (some ⟨b4, 0, none⟩)] W fun e w' => e = .returned (.tuple #[.agg #[.int .i64 (cC T1), .int .i64 (cR T1)], .bool B2]) ∧ Off b5 W w') := fun W hW => by
        have h := HKH.out (n.tor) W hW
        rw [hB2, hT1] at h
        exact h
      have HBE1 := Lib.hid hB1
      have HBE2 := Lib.hid hB2
      have HFE1 := Lib.hid hF1
      have HTE1 := Lib.hid hT1
      clear hF1 hT1 hB1 hB2  HKH
      have q3 : w1.cell? ⟨w.heap.size, 3, none⟩ = some (.int .u64 n.frm.1.1) := HN1.out.cell 3 _ rfl
      have q4 : w1.cell? ⟨w.heap.size, 4, none⟩ = some (.int .i64 n.frm.1.2) := HN1.out.cell 4 _ rfl
      have q5 : w1.cell? ⟨w.heap.size, 5, none⟩ = some (.int .u64 n.frm.2.1) := HN1.out.cell 5 _ rfl
      have q6 : w1.cell? ⟨w.heap.size, 6, none⟩ = some (.int .i64 n.frm.2.2) := HN1.out.cell 6 _ rfl
      have qk : w1.cell? ⟨w.heap.size, 0, none⟩ = some (.int .i64 n.kind) := HN1.out.cell 0 _ rfl
      go_wp2_with fail
      go_at_call 34
      refine (HKF1.out w1 (HF0.out.trans HB1.out)).mono ?_
      rintro e wa ⟨rfl, hoff⟩
      have HNa : Hid (BlkC wa w.heap.size (bnA n p len cap) tNr) := hoff.blk (by omega) HN1.out
      have HZa : Hid (BlkC wa (w.heap.size + 1) (Cel.ndA nodeZ none 0 0) Cel.tPn) := hoff.blk (by omega) HZ1.out
      have HLa := Lib.hid (hoff.blk (show w.heap.size + 2 ≠ b5 by omega) HL1.out)
      have HBa := Lib.hid (HB1.out.trans hoff)
      clear hoff qk q3 q4 q5 q6 HN1 HZ1 HL1 HB1
      go_upto_region 4 with fail
      have HXb : Hid (BlkC (wa.alloc (.cells #[.int .i64 (cC F1), .int .i64 (cR F1)] 45)) wa.heap.size #[.int .i64 (cC F1), .int .i64 (cR F1)] 45) := heap_alloc_new wa _
      have hb : Below wa.heap.size wa (wa.alloc (.cells #[.int .i64 (cC F1), .int .i64 (cR F1)] 45)) := (Below.refl _ _).alloc (Nat.le_refl _) _
      have HNb := Lib.hid (HNa.out.below hb)
      have HZb := Lib.hid (HZa.out.below hb)
      have HLb : Hid (BlkC (wa.alloc (.cells #[.int .i64 (cC F1), .int .i64 (cR F1)] 45)) (w.heap.size + 2) _ _) := BlkC.below HLa.out hb
      have HBb := Lib.hid (HBa.out.call hb)
      have hgz : w.heap.size + 2 < wa.heap.size := lt_some HLa.out
      clear hb HNa HZa HLa HBa
      generalize (wa.alloc (.cells #[.int .i64 (cC F1), .int .i64 (cR F1)] 45)) = wb at HXb HNb HZb HLb HBb ⊢
      generalize wa.heap.size = gXb at HXb hgz ⊢
      have x0 : wb.cell? ⟨gXb, 0, none⟩ = some (.int .i64 (cC F1)) := HXb.out.cell 0 _ rfl
      have x1 : wb.cell? ⟨gXb, 1, none⟩ = some (.int .i64 (cR F1)) := HXb.out.cell 1 _ rfl
      have l0 : wb.cell? ⟨w.heap.size + 2, 3, none⟩ = some (.int .i64 0) := HLb.out.cell 3 _ rfl
      have z0 := HLb.out.fz 3
      have l1 : wb.cell? ⟨w.heap.size + 2, 4, none⟩ = some (.int .i64 0) := HLb.out.cell 4 _ rfl
      have z1 := HLb.out.fz 4
      have hl : w.heap.size + 2 < wb.heap.size := lt_some HLb.out
      go_upto_region 5 with fail
      have HLc : Hid (BlkC ((wb.setCell ⟨w.heap.size + 2, 3, none⟩ (.int .i64 (cC F1))).setCell ⟨w.heap.size + 2, 4, none⟩ (.int .i64 (cR F1))) (w.heap.size + 2) #[.int .i64 n.kind, .int .i64 n.num, .string ⟨n.text.toArray⟩, .int .i64 (cC F1), .int .i64 (cR F1), .int .i64 0, .int .i64 0, .slice none 0 0] Cel.tPn) := block_setCell (block_setCell (HLb.out) _) _
      have hb2 : Below (w.heap.size + 2) wb ((wb.setCell ⟨w.heap.size + 2, 3, none⟩ (.int .i64 (cC F1))).setCell ⟨w.heap.size + 2, 4, none⟩ (.int .i64 (cR F1))) := ((Below.refl _ _).setCell (p := ⟨w.heap.size + 2, 3, none⟩) (Nat.le_refl _) _).setCell (p := ⟨w.heap.size + 2, 4, none⟩) (Nat.le_refl _) _
      have HNc : Hid (BlkC ((wb.setCell ⟨w.heap.size + 2, 3, none⟩ (.int .i64 (cC F1))).setCell ⟨w.heap.size + 2, 4, none⟩ (.int .i64 (cR F1))) w.heap.size (bnA n p len cap) tNr) := (hb2.block _ (by omega)).trans HNb.out
      have HZc : Hid (BlkC ((wb.setCell ⟨w.heap.size + 2, 3, none⟩ (.int .i64 (cC F1))).setCell ⟨w.heap.size + 2, 4, none⟩ (.int .i64 (cR F1))) (w.heap.size + 1) (Cel.ndA nodeZ none 0 0) Cel.tPn) := (hb2.block _ (by omega)).trans HZb.out
      have HBc : Hid (Off b5 w ((wb.setCell ⟨w.heap.size + 2, 3, none⟩ (.int .i64 (cC F1))).setCell ⟨w.heap.size + 2, 4, none⟩ (.int .i64 (cR F1)))) := Off.set_new (Off.set_new (HBb.out) (by omega) _ _) (by omega) _ _
      clear hb2 x0 l0 z0 x1 l1 z1 hl HNb HZb HLb HBb HXb
      generalize ((wb.setCell ⟨w.heap.size + 2, 3, none⟩ (.int .i64 (cC F1))).setCell ⟨w.heap.size + 2, 4, none⟩ (.int .i64 (cR F1))) = wc at HLc HNc HZc HBc ⊢
      have q7 : wc.cell? ⟨w.heap.size, 7, none⟩ = some (.int .u64 n.tor.1.1) := HNc.out.cell 7 _ rfl
      have q8 : wc.cell? ⟨w.heap.size, 8, none⟩ = some (.int .i64 n.tor.1.2) := HNc.out.cell 8 _ rfl
      have q9 : wc.cell? ⟨w.heap.size, 9, none⟩ = some (.int .u64 n.tor.2.1) := HNc.out.cell 9 _ rfl
      have q10 : wc.cell? ⟨w.heap.size, 10, none⟩ = some (.int .i64 n.tor.2.2) := HNc.out.cell 10 _ rfl
      have qk : wc.cell? ⟨w.heap.size, 0, none⟩ = some (.int .i64 n.kind) := HNc.out.cell 0 _ rfl
      go_wp2_with fail
      go_at_call 34
      refine (HKT1.out wc (HF0.out.trans HBc.out)).mono ?_
      rintro e wd ⟨rfl, hoff⟩
      have HNd : Hid (BlkC wd w.heap.size (bnA n p len cap) tNr) := hoff.blk (by omega) HNc.out
      have HZd : Hid (BlkC wd (w.heap.size + 1) (Cel.ndA nodeZ none 0 0) Cel.tPn) := hoff.blk (by omega) HZc.out
      have HLd := Lib.hid (hoff.blk (show w.heap.size + 2 ≠ b5 by omega) HLc.out)
      have HBd := Lib.hid (HBc.out.trans hoff)
      clear hoff qk q7 q8 q9 q10 HNc HZc HLc HBc
      go_upto_region 7 with fail
      have HXe : Hid (BlkC (wd.alloc (.cells #[.int .i64 (cC T1), .int .i64 (cR T1)] 45)) wd.heap.size #[.int .i64 (cC T1), .int .i64 (cR T1)] 45) := heap_alloc_new wd _
      have hb : Below wd.heap.size wd (wd.alloc (.cells #[.int .i64 (cC T1), .int .i64 (cR T1)] 45)) := (Below.refl _ _).alloc (Nat.le_refl _) _
      have HNe := Lib.hid (HNd.out.below hb)
      have HZe := Lib.hid (HZd.out.below hb)
      have HLe : Hid (BlkC (wd.alloc (.cells #[.int .i64 (cC T1), .int .i64 (cR T1)] 45)) (w.heap.size + 2) _ _) := BlkC.below HLd.out hb
      have HBe := Lib.hid (HBd.out.call hb)
      have hgz : w.heap.size + 2 < wd.heap.size := lt_some HLd.out
      clear hb HNd HZd HLd HBd
      generalize (wd.alloc (.cells #[.int .i64 (cC T1), .int .i64 (cR T1)] 45)) = we at HXe HNe HZe HLe HBe ⊢
      generalize wd.heap.size = gXe at HXe hgz ⊢
      clear HKF1 HKT1
      cases B1 with
      | false =>
        have x0 : we.cell? ⟨gXe, 0, none⟩ = some (.int .i64 (cC T1)) := HXe.out.cell 0 _ rfl
        have x1 : we.cell? ⟨gXe, 1, none⟩ = some (.int .i64 (cR T1)) := HXe.out.cell 1 _ rfl
        have l0 : we.cell? ⟨w.heap.size + 2, 5, none⟩ = some (.int .i64 0) := HLe.out.cell 5 _ rfl
        have z0 := HLe.out.fz 5
        have l1 : we.cell? ⟨w.heap.size + 2, 6, none⟩ = some (.int .i64 0) := HLe.out.cell 6 _ rfl
        have z1 := HLe.out.fz 6
        have hl : w.heap.size + 2 < we.heap.size := lt_some HLe.out
        go_upto_region 8 with fail
        have HL3 : Hid (BlkC ((we.setCell ⟨w.heap.size + 2, 5, none⟩ (.int .i64 (cC T1))).setCell ⟨w.heap.size + 2, 6, none⟩ (.int .i64 (cR T1))) (w.heap.size + 2) #[.int .i64 n.kind, .int .i64 n.num, .string ⟨n.text.toArray⟩, .int .i64 (cC F1), .int .i64 (cR F1), .int .i64 (cC T1), .int .i64 (cR T1), .slice none 0 0] Cel.tPn) := block_setCell (block_setCell (HLe.out) _) _
        have hb2 : Below (w.heap.size + 2) we ((we.setCell ⟨w.heap.size + 2, 5, none⟩ (.int .i64 (cC T1))).setCell ⟨w.heap.size + 2, 6, none⟩ (.int .i64 (cR T1))) := ((Below.refl _ _).setCell (p := ⟨w.heap.size + 2, 5, none⟩) (Nat.le_refl _) _).setCell (p := ⟨w.heap.size + 2, 6, none⟩) (Nat.le_refl _) _
        have HN3 : Hid (BlkC ((we.setCell ⟨w.heap.size + 2, 5, none⟩ (.int .i64 (cC T1))).setCell ⟨w.heap.size + 2, 6, none⟩ (.int .i64 (cR T1))) w.heap.size (bnA n p len cap) tNr) := (hb2.block _ (by omega)).trans HNe.out
        have HZ3 : Hid (BlkC ((we.setCell ⟨w.heap.size + 2, 5, none⟩ (.int .i64 (cC T1))).setCell ⟨w.heap.size + 2, 6, none⟩ (.int .i64 (cR T1))) (w.heap.size + 1) (Cel.ndA nodeZ none 0 0) Cel.tPn) := (hb2.block _ (by omega)).trans HZe.out
        have HB3 : Hid (Off b5 w ((we.setCell ⟨w.heap.size + 2, 5, none⟩ (.int .i64 (cC T1))).setCell ⟨w.heap.size + 2, 6, none⟩ (.int .i64 (cR T1)))) := Off.set_new (Off.set_new (HBe.out) (by omega) _ _) (by omega) _ _
        clear hb2 x0 l0 z0 x1 l1 z1 hl HNe HZe HLe HBe HXe
        generalize ((we.setCell ⟨w.heap.size + 2, 5, none⟩ (.int .i64 (cC T1))).setCell ⟨w.heap.size + 2, 6, none⟩ (.int .i64 (cR T1))) = w3 at HL3 HN3 HZ3 HB3 ⊢
        have hm0 := of_decide_eq_false HBE1.out
        have h4 := H4.out
        go_upto_region 9 with fail
        have HFL : ((n.kind = 3 ∨ n.kind = 4) ∧ bkC rows cols n.frm = 0) ∨ (n.kind = 4 ∧ bkC rows cols n.tor = 0) := .inl ⟨.inr h4, by by_cases h : bkC rows cols n.frm = 0; exact h; exact absurd h hm0⟩
        have HM : Hid (((bkN rows cols) n) = fltN) := bkN_flt HFL
        refine wp_region_lit ?_
        refine wpList_plain rfl fun K hK => ?_
        go_simp
        refine hK _ _ ?_
        clear hK K
        refine wpList_store_mid (by rfl) _ _ _ (by rfl) (w.heap.size + 1) 0 #[.int .i64 8, .int .i64 0, .string ⟨#[]⟩, .int .i64 0, .int .i64 0, .int .i64 0, .int .i64 0, .slice none 0 0] (by rfl) (by rfl) (block_there HZ3.out 8 (Nat.le_refl _)) (by kernel_rfl) (by simp [Value.oneCell']) ?_
        have e8 : w3.setCells (w.heap.size + 1) 0 (#[.int .i64 8, .int .i64 0, .string ⟨#[]⟩, .int .i64 0, .int .i64 0, .int .i64 0, .int .i64 0, .slice none 0 0]).toList = w3.setCells (w.heap.size + 1) 0 (Cel.ndA fltN none 0 0).toList := rfl
        rw [e8]
        clear e8
        have HS8 : Hid (BlkC (w3.setCells (w.heap.size + 1) 0 (Cel.ndA fltN none 0 0).toList) (w.heap.size + 1) (Cel.ndA fltN none 0 0) Cel.tPn) := store_block HZ3.out _ rfl
        have HB8 : Hid (Off b5 w (w3.setCells (w.heap.size + 1) 0 (Cel.ndA fltN none 0 0).toList)) := HB3.out.set_cells (by omega) _ _
        generalize w3.setCells (w.heap.size + 1) 0 (Cel.ndA fltN none 0 0).toList = w9 at HS8 HB8 ⊢
        clear HN3 HZ3 HL3 HB3
        go_simp
        go_wp2_with fail
        try simp only [Exit.inBlock, Exit.then]
        rw [HM.out]
        exact bodyPost_ret (results_cell_row rfl _ _ (w.heap.size + 1) Cel.tPn (Cel.ndA fltN none 0 0) (0, 0) _ rfl HS8.out Tryz.underlying48 rfl (by kernel_rfl)) rfl ⟨⟨none, 0, 0, rfl, rdp_leaf _ _ rfl _ _⟩, HB8.out⟩
      | true =>
        have x0 : we.cell? ⟨gXe, 0, none⟩ = some (.int .i64 (cC T1)) := HXe.out.cell 0 _ rfl
        have x1 : we.cell? ⟨gXe, 1, none⟩ = some (.int .i64 (cR T1)) := HXe.out.cell 1 _ rfl
        have l0 : we.cell? ⟨w.heap.size + 2, 5, none⟩ = some (.int .i64 0) := HLe.out.cell 5 _ rfl
        have z0 := HLe.out.fz 5
        have l1 : we.cell? ⟨w.heap.size + 2, 6, none⟩ = some (.int .i64 0) := HLe.out.cell 6 _ rfl
        have z1 := HLe.out.fz 6
        have hl : w.heap.size + 2 < we.heap.size := lt_some HLe.out
        go_upto_region 8 with fail
        have HL3 : Hid (BlkC ((we.setCell ⟨w.heap.size + 2, 5, none⟩ (.int .i64 (cC T1))).setCell ⟨w.heap.size + 2, 6, none⟩ (.int .i64 (cR T1))) (w.heap.size + 2) #[.int .i64 n.kind, .int .i64 n.num, .string ⟨n.text.toArray⟩, .int .i64 (cC F1), .int .i64 (cR F1), .int .i64 (cC T1), .int .i64 (cR T1), .slice none 0 0] Cel.tPn) := block_setCell (block_setCell (HLe.out) _) _
        have hb2 : Below (w.heap.size + 2) we ((we.setCell ⟨w.heap.size + 2, 5, none⟩ (.int .i64 (cC T1))).setCell ⟨w.heap.size + 2, 6, none⟩ (.int .i64 (cR T1))) := ((Below.refl _ _).setCell (p := ⟨w.heap.size + 2, 5, none⟩) (Nat.le_refl _) _).setCell (p := ⟨w.heap.size + 2, 6, none⟩) (Nat.le_refl _) _
        have HN3 : Hid (BlkC ((we.setCell ⟨w.heap.size + 2, 5, none⟩ (.int .i64 (cC T1))).setCell ⟨w.heap.size + 2, 6, none⟩ (.int .i64 (cR T1))) w.heap.size (bnA n p len cap) tNr) := (hb2.block _ (by omega)).trans HNe.out
        have HZ3 : Hid (BlkC ((we.setCell ⟨w.heap.size + 2, 5, none⟩ (.int .i64 (cC T1))).setCell ⟨w.heap.size + 2, 6, none⟩ (.int .i64 (cR T1))) (w.heap.size + 1) (Cel.ndA nodeZ none 0 0) Cel.tPn) := (hb2.block _ (by omega)).trans HZe.out
        have HB3 : Hid (Off b5 w ((we.setCell ⟨w.heap.size + 2, 5, none⟩ (.int .i64 (cC T1))).setCell ⟨w.heap.size + 2, 6, none⟩ (.int .i64 (cR T1)))) := Off.set_new (Off.set_new (HBe.out) (by omega) _ _) (by omega) _ _
        clear hb2 x0 l0 z0 x1 l1 z1 hl HNe HZe HLe HBe HXe
        generalize ((we.setCell ⟨w.heap.size + 2, 5, none⟩ (.int .i64 (cC T1))).setCell ⟨w.heap.size + 2, 6, none⟩ (.int .i64 (cR T1))) = w3 at HL3 HN3 HZ3 HB3 ⊢
        have hm1 := of_decide_eq_true HBE1.out
        cases B2 with
        | false =>
          have hm0 := of_decide_eq_false HBE2.out
          have h4 := H4.out
          go_upto_region 9 with fail
          have HFL : ((n.kind = 3 ∨ n.kind = 4) ∧ bkC rows cols n.frm = 0) ∨ (n.kind = 4 ∧ bkC rows cols n.tor = 0) := .inr ⟨h4, by by_cases h : bkC rows cols n.tor = 0; exact h; exact absurd h hm0⟩
          have HM : Hid (((bkN rows cols) n) = fltN) := bkN_flt HFL
          refine wp_region_lit ?_
          refine wpList_plain rfl fun K hK => ?_
          go_simp
          refine hK _ _ ?_
          clear hK K
          refine wpList_store_mid (by rfl) _ _ _ (by rfl) (w.heap.size + 1) 0 #[.int .i64 8, .int .i64 0, .string ⟨#[]⟩, .int .i64 0, .int .i64 0, .int .i64 0, .int .i64 0, .slice none 0 0] (by rfl) (by rfl) (block_there HZ3.out 8 (Nat.le_refl _)) (by kernel_rfl) (by simp [Value.oneCell']) ?_
          have e8 : w3.setCells (w.heap.size + 1) 0 (#[.int .i64 8, .int .i64 0, .string ⟨#[]⟩, .int .i64 0, .int .i64 0, .int .i64 0, .int .i64 0, .slice none 0 0]).toList = w3.setCells (w.heap.size + 1) 0 (Cel.ndA fltN none 0 0).toList := rfl
          rw [e8]
          clear e8
          have HS8 : Hid (BlkC (w3.setCells (w.heap.size + 1) 0 (Cel.ndA fltN none 0 0).toList) (w.heap.size + 1) (Cel.ndA fltN none 0 0) Cel.tPn) := store_block HZ3.out _ rfl
          have HB8 : Hid (Off b5 w (w3.setCells (w.heap.size + 1) 0 (Cel.ndA fltN none 0 0).toList)) := HB3.out.set_cells (by omega) _ _
          generalize w3.setCells (w.heap.size + 1) 0 (Cel.ndA fltN none 0 0).toList = w9 at HS8 HB8 ⊢
          clear HN3 HZ3 HL3 HB3
          go_simp
          go_wp2_with fail
          try simp only [Exit.inBlock, Exit.then]
          rw [HM.out]
          exact bodyPost_ret (results_cell_row rfl _ _ (w.heap.size + 1) Cel.tPn (Cel.ndA fltN none 0 0) (0, 0) _ rfl HS8.out Tryz.underlying48 rfl (by kernel_rfl)) rfl ⟨⟨none, 0, 0, rfl, rdp_leaf _ _ rfl _ _⟩, HB8.out⟩
        | true =>
          have hm2 := of_decide_eq_true HBE2.out
          have h4 := H4.out
          have hgn : ¬ (((n.kind = 3 ∨ n.kind = 4) ∧ bkC rows cols n.frm = 0) ∨ (n.kind = 4 ∧ bkC rows cols n.tor = 0)) := by rintro (⟨_, h⟩ | ⟨_, h⟩); exact hm1 h; exact hm2 h
          have HGO := bkN_go hgn
          have HE : Hid (Cel.ndA ((bkN rows cols) n) none 0 0 = #[.int .i64 n.kind, .int .i64 n.num, .string ⟨n.text.toArray⟩, .int .i64 (cC F1), .int .i64 (cR F1), .int .i64 (cC T1), .int .i64 (cR T1), .slice none 0 0]) := by
            unfold Hid
            rw [HGO, ← HFE1.out, ← HTE1.out]
            first | rw [if_pos (by omega), if_pos (by omega)] | skip
            rfl
          clear h4
          go_wp2_with fail
          go_meet
          exact ⟨HN3.out, HZ3.out, by rw [HE.out]; exact HL3.out, HB3.out, hgn⟩
    · have b4' : (n.kind == 4) = false := by simpa using h4
      by_cases h3 : n.kind = 3
      · have b3' : (n.kind == 3) = true := by simpa using h3
        obtain rfl : T26 = true := by rw [← hT26]; exact decide_eq_true (.inl h3)
        have H3 := Lib.hid h3
        clear hT26 h3
        obtain ⟨F1, hF1⟩ : ∃ x, (bkC rows cols n.frm) = x := ⟨_, rfl⟩
        obtain ⟨B1, hB1⟩ : ∃ x, decide (bkC rows cols n.frm ≠ 0) = x := ⟨_, rfl⟩
        have HKF1 : Hid (∀ W, Off b5 w0 W → Calls Tryz.prog 34 #[.agg #[.int .u64 n.frm.1.1, .int .i64 n.frm.1.2, .int .u64 n.frm.2.1, .int .i64 n.frm.2.2], .pointer (some ⟨b3, 0, none⟩), .pointer (some ⟨b4, 0, none⟩)] W fun e w' => e = .returned (.tuple #[.agg #[.int .i64 (cC F1), .int .i64 (cR F1)], .bool B1]) ∧ Off b5 W w') := fun W hW => by
          have h := HKH.out (n.frm) W hW
          rw [hB1, hF1] at h
          exact h
        have HBE1 := Lib.hid hB1
        have HFE1 := Lib.hid hF1
        clear hF1 hB1  HKH
        have q3 : w1.cell? ⟨w.heap.size, 3, none⟩ = some (.int .u64 n.frm.1.1) := HN1.out.cell 3 _ rfl
        have q4 : w1.cell? ⟨w.heap.size, 4, none⟩ = some (.int .i64 n.frm.1.2) := HN1.out.cell 4 _ rfl
        have q5 : w1.cell? ⟨w.heap.size, 5, none⟩ = some (.int .u64 n.frm.2.1) := HN1.out.cell 5 _ rfl
        have q6 : w1.cell? ⟨w.heap.size, 6, none⟩ = some (.int .i64 n.frm.2.2) := HN1.out.cell 6 _ rfl
        have qk : w1.cell? ⟨w.heap.size, 0, none⟩ = some (.int .i64 n.kind) := HN1.out.cell 0 _ rfl
        go_wp2_with fail
        go_at_call 34
        refine (HKF1.out w1 (HF0.out.trans HB1.out)).mono ?_
        rintro e wa ⟨rfl, hoff⟩
        have HNa : Hid (BlkC wa w.heap.size (bnA n p len cap) tNr) := hoff.blk (by omega) HN1.out
        have HZa : Hid (BlkC wa (w.heap.size + 1) (Cel.ndA nodeZ none 0 0) Cel.tPn) := hoff.blk (by omega) HZ1.out
        have HLa := Lib.hid (hoff.blk (show w.heap.size + 2 ≠ b5 by omega) HL1.out)
        have HBa := Lib.hid (HB1.out.trans hoff)
        clear hoff qk q3 q4 q5 q6 HN1 HZ1 HL1 HB1
        go_upto_region 4 with fail
        have HXb : Hid (BlkC (wa.alloc (.cells #[.int .i64 (cC F1), .int .i64 (cR F1)] 45)) wa.heap.size #[.int .i64 (cC F1), .int .i64 (cR F1)] 45) := heap_alloc_new wa _
        have hb : Below wa.heap.size wa (wa.alloc (.cells #[.int .i64 (cC F1), .int .i64 (cR F1)] 45)) := (Below.refl _ _).alloc (Nat.le_refl _) _
        have HNb := Lib.hid (HNa.out.below hb)
        have HZb := Lib.hid (HZa.out.below hb)
        have HLb : Hid (BlkC (wa.alloc (.cells #[.int .i64 (cC F1), .int .i64 (cR F1)] 45)) (w.heap.size + 2) _ _) := BlkC.below HLa.out hb
        have HBb := Lib.hid (HBa.out.call hb)
        have hgz : w.heap.size + 2 < wa.heap.size := lt_some HLa.out
        clear hb HNa HZa HLa HBa
        generalize (wa.alloc (.cells #[.int .i64 (cC F1), .int .i64 (cR F1)] 45)) = wb at HXb HNb HZb HLb HBb ⊢
        generalize wa.heap.size = gXb at HXb hgz ⊢
        have x0 : wb.cell? ⟨gXb, 0, none⟩ = some (.int .i64 (cC F1)) := HXb.out.cell 0 _ rfl
        have x1 : wb.cell? ⟨gXb, 1, none⟩ = some (.int .i64 (cR F1)) := HXb.out.cell 1 _ rfl
        have l0 : wb.cell? ⟨w.heap.size + 2, 3, none⟩ = some (.int .i64 0) := HLb.out.cell 3 _ rfl
        have z0 := HLb.out.fz 3
        have l1 : wb.cell? ⟨w.heap.size + 2, 4, none⟩ = some (.int .i64 0) := HLb.out.cell 4 _ rfl
        have z1 := HLb.out.fz 4
        have hl : w.heap.size + 2 < wb.heap.size := lt_some HLb.out
        go_upto_region 5 with fail
        have HL3 : Hid (BlkC ((wb.setCell ⟨w.heap.size + 2, 3, none⟩ (.int .i64 (cC F1))).setCell ⟨w.heap.size + 2, 4, none⟩ (.int .i64 (cR F1))) (w.heap.size + 2) #[.int .i64 n.kind, .int .i64 n.num, .string ⟨n.text.toArray⟩, .int .i64 (cC F1), .int .i64 (cR F1), .int .i64 0, .int .i64 0, .slice none 0 0] Cel.tPn) := block_setCell (block_setCell (HLb.out) _) _
        have hb2 : Below (w.heap.size + 2) wb ((wb.setCell ⟨w.heap.size + 2, 3, none⟩ (.int .i64 (cC F1))).setCell ⟨w.heap.size + 2, 4, none⟩ (.int .i64 (cR F1))) := ((Below.refl _ _).setCell (p := ⟨w.heap.size + 2, 3, none⟩) (Nat.le_refl _) _).setCell (p := ⟨w.heap.size + 2, 4, none⟩) (Nat.le_refl _) _
        have HN3 : Hid (BlkC ((wb.setCell ⟨w.heap.size + 2, 3, none⟩ (.int .i64 (cC F1))).setCell ⟨w.heap.size + 2, 4, none⟩ (.int .i64 (cR F1))) w.heap.size (bnA n p len cap) tNr) := (hb2.block _ (by omega)).trans HNb.out
        have HZ3 : Hid (BlkC ((wb.setCell ⟨w.heap.size + 2, 3, none⟩ (.int .i64 (cC F1))).setCell ⟨w.heap.size + 2, 4, none⟩ (.int .i64 (cR F1))) (w.heap.size + 1) (Cel.ndA nodeZ none 0 0) Cel.tPn) := (hb2.block _ (by omega)).trans HZb.out
        have HB3 : Hid (Off b5 w ((wb.setCell ⟨w.heap.size + 2, 3, none⟩ (.int .i64 (cC F1))).setCell ⟨w.heap.size + 2, 4, none⟩ (.int .i64 (cR F1)))) := Off.set_new (Off.set_new (HBb.out) (by omega) _ _) (by omega) _ _
        clear hb2 x0 l0 z0 x1 l1 z1 hl HNb HZb HLb HBb HXb
        generalize ((wb.setCell ⟨w.heap.size + 2, 3, none⟩ (.int .i64 (cC F1))).setCell ⟨w.heap.size + 2, 4, none⟩ (.int .i64 (cR F1))) = w3 at HL3 HN3 HZ3 HB3 ⊢
        clear HKF1
        have qk : w3.cell? ⟨w.heap.size, 0, none⟩ = some (.int .i64 n.kind) := HN3.out.cell 0 _ rfl
        cases B1 with
        | false =>
          have hm0 := of_decide_eq_false HBE1.out
          have h3 := H3.out
          go_upto_region 9 with fail
          have HFL : ((n.kind = 3 ∨ n.kind = 4) ∧ bkC rows cols n.frm = 0) ∨ (n.kind = 4 ∧ bkC rows cols n.tor = 0) := .inl ⟨.inl h3, by by_cases h : bkC rows cols n.frm = 0; exact h; exact absurd h hm0⟩
          have HM : Hid (((bkN rows cols) n) = fltN) := bkN_flt HFL
          refine wp_region_lit ?_
          refine wpList_plain rfl fun K hK => ?_
          go_simp
          refine hK _ _ ?_
          clear hK K
          refine wpList_store_mid (by rfl) _ _ _ (by rfl) (w.heap.size + 1) 0 #[.int .i64 8, .int .i64 0, .string ⟨#[]⟩, .int .i64 0, .int .i64 0, .int .i64 0, .int .i64 0, .slice none 0 0] (by rfl) (by rfl) (block_there HZ3.out 8 (Nat.le_refl _)) (by kernel_rfl) (by simp [Value.oneCell']) ?_
          have e8 : w3.setCells (w.heap.size + 1) 0 (#[.int .i64 8, .int .i64 0, .string ⟨#[]⟩, .int .i64 0, .int .i64 0, .int .i64 0, .int .i64 0, .slice none 0 0]).toList = w3.setCells (w.heap.size + 1) 0 (Cel.ndA fltN none 0 0).toList := rfl
          rw [e8]
          clear e8
          have HS8 : Hid (BlkC (w3.setCells (w.heap.size + 1) 0 (Cel.ndA fltN none 0 0).toList) (w.heap.size + 1) (Cel.ndA fltN none 0 0) Cel.tPn) := store_block HZ3.out _ rfl
          have HB8 : Hid (Off b5 w (w3.setCells (w.heap.size + 1) 0 (Cel.ndA fltN none 0 0).toList)) := HB3.out.set_cells (by omega) _ _
          generalize w3.setCells (w.heap.size + 1) 0 (Cel.ndA fltN none 0 0).toList = w9 at HS8 HB8 ⊢
          clear qk HN3 HZ3 HL3 HB3
          go_simp
          go_wp2_with fail
          try simp only [Exit.inBlock, Exit.then]
          rw [HM.out]
          exact bodyPost_ret (results_cell_row rfl _ _ (w.heap.size + 1) Cel.tPn (Cel.ndA fltN none 0 0) (0, 0) _ rfl HS8.out Tryz.underlying48 rfl (by kernel_rfl)) rfl ⟨⟨none, 0, 0, rfl, rdp_leaf _ _ rfl _ _⟩, HB8.out⟩
        | true =>
          have hm1 := of_decide_eq_true HBE1.out
          have h3 := H3.out
          have hgn : ¬ (((n.kind = 3 ∨ n.kind = 4) ∧ bkC rows cols n.frm = 0) ∨ (n.kind = 4 ∧ bkC rows cols n.tor = 0)) := by rintro (⟨_, h⟩ | ⟨h, _⟩); exact hm1 h; exact h4 h
          have HGO := bkN_go hgn
          have HE : Hid (Cel.ndA ((bkN rows cols) n) none 0 0 = #[.int .i64 n.kind, .int .i64 n.num, .string ⟨n.text.toArray⟩, .int .i64 (cC F1), .int .i64 (cR F1), .int .i64 0, .int .i64 0, .slice none 0 0]) := by
            unfold Hid
            rw [HGO, ← HFE1.out]
            first | rw [if_pos (by omega), if_neg (by omega)] | skip
            rfl
          clear h3
          go_wp2_with fail
          go_meet
          exact ⟨HN3.out, HZ3.out, by rw [HE.out]; exact HL3.out, HB3.out, hgn⟩
      · obtain rfl : T26 = false := by rw [← hT26]; exact decide_eq_false (by omega)
        clear hT26
        have hgn : ¬ (((n.kind = 3 ∨ n.kind = 4) ∧ bkC rows cols n.frm = 0) ∨ (n.kind = 4 ∧ bkC rows cols n.tor = 0)) := by omega
        have HGO := bkN_go hgn
        have HE : Hid (Cel.ndA ((bkN rows cols) n) none 0 0 = #[.int .i64 n.kind, .int .i64 n.num, .string ⟨n.text.toArray⟩, .int .i64 0, .int .i64 0, .int .i64 0, .int .i64 0, .slice none 0 0]) := by
          unfold Hid
          rw [HGO]
          first | rw [if_neg (by omega), if_neg (by omega)] | skip
          rfl
        go_wp2_with fail
        go_meet
        exact ⟨HN1.out, HZ1.out, by rw [HE.out]; exact HL1.out, HB1.out, hgn⟩
  case rest =>
  obtain ⟨hn3, hz3, hl3, hb3, hd0⟩ := hcut
  have HN3 := Lib.hid hn3
  have HZ3 := Lib.hid hz3
  have HL3 := Lib.hid hl3
  have HB3 := Lib.hid hb3
  have HGO := bkN_go hd0
  have HGA : Hid (((bkN rows cols) n).args = n.args.map (bkN rows cols)) := by unfold Hid; rw [HGO]; rfl
  have a11 : wc.cell? ⟨w.heap.size, 11, none⟩ = some (.slice p len cap) := hn3.cell 11 _ rfl
  have hLb : w.heap.size + 2 < wc.heap.size := lt_some hl3
  have hLH : w.heap.size + 1 < w.heap.size + 2 := by omega
  have hH1 : w.heap.size + 1 < wc.heap.size := by omega
  clear hn3 hz3 hl3 hb3 HN1 HZ1 HL1 HB1 HGO hd0 hT26
  generalize wc = w3 at *
  obtain ⟨L, hLe⟩ : ∃ L, w.heap.size + 2 = L := ⟨_, rfl⟩
  rw [hLe] at HL3 hLb hLH ⊢
  clear hLe
  obtain ⟨base, hbase⟩ : ∃ base, w3.heap.size = base := ⟨_, rfl⟩
  have HB0 := Lib.hid hbase
  rw [hbase] at hLb hH1
  clear hbase
  obtain ⟨i0, hi, hz0, hz1, hz2⟩ := info_of Cel.info_nd
  go_upto_region 10 with fail
  go_wp2_with fail
  clear a11
  go_loopg [58] len (fun g v wr => ∃ (i : Nat) (acc : List (Cel.Kid)) (q : Option Addr) (cp : Nat), i + g = len ∧ v = .int .i64 i ∧ acc.map Prod.fst = (n.args.take i).map (bkN rows cols) ∧ BlkC wr w.heap.size (bnA n p len cap) tNr ∧ BlkC wr (w.heap.size + 1) (Cel.ndA nodeZ none 0 0) Cel.tPn ∧ BlkC wr L (Cel.ndA ((bkN rows cols) n) q i cp) Cel.tPn ∧ wr.ownsRow base Cel.tPn 8 (.slice q i cp) i (acc.flatMap Cel.kidC) ∧ (∀ d', d = d' + 1 → ∀ x ∈ acc, Cel.RdP wr (okQ base wr (.slice q i cp)) d' x.1 x.2.1 x.2.2.1) ∧ Off b5 w wr ∧ base ≤ wr.heap.size)
  case atStart => exact ⟨0, [], none, 0, by omega, rfl, rfl, HN3.out, HZ3.out, HL3.out, World.ownsRow_nil _ _ _ _, fun _ _ x hx => (by cases hx), HB3.out, by rw [HB0.out]; exact Nat.le_refl _⟩
  case round =>
    obtain ⟨i, acc, q, cp, hig, rfl, hacc, hn1, hn0, hn2, hown, hkid, hbel, hbs⟩ := hrel
    have HAC := Lib.hid hacc
    have HN1 := Lib.hid hn1
    have HN0 := Lib.hid hn0
    have HN2 := Lib.hid hn2
    have HOW := Lib.hid hown
    have HKD := Lib.hid hkid
    have HBL := Lib.hid hbel
    have hzr := hbel.size
    clear hacc hn1 hn0 hn2 hown hkid hbel HN3 HZ3 HL3 HB3 HB0
    by_cases hlt : i < len
    · have hli : (i : Int) < (len : Int) := by omega
      obtain ⟨d', b, off, c, p', l', c', hd, rfl, hbN, hbl, hc, hrc, hrg⟩ := (HRD.out.low (HBL.out.below hN hNw)).at hlt
      have HC : Hid (mkC rows cols N b5 w0 b3 b4 d') := HIH.out d' hd
      have HCO := Lib.hid (HOK.out c (mem_of_at hc))
      have q0 : wr.cell? ⟨b, off + i * 12, none⟩ = some (.int .i64 c.kind) := hrg 0 (.int .i64 c.kind) rfl
      have q1 : wr.cell? ⟨b, off + i * 12 + 1, none⟩ = some (.int .i64 c.num) := hrg 1 (.int .i64 c.num) rfl
      have q2 : wr.cell? ⟨b, off + i * 12 + 2, none⟩ = some (.string ⟨c.text.toArray⟩) := hrg 2 (.string ⟨c.text.toArray⟩) rfl
      have q3 : wr.cell? ⟨b, off + i * 12 + 3, none⟩ = some (.int .u64 c.frm.1.1) := hrg 3 (.int .u64 c.frm.1.1) rfl
      have q4 : wr.cell? ⟨b, off + i * 12 + 4, none⟩ = some (.int .i64 c.frm.1.2) := hrg 4 (.int .i64 c.frm.1.2) rfl
      have q5 : wr.cell? ⟨b, off + i * 12 + 5, none⟩ = some (.int .u64 c.frm.2.1) := hrg 5 (.int .u64 c.frm.2.1) rfl
      have q6 : wr.cell? ⟨b, off + i * 12 + 6, none⟩ = some (.int .i64 c.frm.2.2) := hrg 6 (.int .i64 c.frm.2.2) rfl
      have q7 : wr.cell? ⟨b, off + i * 12 + 7, none⟩ = some (.int .u64 c.tor.1.1) := hrg 7 (.int .u64 c.tor.1.1) rfl
      have q8 : wr.cell? ⟨b, off + i * 12 + 8, none⟩ = some (.int .i64 c.tor.1.2) := hrg 8 (.int .i64 c.tor.1.2) rfl
      have q9 : wr.cell? ⟨b, off + i * 12 + 9, none⟩ = some (.int .u64 c.tor.2.1) := hrg 9 (.int .u64 c.tor.2.1) rfl
      have q10 : wr.cell? ⟨b, off + i * 12 + 10, none⟩ = some (.int .i64 c.tor.2.2) := hrg 10 (.int .i64 c.tor.2.2) rfl
      have q11 : wr.cell? ⟨b, off + i * 12 + 11, none⟩ = some (.slice p' l' c') := hrg 11 (.slice p' l' c') rfl
      go_upto_region 13 with fail
      have e2 : wr.alloc (.cells #[.int .i64 c.kind, .int .i64 c.num, .string ⟨c.text.toArray⟩, .int .u64 c.frm.1.1, .int .i64 c.frm.1.2, .int .u64 c.frm.2.1, .int .i64 c.frm.2.2, .int .u64 c.tor.1.1, .int .i64 c.tor.1.2, .int .u64 c.tor.2.1, .int .i64 c.tor.2.2, .slice p' l' c'] tNr) = wr.alloc (.cells (bnA c p' l' c') tNr) := rfl
      rw [e2]
      clear e2
      have HBX : Hid (BlkC (wr.alloc (.cells (bnA c p' l' c') tNr)) wr.heap.size (bnA c p' l' c') tNr) := heap_alloc_new wr _
      have hbr : Below wr.heap.size wr (wr.alloc (.cells (bnA c p' l' c') tNr)) := (Below.refl _ _).alloc (Nat.le_refl _) _
      have HN1' := Lib.hid (HN1.out.below hbr)
      have HN0' := Lib.hid (HN0.out.below hbr)
      have HN2' := Lib.hid (HN2.out.below hbr)
      have HOW' := Lib.hid (row_below HOW.out hbr)
      have hrow : ∀ k, (Value.slice q i cp).ownBlock = some k → k < wr.heap.size := fun k e => (HOW.out.lt k e).2
      have hrow2 : ∀ k, (Value.slice q i cp).ownBlock = some k → base ≤ k := fun k e => (HOW.out.lt k e).1
      have HKD' := Lib.hid (fun d' hd => kidsC_off_grow hbr (HKD.out d' hd))
      have HBL' := Lib.hid (HBL.out.call hbr)
      have hrc' := hrc.low (hbr.mono (Nat.le_trans hNw hzr))
      have hzs := hbr.size
      have hgr : wr.heap.size < (wr.alloc (.cells (bnA c p' l' c') tNr)).heap.size := lt_some HBX.out
      clear hbr HN1 HN0 HN2 HOW HKD HBL hrc hrg q0 q1 q2 q3 q4 q5 q6 q7 q8 q9 q10 q11
      generalize wr.alloc (.cells (bnA c p' l' c') tNr) = ws at HBX HN1' HN0' HN2' HOW' HKD' HBL' hrc' hzs hgr ⊢
      have hbs' : base ≤ ws.heap.size := by omega
      have hzr' : w.heap.size ≤ ws.heap.size := by omega
      have hgb : base ≤ wr.heap.size := hbs
      generalize wr.heap.size = gx at HBX hzs hgr hgb hzr hbs hrow ⊢
      have b7 : ws.cell? ⟨L, 7, none⟩ = some (.slice q i cp) := HN2'.out.cell 7 _ rfl
      have B7 := KeptY.cell (base := base) (b := b5) (g := gx) (.inl ⟨hLb, by omega⟩) b7
      have Q0 := KeptY.cell (base := base) (b := b5) (g := gx) (.inr rfl) (HBX.out.cell 0 (.int .i64 c.kind) rfl)
      have Q1 := KeptY.cell (base := base) (b := b5) (g := gx) (.inr rfl) (HBX.out.cell 1 (.int .i64 c.num) rfl)
      have Q2 := KeptY.cell (base := base) (b := b5) (g := gx) (.inr rfl) (HBX.out.cell 2 (.string ⟨c.text.toArray⟩) rfl)
      have Q3 := KeptY.cell (base := base) (b := b5) (g := gx) (.inr rfl) (HBX.out.cell 3 (.int .u64 c.frm.1.1) rfl)
      have Q4 := KeptY.cell (base := base) (b := b5) (g := gx) (.inr rfl) (HBX.out.cell 4 (.int .i64 c.frm.1.2) rfl)
      have Q5 := KeptY.cell (base := base) (b := b5) (g := gx) (.inr rfl) (HBX.out.cell 5 (.int .u64 c.frm.2.1) rfl)
      have Q6 := KeptY.cell (base := base) (b := b5) (g := gx) (.inr rfl) (HBX.out.cell 6 (.int .i64 c.frm.2.2) rfl)
      have Q7 := KeptY.cell (base := base) (b := b5) (g := gx) (.inr rfl) (HBX.out.cell 7 (.int .u64 c.tor.1.1) rfl)
      have Q8 := KeptY.cell (base := base) (b := b5) (g := gx) (.inr rfl) (HBX.out.cell 8 (.int .i64 c.tor.1.2) rfl)
      have Q9 := KeptY.cell (base := base) (b := b5) (g := gx) (.inr rfl) (HBX.out.cell 9 (.int .u64 c.tor.2.1) rfl)
      have Q10 := KeptY.cell (base := base) (b := b5) (g := gx) (.inr rfl) (HBX.out.cell 10 (.int .i64 c.tor.2.2) rfl)
      have Q11 := KeptY.cell (base := base) (b := b5) (g := gx) (.inr rfl) (HBX.out.cell 11 (.slice p' l' c') rfl)
      refine wp_region_schedT (fun wx => ∃ x : KeptY base b5 gx ws, wx = x.v) 8 [([0,1,2,3],4),([],5),([],6)] [7] (by kernel_rfl) (by kernel_rfl) (by kernel_rfl) (by kernel_rfl) (keptY_drew _ _ _ _) ?_
      (unfold wpSegK; simp only [pick_nil, pick_cons, nthO_zero, nthO_succ, List.append])
      clear b7
      repeat (go_big_quiet_step (fail))
      refine wpQuiet_nil ?_
      have HRC := Lib.hid hrc'
      have HHC := Lib.hid hc
      have HHD := Lib.hid hd
      clear hrc' hc hd
      have HCC := Lib.hid (HC.out c p' l' c' ws.drew (HF0.out.trans (HBL'.out.call (Below.drew (Below.refl _ _)))) (HRC.out.low (Below.drew (Below.refl _ _))) HCO.out)
      rw [show Value.agg (bnA c p' l' c') = .agg #[.int .i64 c.kind, .int .i64 c.num, .string ⟨c.text.toArray⟩, .int .u64 c.frm.1.1, .int .i64 c.frm.1.2, .int .u64 c.frm.2.1, .int .i64 c.frm.2.2, .int .u64 c.tor.1.1, .int .i64 c.tor.1.2, .int .u64 c.tor.2.1, .int .i64 c.tor.2.2, .slice p' l' c'] from rfl] at HCC
      go_wp2_with fail
      refine HCC.out.mono ?_
      rintro e w3 ⟨⟨p2, l2, c2, rfl, hk3⟩, hb3⟩
      have hb4 : Hid (Off b5 ws w3) := (Off.of_below (Below.drew (Below.refl _ _))).trans hb3
      have HK3 : Hid (Cel.RdP w3 (fun k => ws.heap.size ≤ k ∧ k < w3.heap.size) d' ((bkN rows cols) c) p2 l2) := hk3
      rw [show Value.agg (Cel.ndA ((bkN rows cols) c) p2 l2 c2) = .agg #[.int .i64 ((bkN rows cols) c).kind, .int .i64 ((bkN rows cols) c).num, .string ⟨((bkN rows cols) c).text.toArray⟩, .int .i64 (cC ((bkN rows cols) c).frm), .int .i64 (cR ((bkN rows cols) c).frm), .int .i64 (cC ((bkN rows cols) c).tor), .int .i64 (cR ((bkN rows cols) c).tor), .slice p2 l2 c2] from rfl]
      clear HCC hk3 hb3
      go_wp2_with fail
      have hk5 : ∀ k, (k < base ∧ k ≠ b5 ∨ k = gx) → w3.heap[k]? = ws.heap[k]? := fun k hk => hb4.out.block k (by omega) (by omega)
      refine ⟨rfl, ⟨⟨w3, hk5⟩, rfl⟩, ?_⟩
      (unfold wpSegK; simp only [pick_nil, pick_cons, nthO_zero, nthO_succ, List.append])
      refine wpQuiet_nil ?_
      go_wp2_with fail
      have e4 : w3.alloc (.cells #[.int .i64 ((bkN rows cols) c).kind, .int .i64 ((bkN rows cols) c).num, .string ⟨((bkN rows cols) c).text.toArray⟩, .int .i64 (cC ((bkN rows cols) c).frm), .int .i64 (cR ((bkN rows cols) c).frm), .int .i64 (cC ((bkN rows cols) c).tor), .int .i64 (cR ((bkN rows cols) c).tor), .slice p2 l2 c2] Cel.tPn) = w3.alloc (.cells (Cel.ndA ((bkN rows cols) c) p2 l2 c2) Cel.tPn) := rfl
      rw [e4]
      clear e4
      refine ⟨rfl, ⟨⟨_, fun k hk => (heap_alloc_old _ _ (by have := hb4.out.size; omega)).trans (hk5 k hk)⟩, rfl⟩, ?_⟩
      (unfold wpSegK; simp only [pick_nil, pick_cons, nthO_zero, nthO_succ, List.append])
      refine wpQuiet_nil ?_
      have HRW : Hid (w3.ownsRow base Cel.tPn 8 (.slice q i cp) i (acc.flatMap Cel.kidC)) := row_carry HOW'.out (fun k e => hb4.out.block k (by have := hrow k e; omega) (by have := hrow2 k e; omega))
      refine wpList_append_own_at _ rfl _ _ _ rfl base Cel.tPn i0 _ 8 88 Tryz.underlying46 hi hz0 hz1 hz2 rfl (by decide) _ _ _ rfl (HRW.out.alloc _) ⟨w3.heap.size, 0, none⟩ 1 1 (Cel.ndC ((bkN rows cols) c) p2 l2 c2) rfl rfl (Cel.newNd w3 ((bkN rows cols) c) p2 l2 c2) ?c2 ?c3 ?c4 ?c5 ?_
      case c2 => exact Cel.kidC_one (((bkN rows cols) c), p2, l2, c2)
      case c3 => unfold maxLen; omega
      case c4 => omega
      case c5 => rw [World.size_alloc]; have := hb4.out.size; omega
      intro v' w5 hown5 hgrow5 _ hat5
      have hs4 := hb4.out.size
      have hs5 := hgrow5.size
      rw [World.size_alloc] at hs5
      have HG5 : Hid (∀ k, k < ws.heap.size → (Value.slice q i cp).ownBlock ≠ some k → k ≠ b5 → w5.heap[k]? = ws.heap[k]?) := fun k h1 h2 h3 => (hgrow5.block k (by rw [World.size_alloc]; omega) (fun e => h2 e.symm)).trans ((heap_alloc_old _ _ (by omega)).trans (hb4.out.block k h1 h3))
      have HK5 : Hid (∀ k, (k < base ∧ k ≠ b5 ∨ k = gx) → w5.heap[k]? = ws.heap[k]?) := fun k hk => HG5.out k (by omega) (fun e => by have := hrow k e; have := hrow2 k e; omega) (by omega)
      have HB5 : Hid (Off b5 w w5) := ⟨hgrow5.os.trans (hb4.out.os.trans HBL'.out.os), hgrow5.tape.trans (hb4.out.tape.trans HBL'.out.tape), hgrow5.output.trans (hb4.out.output.trans HBL'.out.output), by omega, fun k h1 h2 => (HK5.out k (.inl ⟨by omega, h2⟩)).trans (HBL'.out.block k h1 h2)⟩
      have HOW5 : Hid (w5.ownsRow base Cel.tPn 8 v' (i + 1) ((acc ++ [(((bkN rows cols) c), p2, l2, c2)]).flatMap Cel.kidC)) := by
        unfold Hid
        rw [flat_snoc]
        exact hown5
      have hla : acc.length = i := by
        have h := congrArg List.length HAC.out
        simp only [List.length_map, List.length_take] at h
        rw [HAL.out] at h
        omega
      obtain ⟨q5, cp5, hv5, _, _, _, _⟩ := RdG.of_own Cel.kidC_len (by rw [List.length_append, List.length_singleton, hla]) HOW5.out
      subst hv5
      have HN5 : Hid (BlkC w5 L (Cel.ndA ((bkN rows cols) n) q i cp) Cel.tPn) := (HK5.out L (.inl ⟨hLb, by omega⟩)).trans HN2'.out
      have HKN := Lib.hid (kidsC_off (G := L) (kk := 7) (u := .slice q5 (i + 1) cp5) (c2 := c2) hLb (by omega) hbs' hb4.out hgrow5 hat5 (fun k e => by have := hrow k e; omega) (HKD'.out d' HHD.out) HK3.out)
      clear hown5 hgrow5 hat5 HRW HK3 HKD' HCO HC HIH HOK HKH B7 Q0 Q1 Q2 Q3 Q4 Q5 Q6 Q7 Q8 Q9 Q10 Q11
      have e5 : w5.cell? ⟨L, 7, none⟩ = some (.slice q i cp) := HN5.out.cell 7 _ rfl
      have g5 := HN5.out.fz 7
      go_wp2_with fail
      refine ⟨rfl, ⟨⟨w5, HK5.out⟩, rfl⟩, ?_⟩
      (unfold wpSegK; simp only [pick_nil, pick_cons, nthO_zero, nthO_succ, List.append])
      repeat (go_big_quiet_step (fail))
      refine wpQuiet_nil ?_
      go_wp2_with fail
      refine ⟨rfl, ?_⟩
      have HP6 : Hid (BlkC (w5.setCell ⟨L, 7, none⟩ (.slice q5 (i + 1) cp5)) L (Cel.ndA ((bkN rows cols) n) q5 (i + 1) cp5) Cel.tPn) := block_setCell HN5.out _
      have HR6 : Hid (BlkC (w5.setCell ⟨L, 7, none⟩ (.slice q5 (i + 1) cp5)) w.heap.size (bnA n (some ⟨b, off, none⟩) len cap) tNr) := by
        unfold Hid BlkC
        rw [heap_setCell_other _ _ _ _ (by show w.heap.size ≠ L; omega), HK5.out _ (.inl ⟨by omega, by omega⟩)]
        exact HN1'.out
      have HZ6 : Hid (BlkC (w5.setCell ⟨L, 7, none⟩ (.slice q5 (i + 1) cp5)) (w.heap.size + 1) (Cel.ndA nodeZ none 0 0) Cel.tPn) := by
        unfold Hid BlkC
        rw [heap_setCell_other _ _ _ _ (by show w.heap.size + 1 ≠ L; omega), HK5.out _ (.inl ⟨by omega, by omega⟩)]
        exact HN0'.out
      have HW6 : Hid ((w5.setCell ⟨L, 7, none⟩ (.slice q5 (i + 1) cp5)).ownsRow base Cel.tPn 8 (.slice q5 (i + 1) cp5) (i + 1) ((acc ++ [(((bkN rows cols) c), p2, l2, c2)]).flatMap Cel.kidC)) :=
        row_carry HOW5.out (fun k hb => heap_setCell_other _ _ _ _ (by have := (HOW5.out.lt k hb).1; show k ≠ L; omega))
      have HL6 : Hid (Off b5 w (w5.setCell ⟨L, 7, none⟩ (.slice q5 (i + 1) cp5))) := HB5.out.set_new (by omega) _ _
      have hz6 : base ≤ (w5.setCell ⟨L, 7, none⟩ (.slice q5 (i + 1) cp5)).heap.size := by rw [World.size_setCell]; omega
      have HAN : Hid ((acc ++ [(((bkN rows cols) c), p2, l2, c2)]).map Prod.fst = (n.args.take (i + 1)).map (bkN rows cols)) := by
        unfold Hid
        rw [List.map_append, HAC.out, List.take_add_one, HHC.out]
        simp
      generalize w5.setCell ⟨L, 7, none⟩ (.slice q5 (i + 1) cp5) = w6 at HP6 HR6 HZ6 HW6 HL6 HKN hz6 ⊢
      clear HHC HN5 HN0' HN1' HN2' HOW' HOW5 hb4 e5 g5 HBL' HB5 HK5 HG5 hk5
      go_wp2_with fail
      go_roundg (gk - 1)
      case measure => omega
      case rel =>
        refine ⟨i + 1, acc ++ [(((bkN rows cols) c), p2, l2, c2)], q5, cp5, by omega, by go_num, HAN.out, HR6.out, HZ6.out, HP6.out, HW6.out, fun d'' hd x hx => ?_, HL6.out, hz6⟩
        obtain rfl : d' = d'' := by have := HHD.out; omega
        exact HKN.out x hx
    · obtain rfl : i = len := by omega
      have hli : ¬ (i : Int) < (i : Int) := by omega
      have hla : acc.length = i := by
        have h := congrArg List.length HAC.out
        simp only [List.length_map, List.length_take] at h
        rw [HAL.out] at h
        omega
      go_upto_region 15 with fail
      refine wp_region_lit ?_
      refine wpList_load_mid (by rfl) _ _ (by rfl) L 0 (by rfl) [.int .i64 ((bkN rows cols) n).kind, .int .i64 ((bkN rows cols) n).num, .string ⟨((bkN rows cols) n).text.toArray⟩, .int .i64 (cC ((bkN rows cols) n).frm), .int .i64 (cR ((bkN rows cols) n).frm), .int .i64 (cC ((bkN rows cols) n).tor), .int .i64 (cR ((bkN rows cols) n).tor), .slice q i cp] _ (block_range HN2.out [.int .i64 ((bkN rows cols) n).kind, .int .i64 ((bkN rows cols) n).num, .string ⟨((bkN rows cols) n).text.toArray⟩, .int .i64 (cC ((bkN rows cols) n).frm), .int .i64 (cR ((bkN rows cols) n).frm), .int .i64 (cC ((bkN rows cols) n).tor), .int .i64 (cR ((bkN rows cols) n).tor), .slice q i cp] rfl) Tryz.underlying48 rfl (by kernel_rfl) ?_
      go_simp
      refine wpList_store_mid (by rfl) _ _ _ (by rfl) (w.heap.size + 1) 0 #[.int .i64 ((bkN rows cols) n).kind, .int .i64 ((bkN rows cols) n).num, .string ⟨((bkN rows cols) n).text.toArray⟩, .int .i64 (cC ((bkN rows cols) n).frm), .int .i64 (cR ((bkN rows cols) n).frm), .int .i64 (cC ((bkN rows cols) n).tor), .int .i64 (cR ((bkN rows cols) n).tor), .slice q i cp] (by rfl) (by rfl) (block_there HN0.out 8 (Nat.le_refl _)) (by kernel_rfl) (by simp [Value.oneCell']) ?_
      have e8 : wr.setCells (w.heap.size + 1) 0 (#[.int .i64 ((bkN rows cols) n).kind, .int .i64 ((bkN rows cols) n).num, .string ⟨((bkN rows cols) n).text.toArray⟩, .int .i64 (cC ((bkN rows cols) n).frm), .int .i64 (cR ((bkN rows cols) n).frm), .int .i64 (cC ((bkN rows cols) n).tor), .int .i64 (cR ((bkN rows cols) n).tor), .slice q i cp]).toList = wr.setCells (w.heap.size + 1) 0 (Cel.ndA ((bkN rows cols) n) q i cp).toList := rfl
      rw [e8]
      clear e8
      have HS8 : Hid (BlkC (wr.setCells (w.heap.size + 1) 0 (Cel.ndA ((bkN rows cols) n) q i cp).toList) (w.heap.size + 1) (Cel.ndA ((bkN rows cols) n) q i cp) Cel.tPn) := store_block HN0.out _ rfl
      have HB8 : Hid (Off b5 w (wr.setCells (w.heap.size + 1) 0 (Cel.ndA ((bkN rows cols) n) q i cp).toList)) := HBL.out.set_cells (by omega) _ _
      have hz8 := (store_below (Nat.zero_le (w.heap.size + 1)) (Cel.ndA ((bkN rows cols) n) q i cp).toList 0 wr (Below.refl 0 wr)).size
      have HO8 : Hid (∀ k, k ≠ w.heap.size + 1 → (wr.setCells (w.heap.size + 1) 0 (Cel.ndA ((bkN rows cols) n) q i cp).toList).heap[k]? = wr.heap[k]?) := fun k hk => store_other hk _ _ _
      generalize wr.setCells (w.heap.size + 1) 0 (Cel.ndA ((bkN rows cols) n) q i cp).toList = w9 at HS8 HB8 HO8 hz8 ⊢
      go_simp
      iterate 3 (first | go_values | go_skip | go_guarded | go_step | go_upon)
      apply wp_ret
      try simp only [Exit.inBlock, Exit.then]
      refine bodyPost_ret (results_cell_row rfl _ _ (w.heap.size + 1) Cel.tPn (Cel.ndA ((bkN rows cols) n) q i cp) (0, 0) _ rfl HS8.out Tryz.underlying48 rfl (by kernel_rfl)) rfl ⟨⟨q, _, cp, rfl, ?_⟩, HB8.out⟩
      cases d with
      | zero =>
        have h := HRD.out
        refine ⟨?_, h.2⟩
        rw [HGA.out, h.1]; rfl
      | succ d =>
        subst hla
        obtain ⟨q', cp', hv, hr⟩ := Cel.RdP.of_row (n := ((bkN rows cols) n)) (d := d) (ok := fun b => base ≤ b ∧ b < wr.heap.size) HOW.out (by rw [HAC.out, List.take_of_length_le (by rw [HAL.out]; exact Nat.le_refl _)]; exact HGA.out.symm) (fun x hx => Cel.RdP.carry (fun b hb  => ⟨⟨hb.1, hb.2.1⟩, rfl⟩) (HKD.out d rfl x hx)) (fun b hb => HOW.out.lt b hb)
        cases hv
        exact Cel.RdP.carry (fun b hb  => ⟨⟨by omega, by omega⟩, HO8.out b (by omega)⟩) hr
theorem mk_any (rows cols : List Idp) (N b5 : Nat) (w0 : World) (b3 b4 : Nat) (hN : N ≤ b5) (hb5 : b5 < w0.heap.size) (HK : mkK rows cols b5 w0 b3 b4) : ∀ d, mkC rows cols N b5 w0 b3 b4 d
  | 0 => mk_s rows cols N b5 w0 b3 b4 hN hb5 HK 0 (fun d' h => by omega)
  | d + 1 => mk_s rows cols N b5 w0 b3 b4 hN hb5 HK (d + 1) (fun d' h => (show d = d' from by omega) ▸ mk_any rows cols N b5 w0 b3 b4 hN hb5 HK d)
end Go.Proofs.YtjklbbmgjjdalaaGreatDoor.Bd
