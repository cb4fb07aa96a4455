/- bind.Formula, and its closure, over the law's axes. Printed by gen_bfm.py. bind.Back and bind.Text, over the law's axes. Printed by gen_bfm.py. -/
import Derived.Test.YtjklbbmgjjdalaaGreatDoorBqAc
import Derived.Test.YtjklbbmgjjdalaaGreatDoorBqAe
import Derived.Test.YtjklbbmgjjdalaaGreatDoorBqAb
import Derived.Test.YtjklbbmgjjdalaaGreatDoorBqAa
import Derived.Test.YtjklbbmgjjdalaaGreatDoorBqAm
set_option linter.unusedSimpArgs false
set_option linter.unusedVariables false
namespace Go.Proofs.YtjklbbmgjjdalaaGreatDoor.Bd
open Go.RowKit Go.Joins
theorem off_blkC {b k : Nat} {w w' : World} {cs : Array Value} {t : TypeId} (h : Off b w w') (hk : k ≠ b) (hc : BlkC w k cs t) : BlkC w' k cs t := h.blk hk hc
set_option maxRecDepth 100000 in
set_option maxHeartbeats 16000000 in
theorem fc1_any (rows cols : List Idp) (k E : Int) (p : Option Addr) (n cap : Nat) (p2 : Option Addr) (n2 cap2 : Nat) (b3 b4 b5 : Nat) (w : World) (hrd : RdG idE 2 w p n rows) (hn : n ≤ 1000000) (hrd2 : RdG idE 2 w p2 n2 cols) (hn2 : n2 ≤ 1000000)
    (h3 : BlkC w b3 #[axV p n cap] 84) (h4 : BlkC w b4 #[axV p2 n2 cap2] 84) (h5 : BlkC w b5 #[.int .i64 E] 39) :
    Calls Tryz.prog 30 #[.agg #[.int .i64 (cC k), .int .i64 (cR k)], .pointer (some ⟨b3, 0, none⟩), .pointer (some ⟨b4, 0, none⟩), .pointer (some ⟨b5, 0, none⟩)] w fun e w' => e = .returned (.tuple #[.agg #[.int .u64 (bdC rows cols k).1.1.1, .int .i64 (bdC rows cols k).1.1.2, .int .u64 (bdC rows cols k).1.2.1, .int .i64 (bdC rows cols k).1.2.2], .bool (decide ((bdC rows cols k).2 = 0))]) ∧ Off b5 w w' ∧ BlkC w' b5 #[.int .i64 (if E = 0 then (bdC rows cols k).2 else E)] 39 := by
  have HCE := Lib.hid (fun W (hW : Below w.heap.size w W) => cell_any rows cols (cC k) (cR k) p n cap p2 n2 cap2 W (hrd.below hW) hn (hrd2.below hW) hn2)
  have hh := Lib.hid (two_heap w (.cells #[.int .i64 (cC k), .int .i64 (cR k)] tCl) (.cells #[.int .u64 0, .int .i64 0, .int .u64 0, .int .i64 0] tRf))
  have hAB : Hid (Below w.heap.size w ((w.alloc (.cells #[.int .i64 (cC k), .int .i64 (cR k)] tCl)).alloc (.cells #[.int .u64 0, .int .i64 0, .int .u64 0, .int .i64 0] tRf))) := by unfold Hid; (repeat' (first | (with_reducible exact Below.refl _ _) | (with_reducible assumption) | (with_reducible refine Below.alloc ?_ ?_ _) | (with_reducible refine bel_drewN ?_ _) | (with_reducible refine Below.drew ?_) | (with_reducible refine Below.setCell ?_ ?_ _) | (with_reducible refine bel_call ‹_› ?_ ?_) | go_size))
  have H3 := Lib.hid (h3.below hAB.out)
  have H4 := Lib.hid (h4.below hAB.out)
  have H5 := Lib.hid (h5.below hAB.out)
  have hb5 : b5 < w.heap.size := lt_some h5
  rw [show celS rows cols (cC k) (cR k) = bdC rows cols k from rfl] at HCE
  generalize bdC rows cols k = S at HCE ⊢
  obtain ⟨⟨⟨s1, s2⟩, s3, s4⟩, s5⟩ := S
  generalize cC k = c at *
  generalize cR k = r at *
  obtain ⟨EN, hEN⟩ : ∃ x, (if E = 0 then s5 else E) = x := ⟨_, rfl⟩
  obtain ⟨B, hB⟩ : ∃ B, decide (s5 = 0) = B := ⟨_, rfl⟩
  have hB2 : (s5 == 0) = B := by rw [← hB]; by_cases h : s5 = 0 <;> simp [h]
  show Calls Tryz.prog 30 #[.agg #[.int .i64 c, .int .i64 r], .pointer (some ⟨b3, 0, none⟩), .pointer (some ⟨b4, 0, none⟩), .pointer (some ⟨b5, 0, none⟩)] w fun e w' => e = .returned (.tuple #[.agg #[.int .u64 s1, .int .i64 s2, .int .u64 s3, .int .i64 s4], .bool (decide (s5 = 0))]) ∧ Off b5 w w' ∧ BlkC w' b5 #[.int .i64 (if E = 0 then s5 else E)] 39
  rw [hEN, hB]
  have HEN := Lib.hid hEN
  clear hrd hrd2 h3 h4 h5 hEN hB
  go_enter Tryz.func30, Tryz.ntmps30
  go_upto_region 1 with fail
  generalize (w.alloc (.cells #[.int .i64 c, .int .i64 r] tCl)).alloc (.cells #[.int .u64 0, .int .i64 0, .int .u64 0, .int .i64 0] tRf) = w0 at hh hAB H3 H4 H5 ⊢
  have hA0 : Hid (BlkC w0 w.heap.size #[.int .i64 c, .int .i64 r] tCl) := hh.out.1
  have hA1 : Hid (BlkC w0 (w.heap.size + 1) #[.int .u64 0, .int .i64 0, .int .u64 0, .int .i64 0] tRf) := hh.out.2
  have c0 := hA0.out.cell 0 _ rfl
  have c1 := hA0.out.cell 1 _ rfl
  have g3 := H3.out.cell 0 _ rfl
  have g4 := H4.out.cell 0 _ rfl
  go_wp2_with fail
  refine (HCE.out _ hAB.out).mono ?_
  rintro e w1 ⟨rfl, hb⟩
  have hB1 : Hid (Below w.heap.size w w1) := bel_call hb hAB.out hAB.out.size
  have hA2 := Lib.hid (hA1.out.below hb)
  have H52 := Lib.hid (H5.out.below hb)
  clear hb hAB hA0 hA1 c0 c1 g3 g4 H3 H4 H5 hh HCE
  go_upto_region 2 with fail
  have hX : Hid (BlkC (w1.alloc (.cells #[.int .u64 s1, .int .i64 s2, .int .u64 s3, .int .i64 s4] tRf)) w1.heap.size #[.int .u64 s1, .int .i64 s2, .int .u64 s3, .int .i64 s4] tRf) := heap_alloc_new w1 _
  have hA3 := Lib.hid (hA2.out.alloc (.cells #[.int .u64 s1, .int .i64 s2, .int .u64 s3, .int .i64 s4] tRf))
  have H53 := Lib.hid (H52.out.alloc (.cells #[.int .u64 s1, .int .i64 s2, .int .u64 s3, .int .i64 s4] tRf))
  have hB3 : Hid (Below w.heap.size w (w1.alloc (.cells #[.int .u64 s1, .int .i64 s2, .int .u64 s3, .int .i64 s4] tRf))) := hB1.out.alloc hB1.out.size _
  have hl1 := lt_some hA2.out
  generalize w1.alloc (.cells #[.int .u64 s1, .int .i64 s2, .int .u64 s3, .int .i64 s4] tRf) = w3 at hX hA3 H53 hB3 ⊢
  generalize w1.heap.size = gX at hX hl1 ⊢
  clear hA2 H52 hB1
  have e5 := H53.out.cell 0 _ rfl
  have f5 := H53.out.fz 0
  by_cases hE : E = 0
  · subst hE
    go_upto_region 4 with fail
    have HO4 : Hid (Off b5 w (w3.setCell ⟨b5, 0, none⟩ (.int .i64 s5))) := (Off.of_below hB3.out).set 0 _
    have HE4 : Hid (BlkC (w3.setCell ⟨b5, 0, none⟩ (.int .i64 s5)) b5 #[.int .i64 s5] 39) := block_setCell H53.out _
    have hX4 : Hid (BlkC (w3.setCell ⟨b5, 0, none⟩ (.int .i64 s5)) gX #[.int .u64 s1, .int .i64 s2, .int .u64 s3, .int .i64 s4] tRf) := (heap_setCell_other _ _ _ _ (by show gX ≠ b5; omega)).trans hX.out
    have hA4 : Hid (BlkC (w3.setCell ⟨b5, 0, none⟩ (.int .i64 s5)) (w.heap.size + 1) #[.int .u64 0, .int .i64 0, .int .u64 0, .int .i64 0] tRf) := (heap_setCell_other _ _ _ _ (by show w.heap.size + 1 ≠ b5; omega)).trans hA3.out
    clear e5 f5 hX hA3 H53 hB3
    generalize w3.setCell ⟨b5, 0, none⟩ (.int .i64 s5) = w4 at HO4 HE4 hX4 hA4 ⊢
    have x0 := hX4.out.cell 0 _ rfl
    have z0 := hA4.out.cell 0 _ rfl
    have f0 := hA4.out.fz 0
    have x1 := hX4.out.cell 1 _ rfl
    have z1 := hA4.out.cell 1 _ rfl
    have f1 := hA4.out.fz 1
    have x2 := hX4.out.cell 2 _ rfl
    have z2 := hA4.out.cell 2 _ rfl
    have f2 := hA4.out.fz 2
    have x3 := hX4.out.cell 3 _ rfl
    have z3 := hA4.out.cell 3 _ rfl
    have f3 := hA4.out.fz 3
    have hz2 : ¬ w.heap.size + 1 = b5 := by omega
    have hen : EN = s5 := by rw [← HEN.out, if_pos rfl]
    have HE9 := Lib.hid hen
    clear hen
    have HSS : Hid (Off b5 w (((((w4.setCell ⟨w.heap.size + 1, 0, none⟩ (.int .u64 s1)).setCell ⟨w.heap.size + 1, 1, none⟩ (.int .i64 s2)).setCell ⟨w.heap.size + 1, 2, none⟩ (.int .u64 s3)).setCell ⟨w.heap.size + 1, 3, none⟩ (.int .i64 s4))) ∧ BlkC ((((w4.setCell ⟨w.heap.size + 1, 0, none⟩ (.int .u64 s1)).setCell ⟨w.heap.size + 1, 1, none⟩ (.int .i64 s2)).setCell ⟨w.heap.size + 1, 2, none⟩ (.int .u64 s3)).setCell ⟨w.heap.size + 1, 3, none⟩ (.int .i64 s4)) b5 #[.int .i64 s5] 39) := ⟨(((HO4.out.set_new (by omega) _ _).set_new (by omega) _ _).set_new (by omega) _ _).set_new (by omega) _ _, (heap_setCell_other _ _ _ _ (by show b5 ≠ w.heap.size + 1; omega)).trans ((heap_setCell_other _ _ _ _ (by show b5 ≠ w.heap.size + 1; omega)).trans ((heap_setCell_other _ _ _ _ (by show b5 ≠ w.heap.size + 1; omega)).trans ((heap_setCell_other _ _ _ _ (by show b5 ≠ w.heap.size + 1; omega)).trans HE4.out)))⟩
    clear hX4 hA4 HO4 HE4
    go_wp2_with fail
    refine bodyPost_ret (v := .tuple #[.agg #[.int .u64 s1, .int .i64 s2, .int .u64 s3, .int .i64 s4], .bool B]) (by simp only [results, Tryz.results30]; go_simp) rfl ⟨rfl, by rw [HE9.out]; exact HSS.out⟩
  · have hE2 : (E == 0) = false := by simpa using hE
    have hen : EN = E := by rw [← HEN.out, if_neg hE]
    have HE9 := Lib.hid hen
    clear hen hE
    have x0 := hX.out.cell 0 _ rfl
    have z0 := hA3.out.cell 0 _ rfl
    have f0 := hA3.out.fz 0
    have x1 := hX.out.cell 1 _ rfl
    have z1 := hA3.out.cell 1 _ rfl
    have f1 := hA3.out.fz 1
    have x2 := hX.out.cell 2 _ rfl
    have z2 := hA3.out.cell 2 _ rfl
    have f2 := hA3.out.fz 2
    have x3 := hX.out.cell 3 _ rfl
    have z3 := hA3.out.cell 3 _ rfl
    have f3 := hA3.out.fz 3
    have HSS : Hid (Off b5 w (((((w3.setCell ⟨w.heap.size + 1, 0, none⟩ (.int .u64 s1)).setCell ⟨w.heap.size + 1, 1, none⟩ (.int .i64 s2)).setCell ⟨w.heap.size + 1, 2, none⟩ (.int .u64 s3)).setCell ⟨w.heap.size + 1, 3, none⟩ (.int .i64 s4))) ∧ BlkC ((((w3.setCell ⟨w.heap.size + 1, 0, none⟩ (.int .u64 s1)).setCell ⟨w.heap.size + 1, 1, none⟩ (.int .i64 s2)).setCell ⟨w.heap.size + 1, 2, none⟩ (.int .u64 s3)).setCell ⟨w.heap.size + 1, 3, none⟩ (.int .i64 s4)) b5 #[.int .i64 E] 39) := ⟨((((Off.of_below hB3.out).set_new (by omega) _ _).set_new (by omega) _ _).set_new (by omega) _ _).set_new (by omega) _ _, (heap_setCell_other _ _ _ _ (by show b5 ≠ w.heap.size + 1; omega)).trans ((heap_setCell_other _ _ _ _ (by show b5 ≠ w.heap.size + 1; omega)).trans ((heap_setCell_other _ _ _ _ (by show b5 ≠ w.heap.size + 1; omega)).trans ((heap_setCell_other _ _ _ _ (by show b5 ≠ w.heap.size + 1; omega)).trans H53.out)))⟩
    clear hX hA3 H53 hB3
    go_wp2_with fail
    refine bodyPost_ret (v := .tuple #[.agg #[.int .u64 s1, .int .i64 s2, .int .u64 s3, .int .i64 s4], .bool B]) (by simp only [results, Tryz.results30]; go_simp) rfl ⟨rfl, by rw [HE9.out]; exact HSS.out⟩
theorem five_blk (w : World) (a b c d e : Obj) : (((((w.alloc a).alloc b).alloc c).alloc d).alloc e).heap[w.heap.size]? = some a ∧ (((((w.alloc a).alloc b).alloc c).alloc d).alloc e).heap[w.heap.size + 1]? = some b ∧ (((((w.alloc a).alloc b).alloc c).alloc d).alloc e).heap[w.heap.size + 2]? = some c ∧ (((((w.alloc a).alloc b).alloc c).alloc d).alloc e).heap[w.heap.size + 3]? = some d ∧ (((((w.alloc a).alloc b).alloc c).alloc d).alloc e).heap[w.heap.size + 4]? = some e := by
  refine ⟨?_, ?_, ?_, ?_, ?_⟩ <;> simp only [World.alloc, Array.getElem?_push, Array.size_push] <;> (repeat (first | rfl | (rw [if_neg (by omega)]) | (rw [if_pos (by omega)])))
theorem size5 (w : World) (a b c d e : Obj) : (((((w.alloc a).alloc b).alloc c).alloc d).alloc e).heap.size = w.heap.size + 5 := by
  simp only [World.size_alloc]
set_option maxRecDepth 100000 in
set_option maxHeartbeats 16000000 in
theorem bfm_any (rows cols : List Idp) (d : Nat) (m : Nd) (q : Option Addr) (len cq : Nat) (p : Option Addr) (n cap : Nat) (p2 : Option Addr) (n2 cap2 : Nat) (w : World) (hrd : RdG idE 2 w p n rows) (hn : n ≤ 1000000) (hrd2 : RdG idE 2 w p2 n2 cols) (hn2 : n2 ≤ 1000000) (hm : Cel.RdT w w.heap.size d m q len) (hfm : Fm m) :
    Calls Tryz.prog 8 #[axV p n cap, axV p2 n2 cap2, .agg (Cel.ndA m q len cq)] w fun e w' => (∃ p' len' cap', e = .returned (.tuple #[.agg (bnA (rfR rows cols m) p' len' cap'), .int .i64 (bdE rows cols m)]) ∧ RdQ rfE 12 w' (fun b => w.heap.size ≤ b ∧ b < w'.heap.size) d (rfR rows cols m) p' len') ∧ Below w.heap.size w w' := by
  have hh := Lib.hid (five_blk w (.cells #[axV p n cap] 84) (.cells #[axV p2 n2 cap2] 84) (.cells (Cel.ndA m q len cq) Cel.tPn) (.cells (bnA bnZ none 0 0) tNr) (.cells #[.int .i64 0] 39))
  have hAB : Hid (Below w.heap.size w (((((w.alloc (.cells #[axV p n cap] 84)).alloc (.cells #[axV p2 n2 cap2] 84)).alloc (.cells (Cel.ndA m q len cq) Cel.tPn)).alloc (.cells (bnA bnZ none 0 0) tNr)).alloc (.cells #[.int .i64 0] 39))) := by unfold Hid; (repeat' (first | (with_reducible exact Below.refl _ _) | (with_reducible assumption) | (with_reducible refine Below.alloc ?_ ?_ _) | (with_reducible refine bel_drewN ?_ _) | (with_reducible refine Below.drew ?_) | (with_reducible refine Below.setCell ?_ ?_ _) | (with_reducible refine bel_call ‹_› ?_ ?_) | go_size))
  have hsz := size5 w (.cells #[axV p n cap] 84) (.cells #[axV p2 n2 cap2] 84) (.cells (Cel.ndA m q len cq) Cel.tPn) (.cells (bnA bnZ none 0 0) tNr) (.cells #[.int .i64 0] 39)
  have HR1 := Lib.hid (fun W (hW : Below w.heap.size w W) => hrd.below hW)
  have HR2 := Lib.hid (fun W (hW : Below w.heap.size w W) => hrd2.below hW)
  have HM := Lib.hid (hm.below hAB.out)
  rw [show Value.agg (Cel.ndA m q len cq) = .agg #[.int .i64 m.kind, .int .i64 m.num, .string ⟨m.text.toArray⟩, .int .i64 (cC m.frm), .int .i64 (cR m.frm), .int .i64 (cC m.tor), .int .i64 (cR m.tor), .slice q len cq] from rfl]
  have hBR : ∀ E, E = bdE rows cols m → (E = 0 → rfR rows cols m = bdM rows cols m) ∧ (E ≠ 0 → rfR rows cols m = bnZ) := fun E h => by
    unfold rfR
    rw [← h]
    exact ⟨fun h0 => if_pos h0, fun h0 => if_neg h0⟩
  obtain ⟨E, hE⟩ : ∃ E, bdE rows cols m = E := ⟨_, rfl⟩
  have hrr := hBR E hE.symm
  obtain ⟨R, hR⟩ : ∃ R, rfR rows cols m = R := ⟨_, rfl⟩
  obtain ⟨M, hM⟩ : ∃ M, bdM rows cols m = M := ⟨_, rfl⟩
  rw [hE, hR]
  rw [hR, hM] at hrr
  have HRR := Lib.hid hrr
  have HEE := Lib.hid hE
  have HMM := Lib.hid hM
  clear hrd hrd2 hm hBR hrr hE hR hM
  go_enter Tryz.func8, Tryz.ntmps8
  go_upto_region 2 with fail
  have e0 : ((((w.alloc (.cells #[axV p n cap] 84)).alloc (.cells #[axV p2 n2 cap2] 84)).alloc (.cells #[.int .i64 m.kind, .int .i64 m.num, .string ⟨m.text.toArray⟩, .int .i64 (cC m.frm), .int .i64 (cR m.frm), .int .i64 (cC m.tor), .int .i64 (cR m.tor), .slice q len cq] Cel.tPn)).alloc (.cells #[.int .i64 0, .int .i64 0, .string ⟨#[]⟩, .int .u64 0, .int .i64 0, .int .u64 0, .int .i64 0, .int .u64 0, .int .i64 0, .int .u64 0, .int .i64 0, .slice none 0 0] tNr)).alloc (.cells #[.int .i64 0] 39) = ((((w.alloc (.cells #[axV p n cap] 84)).alloc (.cells #[axV p2 n2 cap2] 84)).alloc (.cells (Cel.ndA m q len cq) Cel.tPn)).alloc (.cells (bnA bnZ none 0 0) tNr)).alloc (.cells #[.int .i64 0] 39) := rfl
  rw [e0]
  clear e0
  generalize ((((w.alloc (.cells #[axV p n cap] 84)).alloc (.cells #[axV p2 n2 cap2] 84)).alloc (.cells (Cel.ndA m q len cq) Cel.tPn)).alloc (.cells (bnA bnZ none 0 0) tNr)).alloc (.cells #[.int .i64 0] 39) = w0 at hh hAB hsz HM ⊢
  have hA0 : Hid (BlkC w0 w.heap.size #[axV p n cap] 84) := hh.out.1
  have hA1 : Hid (BlkC w0 (w.heap.size + 1) #[axV p2 n2 cap2] 84) := hh.out.2.1
  have hA2 : Hid (BlkC w0 (w.heap.size + 2) (Cel.ndA m q len cq) Cel.tPn) := hh.out.2.2.1
  have hA3 : Hid (BlkC w0 (w.heap.size + 3) (bnA bnZ none 0 0) tNr) := hh.out.2.2.2.1
  have hA4 : Hid (BlkC w0 (w.heap.size + 4) #[.int .i64 0] 39) := hh.out.2.2.2.2
  have HK : mbK rows cols (w.heap.size + 4) w0 w.heap.size (w.heap.size + 1) := fun k E W hW hE => fc1_any rows cols k E p n cap p2 n2 cap2 w.heap.size (w.heap.size + 1) (w.heap.size + 4) W (HR1.out W (hAB.out.trans (hW.below (by omega) (by omega)))) hn (HR2.out W (hAB.out.trans (hW.below (by omega) (by omega)))) hn2 (off_blkC hW (by omega) hA0.out) (off_blkC hW (by omega) hA1.out) hE
  have HMB := Lib.hid (mb_any rows cols w.heap.size (w.heap.size + 4) w0 w.heap.size (w.heap.size + 1) (by omega) (by omega) HK d m q len cq 0 w0 (Off.refl _ _) hA4.out HM.out hfm)
  rw [show Value.agg (Cel.ndA m q len cq) = .agg #[.int .i64 m.kind, .int .i64 m.num, .string ⟨m.text.toArray⟩, .int .i64 (cC m.frm), .int .i64 (cR m.frm), .int .i64 (cC m.tor), .int .i64 (cR m.tor), .slice q len cq] from rfl, if_pos rfl] at HMB
  rw [HEE.out, HMM.out] at HMB
  have c0 : w0.cell? ⟨w.heap.size + 2, 0, none⟩ = some (.int .i64 m.kind) := hA2.out.cell 0 (.int .i64 m.kind) rfl
  have c1 : w0.cell? ⟨w.heap.size + 2, 1, none⟩ = some (.int .i64 m.num) := hA2.out.cell 1 (.int .i64 m.num) rfl
  have c2 : w0.cell? ⟨w.heap.size + 2, 2, none⟩ = some (.string ⟨m.text.toArray⟩) := hA2.out.cell 2 (.string ⟨m.text.toArray⟩) rfl
  have c3 : w0.cell? ⟨w.heap.size + 2, 3, none⟩ = some (.int .i64 (cC m.frm)) := hA2.out.cell 3 (.int .i64 (cC m.frm)) rfl
  have c4 : w0.cell? ⟨w.heap.size + 2, 4, none⟩ = some (.int .i64 (cR m.frm)) := hA2.out.cell 4 (.int .i64 (cR m.frm)) rfl
  have c5 : w0.cell? ⟨w.heap.size + 2, 5, none⟩ = some (.int .i64 (cC m.tor)) := hA2.out.cell 5 (.int .i64 (cC m.tor)) rfl
  have c6 : w0.cell? ⟨w.heap.size + 2, 6, none⟩ = some (.int .i64 (cR m.tor)) := hA2.out.cell 6 (.int .i64 (cR m.tor)) rfl
  have c7 : w0.cell? ⟨w.heap.size + 2, 7, none⟩ = some (.slice q len cq) := hA2.out.cell 7 (.slice q len cq) rfl
  clear hh HK HEE HMM HR1 HR2 HM hA0 hA1 hA4
  go_wp2_with fail
  refine HMB.out.mono ?_
  rintro e w1 ⟨⟨p', l', c', rfl, hq⟩, hoff, hst⟩
  have hB1 : Hid (Below w.heap.size w w1) := hAB.out.trans (hoff.below (by omega) (by omega))
  have hA5 : Hid (BlkC w1 (w.heap.size + 3) (bnA bnZ none 0 0) tNr) := off_blkC hoff (by omega) hA3.out
  have HQ : Hid (RdQ rfE 12 w1 (fun b => w.heap.size + 5 ≤ b ∧ b < w1.heap.size) d M p' l') := hq.weak (fun b h => by omega)
  have HST := Lib.hid hst
  clear hoff hst hq HMB hA2 hA3 hAB hsz c0 c1 c2 c3 c4 c5 c6 c7
  rw [show Value.agg (bnA M p' l' c') = .agg #[.int .i64 M.kind, .int .i64 M.num, .string ⟨M.text.toArray⟩, .int .u64 M.frm.1.1, .int .i64 M.frm.1.2, .int .u64 M.frm.2.1, .int .i64 M.frm.2.2, .int .u64 M.tor.1.1, .int .i64 M.tor.1.2, .int .u64 M.tor.2.1, .int .i64 M.tor.2.2, .slice p' l' c'] from rfl]
  go_upto_region 3 with fail
  have e1 : w1.alloc (.cells #[.int .i64 M.kind, .int .i64 M.num, .string ⟨M.text.toArray⟩, .int .u64 M.frm.1.1, .int .i64 M.frm.1.2, .int .u64 M.frm.2.1, .int .i64 M.frm.2.2, .int .u64 M.tor.1.1, .int .i64 M.tor.1.2, .int .u64 M.tor.2.1, .int .i64 M.tor.2.2, .slice p' l' c'] tNr) = w1.alloc (.cells (bnA M p' l' c') tNr) := rfl
  rw [e1]
  clear e1
  have hbn : Below w1.heap.size w1 (w1.alloc (.cells (bnA M p' l' c') tNr)) := (Below.refl _ _).alloc (Nat.le_refl _) _
  have hX : Hid (BlkC (w1.alloc (.cells (bnA M p' l' c') tNr)) w1.heap.size (bnA M p' l' c') tNr) := heap_alloc_new w1 _
  have hA6 := Lib.hid (hA5.out.below hbn)
  have HS6 := Lib.hid (HST.out.below hbn)
  have HQ6 := Lib.hid (HQ.out.below hbn)
  have hB6 : Hid (Below w.heap.size w (w1.alloc (.cells (bnA M p' l' c') tNr))) := bel_call hbn hB1.out hB1.out.size
  have hlx := lt_some HST.out
  have hs6 := hbn.size
  clear hbn hA5 HST HQ hB1
  generalize w1.alloc (.cells (bnA M p' l' c') tNr) = w2 at hX hA6 HS6 HQ6 hB6 hs6 ⊢
  generalize w1.heap.size = gX at hX hlx HQ6 hs6 ⊢
  have e4 : w2.cell? ⟨w.heap.size + 4, 0, none⟩ = some (.int .i64 E) := HS6.out.cell 0 (.int .i64 E) rfl
  by_cases h0 : E = 0
  · subst h0
    have HRE := Lib.hid (HRR.out.1 rfl)
    clear HRR
    go_upto_region 5 with fail
    refine wp_region_lit ?_
    refine wpList_load_mid (by rfl) _ _ (by rfl) gX 0 (by rfl) [.int .i64 M.kind, .int .i64 M.num, .string ⟨M.text.toArray⟩, .int .u64 M.frm.1.1, .int .i64 M.frm.1.2, .int .u64 M.frm.2.1, .int .i64 M.frm.2.2, .int .u64 M.tor.1.1, .int .i64 M.tor.1.2, .int .u64 M.tor.2.1, .int .i64 M.tor.2.2, .slice p' l' c'] _ (block_range hX.out [.int .i64 M.kind, .int .i64 M.num, .string ⟨M.text.toArray⟩, .int .u64 M.frm.1.1, .int .i64 M.frm.1.2, .int .u64 M.frm.2.1, .int .i64 M.frm.2.2, .int .u64 M.tor.1.1, .int .i64 M.tor.1.2, .int .u64 M.tor.2.1, .int .i64 M.tor.2.2, .slice p' l' c'] rfl) Tryz.underlying38 rfl (by kernel_rfl) ?_
    go_simp
    refine wpList_store_mid (by rfl) _ _ _ (by rfl) (w.heap.size + 3) 0 #[.int .i64 M.kind, .int .i64 M.num, .string ⟨M.text.toArray⟩, .int .u64 M.frm.1.1, .int .i64 M.frm.1.2, .int .u64 M.frm.2.1, .int .i64 M.frm.2.2, .int .u64 M.tor.1.1, .int .i64 M.tor.1.2, .int .u64 M.tor.2.1, .int .i64 M.tor.2.2, .slice p' l' c'] (by rfl) (by rfl) (block_there hA6.out 12 (Nat.le_refl _)) (by kernel_rfl) (by simp [Value.oneCell']) ?_
    have HS8 : Hid (BlkC (w2.setCells (w.heap.size + 3) 0 (#[.int .i64 M.kind, .int .i64 M.num, .string ⟨M.text.toArray⟩, .int .u64 M.frm.1.1, .int .i64 M.frm.1.2, .int .u64 M.frm.2.1, .int .i64 M.frm.2.2, .int .u64 M.tor.1.1, .int .i64 M.tor.1.2, .int .u64 M.tor.2.1, .int .i64 M.tor.2.2, .slice p' l' c']).toList) (w.heap.size + 3) (bnA M p' l' c') tNr) := store_block hA6.out _ rfl
    have HB8 : Hid (Below w.heap.size w (w2.setCells (w.heap.size + 3) 0 (#[.int .i64 M.kind, .int .i64 M.num, .string ⟨M.text.toArray⟩, .int .u64 M.frm.1.1, .int .i64 M.frm.1.2, .int .u64 M.frm.2.1, .int .i64 M.frm.2.2, .int .u64 M.tor.1.1, .int .i64 M.tor.1.2, .int .u64 M.tor.2.1, .int .i64 M.tor.2.2, .slice p' l' c']).toList)) := store_below (by omega) _ _ _ hB6.out
    have HO8 : Hid (∀ k, k ≠ w.heap.size + 3 → (w2.setCells (w.heap.size + 3) 0 (#[.int .i64 M.kind, .int .i64 M.num, .string ⟨M.text.toArray⟩, .int .u64 M.frm.1.1, .int .i64 M.frm.1.2, .int .u64 M.frm.2.1, .int .i64 M.frm.2.2, .int .u64 M.tor.1.1, .int .i64 M.tor.1.2, .int .u64 M.tor.2.1, .int .i64 M.tor.2.2, .slice p' l' c']).toList).heap[k]? = w2.heap[k]?) := fun k hk => store_other hk _ _ _
    have hz8 := (store_below (Nat.zero_le (w.heap.size + 3)) (#[.int .i64 M.kind, .int .i64 M.num, .string ⟨M.text.toArray⟩, .int .u64 M.frm.1.1, .int .i64 M.frm.1.2, .int .u64 M.frm.2.1, .int .i64 M.frm.2.2, .int .u64 M.tor.1.1, .int .i64 M.tor.1.2, .int .u64 M.tor.2.1, .int .i64 M.tor.2.2, .slice p' l' c']).toList 0 w2 (Below.refl 0 w2)).size
    generalize w2.setCells (w.heap.size + 3) 0 (#[.int .i64 M.kind, .int .i64 M.num, .string ⟨M.text.toArray⟩, .int .u64 M.frm.1.1, .int .i64 M.frm.1.2, .int .u64 M.frm.2.1, .int .i64 M.frm.2.2, .int .u64 M.tor.1.1, .int .i64 M.tor.1.2, .int .u64 M.tor.2.1, .int .i64 M.tor.2.2, .slice p' l' c']).toList = w9 at HS8 HB8 HO8 hz8 ⊢
    go_simp
    go_wp2_with fail
    try simp only [Exit.inBlock, Exit.then]
    refine bodyPost_ret (results_row_tmp rfl _ _ (w.heap.size + 3) tNr (bnA M p' l' c') (0, 0) _ rfl HS8.out Tryz.underlying38 rfl (by kernel_rfl) _ rfl) rfl ⟨⟨p', l', c', by rw [HRE.out]; rfl, ?_⟩, HB8.out⟩
    rw [HRE.out]
    exact RdQ.carry (fun b hb _ => ⟨⟨by omega, by omega⟩, HO8.out b (by omega)⟩) HQ6.out
  · have HRE := Lib.hid (HRR.out.2 h0)
    have y1 : (E == 0) = false := by simpa using h0
    have y2 : (E != 0) = true := by simpa using h0
    clear HRR
    go_upto_region 4 with fail
    have E4 := KeptO.cell (b := w.heap.size + 3) (by omega) e4
    refine wp_region_sched (fun wx => ∃ x : KeptO (w.heap.size + 3) w2, wx = x.v) [([0, 1], 2)] [3] (by kernel_rfl) (by kernel_rfl) (by kernel_rfl) rfl (keptO_drew _ _) ?_
    (unfold wpSeg; simp only [pick_nil, pick_cons, nthO_zero, nthO_succ, List.append])
    clear e4
    repeat (go_big_quiet_step (fail))
    refine wpQuiet_nil ?_
    have hBd : Below w2.heap.size w2 w2.drew := Below.drew (Below.refl _ _)
    have hHz := hA6.out.below hBd
    refine wpList_store_mid (by rfl) _ _ _ (by rfl) (w.heap.size + 3) 0 #[.int .i64 0, .int .i64 0, .string ⟨#[]⟩, .int .u64 0, .int .i64 0, .int .u64 0, .int .i64 0, .int .u64 0, .int .i64 0, .int .u64 0, .int .i64 0, .slice none 0 0] (by rfl) (by rfl) (block_there hHz 12 (Nat.le_refl _)) (by kernel_rfl) (by simp [Value.oneCell']) ?_
    have HS8 : Hid (BlkC (w2.drew.setCells (w.heap.size + 3) 0 (#[.int .i64 0, .int .i64 0, .string ⟨#[]⟩, .int .u64 0, .int .i64 0, .int .u64 0, .int .i64 0, .int .u64 0, .int .i64 0, .int .u64 0, .int .i64 0, .slice none 0 0]).toList) (w.heap.size + 3) (bnA bnZ none 0 0) tNr) := store_block hHz _ rfl
    have HB8 : Hid (Below w.heap.size w (w2.drew.setCells (w.heap.size + 3) 0 (#[.int .i64 0, .int .i64 0, .string ⟨#[]⟩, .int .u64 0, .int .i64 0, .int .u64 0, .int .i64 0, .int .u64 0, .int .i64 0, .int .u64 0, .int .i64 0, .slice none 0 0]).toList)) := store_below (by omega) _ _ _ (bel_call hBd hB6.out hB6.out.size)
    have HO8 : Hid (Off (w.heap.size + 3) w2 (w2.drew.setCells (w.heap.size + 3) 0 (#[.int .i64 0, .int .i64 0, .string ⟨#[]⟩, .int .u64 0, .int .i64 0, .int .u64 0, .int .i64 0, .int .u64 0, .int .i64 0, .int .u64 0, .int .i64 0, .slice none 0 0]).toList)) := off_stores (Off.of_below hBd) 0 _
    generalize w2.drew.setCells (w.heap.size + 3) 0 (#[.int .i64 0, .int .i64 0, .string ⟨#[]⟩, .int .u64 0, .int .i64 0, .int .u64 0, .int .i64 0, .int .u64 0, .int .i64 0, .int .u64 0, .int .i64 0, .slice none 0 0]).toList = w9 at HS8 HB8 HO8 ⊢
    go_simp
    go_wp2_with fail
    refine ⟨rfl, ⟨⟨w9, HO8.out⟩, rfl⟩, ?_⟩
    (unfold wpSeg; simp only [pick_nil, pick_cons, nthO_zero, nthO_succ, List.append])
    repeat (go_big_quiet_step (fail))
    refine wpQuiet_nil ?_
    go_wp2_with fail
    try simp only [Exit.inBlock, Exit.then]
    refine bodyPost_ret (results_row_tmp rfl _ _ (w.heap.size + 3) tNr (bnA bnZ none 0 0) (0, 0) _ rfl HS8.out Tryz.underlying38 rfl (by kernel_rfl) _ rfl) rfl ⟨⟨none, 0, 0, by rw [HRE.out]; rfl, by rw [HRE.out]; exact bn_leaf _ _ rfl _ _⟩, HB8.out⟩
end Go.Proofs.YtjklbbmgjjdalaaGreatDoor.Bd
namespace Go.Proofs.YtjklbbmgjjdalaaGreatDoor.Bd
open Go.RowKit Go.Joins
theorem shaped_bf {w w' : World} (h : w.ShapedOpen Tryz.prog) (hb : Below w.heap.size w w') : w'.ShapedOpen Tryz.prog := h.keptBut (hb.frame (fun _ => False)) (fun _ h => h.elim)
theorem size4 (w : World) (a b c d : Obj) : ((((w.alloc a).alloc b).alloc c).alloc d).heap.size = w.heap.size + 4 := by
  simp only [World.size_alloc]
set_option maxRecDepth 100000 in
set_option maxHeartbeats 16000000 in
theorem bback_any (rows cols : List Idp) (hr60 : rows.length ≤ 60) (hc60 : cols.length ≤ 60) (d : Nat) (m : Bn) (q : Option Addr) (len cq : Nat) (p : Option Addr) (n cap : Nat) (p2 : Option Addr) (n2 cap2 : Nat) (w : World) (hrd : RdG idE 2 w p n rows) (hn : n ≤ 1000000) (hrd2 : RdG idE 2 w p2 n2 cols) (hn2 : n2 ≤ 1000000) (hm : RdQ rfE 12 w (· < w.heap.size) d m q len) (hsm : Sm m) :
    Calls Tryz.prog 15 #[axV p n cap, axV p2 n2 cap2, .agg (bnA m q len cq)] w fun e w' => (∃ p' len' cap', e = .returned (.agg (Cel.ndA (bkN rows cols m) p' len' cap')) ∧ Cel.RdP w' (fun b => w.heap.size ≤ b ∧ b < w'.heap.size) d (bkN rows cols m) p' len') ∧ Below w.heap.size w w' := by
  have hh := Lib.hid (four_blk w (.cells #[axV p n cap] 84) (.cells #[axV p2 n2 cap2] 84) (.cells (bnA m q len cq) tNr) (.cells (Cel.ndA nodeZ none 0 0) Cel.tPn))
  have hAB : Hid (Below w.heap.size w ((((w.alloc (.cells #[axV p n cap] 84)).alloc (.cells #[axV p2 n2 cap2] 84)).alloc (.cells (bnA m q len cq) tNr)).alloc (.cells (Cel.ndA nodeZ none 0 0) Cel.tPn))) := by unfold Hid; (repeat' (first | (with_reducible exact Below.refl _ _) | (with_reducible assumption) | (with_reducible refine Below.alloc ?_ ?_ _) | (with_reducible refine bel_drewN ?_ _) | (with_reducible refine Below.drew ?_) | (with_reducible refine Below.setCell ?_ ?_ _) | (with_reducible refine bel_call ‹_› ?_ ?_) | go_size))
  have hsz := size4 w (.cells #[axV p n cap] 84) (.cells #[axV p2 n2 cap2] 84) (.cells (bnA m q len cq) tNr) (.cells (Cel.ndA nodeZ none 0 0) Cel.tPn)
  have HR1 := Lib.hid (fun W (hW : Below w.heap.size w W) => hrd.below hW)
  have HR2 := Lib.hid (fun W (hW : Below w.heap.size w W) => hrd2.below hW)
  have HM := Lib.hid (hm.low hAB.out)
  rw [show Value.agg (bnA m q len cq) = .agg #[.int .i64 m.kind, .int .i64 m.num, .string ⟨m.text.toArray⟩, .int .u64 m.frm.1.1, .int .i64 m.frm.1.2, .int .u64 m.frm.2.1, .int .i64 m.frm.2.2, .int .u64 m.tor.1.1, .int .i64 m.tor.1.2, .int .u64 m.tor.2.1, .int .i64 m.tor.2.2, .slice q len cq] from rfl]
  obtain ⟨M, hM⟩ : ∃ M, bkN rows cols m = M := ⟨_, rfl⟩
  rw [hM]
  have HMM := Lib.hid hM
  clear hrd hrd2 hm hM
  go_enter Tryz.func15, Tryz.ntmps15
  go_upto_region 1 with fail
  have e0 : (((w.alloc (.cells #[axV p n cap] 84)).alloc (.cells #[axV p2 n2 cap2] 84)).alloc (.cells #[.int .i64 m.kind, .int .i64 m.num, .string ⟨m.text.toArray⟩, .int .u64 m.frm.1.1, .int .i64 m.frm.1.2, .int .u64 m.frm.2.1, .int .i64 m.frm.2.2, .int .u64 m.tor.1.1, .int .i64 m.tor.1.2, .int .u64 m.tor.2.1, .int .i64 m.tor.2.2, .slice q len cq] tNr)).alloc (.cells #[.int .i64 0, .int .i64 0, .string ⟨#[]⟩, .int .i64 0, .int .i64 0, .int .i64 0, .int .i64 0, .slice none 0 0] Cel.tPn) = (((w.alloc (.cells #[axV p n cap] 84)).alloc (.cells #[axV p2 n2 cap2] 84)).alloc (.cells (bnA m q len cq) tNr)).alloc (.cells (Cel.ndA nodeZ none 0 0) Cel.tPn) := rfl
  rw [e0]
  clear e0
  generalize (((w.alloc (.cells #[axV p n cap] 84)).alloc (.cells #[axV p2 n2 cap2] 84)).alloc (.cells (bnA m q len cq) tNr)).alloc (.cells (Cel.ndA nodeZ none 0 0) Cel.tPn) = w0 at hh hAB hsz HM ⊢
  have hA0 : Hid (BlkC w0 w.heap.size #[axV p n cap] 84) := hh.out.1
  have hA1 : Hid (BlkC w0 (w.heap.size + 1) #[axV p2 n2 cap2] 84) := hh.out.2.1
  have hA2 : Hid (BlkC w0 (w.heap.size + 2) (bnA m q len cq) tNr) := hh.out.2.2.1
  have hA3 : Hid (BlkC w0 (w.heap.size + 3) (Cel.ndA nodeZ none 0 0) Cel.tPn) := hh.out.2.2.2
  have HK : mkK rows cols (w.heap.size + 2) w0 w.heap.size (w.heap.size + 1) := fun k W hW => by
    have h := back1_any rows cols k.1 k.2 p n cap p2 n2 cap2 w.heap.size (w.heap.size + 1) 84 W (HR1.out W (hAB.out.trans (hW.below (by omega) (by omega)))) hn (HR2.out W (hAB.out.trans (hW.below (by omega) (by omega)))) hn2 (off_blkC hW (by omega) hA0.out) (off_blkC hW (by omega) hA1.out)
    obtain ⟨_, h1, h2, h3⟩ := bkC_ok hr60 hc60 k
    rw [h1, h2, show decide (bkC rows cols k ≠ 0) = (plcS rows cols k.1 k.2).2 from by cases hp : (plcS rows cols k.1 k.2).2 with | true => exact decide_eq_true (h3.1 hp) | false => exact decide_eq_false (fun h => by have := h3.2 h; rw [hp] at this; cases this)]
    exact h.mono fun e w' hh => ⟨hh.1, Off.of_below hh.2⟩
  have HMB := Lib.hid (mk_any rows cols w.heap.size (w.heap.size + 2) w0 w.heap.size (w.heap.size + 1) (by omega) (by omega) HK d m q len cq w0 (Off.refl _ _) HM.out hsm)
  rw [show Value.agg (bnA m q len cq) = .agg #[.int .i64 m.kind, .int .i64 m.num, .string ⟨m.text.toArray⟩, .int .u64 m.frm.1.1, .int .i64 m.frm.1.2, .int .u64 m.frm.2.1, .int .i64 m.frm.2.2, .int .u64 m.tor.1.1, .int .i64 m.tor.1.2, .int .u64 m.tor.2.1, .int .i64 m.tor.2.2, .slice q len cq] from rfl] at HMB
  rw [HMM.out] at HMB
  have c0 : w0.cell? ⟨w.heap.size + 2, 0, none⟩ = some (.int .i64 m.kind) := hA2.out.cell 0 (.int .i64 m.kind) rfl
  have c1 : w0.cell? ⟨w.heap.size + 2, 1, none⟩ = some (.int .i64 m.num) := hA2.out.cell 1 (.int .i64 m.num) rfl
  have c2 : w0.cell? ⟨w.heap.size + 2, 2, none⟩ = some (.string ⟨m.text.toArray⟩) := hA2.out.cell 2 (.string ⟨m.text.toArray⟩) rfl
  have c3 : w0.cell? ⟨w.heap.size + 2, 3, none⟩ = some (.int .u64 m.frm.1.1) := hA2.out.cell 3 (.int .u64 m.frm.1.1) rfl
  have c4 : w0.cell? ⟨w.heap.size + 2, 4, none⟩ = some (.int .i64 m.frm.1.2) := hA2.out.cell 4 (.int .i64 m.frm.1.2) rfl
  have c5 : w0.cell? ⟨w.heap.size + 2, 5, none⟩ = some (.int .u64 m.frm.2.1) := hA2.out.cell 5 (.int .u64 m.frm.2.1) rfl
  have c6 : w0.cell? ⟨w.heap.size + 2, 6, none⟩ = some (.int .i64 m.frm.2.2) := hA2.out.cell 6 (.int .i64 m.frm.2.2) rfl
  have c7 : w0.cell? ⟨w.heap.size + 2, 7, none⟩ = some (.int .u64 m.tor.1.1) := hA2.out.cell 7 (.int .u64 m.tor.1.1) rfl
  have c8 : w0.cell? ⟨w.heap.size + 2, 8, none⟩ = some (.int .i64 m.tor.1.2) := hA2.out.cell 8 (.int .i64 m.tor.1.2) rfl
  have c9 : w0.cell? ⟨w.heap.size + 2, 9, none⟩ = some (.int .u64 m.tor.2.1) := hA2.out.cell 9 (.int .u64 m.tor.2.1) rfl
  have c10 : w0.cell? ⟨w.heap.size + 2, 10, none⟩ = some (.int .i64 m.tor.2.2) := hA2.out.cell 10 (.int .i64 m.tor.2.2) rfl
  have c11 : w0.cell? ⟨w.heap.size + 2, 11, none⟩ = some (.slice q len cq) := hA2.out.cell 11 (.slice q len cq) rfl
  clear hh HK HR1 HR2 HM hA0 hA1
  go_wp2_with fail
  refine HMB.out.mono ?_
  rintro e w1 ⟨⟨p', l', c', rfl, hq⟩, hoff⟩
  have hB1 : Hid (Below w.heap.size w w1) := hAB.out.trans (hoff.below (by omega) (by omega))
  have hA5 : Hid (BlkC w1 (w.heap.size + 3) (Cel.ndA nodeZ none 0 0) Cel.tPn) := off_blkC hoff (by omega) hA3.out
  have HQ : Hid (Cel.RdP w1 (fun b => w.heap.size + 4 ≤ b ∧ b < w1.heap.size) d M p' l') := hq.carry (fun b h => ⟨⟨by omega, h.2⟩, rfl⟩)
  clear hoff hq HMB hA2 hA3 hAB hsz c0 c1 c2 c3 c4 c5 c6 c7 c8 c9 c10 c11
  rw [show Value.agg (Cel.ndA M p' l' c') = .agg #[.int .i64 M.kind, .int .i64 M.num, .string ⟨M.text.toArray⟩, .int .i64 (cC M.frm), .int .i64 (cR M.frm), .int .i64 (cC M.tor), .int .i64 (cR M.tor), .slice p' l' c'] from rfl]
  rename_i KK aK
  go_simp
  refine aK _ _ ?_
  clear aK KK
  refine wpList_store_mid (by rfl) _ _ _ (by rfl) (w.heap.size + 3) 0 #[.int .i64 M.kind, .int .i64 M.num, .string ⟨M.text.toArray⟩, .int .i64 (cC M.frm), .int .i64 (cR M.frm), .int .i64 (cC M.tor), .int .i64 (cR M.tor), .slice p' l' c'] (by rfl) (by rfl) (block_there hA5.out 8 (Nat.le_refl _)) (by kernel_rfl) (by simp [Value.oneCell']) ?_
  have HS8 : Hid (BlkC (w1.setCells (w.heap.size + 3) 0 (#[.int .i64 M.kind, .int .i64 M.num, .string ⟨M.text.toArray⟩, .int .i64 (cC M.frm), .int .i64 (cR M.frm), .int .i64 (cC M.tor), .int .i64 (cR M.tor), .slice p' l' c']).toList) (w.heap.size + 3) (Cel.ndA M p' l' c') Cel.tPn) := store_block hA5.out _ rfl
  have HB8 : Hid (Below w.heap.size w (w1.setCells (w.heap.size + 3) 0 (#[.int .i64 M.kind, .int .i64 M.num, .string ⟨M.text.toArray⟩, .int .i64 (cC M.frm), .int .i64 (cR M.frm), .int .i64 (cC M.tor), .int .i64 (cR M.tor), .slice p' l' c']).toList)) := store_below (by omega) _ _ _ hB1.out
  have HO8 : Hid (∀ k, k ≠ w.heap.size + 3 → (w1.setCells (w.heap.size + 3) 0 (#[.int .i64 M.kind, .int .i64 M.num, .string ⟨M.text.toArray⟩, .int .i64 (cC M.frm), .int .i64 (cR M.frm), .int .i64 (cC M.tor), .int .i64 (cR M.tor), .slice p' l' c']).toList).heap[k]? = w1.heap[k]?) := fun k hk => store_other hk _ _ _
  have hz8 := (store_below (Nat.zero_le (w.heap.size + 3)) (#[.int .i64 M.kind, .int .i64 M.num, .string ⟨M.text.toArray⟩, .int .i64 (cC M.frm), .int .i64 (cR M.frm), .int .i64 (cC M.tor), .int .i64 (cR M.tor), .slice p' l' c']).toList 0 w1 (Below.refl 0 w1)).size
  generalize w1.setCells (w.heap.size + 3) 0 (#[.int .i64 M.kind, .int .i64 M.num, .string ⟨M.text.toArray⟩, .int .i64 (cC M.frm), .int .i64 (cR M.frm), .int .i64 (cC M.tor), .int .i64 (cR M.tor), .slice p' l' c']).toList = w9 at HS8 HB8 HO8 hz8 ⊢
  go_simp
  go_wp2_with fail
  try simp only [Exit.inBlock, Exit.then]
  refine bodyPost_ret (results_cell_row rfl _ _ (w.heap.size + 3) Cel.tPn (Cel.ndA M p' l' c') (0, 0) _ rfl HS8.out Tryz.underlying48 rfl (by kernel_rfl)) rfl ⟨⟨p', l', c', rfl, HQ.out.carry (fun b hb => ⟨⟨by omega, by omega⟩, HO8.out b (by omega)⟩)⟩, HB8.out⟩
set_option maxRecDepth 100000 in
set_option maxHeartbeats 16000000 in
theorem btext_any (rows cols : List Idp) (hr60 : rows.length ≤ 60) (hc60 : cols.length ≤ 60) (d : Nat) (m : Bn) (q : Option Addr) (len cq : Nat) (lv : Int) (p : Option Addr) (n cap : Nat) (p2 : Option Addr) (n2 cap2 : Nat) (w : World) (hsh : w.ShapedOpen Tryz.prog) (hrd : RdG idE 2 w p n rows) (hn : n ≤ 1000000) (hrd2 : RdG idE 2 w p2 n2 cols) (hn2 : n2 ≤ 1000000) (hm : RdQ rfE 12 w (· < w.heap.size) d m q len) (hsm : Sm m) (hok : OkN (bkN rows cols m)) (hrt : rtN (bkN rows cols m) lv = true) (hlen : wtN (bkN rows cols m) ≤ 2200000) :
    Calls Tryz.prog 16 #[axV p n cap, axV p2 n2 cap2, .agg (bnA m q len cq)] w fun e w' => e = .returned (.string ⟨(prN nmS (bkN rows cols m) 1).toArray⟩) ∧ Below w.heap.size w w' := by
  have hA0 : Hid (BlkC (w.alloc (.cells (bnA m q len cq) tNr)) w.heap.size (bnA m q len cq) tNr) := heap_alloc_new w _
  have hAB : Hid (Below w.heap.size w (w.alloc (.cells (bnA m q len cq) tNr))) := by unfold Hid; (repeat' (first | (with_reducible exact Below.refl _ _) | (with_reducible assumption) | (with_reducible refine Below.alloc ?_ ?_ _) | (with_reducible refine bel_drewN ?_ _) | (with_reducible refine Below.drew ?_) | (with_reducible refine Below.setCell ?_ ?_ _) | (with_reducible refine bel_call ‹_› ?_ ?_) | go_size))
  have HBK := Lib.hid (bback_any rows cols hr60 hc60 d m q len cq p n cap p2 n2 cap2 (w.alloc (.cells (bnA m q len cq) tNr)) (hrd.below hAB.out) hn (hrd2.below hAB.out) hn2 ((hm.low hAB.out).weak (fun b h => by have := hAB.out.size; omega)) hsm)
  have HSH := Lib.hid (fun W (hW : Below w.heap.size w W) => shaped_bf hsh hW)
  have HPT := Lib.hid (fun q' l' c' W (h : Cel.RdT W W.heap.size d (bkN rows cols m) q' l') (hs : W.ShapedOpen Tryz.prog) => ptext_any (bkN rows cols m) d q' l' c' lv W h hok hrt hs hlen)
  rw [show Value.agg (bnA m q len cq) = .agg #[.int .i64 m.kind, .int .i64 m.num, .string ⟨m.text.toArray⟩, .int .u64 m.frm.1.1, .int .i64 m.frm.1.2, .int .u64 m.frm.2.1, .int .i64 m.frm.2.2, .int .u64 m.tor.1.1, .int .i64 m.tor.1.2, .int .u64 m.tor.2.1, .int .i64 m.tor.2.2, .slice q len cq] from rfl] at HBK ⊢
  clear hrd hrd2 hm hok hrt hlen hsh
  generalize bkN rows cols m = M at HBK HPT ⊢
  go_enter Tryz.func16, Tryz.ntmps16
  go_upto_region 1 with fail
  have e0 : w.alloc (.cells #[.int .i64 m.kind, .int .i64 m.num, .string ⟨m.text.toArray⟩, .int .u64 m.frm.1.1, .int .i64 m.frm.1.2, .int .u64 m.frm.2.1, .int .i64 m.frm.2.2, .int .u64 m.tor.1.1, .int .i64 m.tor.1.2, .int .u64 m.tor.2.1, .int .i64 m.tor.2.2, .slice q len cq] tNr) = w.alloc (.cells (bnA m q len cq) tNr) := rfl
  rw [e0]
  clear e0
  generalize w.alloc (.cells (bnA m q len cq) tNr) = w0 at hA0 hAB HBK ⊢
  have c0 : w0.cell? ⟨w.heap.size, 0, none⟩ = some (.int .i64 m.kind) := hA0.out.cell 0 (.int .i64 m.kind) rfl
  have c1 : w0.cell? ⟨w.heap.size, 1, none⟩ = some (.int .i64 m.num) := hA0.out.cell 1 (.int .i64 m.num) rfl
  have c2 : w0.cell? ⟨w.heap.size, 2, none⟩ = some (.string ⟨m.text.toArray⟩) := hA0.out.cell 2 (.string ⟨m.text.toArray⟩) rfl
  have c3 : w0.cell? ⟨w.heap.size, 3, none⟩ = some (.int .u64 m.frm.1.1) := hA0.out.cell 3 (.int .u64 m.frm.1.1) rfl
  have c4 : w0.cell? ⟨w.heap.size, 4, none⟩ = some (.int .i64 m.frm.1.2) := hA0.out.cell 4 (.int .i64 m.frm.1.2) rfl
  have c5 : w0.cell? ⟨w.heap.size, 5, none⟩ = some (.int .u64 m.frm.2.1) := hA0.out.cell 5 (.int .u64 m.frm.2.1) rfl
  have c6 : w0.cell? ⟨w.heap.size, 6, none⟩ = some (.int .i64 m.frm.2.2) := hA0.out.cell 6 (.int .i64 m.frm.2.2) rfl
  have c7 : w0.cell? ⟨w.heap.size, 7, none⟩ = some (.int .u64 m.tor.1.1) := hA0.out.cell 7 (.int .u64 m.tor.1.1) rfl
  have c8 : w0.cell? ⟨w.heap.size, 8, none⟩ = some (.int .i64 m.tor.1.2) := hA0.out.cell 8 (.int .i64 m.tor.1.2) rfl
  have c9 : w0.cell? ⟨w.heap.size, 9, none⟩ = some (.int .u64 m.tor.2.1) := hA0.out.cell 9 (.int .u64 m.tor.2.1) rfl
  have c10 : w0.cell? ⟨w.heap.size, 10, none⟩ = some (.int .i64 m.tor.2.2) := hA0.out.cell 10 (.int .i64 m.tor.2.2) rfl
  have c11 : w0.cell? ⟨w.heap.size, 11, none⟩ = some (.slice q len cq) := hA0.out.cell 11 (.slice q len cq) rfl
  go_wp2_with fail
  refine HBK.out.mono ?_
  rintro e w1 ⟨⟨p', l', c', rfl, hq⟩, hb⟩
  have hB1 : Hid (Below w.heap.size w w1) := bel_call hb hAB.out hAB.out.size
  have HP1 := Lib.hid (HPT.out p' l' c' w1 (Cel.RdP.rdT (fun b h => h.2) hq) (HSH.out w1 hB1.out))
  rw [show Value.agg (Cel.ndA M p' l' c') = .agg #[.int .i64 M.kind, .int .i64 M.num, .string ⟨M.text.toArray⟩, .int .i64 (cC M.frm), .int .i64 (cR M.frm), .int .i64 (cC M.tor), .int .i64 (cR M.tor), .slice p' l' c'] from rfl] at HP1 ⊢
  clear hb hq HBK HPT hA0 hAB c0 c1 c2 c3 c4 c5 c6 c7 c8 c9 c10 c11
  go_wp2_with fail
  refine HP1.out.mono ?_
  rintro e w2 ⟨rfl, hb⟩
  have hB2 := bel_call hb hB1.out hB1.out.size
  go_wp2_with fail
  go_ret
  exact ⟨rfl, hB2⟩
end Go.Proofs.YtjklbbmgjjdalaaGreatDoor.Bd
