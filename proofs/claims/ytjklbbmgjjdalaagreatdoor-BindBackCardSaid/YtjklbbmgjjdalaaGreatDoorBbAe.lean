/- The document's cell and Formula of ref11. Printed by gen_bfm.py. The document's Formula of ref11. Printed by gen_bfm.py. bind.Formula, and its closure, over the law's axes. Printed by gen_bfm.py. bind.Back and bind.Text, over the law's axes. Printed by gen_bfm.py. The law's 'cells': the document's trees as the program's. Printed by gen_bfu.py. -/
import Derived.Test.YtjklbbmgjjdalaaGreatDoorBbX
import Derived.Test.YtjklbbmgjjdalaaGreatDoorBbL
import Derived.Test.YtjklbbmgjjdalaaGreatDoorBbA
import Derived.Test.YtjklbbmgjjdalaaGreatDoorBbAd
import Derived.Test.YtjklbbmgjjdalaaGreatDoorBbAb
import Derived.Test.YtjklbbmgjjdalaaGreatDoorBbAa
import Derived.Test.YtjklbbmgjjdalaaGreatDoorBbZ
import Derived.Test.YtjklbbmgjjdalaaGreatDoorBbS
import Derived.Test.YtjklbbmgjjdalaaGreatDoorBbF
import Derived.Test.YtjklbbmgjjdalaaGreatDoorBbJ
import Derived.Lib.Replace
import Derived.Lib.ReplaceLaws
import Derived.Test.YtjklbbmgjjdalaaGreatDoorBbAi
import Derived.Test.YtjklbbmgjjdalaaGreatDoorBbT
import Derived.Test.YtjklbbmgjjdalaaGreatDoorBbE
import Derived.Test.YtjklbbmgjjdalaaGreatDoorBbAf
import Derived.Test.YtjklbbmgjjdalaaGreatDoorBbQ
set_option linter.unusedSimpArgs false
set_option linter.unusedVariables false
namespace Go.Proofs.YtjklbbmgjjdalaaGreatDoor.Bd
open Go.RowKit Go.Joins
theorem off_stores {b : Nat} {w w' : World} (h : Off b w w') (j : Nat) (vs : List Value) : Off b w (w'.setCells b j vs) :=
  have hb := store_below (B := 0) (b := b) (Nat.zero_le _) vs j w' (Below.refl _ _)
  ⟨hb.os.trans h.os, hb.tape.trans h.tape, hb.output.trans h.output, Nat.le_trans h.size hb.size, fun k hk hn => (store_other hn _ _ _).trans (h.block k hk hn)⟩
end Go.Proofs.YtjklbbmgjjdalaaGreatDoor.Bd
namespace Go.Proofs.YtjklbbmgjjdalaaGreatDoor.Bd
open Go.RowKit Go.Joins
def rfR (rows cols : List Idp) (n : Nd) : Bn := if bdE rows cols n = 0 then bdM rows cols n else bnZ
end Go.Proofs.YtjklbbmgjjdalaaGreatDoor.Bd
namespace Go.Proofs.YtjklbbmgjjdalaaGreatDoor.Bd
open Go.RowKit Go.Joins
theorem off_blkC {b k : Nat} {w w' : World} {cs : Array Value} {t : TypeId} (h : Off b w w') (hk : k ≠ b) (hc : BlkC w k cs t) : BlkC w' k cs t := h.blk hk hc
set_option maxRecDepth 100000 in
set_option maxHeartbeats 16000000 in
theorem fc1_any (rows cols : List Idp) (k E : Int) (p : Option Addr) (n cap : Nat) (p2 : Option Addr) (n2 cap2 : Nat) (b3 b4 b5 : Nat) (w : World) (hrd : RdG idE 2 w p n rows) (hn : n ≤ 1000000) (hrd2 : RdG idE 2 w p2 n2 cols) (hn2 : n2 ≤ 1000000)
    (h3 : BlkC w b3 #[axV p n cap] 84) (h4 : BlkC w b4 #[axV p2 n2 cap2] 84) (h5 : BlkC w b5 #[.int .i64 E] 39) :
    Calls Tryz.prog 30 #[.agg #[.int .i64 (cC k), .int .i64 (cR k)], .pointer (some ⟨b3, 0, none⟩), .pointer (some ⟨b4, 0, none⟩), .pointer (some ⟨b5, 0, none⟩)] w fun e w' => e = .returned (.tuple #[.agg #[.int .u64 (bdC rows cols k).1.1.1, .int .i64 (bdC rows cols k).1.1.2, .int .u64 (bdC rows cols k).1.2.1, .int .i64 (bdC rows cols k).1.2.2], .bool (decide ((bdC rows cols k).2 = 0))]) ∧ Off b5 w w' ∧ BlkC w' b5 #[.int .i64 (if E = 0 then (bdC rows cols k).2 else E)] 39 := by
  have HCE := Lib.hid (fun W (hW : Below w.heap.size w W) => cell_any rows cols (cC k) (cR k) p n cap p2 n2 cap2 W (hrd.below hW) hn (hrd2.below hW) hn2)
  have hh := Lib.hid (two_heap w (.cells #[.int .i64 (cC k), .int .i64 (cR k)] tCl) (.cells #[.int .u64 0, .int .i64 0, .int .u64 0, .int .i64 0] tRf))
  have hAB : Hid (Below w.heap.size w ((w.alloc (.cells #[.int .i64 (cC k), .int .i64 (cR k)] tCl)).alloc (.cells #[.int .u64 0, .int .i64 0, .int .u64 0, .int .i64 0] tRf))) := by unfold Hid; (repeat' (first | (with_reducible exact Below.refl _ _) | (with_reducible assumption) | (with_reducible refine Below.alloc ?_ ?_ _) | (with_reducible refine bel_drewN ?_ _) | (with_reducible refine Below.drew ?_) | (with_reducible refine Below.setCell ?_ ?_ _) | (with_reducible refine bel_call ‹_› ?_ ?_) | go_size))
  have H3 := Lib.hid (h3.below hAB.out)
  have H4 := Lib.hid (h4.below hAB.out)
  have H5 := Lib.hid (h5.below hAB.out)
  have hb5 : b5 < w.heap.size := lt_some h5
  rw [show celS rows cols (cC k) (cR k) = bdC rows cols k from rfl] at HCE
  generalize bdC rows cols k = S at HCE ⊢
  obtain ⟨⟨⟨s1, s2⟩, s3, s4⟩, s5⟩ := S
  generalize cC k = c at *
  generalize cR k = r at *
  obtain ⟨EN, hEN⟩ : ∃ x, (if E = 0 then s5 else E) = x := ⟨_, rfl⟩
  obtain ⟨B, hB⟩ : ∃ B, decide (s5 = 0) = B := ⟨_, rfl⟩
  have hB2 : (s5 == 0) = B := by rw [← hB]; by_cases h : s5 = 0 <;> simp [h]
  show Calls Tryz.prog 30 #[.agg #[.int .i64 c, .int .i64 r], .pointer (some ⟨b3, 0, none⟩), .pointer (some ⟨b4, 0, none⟩), .pointer (some ⟨b5, 0, none⟩)] w fun e w' => e = .returned (.tuple #[.agg #[.int .u64 s1, .int .i64 s2, .int .u64 s3, .int .i64 s4], .bool (decide (s5 = 0))]) ∧ Off b5 w w' ∧ BlkC w' b5 #[.int .i64 (if E = 0 then s5 else E)] 39
  rw [hEN, hB]
  have HEN := Lib.hid hEN
  clear hrd hrd2 h3 h4 h5 hEN hB
  go_enter Tryz.func30, Tryz.ntmps30
  go_upto_region 1 with fail
  generalize (w.alloc (.cells #[.int .i64 c, .int .i64 r] tCl)).alloc (.cells #[.int .u64 0, .int .i64 0, .int .u64 0, .int .i64 0] tRf) = w0 at hh hAB H3 H4 H5 ⊢
  have hA0 : Hid (BlkC w0 w.heap.size #[.int .i64 c, .int .i64 r] tCl) := hh.out.1
  have hA1 : Hid (BlkC w0 (w.heap.size + 1) #[.int .u64 0, .int .i64 0, .int .u64 0, .int .i64 0] tRf) := hh.out.2
  have c0 := hA0.out.cell 0 _ rfl
  have c1 := hA0.out.cell 1 _ rfl
  have g3 := H3.out.cell 0 _ rfl
  have g4 := H4.out.cell 0 _ rfl
  go_wp2_with fail
  refine (HCE.out _ hAB.out).mono ?_
  rintro e w1 ⟨rfl, hb⟩
  have hB1 : Hid (Below w.heap.size w w1) := bel_call hb hAB.out hAB.out.size
  have hA2 := Lib.hid (hA1.out.below hb)
  have H52 := Lib.hid (H5.out.below hb)
  clear hb hAB hA0 hA1 c0 c1 g3 g4 H3 H4 H5 hh HCE
  go_upto_region 2 with fail
  have hX : Hid (BlkC (w1.alloc (.cells #[.int .u64 s1, .int .i64 s2, .int .u64 s3, .int .i64 s4] tRf)) w1.heap.size #[.int .u64 s1, .int .i64 s2, .int .u64 s3, .int .i64 s4] tRf) := heap_alloc_new w1 _
  have hA3 := Lib.hid (hA2.out.alloc (.cells #[.int .u64 s1, .int .i64 s2, .int .u64 s3, .int .i64 s4] tRf))
  have H53 := Lib.hid (H52.out.alloc (.cells #[.int .u64 s1, .int .i64 s2, .int .u64 s3, .int .i64 s4] tRf))
  have hB3 : Hid (Below w.heap.size w (w1.alloc (.cells #[.int .u64 s1, .int .i64 s2, .int .u64 s3, .int .i64 s4] tRf))) := hB1.out.alloc hB1.out.size _
  have hl1 := lt_some hA2.out
  generalize w1.alloc (.cells #[.int .u64 s1, .int .i64 s2, .int .u64 s3, .int .i64 s4] tRf) = w3 at hX hA3 H53 hB3 ⊢
  generalize w1.heap.size = gX at hX hl1 ⊢
  clear hA2 H52 hB1
  have e5 := H53.out.cell 0 _ rfl
  have f5 := H53.out.fz 0
  by_cases hE : E = 0
  · subst hE
    go_upto_region 4 with fail
    have HO4 : Hid (Off b5 w (w3.setCell ⟨b5, 0, none⟩ (.int .i64 s5))) := (Off.of_below hB3.out).set 0 _
    have HE4 : Hid (BlkC (w3.setCell ⟨b5, 0, none⟩ (.int .i64 s5)) b5 #[.int .i64 s5] 39) := block_setCell H53.out _
    have hX4 : Hid (BlkC (w3.setCell ⟨b5, 0, none⟩ (.int .i64 s5)) gX #[.int .u64 s1, .int .i64 s2, .int .u64 s3, .int .i64 s4] tRf) := (heap_setCell_other _ _ _ _ (by show gX ≠ b5; omega)).trans hX.out
    have hA4 : Hid (BlkC (w3.setCell ⟨b5, 0, none⟩ (.int .i64 s5)) (w.heap.size + 1) #[.int .u64 0, .int .i64 0, .int .u64 0, .int .i64 0] tRf) := (heap_setCell_other _ _ _ _ (by show w.heap.size + 1 ≠ b5; omega)).trans hA3.out
    clear e5 f5 hX hA3 H53 hB3
    generalize w3.setCell ⟨b5, 0, none⟩ (.int .i64 s5) = w4 at HO4 HE4 hX4 hA4 ⊢
    have x0 := hX4.out.cell 0 _ rfl
    have z0 := hA4.out.cell 0 _ rfl
    have f0 := hA4.out.fz 0
    have x1 := hX4.out.cell 1 _ rfl
    have z1 := hA4.out.cell 1 _ rfl
    have f1 := hA4.out.fz 1
    have x2 := hX4.out.cell 2 _ rfl
    have z2 := hA4.out.cell 2 _ rfl
    have f2 := hA4.out.fz 2
    have x3 := hX4.out.cell 3 _ rfl
    have z3 := hA4.out.cell 3 _ rfl
    have f3 := hA4.out.fz 3
    have hz2 : ¬ w.heap.size + 1 = b5 := by omega
    have hen : EN = s5 := by rw [← HEN.out, if_pos rfl]
    have HE9 := Lib.hid hen
    clear hen
    have HSS : Hid (Off b5 w (((((w4.setCell ⟨w.heap.size + 1, 0, none⟩ (.int .u64 s1)).setCell ⟨w.heap.size + 1, 1, none⟩ (.int .i64 s2)).setCell ⟨w.heap.size + 1, 2, none⟩ (.int .u64 s3)).setCell ⟨w.heap.size + 1, 3, none⟩ (.int .i64 s4))) ∧ BlkC ((((w4.setCell ⟨w.heap.size + 1, 0, none⟩ (.int .u64 s1)).setCell ⟨w.heap.size + 1, 1, none⟩ (.int .i64 s2)).setCell ⟨w.heap.size + 1, 2, none⟩ (.int .u64 s3)).setCell ⟨w.heap.size + 1, 3, none⟩ (.int .i64 s4)) b5 #[.int .i64 s5] 39) := ⟨(((HO4.out.set_new (by omega) _ _).set_new (by omega) _ _).set_new (by omega) _ _).set_new (by omega) _ _, (heap_setCell_other _ _ _ _ (by show b5 ≠ w.heap.size + 1; omega)).trans ((heap_setCell_other _ _ _ _ (by show b5 ≠ w.heap.size + 1; omega)).trans ((heap_setCell_other _ _ _ _ (by show b5 ≠ w.heap.size + 1; omega)).trans ((heap_setCell_other _ _ _ _ (by show b5 ≠ w.heap.size + 1; omega)).trans HE4.out)))⟩
    clear hX4 hA4 HO4 HE4
    go_wp2_with fail
    refine bodyPost_ret (v := .tuple #[.agg #[.int .u64 s1, .int .i64 s2, .int .u64 s3, .int .i64 s4], .bool B]) (by simp only [results, Tryz.results30]; go_simp) rfl ⟨rfl, by rw [HE9.out]; exact HSS.out⟩
  · have hE2 : (E == 0) = false := by simpa using hE
    have hen : EN = E := by rw [← HEN.out, if_neg hE]
    have HE9 := Lib.hid hen
    clear hen hE
    have x0 := hX.out.cell 0 _ rfl
    have z0 := hA3.out.cell 0 _ rfl
    have f0 := hA3.out.fz 0
    have x1 := hX.out.cell 1 _ rfl
    have z1 := hA3.out.cell 1 _ rfl
    have f1 := hA3.out.fz 1
    have x2 := hX.out.cell 2 _ rfl
    have z2 := hA3.out.cell 2 _ rfl
    have f2 := hA3.out.fz 2
    have x3 := hX.out.cell 3 _ rfl
    have z3 := hA3.out.cell 3 _ rfl
    have f3 := hA3.out.fz 3
    have HSS : Hid (Off b5 w (((((w3.setCell ⟨w.heap.size + 1, 0, none⟩ (.int .u64 s1)).setCell ⟨w.heap.size + 1, 1, none⟩ (.int .i64 s2)).setCell ⟨w.heap.size + 1, 2, none⟩ (.int .u64 s3)).setCell ⟨w.heap.size + 1, 3, none⟩ (.int .i64 s4))) ∧ BlkC ((((w3.setCell ⟨w.heap.size + 1, 0, none⟩ (.int .u64 s1)).setCell ⟨w.heap.size + 1, 1, none⟩ (.int .i64 s2)).setCell ⟨w.heap.size + 1, 2, none⟩ (.int .u64 s3)).setCell ⟨w.heap.size + 1, 3, none⟩ (.int .i64 s4)) b5 #[.int .i64 E] 39) := ⟨((((Off.of_below hB3.out).set_new (by omega) _ _).set_new (by omega) _ _).set_new (by omega) _ _).set_new (by omega) _ _, (heap_setCell_other _ _ _ _ (by show b5 ≠ w.heap.size + 1; omega)).trans ((heap_setCell_other _ _ _ _ (by show b5 ≠ w.heap.size + 1; omega)).trans ((heap_setCell_other _ _ _ _ (by show b5 ≠ w.heap.size + 1; omega)).trans ((heap_setCell_other _ _ _ _ (by show b5 ≠ w.heap.size + 1; omega)).trans H53.out)))⟩
    clear hX hA3 H53 hB3
    go_wp2_with fail
    refine bodyPost_ret (v := .tuple #[.agg #[.int .u64 s1, .int .i64 s2, .int .u64 s3, .int .i64 s4], .bool B]) (by simp only [results, Tryz.results30]; go_simp) rfl ⟨rfl, by rw [HE9.out]; exact HSS.out⟩
theorem five_blk (w : World) (a b c d e : Obj) : (((((w.alloc a).alloc b).alloc c).alloc d).alloc e).heap[w.heap.size]? = some a ∧ (((((w.alloc a).alloc b).alloc c).alloc d).alloc e).heap[w.heap.size + 1]? = some b ∧ (((((w.alloc a).alloc b).alloc c).alloc d).alloc e).heap[w.heap.size + 2]? = some c ∧ (((((w.alloc a).alloc b).alloc c).alloc d).alloc e).heap[w.heap.size + 3]? = some d ∧ (((((w.alloc a).alloc b).alloc c).alloc d).alloc e).heap[w.heap.size + 4]? = some e := by
  refine ⟨?_, ?_, ?_, ?_, ?_⟩ <;> simp only [World.alloc, Array.getElem?_push, Array.size_push] <;> (repeat (first | rfl | (rw [if_neg (by omega)]) | (rw [if_pos (by omega)])))
theorem size5 (w : World) (a b c d e : Obj) : (((((w.alloc a).alloc b).alloc c).alloc d).alloc e).heap.size = w.heap.size + 5 := by
  simp only [World.size_alloc]
set_option maxRecDepth 100000 in
set_option maxHeartbeats 16000000 in
theorem bfm_any (rows cols : List Idp) (d : Nat) (m : Nd) (q : Option Addr) (len cq : Nat) (p : Option Addr) (n cap : Nat) (p2 : Option Addr) (n2 cap2 : Nat) (w : World) (hrd : RdG idE 2 w p n rows) (hn : n ≤ 1000000) (hrd2 : RdG idE 2 w p2 n2 cols) (hn2 : n2 ≤ 1000000) (hm : Cel.RdT w w.heap.size d m q len) (hfm : Fm m) :
    Calls Tryz.prog 8 #[axV p n cap, axV p2 n2 cap2, .agg (Cel.ndA m q len cq)] w fun e w' => (∃ p' len' cap', e = .returned (.tuple #[.agg (bnA (rfR rows cols m) p' len' cap'), .int .i64 (bdE rows cols m)]) ∧ RdQ rfE 12 w' (fun b => w.heap.size ≤ b ∧ b < w'.heap.size) d (rfR rows cols m) p' len') ∧ Below w.heap.size w w' := by
  have hh := Lib.hid (five_blk w (.cells #[axV p n cap] 84) (.cells #[axV p2 n2 cap2] 84) (.cells (Cel.ndA m q len cq) Cel.tPn) (.cells (bnA bnZ none 0 0) tNr) (.cells #[.int .i64 0] 39))
  have hAB : Hid (Below w.heap.size w (((((w.alloc (.cells #[axV p n cap] 84)).alloc (.cells #[axV p2 n2 cap2] 84)).alloc (.cells (Cel.ndA m q len cq) Cel.tPn)).alloc (.cells (bnA bnZ none 0 0) tNr)).alloc (.cells #[.int .i64 0] 39))) := by unfold Hid; (repeat' (first | (with_reducible exact Below.refl _ _) | (with_reducible assumption) | (with_reducible refine Below.alloc ?_ ?_ _) | (with_reducible refine bel_drewN ?_ _) | (with_reducible refine Below.drew ?_) | (with_reducible refine Below.setCell ?_ ?_ _) | (with_reducible refine bel_call ‹_› ?_ ?_) | go_size))
  have hsz := size5 w (.cells #[axV p n cap] 84) (.cells #[axV p2 n2 cap2] 84) (.cells (Cel.ndA m q len cq) Cel.tPn) (.cells (bnA bnZ none 0 0) tNr) (.cells #[.int .i64 0] 39)
  have HR1 := Lib.hid (fun W (hW : Below w.heap.size w W) => hrd.below hW)
  have HR2 := Lib.hid (fun W (hW : Below w.heap.size w W) => hrd2.below hW)
  have HM := Lib.hid (hm.below hAB.out)
  rw [show Value.agg (Cel.ndA m q len cq) = .agg #[.int .i64 m.kind, .int .i64 m.num, .string ⟨m.text.toArray⟩, .int .i64 (cC m.frm), .int .i64 (cR m.frm), .int .i64 (cC m.tor), .int .i64 (cR m.tor), .slice q len cq] from rfl]
  have hBR : ∀ E, E = bdE rows cols m → (E = 0 → rfR rows cols m = bdM rows cols m) ∧ (E ≠ 0 → rfR rows cols m = bnZ) := fun E h => by
    unfold rfR
    rw [← h]
    exact ⟨fun h0 => if_pos h0, fun h0 => if_neg h0⟩
  obtain ⟨E, hE⟩ : ∃ E, bdE rows cols m = E := ⟨_, rfl⟩
  have hrr := hBR E hE.symm
  obtain ⟨R, hR⟩ : ∃ R, rfR rows cols m = R := ⟨_, rfl⟩
  obtain ⟨M, hM⟩ : ∃ M, bdM rows cols m = M := ⟨_, rfl⟩
  rw [hE, hR]
  rw [hR, hM] at hrr
  have HRR := Lib.hid hrr
  have HEE := Lib.hid hE
  have HMM := Lib.hid hM
  clear hrd hrd2 hm hBR hrr hE hR hM
  go_enter Tryz.func8, Tryz.ntmps8
  go_upto_region 2 with fail
  have e0 : ((((w.alloc (.cells #[axV p n cap] 84)).alloc (.cells #[axV p2 n2 cap2] 84)).alloc (.cells #[.int .i64 m.kind, .int .i64 m.num, .string ⟨m.text.toArray⟩, .int .i64 (cC m.frm), .int .i64 (cR m.frm), .int .i64 (cC m.tor), .int .i64 (cR m.tor), .slice q len cq] Cel.tPn)).alloc (.cells #[.int .i64 0, .int .i64 0, .string ⟨#[]⟩, .int .u64 0, .int .i64 0, .int .u64 0, .int .i64 0, .int .u64 0, .int .i64 0, .int .u64 0, .int .i64 0, .slice none 0 0] tNr)).alloc (.cells #[.int .i64 0] 39) = ((((w.alloc (.cells #[axV p n cap] 84)).alloc (.cells #[axV p2 n2 cap2] 84)).alloc (.cells (Cel.ndA m q len cq) Cel.tPn)).alloc (.cells (bnA bnZ none 0 0) tNr)).alloc (.cells #[.int .i64 0] 39) := rfl
  rw [e0]
  clear e0
  generalize ((((w.alloc (.cells #[axV p n cap] 84)).alloc (.cells #[axV p2 n2 cap2] 84)).alloc (.cells (Cel.ndA m q len cq) Cel.tPn)).alloc (.cells (bnA bnZ none 0 0) tNr)).alloc (.cells #[.int .i64 0] 39) = w0 at hh hAB hsz HM ⊢
  have hA0 : Hid (BlkC w0 w.heap.size #[axV p n cap] 84) := hh.out.1
  have hA1 : Hid (BlkC w0 (w.heap.size + 1) #[axV p2 n2 cap2] 84) := hh.out.2.1
  have hA2 : Hid (BlkC w0 (w.heap.size + 2) (Cel.ndA m q len cq) Cel.tPn) := hh.out.2.2.1
  have hA3 : Hid (BlkC w0 (w.heap.size + 3) (bnA bnZ none 0 0) tNr) := hh.out.2.2.2.1
  have hA4 : Hid (BlkC w0 (w.heap.size + 4) #[.int .i64 0] 39) := hh.out.2.2.2.2
  have HK : mbK rows cols (w.heap.size + 4) w0 w.heap.size (w.heap.size + 1) := fun k E W hW hE => fc1_any rows cols k E p n cap p2 n2 cap2 w.heap.size (w.heap.size + 1) (w.heap.size + 4) W (HR1.out W (hAB.out.trans (hW.below (by omega) (by omega)))) hn (HR2.out W (hAB.out.trans (hW.below (by omega) (by omega)))) hn2 (off_blkC hW (by omega) hA0.out) (off_blkC hW (by omega) hA1.out) hE
  have HMB := Lib.hid (mb_any rows cols w.heap.size (w.heap.size + 4) w0 w.heap.size (w.heap.size + 1) (by omega) (by omega) HK d m q len cq 0 w0 (Off.refl _ _) hA4.out HM.out hfm)
  rw [show Value.agg (Cel.ndA m q len cq) = .agg #[.int .i64 m.kind, .int .i64 m.num, .string ⟨m.text.toArray⟩, .int .i64 (cC m.frm), .int .i64 (cR m.frm), .int .i64 (cC m.tor), .int .i64 (cR m.tor), .slice q len cq] from rfl, if_pos rfl] at HMB
  rw [HEE.out, HMM.out] at HMB
  have c0 : w0.cell? ⟨w.heap.size + 2, 0, none⟩ = some (.int .i64 m.kind) := hA2.out.cell 0 (.int .i64 m.kind) rfl
  have c1 : w0.cell? ⟨w.heap.size + 2, 1, none⟩ = some (.int .i64 m.num) := hA2.out.cell 1 (.int .i64 m.num) rfl
  have c2 : w0.cell? ⟨w.heap.size + 2, 2, none⟩ = some (.string ⟨m.text.toArray⟩) := hA2.out.cell 2 (.string ⟨m.text.toArray⟩) rfl
  have c3 : w0.cell? ⟨w.heap.size + 2, 3, none⟩ = some (.int .i64 (cC m.frm)) := hA2.out.cell 3 (.int .i64 (cC m.frm)) rfl
  have c4 : w0.cell? ⟨w.heap.size + 2, 4, none⟩ = some (.int .i64 (cR m.frm)) := hA2.out.cell 4 (.int .i64 (cR m.frm)) rfl
  have c5 : w0.cell? ⟨w.heap.size + 2, 5, none⟩ = some (.int .i64 (cC m.tor)) := hA2.out.cell 5 (.int .i64 (cC m.tor)) rfl
  have c6 : w0.cell? ⟨w.heap.size + 2, 6, none⟩ = some (.int .i64 (cR m.tor)) := hA2.out.cell 6 (.int .i64 (cR m.tor)) rfl
  have c7 : w0.cell? ⟨w.heap.size + 2, 7, none⟩ = some (.slice q len cq) := hA2.out.cell 7 (.slice q len cq) rfl
  clear hh HK HEE HMM HR1 HR2 HM hA0 hA1 hA4
  go_wp2_with fail
  refine HMB.out.mono ?_
  rintro e w1 ⟨⟨p', l', c', rfl, hq⟩, hoff, hst⟩
  have hB1 : Hid (Below w.heap.size w w1) := hAB.out.trans (hoff.below (by omega) (by omega))
  have hA5 : Hid (BlkC w1 (w.heap.size + 3) (bnA bnZ none 0 0) tNr) := off_blkC hoff (by omega) hA3.out
  have HQ : Hid (RdQ rfE 12 w1 (fun b => w.heap.size + 5 ≤ b ∧ b < w1.heap.size) d M p' l') := hq.weak (fun b h => by omega)
  have HST := Lib.hid hst
  clear hoff hst hq HMB hA2 hA3 hAB hsz c0 c1 c2 c3 c4 c5 c6 c7
  rw [show Value.agg (bnA M p' l' c') = .agg #[.int .i64 M.kind, .int .i64 M.num, .string ⟨M.text.toArray⟩, .int .u64 M.frm.1.1, .int .i64 M.frm.1.2, .int .u64 M.frm.2.1, .int .i64 M.frm.2.2, .int .u64 M.tor.1.1, .int .i64 M.tor.1.2, .int .u64 M.tor.2.1, .int .i64 M.tor.2.2, .slice p' l' c'] from rfl]
  go_upto_region 3 with fail
  have e1 : w1.alloc (.cells #[.int .i64 M.kind, .int .i64 M.num, .string ⟨M.text.toArray⟩, .int .u64 M.frm.1.1, .int .i64 M.frm.1.2, .int .u64 M.frm.2.1, .int .i64 M.frm.2.2, .int .u64 M.tor.1.1, .int .i64 M.tor.1.2, .int .u64 M.tor.2.1, .int .i64 M.tor.2.2, .slice p' l' c'] tNr) = w1.alloc (.cells (bnA M p' l' c') tNr) := rfl
  rw [e1]
  clear e1
  have hbn : Below w1.heap.size w1 (w1.alloc (.cells (bnA M p' l' c') tNr)) := (Below.refl _ _).alloc (Nat.le_refl _) _
  have hX : Hid (BlkC (w1.alloc (.cells (bnA M p' l' c') tNr)) w1.heap.size (bnA M p' l' c') tNr) := heap_alloc_new w1 _
  have hA6 := Lib.hid (hA5.out.below hbn)
  have HS6 := Lib.hid (HST.out.below hbn)
  have HQ6 := Lib.hid (HQ.out.below hbn)
  have hB6 : Hid (Below w.heap.size w (w1.alloc (.cells (bnA M p' l' c') tNr))) := bel_call hbn hB1.out hB1.out.size
  have hlx := lt_some HST.out
  have hs6 := hbn.size
  clear hbn hA5 HST HQ hB1
  generalize w1.alloc (.cells (bnA M p' l' c') tNr) = w2 at hX hA6 HS6 HQ6 hB6 hs6 ⊢
  generalize w1.heap.size = gX at hX hlx HQ6 hs6 ⊢
  have e4 : w2.cell? ⟨w.heap.size + 4, 0, none⟩ = some (.int .i64 E) := HS6.out.cell 0 (.int .i64 E) rfl
  by_cases h0 : E = 0
  · subst h0
    have HRE := Lib.hid (HRR.out.1 rfl)
    clear HRR
    go_upto_region 5 with fail
    refine wp_region_lit ?_
    refine wpList_load_mid (by rfl) _ _ (by rfl) gX 0 (by rfl) [.int .i64 M.kind, .int .i64 M.num, .string ⟨M.text.toArray⟩, .int .u64 M.frm.1.1, .int .i64 M.frm.1.2, .int .u64 M.frm.2.1, .int .i64 M.frm.2.2, .int .u64 M.tor.1.1, .int .i64 M.tor.1.2, .int .u64 M.tor.2.1, .int .i64 M.tor.2.2, .slice p' l' c'] _ (block_range hX.out [.int .i64 M.kind, .int .i64 M.num, .string ⟨M.text.toArray⟩, .int .u64 M.frm.1.1, .int .i64 M.frm.1.2, .int .u64 M.frm.2.1, .int .i64 M.frm.2.2, .int .u64 M.tor.1.1, .int .i64 M.tor.1.2, .int .u64 M.tor.2.1, .int .i64 M.tor.2.2, .slice p' l' c'] rfl) Tryz.underlying38 rfl (by kernel_rfl) ?_
    go_simp
    refine wpList_store_mid (by rfl) _ _ _ (by rfl) (w.heap.size + 3) 0 #[.int .i64 M.kind, .int .i64 M.num, .string ⟨M.text.toArray⟩, .int .u64 M.frm.1.1, .int .i64 M.frm.1.2, .int .u64 M.frm.2.1, .int .i64 M.frm.2.2, .int .u64 M.tor.1.1, .int .i64 M.tor.1.2, .int .u64 M.tor.2.1, .int .i64 M.tor.2.2, .slice p' l' c'] (by rfl) (by rfl) (block_there hA6.out 12 (Nat.le_refl _)) (by kernel_rfl) (by simp [Value.oneCell']) ?_
    have HS8 : Hid (BlkC (w2.setCells (w.heap.size + 3) 0 (#[.int .i64 M.kind, .int .i64 M.num, .string ⟨M.text.toArray⟩, .int .u64 M.frm.1.1, .int .i64 M.frm.1.2, .int .u64 M.frm.2.1, .int .i64 M.frm.2.2, .int .u64 M.tor.1.1, .int .i64 M.tor.1.2, .int .u64 M.tor.2.1, .int .i64 M.tor.2.2, .slice p' l' c']).toList) (w.heap.size + 3) (bnA M p' l' c') tNr) := store_block hA6.out _ rfl
    have HB8 : Hid (Below w.heap.size w (w2.setCells (w.heap.size + 3) 0 (#[.int .i64 M.kind, .int .i64 M.num, .string ⟨M.text.toArray⟩, .int .u64 M.frm.1.1, .int .i64 M.frm.1.2, .int .u64 M.frm.2.1, .int .i64 M.frm.2.2, .int .u64 M.tor.1.1, .int .i64 M.tor.1.2, .int .u64 M.tor.2.1, .int .i64 M.tor.2.2, .slice p' l' c']).toList)) := store_below (by omega) _ _ _ hB6.out
    have HO8 : Hid (∀ k, k ≠ w.heap.size + 3 → (w2.setCells (w.heap.size + 3) 0 (#[.int .i64 M.kind, .int .i64 M.num, .string ⟨M.text.toArray⟩, .int .u64 M.frm.1.1, .int .i64 M.frm.1.2, .int .u64 M.frm.2.1, .int .i64 M.frm.2.2, .int .u64 M.tor.1.1, .int .i64 M.tor.1.2, .int .u64 M.tor.2.1, .int .i64 M.tor.2.2, .slice p' l' c']).toList).heap[k]? = w2.heap[k]?) := fun k hk => store_other hk _ _ _
    have hz8 := (store_below (Nat.zero_le (w.heap.size + 3)) (#[.int .i64 M.kind, .int .i64 M.num, .string ⟨M.text.toArray⟩, .int .u64 M.frm.1.1, .int .i64 M.frm.1.2, .int .u64 M.frm.2.1, .int .i64 M.frm.2.2, .int .u64 M.tor.1.1, .int .i64 M.tor.1.2, .int .u64 M.tor.2.1, .int .i64 M.tor.2.2, .slice p' l' c']).toList 0 w2 (Below.refl 0 w2)).size
    generalize w2.setCells (w.heap.size + 3) 0 (#[.int .i64 M.kind, .int .i64 M.num, .string ⟨M.text.toArray⟩, .int .u64 M.frm.1.1, .int .i64 M.frm.1.2, .int .u64 M.frm.2.1, .int .i64 M.frm.2.2, .int .u64 M.tor.1.1, .int .i64 M.tor.1.2, .int .u64 M.tor.2.1, .int .i64 M.tor.2.2, .slice p' l' c']).toList = w9 at HS8 HB8 HO8 hz8 ⊢
    go_simp
    go_wp2_with fail
    try simp only [Exit.inBlock, Exit.then]
    refine bodyPost_ret (results_row_tmp rfl _ _ (w.heap.size + 3) tNr (bnA M p' l' c') (0, 0) _ rfl HS8.out Tryz.underlying38 rfl (by kernel_rfl) _ rfl) rfl ⟨⟨p', l', c', by rw [HRE.out]; rfl, ?_⟩, HB8.out⟩
    rw [HRE.out]
    exact RdQ.carry (fun b hb _ => ⟨⟨by omega, by omega⟩, HO8.out b (by omega)⟩) HQ6.out
  · have HRE := Lib.hid (HRR.out.2 h0)
    have y1 : (E == 0) = false := by simpa using h0
    have y2 : (E != 0) = true := by simpa using h0
    clear HRR
    go_upto_region 4 with fail
    have E4 := KeptO.cell (b := w.heap.size + 3) (by omega) e4
    refine wp_region_sched (fun wx => ∃ x : KeptO (w.heap.size + 3) w2, wx = x.v) [([0, 1], 2)] [3] (by kernel_rfl) (by kernel_rfl) (by kernel_rfl) rfl (keptO_drew _ _) ?_
    (unfold wpSeg; simp only [pick_nil, pick_cons, nthO_zero, nthO_succ, List.append])
    clear e4
    repeat (go_big_quiet_step (fail))
    refine wpQuiet_nil ?_
    have hBd : Below w2.heap.size w2 w2.drew := Below.drew (Below.refl _ _)
    have hHz := hA6.out.below hBd
    refine wpList_store_mid (by rfl) _ _ _ (by rfl) (w.heap.size + 3) 0 #[.int .i64 0, .int .i64 0, .string ⟨#[]⟩, .int .u64 0, .int .i64 0, .int .u64 0, .int .i64 0, .int .u64 0, .int .i64 0, .int .u64 0, .int .i64 0, .slice none 0 0] (by rfl) (by rfl) (block_there hHz 12 (Nat.le_refl _)) (by kernel_rfl) (by simp [Value.oneCell']) ?_
    have HS8 : Hid (BlkC (w2.drew.setCells (w.heap.size + 3) 0 (#[.int .i64 0, .int .i64 0, .string ⟨#[]⟩, .int .u64 0, .int .i64 0, .int .u64 0, .int .i64 0, .int .u64 0, .int .i64 0, .int .u64 0, .int .i64 0, .slice none 0 0]).toList) (w.heap.size + 3) (bnA bnZ none 0 0) tNr) := store_block hHz _ rfl
    have HB8 : Hid (Below w.heap.size w (w2.drew.setCells (w.heap.size + 3) 0 (#[.int .i64 0, .int .i64 0, .string ⟨#[]⟩, .int .u64 0, .int .i64 0, .int .u64 0, .int .i64 0, .int .u64 0, .int .i64 0, .int .u64 0, .int .i64 0, .slice none 0 0]).toList)) := store_below (by omega) _ _ _ (bel_call hBd hB6.out hB6.out.size)
    have HO8 : Hid (Off (w.heap.size + 3) w2 (w2.drew.setCells (w.heap.size + 3) 0 (#[.int .i64 0, .int .i64 0, .string ⟨#[]⟩, .int .u64 0, .int .i64 0, .int .u64 0, .int .i64 0, .int .u64 0, .int .i64 0, .int .u64 0, .int .i64 0, .slice none 0 0]).toList)) := off_stores (Off.of_below hBd) 0 _
    generalize w2.drew.setCells (w.heap.size + 3) 0 (#[.int .i64 0, .int .i64 0, .string ⟨#[]⟩, .int .u64 0, .int .i64 0, .int .u64 0, .int .i64 0, .int .u64 0, .int .i64 0, .int .u64 0, .int .i64 0, .slice none 0 0]).toList = w9 at HS8 HB8 HO8 ⊢
    go_simp
    go_wp2_with fail
    refine ⟨rfl, ⟨⟨w9, HO8.out⟩, rfl⟩, ?_⟩
    (unfold wpSeg; simp only [pick_nil, pick_cons, nthO_zero, nthO_succ, List.append])
    repeat (go_big_quiet_step (fail))
    refine wpQuiet_nil ?_
    go_wp2_with fail
    try simp only [Exit.inBlock, Exit.then]
    refine bodyPost_ret (results_row_tmp rfl _ _ (w.heap.size + 3) tNr (bnA bnZ none 0 0) (0, 0) _ rfl HS8.out Tryz.underlying38 rfl (by kernel_rfl) _ rfl) rfl ⟨⟨none, 0, 0, by rw [HRE.out]; rfl, by rw [HRE.out]; exact bn_leaf _ _ rfl _ _⟩, HB8.out⟩
end Go.Proofs.YtjklbbmgjjdalaaGreatDoor.Bd
namespace Go.Proofs.YtjklbbmgjjdalaaGreatDoor.Bd
open Go.RowKit Go.Joins
theorem size4 (w : World) (a b c d : Obj) : ((((w.alloc a).alloc b).alloc c).alloc d).heap.size = w.heap.size + 4 := by
  simp only [World.size_alloc]
set_option maxRecDepth 100000 in
set_option maxHeartbeats 16000000 in
theorem bback_any (rows cols : List Idp) (hr60 : rows.length ≤ 60) (hc60 : cols.length ≤ 60) (d : Nat) (m : Bn) (q : Option Addr) (len cq : Nat) (p : Option Addr) (n cap : Nat) (p2 : Option Addr) (n2 cap2 : Nat) (w : World) (hrd : RdG idE 2 w p n rows) (hn : n ≤ 1000000) (hrd2 : RdG idE 2 w p2 n2 cols) (hn2 : n2 ≤ 1000000) (hm : RdQ rfE 12 w (· < w.heap.size) d m q len) (hsm : Sm m) :
    Calls Tryz.prog 15 #[axV p n cap, axV p2 n2 cap2, .agg (bnA m q len cq)] w fun e w' => (∃ p' len' cap', e = .returned (.agg (Cel.ndA (bkN rows cols m) p' len' cap')) ∧ Cel.RdP w' (fun b => w.heap.size ≤ b ∧ b < w'.heap.size) d (bkN rows cols m) p' len') ∧ Below w.heap.size w w' := by
  have hh := Lib.hid (four_blk w (.cells #[axV p n cap] 84) (.cells #[axV p2 n2 cap2] 84) (.cells (bnA m q len cq) tNr) (.cells (Cel.ndA nodeZ none 0 0) Cel.tPn))
  have hAB : Hid (Below w.heap.size w ((((w.alloc (.cells #[axV p n cap] 84)).alloc (.cells #[axV p2 n2 cap2] 84)).alloc (.cells (bnA m q len cq) tNr)).alloc (.cells (Cel.ndA nodeZ none 0 0) Cel.tPn))) := by unfold Hid; (repeat' (first | (with_reducible exact Below.refl _ _) | (with_reducible assumption) | (with_reducible refine Below.alloc ?_ ?_ _) | (with_reducible refine bel_drewN ?_ _) | (with_reducible refine Below.drew ?_) | (with_reducible refine Below.setCell ?_ ?_ _) | (with_reducible refine bel_call ‹_› ?_ ?_) | go_size))
  have hsz := size4 w (.cells #[axV p n cap] 84) (.cells #[axV p2 n2 cap2] 84) (.cells (bnA m q len cq) tNr) (.cells (Cel.ndA nodeZ none 0 0) Cel.tPn)
  have HR1 := Lib.hid (fun W (hW : Below w.heap.size w W) => hrd.below hW)
  have HR2 := Lib.hid (fun W (hW : Below w.heap.size w W) => hrd2.below hW)
  have HM := Lib.hid (hm.low hAB.out)
  rw [show Value.agg (bnA m q len cq) = .agg #[.int .i64 m.kind, .int .i64 m.num, .string ⟨m.text.toArray⟩, .int .u64 m.frm.1.1, .int .i64 m.frm.1.2, .int .u64 m.frm.2.1, .int .i64 m.frm.2.2, .int .u64 m.tor.1.1, .int .i64 m.tor.1.2, .int .u64 m.tor.2.1, .int .i64 m.tor.2.2, .slice q len cq] from rfl]
  obtain ⟨M, hM⟩ : ∃ M, bkN rows cols m = M := ⟨_, rfl⟩
  rw [hM]
  have HMM := Lib.hid hM
  clear hrd hrd2 hm hM
  go_enter Tryz.func15, Tryz.ntmps15
  go_upto_region 1 with fail
  have e0 : (((w.alloc (.cells #[axV p n cap] 84)).alloc (.cells #[axV p2 n2 cap2] 84)).alloc (.cells #[.int .i64 m.kind, .int .i64 m.num, .string ⟨m.text.toArray⟩, .int .u64 m.frm.1.1, .int .i64 m.frm.1.2, .int .u64 m.frm.2.1, .int .i64 m.frm.2.2, .int .u64 m.tor.1.1, .int .i64 m.tor.1.2, .int .u64 m.tor.2.1, .int .i64 m.tor.2.2, .slice q len cq] tNr)).alloc (.cells #[.int .i64 0, .int .i64 0, .string ⟨#[]⟩, .int .i64 0, .int .i64 0, .int .i64 0, .int .i64 0, .slice none 0 0] Cel.tPn) = (((w.alloc (.cells #[axV p n cap] 84)).alloc (.cells #[axV p2 n2 cap2] 84)).alloc (.cells (bnA m q len cq) tNr)).alloc (.cells (Cel.ndA nodeZ none 0 0) Cel.tPn) := rfl
  rw [e0]
  clear e0
  generalize (((w.alloc (.cells #[axV p n cap] 84)).alloc (.cells #[axV p2 n2 cap2] 84)).alloc (.cells (bnA m q len cq) tNr)).alloc (.cells (Cel.ndA nodeZ none 0 0) Cel.tPn) = w0 at hh hAB hsz HM ⊢
  have hA0 : Hid (BlkC w0 w.heap.size #[axV p n cap] 84) := hh.out.1
  have hA1 : Hid (BlkC w0 (w.heap.size + 1) #[axV p2 n2 cap2] 84) := hh.out.2.1
  have hA2 : Hid (BlkC w0 (w.heap.size + 2) (bnA m q len cq) tNr) := hh.out.2.2.1
  have hA3 : Hid (BlkC w0 (w.heap.size + 3) (Cel.ndA nodeZ none 0 0) Cel.tPn) := hh.out.2.2.2
  have HK : mkK rows cols (w.heap.size + 2) w0 w.heap.size (w.heap.size + 1) := fun k W hW => by
    have h := back1_any rows cols k.1 k.2 p n cap p2 n2 cap2 w.heap.size (w.heap.size + 1) 84 W (HR1.out W (hAB.out.trans (hW.below (by omega) (by omega)))) hn (HR2.out W (hAB.out.trans (hW.below (by omega) (by omega)))) hn2 (off_blkC hW (by omega) hA0.out) (off_blkC hW (by omega) hA1.out)
    obtain ⟨_, h1, h2, h3⟩ := bkC_ok hr60 hc60 k
    rw [h1, h2, show decide (bkC rows cols k ≠ 0) = (plcS rows cols k.1 k.2).2 from by cases hp : (plcS rows cols k.1 k.2).2 with | true => exact decide_eq_true (h3.1 hp) | false => exact decide_eq_false (fun h => by have := h3.2 h; rw [hp] at this; cases this)]
    exact h.mono fun e w' hh => ⟨hh.1, Off.of_below hh.2⟩
  have HMB := Lib.hid (mk_any rows cols w.heap.size (w.heap.size + 2) w0 w.heap.size (w.heap.size + 1) (by omega) (by omega) HK d m q len cq w0 (Off.refl _ _) HM.out hsm)
  rw [show Value.agg (bnA m q len cq) = .agg #[.int .i64 m.kind, .int .i64 m.num, .string ⟨m.text.toArray⟩, .int .u64 m.frm.1.1, .int .i64 m.frm.1.2, .int .u64 m.frm.2.1, .int .i64 m.frm.2.2, .int .u64 m.tor.1.1, .int .i64 m.tor.1.2, .int .u64 m.tor.2.1, .int .i64 m.tor.2.2, .slice q len cq] from rfl] at HMB
  rw [HMM.out] at HMB
  have c0 : w0.cell? ⟨w.heap.size + 2, 0, none⟩ = some (.int .i64 m.kind) := hA2.out.cell 0 (.int .i64 m.kind) rfl
  have c1 : w0.cell? ⟨w.heap.size + 2, 1, none⟩ = some (.int .i64 m.num) := hA2.out.cell 1 (.int .i64 m.num) rfl
  have c2 : w0.cell? ⟨w.heap.size + 2, 2, none⟩ = some (.string ⟨m.text.toArray⟩) := hA2.out.cell 2 (.string ⟨m.text.toArray⟩) rfl
  have c3 : w0.cell? ⟨w.heap.size + 2, 3, none⟩ = some (.int .u64 m.frm.1.1) := hA2.out.cell 3 (.int .u64 m.frm.1.1) rfl
  have c4 : w0.cell? ⟨w.heap.size + 2, 4, none⟩ = some (.int .i64 m.frm.1.2) := hA2.out.cell 4 (.int .i64 m.frm.1.2) rfl
  have c5 : w0.cell? ⟨w.heap.size + 2, 5, none⟩ = some (.int .u64 m.frm.2.1) := hA2.out.cell 5 (.int .u64 m.frm.2.1) rfl
  have c6 : w0.cell? ⟨w.heap.size + 2, 6, none⟩ = some (.int .i64 m.frm.2.2) := hA2.out.cell 6 (.int .i64 m.frm.2.2) rfl
  have c7 : w0.cell? ⟨w.heap.size + 2, 7, none⟩ = some (.int .u64 m.tor.1.1) := hA2.out.cell 7 (.int .u64 m.tor.1.1) rfl
  have c8 : w0.cell? ⟨w.heap.size + 2, 8, none⟩ = some (.int .i64 m.tor.1.2) := hA2.out.cell 8 (.int .i64 m.tor.1.2) rfl
  have c9 : w0.cell? ⟨w.heap.size + 2, 9, none⟩ = some (.int .u64 m.tor.2.1) := hA2.out.cell 9 (.int .u64 m.tor.2.1) rfl
  have c10 : w0.cell? ⟨w.heap.size + 2, 10, none⟩ = some (.int .i64 m.tor.2.2) := hA2.out.cell 10 (.int .i64 m.tor.2.2) rfl
  have c11 : w0.cell? ⟨w.heap.size + 2, 11, none⟩ = some (.slice q len cq) := hA2.out.cell 11 (.slice q len cq) rfl
  clear hh HK HR1 HR2 HM hA0 hA1
  go_wp2_with fail
  refine HMB.out.mono ?_
  rintro e w1 ⟨⟨p', l', c', rfl, hq⟩, hoff⟩
  have hB1 : Hid (Below w.heap.size w w1) := hAB.out.trans (hoff.below (by omega) (by omega))
  have hA5 : Hid (BlkC w1 (w.heap.size + 3) (Cel.ndA nodeZ none 0 0) Cel.tPn) := off_blkC hoff (by omega) hA3.out
  have HQ : Hid (Cel.RdP w1 (fun b => w.heap.size + 4 ≤ b ∧ b < w1.heap.size) d M p' l') := hq.carry (fun b h => ⟨⟨by omega, h.2⟩, rfl⟩)
  clear hoff hq HMB hA2 hA3 hAB hsz c0 c1 c2 c3 c4 c5 c6 c7 c8 c9 c10 c11
  rw [show Value.agg (Cel.ndA M p' l' c') = .agg #[.int .i64 M.kind, .int .i64 M.num, .string ⟨M.text.toArray⟩, .int .i64 (cC M.frm), .int .i64 (cR M.frm), .int .i64 (cC M.tor), .int .i64 (cR M.tor), .slice p' l' c'] from rfl]
  rename_i KK aK
  go_simp
  refine aK _ _ ?_
  clear aK KK
  refine wpList_store_mid (by rfl) _ _ _ (by rfl) (w.heap.size + 3) 0 #[.int .i64 M.kind, .int .i64 M.num, .string ⟨M.text.toArray⟩, .int .i64 (cC M.frm), .int .i64 (cR M.frm), .int .i64 (cC M.tor), .int .i64 (cR M.tor), .slice p' l' c'] (by rfl) (by rfl) (block_there hA5.out 8 (Nat.le_refl _)) (by kernel_rfl) (by simp [Value.oneCell']) ?_
  have HS8 : Hid (BlkC (w1.setCells (w.heap.size + 3) 0 (#[.int .i64 M.kind, .int .i64 M.num, .string ⟨M.text.toArray⟩, .int .i64 (cC M.frm), .int .i64 (cR M.frm), .int .i64 (cC M.tor), .int .i64 (cR M.tor), .slice p' l' c']).toList) (w.heap.size + 3) (Cel.ndA M p' l' c') Cel.tPn) := store_block hA5.out _ rfl
  have HB8 : Hid (Below w.heap.size w (w1.setCells (w.heap.size + 3) 0 (#[.int .i64 M.kind, .int .i64 M.num, .string ⟨M.text.toArray⟩, .int .i64 (cC M.frm), .int .i64 (cR M.frm), .int .i64 (cC M.tor), .int .i64 (cR M.tor), .slice p' l' c']).toList)) := store_below (by omega) _ _ _ hB1.out
  have HO8 : Hid (∀ k, k ≠ w.heap.size + 3 → (w1.setCells (w.heap.size + 3) 0 (#[.int .i64 M.kind, .int .i64 M.num, .string ⟨M.text.toArray⟩, .int .i64 (cC M.frm), .int .i64 (cR M.frm), .int .i64 (cC M.tor), .int .i64 (cR M.tor), .slice p' l' c']).toList).heap[k]? = w1.heap[k]?) := fun k hk => store_other hk _ _ _
  have hz8 := (store_below (Nat.zero_le (w.heap.size + 3)) (#[.int .i64 M.kind, .int .i64 M.num, .string ⟨M.text.toArray⟩, .int .i64 (cC M.frm), .int .i64 (cR M.frm), .int .i64 (cC M.tor), .int .i64 (cR M.tor), .slice p' l' c']).toList 0 w1 (Below.refl 0 w1)).size
  generalize w1.setCells (w.heap.size + 3) 0 (#[.int .i64 M.kind, .int .i64 M.num, .string ⟨M.text.toArray⟩, .int .i64 (cC M.frm), .int .i64 (cR M.frm), .int .i64 (cC M.tor), .int .i64 (cR M.tor), .slice p' l' c']).toList = w9 at HS8 HB8 HO8 hz8 ⊢
  go_simp
  go_wp2_with fail
  try simp only [Exit.inBlock, Exit.then]
  refine bodyPost_ret (results_cell_row rfl _ _ (w.heap.size + 3) Cel.tPn (Cel.ndA M p' l' c') (0, 0) _ rfl HS8.out Tryz.underlying48 rfl (by kernel_rfl)) rfl ⟨⟨p', l', c', rfl, HQ.out.carry (fun b hb => ⟨⟨by omega, by omega⟩, HO8.out b (by omega)⟩)⟩, HB8.out⟩
end Go.Proofs.YtjklbbmgjjdalaaGreatDoor.Bd
namespace Go.Proofs.YtjklbbmgjjdalaaGreatDoor
open Go.RowKit Go.Joins
def okMcls (base : Nat) (w : World) (v : Value) (k : Nat) : Prop := base ≤ k ∧ k < w.heap.size ∧ v.ownBlock ≠ some k
theorem kidsMcls {base G d' l' c2 : Nat} {wr w3 w5 : World} {o : Obj} {v v' u : Value} {acc : List Cel.Kid} {c : Nd} {p2 : Option Addr} (hG : G < base) (hbs : base ≤ wr.heap.size) (hb : Below wr.heap.size wr w3) (hg : (w3.alloc o).grownBy w5 v.ownBlock)
    (hat : v'.ownBlock = v.ownBlock ∨ v'.ownBlock = some (w3.alloc o).heap.size) (hlt : ∀ b, v.ownBlock = some b → b < wr.heap.size) (hk : ∀ x ∈ acc, Cel.RdP wr (okMcls base wr v) d' x.1 x.2.1 x.2.2.1)
    (hn : Cel.RdP w3 (fun b => wr.heap.size ≤ b ∧ b < w3.heap.size) d' c p2 l') :
    ∀ x ∈ acc ++ [(c, p2, l', c2)], Cel.RdP (w5.setCell ⟨G, 7, none⟩ u) (okMcls base (w5.setCell ⟨G, 7, none⟩ u) v') d' x.1 x.2.1 x.2.2.1 := by
  have hs := hb.size
  have hs2 := hg.size
  rw [World.size_alloc] at hs2 hat
  have hblk : ∀ b, G ≠ b → b < w3.heap.size → v.ownBlock ≠ some b → (w5.setCell ⟨G, 7, none⟩ u).heap[b]? = w3.heap[b]? := fun b h1 h2 h3 => by
    rw [heap_setCell_other _ _ _ _ (fun e => h1 e.symm), hg.block b (by rw [World.size_alloc]; omega) (fun e => h3 e.symm), heap_alloc_old _ _ h2]
  intro x hx
  rcases List.mem_append.1 hx with hx | hx
  · refine Cel.RdP.carry (fun b hb' => ?_) (hk x hx)
    obtain ⟨h1, h2, h3⟩ := hb'
    refine ⟨⟨h1, by rw [World.size_setCell]; omega, ?_⟩, ?_⟩
    · rcases hat with e | e
      · rw [e]; exact h3
      · rw [e]; intro e'; have := Option.some.inj e'; omega
    · rw [hblk b (by omega) (by omega) h3, hb.block b h2]
  · obtain rfl := List.mem_singleton.1 hx
    refine Cel.RdP.carry (fun b hb' => ?_) hn
    obtain ⟨h1, h2⟩ := hb'
    have h3 : v.ownBlock ≠ some b := fun e => by have := hlt b e; omega
    refine ⟨⟨by omega, by rw [World.size_setCell]; omega, ?_⟩, ?_⟩
    · rcases hat with e | e
      · rw [e]; exact h3
      · rw [e]; intro e'; have := Option.some.inj e'; omega
    · exact hblk b (by omega) h2 h3
theorem three_hc (w : World) (a b c : Obj) : (((w.alloc a).alloc b).alloc c).heap[w.heap.size]? = some a ∧ (((w.alloc a).alloc b).alloc c).heap[w.heap.size + 1]? = some b ∧ (((w.alloc a).alloc b).alloc c).heap[w.heap.size + 2]? = some c := by
  refine ⟨?_, ?_, ?_⟩ <;> simp only [World.alloc, Array.getElem?_push, Array.size_push] <;> (repeat (first | rfl | (rw [if_neg (by omega)]) | (rw [if_pos (by omega)])))
theorem three_bc {w : World} (a b c : Obj) : Below w.heap.size w (((w.alloc a).alloc b).alloc c) := by
  (repeat' (first | (with_reducible exact Below.refl _ _) | (with_reducible assumption) | (with_reducible refine Below.alloc ?_ ?_ _) | (with_reducible refine bel_drewN ?_ _) | (with_reducible refine Below.drew ?_) | (with_reducible refine Below.setCell ?_ ?_ _) | (with_reducible refine bel_call ‹_› ?_ ?_) | go_size))
def clsC (d : Nat) : Prop := ∀ (n : Nd) (p : Option Addr) (len cap : Nat) (w : World), RdT w w.heap.size d n p len → OkN n → FewN n → Calls Tryz.prog 9 #[.agg (ndA n p len cap)] w fun e w' => (∃ p' cap', e = .returned (.agg (Cel.ndA n p' len cap')) ∧ Cel.RdP w' (fun b => w.heap.size ≤ b ∧ b < w'.heap.size) d n p' len) ∧ Below w.heap.size w w'
set_option maxRecDepth 100000 in
set_option maxHeartbeats 16000000 in
theorem cls_s (d : Nat) (IH : ∀ d', d = d' + 1 → clsC d') : clsC d := by
  intro n p len cap w hrd hok hfew
  have HRD := Lib.hid hrd
  have HIH := Lib.hid IH
  have hlen := hfew.len
  rw [hrd.len] at hlen
  have HAL := Lib.hid hrd.len
  have HOK := Lib.hid (fun c hc => OkN.child (c := c) hok hc)
  have HFW := Lib.hid (fun c hc => FewN.child (c := c) hfew hc)
  have hofr := hok.frm
  have hoto := hok.tor
  obtain ⟨d1, d2, d3, d4⟩ := cC_in hofr.1 hofr.2
  obtain ⟨d5, d6, d7, d8⟩ := cC_in hoto.1 hoto.2
  obtain ⟨c1, hc1⟩ : ∃ c, cC n.frm = c := ⟨_, rfl⟩
  obtain ⟨r1, hr1⟩ : ∃ c, cR n.frm = c := ⟨_, rfl⟩
  obtain ⟨c2, hc2⟩ : ∃ c, cC n.tor = c := ⟨_, rfl⟩
  obtain ⟨r2, hr2⟩ : ∃ c, cR n.tor = c := ⟨_, rfl⟩
  have HE : Hid (Cel.ndA n none 0 0 = #[.int .i64 n.kind, .int .i64 n.num, .string ⟨n.text.toArray⟩, .int .i64 c1, .int .i64 r1, .int .i64 c2, .int .i64 r2, .slice none 0 0]) := by unfold Hid; rw [← hc1, ← hr1, ← hc2, ← hr2]; rfl
  rw [hc1] at d1 d2
  rw [hr1] at d3 d4
  rw [hc2] at d5 d6
  rw [hr2] at d7 d8
  have g1 : Int.tdiv n.frm 10000 = c1 := hc1
  have g2 : Int.tmod n.frm 10000 = r1 := hr1
  have g3 : Int.tdiv n.tor 10000 = c2 := hc2
  have g4 : Int.tmod n.tor 10000 = r2 := hr2
  have g5 : IntKind.i64.wrap c1 = c1 := IntWalk.i64_in _ (by omega)
  have g6 : IntKind.i64.wrap r1 = r1 := IntWalk.i64_in _ (by omega)
  have g7 : IntKind.i64.wrap c2 = c2 := IntWalk.i64_in _ (by omega)
  have g8 : IntKind.i64.wrap r2 = r2 := IntWalk.i64_in _ (by omega)
  rw [ndA_eq]
  clear hrd IH hok hfew hofr hoto d1 d2 d3 d4 d5 d6 d7 d8 hc1 hr1 hc2 hr2
  go_enter Tryz.func9, Tryz.ntmps9
  go_upto_region 2 with fail
  have e0 : ((w.alloc (.cells #[.int .i64 n.kind, .int .i64 n.num, .string ⟨n.text.toArray⟩, .int .i64 n.frm, .int .i64 n.tor, .slice p len cap] tRn)).alloc (.cells #[.int .i64 0, .int .i64 0, .string ⟨#[]⟩, .int .i64 0, .int .i64 0, .int .i64 0, .int .i64 0, .slice none 0 0] Cel.tPn)).alloc (.cells #[.int .i64 n.kind, .int .i64 n.num, .string ⟨n.text.toArray⟩, .int .i64 c1, .int .i64 r1, .int .i64 c2, .int .i64 r2, .slice none 0 0] Cel.tPn) = ((w.alloc (.cells (ndA n p len cap) tRn)).alloc (.cells (Cel.ndA nodeZ none 0 0) Cel.tPn)).alloc (.cells #[.int .i64 n.kind, .int .i64 n.num, .string ⟨n.text.toArray⟩, .int .i64 c1, .int .i64 r1, .int .i64 c2, .int .i64 r2, .slice none 0 0] Cel.tPn) := rfl
  rw [e0]
  clear e0
  have HN3 : Hid (NdB tRn (((w.alloc (.cells (ndA n p len cap) tRn)).alloc (.cells (Cel.ndA nodeZ none 0 0) Cel.tPn)).alloc (.cells #[.int .i64 n.kind, .int .i64 n.num, .string ⟨n.text.toArray⟩, .int .i64 c1, .int .i64 r1, .int .i64 c2, .int .i64 r2, .slice none 0 0] Cel.tPn)) w.heap.size n p len cap) := (three_hc w _ _ _).1
  have HZ3 : Hid (BlkC (((w.alloc (.cells (ndA n p len cap) tRn)).alloc (.cells (Cel.ndA nodeZ none 0 0) Cel.tPn)).alloc (.cells #[.int .i64 n.kind, .int .i64 n.num, .string ⟨n.text.toArray⟩, .int .i64 c1, .int .i64 r1, .int .i64 c2, .int .i64 r2, .slice none 0 0] Cel.tPn)) (w.heap.size + 1) (Cel.ndA nodeZ none 0 0) Cel.tPn) := (three_hc w _ _ _).2.1
  have HL3 : Hid (BlkC (((w.alloc (.cells (ndA n p len cap) tRn)).alloc (.cells (Cel.ndA nodeZ none 0 0) Cel.tPn)).alloc (.cells #[.int .i64 n.kind, .int .i64 n.num, .string ⟨n.text.toArray⟩, .int .i64 c1, .int .i64 r1, .int .i64 c2, .int .i64 r2, .slice none 0 0] Cel.tPn)) (w.heap.size + 2) (Cel.ndA n none 0 0) Cel.tPn) := by unfold Hid; rw [HE.out]; exact (three_hc w _ _ _).2.2
  have HB3 : Hid (Below w.heap.size w (((w.alloc (.cells (ndA n p len cap) tRn)).alloc (.cells (Cel.ndA nodeZ none 0 0) Cel.tPn)).alloc (.cells #[.int .i64 n.kind, .int .i64 n.num, .string ⟨n.text.toArray⟩, .int .i64 c1, .int .i64 r1, .int .i64 c2, .int .i64 r2, .slice none 0 0] Cel.tPn))) := three_bc _ _ _
  generalize ((w.alloc (.cells (ndA n p len cap) tRn)).alloc (.cells (Cel.ndA nodeZ none 0 0) Cel.tPn)).alloc (.cells #[.int .i64 n.kind, .int .i64 n.num, .string ⟨n.text.toArray⟩, .int .i64 c1, .int .i64 r1, .int .i64 c2, .int .i64 r2, .slice none 0 0] Cel.tPn) = w3 at HN3 HZ3 HL3 HB3 ⊢
  have hLb : w.heap.size + 2 < w3.heap.size := lt_some HL3.out
  have hLH : w.heap.size + 1 < w.heap.size + 2 := by omega
  have hH1 : w.heap.size + 1 < w3.heap.size := by omega
  obtain ⟨L, hLe⟩ : ∃ L, w.heap.size + 2 = L := ⟨_, rfl⟩
  rw [hLe] at HL3 hLb hLH ⊢
  clear hLe HE g1 g2 g3 g4 g5 g6 g7 g8
  obtain ⟨base, hbase⟩ : ∃ base, w3.heap.size = base := ⟨_, rfl⟩
  have HB0 := Lib.hid hbase
  rw [hbase] at hLb hH1
  clear hbase
  obtain ⟨i0, hi, hz0, hz1, hz2⟩ := info_of Cel.info_nd
  go_wp2_with fail
  go_loopg [4] len (fun g v wr => ∃ (i : Nat) (acc : List Cel.Kid) (q : Option Addr) (cp : Nat), i + g = len ∧ v = .int .i64 i ∧ acc.map Prod.fst = n.args.take i ∧ NdB tRn wr w.heap.size n p len cap ∧ BlkC wr (w.heap.size + 1) (Cel.ndA nodeZ none 0 0) Cel.tPn ∧ BlkC wr L (Cel.ndA n q i cp) Cel.tPn ∧ wr.ownsRow base Cel.tPn 8 (.slice q i cp) i (acc.flatMap Cel.kidC) ∧ (∀ d', d = d' + 1 → ∀ x ∈ acc, Cel.RdP wr (okMcls base wr (.slice q i cp)) d' x.1 x.2.1 x.2.2.1) ∧ Below w.heap.size w wr ∧ base ≤ wr.heap.size)
  case atStart => exact ⟨0, [], none, 0, by omega, rfl, rfl, HN3.out, HZ3.out, HL3.out, World.ownsRow_nil _ _ _ _, fun _ _ x hx => (by cases hx), HB3.out, by rw [HB0.out]; exact Nat.le_refl _⟩
  case round =>
    obtain ⟨i, acc, q, cp, hig, rfl, hacc, hn1, hn0, hn2, hown, hkid, hbel, hbs⟩ := hrel
    have HAC := Lib.hid hacc
    have HN1 := Lib.hid hn1
    have HN0 := Lib.hid hn0
    have HN2 := Lib.hid hn2
    have HOW := Lib.hid hown
    have HKD := Lib.hid hkid
    have HBL := Lib.hid hbel
    have hzr := hbel.size
    clear hacc hn1 hn0 hn2 hown hkid hbel HN3 HZ3 HL3 HB3 HB0
    obtain ⟨a0, a1, a2, a3, a4, a5⟩ := HN1.out.cells
    have b5 : wr.cell? ⟨L, 7, none⟩ = some (.slice q i cp) := HN2.out.cell 7 _ rfl
    by_cases hlt : i < len
    · have hli : (i : Int) < (len : Int) := by omega
      obtain ⟨d', b, off, c, p', l', c', hd, rfl, hbN, hc, hrc, q0, q1, q2, q3, q4, q5⟩ := (HRD.out.below HBL.out).at hlt
      have HC : Hid (clsC d') := HIH.out d' hd
      have HCO := Lib.hid (HOK.out c (mem_at hc))
      have HCF := Lib.hid (HFW.out c (mem_at hc))
      have A5 := Kept.cell (N := base) a5 (by omega)
      have B5 := Kept.cell (N := base) b5 (by omega)
      have Q0 := Kept.cell (N := base) q0 (by omega)
      have Q1 := Kept.cell (N := base) q1 (by omega)
      have Q2 := Kept.cell (N := base) q2 (by omega)
      have Q3 := Kept.cell (N := base) q3 (by omega)
      have Q4 := Kept.cell (N := base) q4 (by omega)
      have Q5 := Kept.cell (N := base) q5 (by omega)
      go_upto_region 5 with fail
      refine wp_region_schedT (fun wx => ∃ x : Kept base wr, wx = x.v) 11 [([0,1,2,3,4,5,6],7),([],8),([],9)] [10] (by kernel_rfl) (by kernel_rfl) (by kernel_rfl) (by kernel_rfl) (kept_drew _ _ (by omega)) ?_
      (unfold wpSegK; simp only [pick_nil, pick_cons, nthO_zero, nthO_succ, List.append])
      clear a0 a1 a2 a3 a4 a5 b5 q0 q1 q2 q3 q4 q5
      repeat (go_big_quiet_step (fail))
      refine wpQuiet_nil ?_
      have HRC := Lib.hid hrc
      have HHC := Lib.hid hc
      have HHD := Lib.hid hd
      clear hrc hc hd
      have HCC := Lib.hid (HC.out c p' l' c' wr.drew ((HRC.out.below (Below.drew (Below.refl _ _))).mono hzr) HCO.out HCF.out)
      rw [ndA_eq c p' l' c'] at HCC
      go_wp2_with fail
      refine HCC.out.mono ?_
      rintro e w3 ⟨⟨p2, c2, rfl, hk3⟩, hb3⟩
      have hb4 : Hid (Below wr.heap.size wr w3) := bel_call hb3 (Below.drew (Below.refl _ _)) (Nat.le_refl _)
      have HK3 := Lib.hid hk3
      rw [show Value.agg (Cel.ndA c p2 l' c2) = .agg #[.int .i64 c.kind, .int .i64 c.num, .string ⟨c.text.toArray⟩, .int .i64 (cC c.frm), .int .i64 (cR c.frm), .int .i64 (cC c.tor), .int .i64 (cR c.tor), .slice p2 l' c2] from rfl]
      clear HCC hk3 hb3
      go_wp2_with fail
      have hB3 : Hid (Below base wr w3) := hb4.out.mono (by omega)
      refine ⟨rfl, ⟨⟨w3, hB3.out⟩, rfl⟩, ?_⟩
      (unfold wpSegK; simp only [pick_nil, pick_cons, nthO_zero, nthO_succ, List.append])
      refine wpQuiet_nil ?_
      go_wp2_with fail
      have e4 : w3.alloc (.cells #[.int .i64 c.kind, .int .i64 c.num, .string ⟨c.text.toArray⟩, .int .i64 (cC c.frm), .int .i64 (cR c.frm), .int .i64 (cC c.tor), .int .i64 (cR c.tor), .slice p2 l' c2] Cel.tPn) = w3.alloc (.cells (Cel.ndA c p2 l' c2) Cel.tPn) := rfl
      rw [e4]
      clear e4
      refine ⟨rfl, ⟨⟨_, hB3.out.alloc (by have := hb4.out.size; omega) _⟩, rfl⟩, ?_⟩
      (unfold wpSegK; simp only [pick_nil, pick_cons, nthO_zero, nthO_succ, List.append])
      refine wpQuiet_nil ?_
      have HRW := Lib.hid (row_below HOW.out hb4.out)
      refine wpList_append_own_at _ rfl _ _ _ rfl base Cel.tPn i0 _ 8 88 Tryz.underlying46 hi hz0 hz1 hz2 rfl (by decide) _ _ _ rfl (HRW.out.alloc _) ⟨w3.heap.size, 0, none⟩ 1 1 (Cel.ndC c p2 l' c2) rfl rfl (Cel.newNd w3 c p2 l' c2) ?c2 ?c3 ?c4 ?c5 ?_
      case c2 => exact Cel.kidC_one (c, p2, l', c2)
      case c3 => unfold maxLen; omega
      case c4 => omega
      case c5 => rw [World.size_alloc]; have := hb4.out.size; omega
      intro v' w5 hown5 hgrow5 _ hat5
      have hB5 : Hid (Below base wr w5) := (hB3.out.alloc (by have := hb4.out.size; omega) _).grown hgrow5 (by rw [World.size_alloc]; have := hb4.out.size; omega) (fun k hk => (HRW.out.lt k hk).1)
      have HOW5 : Hid (w5.ownsRow base Cel.tPn 8 v' (i + 1) ((acc ++ [(c, p2, l', c2)]).flatMap Cel.kidC)) := by
        unfold Hid
        rw [flat_snoc]
        exact hown5
      have hla : acc.length = i := by
        have h := congrArg List.length HAC.out
        simp only [List.length_map, List.length_take] at h
        rw [HAL.out] at h
        omega
      obtain ⟨q5, cp5, hv5, _, _, _, _⟩ := RdG.of_own Cel.kidC_len (by rw [List.length_append, List.length_singleton, hla]) HOW5.out
      subst hv5
      have HN5 : Hid (BlkC w5 L (Cel.ndA n q i cp) Cel.tPn) := (hB5.out.block _ hLb).trans HN2.out
      have HKN := Lib.hid (kidsMcls (G := L) (u := .slice q5 (i + 1) cp5) (c2 := c2) hLb hbs hb4.out hgrow5 hat5 (fun b e => (HOW.out.lt b e).2) (HKD.out d' HHD.out) HK3.out)
      have hs5 := hB5.out.size
      clear hown5 hgrow5 hat5 HRW HK3 HKD HCF HCO HC HIH HOK HFW A5 B5 Q0 Q1 Q2 Q3 Q4 Q5
      have e5 : w5.cell? ⟨L, 7, none⟩ = some (.slice q i cp) := HN5.out.cell 7 _ rfl
      have g5 := HN5.out.fz 7
      go_wp2_with fail
      refine ⟨rfl, ⟨⟨w5, hB5.out⟩, rfl⟩, ?_⟩
      (unfold wpSegK; simp only [pick_nil, pick_cons, nthO_zero, nthO_succ, List.append])
      repeat (go_big_quiet_step (fail))
      refine wpQuiet_nil ?_
      go_wp2_with fail
      refine ⟨rfl, ?_⟩
      have HP6 : Hid (BlkC (w5.setCell ⟨L, 7, none⟩ (.slice q5 (i + 1) cp5)) L (Cel.ndA n q5 (i + 1) cp5) Cel.tPn) := block_setCell HN5.out _
      have HR6 : Hid (NdB tRn (w5.setCell ⟨L, 7, none⟩ (.slice q5 (i + 1) cp5)) w.heap.size n (some ⟨b, off, none⟩) len cap) := by
        unfold Hid NdB
        rw [heap_setCell_other _ _ _ _ (by show w.heap.size ≠ L; omega), hB5.out.block _ (by omega)]
        exact HN1.out
      have HZ6 : Hid (BlkC (w5.setCell ⟨L, 7, none⟩ (.slice q5 (i + 1) cp5)) (w.heap.size + 1) (Cel.ndA nodeZ none 0 0) Cel.tPn) := by
        unfold Hid BlkC
        rw [heap_setCell_other _ _ _ _ (by show w.heap.size + 1 ≠ L; omega), hB5.out.block _ (by omega)]
        exact HN0.out
      have HW6 : Hid ((w5.setCell ⟨L, 7, none⟩ (.slice q5 (i + 1) cp5)).ownsRow base Cel.tPn 8 (.slice q5 (i + 1) cp5) (i + 1) ((acc ++ [(c, p2, l', c2)]).flatMap Cel.kidC)) :=
        row_carry HOW5.out (fun b hb => heap_setCell_other _ _ _ _ (by have := (HOW5.out.lt b hb).1; show b ≠ L; omega))
      have HL6 : Hid (Below w.heap.size w (w5.setCell ⟨L, 7, none⟩ (.slice q5 (i + 1) cp5))) := (HBL.out.trans (hB5.out.mono (by omega))).setCell (by show w.heap.size ≤ L; omega) _
      have hz6 : base ≤ (w5.setCell ⟨L, 7, none⟩ (.slice q5 (i + 1) cp5)).heap.size := by rw [World.size_setCell]; omega
      have HAN : Hid ((acc ++ [(c, p2, l', c2)]).map Prod.fst = n.args.take (i + 1)) := by
        unfold Hid
        rw [List.map_append, HAC.out, List.take_add_one, HHC.out]
        simp
      generalize w5.setCell ⟨L, 7, none⟩ (.slice q5 (i + 1) cp5) = w6 at HP6 HR6 HZ6 HW6 HL6 HKN hz6 ⊢
      clear HHC HN5 HN0 HN1 HN2 HOW HOW5 hB5 hB3 hb4 e5 g5 HBL
      go_wp2_with fail
      go_roundg (gk - 1)
      case measure => omega
      case rel =>
        refine ⟨i + 1, acc ++ [(c, p2, l', c2)], q5, cp5, by omega, by go_num, HAN.out, HR6.out, HZ6.out, HP6.out, HW6.out, fun d'' hd x hx => ?_, HL6.out, hz6⟩
        obtain rfl : d' = d'' := by have := HHD.out; omega
        exact HKN.out x hx
    · obtain rfl : i = len := by omega
      have hli : ¬ (i : Int) < (i : Int) := by omega
      have hla : acc.length = i := by
        have h := congrArg List.length HAC.out
        simp only [List.length_map, List.length_take] at h
        rw [HAL.out] at h
        omega
      clear a0 a1 a2 a3 a4 b5
      go_upto_region 6 with fail
      refine wp_region_lit ?_
      refine wpList_load_mid (by rfl) _ _ (by rfl) L 0 (by rfl) [.int .i64 n.kind, .int .i64 n.num, .string ⟨n.text.toArray⟩, .int .i64 (cC n.frm), .int .i64 (cR n.frm), .int .i64 (cC n.tor), .int .i64 (cR n.tor), .slice q i cp] _ (block_range HN2.out [.int .i64 n.kind, .int .i64 n.num, .string ⟨n.text.toArray⟩, .int .i64 (cC n.frm), .int .i64 (cR n.frm), .int .i64 (cC n.tor), .int .i64 (cR n.tor), .slice q i cp] rfl) Tryz.underlying48 rfl (by kernel_rfl) ?_
      go_simp
      refine wpList_store_mid (by rfl) _ _ _ (by rfl) (w.heap.size + 1) 0 #[.int .i64 n.kind, .int .i64 n.num, .string ⟨n.text.toArray⟩, .int .i64 (cC n.frm), .int .i64 (cR n.frm), .int .i64 (cC n.tor), .int .i64 (cR n.tor), .slice q i cp] (by rfl) (by rfl) (block_there HN0.out 8 (Nat.le_refl _)) (by kernel_rfl) (by simp [Value.oneCell']) ?_
      have e8 : wr.setCells (w.heap.size + 1) 0 (#[.int .i64 n.kind, .int .i64 n.num, .string ⟨n.text.toArray⟩, .int .i64 (cC n.frm), .int .i64 (cR n.frm), .int .i64 (cC n.tor), .int .i64 (cR n.tor), .slice q i cp]).toList = wr.setCells (w.heap.size + 1) 0 (Cel.ndA n q i cp).toList := rfl
      rw [e8]
      clear e8
      have HS8 : Hid (BlkC (wr.setCells (w.heap.size + 1) 0 (Cel.ndA n q i cp).toList) (w.heap.size + 1) (Cel.ndA n q i cp) Cel.tPn) := store_block HN0.out _ rfl
      have HB8 : Hid (Below w.heap.size w (wr.setCells (w.heap.size + 1) 0 (Cel.ndA n q i cp).toList)) := store_below (by omega) _ _ _ HBL.out
      have hz8 := (store_below (Nat.zero_le (w.heap.size + 1)) (Cel.ndA n q i cp).toList 0 wr (Below.refl 0 wr)).size
      have HO8 : Hid (∀ k, k ≠ w.heap.size + 1 → (wr.setCells (w.heap.size + 1) 0 (Cel.ndA n q i cp).toList).heap[k]? = wr.heap[k]?) := fun k hk => store_other hk _ _ _
      generalize wr.setCells (w.heap.size + 1) 0 (Cel.ndA n q i cp).toList = w9 at HS8 HB8 HO8 hz8 ⊢
      go_simp
      iterate 3 (first | go_values | go_skip | go_guarded | go_step | go_upon)
      apply wp_ret
      try simp only [Exit.inBlock, Exit.then]
      refine bodyPost_ret (results_cell_row rfl _ _ (w.heap.size + 1) Cel.tPn (Cel.ndA n q i cp) (0, 0) _ rfl HS8.out Tryz.underlying48 rfl (by kernel_rfl)) rfl ⟨⟨q, cp, rfl, ?_⟩, HB8.out⟩
      cases d with
      | zero =>
        have h := HRD.out
        refine ⟨?_, h.2⟩
        exact h.1
      | succ d =>
        subst hla
        obtain ⟨q', cp', hv, hr⟩ := Cel.RdP.of_row (n := n) (d := d) (ok := fun b => base ≤ b ∧ b < wr.heap.size) HOW.out (by rw [HAC.out, List.take_of_length_le (by rw [HAL.out]; exact Nat.le_refl _)]) (fun x hx => Cel.RdP.carry (fun b hb => ⟨⟨hb.1, hb.2.1⟩, rfl⟩) (HKD.out d rfl x hx)) (fun b hb => HOW.out.lt b hb)
        cases hv
        exact Cel.RdP.carry (fun b hb => ⟨⟨by omega, by omega⟩, HO8.out b (by omega)⟩) hr
theorem cls_any : ∀ d, clsC d
  | 0 => cls_s 0 (fun d' h => by omega)
  | d + 1 => cls_s (d + 1) (fun d' h => (show d = d' from by omega) ▸ cls_any d)
end Go.Proofs.YtjklbbmgjjdalaaGreatDoor
