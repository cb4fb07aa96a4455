/- Trees over stamps: the document's Shape. Printed by gen_map.py. -/
import Derived.Test.YtljloggbfmnjmaaDoorWirI
set_option linter.unusedSimpArgs false
set_option linter.unusedVariables false
namespace Go.Proofs.YtljloggbfmnjmaaDoor
open Go.RowKit Go.Joins

theorem three_heap (w : World) (a b c : Obj) : (((w.alloc a).alloc b).alloc c).heap[w.heap.size]? = some a ∧ (((w.alloc a).alloc b).alloc c).heap[w.heap.size + 1]? = some b ∧ (((w.alloc a).alloc b).alloc c).heap[w.heap.size + 2]? = some c := by
  refine ⟨?_, ?_, ?_⟩ <;> simp only [World.alloc, Array.getElem?_push, Array.size_push] <;> (repeat (first | rfl | (rw [if_neg (by omega)]) | (rw [if_pos (by omega)])))
theorem three_below {w : World} (a b c : Obj) : Below w.heap.size w (((w.alloc a).alloc b).alloc c) := by
  (repeat' (first | (with_reducible exact Below.refl _ _) | (with_reducible assumption) | (with_reducible refine Below.alloc ?_ ?_ _) | (with_reducible refine bel_drewN ?_ _) | (with_reducible refine Below.drew ?_) | (with_reducible refine Below.setCell ?_ ?_ _) | (with_reducible refine bel_call ‹_› ?_ ?_) | go_size))
/-- The parts behind one more append, and behind the store of the row. -/
theorem kidsM_on {R : Type} {enc : R → List Value} {sz H d' l' c2 k : Nat} {wr w3 w5 : World} {o : Obj} {v v' u : Value} {acc : List (KidQ R)} {c : Tn R} {p2 : Option Addr} (hH : H + 3 ≤ wr.heap.size) (hb : Below wr.heap.size wr w3) (hg : (w3.alloc o).grownBy w5 v.ownBlock)
    (hat : v'.ownBlock = v.ownBlock ∨ v'.ownBlock = some (w3.alloc o).heap.size) (hlt : ∀ b, v.ownBlock = some b → b < wr.heap.size) (hk : ∀ x ∈ acc, RdQ enc sz wr (okQ (H + 3) wr v) d' x.1 x.2.1 x.2.2.1)
    (hn : RdQ enc sz w3 (fun b => wr.heap.size ≤ b) d' c p2 l') :
    ∀ x ∈ acc ++ [(c, p2, l', c2)], RdQ enc sz (w5.setCell ⟨H + 2, k, none⟩ u) (okQ (H + 3) (w5.setCell ⟨H + 2, k, none⟩ u) v') d' x.1 x.2.1 x.2.2.1 := by
  have hs := hb.size
  have hs2 := hg.size
  rw [World.size_alloc] at hs2 hat
  have hblk : ∀ b, H + 2 ≠ b → b < w3.heap.size → v.ownBlock ≠ some b → (w5.setCell ⟨H + 2, k, none⟩ u).heap[b]? = w3.heap[b]? := fun b h1 h2 h3 => by
    rw [heap_setCell_other _ _ _ _ (fun e => h1 e.symm), hg.block b (by rw [World.size_alloc]; omega) (fun e => h3 e.symm), heap_alloc_old _ _ h2]
  intro x hx
  rcases List.mem_append.1 hx with hx | hx
  · refine RdQ.carry (fun b hb' hlb => ?_) (hk x hx)
    obtain ⟨h1, h2, h3⟩ := hb'
    refine ⟨⟨h1, by rw [World.size_setCell]; omega, ?_⟩, ?_⟩
    · rcases hat with e | e
      · rw [e]; exact h3
      · rw [e]; intro e'; have := Option.some.inj e'; omega
    · rw [hblk b (by omega) (by omega) h3, hb.block b h2]
  · obtain rfl := List.mem_singleton.1 hx
    refine RdQ.carry (fun b h1 h2 => ?_) hn
    have h3 : v.ownBlock ≠ some b := fun e => by have := hlt b e; omega
    refine ⟨⟨by omega, by rw [World.size_setCell]; omega, ?_⟩, ?_⟩
    · rcases hat with e | e
      · rw [e]; exact h3
      · rw [e]; intro e'; have := Option.some.inj e'; omega
    · exact hblk b (by omega) h2 h3
/-- Trees over numbers: a node's cells. -/
def inE (x : Int) : List Value := [.int .i64 x]
def inA (n : Tn Int) (p : Option Addr) (len cap : Nat) : Array Value := #[.int .i64 n.kind, .int .i64 n.num, .string ⟨n.text.toArray⟩, .int .i64 n.frm, .int .i64 n.tor, .slice p len cap]
abbrev inZ : Tn Int := .mk 0 0 [] 0 0 []
theorem inA_list (n : Tn Int) (p : Option Addr) (len cap : Nat) : tnC inE n p len cap = [.int .i64 n.kind, .int .i64 n.num, .string ⟨n.text.toArray⟩, .int .i64 n.frm, .int .i64 n.tor, .slice p len cap] := rfl
theorem kidI_len (q : KidQ Int) : (kidQ inE q).length = 6 := tnC_len (m := 1) (fun _ => rfl) _ _ _ _
theorem kidI_one (q : KidQ Int) : ∀ u ∈ kidQ inE q, u.oneCell' = true := by
  intro u hu
  rw [show kidQ inE q = tnC inE q.1 q.2.1 q.2.2.1 q.2.2.2 from rfl, inA_list] at hu
  simp only [List.mem_cons, List.not_mem_nil, or_false] at hu
  rcases hu with rfl | rfl | rfl | rfl | rfl | rfl <;> rfl
abbrev tI2 : TypeId := 95
mutual
/-- A tree without its cells. -/
def shT : Bn → Tn Int
  | .mk k u t _ _ a => .mk k u t 0 0 (shTL a)
def shTL : List Bn → List (Tn Int)
  | [] => []
  | c :: r => shT c :: shTL r
end
theorem shTL_map : ∀ a, shTL a = a.map shT
  | [] => rfl
  | c :: r => by rw [shTL, shTL_map r]; rfl
theorem shT_args (n : Bn) : (shT n).args = n.args.map shT := by cases n; rw [shT]; exact shTL_map _
theorem info_i2 : (Tryd.prog.info? tI2).map (fun i => (i.zero, i.size, i.bytes)) = some (some (.agg #[.int .i64 0, .int .i64 0, .string ⟨#[]⟩, .int .i64 0, .int .i64 0, .slice none 0 0]), 6, 72) := by kernel_rfl
theorem newI2 (w : World) (c : (Tn Int)) (p2 : Option Addr) (l' c2 : Nat) : ∀ j u, (kidQ inE (c, p2, l', c2))[j]? = some u → (w.alloc (.cells (inA c p2 l' c2) tI2)).cell? ((⟨w.heap.size, 0, none⟩ : Addr).add j) = some u := by
  intro j u hj
  have hb : BlkC (w.alloc (.cells (inA c p2 l' c2) tI2)) w.heap.size (inA c p2 l' c2) tI2 := heap_alloc_new w _
  rw [Addr.add_mid, Nat.zero_add, cell_of_block hb]
  have e : inA c p2 l' c2 = (kidQ inE (c, p2, l', c2)).toArray := rfl
  rw [e]
  simpa using hj
def shapeC (d : Nat) : Prop := ∀ (n : Bn) (p : Option Addr) (len cap : Nat) (w : World), RdQ rfE 12 w okA d n p len → Sm n → Calls Tryd.prog 35 #[.agg (bnA n p len cap)] w fun e w' => (∃ p' cap', e = .returned (.agg (inA (shT n) p' len cap')) ∧ RdQ inE 6 w' (fun b => w.heap.size ≤ b) d (shT n) p' len) ∧ Below w.heap.size w w'
set_option maxRecDepth 100000 in
set_option maxHeartbeats 16000000 in
theorem shape_s (d : Nat) (IH : ∀ d', d = d' + 1 → shapeC d') : shapeC d := by
  intro n p len cap w hrd hok
  have HRD := Lib.hid hrd
  have HIH := Lib.hid IH
  have hlen := hok.len
  rw [hrd.len] at hlen
  have HAL := Lib.hid hrd.len
  have HOK := Lib.hid (fun c hc => Sm.child (c := c) hok hc)
  have HGA : Hid ((shT n).args = n.args.map shT) := shT_args n
  rw [show Value.agg (bnA n p len cap) = .agg #[.int .i64 n.kind, .int .i64 n.num, .string ⟨n.text.toArray⟩, .int .u64 n.frm.1.1, .int .i64 n.frm.1.2, .int .u64 n.frm.2.1, .int .i64 n.frm.2.2, .int .u64 n.tor.1.1, .int .i64 n.tor.1.2, .int .u64 n.tor.2.1, .int .i64 n.tor.2.2, .slice p len cap] from rfl]
  clear hrd IH hok
  obtain ⟨i0, hi, hz0, hz1, hz2⟩ := info_of info_i2
  go_enter Tryd.func35, Tryd.ntmps35
  go_wp2_with fail
  go_loopg [4] len (fun g v4 wr => ∃ (i : Nat) (acc : List (KidQ Int)) (q : Option Addr) (cp : Nat), i + g = len ∧ v4 = .int .i64 i ∧ acc.map Prod.fst = (n.args.take i).map shT ∧ BlkC wr w.heap.size (bnA n p len cap) tN2 ∧ BlkC wr (w.heap.size + 1) (inA inZ none 0 0) tI2 ∧ BlkC wr (w.heap.size + 2) (inA (shT n) q i cp) tI2 ∧ wr.ownsRow (w.heap.size + 3) tI2 6 (.slice q i cp) i (acc.flatMap (kidQ inE)) ∧ (∀ d', d = d' + 1 → ∀ x ∈ acc, RdQ inE 6 wr (okQ (w.heap.size + 3) wr (.slice q i cp)) d' x.1 x.2.1 x.2.2.1) ∧ Below w.heap.size w wr)
  case atStart =>
    refine ⟨0, [], none, 0, by omega, rfl, rfl, (three_heap w _ _ _).1, (three_heap w _ _ _).2.1, by cases n; exact (three_heap w _ _ _).2.2, World.ownsRow_nil _ _ _ _, fun _ _ x hx => (by cases hx), three_below _ _ _⟩
  case round =>
    obtain ⟨i, acc, q, cp, hig, rfl, hacc, hn1, hn0, hn2, hown, hkid, hbel⟩ := hrel
    have HAC := Lib.hid hacc
    have HN1 := Lib.hid hn1
    have HN0 := Lib.hid hn0
    have HN2 := Lib.hid hn2
    have HOW := Lib.hid hown
    have HKD := Lib.hid hkid
    have HBL := Lib.hid hbel
    have hzr := hbel.size
    have hH2 : w.heap.size + 2 < wr.heap.size := lt_some hn2
    clear hacc hn1 hn0 hn2 hown hkid hbel
    have a11 : wr.cell? ⟨w.heap.size, 11, none⟩ = some (.slice p len cap) := HN1.out.cell 11 _ rfl
    have b5 : wr.cell? ⟨w.heap.size + 2, 5, none⟩ = some (.slice q i cp) := HN2.out.cell 5 _ rfl
    by_cases hlt : i < len
    · have hli : (i : Int) < (len : Int) := by omega
      obtain ⟨d', b, off, c, p', l', c', hd, rfl, _, hbN, hc, hrc, hrg⟩ := (HRD.out.below HBL.out).at hlt
      have hbN' : b < w.heap.size := by
        obtain ⟨d2, b2, off2, _, _, _, _, _, e, _, h2, _⟩ := HRD.out.at hlt
        cases e
        exact h2
      have HC : Hid (shapeC d') := HIH.out d' hd
      have HCO := Lib.hid (HOK.out c (mem_of_at hc))
      have A11 := Kept.cell (N := w.heap.size + 3) a11 (by omega)
      have B5 := Kept.cell (N := w.heap.size + 3) b5 (by omega)
      have Q0 := Kept.cell (N := w.heap.size + 3) (show wr.cell? ⟨b, off + i * 12, none⟩ = some (.int .i64 c.kind) from hrg 0 (.int .i64 c.kind) rfl) (by omega)
      have Q1 := Kept.cell (N := w.heap.size + 3) (show wr.cell? ⟨b, off + i * 12 + 1, none⟩ = some (.int .i64 c.num) from hrg 1 (.int .i64 c.num) rfl) (by omega)
      have Q2 := Kept.cell (N := w.heap.size + 3) (show wr.cell? ⟨b, off + i * 12 + 2, none⟩ = some (.string ⟨c.text.toArray⟩) from hrg 2 (.string ⟨c.text.toArray⟩) rfl) (by omega)
      have Q3 := Kept.cell (N := w.heap.size + 3) (show wr.cell? ⟨b, off + i * 12 + 3, none⟩ = some (.int .u64 c.frm.1.1) from hrg 3 (.int .u64 c.frm.1.1) rfl) (by omega)
      have Q4 := Kept.cell (N := w.heap.size + 3) (show wr.cell? ⟨b, off + i * 12 + 4, none⟩ = some (.int .i64 c.frm.1.2) from hrg 4 (.int .i64 c.frm.1.2) rfl) (by omega)
      have Q5 := Kept.cell (N := w.heap.size + 3) (show wr.cell? ⟨b, off + i * 12 + 5, none⟩ = some (.int .u64 c.frm.2.1) from hrg 5 (.int .u64 c.frm.2.1) rfl) (by omega)
      have Q6 := Kept.cell (N := w.heap.size + 3) (show wr.cell? ⟨b, off + i * 12 + 6, none⟩ = some (.int .i64 c.frm.2.2) from hrg 6 (.int .i64 c.frm.2.2) rfl) (by omega)
      have Q7 := Kept.cell (N := w.heap.size + 3) (show wr.cell? ⟨b, off + i * 12 + 7, none⟩ = some (.int .u64 c.tor.1.1) from hrg 7 (.int .u64 c.tor.1.1) rfl) (by omega)
      have Q8 := Kept.cell (N := w.heap.size + 3) (show wr.cell? ⟨b, off + i * 12 + 8, none⟩ = some (.int .i64 c.tor.1.2) from hrg 8 (.int .i64 c.tor.1.2) rfl) (by omega)
      have Q9 := Kept.cell (N := w.heap.size + 3) (show wr.cell? ⟨b, off + i * 12 + 9, none⟩ = some (.int .u64 c.tor.2.1) from hrg 9 (.int .u64 c.tor.2.1) rfl) (by omega)
      have Q10 := Kept.cell (N := w.heap.size + 3) (show wr.cell? ⟨b, off + i * 12 + 10, none⟩ = some (.int .i64 c.tor.2.2) from hrg 10 (.int .i64 c.tor.2.2) rfl) (by omega)
      have Q11 := Kept.cell (N := w.heap.size + 3) (show wr.cell? ⟨b, off + i * 12 + 11, none⟩ = some (.slice p' l' c') from hrg 11 (.slice p' l' c') rfl) (by omega)
      go_upto_region 5 with fail
      refine wp_region_schedT (fun wx => ∃ x : Kept (w.heap.size + 3) wr, wx = x.v) 11 [([0,1,2,3,4,5,6],7),([],8),([],9)] [10] (by kernel_rfl) (by kernel_rfl) (by kernel_rfl) (by kernel_rfl) (kept_drew _ _ (by omega)) ?_
      (unfold wpSegK; simp only [pick_nil, pick_cons, nthO_zero, nthO_succ, List.append])
      clear hrg a11 b5
      repeat (go_big_quiet_step (fail))
      refine wpQuiet_nil ?_
      have HRC := Lib.hid hrc
      have HHC := Lib.hid hc
      have HHD := Lib.hid hd
      clear hrc hc hd
      have HCC := Lib.hid (HC.out c p' l' c' wr.drew (HRC.out.below (Below.drew (Below.refl _ _))) HCO.out)
      rw [show Value.agg (bnA c p' l' c') = .agg #[.int .i64 c.kind, .int .i64 c.num, .string ⟨c.text.toArray⟩, .int .u64 c.frm.1.1, .int .i64 c.frm.1.2, .int .u64 c.frm.2.1, .int .i64 c.frm.2.2, .int .u64 c.tor.1.1, .int .i64 c.tor.1.2, .int .u64 c.tor.2.1, .int .i64 c.tor.2.2, .slice p' l' c'] from rfl] at HCC
      go_wp2_with fail
      refine HCC.out.mono ?_
      rintro e w3 ⟨⟨p2, c2, rfl, hk3⟩, hb3⟩
      have hb4 : Hid (Below wr.heap.size wr w3) := bel_call hb3 (Below.drew (Below.refl _ _)) (Nat.le_refl _)
      have HK3 := Lib.hid hk3
      rw [show Value.agg (inA (shT c) p2 l' c2) = .agg #[.int .i64 (shT c).kind, .int .i64 (shT c).num, .string ⟨(shT c).text.toArray⟩, .int .i64 (shT c).frm, .int .i64 (shT c).tor, .slice p2 l' c2] from rfl]
      clear HCC hk3 hb3
      go_wp2_with fail
      have hB3 : Hid (Below (w.heap.size + 3) wr w3) := hb4.out.mono (by omega)
      refine ⟨rfl, ⟨⟨w3, hB3.out⟩, rfl⟩, ?_⟩
      (unfold wpSegK; simp only [pick_nil, pick_cons, nthO_zero, nthO_succ, List.append])
      refine wpQuiet_nil ?_
      go_wp2_with fail
      refine ⟨rfl, ⟨⟨_, hB3.out.alloc (by have := hb4.out.size; omega) _⟩, rfl⟩, ?_⟩
      (unfold wpSegK; simp only [pick_nil, pick_cons, nthO_zero, nthO_succ, List.append])
      refine wpQuiet_nil ?_
      have HRW := Lib.hid (row_below HOW.out hb4.out)
      refine wpList_append_own_at _ rfl _ _ _ rfl (w.heap.size + 3) tI2 i0 _ 6 72 Tryd.underlying93 hi hz0 hz1 hz2 rfl (by decide) _ _ _ rfl (HRW.out.alloc _) ⟨w3.heap.size, 0, none⟩ 1 1 (kidQ inE (shT c, p2, l', c2)) rfl rfl (newI2 w3 (shT c) p2 l' c2) ?c2 ?c3 ?c4 ?c5 ?_
      case c2 => exact kidI_one (shT c, p2, l', c2)
      case c3 => unfold maxLen; omega
      case c4 => omega
      case c5 => rw [World.size_alloc]; have := hb4.out.size; omega
      intro v' w5 hown5 hgrow5 _ hat5
      have hB5 : Hid (Below (w.heap.size + 3) wr w5) := (hB3.out.alloc (by have := hb4.out.size; omega) _).grown hgrow5 (by rw [World.size_alloc]; have := hb4.out.size; omega) (fun k hk => (HRW.out.lt k hk).1)
      have HOW5 : Hid (w5.ownsRow (w.heap.size + 3) tI2 6 v' (i + 1) ((acc ++ [(shT c, p2, l', c2)]).flatMap (kidQ inE))) := by
        unfold Hid
        rw [flat_snoc]
        exact hown5
      have hla : acc.length = i := by
        have h := congrArg List.length HAC.out
        rw [List.length_map, List.length_map, List.length_take, HAL.out] at h
        omega
      obtain ⟨q5, cp5, hv5, _, _, _, _⟩ := RdG.of_own kidI_len (by rw [List.length_append, List.length_singleton, hla]) HOW5.out
      subst hv5
      have HN5 : Hid (BlkC w5 (w.heap.size + 2) (inA (shT n) q i cp) tI2) := (hB5.out.block _ (by omega)).trans HN2.out
      have HKN := Lib.hid (kidsM_on (k := 5) (u := .slice q5 (i + 1) cp5) (c2 := c2) (by omega) hb4.out hgrow5 hat5 (fun b e => (HOW.out.lt b e).2) (HKD.out d' HHD.out) HK3.out)
      clear hown5 hgrow5 hat5 HRW HK3 HKD HCO HC HIH HOK A11 B5 Q0 Q1 Q2 Q3 Q4 Q5 Q6 Q7 Q8 Q9 Q10 Q11
      have e5 : w5.cell? ⟨w.heap.size + 2, 5, none⟩ = some (.slice q i cp) := HN5.out.cell 5 _ rfl
      have g5 := HN5.out.fz 5
      go_wp2_with fail
      refine ⟨rfl, ⟨⟨w5, hB5.out⟩, rfl⟩, ?_⟩
      (unfold wpSegK; simp only [pick_nil, pick_cons, nthO_zero, nthO_succ, List.append])
      repeat (go_big_quiet_step (fail))
      refine wpQuiet_nil ?_
      go_wp2_with fail
      refine ⟨rfl, ?_⟩
      have HP6 : Hid (BlkC (w5.setCell ⟨w.heap.size + 2, 5, none⟩ (.slice q5 (i + 1) cp5)) (w.heap.size + 2) (inA (shT n) q5 (i + 1) cp5) tI2) := block_setCell HN5.out _
      have HR6 : Hid (BlkC (w5.setCell ⟨w.heap.size + 2, 5, none⟩ (.slice q5 (i + 1) cp5)) w.heap.size (bnA n (some ⟨b, off, none⟩) len cap) tN2) := by
        unfold Hid BlkC
        rw [heap_setCell_other _ _ _ _ (by show w.heap.size ≠ w.heap.size + 2; omega), hB5.out.block _ (by omega)]
        exact HN1.out
      have HZ6 : Hid (BlkC (w5.setCell ⟨w.heap.size + 2, 5, none⟩ (.slice q5 (i + 1) cp5)) (w.heap.size + 1) (inA inZ none 0 0) tI2) := by
        unfold Hid BlkC
        rw [heap_setCell_other _ _ _ _ (by show w.heap.size + 1 ≠ w.heap.size + 2; omega), hB5.out.block _ (by omega)]
        exact HN0.out
      have HW6 : Hid ((w5.setCell ⟨w.heap.size + 2, 5, none⟩ (.slice q5 (i + 1) cp5)).ownsRow (w.heap.size + 3) tI2 6 (.slice q5 (i + 1) cp5) (i + 1) ((acc ++ [(shT c, p2, l', c2)]).flatMap (kidQ inE))) :=
        row_carry HOW5.out (fun b hb => heap_setCell_other _ _ _ _ (by have := (HOW5.out.lt b hb).1; show b ≠ w.heap.size + 2; omega))
      have HL6 : Hid (Below w.heap.size w (w5.setCell ⟨w.heap.size + 2, 5, none⟩ (.slice q5 (i + 1) cp5))) := (HBL.out.trans (hB5.out.mono (by omega))).setCell (by show w.heap.size ≤ w.heap.size + 2; omega) _
      have HAN : Hid ((acc ++ [(shT c, p2, l', c2)]).map Prod.fst = (n.args.take (i + 1)).map shT) := by
        unfold Hid
        rw [List.map_append, HAC.out, List.take_add_one, HHC.out, List.map_append]
        rfl
      have e6 : w5.setCell ⟨w.heap.size + 1 + 1, 5, none⟩ (.slice q5 (i + 1) cp5) = w5.setCell ⟨w.heap.size + 2, 5, none⟩ (.slice q5 (i + 1) cp5) := rfl
      rw [e6]
      generalize w5.setCell ⟨w.heap.size + 2, 5, none⟩ (.slice q5 (i + 1) cp5) = w6 at HP6 HR6 HZ6 HW6 HL6 HKN ⊢
      clear e6 HHC HN5 HN0 HN1 HN2 HOW HOW5 hB5 hB3 hb4 e5 g5 HBL
      go_wp2_with fail
      go_roundg (gk - 1)
      case measure => omega
      case rel =>
        refine ⟨i + 1, acc ++ [(shT c, p2, l', c2)], q5, cp5, by omega, by go_num, HAN.out, HR6.out, HZ6.out, HP6.out, HW6.out, fun d'' hd x hx => ?_, HL6.out⟩
        obtain rfl : d' = d'' := by have := HHD.out; omega
        exact HKN.out x hx
    · obtain rfl : i = len := by omega
      have hli : ¬ (i : Int) < (i : Int) := by omega
      go_upto_region 6 with fail
      refine wp_region_lit ?_
      refine wpList_load_mid (by rfl) _ _ (by rfl) (w.heap.size + 2) 0 (by rfl) [.int .i64 (shT n).kind, .int .i64 (shT n).num, .string ⟨(shT n).text.toArray⟩, .int .i64 (shT n).frm, .int .i64 (shT n).tor, .slice q i cp] _ (block_range HN2.out [.int .i64 (shT n).kind, .int .i64 (shT n).num, .string ⟨(shT n).text.toArray⟩, .int .i64 (shT n).frm, .int .i64 (shT n).tor, .slice q i cp] rfl) Tryd.underlying95 rfl (by kernel_rfl) ?_
      go_simp
      refine wpList_store_mid (by rfl) _ _ _ (by rfl) (w.heap.size + 1) 0 #[.int .i64 (shT n).kind, .int .i64 (shT n).num, .string ⟨(shT n).text.toArray⟩, .int .i64 (shT n).frm, .int .i64 (shT n).tor, .slice q i cp] (by rfl) (by rfl) (block_there HN0.out 6 (Nat.le_refl _)) (by kernel_rfl) (by simp [Value.oneCell']) ?_
      have hs8 : Hid (BlkC (wr.setCells (w.heap.size + 1) 0 #[.int .i64 (shT n).kind, .int .i64 (shT n).num, .string ⟨(shT n).text.toArray⟩, .int .i64 (shT n).frm, .int .i64 (shT n).tor, .slice q i cp].toList) (w.heap.size + 1) (inA (shT n) q i cp) tI2) := store_block HN0.out _ rfl
      have hb8 : Hid (Below w.heap.size w (wr.setCells (w.heap.size + 1) 0 #[.int .i64 (shT n).kind, .int .i64 (shT n).num, .string ⟨(shT n).text.toArray⟩, .int .i64 (shT n).frm, .int .i64 (shT n).tor, .slice q i cp].toList)) := store_below (by omega) _ _ _ HBL.out
      have hn8 : Hid (∀ k', k' ≠ w.heap.size + 1 → (wr.setCells (w.heap.size + 1) 0 #[.int .i64 (shT n).kind, .int .i64 (shT n).num, .string ⟨(shT n).text.toArray⟩, .int .i64 (shT n).frm, .int .i64 (shT n).tor, .slice q i cp].toList).heap[k']? = wr.heap[k']?) := fun k' h => store_other h _ _ _
      generalize wr.setCells (w.heap.size + 1) 0 #[.int .i64 (shT n).kind, .int .i64 (shT n).num, .string ⟨(shT n).text.toArray⟩, .int .i64 (shT n).frm, .int .i64 (shT n).tor, .slice q i cp].toList = w9 at hs8 hb8 hn8 ⊢
      go_simp
      iterate 3 (first | go_values | go_skip | go_guarded | go_step | go_upon)
      apply wp_ret
      try simp only [Exit.inBlock, Exit.then]
      refine bodyPost_ret (results_cell_row rfl _ _ (w.heap.size + 1) tI2 (inA (shT n) q i cp) (0, 0) _ rfl hs8.out Tryd.underlying95 rfl (by kernel_rfl)) rfl ?_
      have hla : acc.length = i := by
        have h := congrArg List.length HAC.out
        rw [List.length_map, List.length_map, List.length_take, HAL.out] at h
        omega
      refine ⟨⟨q, cp, rfl, ?_⟩, hb8.out⟩
      have hac : acc.map Prod.fst = (shT n).args := by rw [HAC.out, List.take_of_length_le (by rw [HAL.out]; exact Nat.le_refl _)]; exact HGA.out.symm
      cases d with
      | zero =>
        have h := HRD.out
        exact ⟨by rw [HGA.out, h.1]; rfl, h.2⟩
      | succ d =>
        obtain ⟨q', cp', hv, hr⟩ := RdQ.of_row (n := shT n) (ok := fun k' => w.heap.size + 3 ≤ k') kidI_len (by rw [hla]; exact HOW.out) hac (fun x hx => RdQ.weak (HKD.out d rfl x hx) (fun k' h => h.1)) (fun k' h => (HOW.out.lt k' h).1)
        cases hv
        rw [hla] at hr
        exact RdQ.carry (fun k' h1 h2 => ⟨by omega, hn8.out k' (by omega)⟩) hr
theorem shape_any : ∀ d, shapeC d
  | 0 => shape_s 0 (fun d' h => by omega)
  | d + 1 => shape_s (d + 1) (fun d' h => (show d = d' from by omega) ▸ shape_any d)
end Go.Proofs.YtljloggbfmnjmaaDoor
