/- Trees over stamps: the document's Shape. Printed by gen_map.py. Trees over stamps: the law's Of. Printed by gen_map.py. Trees over stamps: which may be, by the document: plain part, and its Right. Trees over stamps: bind.Take, the document's Same: the walks. Printed by gen_tnm.py. -/
import Derived.Test.YtjklbbmgjjdalaaGreatDoorBqE
import Derived.Test.YtjklbbmgjjdalaaGreatDoorBqAd
import Derived.Test.YtjklbbmgjjdalaaGreatDoorBqB
import Derived.Test.YtjklbbmgjjdalaaGreatDoorBqI
import Derived.ChangeKeysEq
set_option linter.unusedSimpArgs false
set_option linter.unusedVariables false
namespace Go.Proofs.YtjklbbmgjjdalaaGreatDoor.Bd
open Go.RowKit Go.Joins
theorem kidsM_on {R : Type} {enc : R → List Value} {sz H d' l' c2 k : Nat} {wr w3 w5 : World} {o : Obj} {v v' u : Value} {acc : List (KidQ R)} {c : Tn R} {p2 : Option Addr} (hH : H + 3 ≤ wr.heap.size) (hb : Below wr.heap.size wr w3) (hg : (w3.alloc o).grownBy w5 v.ownBlock)
    (hat : v'.ownBlock = v.ownBlock ∨ v'.ownBlock = some (w3.alloc o).heap.size) (hlt : ∀ b, v.ownBlock = some b → b < wr.heap.size) (hk : ∀ x ∈ acc, RdQ enc sz wr (okQ (H + 3) wr v) d' x.1 x.2.1 x.2.2.1)
    (hn : RdQ enc sz w3 (fun b => wr.heap.size ≤ b) d' c p2 l') :
    ∀ x ∈ acc ++ [(c, p2, l', c2)], RdQ enc sz (w5.setCell ⟨H + 2, k, none⟩ u) (okQ (H + 3) (w5.setCell ⟨H + 2, k, none⟩ u) v') d' x.1 x.2.1 x.2.2.1 := by
  have hs := hb.size
  have hs2 := hg.size
  rw [World.size_alloc] at hs2 hat
  have hblk : ∀ b, H + 2 ≠ b → b < w3.heap.size → v.ownBlock ≠ some b → (w5.setCell ⟨H + 2, k, none⟩ u).heap[b]? = w3.heap[b]? := fun b h1 h2 h3 => by
    rw [heap_setCell_other _ _ _ _ (fun e => h1 e.symm), hg.block b (by rw [World.size_alloc]; omega) (fun e => h3 e.symm), heap_alloc_old _ _ h2]
  intro x hx
  rcases List.mem_append.1 hx with hx | hx
  · refine RdQ.carry (fun b hb' hlb => ?_) (hk x hx)
    obtain ⟨h1, h2, h3⟩ := hb'
    refine ⟨⟨h1, by rw [World.size_setCell]; omega, ?_⟩, ?_⟩
    · rcases hat with e | e
      · rw [e]; exact h3
      · rw [e]; intro e'; have := Option.some.inj e'; omega
    · rw [hblk b (by omega) (by omega) h3, hb.block b h2]
  · obtain rfl := List.mem_singleton.1 hx
    refine RdQ.carry (fun b h1 h2 => ?_) hn
    have h3 : v.ownBlock ≠ some b := fun e => by have := hlt b e; omega
    refine ⟨⟨by omega, by rw [World.size_setCell]; omega, ?_⟩, ?_⟩
    · rcases hat with e | e
      · rw [e]; exact h3
      · rw [e]; intro e'; have := Option.some.inj e'; omega
    · exact hblk b (by omega) h2 h3
end Go.Proofs.YtjklbbmgjjdalaaGreatDoor.Bd
namespace Go.Proofs.YtjklbbmgjjdalaaGreatDoor.Bd
open Go.RowKit Go.Joins
abbrev ofT : Bn → Bn := fun n => n
theorem ofT_args (n : Bn) : (ofT n).args = n.args.map ofT := (List.map_id' _).symm
def ofC (d : Nat) : Prop := ∀ (n : Bn) (p : Option Addr) (len cap : Nat) (w : World), RdQ rfE 12 w okA d n p len → Sm n → Calls Tryz.prog 12 #[.agg (bnA n p len cap)] w fun e w' => (∃ p' cap', e = .returned (.agg (bnA (ofT n) p' len cap')) ∧ RdQ rfE 12 w' (fun b => w.heap.size ≤ b) d (ofT n) p' len) ∧ Below w.heap.size w w'
set_option maxRecDepth 100000 in
set_option maxHeartbeats 16000000 in
theorem of_s (d : Nat) (IH : ∀ d', d = d' + 1 → ofC d') : ofC d := by
  intro n p len cap w hrd hok
  have HRD := Lib.hid hrd
  have HIH := Lib.hid IH
  have hlen := hok.len
  rw [hrd.len] at hlen
  have HAL := Lib.hid hrd.len
  have HOK := Lib.hid (fun c hc => Sm.child (c := c) hok hc)
  have HGA : Hid ((ofT n).args = n.args.map ofT) := ofT_args n
  rw [show Value.agg (bnA n p len cap) = .agg #[.int .i64 n.kind, .int .i64 n.num, .string ⟨n.text.toArray⟩, .int .u64 n.frm.1.1, .int .i64 n.frm.1.2, .int .u64 n.frm.2.1, .int .i64 n.frm.2.2, .int .u64 n.tor.1.1, .int .i64 n.tor.1.2, .int .u64 n.tor.2.1, .int .i64 n.tor.2.2, .slice p len cap] from rfl]
  clear hrd IH hok
  obtain ⟨i0, hi, hz0, hz1, hz2⟩ := info_of info_n2
  go_enter Tryz.func12, Tryz.ntmps12
  go_wp2_with fail
  go_loopg [4] len (fun g v4 wr => ∃ (i : Nat) (acc : List (KidQ Rfp)) (q : Option Addr) (cp : Nat), i + g = len ∧ v4 = .int .i64 i ∧ acc.map Prod.fst = (n.args.take i).map ofT ∧ BlkC wr w.heap.size (bnA n p len cap) tNr ∧ BlkC wr (w.heap.size + 1) (bnA bnZ none 0 0) tN2 ∧ BlkC wr (w.heap.size + 2) (bnA (ofT n) q i cp) tN2 ∧ wr.ownsRow (w.heap.size + 3) tN2 12 (.slice q i cp) i (acc.flatMap (kidQ rfE)) ∧ (∀ d', d = d' + 1 → ∀ x ∈ acc, RdQ rfE 12 wr (okQ (w.heap.size + 3) wr (.slice q i cp)) d' x.1 x.2.1 x.2.2.1) ∧ Below w.heap.size w wr)
  case atStart =>
    refine ⟨0, [], none, 0, by omega, rfl, rfl, (three_heap w _ _ _).1, (three_heap w _ _ _).2.1, by cases n; exact (three_heap w _ _ _).2.2, World.ownsRow_nil _ _ _ _, fun _ _ x hx => (by cases hx), three_below _ _ _⟩
  case round =>
    obtain ⟨i, acc, q, cp, hig, rfl, hacc, hn1, hn0, hn2, hown, hkid, hbel⟩ := hrel
    have HAC := Lib.hid hacc
    have HN1 := Lib.hid hn1
    have HN0 := Lib.hid hn0
    have HN2 := Lib.hid hn2
    have HOW := Lib.hid hown
    have HKD := Lib.hid hkid
    have HBL := Lib.hid hbel
    have hzr := hbel.size
    have hH2 : w.heap.size + 2 < wr.heap.size := lt_some hn2
    clear hacc hn1 hn0 hn2 hown hkid hbel
    have a11 : wr.cell? ⟨w.heap.size, 11, none⟩ = some (.slice p len cap) := HN1.out.cell 11 _ rfl
    have b11 : wr.cell? ⟨w.heap.size + 2, 11, none⟩ = some (.slice q i cp) := HN2.out.cell 11 _ rfl
    by_cases hlt : i < len
    · have hli : (i : Int) < (len : Int) := by omega
      obtain ⟨d', b, off, c, p', l', c', hd, rfl, _, hbN, hc, hrc, hrg⟩ := (HRD.out.below HBL.out).at hlt
      have hbN' : b < w.heap.size := by
        obtain ⟨d2, b2, off2, _, _, _, _, _, e, _, h2, _⟩ := HRD.out.at hlt
        cases e
        exact h2
      have HC : Hid (ofC d') := HIH.out d' hd
      have HCO := Lib.hid (HOK.out c (mem_of_at hc))
      have A11 := Kept.cell (N := w.heap.size + 3) a11 (by omega)
      have B11 := Kept.cell (N := w.heap.size + 3) b11 (by omega)
      have Q0 := Kept.cell (N := w.heap.size + 3) (show wr.cell? ⟨b, off + i * 12, none⟩ = some (.int .i64 c.kind) from hrg 0 (.int .i64 c.kind) rfl) (by omega)
      have Q1 := Kept.cell (N := w.heap.size + 3) (show wr.cell? ⟨b, off + i * 12 + 1, none⟩ = some (.int .i64 c.num) from hrg 1 (.int .i64 c.num) rfl) (by omega)
      have Q2 := Kept.cell (N := w.heap.size + 3) (show wr.cell? ⟨b, off + i * 12 + 2, none⟩ = some (.string ⟨c.text.toArray⟩) from hrg 2 (.string ⟨c.text.toArray⟩) rfl) (by omega)
      have Q3 := Kept.cell (N := w.heap.size + 3) (show wr.cell? ⟨b, off + i * 12 + 3, none⟩ = some (.int .u64 c.frm.1.1) from hrg 3 (.int .u64 c.frm.1.1) rfl) (by omega)
      have Q4 := Kept.cell (N := w.heap.size + 3) (show wr.cell? ⟨b, off + i * 12 + 4, none⟩ = some (.int .i64 c.frm.1.2) from hrg 4 (.int .i64 c.frm.1.2) rfl) (by omega)
      have Q5 := Kept.cell (N := w.heap.size + 3) (show wr.cell? ⟨b, off + i * 12 + 5, none⟩ = some (.int .u64 c.frm.2.1) from hrg 5 (.int .u64 c.frm.2.1) rfl) (by omega)
      have Q6 := Kept.cell (N := w.heap.size + 3) (show wr.cell? ⟨b, off + i * 12 + 6, none⟩ = some (.int .i64 c.frm.2.2) from hrg 6 (.int .i64 c.frm.2.2) rfl) (by omega)
      have Q7 := Kept.cell (N := w.heap.size + 3) (show wr.cell? ⟨b, off + i * 12 + 7, none⟩ = some (.int .u64 c.tor.1.1) from hrg 7 (.int .u64 c.tor.1.1) rfl) (by omega)
      have Q8 := Kept.cell (N := w.heap.size + 3) (show wr.cell? ⟨b, off + i * 12 + 8, none⟩ = some (.int .i64 c.tor.1.2) from hrg 8 (.int .i64 c.tor.1.2) rfl) (by omega)
      have Q9 := Kept.cell (N := w.heap.size + 3) (show wr.cell? ⟨b, off + i * 12 + 9, none⟩ = some (.int .u64 c.tor.2.1) from hrg 9 (.int .u64 c.tor.2.1) rfl) (by omega)
      have Q10 := Kept.cell (N := w.heap.size + 3) (show wr.cell? ⟨b, off + i * 12 + 10, none⟩ = some (.int .i64 c.tor.2.2) from hrg 10 (.int .i64 c.tor.2.2) rfl) (by omega)
      have Q11 := Kept.cell (N := w.heap.size + 3) (show wr.cell? ⟨b, off + i * 12 + 11, none⟩ = some (.slice p' l' c') from hrg 11 (.slice p' l' c') rfl) (by omega)
      go_upto_region 5 with fail
      refine wp_region_schedT (fun wx => ∃ x : Kept (w.heap.size + 3) wr, wx = x.v) 11 [([0,1,2,3,4,5,6],7),([],8),([],9)] [10] (by kernel_rfl) (by kernel_rfl) (by kernel_rfl) (by kernel_rfl) (kept_drew _ _ (by omega)) ?_
      (unfold wpSegK; simp only [pick_nil, pick_cons, nthO_zero, nthO_succ, List.append])
      clear hrg a11 b11
      repeat (go_big_quiet_step (fail))
      refine wpQuiet_nil ?_
      have HRC := Lib.hid hrc
      have HHC := Lib.hid hc
      have HHD := Lib.hid hd
      clear hrc hc hd
      have HCC := Lib.hid (HC.out c p' l' c' wr.drew (HRC.out.below (Below.drew (Below.refl _ _))) HCO.out)
      rw [show Value.agg (bnA c p' l' c') = .agg #[.int .i64 c.kind, .int .i64 c.num, .string ⟨c.text.toArray⟩, .int .u64 c.frm.1.1, .int .i64 c.frm.1.2, .int .u64 c.frm.2.1, .int .i64 c.frm.2.2, .int .u64 c.tor.1.1, .int .i64 c.tor.1.2, .int .u64 c.tor.2.1, .int .i64 c.tor.2.2, .slice p' l' c'] from rfl] at HCC
      go_wp2_with fail
      refine HCC.out.mono ?_
      rintro e w3 ⟨⟨p2, c2, rfl, hk3⟩, hb3⟩
      have hb4 : Hid (Below wr.heap.size wr w3) := bel_call hb3 (Below.drew (Below.refl _ _)) (Nat.le_refl _)
      have HK3 := Lib.hid hk3
      rw [show Value.agg (bnA (ofT c) p2 l' c2) = .agg #[.int .i64 (ofT c).kind, .int .i64 (ofT c).num, .string ⟨(ofT c).text.toArray⟩, .int .u64 (ofT c).frm.1.1, .int .i64 (ofT c).frm.1.2, .int .u64 (ofT c).frm.2.1, .int .i64 (ofT c).frm.2.2, .int .u64 (ofT c).tor.1.1, .int .i64 (ofT c).tor.1.2, .int .u64 (ofT c).tor.2.1, .int .i64 (ofT c).tor.2.2, .slice p2 l' c2] from rfl]
      clear HCC hk3 hb3
      go_wp2_with fail
      have hB3 : Hid (Below (w.heap.size + 3) wr w3) := hb4.out.mono (by omega)
      refine ⟨rfl, ⟨⟨w3, hB3.out⟩, rfl⟩, ?_⟩
      (unfold wpSegK; simp only [pick_nil, pick_cons, nthO_zero, nthO_succ, List.append])
      refine wpQuiet_nil ?_
      go_wp2_with fail
      refine ⟨rfl, ⟨⟨_, hB3.out.alloc (by have := hb4.out.size; omega) _⟩, rfl⟩, ?_⟩
      (unfold wpSegK; simp only [pick_nil, pick_cons, nthO_zero, nthO_succ, List.append])
      refine wpQuiet_nil ?_
      have HRW := Lib.hid (row_below HOW.out hb4.out)
      refine wpList_append_own_at _ rfl _ _ _ rfl (w.heap.size + 3) tN2 i0 _ 12 120 Tryz.underlying51 hi hz0 hz1 hz2 rfl (by decide) _ _ _ rfl (HRW.out.alloc _) ⟨w3.heap.size, 0, none⟩ 1 1 (kidQ rfE (ofT c, p2, l', c2)) rfl rfl (newN2 w3 (ofT c) p2 l' c2) ?c2 ?c3 ?c4 ?c5 ?_
      case c2 => exact kidR_one (ofT c, p2, l', c2)
      case c3 => unfold maxLen; omega
      case c4 => omega
      case c5 => rw [World.size_alloc]; have := hb4.out.size; omega
      intro v' w5 hown5 hgrow5 _ hat5
      have hB5 : Hid (Below (w.heap.size + 3) wr w5) := (hB3.out.alloc (by have := hb4.out.size; omega) _).grown hgrow5 (by rw [World.size_alloc]; have := hb4.out.size; omega) (fun k hk => (HRW.out.lt k hk).1)
      have HOW5 : Hid (w5.ownsRow (w.heap.size + 3) tN2 12 v' (i + 1) ((acc ++ [(ofT c, p2, l', c2)]).flatMap (kidQ rfE))) := by
        unfold Hid
        rw [flat_snoc]
        exact hown5
      have hla : acc.length = i := by
        have h := congrArg List.length HAC.out
        rw [List.length_map, List.length_map, List.length_take, HAL.out] at h
        omega
      obtain ⟨q5, cp5, hv5, _, _, _, _⟩ := RdG.of_own kidR_len (by rw [List.length_append, List.length_singleton, hla]) HOW5.out
      subst hv5
      have HN5 : Hid (BlkC w5 (w.heap.size + 2) (bnA (ofT n) q i cp) tN2) := (hB5.out.block _ (by omega)).trans HN2.out
      have HKN := Lib.hid (kidsM_on (k := 11) (u := .slice q5 (i + 1) cp5) (c2 := c2) (by omega) hb4.out hgrow5 hat5 (fun b e => (HOW.out.lt b e).2) (HKD.out d' HHD.out) HK3.out)
      clear hown5 hgrow5 hat5 HRW HK3 HKD HCO HC HIH HOK A11 B11 Q0 Q1 Q2 Q3 Q4 Q5 Q6 Q7 Q8 Q9 Q10 Q11
      have e11 : w5.cell? ⟨w.heap.size + 2, 11, none⟩ = some (.slice q i cp) := HN5.out.cell 11 _ rfl
      have g11 := HN5.out.fz 11
      go_wp2_with fail
      refine ⟨rfl, ⟨⟨w5, hB5.out⟩, rfl⟩, ?_⟩
      (unfold wpSegK; simp only [pick_nil, pick_cons, nthO_zero, nthO_succ, List.append])
      repeat (go_big_quiet_step (fail))
      refine wpQuiet_nil ?_
      go_wp2_with fail
      refine ⟨rfl, ?_⟩
      have HP6 : Hid (BlkC (w5.setCell ⟨w.heap.size + 2, 11, none⟩ (.slice q5 (i + 1) cp5)) (w.heap.size + 2) (bnA (ofT n) q5 (i + 1) cp5) tN2) := block_setCell HN5.out _
      have HR6 : Hid (BlkC (w5.setCell ⟨w.heap.size + 2, 11, none⟩ (.slice q5 (i + 1) cp5)) w.heap.size (bnA n (some ⟨b, off, none⟩) len cap) tNr) := by
        unfold Hid BlkC
        rw [heap_setCell_other _ _ _ _ (by show w.heap.size ≠ w.heap.size + 2; omega), hB5.out.block _ (by omega)]
        exact HN1.out
      have HZ6 : Hid (BlkC (w5.setCell ⟨w.heap.size + 2, 11, none⟩ (.slice q5 (i + 1) cp5)) (w.heap.size + 1) (bnA bnZ none 0 0) tN2) := by
        unfold Hid BlkC
        rw [heap_setCell_other _ _ _ _ (by show w.heap.size + 1 ≠ w.heap.size + 2; omega), hB5.out.block _ (by omega)]
        exact HN0.out
      have HW6 : Hid ((w5.setCell ⟨w.heap.size + 2, 11, none⟩ (.slice q5 (i + 1) cp5)).ownsRow (w.heap.size + 3) tN2 12 (.slice q5 (i + 1) cp5) (i + 1) ((acc ++ [(ofT c, p2, l', c2)]).flatMap (kidQ rfE))) :=
        row_carry HOW5.out (fun b hb => heap_setCell_other _ _ _ _ (by have := (HOW5.out.lt b hb).1; show b ≠ w.heap.size + 2; omega))
      have HL6 : Hid (Below w.heap.size w (w5.setCell ⟨w.heap.size + 2, 11, none⟩ (.slice q5 (i + 1) cp5))) := (HBL.out.trans (hB5.out.mono (by omega))).setCell (by show w.heap.size ≤ w.heap.size + 2; omega) _
      have HAN : Hid ((acc ++ [(ofT c, p2, l', c2)]).map Prod.fst = (n.args.take (i + 1)).map ofT) := by
        unfold Hid
        rw [List.map_append, HAC.out, List.take_add_one, HHC.out, List.map_append]
        rfl
      have e6 : w5.setCell ⟨w.heap.size + 1 + 1, 11, none⟩ (.slice q5 (i + 1) cp5) = w5.setCell ⟨w.heap.size + 2, 11, none⟩ (.slice q5 (i + 1) cp5) := rfl
      rw [e6]
      generalize w5.setCell ⟨w.heap.size + 2, 11, none⟩ (.slice q5 (i + 1) cp5) = w6 at HP6 HR6 HZ6 HW6 HL6 HKN ⊢
      clear e6 HHC HN5 HN0 HN1 HN2 HOW HOW5 hB5 hB3 hb4 e11 g11 HBL
      go_wp2_with fail
      go_roundg (gk - 1)
      case measure => omega
      case rel =>
        refine ⟨i + 1, acc ++ [(ofT c, p2, l', c2)], q5, cp5, by omega, by go_num, HAN.out, HR6.out, HZ6.out, HP6.out, HW6.out, fun d'' hd x hx => ?_, HL6.out⟩
        obtain rfl : d' = d'' := by have := HHD.out; omega
        exact HKN.out x hx
    · obtain rfl : i = len := by omega
      have hli : ¬ (i : Int) < (i : Int) := by omega
      go_upto_region 6 with fail
      refine wp_region_lit ?_
      refine wpList_load_mid (by rfl) _ _ (by rfl) (w.heap.size + 2) 0 (by rfl) [.int .i64 (ofT n).kind, .int .i64 (ofT n).num, .string ⟨(ofT n).text.toArray⟩, .int .u64 (ofT n).frm.1.1, .int .i64 (ofT n).frm.1.2, .int .u64 (ofT n).frm.2.1, .int .i64 (ofT n).frm.2.2, .int .u64 (ofT n).tor.1.1, .int .i64 (ofT n).tor.1.2, .int .u64 (ofT n).tor.2.1, .int .i64 (ofT n).tor.2.2, .slice q i cp] _ (block_range HN2.out [.int .i64 (ofT n).kind, .int .i64 (ofT n).num, .string ⟨(ofT n).text.toArray⟩, .int .u64 (ofT n).frm.1.1, .int .i64 (ofT n).frm.1.2, .int .u64 (ofT n).frm.2.1, .int .i64 (ofT n).frm.2.2, .int .u64 (ofT n).tor.1.1, .int .i64 (ofT n).tor.1.2, .int .u64 (ofT n).tor.2.1, .int .i64 (ofT n).tor.2.2, .slice q i cp] rfl) Tryz.underlying53 rfl (by kernel_rfl) ?_
      go_simp
      refine wpList_store_mid (by rfl) _ _ _ (by rfl) (w.heap.size + 1) 0 #[.int .i64 (ofT n).kind, .int .i64 (ofT n).num, .string ⟨(ofT n).text.toArray⟩, .int .u64 (ofT n).frm.1.1, .int .i64 (ofT n).frm.1.2, .int .u64 (ofT n).frm.2.1, .int .i64 (ofT n).frm.2.2, .int .u64 (ofT n).tor.1.1, .int .i64 (ofT n).tor.1.2, .int .u64 (ofT n).tor.2.1, .int .i64 (ofT n).tor.2.2, .slice q i cp] (by rfl) (by rfl) (block_there HN0.out 12 (Nat.le_refl _)) (by kernel_rfl) (by simp [Value.oneCell']) ?_
      have hs8 : Hid (BlkC (wr.setCells (w.heap.size + 1) 0 #[.int .i64 (ofT n).kind, .int .i64 (ofT n).num, .string ⟨(ofT n).text.toArray⟩, .int .u64 (ofT n).frm.1.1, .int .i64 (ofT n).frm.1.2, .int .u64 (ofT n).frm.2.1, .int .i64 (ofT n).frm.2.2, .int .u64 (ofT n).tor.1.1, .int .i64 (ofT n).tor.1.2, .int .u64 (ofT n).tor.2.1, .int .i64 (ofT n).tor.2.2, .slice q i cp].toList) (w.heap.size + 1) (bnA (ofT n) q i cp) tN2) := store_block HN0.out _ rfl
      have hb8 : Hid (Below w.heap.size w (wr.setCells (w.heap.size + 1) 0 #[.int .i64 (ofT n).kind, .int .i64 (ofT n).num, .string ⟨(ofT n).text.toArray⟩, .int .u64 (ofT n).frm.1.1, .int .i64 (ofT n).frm.1.2, .int .u64 (ofT n).frm.2.1, .int .i64 (ofT n).frm.2.2, .int .u64 (ofT n).tor.1.1, .int .i64 (ofT n).tor.1.2, .int .u64 (ofT n).tor.2.1, .int .i64 (ofT n).tor.2.2, .slice q i cp].toList)) := store_below (by omega) _ _ _ HBL.out
      have hn8 : Hid (∀ k', k' ≠ w.heap.size + 1 → (wr.setCells (w.heap.size + 1) 0 #[.int .i64 (ofT n).kind, .int .i64 (ofT n).num, .string ⟨(ofT n).text.toArray⟩, .int .u64 (ofT n).frm.1.1, .int .i64 (ofT n).frm.1.2, .int .u64 (ofT n).frm.2.1, .int .i64 (ofT n).frm.2.2, .int .u64 (ofT n).tor.1.1, .int .i64 (ofT n).tor.1.2, .int .u64 (ofT n).tor.2.1, .int .i64 (ofT n).tor.2.2, .slice q i cp].toList).heap[k']? = wr.heap[k']?) := fun k' h => store_other h _ _ _
      generalize wr.setCells (w.heap.size + 1) 0 #[.int .i64 (ofT n).kind, .int .i64 (ofT n).num, .string ⟨(ofT n).text.toArray⟩, .int .u64 (ofT n).frm.1.1, .int .i64 (ofT n).frm.1.2, .int .u64 (ofT n).frm.2.1, .int .i64 (ofT n).frm.2.2, .int .u64 (ofT n).tor.1.1, .int .i64 (ofT n).tor.1.2, .int .u64 (ofT n).tor.2.1, .int .i64 (ofT n).tor.2.2, .slice q i cp].toList = w9 at hs8 hb8 hn8 ⊢
      go_simp
      iterate 3 (first | go_values | go_skip | go_guarded | go_step | go_upon)
      apply wp_ret
      try simp only [Exit.inBlock, Exit.then]
      refine bodyPost_ret (results_cell_row rfl _ _ (w.heap.size + 1) tN2 (bnA (ofT n) q i cp) (0, 0) _ rfl hs8.out Tryz.underlying53 rfl (by kernel_rfl)) rfl ?_
      have hla : acc.length = i := by
        have h := congrArg List.length HAC.out
        rw [List.length_map, List.length_map, List.length_take, HAL.out] at h
        omega
      refine ⟨⟨q, cp, rfl, ?_⟩, hb8.out⟩
      have hac : acc.map Prod.fst = (ofT n).args := by rw [HAC.out, List.take_of_length_le (by rw [HAL.out]; exact Nat.le_refl _)]; exact HGA.out.symm
      cases d with
      | zero =>
        have h := HRD.out
        exact ⟨by rw [HGA.out, h.1]; rfl, h.2⟩
      | succ d =>
        obtain ⟨q', cp', hv, hr⟩ := RdQ.of_row (n := ofT n) (ok := fun k' => w.heap.size + 3 ≤ k') kidR_len (by rw [hla]; exact HOW.out) hac (fun x hx => RdQ.weak (HKD.out d rfl x hx) (fun k' h => h.1)) (fun k' h => (HOW.out.lt k' h).1)
        cases hv
        rw [hla] at hr
        exact RdQ.carry (fun k' h1 h2 => ⟨by omega, hn8.out k' (by omega)⟩) hr
theorem of_any : ∀ d, ofC d
  | 0 => of_s 0 (fun d' h => by omega)
  | d + 1 => of_s (d + 1) (fun d' h => (show d = d' from by omega) ▸ of_any d)
end Go.Proofs.YtjklbbmgjjdalaaGreatDoor.Bd
namespace Go.Proofs.YtjklbbmgjjdalaaGreatDoor.Bd
open Go.RowKit Go.Joins
inductive Gd : Bn → Prop
  | mk (k u : Int) (t : List UInt8) (f o : Rfp) (a : List Bn) (h1 : t.length ≤ 100000) (h2 : a.length ≤ 100000) (h3 : -9223372036854775808 ≤ u ∧ u ≤ 9223372036854775807) (h4 : 0 ≤ f.1.1 ∧ 0 ≤ f.2.1 ∧ 0 ≤ o.1.1 ∧ 0 ≤ o.2.1) (h5 : ∀ c ∈ a, Gd c) : Gd (.mk k u t f o a)
theorem Gd.sm : ∀ {n : Bn}, Gd n → Sm n
  | _, .mk k u t f o a h1 h2 h3 h4 h5 => .mk k u t f o a (by omega) h2 (fun c hc => (h5 c hc).sm)
theorem Gd.child {n c : Bn} (h : Gd n) (hc : c ∈ n.args) : Gd c := by cases h with | mk k u t f o a h1 h2 h3 h4 h5 => exact h5 c hc
end Go.Proofs.YtjklbbmgjjdalaaGreatDoor.Bd
namespace Go.Proofs.YtjklbbmgjjdalaaGreatDoor.Bd
open Go.RowKit Go.Joins
theorem info_idS : (Tryz.prog.info? tId).isSome = true := by kernel_rfl
theorem cells_id : Tryz.prog.cellsOf tId = 2 := by kernel_rfl
set_option maxRecDepth 100000 in
theorem neq_pr (x : Rfp) (W : World) : (binOp .neq tPr (.agg #[.int .u64 x.1.1, .int .i64 x.1.2, .int .u64 x.2.1, .int .i64 x.2.2]) (.agg #[.int .u64 x.1.1, .int .i64 x.1.2, .int .u64 x.2.1, .int .i64 x.2.2])).run Tryz.prog W = .ok (.bool false) W := by
  obtain ⟨i, hi⟩ := Option.isSome_iff_exists.1 info_idS
  have h := run_equalIn_array (P := Tryz.prog) (w := W) 9999 (i := i) #[.int .u64 x.1.1, .int .i64 x.1.2, .int .u64 x.2.1, .int .i64 x.2.2] #[.int .u64 x.1.1, .int .i64 x.1.2, .int .u64 x.2.1, .int .i64 x.2.2] Tryz.underlying50 hi
  rw [cells_id] at h
  simp only [show List.range 2 = [0, 1] from rfl, Op.eqItems] at h
  go_simp
def RSame1C (d : Nat) : Prop := ∀ (n : Bn) (p p' : Option Addr) (len cap cap' : Nat) (w : World), RdQ rfE 12 w okA d n p len → RdQ rfE 12 w okA d n p' len → Sm n → Calls Tryz.prog 11 #[.agg (bnA n p len cap), .agg (bnA n p' len cap')] w fun e w' => e = .returned (.bool true) ∧ Below w.heap.size w w'
set_option maxRecDepth 100000 in
set_option maxHeartbeats 16000000 in
theorem rsame1_s (d : Nat) (IH : ∀ d', d = d' + 1 → RSame1C d') : RSame1C d := by
  intro n p p' len cap cap' w hrd hrd' hok
  have hA0 : Hid (BlkC ((w.alloc (.cells (bnA n p len cap) tN2)).alloc (.cells (bnA n p' len cap') tN2)) w.heap.size (bnA n p len cap) tN2) := (heap_alloc_old _ _ (by rw [World.size_alloc]; omega)).trans (heap_alloc_new w _)
  have hA1 : Hid (BlkC ((w.alloc (.cells (bnA n p len cap) tN2)).alloc (.cells (bnA n p' len cap') tN2)) (w.heap.size + 1) (bnA n p' len cap') tN2) := by
    have := heap_alloc_new (w.alloc (.cells (bnA n p len cap) tN2)) (.cells (bnA n p' len cap') tN2)
    rw [World.size_alloc] at this
    exact this
  have hAB : Hid (Below w.heap.size w ((w.alloc (.cells (bnA n p len cap) tN2)).alloc (.cells (bnA n p' len cap') tN2))) := by unfold Hid; (repeat' (first | (with_reducible exact Below.refl _ _) | (with_reducible assumption) | (with_reducible refine Below.alloc ?_ ?_ _) | (with_reducible refine bel_drewN ?_ _) | (with_reducible refine Below.drew ?_) | (with_reducible refine Below.setCell ?_ ?_ _) | (with_reducible refine bel_call ‹_› ?_ ?_) | go_size))
  have HR0 := Lib.hid hrd
  have HR1 := Lib.hid hrd'
  have HIH := Lib.hid IH
  have hlen := hok.len
  rw [hrd.len] at hlen
  have HOK := Lib.hid (fun c hc => Sm.child (c := c) hok hc)
  have hq1 := neq_pr n.frm
  have hq2 := neq_pr n.tor
  rw [bnA_eq n p len cap, bnA_eq n p' len cap']
  clear hrd hrd' IH hok
  go_enter Tryz.func11, Tryz.ntmps11
  go_upto_region 1 with fail
  have e0 : (w.alloc (.cells #[.int .i64 n.kind, .int .i64 n.num, .string ⟨n.text.toArray⟩, .int .u64 n.frm.1.1, .int .i64 n.frm.1.2, .int .u64 n.frm.2.1, .int .i64 n.frm.2.2, .int .u64 n.tor.1.1, .int .i64 n.tor.1.2, .int .u64 n.tor.2.1, .int .i64 n.tor.2.2, .slice p len cap] tN2)).alloc (.cells #[.int .i64 n.kind, .int .i64 n.num, .string ⟨n.text.toArray⟩, .int .u64 n.frm.1.1, .int .i64 n.frm.1.2, .int .u64 n.frm.2.1, .int .i64 n.frm.2.2, .int .u64 n.tor.1.1, .int .i64 n.tor.1.2, .int .u64 n.tor.2.1, .int .i64 n.tor.2.2, .slice p' len cap'] tN2) = (w.alloc (.cells (bnA n p len cap) tN2)).alloc (.cells (bnA n p' len cap') tN2) := rfl
  rw [e0]
  clear e0
  generalize (w.alloc (.cells (bnA n p len cap) tN2)).alloc (.cells (bnA n p' len cap') tN2) = w0 at hA0 hA1 hAB ⊢
  have a0 : w0.cell? ⟨w.heap.size, 0, none⟩ = some (.int .i64 n.kind) := hA0.out.cell 0 _ rfl
  have a1 : w0.cell? ⟨w.heap.size, 1, none⟩ = some (.int .i64 n.num) := hA0.out.cell 1 _ rfl
  have a2 : w0.cell? ⟨w.heap.size, 2, none⟩ = some (.string ⟨n.text.toArray⟩) := hA0.out.cell 2 _ rfl
  have a3 : w0.cell? ⟨w.heap.size, 3, none⟩ = some (.int .u64 n.frm.1.1) := hA0.out.cell 3 _ rfl
  have a4 : w0.cell? ⟨w.heap.size, 4, none⟩ = some (.int .i64 n.frm.1.2) := hA0.out.cell 4 _ rfl
  have a5 : w0.cell? ⟨w.heap.size, 5, none⟩ = some (.int .u64 n.frm.2.1) := hA0.out.cell 5 _ rfl
  have a6 : w0.cell? ⟨w.heap.size, 6, none⟩ = some (.int .i64 n.frm.2.2) := hA0.out.cell 6 _ rfl
  have a7 : w0.cell? ⟨w.heap.size, 7, none⟩ = some (.int .u64 n.tor.1.1) := hA0.out.cell 7 _ rfl
  have a8 : w0.cell? ⟨w.heap.size, 8, none⟩ = some (.int .i64 n.tor.1.2) := hA0.out.cell 8 _ rfl
  have a9 : w0.cell? ⟨w.heap.size, 9, none⟩ = some (.int .u64 n.tor.2.1) := hA0.out.cell 9 _ rfl
  have a10 : w0.cell? ⟨w.heap.size, 10, none⟩ = some (.int .i64 n.tor.2.2) := hA0.out.cell 10 _ rfl
  have a11 : w0.cell? ⟨w.heap.size, 11, none⟩ = some (.slice p len cap) := hA0.out.cell 11 _ rfl
  have b0 : w0.cell? ⟨w.heap.size + 1, 0, none⟩ = some (.int .i64 n.kind) := hA1.out.cell 0 _ rfl
  have b1 : w0.cell? ⟨w.heap.size + 1, 1, none⟩ = some (.int .i64 n.num) := hA1.out.cell 1 _ rfl
  have b2 : w0.cell? ⟨w.heap.size + 1, 2, none⟩ = some (.string ⟨n.text.toArray⟩) := hA1.out.cell 2 _ rfl
  have b3 : w0.cell? ⟨w.heap.size + 1, 3, none⟩ = some (.int .u64 n.frm.1.1) := hA1.out.cell 3 _ rfl
  have b4 : w0.cell? ⟨w.heap.size + 1, 4, none⟩ = some (.int .i64 n.frm.1.2) := hA1.out.cell 4 _ rfl
  have b5 : w0.cell? ⟨w.heap.size + 1, 5, none⟩ = some (.int .u64 n.frm.2.1) := hA1.out.cell 5 _ rfl
  have b6 : w0.cell? ⟨w.heap.size + 1, 6, none⟩ = some (.int .i64 n.frm.2.2) := hA1.out.cell 6 _ rfl
  have b7 : w0.cell? ⟨w.heap.size + 1, 7, none⟩ = some (.int .u64 n.tor.1.1) := hA1.out.cell 7 _ rfl
  have b8 : w0.cell? ⟨w.heap.size + 1, 8, none⟩ = some (.int .i64 n.tor.1.2) := hA1.out.cell 8 _ rfl
  have b9 : w0.cell? ⟨w.heap.size + 1, 9, none⟩ = some (.int .u64 n.tor.2.1) := hA1.out.cell 9 _ rfl
  have b10 : w0.cell? ⟨w.heap.size + 1, 10, none⟩ = some (.int .i64 n.tor.2.2) := hA1.out.cell 10 _ rfl
  have b11 : w0.cell? ⟨w.heap.size + 1, 11, none⟩ = some (.slice p' len cap') := hA1.out.cell 11 _ rfl
  go_wp2_with fail
  go_loopg [5] len (fun g v5 wr => ∃ i : Nat, i + g = len ∧ v5 = .int .i64 i ∧ BlkC wr w.heap.size (bnA n p len cap) tN2 ∧ BlkC wr (w.heap.size + 1) (bnA n p' len cap') tN2 ∧ Below w.heap.size w wr)
  case atStart => exact ⟨0, by omega, rfl, hA0.out, hA1.out, hAB.out⟩
  case round =>
    obtain ⟨i, hig, rfl, hA, hA', hbel⟩ := hrel
    have HA := Lib.hid hA
    have HA' := Lib.hid hA'
    have HBL := Lib.hid hbel
    have hzr := hbel.size
    clear hA hA' hbel a0 a1 a2 a3 a4 a5 a6 a7 a8 a9 a10 a11 b0 b1 b2 b3 b4 b5 b6 b7 b8 b9 b10 b11 hA0 hA1 hAB
    have a11 : wr.cell? ⟨w.heap.size, 11, none⟩ = some (.slice p len cap) := HA.out.cell 11 _ rfl
    have b11 : wr.cell? ⟨w.heap.size + 1, 11, none⟩ = some (.slice p' len cap') := HA'.out.cell 11 _ rfl
    by_cases hlt : i < len
    · have hli : (i : Int) < (len : Int) := by omega
      obtain ⟨d', b, off, c, p1, l1, c1, hd, rfl, _, hbN, hc, hrc, hrg⟩ := (HR0.out.below HBL.out).at hlt
      obtain ⟨d2, b2, off2, c2, p2, l2, c2', hd2, rfl, _, hbN2, hc2, hrc2, hrg2⟩ := (HR1.out.below HBL.out).at hlt
      obtain rfl : c = c2 := Option.some.inj (hc.symm.trans hc2)
      obtain rfl : d' = d2 := by omega
      obtain rfl : l1 = l2 := by rw [← hrc.len, ← hrc2.len]
      have HC : Hid (RSame1C d') := HIH.out d' hd
      have HCO := Lib.hid (HOK.out c (mem_of_at hc))
      have HCC := Lib.hid (HC.out c p1 p2 l1 c1 c2' wr.drew (hrc.below (Below.drew (Below.refl _ _))) (hrc2.below (Below.drew (Below.refl _ _))) HCO.out)
      rw [bnA_eq c p1 l1 c1, bnA_eq c p2 l1 c2'] at HCC
      have A11 := Kept.at a11
      have B11 := Kept.at b11
      have P0 := Kept.at (show wr.cell? ⟨b, off + i * 12, none⟩ = some (.int .i64 c.kind) from hrg 0 (.int .i64 c.kind) rfl)
      have P1 := Kept.at (show wr.cell? ⟨b, off + i * 12 + 1, none⟩ = some (.int .i64 c.num) from hrg 1 (.int .i64 c.num) rfl)
      have P2 := Kept.at (show wr.cell? ⟨b, off + i * 12 + 2, none⟩ = some (.string ⟨c.text.toArray⟩) from hrg 2 (.string ⟨c.text.toArray⟩) rfl)
      have P3 := Kept.at (show wr.cell? ⟨b, off + i * 12 + 3, none⟩ = some (.int .u64 c.frm.1.1) from hrg 3 (.int .u64 c.frm.1.1) rfl)
      have P4 := Kept.at (show wr.cell? ⟨b, off + i * 12 + 4, none⟩ = some (.int .i64 c.frm.1.2) from hrg 4 (.int .i64 c.frm.1.2) rfl)
      have P5 := Kept.at (show wr.cell? ⟨b, off + i * 12 + 5, none⟩ = some (.int .u64 c.frm.2.1) from hrg 5 (.int .u64 c.frm.2.1) rfl)
      have P6 := Kept.at (show wr.cell? ⟨b, off + i * 12 + 6, none⟩ = some (.int .i64 c.frm.2.2) from hrg 6 (.int .i64 c.frm.2.2) rfl)
      have P7 := Kept.at (show wr.cell? ⟨b, off + i * 12 + 7, none⟩ = some (.int .u64 c.tor.1.1) from hrg 7 (.int .u64 c.tor.1.1) rfl)
      have P8 := Kept.at (show wr.cell? ⟨b, off + i * 12 + 8, none⟩ = some (.int .i64 c.tor.1.2) from hrg 8 (.int .i64 c.tor.1.2) rfl)
      have P9 := Kept.at (show wr.cell? ⟨b, off + i * 12 + 9, none⟩ = some (.int .u64 c.tor.2.1) from hrg 9 (.int .u64 c.tor.2.1) rfl)
      have P10 := Kept.at (show wr.cell? ⟨b, off + i * 12 + 10, none⟩ = some (.int .i64 c.tor.2.2) from hrg 10 (.int .i64 c.tor.2.2) rfl)
      have P11 := Kept.at (show wr.cell? ⟨b, off + i * 12 + 11, none⟩ = some (.slice p1 l1 c1) from hrg 11 (.slice p1 l1 c1) rfl)
      have Q0 := Kept.at (show wr.cell? ⟨b2, off2 + i * 12, none⟩ = some (.int .i64 c.kind) from hrg2 0 (.int .i64 c.kind) rfl)
      have Q1 := Kept.at (show wr.cell? ⟨b2, off2 + i * 12 + 1, none⟩ = some (.int .i64 c.num) from hrg2 1 (.int .i64 c.num) rfl)
      have Q2 := Kept.at (show wr.cell? ⟨b2, off2 + i * 12 + 2, none⟩ = some (.string ⟨c.text.toArray⟩) from hrg2 2 (.string ⟨c.text.toArray⟩) rfl)
      have Q3 := Kept.at (show wr.cell? ⟨b2, off2 + i * 12 + 3, none⟩ = some (.int .u64 c.frm.1.1) from hrg2 3 (.int .u64 c.frm.1.1) rfl)
      have Q4 := Kept.at (show wr.cell? ⟨b2, off2 + i * 12 + 4, none⟩ = some (.int .i64 c.frm.1.2) from hrg2 4 (.int .i64 c.frm.1.2) rfl)
      have Q5 := Kept.at (show wr.cell? ⟨b2, off2 + i * 12 + 5, none⟩ = some (.int .u64 c.frm.2.1) from hrg2 5 (.int .u64 c.frm.2.1) rfl)
      have Q6 := Kept.at (show wr.cell? ⟨b2, off2 + i * 12 + 6, none⟩ = some (.int .i64 c.frm.2.2) from hrg2 6 (.int .i64 c.frm.2.2) rfl)
      have Q7 := Kept.at (show wr.cell? ⟨b2, off2 + i * 12 + 7, none⟩ = some (.int .u64 c.tor.1.1) from hrg2 7 (.int .u64 c.tor.1.1) rfl)
      have Q8 := Kept.at (show wr.cell? ⟨b2, off2 + i * 12 + 8, none⟩ = some (.int .i64 c.tor.1.2) from hrg2 8 (.int .i64 c.tor.1.2) rfl)
      have Q9 := Kept.at (show wr.cell? ⟨b2, off2 + i * 12 + 9, none⟩ = some (.int .u64 c.tor.2.1) from hrg2 9 (.int .u64 c.tor.2.1) rfl)
      have Q10 := Kept.at (show wr.cell? ⟨b2, off2 + i * 12 + 10, none⟩ = some (.int .i64 c.tor.2.2) from hrg2 10 (.int .i64 c.tor.2.2) rfl)
      have Q11 := Kept.at (show wr.cell? ⟨b2, off2 + i * 12 + 11, none⟩ = some (.slice p2 l1 c2') from hrg2 11 (.slice p2 l1 c2') rfl)
      go_upto_region 6 with fail
      refine wp_region_sched (fun wx => ∃ x : Kept wr.heap.size wr, wx = x.v) [([0, 1, 2, 3, 4, 5, 6, 7, 8, 9], 10)] [11] (by kernel_rfl) (by kernel_rfl) (by kernel_rfl) rfl (kept_drew _ _ (Nat.le_refl _)) ?_
      (unfold wpSeg; simp only [pick_nil, pick_cons, nthO_zero, nthO_succ, List.append])
      clear a11 b11 hrg hrg2 hrc hrc2 hc hc2 hd hd2 HC
      repeat (go_big_quiet_step (fail))
      refine wpQuiet_nil ?_
      go_wp2_with fail
      refine HCC.out.mono ?_
      rintro e w3 ⟨rfl, hb3⟩
      have hb4 : Hid (Below wr.heap.size wr w3) := bel_call hb3 (Below.drew (Below.refl _ _)) (Nat.le_refl _)
      have HA3 := Lib.hid (HA.out.below hb4.out)
      have HA3' := Lib.hid (HA'.out.below hb4.out)
      have hB3 : Hid (Below w.heap.size w w3) := bel_call hb4.out HBL.out HBL.out.size
      clear hb3
      go_wp2_with fail
      refine ⟨rfl, ⟨⟨w3, hb4.out⟩, rfl⟩, ?_⟩
      (unfold wpSeg; simp only [pick_nil, pick_cons, nthO_zero, nthO_succ, List.append])
      repeat (go_big_quiet_step (fail))
      refine wpQuiet_nil ?_
      clear HA HA' HBL HCC hb4 A11 B11 P0 P1 P2 P3 P4 P5 P6 P7 P8 P9 P10 P11 Q0 Q1 Q2 Q3 Q4 Q5 Q6 Q7 Q8 Q9 Q10 Q11
      go_wp2_with fail
      go_roundg (gk - 1)
      case measure => omega
      case rel => exact ⟨i + 1, by omega, by go_num, HA3.out, HA3'.out, hB3.out⟩
    · obtain rfl : i = len := by omega
      have hli : ¬ (i : Int) < (i : Int) := by omega
      go_wp2_with fail
      go_ret
      exact ⟨rfl, HBL.out⟩
theorem rsame1_any : ∀ d, RSame1C d
  | 0 => rsame1_s 0 (fun d' h => by omega)
  | d + 1 => rsame1_s (d + 1) (fun d' h => (show d = d' from by omega) ▸ rsame1_any d)
end Go.Proofs.YtjklbbmgjjdalaaGreatDoor.Bd
