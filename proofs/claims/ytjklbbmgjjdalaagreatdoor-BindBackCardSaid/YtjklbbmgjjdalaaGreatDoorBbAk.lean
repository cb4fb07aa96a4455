/- Trees over stamps: the document's Shape. Printed by gen_map.py. Trees over stamps: the law's Of. Printed by gen_map.py. Trees over stamps: which may be, by the document: plain part, and its Right. Trees over stamps taken from bytes: plain: what is taken is good, and the program's check is the document's. Trees over stamps: bind.Take, the document's Same: the walks. Printed by gen_tnm.py. -/
import Derived.Test.YtjklbbmgjjdalaaGreatDoorBbF
import Derived.Test.YtjklbbmgjjdalaaGreatDoorBbAd
import Derived.Test.YtjklbbmgjjdalaaGreatDoorBbB
import Derived.Test.YtjklbbmgjjdalaaGreatDoorBbA
import Derived.ChangeKeysEq
set_option linter.unusedSimpArgs false
set_option linter.unusedVariables false
namespace Go.Proofs.YtjklbbmgjjdalaaGreatDoor.Bd
open Go.RowKit Go.Joins
theorem kidsM_on {R : Type} {enc : R → List Value} {sz H d' l' c2 k : Nat} {wr w3 w5 : World} {o : Obj} {v v' u : Value} {acc : List (KidQ R)} {c : Tn R} {p2 : Option Addr} (hH : H + 3 ≤ wr.heap.size) (hb : Below wr.heap.size wr w3) (hg : (w3.alloc o).grownBy w5 v.ownBlock)
    (hat : v'.ownBlock = v.ownBlock ∨ v'.ownBlock = some (w3.alloc o).heap.size) (hlt : ∀ b, v.ownBlock = some b → b < wr.heap.size) (hk : ∀ x ∈ acc, RdQ enc sz wr (okQ (H + 3) wr v) d' x.1 x.2.1 x.2.2.1)
    (hn : RdQ enc sz w3 (fun b => wr.heap.size ≤ b) d' c p2 l') :
    ∀ x ∈ acc ++ [(c, p2, l', c2)], RdQ enc sz (w5.setCell ⟨H + 2, k, none⟩ u) (okQ (H + 3) (w5.setCell ⟨H + 2, k, none⟩ u) v') d' x.1 x.2.1 x.2.2.1 := by
  have hs := hb.size
  have hs2 := hg.size
  rw [World.size_alloc] at hs2 hat
  have hblk : ∀ b, H + 2 ≠ b → b < w3.heap.size → v.ownBlock ≠ some b → (w5.setCell ⟨H + 2, k, none⟩ u).heap[b]? = w3.heap[b]? := fun b h1 h2 h3 => by
    rw [heap_setCell_other _ _ _ _ (fun e => h1 e.symm), hg.block b (by rw [World.size_alloc]; omega) (fun e => h3 e.symm), heap_alloc_old _ _ h2]
  intro x hx
  rcases List.mem_append.1 hx with hx | hx
  · refine RdQ.carry (fun b hb' hlb => ?_) (hk x hx)
    obtain ⟨h1, h2, h3⟩ := hb'
    refine ⟨⟨h1, by rw [World.size_setCell]; omega, ?_⟩, ?_⟩
    · rcases hat with e | e
      · rw [e]; exact h3
      · rw [e]; intro e'; have := Option.some.inj e'; omega
    · rw [hblk b (by omega) (by omega) h3, hb.block b h2]
  · obtain rfl := List.mem_singleton.1 hx
    refine RdQ.carry (fun b h1 h2 => ?_) hn
    have h3 : v.ownBlock ≠ some b := fun e => by have := hlt b e; omega
    refine ⟨⟨by omega, by rw [World.size_setCell]; omega, ?_⟩, ?_⟩
    · rcases hat with e | e
      · rw [e]; exact h3
      · rw [e]; intro e'; have := Option.some.inj e'; omega
    · exact hblk b (by omega) h2 h3
end Go.Proofs.YtjklbbmgjjdalaaGreatDoor.Bd
namespace Go.Proofs.YtjklbbmgjjdalaaGreatDoor.Bd
open Go.RowKit Go.Joins
abbrev ofT : Bn → Bn := fun n => n
theorem ofT_args (n : Bn) : (ofT n).args = n.args.map ofT := (List.map_id' _).symm
def ofC (d : Nat) : Prop := ∀ (n : Bn) (p : Option Addr) (len cap : Nat) (w : World), RdQ rfE 12 w okA d n p len → Sm n → Calls Tryz.prog 12 #[.agg (bnA n p len cap)] w fun e w' => (∃ p' cap', e = .returned (.agg (bnA (ofT n) p' len cap')) ∧ RdQ rfE 12 w' (fun b => w.heap.size ≤ b) d (ofT n) p' len) ∧ Below w.heap.size w w'
set_option maxRecDepth 100000 in
set_option maxHeartbeats 16000000 in
theorem of_s (d : Nat) (IH : ∀ d', d = d' + 1 → ofC d') : ofC d := by
  intro n p len cap w hrd hok
  have HRD := Lib.hid hrd
  have HIH := Lib.hid IH
  have hlen := hok.len
  rw [hrd.len] at hlen
  have HAL := Lib.hid hrd.len
  have HOK := Lib.hid (fun c hc => Sm.child (c := c) hok hc)
  have HGA : Hid ((ofT n).args = n.args.map ofT) := ofT_args n
  rw [show Value.agg (bnA n p len cap) = .agg #[.int .i64 n.kind, .int .i64 n.num, .string ⟨n.text.toArray⟩, .int .u64 n.frm.1.1, .int .i64 n.frm.1.2, .int .u64 n.frm.2.1, .int .i64 n.frm.2.2, .int .u64 n.tor.1.1, .int .i64 n.tor.1.2, .int .u64 n.tor.2.1, .int .i64 n.tor.2.2, .slice p len cap] from rfl]
  clear hrd IH hok
  obtain ⟨i0, hi, hz0, hz1, hz2⟩ := info_of info_n2
  go_enter Tryz.func12, Tryz.ntmps12
  go_wp2_with fail
  go_loopg [4] len (fun g v4 wr => ∃ (i : Nat) (acc : List (KidQ Rfp)) (q : Option Addr) (cp : Nat), i + g = len ∧ v4 = .int .i64 i ∧ acc.map Prod.fst = (n.args.take i).map ofT ∧ BlkC wr w.heap.size (bnA n p len cap) tNr ∧ BlkC wr (w.heap.size + 1) (bnA bnZ none 0 0) tN2 ∧ BlkC wr (w.heap.size + 2) (bnA (ofT n) q i cp) tN2 ∧ wr.ownsRow (w.heap.size + 3) tN2 12 (.slice q i cp) i (acc.flatMap (kidQ rfE)) ∧ (∀ d', d = d' + 1 → ∀ x ∈ acc, RdQ rfE 12 wr (okQ (w.heap.size + 3) wr (.slice q i cp)) d' x.1 x.2.1 x.2.2.1) ∧ Below w.heap.size w wr)
  case atStart =>
    refine ⟨0, [], none, 0, by omega, rfl, rfl, (three_heap w _ _ _).1, (three_heap w _ _ _).2.1, by cases n; exact (three_heap w _ _ _).2.2, World.ownsRow_nil _ _ _ _, fun _ _ x hx => (by cases hx), three_below _ _ _⟩
  case round =>
    obtain ⟨i, acc, q, cp, hig, rfl, hacc, hn1, hn0, hn2, hown, hkid, hbel⟩ := hrel
    have HAC := Lib.hid hacc
    have HN1 := Lib.hid hn1
    have HN0 := Lib.hid hn0
    have HN2 := Lib.hid hn2
    have HOW := Lib.hid hown
    have HKD := Lib.hid hkid
    have HBL := Lib.hid hbel
    have hzr := hbel.size
    have hH2 : w.heap.size + 2 < wr.heap.size := lt_some hn2
    clear hacc hn1 hn0 hn2 hown hkid hbel
    have a11 : wr.cell? ⟨w.heap.size, 11, none⟩ = some (.slice p len cap) := HN1.out.cell 11 _ rfl
    have b11 : wr.cell? ⟨w.heap.size + 2, 11, none⟩ = some (.slice q i cp) := HN2.out.cell 11 _ rfl
    by_cases hlt : i < len
    · have hli : (i : Int) < (len : Int) := by omega
      obtain ⟨d', b, off, c, p', l', c', hd, rfl, _, hbN, hc, hrc, hrg⟩ := (HRD.out.below HBL.out).at hlt
      have hbN' : b < w.heap.size := by
        obtain ⟨d2, b2, off2, _, _, _, _, _, e, _, h2, _⟩ := HRD.out.at hlt
        cases e
        exact h2
      have HC : Hid (ofC d') := HIH.out d' hd
      have HCO := Lib.hid (HOK.out c (mem_of_at hc))
      have A11 := Kept.cell (N := w.heap.size + 3) a11 (by omega)
      have B11 := Kept.cell (N := w.heap.size + 3) b11 (by omega)
      have Q0 := Kept.cell (N := w.heap.size + 3) (show wr.cell? ⟨b, off + i * 12, none⟩ = some (.int .i64 c.kind) from hrg 0 (.int .i64 c.kind) rfl) (by omega)
      have Q1 := Kept.cell (N := w.heap.size + 3) (show wr.cell? ⟨b, off + i * 12 + 1, none⟩ = some (.int .i64 c.num) from hrg 1 (.int .i64 c.num) rfl) (by omega)
      have Q2 := Kept.cell (N := w.heap.size + 3) (show wr.cell? ⟨b, off + i * 12 + 2, none⟩ = some (.string ⟨c.text.toArray⟩) from hrg 2 (.string ⟨c.text.toArray⟩) rfl) (by omega)
      have Q3 := Kept.cell (N := w.heap.size + 3) (show wr.cell? ⟨b, off + i * 12 + 3, none⟩ = some (.int .u64 c.frm.1.1) from hrg 3 (.int .u64 c.frm.1.1) rfl) (by omega)
      have Q4 := Kept.cell (N := w.heap.size + 3) (show wr.cell? ⟨b, off + i * 12 + 4, none⟩ = some (.int .i64 c.frm.1.2) from hrg 4 (.int .i64 c.frm.1.2) rfl) (by omega)
      have Q5 := Kept.cell (N := w.heap.size + 3) (show wr.cell? ⟨b, off + i * 12 + 5, none⟩ = some (.int .u64 c.frm.2.1) from hrg 5 (.int .u64 c.frm.2.1) rfl) (by omega)
      have Q6 := Kept.cell (N := w.heap.size + 3) (show wr.cell? ⟨b, off + i * 12 + 6, none⟩ = some (.int .i64 c.frm.2.2) from hrg 6 (.int .i64 c.frm.2.2) rfl) (by omega)
      have Q7 := Kept.cell (N := w.heap.size + 3) (show wr.cell? ⟨b, off + i * 12 + 7, none⟩ = some (.int .u64 c.tor.1.1) from hrg 7 (.int .u64 c.tor.1.1) rfl) (by omega)
      have Q8 := Kept.cell (N := w.heap.size + 3) (show wr.cell? ⟨b, off + i * 12 + 8, none⟩ = some (.int .i64 c.tor.1.2) from hrg 8 (.int .i64 c.tor.1.2) rfl) (by omega)
      have Q9 := Kept.cell (N := w.heap.size + 3) (show wr.cell? ⟨b, off + i * 12 + 9, none⟩ = some (.int .u64 c.tor.2.1) from hrg 9 (.int .u64 c.tor.2.1) rfl) (by omega)
      have Q10 := Kept.cell (N := w.heap.size + 3) (show wr.cell? ⟨b, off + i * 12 + 10, none⟩ = some (.int .i64 c.tor.2.2) from hrg 10 (.int .i64 c.tor.2.2) rfl) (by omega)
      have Q11 := Kept.cell (N := w.heap.size + 3) (show wr.cell? ⟨b, off + i * 12 + 11, none⟩ = some (.slice p' l' c') from hrg 11 (.slice p' l' c') rfl) (by omega)
      go_upto_region 5 with fail
      refine wp_region_schedT (fun wx => ∃ x : Kept (w.heap.size + 3) wr, wx = x.v) 11 [([0,1,2,3,4,5,6],7),([],8),([],9)] [10] (by kernel_rfl) (by kernel_rfl) (by kernel_rfl) (by kernel_rfl) (kept_drew _ _ (by omega)) ?_
      (unfold wpSegK; simp only [pick_nil, pick_cons, nthO_zero, nthO_succ, List.append])
      clear hrg a11 b11
      repeat (go_big_quiet_step (fail))
      refine wpQuiet_nil ?_
      have HRC := Lib.hid hrc
      have HHC := Lib.hid hc
      have HHD := Lib.hid hd
      clear hrc hc hd
      have HCC := Lib.hid (HC.out c p' l' c' wr.drew (HRC.out.below (Below.drew (Below.refl _ _))) HCO.out)
      rw [show Value.agg (bnA c p' l' c') = .agg #[.int .i64 c.kind, .int .i64 c.num, .string ⟨c.text.toArray⟩, .int .u64 c.frm.1.1, .int .i64 c.frm.1.2, .int .u64 c.frm.2.1, .int .i64 c.frm.2.2, .int .u64 c.tor.1.1, .int .i64 c.tor.1.2, .int .u64 c.tor.2.1, .int .i64 c.tor.2.2, .slice p' l' c'] from rfl] at HCC
      go_wp2_with fail
      refine HCC.out.mono ?_
      rintro e w3 ⟨⟨p2, c2, rfl, hk3⟩, hb3⟩
      have hb4 : Hid (Below wr.heap.size wr w3) := bel_call hb3 (Below.drew (Below.refl _ _)) (Nat.le_refl _)
      have HK3 := Lib.hid hk3
      rw [show Value.agg (bnA (ofT c) p2 l' c2) = .agg #[.int .i64 (ofT c).kind, .int .i64 (ofT c).num, .string ⟨(ofT c).text.toArray⟩, .int .u64 (ofT c).frm.1.1, .int .i64 (ofT c).frm.1.2, .int .u64 (ofT c).frm.2.1, .int .i64 (ofT c).frm.2.2, .int .u64 (ofT c).tor.1.1, .int .i64 (ofT c).tor.1.2, .int .u64 (ofT c).tor.2.1, .int .i64 (ofT c).tor.2.2, .slice p2 l' c2] from rfl]
      clear HCC hk3 hb3
      go_wp2_with fail
      have hB3 : Hid (Below (w.heap.size + 3) wr w3) := hb4.out.mono (by omega)
      refine ⟨rfl, ⟨⟨w3, hB3.out⟩, rfl⟩, ?_⟩
      (unfold wpSegK; simp only [pick_nil, pick_cons, nthO_zero, nthO_succ, List.append])
      refine wpQuiet_nil ?_
      go_wp2_with fail
      refine ⟨rfl, ⟨⟨_, hB3.out.alloc (by have := hb4.out.size; omega) _⟩, rfl⟩, ?_⟩
      (unfold wpSegK; simp only [pick_nil, pick_cons, nthO_zero, nthO_succ, List.append])
      refine wpQuiet_nil ?_
      have HRW := Lib.hid (row_below HOW.out hb4.out)
      refine wpList_append_own_at _ rfl _ _ _ rfl (w.heap.size + 3) tN2 i0 _ 12 120 Tryz.underlying51 hi hz0 hz1 hz2 rfl (by decide) _ _ _ rfl (HRW.out.alloc _) ⟨w3.heap.size, 0, none⟩ 1 1 (kidQ rfE (ofT c, p2, l', c2)) rfl rfl (newN2 w3 (ofT c) p2 l' c2) ?c2 ?c3 ?c4 ?c5 ?_
      case c2 => exact kidR_one (ofT c, p2, l', c2)
      case c3 => unfold maxLen; omega
      case c4 => omega
      case c5 => rw [World.size_alloc]; have := hb4.out.size; omega
      intro v' w5 hown5 hgrow5 _ hat5
      have hB5 : Hid (Below (w.heap.size + 3) wr w5) := (hB3.out.alloc (by have := hb4.out.size; omega) _).grown hgrow5 (by rw [World.size_alloc]; have := hb4.out.size; omega) (fun k hk => (HRW.out.lt k hk).1)
      have HOW5 : Hid (w5.ownsRow (w.heap.size + 3) tN2 12 v' (i + 1) ((acc ++ [(ofT c, p2, l', c2)]).flatMap (kidQ rfE))) := by
        unfold Hid
        rw [flat_snoc]
        exact hown5
      have hla : acc.length = i := by
        have h := congrArg List.length HAC.out
        rw [List.length_map, List.length_map, List.length_take, HAL.out] at h
        omega
      obtain ⟨q5, cp5, hv5, _, _, _, _⟩ := RdG.of_own kidR_len (by rw [List.length_append, List.length_singleton, hla]) HOW5.out
      subst hv5
      have HN5 : Hid (BlkC w5 (w.heap.size + 2) (bnA (ofT n) q i cp) tN2) := (hB5.out.block _ (by omega)).trans HN2.out
      have HKN := Lib.hid (kidsM_on (k := 11) (u := .slice q5 (i + 1) cp5) (c2 := c2) (by omega) hb4.out hgrow5 hat5 (fun b e => (HOW.out.lt b e).2) (HKD.out d' HHD.out) HK3.out)
      clear hown5 hgrow5 hat5 HRW HK3 HKD HCO HC HIH HOK A11 B11 Q0 Q1 Q2 Q3 Q4 Q5 Q6 Q7 Q8 Q9 Q10 Q11
      have e11 : w5.cell? ⟨w.heap.size + 2, 11, none⟩ = some (.slice q i cp) := HN5.out.cell 11 _ rfl
      have g11 := HN5.out.fz 11
      go_wp2_with fail
      refine ⟨rfl, ⟨⟨w5, hB5.out⟩, rfl⟩, ?_⟩
      (unfold wpSegK; simp only [pick_nil, pick_cons, nthO_zero, nthO_succ, List.append])
      repeat (go_big_quiet_step (fail))
      refine wpQuiet_nil ?_
      go_wp2_with fail
      refine ⟨rfl, ?_⟩
      have HP6 : Hid (BlkC (w5.setCell ⟨w.heap.size + 2, 11, none⟩ (.slice q5 (i + 1) cp5)) (w.heap.size + 2) (bnA (ofT n) q5 (i + 1) cp5) tN2) := block_setCell HN5.out _
      have HR6 : Hid (BlkC (w5.setCell ⟨w.heap.size + 2, 11, none⟩ (.slice q5 (i + 1) cp5)) w.heap.size (bnA n (some ⟨b, off, none⟩) len cap) tNr) := by
        unfold Hid BlkC
        rw [heap_setCell_other _ _ _ _ (by show w.heap.size ≠ w.heap.size + 2; omega), hB5.out.block _ (by omega)]
        exact HN1.out
      have HZ6 : Hid (BlkC (w5.setCell ⟨w.heap.size + 2, 11, none⟩ (.slice q5 (i + 1) cp5)) (w.heap.size + 1) (bnA bnZ none 0 0) tN2) := by
        unfold Hid BlkC
        rw [heap_setCell_other _ _ _ _ (by show w.heap.size + 1 ≠ w.heap.size + 2; omega), hB5.out.block _ (by omega)]
        exact HN0.out
      have HW6 : Hid ((w5.setCell ⟨w.heap.size + 2, 11, none⟩ (.slice q5 (i + 1) cp5)).ownsRow (w.heap.size + 3) tN2 12 (.slice q5 (i + 1) cp5) (i + 1) ((acc ++ [(ofT c, p2, l', c2)]).flatMap (kidQ rfE))) :=
        row_carry HOW5.out (fun b hb => heap_setCell_other _ _ _ _ (by have := (HOW5.out.lt b hb).1; show b ≠ w.heap.size + 2; omega))
      have HL6 : Hid (Below w.heap.size w (w5.setCell ⟨w.heap.size + 2, 11, none⟩ (.slice q5 (i + 1) cp5))) := (HBL.out.trans (hB5.out.mono (by omega))).setCell (by show w.heap.size ≤ w.heap.size + 2; omega) _
      have HAN : Hid ((acc ++ [(ofT c, p2, l', c2)]).map Prod.fst = (n.args.take (i + 1)).map ofT) := by
        unfold Hid
        rw [List.map_append, HAC.out, List.take_add_one, HHC.out, List.map_append]
        rfl
      have e6 : w5.setCell ⟨w.heap.size + 1 + 1, 11, none⟩ (.slice q5 (i + 1) cp5) = w5.setCell ⟨w.heap.size + 2, 11, none⟩ (.slice q5 (i + 1) cp5) := rfl
      rw [e6]
      generalize w5.setCell ⟨w.heap.size + 2, 11, none⟩ (.slice q5 (i + 1) cp5) = w6 at HP6 HR6 HZ6 HW6 HL6 HKN ⊢
      clear e6 HHC HN5 HN0 HN1 HN2 HOW HOW5 hB5 hB3 hb4 e11 g11 HBL
      go_wp2_with fail
      go_roundg (gk - 1)
      case measure => omega
      case rel =>
        refine ⟨i + 1, acc ++ [(ofT c, p2, l', c2)], q5, cp5, by omega, by go_num, HAN.out, HR6.out, HZ6.out, HP6.out, HW6.out, fun d'' hd x hx => ?_, HL6.out⟩
        obtain rfl : d' = d'' := by have := HHD.out; omega
        exact HKN.out x hx
    · obtain rfl : i = len := by omega
      have hli : ¬ (i : Int) < (i : Int) := by omega
      go_upto_region 6 with fail
      refine wp_region_lit ?_
      refine wpList_load_mid (by rfl) _ _ (by rfl) (w.heap.size + 2) 0 (by rfl) [.int .i64 (ofT n).kind, .int .i64 (ofT n).num, .string ⟨(ofT n).text.toArray⟩, .int .u64 (ofT n).frm.1.1, .int .i64 (ofT n).frm.1.2, .int .u64 (ofT n).frm.2.1, .int .i64 (ofT n).frm.2.2, .int .u64 (ofT n).tor.1.1, .int .i64 (ofT n).tor.1.2, .int .u64 (ofT n).tor.2.1, .int .i64 (ofT n).tor.2.2, .slice q i cp] _ (block_range HN2.out [.int .i64 (ofT n).kind, .int .i64 (ofT n).num, .string ⟨(ofT n).text.toArray⟩, .int .u64 (ofT n).frm.1.1, .int .i64 (ofT n).frm.1.2, .int .u64 (ofT n).frm.2.1, .int .i64 (ofT n).frm.2.2, .int .u64 (ofT n).tor.1.1, .int .i64 (ofT n).tor.1.2, .int .u64 (ofT n).tor.2.1, .int .i64 (ofT n).tor.2.2, .slice q i cp] rfl) Tryz.underlying53 rfl (by kernel_rfl) ?_
      go_simp
      refine wpList_store_mid (by rfl) _ _ _ (by rfl) (w.heap.size + 1) 0 #[.int .i64 (ofT n).kind, .int .i64 (ofT n).num, .string ⟨(ofT n).text.toArray⟩, .int .u64 (ofT n).frm.1.1, .int .i64 (ofT n).frm.1.2, .int .u64 (ofT n).frm.2.1, .int .i64 (ofT n).frm.2.2, .int .u64 (ofT n).tor.1.1, .int .i64 (ofT n).tor.1.2, .int .u64 (ofT n).tor.2.1, .int .i64 (ofT n).tor.2.2, .slice q i cp] (by rfl) (by rfl) (block_there HN0.out 12 (Nat.le_refl _)) (by kernel_rfl) (by simp [Value.oneCell']) ?_
      have hs8 : Hid (BlkC (wr.setCells (w.heap.size + 1) 0 #[.int .i64 (ofT n).kind, .int .i64 (ofT n).num, .string ⟨(ofT n).text.toArray⟩, .int .u64 (ofT n).frm.1.1, .int .i64 (ofT n).frm.1.2, .int .u64 (ofT n).frm.2.1, .int .i64 (ofT n).frm.2.2, .int .u64 (ofT n).tor.1.1, .int .i64 (ofT n).tor.1.2, .int .u64 (ofT n).tor.2.1, .int .i64 (ofT n).tor.2.2, .slice q i cp].toList) (w.heap.size + 1) (bnA (ofT n) q i cp) tN2) := store_block HN0.out _ rfl
      have hb8 : Hid (Below w.heap.size w (wr.setCells (w.heap.size + 1) 0 #[.int .i64 (ofT n).kind, .int .i64 (ofT n).num, .string ⟨(ofT n).text.toArray⟩, .int .u64 (ofT n).frm.1.1, .int .i64 (ofT n).frm.1.2, .int .u64 (ofT n).frm.2.1, .int .i64 (ofT n).frm.2.2, .int .u64 (ofT n).tor.1.1, .int .i64 (ofT n).tor.1.2, .int .u64 (ofT n).tor.2.1, .int .i64 (ofT n).tor.2.2, .slice q i cp].toList)) := store_below (by omega) _ _ _ HBL.out
      have hn8 : Hid (∀ k', k' ≠ w.heap.size + 1 → (wr.setCells (w.heap.size + 1) 0 #[.int .i64 (ofT n).kind, .int .i64 (ofT n).num, .string ⟨(ofT n).text.toArray⟩, .int .u64 (ofT n).frm.1.1, .int .i64 (ofT n).frm.1.2, .int .u64 (ofT n).frm.2.1, .int .i64 (ofT n).frm.2.2, .int .u64 (ofT n).tor.1.1, .int .i64 (ofT n).tor.1.2, .int .u64 (ofT n).tor.2.1, .int .i64 (ofT n).tor.2.2, .slice q i cp].toList).heap[k']? = wr.heap[k']?) := fun k' h => store_other h _ _ _
      generalize wr.setCells (w.heap.size + 1) 0 #[.int .i64 (ofT n).kind, .int .i64 (ofT n).num, .string ⟨(ofT n).text.toArray⟩, .int .u64 (ofT n).frm.1.1, .int .i64 (ofT n).frm.1.2, .int .u64 (ofT n).frm.2.1, .int .i64 (ofT n).frm.2.2, .int .u64 (ofT n).tor.1.1, .int .i64 (ofT n).tor.1.2, .int .u64 (ofT n).tor.2.1, .int .i64 (ofT n).tor.2.2, .slice q i cp].toList = w9 at hs8 hb8 hn8 ⊢
      go_simp
      iterate 3 (first | go_values | go_skip | go_guarded | go_step | go_upon)
      apply wp_ret
      try simp only [Exit.inBlock, Exit.then]
      refine bodyPost_ret (results_cell_row rfl _ _ (w.heap.size + 1) tN2 (bnA (ofT n) q i cp) (0, 0) _ rfl hs8.out Tryz.underlying53 rfl (by kernel_rfl)) rfl ?_
      have hla : acc.length = i := by
        have h := congrArg List.length HAC.out
        rw [List.length_map, List.length_map, List.length_take, HAL.out] at h
        omega
      refine ⟨⟨q, cp, rfl, ?_⟩, hb8.out⟩
      have hac : acc.map Prod.fst = (ofT n).args := by rw [HAC.out, List.take_of_length_le (by rw [HAL.out]; exact Nat.le_refl _)]; exact HGA.out.symm
      cases d with
      | zero =>
        have h := HRD.out
        exact ⟨by rw [HGA.out, h.1]; rfl, h.2⟩
      | succ d =>
        obtain ⟨q', cp', hv, hr⟩ := RdQ.of_row (n := ofT n) (ok := fun k' => w.heap.size + 3 ≤ k') kidR_len (by rw [hla]; exact HOW.out) hac (fun x hx => RdQ.weak (HKD.out d rfl x hx) (fun k' h => h.1)) (fun k' h => (HOW.out.lt k' h).1)
        cases hv
        rw [hla] at hr
        exact RdQ.carry (fun k' h1 h2 => ⟨by omega, hn8.out k' (by omega)⟩) hr
theorem of_any : ∀ d, ofC d
  | 0 => of_s 0 (fun d' h => by omega)
  | d + 1 => of_s (d + 1) (fun d' h => (show d = d' from by omega) ▸ of_any d)
end Go.Proofs.YtjklbbmgjjdalaaGreatDoor.Bd
namespace Go.Proofs.YtjklbbmgjjdalaaGreatDoor.Bd
open Go.RowKit Go.Joins
inductive Gd : Bn → Prop
  | mk (k u : Int) (t : List UInt8) (f o : Rfp) (a : List Bn) (h1 : t.length ≤ 100000) (h2 : a.length ≤ 100000) (h3 : -9223372036854775808 ≤ u ∧ u ≤ 9223372036854775807) (h4 : 0 ≤ f.1.1 ∧ 0 ≤ f.2.1 ∧ 0 ≤ o.1.1 ∧ 0 ≤ o.2.1) (h5 : ∀ c ∈ a, Gd c) : Gd (.mk k u t f o a)
theorem Gd.sm : ∀ {n : Bn}, Gd n → Sm n
  | _, .mk k u t f o a h1 h2 h3 h4 h5 => .mk k u t f o a (by omega) h2 (fun c hc => (h5 c hc).sm)
theorem Gd.child {n c : Bn} (h : Gd n) (hc : c ∈ n.args) : Gd c := by cases h with | mk k u t f o a h1 h2 h3 h4 h5 => exact h5 c hc
def rgN : Bn → Bool
  | .mk k u t f o a => rtT (.mk k u t f o a) 64 && (stO k f o && rgL a)
where rgL : List Bn → Bool
  | [] => true
  | c :: r => rgN c && rgL r
theorem rgN_eq (n : Bn) : rgN n = (rtT n 64 && (stO n.kind n.frm n.tor && rgN.rgL n.args)) := by cases n; rw [rgN]; rfl
end Go.Proofs.YtjklbbmgjjdalaaGreatDoor.Bd
namespace Go.Proofs.YtjklbbmgjjdalaaGreatDoor.Bd
open Go.RowKit Go.Joins
theorem headT_mono {n : Bn} {lv lv' : Int} (h : lv ≤ lv') (hh : headT n lv = true) : headT n lv' = true := by
  unfold headT at hh ⊢
  rw [Bool.and_eq_true] at hh ⊢
  exact ⟨by have := hh.1; simp only [decide_eq_true_eq] at this ⊢; omega, hh.2⟩
mutual
theorem rtT_mono : ∀ (n : Bn) (lv lv' : Int), lv ≤ lv' → rtT n lv = true → rtT n lv' = true
  | .mk k u t f o a, lv, lv', h, hr => by
    rw [rtT] at hr ⊢
    rw [Bool.and_eq_true, Bool.and_eq_true] at hr ⊢
    exact ⟨⟨headT_mono h hr.1.1, hr.1.2⟩, rtTL_mono a (lv - 1) (lv' - 1) (by omega) hr.2⟩
theorem rtTL_mono : ∀ (a : List Bn) (lv lv' : Int), lv ≤ lv' → rtTL a lv = true → rtTL a lv' = true
  | [], lv, lv', h, hr => by rw [rtTL]
  | c :: r, lv, lv', h, hr => by
    rw [rtTL, Bool.and_eq_true] at hr ⊢
    exact ⟨rtT_mono c lv lv' h hr.1, rtTL_mono r lv lv' h hr.2⟩
end
mutual
theorem rg_st : ∀ (n : Bn) (lv : Int), lv ≤ 64 → rtT n lv = true → rgN n = stB n
  | .mk k u t f o a, lv, h, hr => by
    have h64 := rtT_mono _ lv 64 h hr
    rw [rgN, stB, h64, Bool.true_and]
    rw [rtT, Bool.and_eq_true] at hr
    rw [rg_stL a (lv - 1) (by omega) hr.2]
theorem rg_stL : ∀ (a : List Bn) (lv : Int), lv ≤ 64 → rtTL a lv = true → rgN.rgL a = stBL a
  | [], lv, h, hr => by rw [rgN.rgL, stBL]
  | c :: r, lv, h, hr => by
    rw [rtTL, Bool.and_eq_true] at hr
    rw [rgN.rgL, stBL, rg_st c lv h hr.1, rg_stL r lv h hr.2]
end
theorem rg_is (n : Bn) : rgN n = (stB n && rtT n 64) := by
  cases h : rtT n 64 with
  | true => rw [rg_st n 64 (by omega) h, Bool.and_true]
  | false => rw [rgN_eq, h]; cases stB n <;> rfl
def takB (L : List UInt8) : Option (Bn × List UInt8) := (rkN 64 L).bind fun x => if rgN x.1 = true then some x else none
theorem takB_prog (L : List UInt8) : takB L = (tkN 64 L).bind fun x => if rtT x.1 64 = true then some x else none := by
  unfold takB
  rw [tkN_is]
  cases rkN 64 L with
  | none => rfl
  | some x =>
    simp only [Option.bind_some]
    rw [rg_is]
    cases hA : stB x.1 <;> cases hB : rtT x.1 64 <;> simp [hA, hB]
theorem wrap64_rng (z : Int) : -9223372036854775808 ≤ wrap64 z ∧ wrap64 z ≤ 9223372036854775807 := by
  unfold wrap64
  omega
theorem bytR_len (S : Option (List UInt8)) : (bytR S).1.length ≤ 65536 := by
  have h := intR_le 65536 S
  rw [bytR_is]
  split
  · exact Nat.zero_le _
  · rename_i n r e
    rw [e] at h
    have h : n ≤ 65536 := h
    split
    · exact Nat.zero_le _
    · simp only [List.length_take]
      omega
theorem stR_pos (S : Option (List UInt8)) : 0 ≤ (stR S).1.1 := by
  show (0 : Int) ≤ ((numR S).1 : Nat)
  omega
theorem prR_pos (S : Option (List UInt8)) : 0 ≤ (prR S).1.1.1 ∧ 0 ≤ (prR S).1.2.1 := ⟨stR_pos S, stR_pos _⟩
theorem cP_le (k : Nat) (S : Option (List UInt8)) : (cP k S).1 ≤ 16 := by
  unfold cP
  split
  · exact intR_le 16 S
  · unfold cntK; split
    · show 1 ≤ 16; omega
    · split
      · show 2 ≤ 16; omega
      · show 0 ≤ 16; omega
theorem hdQ_good (k : Nat) (S : Option (List UInt8)) : (hdQ k S).t.length ≤ 100000 ∧ (-9223372036854775808 ≤ (hdQ k S).u ∧ (hdQ k S).u ≤ 9223372036854775807) ∧ (0 ≤ (hdQ k S).f.1.1 ∧ 0 ≤ (hdQ k S).f.2.1 ∧ 0 ≤ (hdQ k S).g.1.1 ∧ 0 ≤ (hdQ k S).g.2.1) := by
  have hb := bytR_len S
  have h1 := prR_pos S
  have h2 := prR_pos (prR S).2
  unfold hdQ
  repeat' split
  · exact ⟨Nat.zero_le _, wrap64_rng _, by simp⟩
  · exact ⟨by show (bytR S).1.length ≤ _; omega, by simp, by simp⟩
  · exact ⟨Nat.zero_le _, by simp, h1.1, h1.2, by simp, by simp⟩
  · exact ⟨Nat.zero_le _, by simp, h1.1, h1.2, h2.1, h2.2⟩
  · exact ⟨Nat.zero_le _, by simp, by simp⟩
theorem tkL_good {F : List UInt8 → Option (Bn × List UInt8)} (hF : ∀ L n r, F L = some (n, r) → Gd n ∧ r.length ≤ L.length) : ∀ c L q r, tkL F c L = some (q, r) → q.length = c ∧ (∀ x ∈ q, Gd x) ∧ r.length ≤ L.length
  | 0, L, q, r, h => by
    rw [tkL] at h
    cases h
    exact ⟨rfl, fun x hx => (by cases hx), Nat.le_refl _⟩
  | c + 1, L, q, r, h => by
    rw [tkL_succ] at h
    cases hf : F L with
    | none => rw [hf] at h; cases h
    | some x =>
      obtain ⟨n, r1⟩ := x
      rw [hf, Option.bind_some] at h
      cases ht : tkL F c r1 with
      | none => rw [ht] at h; cases h
      | some y =>
        obtain ⟨q2, r2⟩ := y
        rw [ht] at h
        cases h
        obtain ⟨g1, g2⟩ := hF L n r1 hf
        obtain ⟨g3, g4, g5⟩ := tkL_good hF c r1 q2 _ ht
        refine ⟨by simp [g3], fun x hx => ?_, Nat.le_trans g5 g2⟩
        rcases List.mem_cons.1 hx with rfl | hx
        · exact g1
        · exact g4 x hx
theorem intR_rest {m : Nat} {S : Option (List UInt8)} {k : Nat} {L' : List UInt8} (h : intR m S = (k, some L')) : ∃ L, S = some L ∧ L'.length ≤ L.length := by
  cases S with
  | none => cases h
  | some L =>
    refine ⟨L, rfl, ?_⟩
    unfold intR at h
    simp only [] at h
    cases hi : intD m L with
    | none => rw [hi] at h; cases h
    | some x =>
      obtain ⟨v, r⟩ := x
      rw [hi] at h
      cases h
      unfold intD at hi
      cases hn : numD L with
      | none => rw [hn] at hi; cases hi
      | some y =>
        obtain ⟨v2, r2⟩ := y
        rw [hn] at hi
        simp only [] at hi
        split at hi
        · cases hi
        · cases hi
          have := numL_le _ _ _ _ _ hn
          omega
theorem numR_rest {S : Option (List UInt8)} {k : Nat} {L' : List UInt8} (h : numR S = (k, some L')) : ∃ L, S = some L ∧ L'.length ≤ L.length := by
  rw [← intR_num] at h
  exact intR_rest h
theorem bytR_rest {S : Option (List UInt8)} {t L' : List UInt8} (h : bytR S = (t, some L')) : ∃ L, S = some L ∧ L'.length ≤ L.length := by
  rw [bytR_is] at h
  obtain ⟨⟨n, O⟩, hi⟩ : ∃ x, intR 65536 S = x := ⟨_, rfl⟩
  rw [hi] at h
  cases O with
  | none => cases h
  | some r =>
    simp only [] at h
    split at h
    · cases h
    · cases h
      obtain ⟨L, h1, h2⟩ := intR_rest hi
      exact ⟨L, h1, by rw [List.length_drop]; omega⟩
theorem stR_rest {S : Option (List UInt8)} {x : Idp} {L' : List UInt8} (h : stR S = (x, some L')) : ∃ L, S = some L ∧ L'.length ≤ L.length := by
  have h2 : intR 64 (numR S).2 = ((intR 64 (numR S).2).1, some L') := by
    have : (intR 64 (numR S).2).2 = some L' := congrArg Prod.snd h
    rw [← this]
  obtain ⟨L1, e1, h3⟩ := intR_rest h2
  have h4 : numR S = ((numR S).1, some L1) := by rw [← e1]
  obtain ⟨L, e2, h5⟩ := numR_rest h4
  exact ⟨L, e2, by omega⟩
theorem prR_rest {S : Option (List UInt8)} {x : Idp × Idp} {L' : List UInt8} (h : prR S = (x, some L')) : ∃ L, S = some L ∧ L'.length ≤ L.length := by
  have h2 : stR (stR S).2 = ((stR (stR S).2).1, some L') := by
    have : (stR (stR S).2).2 = some L' := congrArg Prod.snd h
    rw [← this]
  obtain ⟨L1, e1, h3⟩ := stR_rest h2
  have h4 : stR S = ((stR S).1, some L1) := by rw [← e1]
  obtain ⟨L, e2, h5⟩ := stR_rest h4
  exact ⟨L, e2, by omega⟩
theorem hdQ_rest {k : Nat} {S : Option (List UInt8)} {L' : List UInt8} (h : (hdQ k S).S = some L') : ∃ L, S = some L ∧ L'.length ≤ L.length := by
  unfold hdQ at h
  repeat' split at h
  · exact numR_rest (k := (numR S).1) (by rw [← show (numR S).2 = some L' from h])
  · exact bytR_rest (t := (bytR S).1) (by rw [← show (bytR S).2 = some L' from h])
  · exact prR_rest (x := (prR S).1) (by rw [← show (prR S).2 = some L' from h])
  · obtain ⟨L1, e1, h3⟩ := prR_rest (x := (prR (prR S).2).1) (S := (prR S).2) (L' := L') (by rw [← show (prR (prR S).2).2 = some L' from h])
    obtain ⟨L, e2, h5⟩ := prR_rest (x := (prR S).1) (S := S) (L' := L1) (by rw [← e1])
    exact ⟨L, e2, by omega⟩
  · exact ⟨L', h, Nat.le_refl _⟩
theorem rkN_good : ∀ d L n r, rkN d L = some (n, r) → Gd n ∧ r.length ≤ L.length
  | 0, L, n, r, h => by rw [rkN] at h; cases h
  | d + 1, L, n, r, h => by
    rw [rkN] at h
    obtain ⟨⟨k, O⟩, hi⟩ : ∃ x, intR 8 (some L) = x := ⟨_, rfl⟩
    rw [hi] at h
    cases O with
    | none => cases h
    | some L1 =>
      simp only [] at h
      split at h
      · cases h
      · obtain ⟨⟨c, O3⟩, hc⟩ : ∃ x, cP k (hdQ k (some L1)).S = x := ⟨_, rfl⟩
        have hc16 := cP_le k (hdQ k (some L1)).S
        rw [hc] at h hc16
        cases O3 with
        | none => cases h
        | some L3 =>
          simp only [] at h
          cases ht : tkL (rkN d) c L3 with
          | none => rw [ht] at h; cases h
          | some y =>
            obtain ⟨q, r2⟩ := y
            rw [ht] at h
            simp only [Option.map_some, Option.some.injEq, Prod.mk.injEq] at h
            obtain ⟨rfl, rfl⟩ := h
            obtain ⟨g3, g4, g5⟩ := tkL_good (fun L n r => rkN_good d L n r) c L3 q r2 ht
            obtain ⟨h1, h2, h3⟩ := hdQ_good k (some L1)
            have hc16 : c ≤ 16 := hc16
            refine ⟨.mk _ _ _ _ _ _ h1 (by omega) h2 h3 g4, ?_⟩
            obtain ⟨LA, eA, hA⟩ := intR_rest hi
            cases eA
            have hL3 : ∃ L', (hdQ k (some L1)).S = some L' ∧ L3.length ≤ L'.length := by
              unfold cP at hc
              split at hc
              · exact intR_rest hc
              · exact ⟨L3, (Prod.mk.inj hc).2, Nat.le_refl _⟩
            obtain ⟨L', e', h'⟩ := hL3
            obtain ⟨LB, eB, hB⟩ := hdQ_rest e'
            cases eB
            omega
end Go.Proofs.YtjklbbmgjjdalaaGreatDoor.Bd
namespace Go.Proofs.YtjklbbmgjjdalaaGreatDoor.Bd
open Go.RowKit Go.Joins
def BTkP (b : Nat) (O : Option (Bn × List UInt8)) (w : World) (e : Ending) (w' : World) : Prop := Off b w w' ∧ match O with
  | none => e = .returned (.tuple #[.agg (bnA bnZ none 0 0), .bool false])
  | some (x, r) => ∃ p cap, e = .returned (.tuple #[.agg (bnA x p x.args.length cap), .bool true]) ∧ RdQ rfE 12 w' okA 64 x p x.args.length ∧ Rdr w' b (some r)
theorem tkN_good (d : Nat) (L : List UInt8) (x : Bn) (r : List UInt8) (h : tkN d L = some (x, r)) : Gd x ∧ r.length ≤ L.length := by
  rw [tkN_is] at h
  cases hk : rkN d L with
  | none => rw [hk] at h; cases h
  | some z =>
    rw [hk] at h
    simp only [Option.bind_some] at h
    split at h
    · cases h
      exact rkN_good d L _ _ hk
    · cases h
set_option maxRecDepth 100000 in
set_option maxHeartbeats 16000000 in
theorem btake2_any (b : Nat) (L : List UInt8) (w : World) (hrd : Rdr w b (some L)) : Calls Tryz.prog 22 #[.pointer (some ⟨b, 0, none⟩)] w (BTkP b (takB L) w) := by
  have hA0 : Hid (BlkC (w.alloc (.cells (bnA bnZ none 0 0) tNr)) w.heap.size (bnA bnZ none 0 0) tNr) := heap_alloc_new w _
  have hAB : Below w.heap.size w (w.alloc (.cells (bnA bnZ none 0 0) tNr)) := by (repeat' (first | (with_reducible exact Below.refl _ _) | (with_reducible assumption) | (with_reducible refine Below.alloc ?_ ?_ _) | (with_reducible refine bel_drewN ?_ _) | (with_reducible refine Below.drew ?_) | (with_reducible refine Below.setCell ?_ ?_ _) | (with_reducible refine bel_call ‹_› ?_ ?_) | go_size))
  have hR0 := Lib.hid (hrd.below hAB)
  have hO0 := Lib.hid (Off.of_below (b := b) hAB)
  have hlt := hrd.lt
  have HRK := Lib.hid (fun x r h => (tkN_good 64 L x r h).1)
  obtain ⟨O, hO⟩ : ∃ O, takB L = O := ⟨_, rfl⟩
  have HO : Hid (O = (tkN 64 L).bind fun x => if rtT x.1 64 = true then some x else none) := by unfold Hid; rw [← hO, takB_prog]
  rw [hO]
  clear hO hrd hAB
  go_enter Tryz.func22, Tryz.ntmps22
  go_upto_region 1 with fail
  have e0 : w.alloc (.cells #[.int .i64 0, .int .i64 0, .string ⟨#[]⟩, .int .u64 0, .int .i64 0, .int .u64 0, .int .i64 0, .int .u64 0, .int .i64 0, .int .u64 0, .int .i64 0, .slice none 0 0] tNr) = w.alloc (.cells (bnA bnZ none 0 0) tNr) := rfl
  rw [e0]
  clear e0
  generalize w.alloc (.cells (bnA bnZ none 0 0) tNr) = w0 at hA0 hR0 hO0 ⊢
  have HT := Lib.hid (take_any 64 (by omega) b (some L) w0 hR0.out)
  clear hR0
  go_wp2_with fail
  refine HT.out.mono ?_
  rintro e w2 ⟨hoff, hm⟩
  rw [show (some L : Option (List UInt8)).bind (tkN 64) = tkN 64 L from rfl] at hm
  have hO2 := Lib.hid (hO0.out.trans hoff)
  have hH2 : Hid (BlkC w2 w.heap.size (bnA bnZ none 0 0) tNr) := hoff.blk (by omega) hA0.out
  have hs0 : w.heap.size < w0.heap.size := lt_some hA0.out
  have hs2 := hoff.size
  clear hoff HT hA0 hO0
  cases hk : tkN 64 L with
  | none =>
    rw [hk] at hm
    obtain ⟨x, p1, l1, c1, rfl⟩ := hm
    have HON : Hid (O = none) := by unfold Hid; rw [HO.out, hk]; rfl
    rw [bnA_eq]
    clear hk HO HRK
    go_upto_region 2 with fail
    have e1 : w2.alloc (.cells #[.int .i64 x.kind, .int .i64 x.num, .string ⟨x.text.toArray⟩, .int .u64 x.frm.1.1, .int .i64 x.frm.1.2, .int .u64 x.frm.2.1, .int .i64 x.frm.2.2, .int .u64 x.tor.1.1, .int .i64 x.tor.1.2, .int .u64 x.tor.2.1, .int .i64 x.tor.2.2, .slice p1 l1 c1] tNr) = w2.alloc (.cells (bnA x p1 l1 c1) tNr) := rfl
    rw [e1]
    clear e1
    have hbn : Below w2.heap.size w2 (w2.alloc (.cells (bnA x p1 l1 c1) tNr)) := by (repeat' (first | (with_reducible exact Below.refl _ _) | (with_reducible assumption) | (with_reducible refine Below.alloc ?_ ?_ _) | (with_reducible refine bel_drewN ?_ _) | (with_reducible refine Below.drew ?_) | (with_reducible refine Below.setCell ?_ ?_ _) | (with_reducible refine bel_call ‹_› ?_ ?_) | go_size))
    have hO3 := Lib.hid (hO2.out.call hbn)
    have hH3 := Lib.hid (hH2.out.below hbn)
    clear hbn hO2 hH2
    generalize w2.alloc (.cells (bnA x p1 l1 c1) tNr) = w3 at hO3 hH3 ⊢
    go_upto_region 3 with fail
    refine wp_region_lit ?_
    refine wpList_plain rfl fun K hK => ?_
    go_simp
    refine hK _ _ ?_
    clear hK K
    refine wpList_store_mid (by rfl) _ _ _ (by rfl) w.heap.size 0 #[.int .i64 0, .int .i64 0, .string ⟨#[]⟩, .int .u64 0, .int .i64 0, .int .u64 0, .int .i64 0, .int .u64 0, .int .i64 0, .int .u64 0, .int .i64 0, .slice none 0 0] (by rfl) (by rfl) (block_there hH3.out 12 (Nat.le_refl _)) (by kernel_rfl) (by simp [Value.oneCell']) ?_
    have hs8 : Hid (BlkC (w3.setCells w.heap.size 0 #[.int .i64 0, .int .i64 0, .string ⟨#[]⟩, .int .u64 0, .int .i64 0, .int .u64 0, .int .i64 0, .int .u64 0, .int .i64 0, .int .u64 0, .int .i64 0, .slice none 0 0].toList) w.heap.size (bnA bnZ none 0 0) tNr) := store_block hH3.out _ rfl
    have ho8 : Hid (Off b w (w3.setCells w.heap.size 0 #[.int .i64 0, .int .i64 0, .string ⟨#[]⟩, .int .u64 0, .int .i64 0, .int .u64 0, .int .i64 0, .int .u64 0, .int .i64 0, .int .u64 0, .int .i64 0, .slice none 0 0].toList)) := hO3.out.set_cells (Nat.le_refl _) _ _
    generalize w3.setCells w.heap.size 0 #[.int .i64 0, .int .i64 0, .string ⟨#[]⟩, .int .u64 0, .int .i64 0, .int .u64 0, .int .i64 0, .int .u64 0, .int .i64 0, .int .u64 0, .int .i64 0, .slice none 0 0].toList = w9 at hs8 ho8 ⊢
    go_simp
    go_wp2_with fail
    try simp only [Exit.inBlock, Exit.then]
    refine bodyPost_ret (results_row_tmp rfl _ _ w.heap.size tNr (bnA bnZ none 0 0) (0, 0) _ rfl hs8.out Tryz.underlying38 rfl (by kernel_rfl) _ rfl) rfl ⟨ho8.out, ?_⟩
    rw [HON.out]
    rfl
  | some z =>
    obtain ⟨x, r⟩ := z
    rw [hk] at hm
    obtain ⟨p1, c1, rfl, hq, hrd⟩ := hm
    have HO1 : Hid (O = if rtT x 64 = true then some (x, r) else none) := by unfold Hid; rw [HO.out, hk]; rfl
    have hgd := HRK.out x r hk
    have HRD := Lib.hid hrd
    have HQ := Lib.hid (hq.weak (ok' := fun k' => w.heap.size < k') (fun k' h => by omega))
    rw [bnA_eq]
    clear hk HO hrd HRK hq
    go_upto_region 2 with fail
    obtain ⟨l1, hl1⟩ : ∃ l, x.args.length = l := ⟨_, rfl⟩
    rw [hl1] at HQ ⊢
    have HL1 := Lib.hid hl1
    clear hl1
    have e1 : w2.alloc (.cells #[.int .i64 x.kind, .int .i64 x.num, .string ⟨x.text.toArray⟩, .int .u64 x.frm.1.1, .int .i64 x.frm.1.2, .int .u64 x.frm.2.1, .int .i64 x.frm.2.2, .int .u64 x.tor.1.1, .int .i64 x.tor.1.2, .int .u64 x.tor.2.1, .int .i64 x.tor.2.2, .slice p1 l1 c1] tNr) = w2.alloc (.cells (bnA x p1 l1 c1) tNr) := rfl
    rw [e1]
    clear e1
    have hbn : Below w2.heap.size w2 (w2.alloc (.cells (bnA x p1 l1 c1) tNr)) := by (repeat' (first | (with_reducible exact Below.refl _ _) | (with_reducible assumption) | (with_reducible refine Below.alloc ?_ ?_ _) | (with_reducible refine bel_drewN ?_ _) | (with_reducible refine Below.drew ?_) | (with_reducible refine Below.setCell ?_ ?_ _) | (with_reducible refine bel_call ‹_› ?_ ?_) | go_size))
    have hO3 := Lib.hid (hO2.out.call hbn)
    have hH3 := Lib.hid (hH2.out.below hbn)
    have hR3 := Lib.hid (HRD.out.below hbn)
    have hQ3 := Lib.hid (HQ.out.below hbn)
    have hN3 : Hid (BlkC (w2.alloc (.cells (bnA x p1 l1 c1) tNr)) w2.heap.size (bnA x p1 l1 c1) tNr) := heap_alloc_new w2 _
    have hg2 : w.heap.size < w2.heap.size := lt_some hH2.out
    clear hbn hO2 hH2 HRD HQ
    generalize w2.alloc (.cells (bnA x p1 l1 c1) tNr) = w3 at hO3 hH3 hR3 hQ3 hN3 ⊢
    generalize w2.heap.size = g at hN3 hg2 ⊢
    have HRC := Lib.hid (BRight_any 64 x p1 l1 c1 w3 (hQ3.out.weak (fun _ _ => trivial)) hgd.sm)
    rw [bnA_eq] at HRC
    obtain ⟨rg, hrg⟩ : ∃ rg, rtT x 64 = rg := ⟨_, rfl⟩
    rw [hrg] at HRC HO1
    clear hgd hrg
    have e0 : w3.cell? ⟨g, 0, none⟩ = some (.int .i64 x.kind) := hN3.out.cell 0 _ rfl
    have e1 : w3.cell? ⟨g, 1, none⟩ = some (.int .i64 x.num) := hN3.out.cell 1 _ rfl
    have e2 : w3.cell? ⟨g, 2, none⟩ = some (.string ⟨x.text.toArray⟩) := hN3.out.cell 2 _ rfl
    have e3 : w3.cell? ⟨g, 3, none⟩ = some (.int .u64 x.frm.1.1) := hN3.out.cell 3 _ rfl
    have e4 : w3.cell? ⟨g, 4, none⟩ = some (.int .i64 x.frm.1.2) := hN3.out.cell 4 _ rfl
    have e5 : w3.cell? ⟨g, 5, none⟩ = some (.int .u64 x.frm.2.1) := hN3.out.cell 5 _ rfl
    have e6 : w3.cell? ⟨g, 6, none⟩ = some (.int .i64 x.frm.2.2) := hN3.out.cell 6 _ rfl
    have e7 : w3.cell? ⟨g, 7, none⟩ = some (.int .u64 x.tor.1.1) := hN3.out.cell 7 _ rfl
    have e8 : w3.cell? ⟨g, 8, none⟩ = some (.int .i64 x.tor.1.2) := hN3.out.cell 8 _ rfl
    have e9 : w3.cell? ⟨g, 9, none⟩ = some (.int .u64 x.tor.2.1) := hN3.out.cell 9 _ rfl
    have e10 : w3.cell? ⟨g, 10, none⟩ = some (.int .i64 x.tor.2.2) := hN3.out.cell 10 _ rfl
    have e11 : w3.cell? ⟨g, 11, none⟩ = some (.slice p1 l1 c1) := hN3.out.cell 11 _ rfl
    go_wp2_with fail
    refine HRC.out.mono ?_
    rintro e w4 ⟨rfl, hb4⟩
    have hO4 := Lib.hid (hO3.out.call hb4)
    have hH4 := Lib.hid (hH3.out.below hb4)
    have hN4 := Lib.hid (hN3.out.below hb4)
    have hQ4 := Lib.hid (hQ3.out.below hb4)
    have hR4 := Lib.hid (hR3.out.below hb4)
    clear hb4 HRC hO3 hH3 hN3 hQ3 hR3 e0 e1 e2 e3 e4 e5 e6 e7 e8 e9 e10 e11
    cases rg
    · have HON : Hid (O = none) := HO1.out
      clear HO1
      go_upto_region 3 with fail
      refine wp_region_lit ?_
      refine wpList_plain rfl fun K hK => ?_
      go_simp
      refine hK _ _ ?_
      clear hK K
      refine wpList_store_mid (by rfl) _ _ _ (by rfl) w.heap.size 0 #[.int .i64 0, .int .i64 0, .string ⟨#[]⟩, .int .u64 0, .int .i64 0, .int .u64 0, .int .i64 0, .int .u64 0, .int .i64 0, .int .u64 0, .int .i64 0, .slice none 0 0] (by rfl) (by rfl) (block_there hH4.out 12 (Nat.le_refl _)) (by kernel_rfl) (by simp [Value.oneCell']) ?_
      have hs8 : Hid (BlkC (w4.setCells w.heap.size 0 #[.int .i64 0, .int .i64 0, .string ⟨#[]⟩, .int .u64 0, .int .i64 0, .int .u64 0, .int .i64 0, .int .u64 0, .int .i64 0, .int .u64 0, .int .i64 0, .slice none 0 0].toList) w.heap.size (bnA bnZ none 0 0) tNr) := store_block hH4.out _ rfl
      have ho8 : Hid (Off b w (w4.setCells w.heap.size 0 #[.int .i64 0, .int .i64 0, .string ⟨#[]⟩, .int .u64 0, .int .i64 0, .int .u64 0, .int .i64 0, .int .u64 0, .int .i64 0, .int .u64 0, .int .i64 0, .slice none 0 0].toList)) := hO4.out.set_cells (Nat.le_refl _) _ _
      generalize w4.setCells w.heap.size 0 #[.int .i64 0, .int .i64 0, .string ⟨#[]⟩, .int .u64 0, .int .i64 0, .int .u64 0, .int .i64 0, .int .u64 0, .int .i64 0, .int .u64 0, .int .i64 0, .slice none 0 0].toList = w9 at hs8 ho8 ⊢
      go_simp
      go_wp2_with fail
      try simp only [Exit.inBlock, Exit.then]
      refine bodyPost_ret (results_row_tmp rfl _ _ w.heap.size tNr (bnA bnZ none 0 0) (0, 0) _ rfl hs8.out Tryz.underlying38 rfl (by kernel_rfl) _ rfl) rfl ⟨ho8.out, ?_⟩
      rw [HON.out]
      rfl
    · have HON : Hid (O = some (x, r)) := HO1.out
      clear HO1
      go_upto_region 4 with fail
      refine wp_region_lit ?_
      refine wpList_load_mid (by rfl) _ _ (by rfl) g 0 (by rfl) [.int .i64 x.kind, .int .i64 x.num, .string ⟨x.text.toArray⟩, .int .u64 x.frm.1.1, .int .i64 x.frm.1.2, .int .u64 x.frm.2.1, .int .i64 x.frm.2.2, .int .u64 x.tor.1.1, .int .i64 x.tor.1.2, .int .u64 x.tor.2.1, .int .i64 x.tor.2.2, .slice p1 l1 c1] _ (block_range hN4.out [.int .i64 x.kind, .int .i64 x.num, .string ⟨x.text.toArray⟩, .int .u64 x.frm.1.1, .int .i64 x.frm.1.2, .int .u64 x.frm.2.1, .int .i64 x.frm.2.2, .int .u64 x.tor.1.1, .int .i64 x.tor.1.2, .int .u64 x.tor.2.1, .int .i64 x.tor.2.2, .slice p1 l1 c1] rfl) Tryz.underlying38 rfl (by kernel_rfl) ?_
      go_simp
      refine wpList_store_mid (by rfl) _ _ _ (by rfl) w.heap.size 0 #[.int .i64 x.kind, .int .i64 x.num, .string ⟨x.text.toArray⟩, .int .u64 x.frm.1.1, .int .i64 x.frm.1.2, .int .u64 x.frm.2.1, .int .i64 x.frm.2.2, .int .u64 x.tor.1.1, .int .i64 x.tor.1.2, .int .u64 x.tor.2.1, .int .i64 x.tor.2.2, .slice p1 l1 c1] (by rfl) (by rfl) (block_there hH4.out 12 (Nat.le_refl _)) (by kernel_rfl) (by simp [Value.oneCell']) ?_
      have hs8 : Hid (BlkC (w4.setCells w.heap.size 0 #[.int .i64 x.kind, .int .i64 x.num, .string ⟨x.text.toArray⟩, .int .u64 x.frm.1.1, .int .i64 x.frm.1.2, .int .u64 x.frm.2.1, .int .i64 x.frm.2.2, .int .u64 x.tor.1.1, .int .i64 x.tor.1.2, .int .u64 x.tor.2.1, .int .i64 x.tor.2.2, .slice p1 l1 c1].toList) w.heap.size (bnA x p1 l1 c1) tNr) := store_block hH4.out _ rfl
      have hk8 : Hid (∀ k', k' ≠ w.heap.size → (w4.setCells w.heap.size 0 #[.int .i64 x.kind, .int .i64 x.num, .string ⟨x.text.toArray⟩, .int .u64 x.frm.1.1, .int .i64 x.frm.1.2, .int .u64 x.frm.2.1, .int .i64 x.frm.2.2, .int .u64 x.tor.1.1, .int .i64 x.tor.1.2, .int .u64 x.tor.2.1, .int .i64 x.tor.2.2, .slice p1 l1 c1].toList).heap[k']? = w4.heap[k']?) := fun k' hk' => store_other hk' _ _ _
      have ho8 : Hid (Off b w (w4.setCells w.heap.size 0 #[.int .i64 x.kind, .int .i64 x.num, .string ⟨x.text.toArray⟩, .int .u64 x.frm.1.1, .int .i64 x.frm.1.2, .int .u64 x.frm.2.1, .int .i64 x.frm.2.2, .int .u64 x.tor.1.1, .int .i64 x.tor.1.2, .int .u64 x.tor.2.1, .int .i64 x.tor.2.2, .slice p1 l1 c1].toList)) := hO4.out.set_cells (Nat.le_refl _) _ _
      have hr8 : Hid (Rdr (w4.setCells w.heap.size 0 #[.int .i64 x.kind, .int .i64 x.num, .string ⟨x.text.toArray⟩, .int .u64 x.frm.1.1, .int .i64 x.frm.1.2, .int .u64 x.frm.2.1, .int .i64 x.frm.2.2, .int .u64 x.tor.1.1, .int .i64 x.tor.1.2, .int .u64 x.tor.2.1, .int .i64 x.tor.2.2, .slice p1 l1 c1].toList) b (some r)) := hR4.out.low (store_below (by omega) _ _ _ (Below.refl _ _))
      generalize w4.setCells w.heap.size 0 #[.int .i64 x.kind, .int .i64 x.num, .string ⟨x.text.toArray⟩, .int .u64 x.frm.1.1, .int .i64 x.frm.1.2, .int .u64 x.frm.2.1, .int .i64 x.frm.2.2, .int .u64 x.tor.1.1, .int .i64 x.tor.1.2, .int .u64 x.tor.2.1, .int .i64 x.tor.2.2, .slice p1 l1 c1].toList = w9 at hs8 hk8 ho8 hr8 ⊢
      go_simp
      go_wp2_with fail
      try simp only [Exit.inBlock, Exit.then]
      refine bodyPost_ret (results_row_tmp rfl _ _ w.heap.size tNr (bnA x p1 l1 c1) (0, 0) _ rfl hs8.out Tryz.underlying38 rfl (by kernel_rfl) _ rfl) rfl ⟨ho8.out, ?_⟩
      rw [HON.out]
      refine ⟨p1, c1, by rw [HL1.out]; rfl, ?_, hr8.out⟩
      rw [HL1.out]
      exact RdQ.carry (fun k' h1 h2 => ⟨trivial, hk8.out k' (by omega)⟩) hQ4.out
end Go.Proofs.YtjklbbmgjjdalaaGreatDoor.Bd
