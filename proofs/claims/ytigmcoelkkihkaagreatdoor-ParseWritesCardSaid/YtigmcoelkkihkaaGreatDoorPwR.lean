/- Trees: the law's 'named'. Printed by gen_trexf.py. The parser: its contracts; chains of signs of one level: plain part. The parser: 'unary', and 'binary' behind the last level. Printed by gen_par.py. -/
import Derived.Test.YtigmcoelkkihkaaGreatDoorPwQ
import Derived.Test.YtigmcoelkkihkaaGreatDoorPwN
set_option linter.unusedSimpArgs false
set_option linter.unusedVariables false
namespace Go.Proofs.YtigmcoelkkihkaaGreatDoor
open Go.RowKit Go.Joins

theorem info_rn : (Tryz.prog.info? tRn).map (fun i => (i.zero, i.size, i.bytes)) = some (some (.agg #[.int .i64 0, .int .i64 0, .string ⟨#[]⟩, .int .i64 0, .int .i64 0, .slice none 0 0]), 6, 72) := by kernel_rfl
theorem newRn (w : World) (c : Nd) (p2 : Option Addr) (l' c2 : Nat) : ∀ j u, (ndC c p2 l' c2)[j]? = some u → (w.alloc (.cells (ndA c p2 l' c2) tRn)).cell? ((⟨w.heap.size, 0, none⟩ : Addr).add j) = some u := by
  intro j u hj
  have hb : NdB tRn (w.alloc (.cells (ndA c p2 l' c2) tRn)) w.heap.size c p2 l' c2 := heap_alloc_new w _
  obtain ⟨c0, c1, c2', c3, c4, c5⟩ := hb.cells
  have hj6 : j < 6 := (List.getElem?_eq_some_iff.1 hj).1
  simp only [Addr.add, Nat.zero_add]
  match j, hj6, hj with
  | 0, _, hj => cases hj; exact c0
  | 1, _, hj => cases hj; exact c1
  | 2, _, hj => cases hj; exact c2'
  | 3, _, hj => cases hj; exact c3
  | 4, _, hj => cases hj; exact c4
  | 5, _, hj => cases hj; exact c5
theorem RdP.of_rowR {w : World} {base d : Nat} {v : Value} {L : List Kid} {n : Nd} {ok : Nat → Prop} (h : w.ownsRow base tRn 6 v L.length (L.flatMap kidC)) (hL : L.map Prod.fst = n.args) (hq : ∀ q ∈ L, RdP w ok d q.1 q.2.1 q.2.2.1) (hown : ∀ b, v.ownBlock = some b → ok b) :
    ∃ p cap, v = .slice p L.length cap ∧ RdP w ok (d + 1) n p L.length := by
  obtain ⟨p, cap, hv, _, _, ⟨_, hr⟩, _⟩ := RdG.of_own kidC_len rfl h
  refine ⟨p, cap, hv, by rw [← hL, List.length_map], ?_⟩
  rcases hr with hr | ⟨b, off, h1, h2, h3⟩
  · exact .inl hr
  · refine .inr ⟨b, off, h1, hown b (by rw [hv, h1]; rfl), fun j c hc => ?_⟩
    rw [← hL, List.getElem?_map] at hc
    cases hj : L[j]? with
    | none => rw [hj] at hc; cases hc
    | some q =>
      rw [hj] at hc
      obtain rfl : q.1 = c := by simpa using hc
      exact ⟨q.2.1, q.2.2.1, q.2.2.2, fun k u hu => h3 j q hj k u hu, hq q (List.mem_of_getElem? hj)⟩
def NamedC (d : Nat) : Prop := ∀ (n : Nd) (p : Option Addr) (len cap : Nat) (w : World), RdT w w.heap.size d n p len → OkN n → FewN n → Calls Tryz.prog 28 #[.agg (ndA n p len cap)] w fun e w' => (∃ p' cap', e = .returned (.agg (ndA (nmN nmS n) p' len cap')) ∧ RdP w' (fun b => w.heap.size ≤ b ∧ b < w'.heap.size) d (nmN nmS n) p' len) ∧ Below w.heap.size w w'
/-- A node in its first form: no references, no parts. -/
abbrev ndF (n : Nd) (T : Bs) : Nd := .mk n.kind n.num T 0 0 []
theorem nd_two {w : World} {b : Nat} {n : Nd} {T T' : Bs} (h : NdB tRn w b (ndF n T) none 0 0) : NdB tRn (w.setCell ⟨b, 2, none⟩ (.string ⟨T'.toArray⟩)) b (ndF n T') none 0 0 := by
  have h1 := heap_setCell_same w b 2 _ _ (.string ⟨T'.toArray⟩) h
  unfold NdB
  rw [h1]
  rfl
set_option maxRecDepth 100000 in
set_option maxHeartbeats 8000000 in
theorem named_s (d : Nat) (IH : ∀ d', d = d' + 1 → NamedC d') : NamedC d := by
  intro n p len cap w hrd hok hfew
  have hofrm := hok.frm
  have hotor := hok.tor
  have HRD := Lib.hid hrd
  have HIH := Lib.hid IH
  have hlen := hfew.len
  rw [hrd.len] at hlen
  have HAL := Lib.hid hrd.len
  have HOK := Lib.hid (fun c hc => OkN.child (c := c) hok hc)
  have HFW := Lib.hid (fun c hc => FewN.child (c := c) hfew hc)
  rw [ndA_eq]
  clear hrd IH hok hfew
  obtain ⟨i0, hi, hz0, hz1, hz2⟩ := info_of info_rn
  have HTX : Hid ((nmN nmS n).text = if n.kind = 3 then nmS n.frm else if n.kind = 4 then nmS n.frm ++ 58 :: nmS n.tor else n.text) := nmN_text n
  have HNK : Hid ((nmN nmS n).kind = n.kind) := nmN_kind n
  have HNU : Hid ((nmN nmS n).num = n.num) := nmN_num n
  have HNF : Hid ((nmN nmS n).frm = 0 ∧ (nmN nmS n).tor = 0) := by unfold Hid; cases n; rw [nmN]; exact ⟨rfl, rfl⟩
  have HMA : Hid ((nmN nmS n).args = nmL nmS n.args) := nmN_args n
  have HNM := Lib.hid (fun W => rname_law n.frm hofrm.1 hofrm.2 W)
  have HNT := Lib.hid (fun W => rname_law n.tor hotor.1 hotor.2 W)
  have hf20 := nmS_len n.frm
  have ht20 := nmS_len n.tor
  generalize nmS n.frm = F at HTX HNM hf20
  generalize nmS n.tor = G at HTX HNT ht20
  have HALm : Hid ((nmN nmS n).args.length = len) := by unfold Hid; rw [nmN_args, nmL_len]; exact HAL.out
  generalize nmN nmS n = m at *
  go_enter Tryz.func28, Tryz.ntmps28
  have hh : Hid (NdB tRn (((w.alloc (.cells (ndA n p len cap) tRn)).alloc (.cells (ndA nodeZ none 0 0) tRn)).alloc (.cells (ndA (ndF n n.text) none 0 0) tRn)) w.heap.size n p len cap ∧ NdB tRn (((w.alloc (.cells (ndA n p len cap) tRn)).alloc (.cells (ndA nodeZ none 0 0) tRn)).alloc (.cells (ndA (ndF n n.text) none 0 0) tRn)) (w.heap.size + 1) nodeZ none 0 0 ∧ NdB tRn (((w.alloc (.cells (ndA n p len cap) tRn)).alloc (.cells (ndA nodeZ none 0 0) tRn)).alloc (.cells (ndA (ndF n n.text) none 0 0) tRn)) (w.heap.size + 2) (ndF n n.text) none 0 0) := ⟨(three_heap w _ _ _).1, (three_heap w _ _ _).2.1, (three_heap w _ _ _).2.2⟩
  have hbl : Hid (Below w.heap.size w (((w.alloc (.cells (ndA n p len cap) tRn)).alloc (.cells (ndA nodeZ none 0 0) tRn)).alloc (.cells (ndA (ndF n n.text) none 0 0) tRn))) := three_below _ _ _
  go_upto_region 2 with fail
  have e3 : ((w.alloc (.cells #[.int .i64 n.kind, .int .i64 n.num, .string ⟨n.text.toArray⟩, .int .i64 n.frm, .int .i64 n.tor, .slice p len cap] tRn)).alloc (.cells #[.int .i64 0, .int .i64 0, .string ⟨#[]⟩, .int .i64 0, .int .i64 0, .slice none 0 0] tRn)).alloc (.cells #[.int .i64 n.kind, .int .i64 n.num, .string ⟨n.text.toArray⟩, .int .i64 0, .int .i64 0, .slice none 0 0] tRn) = ((w.alloc (.cells (ndA n p len cap) tRn)).alloc (.cells (ndA nodeZ none 0 0) tRn)).alloc (.cells (ndA (ndF n n.text) none 0 0) tRn) := rfl
  first | rw [e3] | (trace_state; fail "e3")
  clear e3
  generalize ((w.alloc (.cells (ndA n p len cap) tRn)).alloc (.cells (ndA nodeZ none 0 0) tRn)).alloc (.cells (ndA (ndF n n.text) none 0 0) tRn) = w2 at hh hbl ⊢
  obtain ⟨hq0, hq1, hq2⟩ := hh.out
  have hn0 := Lib.hid hq0
  have hn1 := Lib.hid hq1
  have hn2 := Lib.hid hq2
  clear hq0 hq1 hq2 hh
  obtain ⟨c0, c1, c2, c3, c4, c5⟩ := hn0.out.cells
  obtain ⟨b0, b1, b2, b3, b4, b5⟩ := hn2.out.cells
  obtain ⟨T1, hT1⟩ : ∃ T1, (if n.kind = 3 then F else n.text) = T1 := ⟨_, rfl⟩
  have HT1 := Lib.hid hT1
  clear hT1
  go_upto_if 14 with fail
  go_cut [] (fun wx => NdB tRn wx w.heap.size n p len cap ∧ NdB tRn wx (w.heap.size + 1) nodeZ none 0 0 ∧ NdB tRn wx (w.heap.size + 2) (ndF n T1) none 0 0 ∧ Below w.heap.size w wx)
  case first =>
    by_cases h3 : n.kind = 3
    · have h3b : (n.kind == 3) = true := by simpa using h3
      have hTF : Hid (T1 = F) := by unfold Hid; rw [← HT1.out, if_pos h3]
      clear h3
      go_wp2_with fail
      refine (HNM.out _).mono ?_
      rintro e w3 ⟨rfl, hb⟩
      have hB3 : Hid (Below w.heap.size w w3) := bel_call hb hbl.out hbl.out.size
      have m0 := Lib.hid (hn0.out.below hb)
      have m1 := Lib.hid (hn1.out.below hb)
      have m2 := Lib.hid (hn2.out.below hb)
      clear hb hbl hn0 hn1 hn2 c0 c1 c2 c3 c4 c5 b0 b1 b2 b3 b4 b5
      obtain ⟨b0, b1, b2, b3, b4, b5⟩ := m2.out.cells
      have g2 := unfrozen_of_block m2.out 2
      go_wp2_with fail
      go_meet
      refine ⟨?_, ?_, by rw [hTF.out]; exact nd_two m2.out, hB3.out.setCell (by show w.heap.size ≤ w.heap.size + 2; omega) _⟩
      · unfold NdB
        rw [heap_setCell_other _ _ _ _ (by show w.heap.size ≠ w.heap.size + 2; omega)]
        exact m0.out
      · unfold NdB
        rw [heap_setCell_other _ _ _ _ (by show w.heap.size + 1 ≠ w.heap.size + 2; omega)]
        exact m1.out
    · have h3b : (n.kind == 3) = false := by simpa using h3
      have hTF : Hid (T1 = n.text) := by unfold Hid; rw [← HT1.out, if_neg h3]
      go_wp2_with fail
      go_meet
      exact ⟨hn0.out, hn1.out, by rw [hTF.out]; exact hn2.out, hbl.out⟩
  case rest =>
  obtain ⟨hv0, hv1, hv2, hvB⟩ := hcut
  have hm0 := Lib.hid hv0
  have hm1 := Lib.hid hv1
  have hm2 := Lib.hid hv2
  have hmB := Lib.hid hvB
  clear hv0 hv1 hv2 hvB hn0 hn1 hn2 hbl c0 c1 c2 c3 c4 c5 b0 b1 b2 b3 b4 b5
  obtain ⟨c0, c1, c2, c3, c4, c5⟩ := hm0.out.cells
  obtain ⟨b0, b1, b2, b3, b4, b5⟩ := hm2.out.cells
  go_upto_if 21 with fail
  go_cut [] (fun wx => NdB tRn wx w.heap.size n p len cap ∧ NdB tRn wx (w.heap.size + 1) nodeZ none 0 0 ∧ NdB tRn wx (w.heap.size + 2) (ndF n m.text) none 0 0 ∧ Below w.heap.size w wx)
  case first =>
    by_cases h4 : n.kind = 4
    · have h4b : (n.kind == 4) = true := by simpa using h4
      have hTT : Hid (m.text = F ++ 58 :: G) := by unfold Hid; rw [HTX.out, if_neg (by omega), if_pos h4]
      clear h4
      have hFs : (⟨F.toArray⟩ : ByteArray).size ≤ 20 := by rw [Lib.size_eq]; exact hf20
      have hGs : (⟨G.toArray⟩ : ByteArray).size ≤ 20 := by rw [Lib.size_eq]; exact ht20
      have hcs : (⟨#[58]⟩ : ByteArray).size = 1 := rfl
      have hFC : (⟨F.toArray⟩ : ByteArray) ++ ⟨#[58]⟩ = ⟨(F ++ [58]).toArray⟩ := cat2 F [58]
      have hFCs : (⟨(F ++ [58]).toArray⟩ : ByteArray).size ≤ 21 := by rw [Lib.size_eq]; simp; omega
      have hFG : (⟨(F ++ [58]).toArray⟩ : ByteArray) ++ ⟨G.toArray⟩ = ⟨(F ++ 58 :: G).toArray⟩ := by rw [cat2]; simp
      have hop1 : ∀ W, (Op.stringOp .add ⟨F.toArray⟩ ⟨#[58]⟩).run Tryz.prog W = .ok (.string ⟨(F ++ [58]).toArray⟩) W := fun W => by rw [← hFC]; exact run_string_add_sum W _ _ (by rw [hcs]; omega)
      have hop2 : ∀ W, (Op.stringOp .add ⟨(F ++ [58]).toArray⟩ ⟨G.toArray⟩).run Tryz.prog W = .ok (.string ⟨(F ++ 58 :: G).toArray⟩) W := fun W => by rw [← hFG]; exact run_string_add_sum W _ _ (by omega)
      clear hFC hFG
      have C3 := Kept.cell (N := w.heap.size + 3) c3 (by omega)
      have C4 := Kept.cell (N := w.heap.size + 3) c4 (by omega)
      go_upto_region 5 with fail
      refine wp_region_schedT (fun wx => ∃ x : Kept (w.heap.size + 3) wc, wx = x.v) 9 [([0,1,4,5],2),([3],6)] [7,8] (by kernel_rfl) (by kernel_rfl) (by kernel_rfl) (by kernel_rfl) (kept_drew _ _ (by have := lt_some hm2.out; omega)) ?_
      have kb0 : Hid (Below (w.heap.size + 3) wc wc.drew) := Below.drew (Below.refl _ _)
      (unfold wpSegK; simp only [pick_nil, pick_cons, nthO_zero, nthO_succ, List.append])
      clear c0 c1 c2 c3 c4 c5 b0 b1 b2 b3 b4 b5
      repeat (go_big_quiet_step (fail))
      refine wpQuiet_nil ?_
      have H3 := lt_some hm2.out
      go_wp2_with fail
      refine (HNM.out _).mono ?_
      rintro e x1 ⟨rfl, hb⟩
      have kb1 : Hid (Below (w.heap.size + 3) wc x1) := bel_call hb kb0.out (by rw [World.size_drew]; omega)
      clear hb
      go_wp2_with fail
      refine ⟨rfl, ⟨⟨x1, kb1.out⟩, rfl⟩, ?_⟩
      (unfold wpSegK; simp only [pick_nil, pick_cons, nthO_zero, nthO_succ, List.append])
      repeat (go_big_quiet_step (fail))
      refine wpQuiet_nil ?_
      go_wp2_with fail
      refine (HNT.out _).mono ?_
      rintro e x2 ⟨rfl, hb⟩
      have kb2 : Hid (Below (w.heap.size + 3) wc x2) := bel_call hb kb1.out (by have := kb1.out.size; omega)
      clear hb
      go_wp2_with fail
      refine ⟨rfl, ⟨⟨x2, kb2.out⟩, rfl⟩, ?_⟩
      (unfold wpSegK; simp only [pick_nil, pick_cons, nthO_zero, nthO_succ, List.append])
      repeat (go_big_quiet_step (fail))
      refine wpQuiet_nil ?_
      have m0 : Hid (NdB tRn x2 w.heap.size n p len cap) := (kb2.out.block _ (by omega)).trans hm0.out
      have m1 : Hid (NdB tRn x2 (w.heap.size + 1) nodeZ none 0 0) := (kb2.out.block _ (by omega)).trans hm1.out
      have m2 : Hid (NdB tRn x2 (w.heap.size + 2) (ndF n T1) none 0 0) := (kb2.out.block _ (by omega)).trans hm2.out
      have hB3 : Hid (Below w.heap.size w x2) := hmB.out.trans (kb2.out.mono (by omega))
      clear hm0 hm1 hm2 hmB kb0 kb1 kb2 C3 C4 HNM HNT
      obtain ⟨b0, b1, b2, b3, b4, b5⟩ := m2.out.cells
      have g2 := unfrozen_of_block m2.out 2
      go_wp2_with fail
      refine ⟨rfl, ?_⟩
      go_wp2_with fail
      go_meet
      refine ⟨?_, ?_, by rw [hTT.out]; exact nd_two m2.out, hB3.out.setCell (by show w.heap.size ≤ w.heap.size + 2; omega) _⟩
      · unfold NdB
        rw [heap_setCell_other _ _ _ _ (by show w.heap.size ≠ w.heap.size + 2; omega)]
        exact m0.out
      · unfold NdB
        rw [heap_setCell_other _ _ _ _ (by show w.heap.size + 1 ≠ w.heap.size + 2; omega)]
        exact m1.out
    · have h4b : (n.kind == 4) = false := by simpa using h4
      have hTT : Hid (m.text = T1) := by unfold Hid; rw [HTX.out, ← HT1.out, if_neg h4]
      go_wp2_with fail
      go_meet
      exact ⟨hm0.out, hm1.out, by rw [hTT.out]; exact hm2.out, hmB.out⟩
  case rest =>
  obtain ⟨hv0, hv1, hv2, hvB⟩ := hcut
  have hs0 := Lib.hid hv0
  have hs1 := Lib.hid hv1
  have hsB := Lib.hid hvB
  have hs2 : Hid (NdB tRn wc (w.heap.size + 2) m none 0 0) := by
    unfold Hid NdB ndA
    rw [HNK.out, HNU.out, HNF.out.1, HNF.out.2]
    exact hv2
  clear hv0 hv1 hv2 hvB hm0 hm1 hm2 hmB c0 c1 c2 c3 c4 c5 b0 b1 b2 b3 b4 b5 HNM HNT HTX HNK HNU HNF HT1 hf20 ht20
  go_wp2_with fail
  go_loopg [4] len (fun g v4 wr => ∃ (i : Nat) (acc : List Kid) (q : Option Addr) (cp : Nat), i + g = len ∧ v4 = .int .i64 i ∧ acc.map Prod.fst = m.args.take i ∧ NdB tRn wr w.heap.size n p len cap ∧ NdB tRn wr (w.heap.size + 1) nodeZ none 0 0 ∧ NdB tRn wr (w.heap.size + 2) m q i cp ∧ wr.ownsRow (w.heap.size + 3) tRn 6 (.slice q i cp) i (acc.flatMap kidC) ∧ (∀ d', d = d' + 1 → ∀ x ∈ acc, RdP wr (okK (w.heap.size + 3) wr (.slice q i cp)) d' x.1 x.2.1 x.2.2.1) ∧ Below w.heap.size w wr)
  case atStart => exact ⟨0, [], none, 0, by omega, rfl, rfl, hs0.out, hs1.out, hs2.out, World.ownsRow_nil _ _ _ _, fun _ _ x hx => (by cases hx), hsB.out⟩
  case round =>
    obtain ⟨i, acc, q, cp, hig, rfl, hacc, hn1, hn0, hn2, hown, hkid, hbel⟩ := hrel
    clear hs0 hs1 hs2 hsB
    have HAC := Lib.hid hacc
    have HN1 := Lib.hid hn1
    have HN0 := Lib.hid hn0
    have HN2 := Lib.hid hn2
    have HOW := Lib.hid hown
    have HKD := Lib.hid hkid
    have HBL := Lib.hid hbel
    have hzr := hbel.size
    have hH2 : w.heap.size + 2 < wr.heap.size := lt_some hn2
    clear hacc hn1 hn0 hn2 hown hkid hbel
    obtain ⟨a0, a1, a2, a3, a4, a5⟩ := HN1.out.cells
    obtain ⟨b0, b1, b2, b3, b4, b5⟩ := HN2.out.cells
    by_cases hlt : i < len
    · have hli : (i : Int) < (len : Int) := by omega
      obtain ⟨d', b, off, c, p', l', c', hd, rfl, hbN, hc, hrc, q0, q1, q2, q3, q4, q5⟩ := (HRD.out.below HBL.out).at hlt
      have HC : Hid (NamedC d') := HIH.out d' hd
      have HCO := Lib.hid (HOK.out c (mem_at hc))
      have HCF := Lib.hid (HFW.out c (mem_at hc))
      have A5 := Kept.cell (N := w.heap.size + 3) a5 (by omega)
      have B5 := Kept.cell (N := w.heap.size + 3) b5 (by omega)
      have Q0 := Kept.cell (N := w.heap.size + 3) q0 (by omega)
      have Q1 := Kept.cell (N := w.heap.size + 3) q1 (by omega)
      have Q2 := Kept.cell (N := w.heap.size + 3) q2 (by omega)
      have Q3 := Kept.cell (N := w.heap.size + 3) q3 (by omega)
      have Q4 := Kept.cell (N := w.heap.size + 3) q4 (by omega)
      have Q5 := Kept.cell (N := w.heap.size + 3) q5 (by omega)
      go_upto_region 5 with fail
      refine wp_region_schedT (fun wx => ∃ x : Kept (w.heap.size + 3) wr, wx = x.v) 11 [([0,1,2,3,4,5,6],7),([],8),([],9)] [10] (by kernel_rfl) (by kernel_rfl) (by kernel_rfl) (by kernel_rfl) (kept_drew _ _ (by omega)) ?_
      (unfold wpSegK; simp only [pick_nil, pick_cons, nthO_zero, nthO_succ, List.append])
      clear a0 a1 a2 a3 a4 a5 b0 b1 b2 b3 b4 b5 q0 q1 q2 q3 q4 q5
      repeat (go_big_quiet_step (fail))
      refine wpQuiet_nil ?_
      have HRC := Lib.hid hrc
      have HHC := Lib.hid hc
      have HHD := Lib.hid hd
      clear hrc hc hd
      have HCC := Lib.hid (HC.out c p' l' c' wr.drew ((HRC.out.below (Below.drew (Below.refl _ _))).mono hzr) HCO.out HCF.out)
      rw [ndA_eq c p' l' c'] at HCC
      have HMG : Hid (m.args[i]? = some (nmN nmS c)) := by unfold Hid; rw [HMA.out, nmL_get, HHC.out]; rfl
      generalize nmN nmS c = mc at HCC HMG
      go_wp2_with fail
      refine HCC.out.mono ?_
      rintro e w3 ⟨⟨p2, c2, rfl, hk3⟩, hb3⟩
      have hb4 : Hid (Below wr.heap.size wr w3) := bel_call hb3 (Below.drew (Below.refl _ _)) (Nat.le_refl _)
      have HK3 := Lib.hid hk3
      rw [ndA_eq mc p2 l' c2]
      clear HCC hk3 hb3
      go_wp2_with fail
      have hB3 : Hid (Below (w.heap.size + 3) wr w3) := hb4.out.mono (by omega)
      refine ⟨rfl, ⟨⟨w3, hB3.out⟩, rfl⟩, ?_⟩
      (unfold wpSegK; simp only [pick_nil, pick_cons, nthO_zero, nthO_succ, List.append])
      refine wpQuiet_nil ?_
      go_wp2_with fail
      refine ⟨rfl, ⟨⟨_, hB3.out.alloc (by have := hb4.out.size; omega) _⟩, rfl⟩, ?_⟩
      (unfold wpSegK; simp only [pick_nil, pick_cons, nthO_zero, nthO_succ, List.append])
      refine wpQuiet_nil ?_
      have HRW := Lib.hid (row_below HOW.out hb4.out)
      refine wpList_append_own_at _ rfl _ _ _ rfl (w.heap.size + 3) tRn i0 _ 6 72 Tryz.underlying23 hi hz0 hz1 hz2 rfl (by decide) _ _ _ rfl (HRW.out.alloc _) ⟨w3.heap.size, 0, none⟩ 1 1 (ndC mc p2 l' c2) rfl rfl (newRn w3 mc p2 l' c2) ?c2 ?c3 ?c4 ?c5 ?_
      case c2 => exact kidC_one (mc, p2, l', c2)
      case c3 => unfold maxLen; omega
      case c4 => omega
      case c5 => rw [World.size_alloc]; have := hb4.out.size; omega
      intro v' w5 hown5 hgrow5 _ hat5
      have hB5 : Hid (Below (w.heap.size + 3) wr w5) := (hB3.out.alloc (by have := hb4.out.size; omega) _).grown hgrow5 (by rw [World.size_alloc]; have := hb4.out.size; omega) (fun k hk => (HRW.out.lt k hk).1)
      have HOW5 : Hid (w5.ownsRow (w.heap.size + 3) tRn 6 v' (i + 1) ((acc ++ [(mc, p2, l', c2)]).flatMap kidC)) := by
        unfold Hid
        rw [flat_snoc]
        exact hown5
      have hla : acc.length = i := by
        have h := congrArg List.length HAC.out
        rw [List.length_map, List.length_take, HALm.out] at h
        omega
      obtain ⟨q5, cp5, hv5, _, _, _, _⟩ := RdG.of_own kidC_len (by rw [List.length_append, List.length_singleton, hla]) HOW5.out
      subst hv5
      have HN5 : Hid (NdB tRn w5 (w.heap.size + 2) m q i cp) := (hB5.out.block _ (by omega)).trans HN2.out
      have HKN := Lib.hid (kids_on (u := .slice q5 (i + 1) cp5) (c2 := c2) (by omega) hb4.out hgrow5 hat5 (fun b e => (HOW.out.lt b e).2) (HKD.out d' HHD.out) HK3.out)
      clear hown5 hgrow5 hat5 HRW HK3 HKD HCF HCO HC HIH HOK HFW A5 B5 Q0 Q1 Q2 Q3 Q4 Q5
      obtain ⟨_, _, _, _, _, e5⟩ := HN5.out.cells
      have g5 := unfrozen_of_block HN5.out 5
      go_wp2_with fail
      refine ⟨rfl, ⟨⟨w5, hB5.out⟩, rfl⟩, ?_⟩
      (unfold wpSegK; simp only [pick_nil, pick_cons, nthO_zero, nthO_succ, List.append])
      repeat (go_big_quiet_step (fail))
      refine wpQuiet_nil ?_
      go_wp2_with fail
      refine ⟨rfl, ?_⟩
      have HP6 : Hid (NdB tRn (w5.setCell ⟨w.heap.size + 2, 5, none⟩ (.slice q5 (i + 1) cp5)) (w.heap.size + 2) m q5 (i + 1) cp5) := by
        have h := heap_setCell_same w5 (w.heap.size + 2) 5 _ _ (.slice q5 (i + 1) cp5) HN5.out
        unfold Hid NdB
        rw [h]
        simp [ndA]
      have HR6 : Hid (NdB tRn (w5.setCell ⟨w.heap.size + 2, 5, none⟩ (.slice q5 (i + 1) cp5)) w.heap.size n (some ⟨b, off, none⟩) len cap) := by
        unfold Hid NdB
        rw [heap_setCell_other _ _ _ _ (by show w.heap.size ≠ w.heap.size + 2; omega), hB5.out.block _ (by omega)]
        exact HN1.out
      have HZ6 : Hid (NdB tRn (w5.setCell ⟨w.heap.size + 2, 5, none⟩ (.slice q5 (i + 1) cp5)) (w.heap.size + 1) nodeZ none 0 0) := by
        unfold Hid NdB
        rw [heap_setCell_other _ _ _ _ (by show w.heap.size + 1 ≠ w.heap.size + 2; omega), hB5.out.block _ (by omega)]
        exact HN0.out
      have HW6 : Hid ((w5.setCell ⟨w.heap.size + 2, 5, none⟩ (.slice q5 (i + 1) cp5)).ownsRow (w.heap.size + 3) tRn 6 (.slice q5 (i + 1) cp5) (i + 1) ((acc ++ [(mc, p2, l', c2)]).flatMap kidC)) :=
        row_carry HOW5.out (fun b hb => heap_setCell_other _ _ _ _ (by have := (HOW5.out.lt b hb).1; show b ≠ w.heap.size + 2; omega))
      have HL6 : Hid (Below w.heap.size w (w5.setCell ⟨w.heap.size + 2, 5, none⟩ (.slice q5 (i + 1) cp5))) := (HBL.out.trans (hB5.out.mono (by omega))).setCell (by show w.heap.size ≤ w.heap.size + 2; omega) _
      have HAN : Hid ((acc ++ [(mc, p2, l', c2)]).map Prod.fst = m.args.take (i + 1)) := by
        unfold Hid
        rw [List.map_append, HAC.out, List.take_add_one, HMG.out]
        rfl
      have e6 : w5.setCell ⟨w.heap.size + 1 + 1, 5, none⟩ (.slice q5 (i + 1) cp5) = w5.setCell ⟨w.heap.size + 2, 5, none⟩ (.slice q5 (i + 1) cp5) := rfl
      rw [e6]
      generalize w5.setCell ⟨w.heap.size + 2, 5, none⟩ (.slice q5 (i + 1) cp5) = w6 at HP6 HR6 HZ6 HW6 HL6 HKN ⊢
      clear e6 HHC HN5 HN0 HN1 HN2 HOW HOW5 hB5 hB3 hb4 e5 g5 HBL
      go_wp2_with fail
      go_roundg (gk - 1)
      case measure => omega
      case rel =>
        refine ⟨i + 1, acc ++ [(mc, p2, l', c2)], q5, cp5, by omega, by go_num, HAN.out, HR6.out, HZ6.out, HP6.out, HW6.out, fun d'' hd x hx => ?_, HL6.out⟩
        obtain rfl : d' = d'' := by have := HHD.out; omega
        exact HKN.out x hx
    · obtain rfl : i = len := by omega
      have hli : ¬ (i : Int) < (i : Int) := by omega
      obtain ⟨z0, z1, z2, z3, z4, z5⟩ := HN0.out.cells
      have f0 := unfrozen_of_block HN0.out 0
      have f1 := unfrozen_of_block HN0.out 1
      have f2 := unfrozen_of_block HN0.out 2
      have f3 := unfrozen_of_block HN0.out 3
      have f4 := unfrozen_of_block HN0.out 4
      have f5 := unfrozen_of_block HN0.out 5
      go_wp2_with fail
      obtain ⟨h1, h2, h3⟩ := six_heap (.int .i64 m.kind) (.int .i64 m.num) (.string ⟨m.text.toArray⟩) (.int .i64 m.frm) (.int .i64 m.tor) (.slice q i cp) HN0.out
      refine bodyPost_ret (results_cell_row rfl _ _ (w.heap.size + 1) tRn (ndA m q i cp) (0, 0) _ rfl h1 Tryz.underlying25 rfl (by kernel_rfl)) rfl ?_
      have hla : acc.length = i := by
        have h := congrArg List.length HAC.out
        rw [List.length_map, List.length_take, HALm.out] at h
        omega
      have hs6 := (h3 0 (Nat.zero_le _)).size
      refine ⟨⟨q, ⟨cp, rfl⟩, ?_⟩, HBL.out.trans (h3 _ (by omega))⟩
      cases d with
      | zero =>
        have h := HRD.out
        exact ⟨List.length_eq_zero_iff.1 (by rw [HALm.out, h.2]), h.2⟩
      | succ d =>
        subst hla
        obtain ⟨q', cp', hv, hr⟩ := RdP.of_rowR (n := m) (d := d) (ok := fun b => w.heap.size + 3 ≤ b ∧ b < wr.heap.size) HOW.out (by rw [HAC.out, List.take_of_length_le (by rw [HALm.out]; exact Nat.le_refl _)]) (fun x hx => RdP.carry (fun b hb => ⟨⟨hb.1, hb.2.1⟩, rfl⟩) (HKD.out d rfl x hx)) (fun b hb => HOW.out.lt b hb)
        cases hv
        exact RdP.carry (fun b hb => ⟨⟨by omega, by omega⟩, h2 b (by omega)⟩) hr
theorem named_any : ∀ d, NamedC d
  | 0 => named_s 0 (fun d' h => by omega)
  | d + 1 => named_s (d + 1) (fun d' h => (show d = d' from by omega) ▸ named_any d)
end Go.Proofs.YtigmcoelkkihkaaGreatDoor
namespace Go.Proofs.YtigmcoelkkihkaaGreatDoor
open Go.RowKit Go.Joins

/-- All that is known of the parser in memory. -/
structure PSt (ws w : World) (b : Nat) (q : Option Addr) (Ts : List Tks.Tk) (cT i : Nat) : Prop where
  psr : Psr w b q Ts.length cT i
  tks : TkR w b q Ts
  len : Ts.length ≤ 1000
  sh : ws.ShapedOpen Tryz.prog
  bel : Below ws.heap.size ws w
  hb : ws.heap.size ≤ b
theorem PSt.off {ws w w' : World} {b : Nat} {q : Option Addr} {Ts : List Tks.Tk} {cT i j : Nat} (h : PSt ws w b q Ts cT i) (ho : Off b w w') (hp : Psr w' b q Ts.length cT j) : PSt ws w' b q Ts cT j :=
  ⟨hp, h.tks.off ho, h.len, h.sh, h.bel.trans (ho.below h.hb h.bel.size), h.hb⟩
theorem Off.psr {w w' : World} {b : Nat} {q : Option Addr} {n cT i : Nat} (h : Psr w b q n cT i) (hb : Below w.heap.size w w') : Psr w' b q n cT i := h.below hb
theorem PSt.below {ws w w' : World} {b : Nat} {q : Option Addr} {Ts : List Tks.Tk} {cT i : Nat} (h : PSt ws w b q Ts cT i) (hb : Below w.heap.size w w') : PSt ws w' b q Ts cT i := h.off (Off.of_below hb) (h.psr.below hb)
theorem PSt.shaped {ws w : World} {b : Nat} {q : Option Addr} {Ts : List Tks.Tk} {cT i : Nat} (h : PSt ws w b q Ts cT i) : w.ShapedOpen Tryz.prog := shaped_below h.sh h.bel
theorem PSt.lt {ws w : World} {b : Nat} {q : Option Addr} {Ts : List Tks.Tk} {cT i : Nat} (h : PSt ws w b q Ts cT i) : b < w.heap.size := lt_some h.psr
/-- What may come behind a part of a level. -/
def RestOk (lv : Int) : List Tw → Prop
  | [] => True
  | x :: _ => x.1 = 4 ∧ x.2 ≠ [40] ∧ x.2 ≠ [58] ∧ ∀ l, lv ≤ l → x.2 ∉ sgS l
theorem RestOk.up {lv lv' : Int} (h : lv ≤ lv') : ∀ {r : List Tw}, RestOk lv r → RestOk lv' r
  | [], _ => trivial
  | x :: _, ⟨h1, h2, h3, h4⟩ => ⟨h1, h2, h3, fun l hl => h4 l (by omega)⟩
/-- A tree that is handed back: its parts lie in new blocks. -/
def ResN (w : World) (n : Nd) (e : Ending) (w' : World) : Prop := ∃ p cap, e = .returned (.agg (Cel.ndA n p n.args.length cap)) ∧ ∀ d, dpN n ≤ d + 1 → Cel.RdP w' (fun k => w.heap.size ≤ k ∧ k < w'.heap.size) d n p n.args.length
def PaP (b : Nat) (q : Option Addr) (nT cT i k : Nat) (n : Nd) (w : World) (e : Ending) (w' : World) : Prop := ResN w n e w' ∧ Psr w' b q nT cT (i + k) ∧ Off b w w'
/-- The tokens from a place on. -/
def At (Ts : List Tks.Tk) (i : Nat) (l : List Tw) : Prop := (Ts.drop i).map tw = l
theorem At.get {Ts : List Tks.Tk} {i : Nat} {x : Tw} {l : List Tw} (h : At Ts i (x :: l)) : ∃ y, Ts[i]? = some y ∧ tw y = x ∧ At Ts (i + 1) l := by
  unfold At at h ⊢
  have hlt : i < Ts.length := by
    have := congrArg List.length h
    simp at this
    omega
  rw [List.drop_eq_getElem_cons hlt, List.map_cons] at h
  simp only [List.cons.injEq] at h
  exact ⟨Ts[i], List.getElem?_eq_getElem hlt, h.1, h.2⟩
theorem At.nil {Ts : List Tks.Tk} {i : Nat} (h : At Ts i []) : Ts[i]? = none := by
  unfold At at h
  have := congrArg List.length h
  simp at this
  rw [List.getElem?_eq_none_iff]
  omega
theorem At.app {Ts : List Tks.Tk} : ∀ {l r : List Tw} {i : Nat}, At Ts i (l ++ r) → At Ts (i + l.length) r
  | [], r, i, h => h
  | x :: l, r, i, h => by
    obtain ⟨_, _, _, h2⟩ := At.get (l := l ++ r) h
    have := At.app h2
    rw [List.length_cons, show i + (l.length + 1) = i + 1 + l.length from by omega]
    exact this
theorem At.lt {Ts : List Tks.Tk} {i : Nat} {l : List Tw} (h : At Ts i l) (hi : i ≤ Ts.length) : i + l.length = Ts.length := by
  unfold At at h
  have := congrArg List.length h
  simp at this
  omega
theorem At.le {Ts : List Tks.Tk} {i : Nat} {x : Tw} {l : List Tw} (h : At Ts i (x :: l)) : i + 1 ≤ Ts.length := by
  obtain ⟨y, h1, _⟩ := h.get
  have := (List.getElem?_eq_some_iff.1 h1).1
  omega
theorem isB_head {Ts : List Tks.Tk} {i : Nat} {x : Tw} {l : List Tw} (h : At Ts i (x :: l)) (s : Bs) : isB Ts i s = (decide (x.1 = 4) && decide (x.2 = s)) := by
  obtain ⟨y, h1, h2, _⟩ := h.get
  unfold isB
  rw [h1, ← h2]
  rfl
theorem isB_nil {Ts : List Tks.Tk} {i : Nat} (h : At Ts i []) (s : Bs) : isB Ts i s = false := by
  unfold isB
  rw [h.nil]
theorem isB_rest {Ts : List Tks.Tk} {i : Nat} {lv : Int} : ∀ {r : List Tw}, At Ts i r → RestOk lv r → isB Ts i [40] = false ∧ isB Ts i [58] = false ∧ ∀ l, lv ≤ l → sgO Ts i l = []
  | [], h, _ => ⟨isB_nil h _, isB_nil h _, fun l _ => by unfold sgO; rw [h.nil]⟩
  | x :: r, h, ⟨h1, h2, h3, h4⟩ => by
    refine ⟨by rw [isB_head h, decide_eq_false h2, Bool.and_false], by rw [isB_head h, decide_eq_false h3, Bool.and_false], fun l hl => ?_⟩
    refine sgO_no (fun s hs => ?_)
    have hne : decide (x.2 = s) = false := decide_eq_false (fun e => h4 l hl (by rw [e]; exact hs))
    rw [isB_head h, hne, Bool.and_false]
theorem sgO_head {Ts : List Tks.Tk} {i : Nat} {t : Bs} {l : List Tw} {lv : Int} (h : At Ts i ((4, t) :: l)) (ht : t ∈ sgS lv) : sgO Ts i lv = t := by
  refine sgO_yes ?_ ht
  rw [isB_head h]
  simp
theorem lvS_in {t : Bs} (h : 1 ≤ lvS t) : t ∈ sgS (lvS t) := by
  unfold lvS at h ⊢
  split
  · assumption
  · rename_i h1
    rw [if_neg h1] at h
    split
    · assumption
    · rename_i h2
      rw [if_neg h2] at h
      split
      · assumption
      · rename_i h3
        rw [if_neg h3] at h
        split
        · assumption
        · rename_i h4
          rw [if_neg h4] at h
          omega
theorem sgS_lv {t : Bs} {l : Int} (h : t ∈ sgS l) : lvS t = l ∧ 1 ≤ l ∧ l ≤ 4 := by
  unfold sgS at h
  split at h
  · rename_i e
    simp only [sg1, List.mem_cons, List.not_mem_nil, or_false] at h
    subst e
    rcases h with rfl | rfl | rfl | rfl | rfl | rfl <;> decide
  · split at h
    · rename_i e
      simp only [sg2, List.mem_cons, List.not_mem_nil, or_false] at h
      subst e
      subst h
      decide
    · split at h
      · rename_i e
        simp only [sg3, List.mem_cons, List.not_mem_nil, or_false] at h
        subst e
        rcases h with rfl | rfl <;> decide
      · split at h
        · rename_i e
          simp only [sg4, List.mem_cons, List.not_mem_nil, or_false] at h
          subst e
          rcases h with rfl | rfl <;> decide
        · cases h
theorem rest_sign {t : Bs} (ht : 1 ≤ lvS t) (r : List Tw) : RestOk (lvS t + 1) ((4, t) :: r) := by
  refine ⟨rfl, ?_, ?_, fun l hl hm => ?_⟩
  · rintro rfl
    exact absurd ht (by decide)
  · rintro rfl
    exact absurd ht (by decide)
  · have : lvS t = l := (sgS_lv hm).1
    omega
theorem rest_shut (lv : Int) (r : List Tw) : RestOk lv ((4, [41]) :: r) := by
  refine ⟨rfl, by decide, by decide, fun l hl hm => ?_⟩
  have := (sgS_lv hm).2.1
  have h2 := (sgS_lv hm).1
  rw [← h2] at this
  exact absurd this (by decide)
theorem rest_comma (lv : Int) (r : List Tw) : RestOk lv ((4, [44]) :: r) := by
  refine ⟨rfl, by decide, by decide, fun l hl hm => ?_⟩
  have := (sgS_lv hm).2.1
  have h2 := (sgS_lv hm).1
  rw [← h2] at this
  exact absurd this (by decide)
/-- A chain of parts with signs between. -/
def foldS (x : Nd) (l : List (Bs × Nd)) : Nd := l.foldl (fun a y => .mk 6 0 y.1 0 0 [a, y.2]) x
theorem foldS_snoc (x : Nd) (l : List (Bs × Nd)) (t : Bs) (b : Nd) : foldS x (l ++ [(t, b)]) = .mk 6 0 t 0 0 [foldS x l, b] := by unfold foldS; rw [List.foldl_append]; rfl
def tkS (lv : Int) : List (Bs × Nd) → List Tw
  | [] => []
  | y :: r => (4, y.1) :: (tkN nmS y.2 (lv + 1) ++ tkS lv r)
theorem tkS_app (lv : Int) : ∀ a b : List (Bs × Nd), tkS lv (a ++ b) = tkS lv a ++ tkS lv b
  | [], b => rfl
  | y :: r, b => by rw [List.cons_append, tkS, tkS, tkS_app lv r b]; simp
theorem dpN_bin (t : Bs) (a b : Nd) : dpN (.mk 6 0 t 0 0 [a, b]) = max (dpN a) (dpN b) + 1 := by
  rw [dpN, dpL, dpL, dpL]
  omega
theorem dpN_one (k : Int) (t : Bs) (a : Nd) : dpN (.mk k 0 t 0 0 [a]) = dpN a + 1 := by
  rw [dpN, dpL, dpL]
  omega
theorem wtN_bin (t : Bs) (a b : Nd) : wtN a < wtN (.mk 6 0 t 0 0 [a, b]) ∧ wtN b < wtN (.mk 6 0 t 0 0 [a, b]) := by
  rw [wtN, wtL, wtL, wtL]
  omega
/-- A tree as a chain of one level. -/
theorem spine (lv : Int) (hlv : lv ≤ 4) {n : Nd} (h : Fm n) : ∃ (x : Nd) (l : List (Bs × Nd)), n = foldS x l ∧ Fm x ∧ hdS x.kind x.text ≠ lv ∧ (∀ y ∈ l, lvS y.1 = lv ∧ 1 ≤ lvS y.1 ∧ Fm y.2 ∧ wtN y.2 < wtN n) ∧ ((l = [] ∧ x = n) ∨ wtN x < wtN n) ∧ tkN nmS n lv = tkN nmS x (lv + 1) ++ tkS lv l := by
  have key : ∀ m : Nd, hdS m.kind m.text ≠ lv → tkN nmS m lv = tkN nmS m (lv + 1) := fun m hm => by
    rw [tkN_split, tkN_split nmS m (lv + 1)]
    by_cases h : hdS m.kind m.text < lv
    · rw [if_pos h, if_pos (by omega)]
    · rw [if_neg h, if_neg (by omega)]
  have self : ∀ m : Nd, Fm m → hdS m.kind m.text ≠ lv → ∃ (x : Nd) (l : List (Bs × Nd)), m = foldS x l ∧ Fm x ∧ hdS x.kind x.text ≠ lv ∧ (∀ y ∈ l, lvS y.1 = lv ∧ 1 ≤ lvS y.1 ∧ Fm y.2 ∧ wtN y.2 < wtN m) ∧ ((l = [] ∧ x = m) ∨ wtN x < wtN m) ∧ tkN nmS m lv = tkN nmS x (lv + 1) ++ tkS lv l := fun m h hm =>
    ⟨m, [], rfl, h, hm, (fun y hy => by cases hy), .inl ⟨rfl, rfl⟩, by rw [key m hm]; simp [tkS]⟩
  induction h with
  | bin t a b ht h1 h2 i1 i2 =>
    by_cases hh : lvS t = lv
    · have hw := wtN_bin t a b
      have e : tkN nmS (.mk 6 0 t 0 0 [a, b]) lv = tkN nmS a lv ++ (4, t) :: tkN nmS b (lv + 1) := by
        rw [tkN_split, if_neg (by show ¬ lvS t < lv; omega), tk_bin', hh]
      obtain ⟨x, l, e1, hx, hxl, hl, hlx, hlt2⟩ := i1
      refine ⟨x, l ++ [(t, b)], by rw [foldS_snoc, ← e1], hx, hxl, fun y hy => ?_, .inr ?_, ?_⟩
      · rcases List.mem_append.1 hy with hy | hy
        · obtain ⟨k1, k2, k3, k4⟩ := hl y hy
          exact ⟨k1, k2, k3, by omega⟩
        · obtain rfl := List.mem_singleton.1 hy
          exact ⟨hh, ht, h2, hw.2⟩
      · rcases hlx with ⟨_, rfl⟩ | hlx <;> omega
      · rw [e, hlt2, tkS_app]
        simp [tkS]
    · exact self _ (.bin t a b ht h1 h2) hh
  | num u h1 h2 => exact self _ (.num u h1 h2) (by show (6 : Int) ≠ lv; omega)
  | txt t => exact self _ (.txt t) (by show (6 : Int) ≠ lv; omega)
  | ref f h => exact self _ (.ref f h) (by show (6 : Int) ≠ lv; omega)
  | rng f o h1 h2 => exact self _ (.rng f o h1 h2) (by show (6 : Int) ≠ lv; omega)
  | neg a h ih => exact self _ (.neg a h) (by show (5 : Int) ≠ lv; omega)
  | cal t ar ht hl h ih => exact self _ (.cal t ar ht hl h) (by show (6 : Int) ≠ lv; omega)
  | flt => exact self _ .flt (by show (6 : Int) ≠ lv; omega)
/-- Contracts of the parser's functions at the tokens of a tree. -/
def BinC (n : Nd) (lv : Int) : Prop := ∀ (ws w : World) (b : Nat) (q : Option Addr) (cT i : Nat) (Ts : List Tks.Tk) (rest : List Tw), PSt ws w b q Ts cT i → At Ts i (tkN nmS n lv ++ rest) → RestOk lv rest →
  Calls Tryz.prog 24 #[.pointer (some ⟨b, 0, none⟩), .int .i64 lv] w (PaP b q Ts.length cT i (tkN nmS n lv).length n w)
def UnC (n : Nd) : Prop := ∀ (ws w : World) (b : Nat) (q : Option Addr) (cT i : Nat) (Ts : List Tks.Tk) (rest : List Tw), PSt ws w b q Ts cT i → At Ts i (tkN nmS n 5 ++ rest) → RestOk 5 rest →
  Calls Tryz.prog 46 #[.pointer (some ⟨b, 0, none⟩)] w (PaP b q Ts.length cT i (tkN nmS n 5).length n w)
def PrC (n : Nd) : Prop := ∀ (ws w : World) (b : Nat) (q : Option Addr) (cT i : Nat) (Ts : List Tks.Tk) (rest : List Tw), PSt ws w b q Ts cT i → At Ts i (tkN nmS n 5 ++ rest) → RestOk 5 rest →
  Calls Tryz.prog 76 #[.pointer (some ⟨b, 0, none⟩)] w (PaP b q Ts.length cT i (tkN nmS n 5).length n w)
/-- A node of one part that is laid in a block. -/
theorem rdp_one {W : World} {n c : Nd} {g : Nat} {p : Option Addr} {l cp : Nat} {T : TypeId} (hn : n.args = [c]) (hg : BlkC W g (Cel.ndA c p l cp) T) {N : Nat} (h1 : N ≤ g) (h2 : g < W.heap.size) (hd : dpN n = dpN c + 1)
    (hc : ∀ d, dpN c ≤ d + 1 → Cel.RdP W (fun k => N ≤ k ∧ k < W.heap.size) d c p l) : ∀ d, dpN n ≤ d + 1 → Cel.RdP W (fun k => N ≤ k ∧ k < W.heap.size) d n (some ⟨g, 0, none⟩) 1 := by
  intro d hdd
  have hd0 : 1 ≤ dpN c := by cases c; rw [dpN]; omega
  cases d with
  | zero => omega
  | succ d =>
    refine ⟨by rw [hn]; rfl, .inr ⟨g, 0, rfl, ⟨h1, h2⟩, fun j x hx => ?_⟩⟩
    rw [hn] at hx
    match j, hx with
    | 0, hx =>
      simp only [List.getElem?_cons_zero, Option.some.injEq] at hx
      subst hx
      refine ⟨p, l, cp, fun k u hu => ?_, hc d (by omega)⟩
      have := BlkC.cell hg k u (by show (Cel.ndC c p l cp).toArray[k]? = some u; rw [List.getElem?_toArray]; exact hu)
      rw [show 0 + 0 * 8 + k = k from by omega]
      exact this
    | j + 1, hx => simp at hx
theorem rdp_two {W : World} {n a c : Nd} {g : Nat} {p p' : Option Addr} {l l' cp cp' : Nat} {T : TypeId} (hn : n.args = [a, c]) (hg : BlkC W g (Cel.ndC a p l cp ++ Cel.ndC c p' l' cp').toArray T) {N : Nat} (h1 : N ≤ g) (h2 : g < W.heap.size) (hd : dpN n = max (dpN a) (dpN c) + 1)
    (ha : ∀ d, dpN a ≤ d + 1 → Cel.RdP W (fun k => N ≤ k ∧ k < W.heap.size) d a p l) (hc : ∀ d, dpN c ≤ d + 1 → Cel.RdP W (fun k => N ≤ k ∧ k < W.heap.size) d c p' l') : ∀ d, dpN n ≤ d + 1 → Cel.RdP W (fun k => N ≤ k ∧ k < W.heap.size) d n (some ⟨g, 0, none⟩) 2 := by
  intro d hdd
  have hd0 : 1 ≤ dpN c := by cases c; rw [dpN]; omega
  cases d with
  | zero => omega
  | succ d =>
    refine ⟨by rw [hn]; rfl, .inr ⟨g, 0, rfl, ⟨h1, h2⟩, fun j x hx => ?_⟩⟩
    rw [hn] at hx
    match j, hx with
    | 0, hx =>
      simp only [List.getElem?_cons_zero, Option.some.injEq] at hx
      subst hx
      refine ⟨p, l, cp, fun k u hu => ?_, ha d (by omega)⟩
      have hk : k < (Cel.ndC a p l cp).length := (List.getElem?_eq_some_iff.1 hu).1
      have := BlkC.cell hg k u (by rw [List.getElem?_toArray, List.getElem?_append_left hk]; exact hu)
      rw [show 0 + 0 * 8 + k = k from by omega]
      exact this
    | 1, hx =>
      simp only [List.getElem?_cons_succ, List.getElem?_cons_zero, Option.some.injEq] at hx
      subst hx
      refine ⟨p', l', cp', fun k u hu => ?_, hc d (by omega)⟩
      have := BlkC.cell hg (8 + k) u (by rw [List.getElem?_toArray, List.getElem?_append_right (by show 8 ≤ 8 + k; omega)]; rw [← hu]; congr 1; show 8 + k - 8 = k; omega)
      rw [show 0 + 1 * 8 + k = 8 + k from by omega]
      exact this
    | j + 2, hx => simp at hx
theorem rdp_two' {ok : Nat → Prop} {W : World} {n a c : Nd} {g : Nat} {p p' : Option Addr} {l l' cp cp' : Nat} {T : TypeId} (hn : n.args = [a, c]) (hg : BlkC W g (Cel.ndC a p l cp ++ Cel.ndC c p' l' cp').toArray T) (h1 : ok g) (hd : dpN n = max (dpN a) (dpN c) + 1)
    (ha : ∀ d, dpN a ≤ d + 1 → Cel.RdP W ok d a p l) (hc : ∀ d, dpN c ≤ d + 1 → Cel.RdP W ok d c p' l') : ∀ d, dpN n ≤ d + 1 → Cel.RdP W ok d n (some ⟨g, 0, none⟩) 2 := by
  intro d hdd
  have hd0 : 1 ≤ dpN c := by cases c; rw [dpN]; omega
  cases d with
  | zero => omega
  | succ d =>
    refine ⟨by rw [hn]; rfl, .inr ⟨g, 0, rfl, h1, fun j x hx => ?_⟩⟩
    rw [hn] at hx
    match j, hx with
    | 0, hx =>
      simp only [List.getElem?_cons_zero, Option.some.injEq] at hx
      subst hx
      refine ⟨p, l, cp, fun k u hu => ?_, ha d (by omega)⟩
      have hk : k < (Cel.ndC a p l cp).length := (List.getElem?_eq_some_iff.1 hu).1
      have := BlkC.cell hg k u (by rw [List.getElem?_toArray, List.getElem?_append_left hk]; exact hu)
      rw [show 0 + 0 * 8 + k = k from by omega]
      exact this
    | 1, hx =>
      simp only [List.getElem?_cons_succ, List.getElem?_cons_zero, Option.some.injEq] at hx
      subst hx
      refine ⟨p', l', cp', fun k u hu => ?_, hc d (by omega)⟩
      have := BlkC.cell hg (8 + k) u (by rw [List.getElem?_toArray, List.getElem?_append_right (by show 8 ≤ 8 + k; omega)]; rw [← hu]; congr 1; show 8 + k - 8 = k; omega)
      rw [show 0 + 1 * 8 + k = 8 + k from by omega]
      exact this
    | j + 2, hx => simp at hx
theorem rdp_leaf (W : World) (ok : Nat → Prop) {n : Nd} (hn : n.args = []) (p : Option Addr) : ∀ d, Cel.RdP W ok d n p 0
  | 0 => ⟨hn, rfl⟩
  | d + 1 => ⟨by rw [hn]; rfl, .inl rfl⟩
theorem Off.bc {b k : Nat} {w w' : World} {cs : Array Value} {t : TypeId} (h : Off b w w') (hk : k ≠ b) (hc : BlkC w k cs t) : BlkC w' k cs t := h.blk hk hc
/-- The answer stored into the block of the result. -/
theorem res_store {b : Nat} {q : Option Addr} {nT cT i k : Nat} {w W : World} {n : Nd} {p : Option Addr} {l cp : Nat} {C : Array Value} (h1 : BlkC W w.heap.size C Cel.tPn) (hC : C.size = 8) (hp : Psr W b q nT cT (i + k)) (ho : Off b w W) (hb : b < w.heap.size) (hl : n.args.length = l)
    (hk : ∀ d, dpN n ≤ d + 1 → Cel.RdP W (fun k => w.heap.size < k ∧ k < W.heap.size) d n p l) :
    BlkC (W.setCells w.heap.size 0 (Cel.ndA n p l cp).toList) w.heap.size (Cel.ndA n p l cp) Cel.tPn ∧ PaP b q nT cT i k n w (.returned (.agg (Cel.ndA n p l cp))) (W.setCells w.heap.size 0 (Cel.ndA n p l cp).toList) := by
  have hz := (store_below (Nat.zero_le w.heap.size) (Cel.ndA n p l cp).toList 0 W (Below.refl 0 W)).size
  refine ⟨store_block h1 _ (by rw [hC]; rfl), ⟨p, cp, by rw [hl], fun d hd => ?_⟩, (store_other (by omega) _ _ _).trans hp, ho.set_cells (Nat.le_refl _) _ _⟩
  rw [hl]
  exact (hk d hd).carry (fun k hk' => ⟨⟨by omega, by omega⟩, store_other (by omega) _ _ _⟩)
theorem prim_head {n : Nd} (h : Fm n) (hk : n.kind ≠ 5) {Ts : List Tks.Tk} {i : Nat} {rest : List Tw} (hat : At Ts i (tkN nmS n 5 ++ rest)) : isB Ts i [45] = false := by
  have key : ∀ x l, At Ts i (x :: l) → (x.1 ≠ 4 ∨ x.2 ≠ [45]) → isB Ts i [45] = false := fun x l h1 h2 => by
    rw [isB_head h1]
    rcases h2 with h2 | h2
    · rw [decide_eq_false h2]; rfl
    · rw [decide_eq_false h2, Bool.and_false]
  rw [tkN_split] at hat
  cases h with
  | num u h1 h2 => exact key _ _ hat (.inl (by show (1 : Int) ≠ 4; omega))
  | txt t => exact key _ _ hat (.inl (by show (2 : Int) ≠ 4; omega))
  | ref f h => exact key _ _ hat (.inl (by show (3 : Int) ≠ 4; omega))
  | rng f o h1 h2 => exact key _ _ hat (.inl (by show (3 : Int) ≠ 4; omega))
  | neg a h => exact absurd rfl hk
  | bin t a c ht h1 h2 =>
    rw [if_pos (by have := lvS_pos t; show lvS t < 5; omega)] at hat
    exact key _ _ hat (.inr (by decide))
  | cal t ar ht hl h =>
    rw [if_neg (by show ¬ (6 : Int) < 5; omega), tk_cal'] at hat
    exact key _ _ hat (.inl (by show (3 : Int) ≠ 4; omega))
  | flt => exact key _ _ hat (.inl (by show (5 : Int) ≠ 4; omega))
theorem rest_tkS {lv : Int} {l : List (Bs × Nd)} (hl : ∀ y ∈ l, lvS y.1 = lv ∧ 1 ≤ lvS y.1) {rest : List Tw} (hr : RestOk lv rest) : RestOk (lv + 1) (tkS lv l ++ rest) := by
  cases l with
  | nil => exact hr.up (by omega)
  | cons y l =>
    obtain ⟨h1, h2⟩ := hl y (by simp)
    have := rest_sign h2 (tkN nmS y.2 (lv + 1) ++ tkS lv l ++ rest)
    rw [h1] at this
    exact this
end Go.Proofs.YtigmcoelkkihkaaGreatDoor
namespace Go.Proofs.YtigmcoelkkihkaaGreatDoor
open Go.RowKit Go.Joins

theorem hd5 (a : Nd) : tkN nmS (.mk 5 0 [] 0 0 [a]) 5 = (4, [45]) :: tkN nmS a 5 := by
  rw [tkN_split, if_neg (by show ¬ (5 : Int) < 5; omega), tk_neg']
set_option maxRecDepth 100000 in
set_option maxHeartbeats 8000000 in
theorem un_neg (a : Nd) (IH : UnC a) : UnC (.mk 5 0 [] 0 0 [a]) := by
  intro ws w b q cT i Ts rest hst hat hrs
  rw [hd5] at hat ⊢
  have hat' : At Ts i ((4, [45]) :: (tkN nmS a 5 ++ rest)) := hat
  obtain ⟨y, hy1, hy2, hat1⟩ := hat'.get
  have hib : isB Ts i [45] = true := by rw [isB_head hat']; rfl
  have hA0 : Hid (BlkC (w.alloc (.cells (Cel.ndA nodeZ none 0 0) Cel.tPn)) w.heap.size (Cel.ndA nodeZ none 0 0) Cel.tPn) := heap_alloc_new w _
  have hAB : Below w.heap.size w (w.alloc (.cells (Cel.ndA nodeZ none 0 0) Cel.tPn)) := by (repeat' (first | (with_reducible exact Below.refl _ _) | (with_reducible assumption) | (with_reducible refine Below.alloc ?_ ?_ _) | (with_reducible refine bel_drewN ?_ _) | (with_reducible refine Below.drew ?_) | (with_reducible refine Below.setCell ?_ ?_ _) | (with_reducible refine bel_call ‹_› ?_ ?_) | go_size))
  have HS0 := Lib.hid (hst.below hAB)
  have HO0 := Lib.hid (Off.of_below (b := b) hAB)
  have hbw := hst.lt
  have HIS := Lib.hid (fun W (h : PSt ws W b q Ts cT i) => is_any b q cT i Ts [45] W h.psr h.tks h.len)
  have HUN := Lib.hid (fun W (h : PSt ws W b q Ts cT (i + 1)) => IH ws W b q cT (i + 1) Ts rest h hat1 hrs)
  rw [hib] at HIS
  have HK := Lib.hid (show i + 1 + (tkN nmS a 5).length = i + ((4, [45]) :: tkN nmS a 5).length from by rw [List.length_cons]; omega)
  generalize ((4, [45]) :: tkN nmS a 5).length = kk at HK ⊢
  generalize (tkN nmS a 5).length = k at HK HUN
  obtain ⟨nT, hnT⟩ : ∃ n, Ts.length = n := ⟨_, rfl⟩
  have HNT := Lib.hid hnT
  rw [hnT] at HUN HIS ⊢
  clear hnT
  clear hat hat' hy1 hy2 hat1 hib hrs IH
  clear hst hAB
  go_enter Tryz.func46, Tryz.ntmps46
  go_upto_region 1 with fail
  have e0 : w.alloc (.cells #[.int .i64 0, .int .i64 0, .string ⟨#[]⟩, .int .i64 0, .int .i64 0, .int .i64 0, .int .i64 0, .slice none 0 0] Cel.tPn) = w.alloc (.cells (Cel.ndA nodeZ none 0 0) Cel.tPn) := rfl
  rw [e0]
  clear e0
  generalize w.alloc (.cells (Cel.ndA nodeZ none 0 0) Cel.tPn) = w0 at hA0 HS0 HO0 ⊢
  go_wp2_with fail
  refine (HIS.out w0 HS0.out).mono ?_
  rintro e w1 ⟨rfl, hp1, ho1⟩
  rw [if_pos rfl] at hp1
  have hA1 := Lib.hid (ho1.bc (by omega) hA0.out)
  have HS1 := Lib.hid (HS0.out.off ho1 (by rw [HNT.out]; exact hp1))
  have HO1 := Lib.hid (HO0.out.trans ho1)
  clear hp1 ho1 hA0 HS0 HO0 HIS
  go_wp2_with fail
  refine (HUN.out w1 HS1.out).mono ?_
  rintro e w2 ⟨⟨p, cap, rfl, hk⟩, hp2, ho2⟩
  rename_i KK aK
  go_simp
  refine aK _ _ ?_
  clear aK
  obtain ⟨l, hl⟩ : ∃ l, a.args.length = l := ⟨_, rfl⟩
  rw [hl] at hk ⊢
  have HP2 : Hid (Psr w2 b q nT cT (i + kk)) := by unfold Hid; rw [← HK.out]; exact hp2
  have HA2 := Lib.hid (ho2.bc (by omega) hA1.out)
  have HO2 := Lib.hid (HO1.out.trans ho2)
  have HKD := Lib.hid hk
  have hs1 := HO1.out.size
  have hs2 := ho2.size
  have hs0 : w.heap.size < w1.heap.size := lt_some hA1.out
  clear hp2 ho2 hk hA1 HS1 HO1 HUN
  rw [show Value.agg (Cel.ndA a p l cap) = .agg #[.int .i64 a.kind, .int .i64 a.num, .string ⟨a.text.toArray⟩, .int .i64 (cC a.frm), .int .i64 (cR a.frm), .int .i64 (cC a.tor), .int .i64 (cR a.tor), .slice p l cap] from rfl]
  iterate 3 (first | go_values | go_step)
  have e2 : w2.alloc (.cells #[.int .i64 a.kind, .int .i64 a.num, .string ⟨a.text.toArray⟩, .int .i64 (cC a.frm), .int .i64 (cR a.frm), .int .i64 (cC a.tor), .int .i64 (cR a.tor), .slice p l cap] Cel.tPn) = w2.alloc (.cells (Cel.ndA a p l cap) Cel.tPn) := rfl
  rw [e2]
  clear e2
  have HG3 : Hid (BlkC (w2.alloc (.cells (Cel.ndA a p l cap) Cel.tPn)) w2.heap.size (Cel.ndA a p l cap) Cel.tPn) := heap_alloc_new w2 _
  have hAB3 : Below w2.heap.size w2 (w2.alloc (.cells (Cel.ndA a p l cap) Cel.tPn)) := by (repeat' (first | (with_reducible exact Below.refl _ _) | (with_reducible assumption) | (with_reducible refine Below.alloc ?_ ?_ _) | (with_reducible refine bel_drewN ?_ _) | (with_reducible refine Below.drew ?_) | (with_reducible refine Below.setCell ?_ ?_ _) | (with_reducible refine bel_call ‹_› ?_ ?_) | go_size))
  have HA3 := Lib.hid (HA2.out.below hAB3)
  have HP3 := Lib.hid (HP2.out.below hAB3)
  have HO3 := Lib.hid (HO2.out.call hAB3)
  have hs3 : (w2.alloc (.cells (Cel.ndA a p l cap) Cel.tPn)).heap.size = w2.heap.size + 1 := World.size_alloc _ _
  have HK3 : Hid (∀ d, dpN a ≤ d + 1 → Cel.RdP (w2.alloc (.cells (Cel.ndA a p l cap) Cel.tPn)) (fun k => w1.heap.size ≤ k ∧ k < w2.heap.size) d a p l) := fun d hd => (HKD.out d hd).carry (fun k hk => ⟨hk, hAB3.block k hk.2⟩)
  clear hAB3 HA2 HP2 HO2 HKD
  generalize w2.alloc (.cells (Cel.ndA a p l cap) Cel.tPn) = w3 at HG3 HA3 HP3 HO3 HK3 hs3 ⊢
  generalize w2.heap.size = g at HG3 HK3 hs2 hs3 ⊢
  refine wpList_plain rfl fun K hK => ?_
  go_simp
  refine hK _ _ ?_
  clear hK K
  refine wpList_store_mid (by rfl) _ _ _ (by rfl) w.heap.size 0 #[.int .i64 5, .int .i64 0, .string ⟨#[]⟩, .int .i64 0, .int .i64 0, .int .i64 0, .int .i64 0, .slice (some ⟨g, 0, none⟩) 1 1] (by rfl) (by rfl) (block_there HA3.out 8 (Nat.le_refl _)) (by kernel_rfl) (by simp [Value.oneCell']) ?_
  obtain ⟨hs8, hf8⟩ := res_store (n := .mk 5 0 [] 0 0 [a]) (p := some ⟨g, 0, none⟩) (l := 1) (cp := 1) HA3.out rfl HP3.out HO3.out hbw rfl (by
    refine fun d hd => (rdp_one (N := w.heap.size + 1) (c := a) rfl HG3.out (by omega) (by omega) (dpN_one 5 [] a) (fun d hd => (HK3.out d hd).carry (fun k hk => ⟨⟨by omega, by omega⟩, rfl⟩)) d hd).carry (fun k hk => ⟨⟨by omega, by omega⟩, rfl⟩))
  have HS8 := Lib.hid hs8
  have HF8 := Lib.hid hf8
  clear hs8 hf8
  have e8 : w3.setCells w.heap.size 0 (#[.int .i64 5, .int .i64 0, .string ⟨#[]⟩, .int .i64 0, .int .i64 0, .int .i64 0, .int .i64 0, .slice (some ⟨g, 0, none⟩) 1 1]).toList = w3.setCells w.heap.size 0 (Cel.ndA (.mk 5 0 [] 0 0 [a]) (some ⟨g, 0, none⟩) 1 1).toList := rfl
  rw [e8]
  clear e8
  generalize w3.setCells w.heap.size 0 (Cel.ndA (.mk 5 0 [] 0 0 [a]) (some ⟨g, 0, none⟩) 1 1).toList = w9 at HS8 HF8 ⊢
  go_simp
  iterate 3 (first | go_values | go_skip | go_guarded | go_step | go_upon)
  apply wp_ret
  try simp only [Exit.inBlock, Exit.then]
  exact bodyPost_ret (results_cell_row rfl _ _ w.heap.size Cel.tPn (Cel.ndA (.mk 5 0 [] 0 0 [a]) (some ⟨g, 0, none⟩) 1 1) (0, 0) _ rfl HS8.out Tryz.underlying34 rfl (by kernel_rfl)) rfl HF8.out
set_option maxRecDepth 100000 in
set_option maxHeartbeats 8000000 in
theorem un_prim (n : Nd) (hf : Fm n) (hk5 : n.kind ≠ 5) (IH : PrC n) : UnC n := by
  intro ws w b q cT i Ts rest hst hat hrs
  have hA0 : Hid (BlkC (w.alloc (.cells (Cel.ndA nodeZ none 0 0) Cel.tPn)) w.heap.size (Cel.ndA nodeZ none 0 0) Cel.tPn) := heap_alloc_new w _
  have hAB : Below w.heap.size w (w.alloc (.cells (Cel.ndA nodeZ none 0 0) Cel.tPn)) := by (repeat' (first | (with_reducible exact Below.refl _ _) | (with_reducible assumption) | (with_reducible refine Below.alloc ?_ ?_ _) | (with_reducible refine bel_drewN ?_ _) | (with_reducible refine Below.drew ?_) | (with_reducible refine Below.setCell ?_ ?_ _) | (with_reducible refine bel_call ‹_› ?_ ?_) | go_size))
  have HS0 := Lib.hid (hst.below hAB)
  have HO0 := Lib.hid (Off.of_below (b := b) hAB)
  have hbw := hst.lt
  have hib := prim_head hf hk5 hat
  have HIS := Lib.hid (fun W (h : PSt ws W b q Ts cT i) => is_any b q cT i Ts [45] W h.psr h.tks h.len)
  have HUN := Lib.hid (fun W (h : PSt ws W b q Ts cT i) => IH ws W b q cT i Ts rest h hat hrs)
  rw [hib] at HIS
  generalize (tkN nmS n 5).length = k at HUN ⊢
  obtain ⟨nT, hnT⟩ : ∃ n, Ts.length = n := ⟨_, rfl⟩
  have HNT := Lib.hid hnT
  rw [hnT] at HUN HIS ⊢
  clear hnT
  clear hat hib hrs IH hf hk5
  clear hst hAB
  go_enter Tryz.func46, Tryz.ntmps46
  go_upto_region 1 with fail
  have e0 : w.alloc (.cells #[.int .i64 0, .int .i64 0, .string ⟨#[]⟩, .int .i64 0, .int .i64 0, .int .i64 0, .int .i64 0, .slice none 0 0] Cel.tPn) = w.alloc (.cells (Cel.ndA nodeZ none 0 0) Cel.tPn) := rfl
  rw [e0]
  clear e0
  generalize w.alloc (.cells (Cel.ndA nodeZ none 0 0) Cel.tPn) = w0 at hA0 HS0 HO0 ⊢
  go_wp2_with fail
  refine (HIS.out w0 HS0.out).mono ?_
  rintro e w1 ⟨rfl, hp1, ho1⟩
  rw [if_neg (by simp)] at hp1
  have hA1 := Lib.hid (ho1.bc (by omega) hA0.out)
  have HS1 := Lib.hid (HS0.out.off ho1 (by rw [HNT.out]; exact hp1))
  have HO1 := Lib.hid (HO0.out.trans ho1)
  clear hp1 ho1 hA0 HS0 HO0 HIS
  go_wp2_with fail
  refine (HUN.out w1 HS1.out).mono ?_
  rintro e w2 ⟨⟨p, cap, rfl, hk⟩, hp2, ho2⟩
  rename_i KK aK
  go_simp
  refine aK _ _ ?_
  clear aK
  obtain ⟨l, hl⟩ : ∃ l, n.args.length = l := ⟨_, rfl⟩
  rw [hl] at hk ⊢
  have HP2 := Lib.hid hp2
  have HA2 := Lib.hid (ho2.bc (by omega) hA1.out)
  have HO2 := Lib.hid (HO1.out.trans ho2)
  have HKD := Lib.hid hk
  have HL := Lib.hid hl
  have hs2 := ho2.size
  have hs0 : w.heap.size < w1.heap.size := lt_some hA1.out
  clear hp2 ho2 hk hl HS1 hA1 HO1 HUN
  rw [show Value.agg (Cel.ndA n p l cap) = .agg #[.int .i64 n.kind, .int .i64 n.num, .string ⟨n.text.toArray⟩, .int .i64 (cC n.frm), .int .i64 (cR n.frm), .int .i64 (cC n.tor), .int .i64 (cR n.tor), .slice p l cap] from rfl]
  refine wpList_store_mid (by rfl) _ _ _ (by rfl) w.heap.size 0 #[.int .i64 n.kind, .int .i64 n.num, .string ⟨n.text.toArray⟩, .int .i64 (cC n.frm), .int .i64 (cR n.frm), .int .i64 (cC n.tor), .int .i64 (cR n.tor), .slice p l cap] (by rfl) (by rfl) (block_there HA2.out 8 (Nat.le_refl _)) (by kernel_rfl) (by simp [Value.oneCell']) ?_
  obtain ⟨hs8, hf8⟩ := res_store (n := n) (p := p) (l := l) (cp := cap) HA2.out rfl HP2.out HO2.out hbw HL.out (fun d hd => (HKD.out d hd).carry (fun k hk => ⟨⟨by omega, by omega⟩, rfl⟩))
  have HS8 := Lib.hid hs8
  have HF8 := Lib.hid hf8
  clear hs8 hf8
  have e8 : w2.setCells w.heap.size 0 (#[.int .i64 n.kind, .int .i64 n.num, .string ⟨n.text.toArray⟩, .int .i64 (cC n.frm), .int .i64 (cR n.frm), .int .i64 (cC n.tor), .int .i64 (cR n.tor), .slice p l cap]).toList = w2.setCells w.heap.size 0 (Cel.ndA n p l cap).toList := rfl
  rw [e8]
  clear e8
  generalize w2.setCells w.heap.size 0 (Cel.ndA n p l cap).toList = w9 at HS8 HF8 ⊢
  go_simp
  iterate 3 (first | go_values | go_skip | go_guarded | go_step | go_upon)
  apply wp_ret
  try simp only [Exit.inBlock, Exit.then]
  exact bodyPost_ret (results_cell_row rfl _ _ w.heap.size Cel.tPn (Cel.ndA n p l cap) (0, 0) _ rfl HS8.out Tryz.underlying34 rfl (by kernel_rfl)) rfl HF8.out
set_option maxRecDepth 100000 in
set_option maxHeartbeats 8000000 in
theorem bin_5 (n : Nd) (IH : UnC n) : BinC n 5 := by
  intro ws w b q cT i Ts rest hst hat hrs
  have hA0 : Hid (BlkC (w.alloc (.cells (Cel.ndA nodeZ none 0 0) Cel.tPn)) w.heap.size (Cel.ndA nodeZ none 0 0) Cel.tPn) := heap_alloc_new w _
  have hAB : Below w.heap.size w (w.alloc (.cells (Cel.ndA nodeZ none 0 0) Cel.tPn)) := by (repeat' (first | (with_reducible exact Below.refl _ _) | (with_reducible assumption) | (with_reducible refine Below.alloc ?_ ?_ _) | (with_reducible refine bel_drewN ?_ _) | (with_reducible refine Below.drew ?_) | (with_reducible refine Below.setCell ?_ ?_ _) | (with_reducible refine bel_call ‹_› ?_ ?_) | go_size))
  have HS0 := Lib.hid (hst.below hAB)
  have HO0 := Lib.hid (Off.of_below (b := b) hAB)
  have hbw := hst.lt
  have HUN := Lib.hid (fun W (h : PSt ws W b q Ts cT i) => IH ws W b q cT i Ts rest h hat hrs)
  generalize (tkN nmS n 5).length = k at HUN ⊢
  obtain ⟨nT, hnT⟩ : ∃ n, Ts.length = n := ⟨_, rfl⟩
  have HNT := Lib.hid hnT
  rw [hnT] at HUN ⊢
  clear hnT
  clear hat hrs IH
  clear hst hAB
  go_enter Tryz.func24, Tryz.ntmps24
  go_upto_region 1 with fail
  have e0 : w.alloc (.cells #[.int .i64 0, .int .i64 0, .string ⟨#[]⟩, .int .i64 0, .int .i64 0, .int .i64 0, .int .i64 0, .slice none 0 0] Cel.tPn) = w.alloc (.cells (Cel.ndA nodeZ none 0 0) Cel.tPn) := rfl
  rw [e0]
  clear e0
  generalize w.alloc (.cells (Cel.ndA nodeZ none 0 0) Cel.tPn) = w0 at hA0 HS0 HO0 ⊢
  go_wp2_with fail
  refine (HUN.out w0 HS0.out).mono ?_
  rintro e w2 ⟨⟨p, cap, rfl, hk⟩, hp2, ho2⟩
  rename_i KK aK
  go_simp
  refine aK _ _ ?_
  clear aK
  obtain ⟨l, hl⟩ : ∃ l, n.args.length = l := ⟨_, rfl⟩
  rw [hl] at hk ⊢
  have HP2 := Lib.hid hp2
  have HA2 := Lib.hid (ho2.bc (by omega) hA0.out)
  have HO2 := Lib.hid (HO0.out.trans ho2)
  have HKD := Lib.hid hk
  have HL := Lib.hid hl
  have hs2 := ho2.size
  have hs0 : w.heap.size < w0.heap.size := lt_some hA0.out
  clear hp2 ho2 hk hl HS0 hA0 HO0 HUN
  rw [show Value.agg (Cel.ndA n p l cap) = .agg #[.int .i64 n.kind, .int .i64 n.num, .string ⟨n.text.toArray⟩, .int .i64 (cC n.frm), .int .i64 (cR n.frm), .int .i64 (cC n.tor), .int .i64 (cR n.tor), .slice p l cap] from rfl]
  refine wpList_store_mid (by rfl) _ _ _ (by rfl) w.heap.size 0 #[.int .i64 n.kind, .int .i64 n.num, .string ⟨n.text.toArray⟩, .int .i64 (cC n.frm), .int .i64 (cR n.frm), .int .i64 (cC n.tor), .int .i64 (cR n.tor), .slice p l cap] (by rfl) (by rfl) (block_there HA2.out 8 (Nat.le_refl _)) (by kernel_rfl) (by simp [Value.oneCell']) ?_
  obtain ⟨hs8, hf8⟩ := res_store (n := n) (p := p) (l := l) (cp := cap) HA2.out rfl HP2.out HO2.out hbw HL.out (fun d hd => (HKD.out d hd).carry (fun k hk => ⟨⟨by omega, by omega⟩, rfl⟩))
  have HS8 := Lib.hid hs8
  have HF8 := Lib.hid hf8
  clear hs8 hf8
  have e8 : w2.setCells w.heap.size 0 (#[.int .i64 n.kind, .int .i64 n.num, .string ⟨n.text.toArray⟩, .int .i64 (cC n.frm), .int .i64 (cR n.frm), .int .i64 (cC n.tor), .int .i64 (cR n.tor), .slice p l cap]).toList = w2.setCells w.heap.size 0 (Cel.ndA n p l cap).toList := rfl
  rw [e8]
  clear e8
  generalize w2.setCells w.heap.size 0 (Cel.ndA n p l cap).toList = w9 at HS8 HF8 ⊢
  go_simp
  iterate 3 (first | go_values | go_skip | go_guarded | go_step | go_upon)
  apply wp_ret
  try simp only [Exit.inBlock, Exit.then]
  exact bodyPost_ret (results_cell_row rfl _ _ w.heap.size Cel.tPn (Cel.ndA n p l cap) (0, 0) _ rfl HS8.out Tryz.underlying34 rfl (by kernel_rfl)) rfl HF8.out
end Go.Proofs.YtigmcoelkkihkaaGreatDoor
