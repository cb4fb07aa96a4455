/- Trees: the law's 'named'. Printed by gen_trexf.py. Trees: Print at any tree; the walk of TreePrints. Printed by gen_trexg.py. Trees: a tree that came in, opened, with its bulk. Printed by gen_trexg.py. -/
import Derived.Test.YtfkfajgfkgeicaaDoorTreMc
import Derived.Test.YtfkfajgfkgeicaaDoorTreMb
import Derived.Test.YtfkfajgfkgeicaaDoorTreQ
import Derived.Test.YtfkfajgfkgeicaaDoorRows
set_option linter.unusedSimpArgs false
set_option linter.unusedVariables false
namespace Go.Proofs.YtfkfajgfkgeicaaDoor
section
open Go.RowKit Go.Joins

theorem info_rn : (Tryd.prog.info? tRn).map (fun i => (i.zero, i.size, i.bytes)) = some (some (.agg #[.int .i64 0, .int .i64 0, .string ⟨#[]⟩, .int .i64 0, .int .i64 0, .slice none 0 0]), 6, 72) := by kernel_rfl
theorem newRn (w : World) (c : Nd) (p2 : Option Addr) (l' c2 : Nat) : ∀ j u, (ndC c p2 l' c2)[j]? = some u → (w.alloc (.cells (ndA c p2 l' c2) tRn)).cell? ((⟨w.heap.size, 0, none⟩ : Addr).add j) = some u := by
  intro j u hj
  have hb : NdB tRn (w.alloc (.cells (ndA c p2 l' c2) tRn)) w.heap.size c p2 l' c2 := heap_alloc_new w _
  obtain ⟨c0, c1, c2', c3, c4, c5⟩ := hb.cells
  have hj6 : j < 6 := (List.getElem?_eq_some_iff.1 hj).1
  simp only [Addr.add, Nat.zero_add]
  match j, hj6, hj with
  | 0, _, hj => cases hj; exact c0
  | 1, _, hj => cases hj; exact c1
  | 2, _, hj => cases hj; exact c2'
  | 3, _, hj => cases hj; exact c3
  | 4, _, hj => cases hj; exact c4
  | 5, _, hj => cases hj; exact c5
theorem RdP.of_rowR {w : World} {base d : Nat} {v : Value} {L : List Kid} {n : Nd} {ok : Nat → Prop} (h : w.ownsRow base tRn 6 v L.length (L.flatMap kidC)) (hL : L.map Prod.fst = n.args) (hq : ∀ q ∈ L, RdP w ok d q.1 q.2.1 q.2.2.1) (hown : ∀ b, v.ownBlock = some b → ok b) :
    ∃ p cap, v = .slice p L.length cap ∧ RdP w ok (d + 1) n p L.length := by
  obtain ⟨p, cap, hv, _, _, ⟨_, hr⟩, _⟩ := RdG.of_own kidC_len rfl h
  refine ⟨p, cap, hv, by rw [← hL, List.length_map], ?_⟩
  rcases hr with hr | ⟨b, off, h1, h2, h3⟩
  · exact .inl hr
  · refine .inr ⟨b, off, h1, hown b (by rw [hv, h1]; rfl), fun j c hc => ?_⟩
    rw [← hL, List.getElem?_map] at hc
    cases hj : L[j]? with
    | none => rw [hj] at hc; cases hc
    | some q =>
      rw [hj] at hc
      obtain rfl : q.1 = c := by simpa using hc
      exact ⟨q.2.1, q.2.2.1, q.2.2.2, fun k u hu => h3 j q hj k u hu, hq q (List.mem_of_getElem? hj)⟩
def NamedC (d : Nat) : Prop := ∀ (n : Nd) (p : Option Addr) (len cap : Nat) (w : World), RdT w w.heap.size d n p len → OkN n → FewN n → Calls Tryd.prog 19 #[.agg (ndA n p len cap)] w fun e w' => (∃ p' cap', e = .returned (.agg (ndA (nmN nmS n) p' len cap')) ∧ RdP w' (fun b => w.heap.size ≤ b ∧ b < w'.heap.size) d (nmN nmS n) p' len) ∧ Below w.heap.size w w'
/-- A node in its first form: no references, no parts. -/
abbrev ndF (n : Nd) (T : Bs) : Nd := .mk n.kind n.num T 0 0 []
theorem nd_two {w : World} {b : Nat} {n : Nd} {T T' : Bs} (h : NdB tRn w b (ndF n T) none 0 0) : NdB tRn (w.setCell ⟨b, 2, none⟩ (.string ⟨T'.toArray⟩)) b (ndF n T') none 0 0 := by
  have h1 := heap_setCell_same w b 2 _ _ (.string ⟨T'.toArray⟩) h
  unfold NdB
  rw [h1]
  rfl
set_option maxRecDepth 100000 in
set_option maxHeartbeats 8000000 in
theorem named_s (d : Nat) (IH : ∀ d', d = d' + 1 → NamedC d') : NamedC d := by
  intro n p len cap w hrd hok hfew
  have HRD := Lib.hid hrd
  have HIH := Lib.hid IH
  have hlen := hfew.len
  rw [hrd.len] at hlen
  have HAL := Lib.hid hrd.len
  have HOK := Lib.hid (fun c hc => OkN.child (c := c) hok hc)
  have HFW := Lib.hid (fun c hc => FewN.child (c := c) hfew hc)
  rw [ndA_eq]
  clear hrd IH hok hfew
  obtain ⟨i0, hi, hz0, hz1, hz2⟩ := info_of info_rn
  have HTX : Hid ((nmN nmS n).text = if n.kind = 3 then nmS n.frm else if n.kind = 4 then nmS n.frm ++ 58 :: nmS n.tor else n.text) := nmN_text n
  have HNK : Hid ((nmN nmS n).kind = n.kind) := nmN_kind n
  have HNU : Hid ((nmN nmS n).num = n.num) := nmN_num n
  have HNF : Hid ((nmN nmS n).frm = 0 ∧ (nmN nmS n).tor = 0) := by unfold Hid; cases n; rw [nmN]; exact ⟨rfl, rfl⟩
  have HMA : Hid ((nmN nmS n).args = nmL nmS n.args) := nmN_args n
  have HNM := Lib.hid (fun W => name_law n.frm W)
  have HNT := Lib.hid (fun W => name_law n.tor W)
  have hf20 := nmS_len n.frm
  have ht20 := nmS_len n.tor
  generalize nmS n.frm = F at HTX HNM hf20
  generalize nmS n.tor = G at HTX HNT ht20
  have HALm : Hid ((nmN nmS n).args.length = len) := by unfold Hid; rw [nmN_args, nmL_len]; exact HAL.out
  generalize nmN nmS n = m at *
  go_enter Tryd.func19, Tryd.ntmps19
  have hh : Hid (NdB tRn (((w.alloc (.cells (ndA n p len cap) tRn)).alloc (.cells (ndA nodeZ none 0 0) tRn)).alloc (.cells (ndA (ndF n n.text) none 0 0) tRn)) w.heap.size n p len cap ∧ NdB tRn (((w.alloc (.cells (ndA n p len cap) tRn)).alloc (.cells (ndA nodeZ none 0 0) tRn)).alloc (.cells (ndA (ndF n n.text) none 0 0) tRn)) (w.heap.size + 1) nodeZ none 0 0 ∧ NdB tRn (((w.alloc (.cells (ndA n p len cap) tRn)).alloc (.cells (ndA nodeZ none 0 0) tRn)).alloc (.cells (ndA (ndF n n.text) none 0 0) tRn)) (w.heap.size + 2) (ndF n n.text) none 0 0) := ⟨(three_heap w _ _ _).1, (three_heap w _ _ _).2.1, (three_heap w _ _ _).2.2⟩
  have hbl : Hid (Below w.heap.size w (((w.alloc (.cells (ndA n p len cap) tRn)).alloc (.cells (ndA nodeZ none 0 0) tRn)).alloc (.cells (ndA (ndF n n.text) none 0 0) tRn))) := three_below _ _ _
  go_upto_region 2 with fail
  have e3 : ((w.alloc (.cells #[.int .i64 n.kind, .int .i64 n.num, .string ⟨n.text.toArray⟩, .int .i64 n.frm, .int .i64 n.tor, .slice p len cap] tRn)).alloc (.cells #[.int .i64 0, .int .i64 0, .string ⟨#[]⟩, .int .i64 0, .int .i64 0, .slice none 0 0] tRn)).alloc (.cells #[.int .i64 n.kind, .int .i64 n.num, .string ⟨n.text.toArray⟩, .int .i64 0, .int .i64 0, .slice none 0 0] tRn) = ((w.alloc (.cells (ndA n p len cap) tRn)).alloc (.cells (ndA nodeZ none 0 0) tRn)).alloc (.cells (ndA (ndF n n.text) none 0 0) tRn) := rfl
  first | rw [e3] | (trace_state; fail "e3")
  clear e3
  generalize ((w.alloc (.cells (ndA n p len cap) tRn)).alloc (.cells (ndA nodeZ none 0 0) tRn)).alloc (.cells (ndA (ndF n n.text) none 0 0) tRn) = w2 at hh hbl ⊢
  obtain ⟨hq0, hq1, hq2⟩ := hh.out
  have hn0 := Lib.hid hq0
  have hn1 := Lib.hid hq1
  have hn2 := Lib.hid hq2
  clear hq0 hq1 hq2 hh
  obtain ⟨c0, c1, c2, c3, c4, c5⟩ := hn0.out.cells
  obtain ⟨b0, b1, b2, b3, b4, b5⟩ := hn2.out.cells
  obtain ⟨T1, hT1⟩ : ∃ T1, (if n.kind = 3 then F else n.text) = T1 := ⟨_, rfl⟩
  have HT1 := Lib.hid hT1
  clear hT1
  go_upto_if 14 with fail
  go_cut [] (fun wx => NdB tRn wx w.heap.size n p len cap ∧ NdB tRn wx (w.heap.size + 1) nodeZ none 0 0 ∧ NdB tRn wx (w.heap.size + 2) (ndF n T1) none 0 0 ∧ Below w.heap.size w wx)
  case first =>
    by_cases h3 : n.kind = 3
    · have h3b : (n.kind == 3) = true := by simpa using h3
      have hTF : Hid (T1 = F) := by unfold Hid; rw [← HT1.out, if_pos h3]
      clear h3
      go_wp2_with fail
      refine (HNM.out _).mono ?_
      rintro e w3 ⟨rfl, hb⟩
      have hB3 : Hid (Below w.heap.size w w3) := bel_call hb hbl.out hbl.out.size
      have m0 := Lib.hid (hn0.out.below hb)
      have m1 := Lib.hid (hn1.out.below hb)
      have m2 := Lib.hid (hn2.out.below hb)
      clear hb hbl hn0 hn1 hn2 c0 c1 c2 c3 c4 c5 b0 b1 b2 b3 b4 b5
      obtain ⟨b0, b1, b2, b3, b4, b5⟩ := m2.out.cells
      have g2 := unfrozen_of_block m2.out 2
      go_wp2_with fail
      go_meet
      refine ⟨?_, ?_, by rw [hTF.out]; exact nd_two m2.out, hB3.out.setCell (by show w.heap.size ≤ w.heap.size + 2; omega) _⟩
      · unfold NdB
        rw [heap_setCell_other _ _ _ _ (by show w.heap.size ≠ w.heap.size + 2; omega)]
        exact m0.out
      · unfold NdB
        rw [heap_setCell_other _ _ _ _ (by show w.heap.size + 1 ≠ w.heap.size + 2; omega)]
        exact m1.out
    · have h3b : (n.kind == 3) = false := by simpa using h3
      have hTF : Hid (T1 = n.text) := by unfold Hid; rw [← HT1.out, if_neg h3]
      go_wp2_with fail
      go_meet
      exact ⟨hn0.out, hn1.out, by rw [hTF.out]; exact hn2.out, hbl.out⟩
  case rest =>
  obtain ⟨hv0, hv1, hv2, hvB⟩ := hcut
  have hm0 := Lib.hid hv0
  have hm1 := Lib.hid hv1
  have hm2 := Lib.hid hv2
  have hmB := Lib.hid hvB
  clear hv0 hv1 hv2 hvB hn0 hn1 hn2 hbl c0 c1 c2 c3 c4 c5 b0 b1 b2 b3 b4 b5
  obtain ⟨c0, c1, c2, c3, c4, c5⟩ := hm0.out.cells
  obtain ⟨b0, b1, b2, b3, b4, b5⟩ := hm2.out.cells
  go_upto_if 21 with fail
  go_cut [] (fun wx => NdB tRn wx w.heap.size n p len cap ∧ NdB tRn wx (w.heap.size + 1) nodeZ none 0 0 ∧ NdB tRn wx (w.heap.size + 2) (ndF n m.text) none 0 0 ∧ Below w.heap.size w wx)
  case first =>
    by_cases h4 : n.kind = 4
    · have h4b : (n.kind == 4) = true := by simpa using h4
      have hTT : Hid (m.text = F ++ 58 :: G) := by unfold Hid; rw [HTX.out, if_neg (by omega), if_pos h4]
      clear h4
      have hFs : (⟨F.toArray⟩ : ByteArray).size ≤ 20 := by rw [Lib.size_eq]; exact hf20
      have hGs : (⟨G.toArray⟩ : ByteArray).size ≤ 20 := by rw [Lib.size_eq]; exact ht20
      have hcs : (⟨#[58]⟩ : ByteArray).size = 1 := rfl
      have hFC : (⟨F.toArray⟩ : ByteArray) ++ ⟨#[58]⟩ = ⟨(F ++ [58]).toArray⟩ := cat2 F [58]
      have hFCs : (⟨(F ++ [58]).toArray⟩ : ByteArray).size ≤ 21 := by rw [Lib.size_eq]; simp; omega
      have hFG : (⟨(F ++ [58]).toArray⟩ : ByteArray) ++ ⟨G.toArray⟩ = ⟨(F ++ 58 :: G).toArray⟩ := by rw [cat2]; simp
      have hop1 : ∀ W, (Op.stringOp .add ⟨F.toArray⟩ ⟨#[58]⟩).run Tryd.prog W = .ok (.string ⟨(F ++ [58]).toArray⟩) W := fun W => by rw [← hFC]; exact run_string_add_sum W _ _ (by rw [hcs]; omega)
      have hop2 : ∀ W, (Op.stringOp .add ⟨(F ++ [58]).toArray⟩ ⟨G.toArray⟩).run Tryd.prog W = .ok (.string ⟨(F ++ 58 :: G).toArray⟩) W := fun W => by rw [← hFG]; exact run_string_add_sum W _ _ (by omega)
      clear hFC hFG
      have C3 := Kept.cell (N := w.heap.size + 3) c3 (by omega)
      have C4 := Kept.cell (N := w.heap.size + 3) c4 (by omega)
      go_upto_region 5 with fail
      refine wp_region_schedT (fun wx => ∃ x : Kept (w.heap.size + 3) wc, wx = x.v) 9 [([0,1,4,5],2),([3],6)] [7,8] (by kernel_rfl) (by kernel_rfl) (by kernel_rfl) (by kernel_rfl) (kept_drew _ _ (by have := lt_some hm2.out; omega)) ?_
      have kb0 : Hid (Below (w.heap.size + 3) wc wc.drew) := Below.drew (Below.refl _ _)
      (unfold wpSegK; simp only [pick_nil, pick_cons, nthO_zero, nthO_succ, List.append])
      clear c0 c1 c2 c3 c4 c5 b0 b1 b2 b3 b4 b5
      repeat (go_big_quiet_step (fail))
      refine wpQuiet_nil ?_
      have H3 := lt_some hm2.out
      go_wp2_with fail
      refine (HNM.out _).mono ?_
      rintro e x1 ⟨rfl, hb⟩
      have kb1 : Hid (Below (w.heap.size + 3) wc x1) := bel_call hb kb0.out (by rw [World.size_drew]; omega)
      clear hb
      go_wp2_with fail
      refine ⟨rfl, ⟨⟨x1, kb1.out⟩, rfl⟩, ?_⟩
      (unfold wpSegK; simp only [pick_nil, pick_cons, nthO_zero, nthO_succ, List.append])
      repeat (go_big_quiet_step (fail))
      refine wpQuiet_nil ?_
      go_wp2_with fail
      refine (HNT.out _).mono ?_
      rintro e x2 ⟨rfl, hb⟩
      have kb2 : Hid (Below (w.heap.size + 3) wc x2) := bel_call hb kb1.out (by have := kb1.out.size; omega)
      clear hb
      go_wp2_with fail
      refine ⟨rfl, ⟨⟨x2, kb2.out⟩, rfl⟩, ?_⟩
      (unfold wpSegK; simp only [pick_nil, pick_cons, nthO_zero, nthO_succ, List.append])
      repeat (go_big_quiet_step (fail))
      refine wpQuiet_nil ?_
      have m0 : Hid (NdB tRn x2 w.heap.size n p len cap) := (kb2.out.block _ (by omega)).trans hm0.out
      have m1 : Hid (NdB tRn x2 (w.heap.size + 1) nodeZ none 0 0) := (kb2.out.block _ (by omega)).trans hm1.out
      have m2 : Hid (NdB tRn x2 (w.heap.size + 2) (ndF n T1) none 0 0) := (kb2.out.block _ (by omega)).trans hm2.out
      have hB3 : Hid (Below w.heap.size w x2) := hmB.out.trans (kb2.out.mono (by omega))
      clear hm0 hm1 hm2 hmB kb0 kb1 kb2 C3 C4 HNM HNT
      obtain ⟨b0, b1, b2, b3, b4, b5⟩ := m2.out.cells
      have g2 := unfrozen_of_block m2.out 2
      go_wp2_with fail
      refine ⟨rfl, ?_⟩
      go_wp2_with fail
      go_meet
      refine ⟨?_, ?_, by rw [hTT.out]; exact nd_two m2.out, hB3.out.setCell (by show w.heap.size ≤ w.heap.size + 2; omega) _⟩
      · unfold NdB
        rw [heap_setCell_other _ _ _ _ (by show w.heap.size ≠ w.heap.size + 2; omega)]
        exact m0.out
      · unfold NdB
        rw [heap_setCell_other _ _ _ _ (by show w.heap.size + 1 ≠ w.heap.size + 2; omega)]
        exact m1.out
    · have h4b : (n.kind == 4) = false := by simpa using h4
      have hTT : Hid (m.text = T1) := by unfold Hid; rw [HTX.out, ← HT1.out, if_neg h4]
      go_wp2_with fail
      go_meet
      exact ⟨hm0.out, hm1.out, by rw [hTT.out]; exact hm2.out, hmB.out⟩
  case rest =>
  obtain ⟨hv0, hv1, hv2, hvB⟩ := hcut
  have hs0 := Lib.hid hv0
  have hs1 := Lib.hid hv1
  have hsB := Lib.hid hvB
  have hs2 : Hid (NdB tRn wc (w.heap.size + 2) m none 0 0) := by
    unfold Hid NdB ndA
    rw [HNK.out, HNU.out, HNF.out.1, HNF.out.2]
    exact hv2
  clear hv0 hv1 hv2 hvB hm0 hm1 hm2 hmB c0 c1 c2 c3 c4 c5 b0 b1 b2 b3 b4 b5 HNM HNT HTX HNK HNU HNF HT1 hf20 ht20
  go_wp2_with fail
  go_loopg [4] len (fun g v4 wr => ∃ (i : Nat) (acc : List Kid) (q : Option Addr) (cp : Nat), i + g = len ∧ v4 = .int .i64 i ∧ acc.map Prod.fst = m.args.take i ∧ NdB tRn wr w.heap.size n p len cap ∧ NdB tRn wr (w.heap.size + 1) nodeZ none 0 0 ∧ NdB tRn wr (w.heap.size + 2) m q i cp ∧ wr.ownsRow (w.heap.size + 3) tRn 6 (.slice q i cp) i (acc.flatMap kidC) ∧ (∀ d', d = d' + 1 → ∀ x ∈ acc, RdP wr (okK (w.heap.size + 3) wr (.slice q i cp)) d' x.1 x.2.1 x.2.2.1) ∧ Below w.heap.size w wr)
  case atStart => exact ⟨0, [], none, 0, by omega, rfl, rfl, hs0.out, hs1.out, hs2.out, World.ownsRow_nil _ _ _ _, fun _ _ x hx => (by cases hx), hsB.out⟩
  case round =>
    obtain ⟨i, acc, q, cp, hig, rfl, hacc, hn1, hn0, hn2, hown, hkid, hbel⟩ := hrel
    clear hs0 hs1 hs2 hsB
    have HAC := Lib.hid hacc
    have HN1 := Lib.hid hn1
    have HN0 := Lib.hid hn0
    have HN2 := Lib.hid hn2
    have HOW := Lib.hid hown
    have HKD := Lib.hid hkid
    have HBL := Lib.hid hbel
    have hzr := hbel.size
    have hH2 : w.heap.size + 2 < wr.heap.size := lt_some hn2
    clear hacc hn1 hn0 hn2 hown hkid hbel
    obtain ⟨a0, a1, a2, a3, a4, a5⟩ := HN1.out.cells
    obtain ⟨b0, b1, b2, b3, b4, b5⟩ := HN2.out.cells
    by_cases hlt : i < len
    · have hli : (i : Int) < (len : Int) := by omega
      obtain ⟨d', b, off, c, p', l', c', hd, rfl, hbN, hc, hrc, q0, q1, q2, q3, q4, q5⟩ := (HRD.out.below HBL.out).at hlt
      have HC : Hid (NamedC d') := HIH.out d' hd
      have HCO := Lib.hid (HOK.out c (mem_at hc))
      have HCF := Lib.hid (HFW.out c (mem_at hc))
      have A5 := Kept.cell (N := w.heap.size + 3) a5 (by omega)
      have B5 := Kept.cell (N := w.heap.size + 3) b5 (by omega)
      have Q0 := Kept.cell (N := w.heap.size + 3) q0 (by omega)
      have Q1 := Kept.cell (N := w.heap.size + 3) q1 (by omega)
      have Q2 := Kept.cell (N := w.heap.size + 3) q2 (by omega)
      have Q3 := Kept.cell (N := w.heap.size + 3) q3 (by omega)
      have Q4 := Kept.cell (N := w.heap.size + 3) q4 (by omega)
      have Q5 := Kept.cell (N := w.heap.size + 3) q5 (by omega)
      go_upto_region 5 with fail
      refine wp_region_schedT (fun wx => ∃ x : Kept (w.heap.size + 3) wr, wx = x.v) 11 [([0,1,2,3,4,5,6],7),([],8),([],9)] [10] (by kernel_rfl) (by kernel_rfl) (by kernel_rfl) (by kernel_rfl) (kept_drew _ _ (by omega)) ?_
      (unfold wpSegK; simp only [pick_nil, pick_cons, nthO_zero, nthO_succ, List.append])
      clear a0 a1 a2 a3 a4 a5 b0 b1 b2 b3 b4 b5 q0 q1 q2 q3 q4 q5
      repeat (go_big_quiet_step (fail))
      refine wpQuiet_nil ?_
      have HRC := Lib.hid hrc
      have HHC := Lib.hid hc
      have HHD := Lib.hid hd
      clear hrc hc hd
      have HCC := Lib.hid (HC.out c p' l' c' wr.drew ((HRC.out.below (Below.drew (Below.refl _ _))).mono hzr) HCO.out HCF.out)
      rw [ndA_eq c p' l' c'] at HCC
      have HMG : Hid (m.args[i]? = some (nmN nmS c)) := by unfold Hid; rw [HMA.out, nmL_get, HHC.out]; rfl
      generalize nmN nmS c = mc at HCC HMG
      go_wp2_with fail
      refine HCC.out.mono ?_
      rintro e w3 ⟨⟨p2, c2, rfl, hk3⟩, hb3⟩
      have hb4 : Hid (Below wr.heap.size wr w3) := bel_call hb3 (Below.drew (Below.refl _ _)) (Nat.le_refl _)
      have HK3 := Lib.hid hk3
      rw [ndA_eq mc p2 l' c2]
      clear HCC hk3 hb3
      go_wp2_with fail
      have hB3 : Hid (Below (w.heap.size + 3) wr w3) := hb4.out.mono (by omega)
      refine ⟨rfl, ⟨⟨w3, hB3.out⟩, rfl⟩, ?_⟩
      (unfold wpSegK; simp only [pick_nil, pick_cons, nthO_zero, nthO_succ, List.append])
      refine wpQuiet_nil ?_
      go_wp2_with fail
      refine ⟨rfl, ⟨⟨_, hB3.out.alloc (by have := hb4.out.size; omega) _⟩, rfl⟩, ?_⟩
      (unfold wpSegK; simp only [pick_nil, pick_cons, nthO_zero, nthO_succ, List.append])
      refine wpQuiet_nil ?_
      have HRW := Lib.hid (row_below HOW.out hb4.out)
      refine wpList_append_own_at _ rfl _ _ _ rfl (w.heap.size + 3) tRn i0 _ 6 72 Tryd.underlying28 hi hz0 hz1 hz2 rfl (by decide) _ _ _ rfl (HRW.out.alloc _) ⟨w3.heap.size, 0, none⟩ 1 1 (ndC mc p2 l' c2) rfl rfl (newRn w3 mc p2 l' c2) ?c2 ?c3 ?c4 ?c5 ?_
      case c2 => exact kidC_one (mc, p2, l', c2)
      case c3 => unfold maxLen; omega
      case c4 => omega
      case c5 => rw [World.size_alloc]; have := hb4.out.size; omega
      intro v' w5 hown5 hgrow5 _ hat5
      have hB5 : Hid (Below (w.heap.size + 3) wr w5) := (hB3.out.alloc (by have := hb4.out.size; omega) _).grown hgrow5 (by rw [World.size_alloc]; have := hb4.out.size; omega) (fun k hk => (HRW.out.lt k hk).1)
      have HOW5 : Hid (w5.ownsRow (w.heap.size + 3) tRn 6 v' (i + 1) ((acc ++ [(mc, p2, l', c2)]).flatMap kidC)) := by
        unfold Hid
        rw [flat_snoc]
        exact hown5
      have hla : acc.length = i := by
        have h := congrArg List.length HAC.out
        rw [List.length_map, List.length_take, HALm.out] at h
        omega
      obtain ⟨q5, cp5, hv5, _, _, _, _⟩ := RdG.of_own kidC_len (by rw [List.length_append, List.length_singleton, hla]) HOW5.out
      subst hv5
      have HN5 : Hid (NdB tRn w5 (w.heap.size + 2) m q i cp) := (hB5.out.block _ (by omega)).trans HN2.out
      have HKN := Lib.hid (kids_on (u := .slice q5 (i + 1) cp5) (c2 := c2) (by omega) hb4.out hgrow5 hat5 (fun b e => (HOW.out.lt b e).2) (HKD.out d' HHD.out) HK3.out)
      clear hown5 hgrow5 hat5 HRW HK3 HKD HCF HCO HC HIH HOK HFW A5 B5 Q0 Q1 Q2 Q3 Q4 Q5
      obtain ⟨_, _, _, _, _, e5⟩ := HN5.out.cells
      have g5 := unfrozen_of_block HN5.out 5
      go_wp2_with fail
      refine ⟨rfl, ⟨⟨w5, hB5.out⟩, rfl⟩, ?_⟩
      (unfold wpSegK; simp only [pick_nil, pick_cons, nthO_zero, nthO_succ, List.append])
      repeat (go_big_quiet_step (fail))
      refine wpQuiet_nil ?_
      go_wp2_with fail
      refine ⟨rfl, ?_⟩
      have HP6 : Hid (NdB tRn (w5.setCell ⟨w.heap.size + 2, 5, none⟩ (.slice q5 (i + 1) cp5)) (w.heap.size + 2) m q5 (i + 1) cp5) := by
        have h := heap_setCell_same w5 (w.heap.size + 2) 5 _ _ (.slice q5 (i + 1) cp5) HN5.out
        unfold Hid NdB
        rw [h]
        simp [ndA]
      have HR6 : Hid (NdB tRn (w5.setCell ⟨w.heap.size + 2, 5, none⟩ (.slice q5 (i + 1) cp5)) w.heap.size n (some ⟨b, off, none⟩) len cap) := by
        unfold Hid NdB
        rw [heap_setCell_other _ _ _ _ (by show w.heap.size ≠ w.heap.size + 2; omega), hB5.out.block _ (by omega)]
        exact HN1.out
      have HZ6 : Hid (NdB tRn (w5.setCell ⟨w.heap.size + 2, 5, none⟩ (.slice q5 (i + 1) cp5)) (w.heap.size + 1) nodeZ none 0 0) := by
        unfold Hid NdB
        rw [heap_setCell_other _ _ _ _ (by show w.heap.size + 1 ≠ w.heap.size + 2; omega), hB5.out.block _ (by omega)]
        exact HN0.out
      have HW6 : Hid ((w5.setCell ⟨w.heap.size + 2, 5, none⟩ (.slice q5 (i + 1) cp5)).ownsRow (w.heap.size + 3) tRn 6 (.slice q5 (i + 1) cp5) (i + 1) ((acc ++ [(mc, p2, l', c2)]).flatMap kidC)) :=
        row_carry HOW5.out (fun b hb => heap_setCell_other _ _ _ _ (by have := (HOW5.out.lt b hb).1; show b ≠ w.heap.size + 2; omega))
      have HL6 : Hid (Below w.heap.size w (w5.setCell ⟨w.heap.size + 2, 5, none⟩ (.slice q5 (i + 1) cp5))) := (HBL.out.trans (hB5.out.mono (by omega))).setCell (by show w.heap.size ≤ w.heap.size + 2; omega) _
      have HAN : Hid ((acc ++ [(mc, p2, l', c2)]).map Prod.fst = m.args.take (i + 1)) := by
        unfold Hid
        rw [List.map_append, HAC.out, List.take_add_one, HMG.out]
        rfl
      have e6 : w5.setCell ⟨w.heap.size + 1 + 1, 5, none⟩ (.slice q5 (i + 1) cp5) = w5.setCell ⟨w.heap.size + 2, 5, none⟩ (.slice q5 (i + 1) cp5) := rfl
      rw [e6]
      generalize w5.setCell ⟨w.heap.size + 2, 5, none⟩ (.slice q5 (i + 1) cp5) = w6 at HP6 HR6 HZ6 HW6 HL6 HKN ⊢
      clear e6 HHC HN5 HN0 HN1 HN2 HOW HOW5 hB5 hB3 hb4 e5 g5 HBL
      go_wp2_with fail
      go_roundg (gk - 1)
      case measure => omega
      case rel =>
        refine ⟨i + 1, acc ++ [(mc, p2, l', c2)], q5, cp5, by omega, by go_num, HAN.out, HR6.out, HZ6.out, HP6.out, HW6.out, fun d'' hd x hx => ?_, HL6.out⟩
        obtain rfl : d' = d'' := by have := HHD.out; omega
        exact HKN.out x hx
    · obtain rfl : i = len := by omega
      have hli : ¬ (i : Int) < (i : Int) := by omega
      obtain ⟨z0, z1, z2, z3, z4, z5⟩ := HN0.out.cells
      have f0 := unfrozen_of_block HN0.out 0
      have f1 := unfrozen_of_block HN0.out 1
      have f2 := unfrozen_of_block HN0.out 2
      have f3 := unfrozen_of_block HN0.out 3
      have f4 := unfrozen_of_block HN0.out 4
      have f5 := unfrozen_of_block HN0.out 5
      go_wp2_with fail
      obtain ⟨h1, h2, h3⟩ := six_heap (.int .i64 m.kind) (.int .i64 m.num) (.string ⟨m.text.toArray⟩) (.int .i64 m.frm) (.int .i64 m.tor) (.slice q i cp) HN0.out
      refine bodyPost_ret (results_cell_row rfl _ _ (w.heap.size + 1) tRn (ndA m q i cp) (0, 0) _ rfl h1 Tryd.underlying30 rfl (by kernel_rfl)) rfl ?_
      have hla : acc.length = i := by
        have h := congrArg List.length HAC.out
        rw [List.length_map, List.length_take, HALm.out] at h
        omega
      have hs6 := (h3 0 (Nat.zero_le _)).size
      refine ⟨⟨q, ⟨cp, rfl⟩, ?_⟩, HBL.out.trans (h3 _ (by omega))⟩
      cases d with
      | zero =>
        have h := HRD.out
        exact ⟨List.length_eq_zero_iff.1 (by rw [HALm.out, h.2]), h.2⟩
      | succ d =>
        subst hla
        obtain ⟨q', cp', hv, hr⟩ := RdP.of_rowR (n := m) (d := d) (ok := fun b => w.heap.size + 3 ≤ b ∧ b < wr.heap.size) HOW.out (by rw [HAC.out, List.take_of_length_le (by rw [HALm.out]; exact Nat.le_refl _)]) (fun x hx => RdP.carry (fun b hb => ⟨⟨hb.1, hb.2.1⟩, rfl⟩) (HKD.out d rfl x hx)) (fun b hb => HOW.out.lt b hb)
        cases hv
        exact RdP.carry (fun b hb => ⟨⟨by omega, by omega⟩, h2 b (by omega)⟩) hr
theorem named_any : ∀ d, NamedC d
  | 0 => named_s 0 (fun d' h => by omega)
  | d + 1 => named_s (d + 1) (fun d' h => (show d = d' from by omega) ▸ named_any d)
end
section
open Go.RowKit Go.Joins

set_option maxRecDepth 100000 in
set_option maxHeartbeats 4000000 in
theorem print_any (n : Nd) (d : Nat) (p : Option Addr) (len cap : Nat) (lv : Int) (w : World) (hrd : RdT w w.heap.size d n p len) (hok : OkN n) (hrt : rtN n lv = true) (hsh : w.ShapedOpen Tryd.prog) (hlen : wtN n ≤ 2200000) :
    Calls Tryd.prog 15 #[.agg (ndA n p len cap), nameF] w fun e w' => e = .returned (.string ⟨(prN nmS n 1).toArray⟩) ∧ Below w.heap.size w w' := by
  have hA0 : Hid (NdB tPn (w.alloc (.cells (ndA n p len cap) tPn)) w.heap.size n p len cap) := heap_alloc_new w _
  have hAB : Hid (Below w.heap.size w (w.alloc (.cells (ndA n p len cap) tPn))) := by unfold Hid; (repeat' (first | (with_reducible exact Below.refl _ _) | (with_reducible assumption) | (with_reducible refine Below.alloc ?_ ?_ _) | (with_reducible refine bel_drewN ?_ _) | (with_reducible refine Below.drew ?_) | (with_reducible refine Below.setCell ?_ ?_ _) | (with_reducible refine bel_call ‹_› ?_ ?_) | go_size))
  have HW := Lib.hid (fun b W (hW : Below w.heap.size w W) hib hB => write_any d n p len cap 1 lv w.heap.size b [] w W trivial (hrd.below hW) hok hrt (by omega) (by omega) hsh rfl hW hib hB (by simpa using hlen))
  generalize hX : prN nmS n 1 = X at HW ⊢
  clear hX hlen hok hrd hrt hsh
  rw [ndA_eq] at HW ⊢
  go_enter Tryd.func15, Tryd.ntmps15
  go_upto_region 1 with fail
  have e0 : w.alloc (.cells #[.int .i64 n.kind, .int .i64 n.num, .string ⟨n.text.toArray⟩, .int .i64 n.frm, .int .i64 n.tor, .slice p len cap] tPn) = w.alloc (.cells (ndA n p len cap) tPn) := rfl
  rw [e0]
  clear e0
  generalize w.alloc (.cells (ndA n p len cap) tPn) = w0 at hA0 hAB ⊢
  go_upto_region 2 with fail
  have hib : Hid (Lib.IsBuilder tBd 5 w.heap.size w0.heap.size (Lib.byteCells []) (w0.alloc (.cells #[.pointer none, .slice none 0 0] tBd))) := bd_fresh w.heap.size w0 hAB.out.size
  have hB1 : Hid (Below w.heap.size w (w0.alloc (.cells #[.pointer none, .slice none 0 0] tBd))) := hAB.out.alloc hAB.out.size _
  have hA1 : Hid (NdB tPn (w0.alloc (.cells #[.pointer none, .slice none 0 0] tBd)) w.heap.size n p len cap) := hA0.out.below (by (repeat' (first | (with_reducible exact Below.refl _ _) | (with_reducible assumption) | (with_reducible refine Below.alloc ?_ ?_ _) | (with_reducible refine bel_drewN ?_ _) | (with_reducible refine Below.drew ?_) | (with_reducible refine Below.setCell ?_ ?_ _) | (with_reducible refine bel_call ‹_› ?_ ?_) | go_size)))
  generalize w0.alloc (.cells #[.pointer none, .slice none 0 0] tBd) = w1 at hib hB1 hA1 ⊢
  generalize w0.heap.size = b at hib ⊢
  obtain ⟨c0, c1, c2, c3, c4, c5⟩ := hA1.out.cells
  go_wp2_with fail
  refine (HW.out b w1 hB1.out hib.out hB1.out.size).mono ?_
  rintro e w2 ⟨rfl, hi2, hb2, _⟩
  have hB2 : Hid (Below w.heap.size w w2) := hB1.out.trans hb2
  have HI2 := Lib.hid hi2
  clear hi2 hb2 hB1 hib hA1 c0 c1 c2 c3 c4 c5 HW hA0 hAB
  go_wp2_with fail
  refine (bd_string w.heap.size b _ w2 HI2.out hB2.out.size).mono ?_
  rintro e w3 ⟨rfl, hb3⟩
  go_wp2_with fail
  go_ret
  exact ⟨rfl, hB2.out.trans hb3⟩

mutual
/-- All bytes of a tree's texts. -/
def txN : Nd → Nat
  | .mk _ _ t _ _ a => t.length + txL a
def txL : List Nd → Nat
  | [] => 0
  | c :: r => txN c + txL r
end
mutual
theorem wt_sz : ∀ (n : Nd) (m : Int), szN n m ≤ m → (wtN n : Int) + 1 ≤ 401 * szN n m + 2 * (txN n : Int)
  | .mk k u t f o a, m, h => by
    rw [szN] at h ⊢
    rw [wtN, txN]
    have := wtL_sz a 1 m (by omega) h
    omega
theorem wtL_sz : ∀ (a : List Nd) (k m : Int), 1 ≤ k → szL a k m ≤ m → (wtL a : Int) + 401 * k ≤ 401 * szL a k m + 2 * (txL a : Int)
  | [], k, m, h1, h => by rw [szL, wtL, txL]; omega
  | c :: r, k, m, h1, h => by
    rw [szL] at h ⊢
    rw [wtL, txL]
    split at h
    · rename_i hk
      rw [if_pos hk]
      have hc := szN_le c (m - k)
      have h3 := (szL_kids r _ m (by omega) h).1
      have h4 := wt_sz c (m - k) (by omega)
      have h5 := wtL_sz r _ m (by omega) h
      omega
    · omega
end
theorem wt_few {n : Nd} (h : lightB n = true) (ht : txN n ≤ 1048576) : wtN n ≤ 2200000 := by
  unfold lightB at h
  simp only [Bool.and_eq_true, decide_eq_true_eq] at h
  have := wt_sz n 200 h.1
  omega

set_option maxRecDepth 100000 in
set_option maxHeartbeats 16000000 in
theorem prints_walk (d : Nat) (n : Nd) (p : Option Addr) (len cap : Nat) (w : World) (hrd : RdT w w.heap.size d n p len) (hokn : OkN n) (htx : txN n ≤ 1048576) (hsh : w.ShapedOpen Tryd.prog) :
    Calls Tryd.prog 4 #[.agg (ndA n p len cap)] w fun e w' => e = .returned (.bool true) ∧ Below w.heap.size w w' := by
  have hh0 : Hid (NdB tRn (w.alloc (.cells (ndA n p len cap) tRn)) w.heap.size n p len cap) := heap_alloc_new w _
  have hAB : Hid (Below w.heap.size w (w.alloc (.cells (ndA n p len cap) tRn))) := by unfold Hid; (repeat' (first | (with_reducible exact Below.refl _ _) | (with_reducible assumption) | (with_reducible refine Below.alloc ?_ ?_ _) | (with_reducible refine bel_drewN ?_ _) | (with_reducible refine Below.drew ?_) | (with_reducible refine Below.setCell ?_ ?_ _) | (with_reducible refine bel_call ‹_› ?_ ?_) | go_size))
  have HN := Lib.hid (fun W (hW : Below w.heap.size w W) => (hrd.below hW).mono hW.size)
  have hok := Lib.hid hokn
  have HSH := Lib.hid (fun W (hW : Below w.heap.size w W) => shaped_below hsh hW)
  have HL1 := Lib.hid (fun W (hW : Below w.heap.size w W) => light_any d n p len cap W (HN.out W hW) hokn)
  have HR1 := Lib.hid (fun W (hW : Below w.heap.size w W) => rright_any d n p len cap 64 W (HN.out W hW) hokn (by omega) (by omega))
  have HF1 := Lib.hid (fun (h : lightB n = true) => FewN.of_light h)
  have HWT := Lib.hid (fun (h : lightB n = true) => wt_few h htx)
  have HRT := Lib.hid (fun (h : rtN n 64 = true) => h)
  clear hrd hokn htx hsh
  have HRB : Hid (∃ r1, rtN n 64 = r1) := ⟨_, rfl⟩
  generalize lightB n = l1 at HL1 HF1 HWT
  obtain ⟨r1, hr1⟩ := HRB.out
  rw [hr1] at HR1
  have HR64 := Lib.hid hr1
  clear hr1 HRB HRT
  rw [ndA_eq]
  go_enter Tryd.func4, Tryd.ntmps4
  go_upto_region 1 with fail
  have e0 : w.alloc (.cells #[.int .i64 n.kind, .int .i64 n.num, .string ⟨n.text.toArray⟩, .int .i64 n.frm, .int .i64 n.tor, .slice p len cap] tRn) = w.alloc (.cells (ndA n p len cap) tRn) := rfl
  rw [e0]
  clear e0
  generalize w.alloc (.cells (ndA n p len cap) tRn) = w0 at hh0 hAB ⊢
  have hBR : ∀ dd os, Below w.heap.size w (Go.Sort.grow (redrawn w0 dd) os) := fun dd os => bel_call (below_regrown w0 dd os) hAB.out hAB.out.size
  go_cut [10] (fun v wx => v = .bool (!l1 || !r1) ∧ Below w.heap.size w wx ∧ NdB tRn wx w.heap.size n p len cap)
  case first =>
    obtain ⟨c0, c1, c2, c3, c4, c5⟩ := hh0.out.cells
    have r0 := cell_regrown c0
    have r1' := cell_regrown c1
    have r2 := cell_regrown c2
    have r3 := cell_regrown c3
    have r4 := cell_regrown c4
    have r5 := cell_regrown c5
    have cL1 : ∀ dd os, Calls Tryd.prog 13 #[.agg #[.int .i64 n.kind, .int .i64 n.num, .string ⟨n.text.toArray⟩, .int .i64 n.frm, .int .i64 n.tor, .slice p len cap]] (Go.Sort.grow (redrawn w0 dd) os) fun e w'' => e = .returned (.bool l1) ∧ ∃ p : Regrown, w'' = Go.Sort.grow (redrawn w0 p.1) p.2 := fun dd os => Calls.regrown_of (HL1.out _ (hBR dd os))
    have cR1 : ∀ dd os, Calls Tryd.prog 14 #[.agg #[.int .i64 n.kind, .int .i64 n.num, .string ⟨n.text.toArray⟩, .int .i64 n.frm, .int .i64 n.tor, .slice p len cap], .int .i64 64] (Go.Sort.grow (redrawn w0 dd) os) fun e w'' => e = .returned (.bool r1) ∧ ∃ p : Regrown, w'' = Go.Sort.grow (redrawn w0 p.1) p.2 := fun dd os => Calls.regrown_of (HR1.out _ (hBR dd os))
    clear c0 c1 c2 c3 c4 c5 HL1 HR1 HF1 HWT HN hok HSH HR64
    cases l1
    all_goals
      refine wp_region_plain_below ?_
      repeat (go_big_quiet_step ((first | with_reducible exact cL1 _ _ | with_reducible exact cR1 _ _)))
      refine wpQuiet_nil ?_
      intro _ hw'
      obtain ⟨⟨dz, osz⟩, hw''⟩ := hw'
      subst hw''
      have hBz : Below w.heap.size w (Go.Sort.grow (redrawn w0 dz) osz) := hBR dz osz
      have hN0 : NdB tRn (Go.Sort.grow (redrawn w0 dz) osz) w.heap.size n p len cap := hh0.out.below (below_regrown w0 dz osz)
      clear r0 r1' r2 r3 r4 r5 cL1 cR1
      go_wp2_with fail
      go_meet
      exact ⟨by first | rfl | (cases r1 <;> rfl), hBz, hN0⟩
  case rest =>
    obtain ⟨hv, hB, hn0⟩ := hcut
    subst hv
    have hw3 := Lib.hid hB
    have hm0 := Lib.hid hn0
    clear hB hn0 hh0 hAB hBR HL1 HR1
    by_cases hl : l1 = true ∧ r1 = true
    · obtain ⟨rfl, rfl⟩ := hl
      have hfn := Lib.hid (HF1.out rfl)
      have hwt := Lib.hid (HWT.out rfl)
      obtain ⟨c0, c1, c2, c3, c4, c5⟩ := hm0.out.cells
      have r0 := Kept.at c0
      have r1 := Kept.at c1
      have r2 := Kept.at c2
      have r3 := Kept.at c3
      have r4 := Kept.at c4
      have r5 := Kept.at c5
      clear c0 c1 c2 c3 c4 c5 hm0 HF1 HWT
      go_upto_region 3 with fail
      refine wp_region_sched (fun wx => ∃ x : Kept wc.heap.size wc, wx = x.v) [([0, 3], 1), ([], 2), ([], 4), ([], 5), ([6, 7], 8)] [9, 10] (by kernel_rfl) (by kernel_rfl) (by kernel_rfl) rfl (kept_drew _ _ (Nat.le_refl _)) ?_
      have kb0 : Hid (Below wc.heap.size wc wc.drew) := Below.drew (Below.refl _ _)
      (unfold wpSeg; simp only [pick_nil, pick_cons, nthO_zero, nthO_succ, List.append])
      repeat (go_big_quiet_step (fail))
      refine wpQuiet_nil ?_
      have hc1 := Lib.hid (to_any d n p len cap wc.drew (HN.out _ (hw3.out.trans (kb0.out.mono hw3.out.size))) hok.out hfn.out)
      simp only [ndA_eq] at hc1
      go_wp2_with fail
      refine hc1.out.mono ?_
      rintro e x1 ⟨⟨q1, cq1, rfl, hk⟩, hb⟩
      have kb1 : Hid (Below wc.heap.size wc x1) := bel_call hb kb0.out kb0.out.size
      have ht1 : Hid (RdT x1 x1.heap.size d n q1 len) := hk.rdT (fun b h => h.2)
      try rw [ndA_eq n q1 len cq1]
      clear hb hc1 hk
      go_wp2_with fail
      refine ⟨rfl, ⟨⟨x1, kb1.out⟩, rfl⟩, ?_⟩
      (unfold wpSeg; simp only [pick_nil, pick_cons, nthO_zero, nthO_succ, List.append])
      repeat (go_big_quiet_step (fail))
      refine wpQuiet_nil ?_
      have hc2 := Lib.hid (print_any n d q1 len cq1 64 x1 ht1.out hok.out HR64.out (HSH.out _ (hw3.out.trans (kb1.out.mono hw3.out.size))) hwt.out)
      simp only [ndA_eq] at hc2
      go_wp2_with fail
      refine hc2.out.mono ?_
      rintro e x2 ⟨rfl, hb⟩
      have kb2 : Hid (Below wc.heap.size wc x2) := bel_call hb kb1.out kb1.out.size
      clear hb hc2
      go_wp2_with fail
      refine ⟨rfl, ⟨⟨x2, kb2.out⟩, rfl⟩, ?_⟩
      (unfold wpSeg; simp only [pick_nil, pick_cons, nthO_zero, nthO_succ, List.append])
      repeat (go_big_quiet_step (fail))
      refine wpQuiet_nil ?_
      have hc3 := Lib.hid (named_any d n p len cap x2 (HN.out _ (hw3.out.trans (kb2.out.mono hw3.out.size))) hok.out hfn.out)
      simp only [ndA_eq] at hc3
      go_wp2_with fail
      refine hc3.out.mono ?_
      rintro e x3 ⟨⟨q3, cq3, rfl, hk⟩, hb⟩
      have kb3 : Hid (Below wc.heap.size wc x3) := bel_call hb kb2.out kb2.out.size
      have ht3 : Hid (RdT x3 x3.heap.size d (nmN nmS n) q3 len) := hk.rdT (fun b h => h.2)
      try rw [ndA_eq (nmN nmS n) q3 len cq3]
      clear hb hc3 hk
      go_wp2_with fail
      refine ⟨rfl, ⟨⟨x3, kb3.out⟩, rfl⟩, ?_⟩
      (unfold wpSeg; simp only [pick_nil, pick_cons, nthO_zero, nthO_succ, List.append])
      repeat (go_big_quiet_step (fail))
      refine wpQuiet_nil ?_
      have hc4 := Lib.hid (rprint_any d n q3 len cq3 1 64 x3 trivial ht3.out hok.out HR64.out (by omega) (by omega) hwt.out)
      simp only [ndA_eq] at hc4
      go_wp2_with fail
      refine hc4.out.mono ?_
      rintro e x4 ⟨rfl, hb⟩
      have kb4 : Hid (Below wc.heap.size wc x4) := bel_call hb kb3.out kb3.out.size
      clear hb hc4
      go_wp2_with fail
      refine ⟨rfl, ⟨⟨x4, kb4.out⟩, rfl⟩, ?_⟩
      (unfold wpSeg; simp only [pick_nil, pick_cons, nthO_zero, nthO_succ, List.append])
      repeat (go_big_quiet_step (fail))
      refine wpQuiet_nil ?_
      have hc5 := Lib.hid (awake_any x4)
      go_wp2_with fail
      refine hc5.out.mono ?_
      rintro e x5 ⟨rfl, hb⟩
      have kb5 : Hid (Below wc.heap.size wc x5) := bel_call hb kb4.out kb4.out.size
      clear hb hc5
      go_wp2_with fail
      refine ⟨rfl, ⟨⟨x5, kb5.out⟩, rfl⟩, ?_⟩
      (unfold wpSeg; simp only [pick_nil, pick_cons, nthO_zero, nthO_succ, List.append])
      repeat (go_big_quiet_step (fail))
      refine wpQuiet_nil ?_
      have hb6 : Hid (Below w.heap.size w x5) := hw3.out.trans (kb5.out.mono hw3.out.size)
      go_wp2_with fail
      go_ret
      exact ⟨rfl, hb6.out⟩
    · have hl2 : (!l1 || !r1) = true := by cases l1 <;> cases r1 <;> simp_all
      rw [hl2]
      go_wp2_with fail
      refine (awake_any _).mono ?_
      rintro e x1 ⟨rfl, hb⟩
      have hb1 := bel_call hb hw3.out hw3.out.size
      go_wp2_with fail
      go_ret
      exact ⟨rfl, hb1⟩
end
section
open Go.RowKit Go.ChangeShapes Go.WideShapes Go.ChangeAt Go.Joins

theorem bulk_all {H : Type} {α : Type} : ∀ (l : List (DataW H × α)) (g : Nat → Nat), (∀ i y, l[i]? = some y → g i ≤ Rows.uptoBulk y.1) → ((List.range l.length).map g).sum ≤ Rows.uptoBulkAll (l.map (·.1))
  | [], g, h => by simp
  | x :: r, g, h => by
    have h1 := h 0 x rfl
    have h2 := bulk_all r (fun i => g (i + 1)) (fun i y hy => h (i + 1) y (by simpa using hy))
    rw [List.length_cons, List.range_succ_eq_map, List.map_cons, List.sum_cons, List.map_map, List.map_cons, Rows.uptoBulkAll]
    have e : (g ∘ Nat.succ) = fun i => g (i + 1) := rfl
    rw [e]
    omega
theorem txL_map : ∀ l : List Nd, txL l = (l.map txN).sum
  | [] => by rw [txL]; rfl
  | c :: r => by rw [txL, txL_map r, List.map_cons, List.sum_cons]
theorem txL_range (n : Nat) (f : Nat → Kid) : txL ((List.range n).map fun i => (f i).1) = ((List.range n).map fun i => txN (f i).1).sum := by
  rw [txL_map, List.map_map]
  rfl
theorem small_part {H : Type} {ds : List (DataW H)} (h : Rows.uptoSmall H ds = true) {d : DataW H} (hd : d ∈ ds) : Rows.uptoBulk d ≤ 1048576 := by
  have h : Rows.uptoBulkAll ds ≤ 1048576 := of_decide_eq_true h
  revert h
  induction ds with
  | nil => cases hd
  | cons x ds ih =>
    intro h
    simp only [Rows.uptoBulkAll] at h
    rcases List.mem_cons.1 hd with rfl | hd
    · omega
    · exact ih (decide_eq_true (by omega)) hd (by omega)
section
variable {H : Type} {enc : TypeId × Value → H} {w : World} {base : Nat} {spare : Nat → Bool} {held : Bool}
theorem open_ndB : ∀ (fuel : Nat) (cs : List Value) (x : DataW H × List MemPlace), DataW.trod enc Tryd.prog w base spare held fuel tRn cs = some x → ∃ n p len cap, cs = ndC n p len cap ∧ OkN n ∧ RdT w w.heap.size fuel n p len ∧ txN n ≤ Rows.uptoBulk x.1 := by
  intro fuel
  induction fuel using Nat.strongRecOn with
  | _ fuel ih =>
    intro cs x h
    have hC : Tryd.prog.cellsOf tRn = 6 := by kernel_rfl
    have hC1 : Tryd.prog.cellsOf 3 = 1 := by kernel_rfl
    have hC2 : Tryd.prog.cellsOf 2 = 1 := by kernel_rfl
    have hC3 : Tryd.prog.cellsOf 9 = 1 := by kernel_rfl
    have hC4 : Tryd.prog.cellsOf 28 = 1 := by kernel_rfl
    obtain ⟨xs, m, hm, hxx, hsz, hlen, hF⟩ := DataW.trod_struct Tryd.underlying30 h
    rw [hC] at hsz
    obtain ⟨c0, c1, c2, c3, c4, c5, rfl⟩ := list6 hsz
    obtain ⟨y0, y1, y2, y3, y4, y5, rfl⟩ := list6 hlen
    have z0 := hF 0 _ rfl
    have z1 := hF 1 _ rfl
    have z2 := hF 2 _ rfl
    have z3 := hF 3 _ rfl
    have z4 := hF 4 _ rfl
    have z5 := hF 5 _ rfl
    simp [hC, hC1, hC2, hC3, hC4] at z0 z1 z2 z3 z4 z5
    obtain ⟨i0, e0, _, v0⟩ := DataW.trod_int Tryd.underlying3 z0
    obtain ⟨i1, e1, _, v1⟩ := DataW.trod_int Tryd.underlying2 z1
    obtain ⟨s2, e2, b2, v2⟩ := DataW.trod_string Tryd.underlying9 z2
    obtain ⟨i3, e3, _, v3⟩ := DataW.trod_int Tryd.underlying3 z3
    obtain ⟨i4, e4, _, v4⟩ := DataW.trod_int Tryd.underlying3 z4
    have b64 : ∀ {x : Int}, (Lit.int .i64 x).wf = true → -9223372036854775808 ≤ x ∧ x ≤ 9223372036854775807 := by
      intro x h
      have h1 : IntKind.i64.min ≤ x ∧ x ≤ IntKind.i64.max := by simpa only [Lit.wf, Bool.and_eq_true, decide_eq_true_eq] using h
      have e1 : IntKind.i64.min = -9223372036854775808 := by decide
      have e2 : IntKind.i64.max = 9223372036854775807 := by decide
      rw [e1, e2] at h1
      exact h1
    simp only [List.cons.injEq, and_true] at e0 e1 e2 e3 e4
    subst e0 e1 e2 e3 e4
    have hs : s2 = ⟨s2.data.toList.toArray⟩ := by simp
    have hsl : s2.data.toList.length ≤ 9223372036854775807 := by
      have : s2.data.toList.length = s2.size := (Lib.size_eq s2).symm
      unfold maxLen at v2
      omega
    rcases DataW.trod_slice Tryd.underlying28 z5 with ⟨e5, b5⟩ | ⟨a, len, cap, elems, rest, k, hk, e5, b5, _, hl, hm', hel, hx, _, _⟩
    · simp only [List.cons.injEq, and_true] at e5
      subst e5
      refine ⟨.mk i0 i1 s2.data.toList i3 i4 [], none, 0, 0, ?_, .mk _ _ _ _ _ _ hsl (by simp) (b64 v1) (b64 v3) (b64 v4) (fun c hc => by cases hc), ?_, ?_⟩
      · unfold ndC
        show _ = [_, _, Value.string ⟨s2.data.toList.toArray⟩, _, _, _]
        rw [← hs]
        rfl
      · subst hm
        exact ⟨rfl, .inl rfl⟩
      · rw [hxx, b2, txN, txL]
        simp only [List.map_cons, List.map_nil, Rows.uptoBulk, Rows.uptoBulkAll]
        omega
    · simp only [List.cons.injEq, and_true] at e5
      subst e5
      rw [hC] at hx
      have each : ∀ i, i < len → ∃ q : Kid, w.cells? base (a.add (i * 6)) 6 = some (kidC q) ∧ OkN q.1 ∧ RdT w w.heap.size k q.1 q.2.1 q.2.2.1 ∧ (∃ y, elems[i]? = some y ∧ txN q.1 ≤ Rows.uptoBulk y.1) := by
        intro i hi
        have h1 := hx i hi
        obtain ⟨y, hy⟩ : ∃ y, elems[i]? = some y := ⟨_, List.getElem?_eq_getElem (by omega)⟩
        rw [hy] at h1
        cases hcs : w.cells? base (a.add (i * 6)) 6 with
        | none => rw [hcs] at h1; cases h1
        | some cs' =>
          rw [hcs] at h1
          obtain ⟨n', p', l', c', rfl, ho, hr, hbk⟩ := ih k (by omega) cs' y h1
          exact ⟨(n', p', l', c'), rfl, ho, hr, y, hy, hbk⟩
      obtain ⟨f, hf⟩ := Go.Deep.choose_lt each
      refine ⟨.mk i0 i1 s2.data.toList i3 i4 ((List.range len).map fun i => (f i).1), some a, len, cap, ?_, .mk _ _ _ _ _ _ hsl (by unfold maxLen at hm'; simp; omega) (b64 v1) (b64 v3) (b64 v4) (fun c hc => ?_), ?_, ?_⟩
      · unfold ndC
        show _ = [_, _, Value.string ⟨s2.data.toList.toArray⟩, _, _, _]
        rw [← hs]
        rfl
      · obtain ⟨i, hi, rfl⟩ := List.mem_map.1 hc
        exact (hf i (List.mem_range.1 hi)).2.1
      · subst hm hk
        refine ⟨by simp [Nd.args], ?_⟩
        rcases Nat.eq_zero_or_pos len with h0 | h0
        · exact .inl h0
        · have hc0 := (World.cells?_some (hf 0 h0).1).2.2 0 (by omega)
          rw [Nat.zero_mul, add_zeroT, add_zeroT] at hc0
          obtain ⟨b, o, rfl, hlt⟩ := add_noneT (hc0.trans (show (kidC (f 0))[0]? = some (.int .i64 (f 0).1.kind) from rfl))
          refine .inr ⟨b, o, rfl, hlt, fun j c hc => ?_⟩
          simp only [Nd.args] at hc
          have hj : j < len := by have := (List.getElem?_eq_some_iff.1 hc).1; simpa using this
          rw [List.getElem?_map, List.getElem?_range hj] at hc
          obtain rfl : (f j).1 = c := by simpa using hc
          refine ⟨(f j).2.1, (f j).2.2.1, (f j).2.2.2, fun q u hu => ?_, RdT.up (by omega) (hf j hj).2.2.1⟩
          have hq : q < 6 := (List.getElem?_eq_some_iff.1 hu).1
          have := (World.cells?_some (hf j hj).1).2.2 q hq
          rw [add_plainT, add_plainT] at this
          exact this.trans hu
      · have h1 := bulk_all elems (fun i => txN (f i).1) (fun i y hy => by
          have hi : i < len := by have := (List.getElem?_eq_some_iff.1 hy).1; omega
          obtain ⟨y', hy', hb⟩ := (hf i hi).2.2.2
          rw [hy] at hy'
          cases hy'
          exact hb)
        rw [hel] at h1
        rw [hxx, b2, b5, txN, txL_range]
        simp only [List.map_cons, List.map_nil, Rows.uptoBulk, Rows.uptoBulkAll]
        omega
set_option maxRecDepth 100000 in
theorem open_treeB {r : Reach} {b0 : Nat} {v : Value} {d : DataW H} {p : List MemPlace} (hv : Value.okWide Tryd.prog w r b0 tRn v) (h : DataW.Trod enc Tryd.prog w base spare held tRn v d p) :
    ∃ (n : Nd) (q : Option Addr) (len cap fuel : Nat), RdT w w.heap.size fuel n q len ∧ OkN n ∧ txN n ≤ Rows.uptoBulk d ∧ v = .agg (ndA n q len cap) := by
  obtain ⟨cs, rfl, hsz⟩ := okWide_struct Tryd.underlying30 hv
  obtain ⟨fuel, hf⟩ := h
  obtain ⟨n, q, len, cap, e, ho, hr, hbk⟩ := open_ndB fuel _ _ hf
  refine ⟨n, q, len, cap, fuel, hr, ho, hbk, ?_⟩
  have e2 : cs.toList = ndC n q len cap := e
  have e3 : cs = (ndC n q len cap).toArray := by rw [← e2]
  rw [e3]
  rfl
end
end
end Go.Proofs.YtfkfajgfkgeicaaDoor
