/- Trees: 'To': the walk. -/
import Derived.Test.YtfkfajgfkgeicaaDoorTreM
import Derived.Test.YtfkfajgfkgeicaaDoorKept
set_option linter.unusedSimpArgs false
set_option linter.unusedVariables false
namespace Go.Proofs.YtfkfajgfkgeicaaDoor
open Go.RowKit Go.Joins

abbrev nodeZ : Nd := .mk 0 0 [] 0 0 []
theorem three_heap (w : World) (a b c : Obj) : (((w.alloc a).alloc b).alloc c).heap[w.heap.size]? = some a ∧ (((w.alloc a).alloc b).alloc c).heap[w.heap.size + 1]? = some b ∧ (((w.alloc a).alloc b).alloc c).heap[w.heap.size + 2]? = some c := by
  refine ⟨?_, ?_, ?_⟩ <;> simp only [World.alloc, Array.getElem?_push, Array.size_push] <;> (repeat (first | rfl | (rw [if_neg (by omega)]) | (rw [if_pos (by omega)])))
theorem three_below {w : World} (a b c : Obj) : Below w.heap.size w (((w.alloc a).alloc b).alloc c) := by
  (repeat' (first | (with_reducible exact Below.refl _ _) | (with_reducible assumption) | (with_reducible refine Below.alloc ?_ ?_ _) | (with_reducible refine bel_drewN ?_ _) | (with_reducible refine Below.drew ?_) | (with_reducible refine Below.setCell ?_ ?_ _) | (with_reducible refine bel_call ‹_› ?_ ?_) | go_size))
theorem row_carry {w w' : World} {base size n : Nat} {e : TypeId} {v : Value} {xs : List Value} (h : w.ownsRow base e size v n xs) (hb : ∀ b, v.ownBlock = some b → w'.heap[b]? = w.heap[b]?) : w'.ownsRow base e size v n xs := by
  obtain ⟨h1, h2⟩ := h
  refine ⟨h1, ?_⟩
  rcases h2 with h2 | ⟨g, cap, cur, hv, hg, hh, r⟩
  · exact .inl h2
  · refine .inr ⟨g, cap, cur, hv, hg, ?_, r⟩
    rw [hb g (by rw [hv]; rfl)]
    exact hh
/-- The parts behind one more append, and behind the store of the row. -/
theorem kids_on {H d' l' c2 : Nat} {wr w3 w5 : World} {o : Obj} {v v' u : Value} {acc : List Kid} {c : Nd} {p2 : Option Addr} (hH : H + 3 ≤ wr.heap.size) (hb : Below wr.heap.size wr w3) (hg : (w3.alloc o).grownBy w5 v.ownBlock)
    (hat : v'.ownBlock = v.ownBlock ∨ v'.ownBlock = some (w3.alloc o).heap.size) (hlt : ∀ b, v.ownBlock = some b → b < wr.heap.size) (hk : ∀ x ∈ acc, RdP wr (okK (H + 3) wr v) d' x.1 x.2.1 x.2.2.1)
    (hn : RdP w3 (fun b => wr.heap.size ≤ b ∧ b < w3.heap.size) d' c p2 l') :
    ∀ x ∈ acc ++ [(c, p2, l', c2)], RdP (w5.setCell ⟨H + 2, 5, none⟩ u) (okK (H + 3) (w5.setCell ⟨H + 2, 5, none⟩ u) v') d' x.1 x.2.1 x.2.2.1 := by
  have hs := hb.size
  have hs2 := hg.size
  rw [World.size_alloc] at hs2 hat
  have hblk : ∀ b, H + 2 ≠ b → b < w3.heap.size → v.ownBlock ≠ some b → (w5.setCell ⟨H + 2, 5, none⟩ u).heap[b]? = w3.heap[b]? := fun b h1 h2 h3 => by
    rw [heap_setCell_other _ _ _ _ (fun e => h1 e.symm), hg.block b (by rw [World.size_alloc]; omega) (fun e => h3 e.symm), heap_alloc_old _ _ h2]
  intro x hx
  rcases List.mem_append.1 hx with hx | hx
  · refine RdP.carry (fun b hb' => ?_) (hk x hx)
    obtain ⟨h1, h2, h3⟩ := hb'
    refine ⟨⟨h1, by rw [World.size_setCell]; omega, ?_⟩, ?_⟩
    · rcases hat with e | e
      · rw [e]; exact h3
      · rw [e]; intro e'; have := Option.some.inj e'; omega
    · rw [hblk b (by omega) (by omega) h3, hb.block b h2]
  · obtain rfl := List.mem_singleton.1 hx
    refine RdP.carry (fun b hb' => ?_) hn
    obtain ⟨h1, h2⟩ := hb'
    have h3 : v.ownBlock ≠ some b := fun e => by have := hlt b e; omega
    refine ⟨⟨by omega, by rw [World.size_setCell]; omega, ?_⟩, ?_⟩
    · rcases hat with e | e
      · rw [e]; exact h3
      · rw [e]; intro e'; have := Option.some.inj e'; omega
    · exact hblk b (by omega) h2 h3
theorem info_nd : (Tryd.prog.info? tPn).map (fun i => (i.zero, i.size, i.bytes)) = some (some (.agg #[.int .i64 0, .int .i64 0, .string ⟨#[]⟩, .int .i64 0, .int .i64 0, .slice none 0 0]), 6, 72) := by kernel_rfl
theorem newNd (w : World) (c : Nd) (p2 : Option Addr) (l' c2 : Nat) : ∀ j u, (ndC c p2 l' c2)[j]? = some u → (w.alloc (.cells (ndA c p2 l' c2) tPn)).cell? ((⟨w.heap.size, 0, none⟩ : Addr).add j) = some u := by
  intro j u hj
  have hb : NdB tPn (w.alloc (.cells (ndA c p2 l' c2) tPn)) w.heap.size c p2 l' c2 := heap_alloc_new w _
  obtain ⟨c0, c1, c2', c3, c4, c5⟩ := hb.cells
  have hj6 : j < 6 := (List.getElem?_eq_some_iff.1 hj).1
  simp only [Addr.add, Nat.zero_add]
  match j, hj6, hj with
  | 0, _, hj => cases hj; exact c0
  | 1, _, hj => cases hj; exact c1
  | 2, _, hj => cases hj; exact c2'
  | 3, _, hj => cases hj; exact c3
  | 4, _, hj => cases hj; exact c4
  | 5, _, hj => cases hj; exact c5
set_option maxRecDepth 100000 in
set_option maxHeartbeats 4000000 in
theorem to_s (d : Nat) (IH : ∀ d', d = d' + 1 → ToC d') : ToC d := by
  intro n p len cap w hrd hok hfew
  have HRD := Lib.hid hrd
  have HIH := Lib.hid IH
  have hlen := hfew.len
  rw [hrd.len] at hlen
  have HAL := Lib.hid hrd.len
  have HOK := Lib.hid (fun c hc => OkN.child (c := c) hok hc)
  have HFW := Lib.hid (fun c hc => FewN.child (c := c) hfew hc)
  rw [ndA_eq]
  clear hrd IH hok hfew
  obtain ⟨i0, hi, hz0, hz1, hz2⟩ := info_of info_nd
  go_enter Tryd.func16, Tryd.ntmps16
  go_wp2_with fail
  go_loopg [4] len (fun g v4 wr => ∃ (i : Nat) (acc : List Kid) (q : Option Addr) (cp : Nat), i + g = len ∧ v4 = .int .i64 i ∧ acc.map Prod.fst = n.args.take i ∧ NdB tRn wr w.heap.size n p len cap ∧ NdB tPn wr (w.heap.size + 1) nodeZ none 0 0 ∧ NdB tPn wr (w.heap.size + 2) n q i cp ∧ wr.ownsRow (w.heap.size + 3) tPn 6 (.slice q i cp) i (acc.flatMap kidC) ∧ (∀ d', d = d' + 1 → ∀ x ∈ acc, RdP wr (okK (w.heap.size + 3) wr (.slice q i cp)) d' x.1 x.2.1 x.2.2.1) ∧ Below w.heap.size w wr)
  case atStart =>
    refine ⟨0, [], none, 0, by omega, rfl, rfl, (three_heap w _ _ _).1, (three_heap w _ _ _).2.1, (three_heap w _ _ _).2.2, World.ownsRow_nil _ _ _ _, fun _ _ x hx => (by cases hx), three_below _ _ _⟩
  case round =>
    obtain ⟨i, acc, q, cp, hig, rfl, hacc, hn1, hn0, hn2, hown, hkid, hbel⟩ := hrel
    have HAC := Lib.hid hacc
    have HN1 := Lib.hid hn1
    have HN0 := Lib.hid hn0
    have HN2 := Lib.hid hn2
    have HOW := Lib.hid hown
    have HKD := Lib.hid hkid
    have HBL := Lib.hid hbel
    have hzr := hbel.size
    have hH2 : w.heap.size + 2 < wr.heap.size := lt_some hn2
    clear hacc hn1 hn0 hn2 hown hkid hbel
    obtain ⟨a0, a1, a2, a3, a4, a5⟩ := HN1.out.cells
    obtain ⟨b0, b1, b2, b3, b4, b5⟩ := HN2.out.cells
    by_cases hlt : i < len
    · have hli : (i : Int) < (len : Int) := by omega
      obtain ⟨d', b, off, c, p', l', c', hd, rfl, hbN, hc, hrc, q0, q1, q2, q3, q4, q5⟩ := (HRD.out.below HBL.out).at hlt
      have HC : Hid (ToC d') := HIH.out d' hd
      have HCO := Lib.hid (HOK.out c (mem_at hc))
      have HCF := Lib.hid (HFW.out c (mem_at hc))
      have A5 := Kept.cell (N := w.heap.size + 3) a5 (by omega)
      have B5 := Kept.cell (N := w.heap.size + 3) b5 (by omega)
      have Q0 := Kept.cell (N := w.heap.size + 3) q0 (by omega)
      have Q1 := Kept.cell (N := w.heap.size + 3) q1 (by omega)
      have Q2 := Kept.cell (N := w.heap.size + 3) q2 (by omega)
      have Q3 := Kept.cell (N := w.heap.size + 3) q3 (by omega)
      have Q4 := Kept.cell (N := w.heap.size + 3) q4 (by omega)
      have Q5 := Kept.cell (N := w.heap.size + 3) q5 (by omega)
      go_upto_region 5 with fail
      refine wp_region_schedT (fun wx => ∃ x : Kept (w.heap.size + 3) wr, wx = x.v) 11 [([0,1,2,3,4,5,6],7),([],8),([],9)] [10] (by kernel_rfl) (by kernel_rfl) (by kernel_rfl) (by kernel_rfl) (kept_drew _ _ (by omega)) ?_
      (unfold wpSegK; simp only [pick_nil, pick_cons, nthO_zero, nthO_succ, List.append])
      clear a0 a1 a2 a3 a4 a5 b0 b1 b2 b3 b4 b5 q0 q1 q2 q3 q4 q5
      repeat (go_big_quiet_step (fail))
      refine wpQuiet_nil ?_
      have HRC := Lib.hid hrc
      have HHC := Lib.hid hc
      have HHD := Lib.hid hd
      clear hrc hc hd
      have HCC := Lib.hid (HC.out c p' l' c' wr.drew ((HRC.out.below (Below.drew (Below.refl _ _))).mono hzr) HCO.out HCF.out)
      rw [ndA_eq c p' l' c'] at HCC
      go_wp2_with fail
      refine HCC.out.mono ?_
      rintro e w3 ⟨⟨p2, c2, rfl, hk3⟩, hb3⟩
      have hb4 : Hid (Below wr.heap.size wr w3) := bel_call hb3 (Below.drew (Below.refl _ _)) (Nat.le_refl _)
      have HK3 := Lib.hid hk3
      rw [ndA_eq c p2 l' c2]
      clear HCC hk3 hb3
      go_wp2_with fail
      have hB3 : Hid (Below (w.heap.size + 3) wr w3) := hb4.out.mono (by omega)
      refine ⟨rfl, ⟨⟨w3, hB3.out⟩, rfl⟩, ?_⟩
      (unfold wpSegK; simp only [pick_nil, pick_cons, nthO_zero, nthO_succ, List.append])
      refine wpQuiet_nil ?_
      go_wp2_with fail
      refine ⟨rfl, ⟨⟨_, hB3.out.alloc (by have := hb4.out.size; omega) _⟩, rfl⟩, ?_⟩
      (unfold wpSegK; simp only [pick_nil, pick_cons, nthO_zero, nthO_succ, List.append])
      refine wpQuiet_nil ?_
      have HRW := Lib.hid (row_below HOW.out hb4.out)
      refine wpList_append_own_at _ rfl _ _ _ rfl (w.heap.size + 3) tPn i0 _ 6 72 Tryd.underlying35 hi hz0 hz1 hz2 rfl (by decide) _ _ _ rfl (HRW.out.alloc _) ⟨w3.heap.size, 0, none⟩ 1 1 (ndC c p2 l' c2) rfl rfl (newNd w3 c p2 l' c2) ?c2 ?c3 ?c4 ?c5 ?_
      case c2 => exact kidC_one (c, p2, l', c2)
      case c3 => unfold maxLen; omega
      case c4 => omega
      case c5 => rw [World.size_alloc]; have := hb4.out.size; omega
      intro v' w5 hown5 hgrow5 _ hat5
      have hB5 : Hid (Below (w.heap.size + 3) wr w5) := (hB3.out.alloc (by have := hb4.out.size; omega) _).grown hgrow5 (by rw [World.size_alloc]; have := hb4.out.size; omega) (fun k hk => (HRW.out.lt k hk).1)
      have HOW5 : Hid (w5.ownsRow (w.heap.size + 3) tPn 6 v' (i + 1) ((acc ++ [(c, p2, l', c2)]).flatMap kidC)) := by
        unfold Hid
        rw [flat_snoc]
        exact hown5
      have hla : acc.length = i := by
        have h := congrArg List.length HAC.out
        rw [List.length_map, List.length_take, HAL.out] at h
        omega
      obtain ⟨q5, cp5, hv5, _, _, _, _⟩ := RdG.of_own kidC_len (by rw [List.length_append, List.length_singleton, hla]) HOW5.out
      subst hv5
      have HN5 : Hid (NdB tPn w5 (w.heap.size + 2) n q i cp) := (hB5.out.block _ (by omega)).trans HN2.out
      have HKN := Lib.hid (kids_on (u := .slice q5 (i + 1) cp5) (c2 := c2) (by omega) hb4.out hgrow5 hat5 (fun b e => (HOW.out.lt b e).2) (HKD.out d' HHD.out) HK3.out)
      clear hown5 hgrow5 hat5 HRW HK3 HKD HCF HCO HC HIH HOK HFW A5 B5 Q0 Q1 Q2 Q3 Q4 Q5
      obtain ⟨_, _, _, _, _, e5⟩ := HN5.out.cells
      have g5 := unfrozen_of_block HN5.out 5
      go_wp2_with fail
      refine ⟨rfl, ⟨⟨w5, hB5.out⟩, rfl⟩, ?_⟩
      (unfold wpSegK; simp only [pick_nil, pick_cons, nthO_zero, nthO_succ, List.append])
      repeat (go_big_quiet_step (fail))
      refine wpQuiet_nil ?_
      go_wp2_with fail
      refine ⟨rfl, ?_⟩
      have HP6 : Hid (NdB tPn (w5.setCell ⟨w.heap.size + 2, 5, none⟩ (.slice q5 (i + 1) cp5)) (w.heap.size + 2) n q5 (i + 1) cp5) := by
        have h := heap_setCell_same w5 (w.heap.size + 2) 5 _ _ (.slice q5 (i + 1) cp5) HN5.out
        unfold Hid NdB
        rw [h]
        simp [ndA]
      have HR6 : Hid (NdB tRn (w5.setCell ⟨w.heap.size + 2, 5, none⟩ (.slice q5 (i + 1) cp5)) w.heap.size n (some ⟨b, off, none⟩) len cap) := by
        unfold Hid NdB
        rw [heap_setCell_other _ _ _ _ (by show w.heap.size ≠ w.heap.size + 2; omega), hB5.out.block _ (by omega)]
        exact HN1.out
      have HZ6 : Hid (NdB tPn (w5.setCell ⟨w.heap.size + 2, 5, none⟩ (.slice q5 (i + 1) cp5)) (w.heap.size + 1) nodeZ none 0 0) := by
        unfold Hid NdB
        rw [heap_setCell_other _ _ _ _ (by show w.heap.size + 1 ≠ w.heap.size + 2; omega), hB5.out.block _ (by omega)]
        exact HN0.out
      have HW6 : Hid ((w5.setCell ⟨w.heap.size + 2, 5, none⟩ (.slice q5 (i + 1) cp5)).ownsRow (w.heap.size + 3) tPn 6 (.slice q5 (i + 1) cp5) (i + 1) ((acc ++ [(c, p2, l', c2)]).flatMap kidC)) :=
        row_carry HOW5.out (fun b hb => heap_setCell_other _ _ _ _ (by have := (HOW5.out.lt b hb).1; show b ≠ w.heap.size + 2; omega))
      have HL6 : Hid (Below w.heap.size w (w5.setCell ⟨w.heap.size + 2, 5, none⟩ (.slice q5 (i + 1) cp5))) := (HBL.out.trans (hB5.out.mono (by omega))).setCell (by show w.heap.size ≤ w.heap.size + 2; omega) _
      have HAN : Hid ((acc ++ [(c, p2, l', c2)]).map Prod.fst = n.args.take (i + 1)) := by
        unfold Hid
        rw [List.map_append, HAC.out, List.take_add_one, HHC.out]
        rfl
      have e6 : w5.setCell ⟨w.heap.size + 1 + 1, 5, none⟩ (.slice q5 (i + 1) cp5) = w5.setCell ⟨w.heap.size + 2, 5, none⟩ (.slice q5 (i + 1) cp5) := rfl
      rw [e6]
      generalize w5.setCell ⟨w.heap.size + 2, 5, none⟩ (.slice q5 (i + 1) cp5) = w6 at HP6 HR6 HZ6 HW6 HL6 HKN ⊢
      clear e6 HHC HN5 HN0 HN1 HN2 HOW HOW5 hB5 hB3 hb4 e5 g5 HBL
      go_wp2_with fail
      go_roundg (gk - 1)
      case measure => omega
      case rel =>
        refine ⟨i + 1, acc ++ [(c, p2, l', c2)], q5, cp5, by omega, by go_num, HAN.out, HR6.out, HZ6.out, HP6.out, HW6.out, fun d'' hd x hx => ?_, HL6.out⟩
        obtain rfl : d' = d'' := by have := HHD.out; omega
        exact HKN.out x hx
    · obtain rfl : i = len := by omega
      have hli : ¬ (i : Int) < (i : Int) := by omega
      obtain ⟨z0, z1, z2, z3, z4, z5⟩ := HN0.out.cells
      have f0 := unfrozen_of_block HN0.out 0
      have f1 := unfrozen_of_block HN0.out 1
      have f2 := unfrozen_of_block HN0.out 2
      have f3 := unfrozen_of_block HN0.out 3
      have f4 := unfrozen_of_block HN0.out 4
      have f5 := unfrozen_of_block HN0.out 5
      go_wp2_with fail
      obtain ⟨h1, h2, h3⟩ := six_heap (.int .i64 n.kind) (.int .i64 n.num) (.string ⟨n.text.toArray⟩) (.int .i64 n.frm) (.int .i64 n.tor) (.slice q i cp) HN0.out
      refine bodyPost_ret (results_cell_row rfl _ _ (w.heap.size + 1) tPn (ndA n q i cp) (0, 0) _ rfl h1 Tryd.underlying37 rfl (by kernel_rfl)) rfl ?_
      have hla : acc.length = i := by
        have h := congrArg List.length HAC.out
        rw [List.length_map, List.length_take, HAL.out] at h
        omega
      have hs6 := (h3 0 (Nat.zero_le _)).size
      refine ⟨⟨q, ⟨cp, rfl⟩, ?_⟩, HBL.out.trans (h3 _ (by omega))⟩
      cases d with
      | zero =>
        have h := HRD.out
        exact ⟨h.1, h.2⟩
      | succ d =>
        subst hla
        obtain ⟨q', cp', hv, hr⟩ := RdP.of_row (n := n) (d := d) (ok := fun b => w.heap.size + 3 ≤ b ∧ b < wr.heap.size) HOW.out (by rw [HAC.out, List.take_of_length_le (by rw [HAL.out]; exact Nat.le_refl _)]) (fun x hx => RdP.carry (fun b hb => ⟨⟨hb.1, hb.2.1⟩, rfl⟩) (HKD.out d rfl x hx)) (fun b hb => HOW.out.lt b hb)
        cases hv
        exact RdP.carry (fun b hb => ⟨⟨by omega, by omega⟩, h2 b (by omega)⟩) hr
theorem to_any : ∀ d, ToC d
  | 0 => to_s 0 (fun d' h => by omega)
  | d + 1 => to_s (d + 1) (fun d' h => (show d = d' from by omega) ▸ to_any d)
end Go.Proofs.YtfkfajgfkgeicaaDoor
