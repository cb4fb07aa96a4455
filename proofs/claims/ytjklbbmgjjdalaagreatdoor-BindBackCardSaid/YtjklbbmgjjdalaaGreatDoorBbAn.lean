/- Trees over stamps: which ones are the same, by the program. Printed by gen_tns.py. -/
import Derived.Test.YtjklbbmgjjdalaaGreatDoorBbM
import Derived.Test.YtjklbbmgjjdalaaGreatDoorBbK
import Derived.Test.YtjklbbmgjjdalaaGreatDoorBbC
set_option linter.unusedSimpArgs false
set_option linter.unusedVariables false
namespace Go.Proofs.YtjklbbmgjjdalaaGreatDoor.Bd
open Go.RowKit Go.Joins
theorem eq_rfp (x y : Rfp) (W : World) : (binOp .eql tRf (.agg #[.int .u64 x.1.1, .int .i64 x.1.2, .int .u64 x.2.1, .int .i64 x.2.2]) (.agg #[.int .u64 y.1.1, .int .i64 y.1.2, .int .u64 y.2.1, .int .i64 y.2.2])).run Tryz.prog W = .ok (.bool (decide (x = y))) W := by
  obtain ⟨⟨a, b⟩, c, d⟩ := x
  obtain ⟨⟨e, f⟩, g, h⟩ := y
  by_cases h1 : a = e
  · by_cases h2 : b = f
    · by_cases h3 : c = g
      · by_cases h4 : d = h
        · subst h1 h2 h3 h4
          go_simp
        · rw [decide_eq_false (show ¬ (((a, b), c, d) : Rfp) = ((e, f), g, h) from fun q => h4 (by simp only [Prod.mk.injEq] at q; exact q.2.2))]
          go_simp
      · rw [decide_eq_false (show ¬ (((a, b), c, d) : Rfp) = ((e, f), g, h) from fun q => h3 (by simp only [Prod.mk.injEq] at q; exact q.2.1))]
        go_simp
    · rw [decide_eq_false (show ¬ (((a, b), c, d) : Rfp) = ((e, f), g, h) from fun q => h2 (by simp only [Prod.mk.injEq] at q; exact q.1.2))]
      go_simp
  · rw [decide_eq_false (show ¬ (((a, b), c, d) : Rfp) = ((e, f), g, h) from fun q => h1 (by simp only [Prod.mk.injEq] at q; exact q.1.1))]
    go_simp
mutual
def bsmN : Bn → Bn → Bool
  | .mk k u t f o a, .mk k' u' t' f' o' a' => (k == k') && ((u == u') && ((t == t') && ((decide (f = f')) && ((decide (o = o')) && bsmL a a'))))
def bsmL : List Bn → List Bn → Bool
  | [], [] => true
  | x :: r, y :: s => bsmN x y && bsmL r s
  | [], _ :: _ => false
  | _ :: _, [] => false
end
theorem bsmN_eq (n m : Bn) : bsmN n m = ((n.kind == m.kind) && ((n.num == m.num) && ((n.text == m.text) && ((decide (n.frm = m.frm)) && ((decide (n.tor = m.tor)) && bsmL n.args m.args))))) := by
  cases n; cases m; rw [bsmN]; rfl
theorem bsmL_len : ∀ (a b : List Bn), a.length ≠ b.length → bsmL a b = false
  | [], [], h => absurd rfl h
  | x :: r, y :: s, h => by rw [bsmL, bsmL_len r s (fun e => h (by simp [e])), Bool.and_false]
  | [], _ :: _, _ => by rw [bsmL]
  | _ :: _, [], _ => by rw [bsmL]
theorem bsmL_at {a b : List Bn} {i : Nat} {x y : Bn} (hx : a[i]? = some x) (hy : b[i]? = some y) : bsmL (a.drop i) (b.drop i) = (bsmN x y && bsmL (a.drop (i + 1)) (b.drop (i + 1))) := by
  obtain ⟨hi, e⟩ := List.getElem?_eq_some_iff.1 hx
  obtain ⟨hj, e2⟩ := List.getElem?_eq_some_iff.1 hy
  rw [List.drop_eq_getElem_cons hi, List.drop_eq_getElem_cons hj, bsmL, e, e2]
def BSameC (d : Nat) : Prop := ∀ (d2 : Nat) (n m : Bn) (p p2 : Option Addr) (len cap len2 cap2 : Nat) (w : World), RdQ rfE 12 w okA d n p len → RdQ rfE 12 w okA d2 m p2 len2 → Sm n → Sm m → Calls Tryz.prog 24 #[.agg (bnA n p len cap), .agg (bnA m p2 len2 cap2)] w fun e w' => e = .returned (.bool (bsmN n m)) ∧ Below w.heap.size w w'
set_option maxRecDepth 100000 in
set_option maxHeartbeats 8000000 in
theorem beq_s (d : Nat) (IH : ∀ d', d = d' + 1 → BSameC d') (d2 : Nat) (n m : Bn) (p p2 : Option Addr) (len cap len2 cap2 : Nat) (w : World) (hrd : RdQ rfE 12 w okA d n p len) (hrd2 : RdQ rfE 12 w okA d2 m p2 len2) (hok : Sm n) (hok2 : Sm m) :
    Calls Tryz.prog 48 #[.slice p len cap, .slice p2 len2 cap2, .func (.func 24) #[] #[]] w fun e w' => e = .returned (.bool (bsmL n.args m.args)) ∧ Below w.heap.size w w' := by
  have HRD := Lib.hid hrd
  have HRD2 := Lib.hid hrd2
  have HIH := Lib.hid IH
  have hlen := hok.len
  rw [hrd.len] at hlen
  have HAL := Lib.hid hrd.len
  have HAL2 := Lib.hid hrd2.len
  have HOK := Lib.hid (fun c hc => Sm.child (c := c) hok hc)
  have HOK2 := Lib.hid (fun c hc => Sm.child (c := c) hok2 hc)
  obtain ⟨O, hO⟩ : ∃ O, bsmL n.args m.args = O := ⟨_, rfl⟩
  have HO := Lib.hid hO
  rw [hO]
  clear hrd hrd2 IH hok hok2 hO
  by_cases hll : len = len2
  · subst hll
    have hne : ((len : Int) != (len : Int)) = false := by simp
    go_enter Tryz.func48, Tryz.ntmps48
    go_wp2_with fail
    go_loopg [17] len (fun g v17 wr => ∃ i : Nat, i + g = len ∧ v17 = .int .i64 i ∧ O = bsmL (n.args.drop i) (m.args.drop i) ∧ Below w.heap.size w wr)
    case atStart => exact ⟨0, by omega, rfl, HO.out.symm, Below.refl _ _⟩
    case round =>
      obtain ⟨i, hig, rfl, hD, hbel⟩ := hrel
      have HD := Lib.hid hD
      have HBL := Lib.hid hbel
      have hzr := hbel.size
      clear hD hbel
      by_cases hlt : i < len
      · have hli : (i : Int) < (len : Int) := by omega
        have hi0 : (0 : Int) ≤ (i : Int) := by omega
        obtain ⟨d', b, off, c, p', l', c', hd, rfl, _, hbN, hc, hrc, hrg⟩ := (HRD.out.below HBL.out).at hlt
        obtain ⟨d2', b2, off2, x, px, lx, cx, hd2, rfl, _, hbN2, hx, hrx, hrs⟩ := (HRD2.out.below HBL.out).at hlt
        have HC : Hid (BSameC d') := HIH.out d' hd
        have HCO := Lib.hid (HOK.out c (mem_of_at hc))
        have HXO := Lib.hid (HOK2.out x (mem_of_at hx))
        have HD2 : Hid (O = (bsmN c x && bsmL (n.args.drop (i + 1)) (m.args.drop (i + 1)))) := by unfold Hid; rw [HD.out, bsmL_at hc hx]
        have HRC := Lib.hid hrc
        have HRX := Lib.hid hrx
        clear hc hrc HD hd hx hrx hd2
        have q0 : wr.cell? ⟨b, off + i * 12, none⟩ = some (.int .i64 c.kind) := hrg 0 (.int .i64 c.kind) rfl
        have q1 : wr.cell? ⟨b, off + i * 12 + 1, none⟩ = some (.int .i64 c.num) := hrg 1 (.int .i64 c.num) rfl
        have q2 : wr.cell? ⟨b, off + i * 12 + 2, none⟩ = some (.string ⟨c.text.toArray⟩) := hrg 2 (.string ⟨c.text.toArray⟩) rfl
        have q3 : wr.cell? ⟨b, off + i * 12 + 3, none⟩ = some (.int .u64 c.frm.1.1) := hrg 3 (.int .u64 c.frm.1.1) rfl
        have q4 : wr.cell? ⟨b, off + i * 12 + 4, none⟩ = some (.int .i64 c.frm.1.2) := hrg 4 (.int .i64 c.frm.1.2) rfl
        have q5 : wr.cell? ⟨b, off + i * 12 + 5, none⟩ = some (.int .u64 c.frm.2.1) := hrg 5 (.int .u64 c.frm.2.1) rfl
        have q6 : wr.cell? ⟨b, off + i * 12 + 6, none⟩ = some (.int .i64 c.frm.2.2) := hrg 6 (.int .i64 c.frm.2.2) rfl
        have q7 : wr.cell? ⟨b, off + i * 12 + 7, none⟩ = some (.int .u64 c.tor.1.1) := hrg 7 (.int .u64 c.tor.1.1) rfl
        have q8 : wr.cell? ⟨b, off + i * 12 + 8, none⟩ = some (.int .i64 c.tor.1.2) := hrg 8 (.int .i64 c.tor.1.2) rfl
        have q9 : wr.cell? ⟨b, off + i * 12 + 9, none⟩ = some (.int .u64 c.tor.2.1) := hrg 9 (.int .u64 c.tor.2.1) rfl
        have q10 : wr.cell? ⟨b, off + i * 12 + 10, none⟩ = some (.int .i64 c.tor.2.2) := hrg 10 (.int .i64 c.tor.2.2) rfl
        have q11 : wr.cell? ⟨b, off + i * 12 + 11, none⟩ = some (.slice p' l' c') := hrg 11 (.slice p' l' c') rfl
        go_upto_region 6 with fail
        have hA1 : Hid (BlkC (wr.alloc (.cells (bnA c p' l' c') tNr)) wr.heap.size (bnA c p' l' c') tNr) := heap_alloc_new wr _
        have hB1 : Hid (Below w.heap.size w (wr.alloc (.cells (bnA c p' l' c') tNr))) := HBL.out.alloc hzr _
        have hK1 : Hid (Below wr.heap.size wr (wr.alloc (.cells (bnA c p' l' c') tNr))) := by unfold Hid; (repeat' (first | (with_reducible exact Below.refl _ _) | (with_reducible assumption) | (with_reducible refine Below.alloc ?_ ?_ _) | (with_reducible refine bel_drewN ?_ _) | (with_reducible refine Below.drew ?_) | (with_reducible refine Below.setCell ?_ ?_ _) | (with_reducible refine bel_call ‹_› ?_ ?_) | go_size))
        have e1 : wr.alloc (.cells #[.int .i64 c.kind, .int .i64 c.num, .string ⟨c.text.toArray⟩, .int .u64 c.frm.1.1, .int .i64 c.frm.1.2, .int .u64 c.frm.2.1, .int .i64 c.frm.2.2, .int .u64 c.tor.1.1, .int .i64 c.tor.1.2, .int .u64 c.tor.2.1, .int .i64 c.tor.2.2, .slice p' l' c'] tNr) = wr.alloc (.cells (bnA c p' l' c') tNr) := rfl
        rw [e1]
        clear e1
        have t0 : (wr.alloc (.cells (bnA c p' l' c') tNr)).cell? ⟨b2, off2 + i * 12, none⟩ = some (.int .i64 x.kind) := (hK1.out.cell (p := ⟨b2, off2 + i * 12, none⟩) hbN2).trans (hrs 0 (.int .i64 x.kind) rfl)
        have t1 : (wr.alloc (.cells (bnA c p' l' c') tNr)).cell? ⟨b2, off2 + i * 12 + 1, none⟩ = some (.int .i64 x.num) := (hK1.out.cell (p := ⟨b2, off2 + i * 12 + 1, none⟩) hbN2).trans (hrs 1 (.int .i64 x.num) rfl)
        have t2 : (wr.alloc (.cells (bnA c p' l' c') tNr)).cell? ⟨b2, off2 + i * 12 + 2, none⟩ = some (.string ⟨x.text.toArray⟩) := (hK1.out.cell (p := ⟨b2, off2 + i * 12 + 2, none⟩) hbN2).trans (hrs 2 (.string ⟨x.text.toArray⟩) rfl)
        have t3 : (wr.alloc (.cells (bnA c p' l' c') tNr)).cell? ⟨b2, off2 + i * 12 + 3, none⟩ = some (.int .u64 x.frm.1.1) := (hK1.out.cell (p := ⟨b2, off2 + i * 12 + 3, none⟩) hbN2).trans (hrs 3 (.int .u64 x.frm.1.1) rfl)
        have t4 : (wr.alloc (.cells (bnA c p' l' c') tNr)).cell? ⟨b2, off2 + i * 12 + 4, none⟩ = some (.int .i64 x.frm.1.2) := (hK1.out.cell (p := ⟨b2, off2 + i * 12 + 4, none⟩) hbN2).trans (hrs 4 (.int .i64 x.frm.1.2) rfl)
        have t5 : (wr.alloc (.cells (bnA c p' l' c') tNr)).cell? ⟨b2, off2 + i * 12 + 5, none⟩ = some (.int .u64 x.frm.2.1) := (hK1.out.cell (p := ⟨b2, off2 + i * 12 + 5, none⟩) hbN2).trans (hrs 5 (.int .u64 x.frm.2.1) rfl)
        have t6 : (wr.alloc (.cells (bnA c p' l' c') tNr)).cell? ⟨b2, off2 + i * 12 + 6, none⟩ = some (.int .i64 x.frm.2.2) := (hK1.out.cell (p := ⟨b2, off2 + i * 12 + 6, none⟩) hbN2).trans (hrs 6 (.int .i64 x.frm.2.2) rfl)
        have t7 : (wr.alloc (.cells (bnA c p' l' c') tNr)).cell? ⟨b2, off2 + i * 12 + 7, none⟩ = some (.int .u64 x.tor.1.1) := (hK1.out.cell (p := ⟨b2, off2 + i * 12 + 7, none⟩) hbN2).trans (hrs 7 (.int .u64 x.tor.1.1) rfl)
        have t8 : (wr.alloc (.cells (bnA c p' l' c') tNr)).cell? ⟨b2, off2 + i * 12 + 8, none⟩ = some (.int .i64 x.tor.1.2) := (hK1.out.cell (p := ⟨b2, off2 + i * 12 + 8, none⟩) hbN2).trans (hrs 8 (.int .i64 x.tor.1.2) rfl)
        have t9 : (wr.alloc (.cells (bnA c p' l' c') tNr)).cell? ⟨b2, off2 + i * 12 + 9, none⟩ = some (.int .u64 x.tor.2.1) := (hK1.out.cell (p := ⟨b2, off2 + i * 12 + 9, none⟩) hbN2).trans (hrs 9 (.int .u64 x.tor.2.1) rfl)
        have t10 : (wr.alloc (.cells (bnA c p' l' c') tNr)).cell? ⟨b2, off2 + i * 12 + 10, none⟩ = some (.int .i64 x.tor.2.2) := (hK1.out.cell (p := ⟨b2, off2 + i * 12 + 10, none⟩) hbN2).trans (hrs 10 (.int .i64 x.tor.2.2) rfl)
        have t11 : (wr.alloc (.cells (bnA c p' l' c') tNr)).cell? ⟨b2, off2 + i * 12 + 11, none⟩ = some (.slice px lx cx) := (hK1.out.cell (p := ⟨b2, off2 + i * 12 + 11, none⟩) hbN2).trans (hrs 11 (.slice px lx cx) rfl)
        have HRC1 := Lib.hid (HRC.out.below hK1.out)
        have HRX1 := Lib.hid (HRX.out.below hK1.out)
        clear hrg hrs q0 q1 q2 q3 q4 q5 q6 q7 q8 q9 q10 q11 HRC HRX HBL
        generalize wr.alloc (.cells (bnA c p' l' c') tNr) = w2 at hA1 hB1 HRC1 HRX1 hK1 t0 t1 t2 t3 t4 t5 t6 t7 t8 t9 t10 t11 ⊢
        generalize wr.heap.size = g1 at hA1 hzr hK1 ⊢
        have hz2 := hB1.out.size
        go_upto_region 7 with fail
        have hA2 : Hid (BlkC (w2.alloc (.cells (bnA x px lx cx) tNr)) w2.heap.size (bnA x px lx cx) tNr) := heap_alloc_new w2 _
        have hA1b : Hid (BlkC (w2.alloc (.cells (bnA x px lx cx) tNr)) g1 (bnA c p' l' c') tNr) := hA1.out.below (by (repeat' (first | (with_reducible exact Below.refl _ _) | (with_reducible assumption) | (with_reducible refine Below.alloc ?_ ?_ _) | (with_reducible refine bel_drewN ?_ _) | (with_reducible refine Below.drew ?_) | (with_reducible refine Below.setCell ?_ ?_ _) | (with_reducible refine bel_call ‹_› ?_ ?_) | go_size)))
        have hB2 : Hid (Below w.heap.size w (w2.alloc (.cells (bnA x px lx cx) tNr))) := hB1.out.alloc hz2 _
        have e2 : w2.alloc (.cells #[.int .i64 x.kind, .int .i64 x.num, .string ⟨x.text.toArray⟩, .int .u64 x.frm.1.1, .int .i64 x.frm.1.2, .int .u64 x.frm.2.1, .int .i64 x.frm.2.2, .int .u64 x.tor.1.1, .int .i64 x.tor.1.2, .int .u64 x.tor.2.1, .int .i64 x.tor.2.2, .slice px lx cx] tNr) = w2.alloc (.cells (bnA x px lx cx) tNr) := rfl
        rw [e2]
        clear e2
        have HRC2 : Hid (RdQ rfE 12 (w2.alloc (.cells (bnA x px lx cx) tNr)) okA d' c p' l') := HRC1.out.below (by (repeat' (first | (with_reducible exact Below.refl _ _) | (with_reducible assumption) | (with_reducible refine Below.alloc ?_ ?_ _) | (with_reducible refine bel_drewN ?_ _) | (with_reducible refine Below.drew ?_) | (with_reducible refine Below.setCell ?_ ?_ _) | (with_reducible refine bel_call ‹_› ?_ ?_) | go_size)))
        have HRX2 : Hid (RdQ rfE 12 (w2.alloc (.cells (bnA x px lx cx) tNr)) okA d2' x px lx) := HRX1.out.below (by (repeat' (first | (with_reducible exact Below.refl _ _) | (with_reducible assumption) | (with_reducible refine Below.alloc ?_ ?_ _) | (with_reducible refine bel_drewN ?_ _) | (with_reducible refine Below.drew ?_) | (with_reducible refine Below.setCell ?_ ?_ _) | (with_reducible refine bel_call ‹_› ?_ ?_) | go_size)))
        clear t0 t1 t2 t3 t4 t5 t6 t7 t8 t9 t10 t11 HRC1 HRX1 hA1 hB1 hK1
        generalize w2.alloc (.cells (bnA x px lx cx) tNr) = w3 at hA2 hA1b hB2 HRC2 HRX2 ⊢
        generalize w2.heap.size = g2 at hA2 hz2 ⊢
        have c0 : w3.cell? ⟨g1, 0, none⟩ = some (.int .i64 c.kind) := hA1b.out.cell 0 (.int .i64 c.kind) rfl
        have c1 : w3.cell? ⟨g1, 1, none⟩ = some (.int .i64 c.num) := hA1b.out.cell 1 (.int .i64 c.num) rfl
        have c2 : w3.cell? ⟨g1, 2, none⟩ = some (.string ⟨c.text.toArray⟩) := hA1b.out.cell 2 (.string ⟨c.text.toArray⟩) rfl
        have c3 : w3.cell? ⟨g1, 3, none⟩ = some (.int .u64 c.frm.1.1) := hA1b.out.cell 3 (.int .u64 c.frm.1.1) rfl
        have c4 : w3.cell? ⟨g1, 4, none⟩ = some (.int .i64 c.frm.1.2) := hA1b.out.cell 4 (.int .i64 c.frm.1.2) rfl
        have c5 : w3.cell? ⟨g1, 5, none⟩ = some (.int .u64 c.frm.2.1) := hA1b.out.cell 5 (.int .u64 c.frm.2.1) rfl
        have c6 : w3.cell? ⟨g1, 6, none⟩ = some (.int .i64 c.frm.2.2) := hA1b.out.cell 6 (.int .i64 c.frm.2.2) rfl
        have c7 : w3.cell? ⟨g1, 7, none⟩ = some (.int .u64 c.tor.1.1) := hA1b.out.cell 7 (.int .u64 c.tor.1.1) rfl
        have c8 : w3.cell? ⟨g1, 8, none⟩ = some (.int .i64 c.tor.1.2) := hA1b.out.cell 8 (.int .i64 c.tor.1.2) rfl
        have c9 : w3.cell? ⟨g1, 9, none⟩ = some (.int .u64 c.tor.2.1) := hA1b.out.cell 9 (.int .u64 c.tor.2.1) rfl
        have c10 : w3.cell? ⟨g1, 10, none⟩ = some (.int .i64 c.tor.2.2) := hA1b.out.cell 10 (.int .i64 c.tor.2.2) rfl
        have c11 : w3.cell? ⟨g1, 11, none⟩ = some (.slice p' l' c') := hA1b.out.cell 11 (.slice p' l' c') rfl
        have y0 : w3.cell? ⟨g2, 0, none⟩ = some (.int .i64 x.kind) := hA2.out.cell 0 (.int .i64 x.kind) rfl
        have y1 : w3.cell? ⟨g2, 1, none⟩ = some (.int .i64 x.num) := hA2.out.cell 1 (.int .i64 x.num) rfl
        have y2 : w3.cell? ⟨g2, 2, none⟩ = some (.string ⟨x.text.toArray⟩) := hA2.out.cell 2 (.string ⟨x.text.toArray⟩) rfl
        have y3 : w3.cell? ⟨g2, 3, none⟩ = some (.int .u64 x.frm.1.1) := hA2.out.cell 3 (.int .u64 x.frm.1.1) rfl
        have y4 : w3.cell? ⟨g2, 4, none⟩ = some (.int .i64 x.frm.1.2) := hA2.out.cell 4 (.int .i64 x.frm.1.2) rfl
        have y5 : w3.cell? ⟨g2, 5, none⟩ = some (.int .u64 x.frm.2.1) := hA2.out.cell 5 (.int .u64 x.frm.2.1) rfl
        have y6 : w3.cell? ⟨g2, 6, none⟩ = some (.int .i64 x.frm.2.2) := hA2.out.cell 6 (.int .i64 x.frm.2.2) rfl
        have y7 : w3.cell? ⟨g2, 7, none⟩ = some (.int .u64 x.tor.1.1) := hA2.out.cell 7 (.int .u64 x.tor.1.1) rfl
        have y8 : w3.cell? ⟨g2, 8, none⟩ = some (.int .i64 x.tor.1.2) := hA2.out.cell 8 (.int .i64 x.tor.1.2) rfl
        have y9 : w3.cell? ⟨g2, 9, none⟩ = some (.int .u64 x.tor.2.1) := hA2.out.cell 9 (.int .u64 x.tor.2.1) rfl
        have y10 : w3.cell? ⟨g2, 10, none⟩ = some (.int .i64 x.tor.2.2) := hA2.out.cell 10 (.int .i64 x.tor.2.2) rfl
        have y11 : w3.cell? ⟨g2, 11, none⟩ = some (.slice px lx cx) := hA2.out.cell 11 (.slice px lx cx) rfl
        have HCC := Lib.hid (HC.out d2' c x p' px l' c' lx cx w3 HRC2.out HRX2.out HCO.out HXO.out)
        rw [bnA_eq, bnA_eq] at HCC
        generalize bsmN c x = rc at HCC HD2
        clear HC
        go_wp2_with fail
        go_at_call 24
        refine HCC.out.mono ?_
        rintro e w4 ⟨rfl, hb4⟩
        have hB4 : Hid (Below w.heap.size w w4) := bel_call hb4 hB2.out hB2.out.size
        clear hb4 hB2 c0 c1 c2 c3 c4 c5 c6 c7 c8 c9 c10 c11 y0 y1 y2 y3 y4 y5 y6 y7 y8 y9 y10 y11 hA2 hA1b HRC2 HRX2 HCC
        cases rc
        · have HDE : Hid (O = false) := by unfold Hid; rw [HD2.out]; rfl
          go_wp2_with fail
          go_ret
          exact ⟨by rw [HDE.out]; rfl, hB4.out⟩
        · have HDE : Hid (O = bsmL (n.args.drop (i + 1)) (m.args.drop (i + 1))) := by unfold Hid; rw [HD2.out]; rfl
          go_wp2_with fail
          go_roundg (gk - 1)
          case measure => omega
          case rel => exact ⟨i + 1, by omega, by go_num, HDE.out, hB4.out⟩
      · obtain rfl : i = len := by omega
        have hli : ¬ (i : Int) < (i : Int) := by omega
        have HDE : Hid (O = true) := by
          unfold Hid
          rw [HD.out, List.drop_eq_nil_of_le (by rw [HAL.out]; exact Nat.le_refl _), List.drop_eq_nil_of_le (by rw [HAL2.out]; exact Nat.le_refl _), bsmL]
        go_wp2_with fail
        go_ret
        exact ⟨by rw [HDE.out]; rfl, HBL.out⟩
  · have hne : ((len : Int) != (len2 : Int)) = true := by simp; omega
    have HDE : Hid (O = false) := by unfold Hid; rw [← HO.out]; exact bsmL_len _ _ (by rw [HAL.out, HAL2.out]; exact hll)
    go_enter Tryz.func48, Tryz.ntmps48
    go_wp2_with fail
    go_ret
    exact ⟨by rw [HDE.out]; rfl, Below.refl _ _⟩
set_option maxRecDepth 100000 in
set_option maxHeartbeats 8000000 in
theorem bsame_s (d : Nat) (IH : ∀ d', d = d' + 1 → BSameC d') : BSameC d := by
  intro d2 n m p p2 len cap len2 cap2 w hrd hrd2 hok hok2
  have hh0 : Hid (BlkC ((w.alloc (.cells (bnA n p len cap) tNr)).alloc (.cells (bnA m p2 len2 cap2) tNr)) w.heap.size (bnA n p len cap) tNr) := (two_heap w _ _).1
  have hh1 : Hid (BlkC ((w.alloc (.cells (bnA n p len cap) tNr)).alloc (.cells (bnA m p2 len2 cap2) tNr)) (w.heap.size + 1) (bnA m p2 len2 cap2) tNr) := (two_heap w _ _).2
  have hAB : Hid (Below w.heap.size w ((w.alloc (.cells (bnA n p len cap) tNr)).alloc (.cells (bnA m p2 len2 cap2) tNr))) := by unfold Hid; (repeat' (first | (with_reducible exact Below.refl _ _) | (with_reducible assumption) | (with_reducible refine Below.alloc ?_ ?_ _) | (with_reducible refine bel_drewN ?_ _) | (with_reducible refine Below.drew ?_) | (with_reducible refine Below.setCell ?_ ?_ _) | (with_reducible refine bel_call ‹_› ?_ ?_) | go_size))
  have HEQ := Lib.hid (fun W (hW : Below w.heap.size w W) => beq_s d IH d2 n m p p2 len cap len2 cap2 W (hrd.below hW) (hrd2.below hW) hok hok2)
  obtain ⟨O, hO⟩ : ∃ O, bsmN n m = O := ⟨_, rfl⟩
  have HO : Hid (O = ((n.kind == m.kind) && ((n.num == m.num) && ((n.text == m.text) && ((decide (n.frm = m.frm)) && ((decide (n.tor = m.tor)) && bsmL n.args m.args)))))) := by unfold Hid; rw [← hO, bsmN_eq]
  rw [hO]
  clear hO hrd hrd2 hok hok2 IH
  generalize bsmL n.args m.args = rs at HEQ HO
  rw [bnA_eq, bnA_eq]
  go_enter Tryz.func24, Tryz.ntmps24
  go_upto_region 1 with fail
  have e0 : (w.alloc (.cells #[.int .i64 n.kind, .int .i64 n.num, .string ⟨n.text.toArray⟩, .int .u64 n.frm.1.1, .int .i64 n.frm.1.2, .int .u64 n.frm.2.1, .int .i64 n.frm.2.2, .int .u64 n.tor.1.1, .int .i64 n.tor.1.2, .int .u64 n.tor.2.1, .int .i64 n.tor.2.2, .slice p len cap] tNr)).alloc (.cells #[.int .i64 m.kind, .int .i64 m.num, .string ⟨m.text.toArray⟩, .int .u64 m.frm.1.1, .int .i64 m.frm.1.2, .int .u64 m.frm.2.1, .int .i64 m.frm.2.2, .int .u64 m.tor.1.1, .int .i64 m.tor.1.2, .int .u64 m.tor.2.1, .int .i64 m.tor.2.2, .slice p2 len2 cap2] tNr) = (w.alloc (.cells (bnA n p len cap) tNr)).alloc (.cells (bnA m p2 len2 cap2) tNr) := rfl
  rw [e0]
  clear e0
  generalize (w.alloc (.cells (bnA n p len cap) tNr)).alloc (.cells (bnA m p2 len2 cap2) tNr) = w0 at hh0 hh1 hAB ⊢
  have c0 : w0.cell? ⟨w.heap.size, 0, none⟩ = some (.int .i64 n.kind) := hh0.out.cell 0 (.int .i64 n.kind) rfl
  have c1 : w0.cell? ⟨w.heap.size, 1, none⟩ = some (.int .i64 n.num) := hh0.out.cell 1 (.int .i64 n.num) rfl
  have c2 : w0.cell? ⟨w.heap.size, 2, none⟩ = some (.string ⟨n.text.toArray⟩) := hh0.out.cell 2 (.string ⟨n.text.toArray⟩) rfl
  have c3 : w0.cell? ⟨w.heap.size, 3, none⟩ = some (.int .u64 n.frm.1.1) := hh0.out.cell 3 (.int .u64 n.frm.1.1) rfl
  have c4 : w0.cell? ⟨w.heap.size, 4, none⟩ = some (.int .i64 n.frm.1.2) := hh0.out.cell 4 (.int .i64 n.frm.1.2) rfl
  have c5 : w0.cell? ⟨w.heap.size, 5, none⟩ = some (.int .u64 n.frm.2.1) := hh0.out.cell 5 (.int .u64 n.frm.2.1) rfl
  have c6 : w0.cell? ⟨w.heap.size, 6, none⟩ = some (.int .i64 n.frm.2.2) := hh0.out.cell 6 (.int .i64 n.frm.2.2) rfl
  have c7 : w0.cell? ⟨w.heap.size, 7, none⟩ = some (.int .u64 n.tor.1.1) := hh0.out.cell 7 (.int .u64 n.tor.1.1) rfl
  have c8 : w0.cell? ⟨w.heap.size, 8, none⟩ = some (.int .i64 n.tor.1.2) := hh0.out.cell 8 (.int .i64 n.tor.1.2) rfl
  have c9 : w0.cell? ⟨w.heap.size, 9, none⟩ = some (.int .u64 n.tor.2.1) := hh0.out.cell 9 (.int .u64 n.tor.2.1) rfl
  have c10 : w0.cell? ⟨w.heap.size, 10, none⟩ = some (.int .i64 n.tor.2.2) := hh0.out.cell 10 (.int .i64 n.tor.2.2) rfl
  have c11 : w0.cell? ⟨w.heap.size, 11, none⟩ = some (.slice p len cap) := hh0.out.cell 11 (.slice p len cap) rfl
  have y0 : w0.cell? ⟨w.heap.size + 1, 0, none⟩ = some (.int .i64 m.kind) := hh1.out.cell 0 (.int .i64 m.kind) rfl
  have y1 : w0.cell? ⟨w.heap.size + 1, 1, none⟩ = some (.int .i64 m.num) := hh1.out.cell 1 (.int .i64 m.num) rfl
  have y2 : w0.cell? ⟨w.heap.size + 1, 2, none⟩ = some (.string ⟨m.text.toArray⟩) := hh1.out.cell 2 (.string ⟨m.text.toArray⟩) rfl
  have y3 : w0.cell? ⟨w.heap.size + 1, 3, none⟩ = some (.int .u64 m.frm.1.1) := hh1.out.cell 3 (.int .u64 m.frm.1.1) rfl
  have y4 : w0.cell? ⟨w.heap.size + 1, 4, none⟩ = some (.int .i64 m.frm.1.2) := hh1.out.cell 4 (.int .i64 m.frm.1.2) rfl
  have y5 : w0.cell? ⟨w.heap.size + 1, 5, none⟩ = some (.int .u64 m.frm.2.1) := hh1.out.cell 5 (.int .u64 m.frm.2.1) rfl
  have y6 : w0.cell? ⟨w.heap.size + 1, 6, none⟩ = some (.int .i64 m.frm.2.2) := hh1.out.cell 6 (.int .i64 m.frm.2.2) rfl
  have y7 : w0.cell? ⟨w.heap.size + 1, 7, none⟩ = some (.int .u64 m.tor.1.1) := hh1.out.cell 7 (.int .u64 m.tor.1.1) rfl
  have y8 : w0.cell? ⟨w.heap.size + 1, 8, none⟩ = some (.int .i64 m.tor.1.2) := hh1.out.cell 8 (.int .i64 m.tor.1.2) rfl
  have y9 : w0.cell? ⟨w.heap.size + 1, 9, none⟩ = some (.int .u64 m.tor.2.1) := hh1.out.cell 9 (.int .u64 m.tor.2.1) rfl
  have y10 : w0.cell? ⟨w.heap.size + 1, 10, none⟩ = some (.int .i64 m.tor.2.2) := hh1.out.cell 10 (.int .i64 m.tor.2.2) rfl
  have y11 : w0.cell? ⟨w.heap.size + 1, 11, none⟩ = some (.slice p2 len2 cap2) := hh1.out.cell 11 (.slice p2 len2 cap2) rfl
  have r0 := cell_regrown c0
  have r1 := cell_regrown c1
  have r2 := cell_regrown c2
  have r3 := cell_regrown c3
  have r4 := cell_regrown c4
  have r5 := cell_regrown c5
  have r6 := cell_regrown c6
  have r7 := cell_regrown c7
  have r8 := cell_regrown c8
  have r9 := cell_regrown c9
  have r10 := cell_regrown c10
  have r11 := cell_regrown c11
  have s0 := cell_regrown y0
  have s1 := cell_regrown y1
  have s2 := cell_regrown y2
  have s3 := cell_regrown y3
  have s4 := cell_regrown y4
  have s5 := cell_regrown y5
  have s6 := cell_regrown y6
  have s7 := cell_regrown y7
  have s8 := cell_regrown y8
  have s9 := cell_regrown y9
  have s10 := cell_regrown y10
  have s11 := cell_regrown y11
  have cE : ∀ dd os, Calls Tryz.prog 48 #[.slice p len cap, .slice p2 len2 cap2, .func (.func 24) #[] #[]] (Go.Sort.grow (redrawn w0 dd) os) fun e w'' => e = .returned (.bool rs) ∧ ∃ p : Regrown, w'' = Go.Sort.grow (redrawn w0 p.d) p.os := fun dd os => Calls.regrown_of (HEQ.out _ (bel_call (below_regrown w0 dd os) hAB.out hAB.out.size))
  clear c0 c1 c2 c3 c4 c5 c6 c7 c8 c9 c10 c11 y0 y1 y2 y3 y4 y5 y6 y7 y8 y9 y10 y11 hh0 hh1 HEQ
  have rf1 := eq_rfp n.frm m.frm
  have rf2 := eq_rfp n.tor m.tor
  by_cases h0 : n.kind = m.kind
  · have b0 : (n.kind == m.kind) = true := by simpa using h0
    have B0 := Lib.hid b0
    by_cases h1 : n.num = m.num
    · have b1 : (n.num == m.num) = true := by simpa using h1
      have B1 := Lib.hid b1
      by_cases h2 : n.text = m.text
      · have b2 : (n.text == m.text) = true := by simpa using h2
        have B2 := Lib.hid b2
        by_cases h3 : n.frm = m.frm
        · have b3 : decide (n.frm = m.frm) = true := decide_eq_true h3
          have B3 := Lib.hid b3
          by_cases h4 : n.tor = m.tor
          · have b4 : decide (n.tor = m.tor) = true := decide_eq_true h4
            have B4 := Lib.hid b4
            have HON : Hid (O = rs) := by unfold Hid; rw [HO.out, B0.out, B1.out, B2.out, B3.out, B4.out]; rfl
            clear h0 h1 h2 h3 h4 HO
            refine wp_region_plain_below ?_
            repeat (go_big_quiet_step ((first | with_reducible exact cE _ _)))
            refine wpQuiet_nil ?_
            intro _ hw'
            obtain ⟨⟨dz, osz⟩, hw''⟩ := hw'
            subst hw''
            have hBz : Below w.heap.size w (Go.Sort.grow (redrawn w0 dz) osz) := bel_call (below_regrown w0 dz osz) hAB.out hAB.out.size
            clear r0 r1 r2 r3 r4 r5 r6 r7 r8 r9 r10 r11 s0 s1 s2 s3 s4 s5 s6 s7 s8 s9 s10 s11 cE
            go_wp2_with fail
            go_ret
            exact ⟨by rw [HON.out]; rfl, hBz⟩
          · have b4 : decide (n.tor = m.tor) = false := decide_eq_false h4
            have HON : Hid (O = false) := by unfold Hid; rw [HO.out, B0.out, B1.out, B2.out, B3.out, b4]; rfl
            clear h0 h1 h2 h3 h4 HO
            refine wp_region_plain_below ?_
            repeat (go_big_quiet_step ((first | with_reducible exact cE _ _)))
            refine wpQuiet_nil ?_
            intro _ hw'
            obtain ⟨⟨dz, osz⟩, hw''⟩ := hw'
            subst hw''
            have hBz : Below w.heap.size w (Go.Sort.grow (redrawn w0 dz) osz) := bel_call (below_regrown w0 dz osz) hAB.out hAB.out.size
            clear r0 r1 r2 r3 r4 r5 r6 r7 r8 r9 r10 r11 s0 s1 s2 s3 s4 s5 s6 s7 s8 s9 s10 s11 cE
            go_wp2_with fail
            go_ret
            exact ⟨by rw [HON.out]; rfl, hBz⟩
        · have b3 : decide (n.frm = m.frm) = false := decide_eq_false h3
          have HON : Hid (O = false) := by unfold Hid; rw [HO.out, B0.out, B1.out, B2.out, b3]; rfl
          clear h0 h1 h2 h3 HO
          refine wp_region_plain_below ?_
          repeat (go_big_quiet_step ((first | with_reducible exact cE _ _)))
          refine wpQuiet_nil ?_
          intro _ hw'
          obtain ⟨⟨dz, osz⟩, hw''⟩ := hw'
          subst hw''
          have hBz : Below w.heap.size w (Go.Sort.grow (redrawn w0 dz) osz) := bel_call (below_regrown w0 dz osz) hAB.out hAB.out.size
          clear r0 r1 r2 r3 r4 r5 r6 r7 r8 r9 r10 r11 s0 s1 s2 s3 s4 s5 s6 s7 s8 s9 s10 s11 cE
          go_wp2_with fail
          go_ret
          exact ⟨by rw [HON.out]; rfl, hBz⟩
      · have b2 : (n.text == m.text) = false := by simpa using h2
        have HON : Hid (O = false) := by unfold Hid; rw [HO.out, B0.out, B1.out, b2]; rfl
        clear h0 h1 h2 HO
        refine wp_region_plain_below ?_
        repeat (go_big_quiet_step ((first | with_reducible exact cE _ _)))
        refine wpQuiet_nil ?_
        intro _ hw'
        obtain ⟨⟨dz, osz⟩, hw''⟩ := hw'
        subst hw''
        have hBz : Below w.heap.size w (Go.Sort.grow (redrawn w0 dz) osz) := bel_call (below_regrown w0 dz osz) hAB.out hAB.out.size
        clear r0 r1 r2 r3 r4 r5 r6 r7 r8 r9 r10 r11 s0 s1 s2 s3 s4 s5 s6 s7 s8 s9 s10 s11 cE
        go_wp2_with fail
        go_ret
        exact ⟨by rw [HON.out]; rfl, hBz⟩
    · have b1 : (n.num == m.num) = false := by simpa using h1
      have HON : Hid (O = false) := by unfold Hid; rw [HO.out, B0.out, b1]; rfl
      clear h0 h1 HO
      refine wp_region_plain_below ?_
      repeat (go_big_quiet_step ((first | with_reducible exact cE _ _)))
      refine wpQuiet_nil ?_
      intro _ hw'
      obtain ⟨⟨dz, osz⟩, hw''⟩ := hw'
      subst hw''
      have hBz : Below w.heap.size w (Go.Sort.grow (redrawn w0 dz) osz) := bel_call (below_regrown w0 dz osz) hAB.out hAB.out.size
      clear r0 r1 r2 r3 r4 r5 r6 r7 r8 r9 r10 r11 s0 s1 s2 s3 s4 s5 s6 s7 s8 s9 s10 s11 cE
      go_wp2_with fail
      go_ret
      exact ⟨by rw [HON.out]; rfl, hBz⟩
  · have b0 : (n.kind == m.kind) = false := by simpa using h0
    have HON : Hid (O = false) := by unfold Hid; rw [HO.out, b0]; rfl
    clear h0 HO
    refine wp_region_plain_below ?_
    repeat (go_big_quiet_step ((first | with_reducible exact cE _ _)))
    refine wpQuiet_nil ?_
    intro _ hw'
    obtain ⟨⟨dz, osz⟩, hw''⟩ := hw'
    subst hw''
    have hBz : Below w.heap.size w (Go.Sort.grow (redrawn w0 dz) osz) := bel_call (below_regrown w0 dz osz) hAB.out hAB.out.size
    clear r0 r1 r2 r3 r4 r5 r6 r7 r8 r9 r10 r11 s0 s1 s2 s3 s4 s5 s6 s7 s8 s9 s10 s11 cE
    go_wp2_with fail
    go_ret
    exact ⟨by rw [HON.out]; rfl, hBz⟩
theorem bsame_any : ∀ d, BSameC d
  | 0 => bsame_s 0 (fun d' h => by omega)
  | d + 1 => bsame_s (d + 1) (fun d' h => (show d = d' from by omega) ▸ bsame_any d)
end Go.Proofs.YtjklbbmgjjdalaaGreatDoor.Bd
