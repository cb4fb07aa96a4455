/- Trees: Print at sums of numbers; the law's example. -/
import Derived.Test.YtfkfajgfkgeicaaDoorTreG
import Derived.Test.YtfkfajgfkgeicaaDoorQuickH
set_option linter.unusedSimpArgs false
set_option linter.unusedVariables false
namespace Go.Proofs.YtfkfajgfkgeicaaDoor
open Go.RowKit Go.Joins

set_option maxRecDepth 100000 in
set_option maxHeartbeats 4000000 in
theorem print_ex (x : Ex) (d : Nat) (p : Option Addr) (len cap : Nat) (w : World) (hrd : RdT w w.heap.size d x.nd p len) (hok : x.ok) (hlen : (wrE x 1).length ≤ 1000000) :
    Calls Tryd.prog 15 #[.agg (ndA x.nd p len cap), .func (.func 26) #[] #[]] w fun e w' => e = .returned (.string ⟨(wrE x 1).toArray⟩) ∧ Below w.heap.size w w' := by
  have hA0 : Hid (NdB tPn (w.alloc (.cells (ndA x.nd p len cap) tPn)) w.heap.size x.nd p len cap) := heap_alloc_new w _
  have hAB : Hid (Below w.heap.size w (w.alloc (.cells (ndA x.nd p len cap) tPn))) := by unfold Hid; (repeat' (first | (with_reducible exact Below.refl _ _) | (with_reducible assumption) | (with_reducible refine Below.alloc ?_ ?_ _) | (with_reducible refine bel_drewN ?_ _) | (with_reducible refine Below.drew ?_) | (with_reducible refine Below.setCell ?_ ?_ _) | (with_reducible refine bel_call ‹_› ?_ ?_) | go_size))
  have HW := Lib.hid (fun b W hW hib hB => write_ex x d p len cap 1 w.heap.size b [] W (hrd.below hW) hok (by omega) (by omega) hib hB (by simpa using hlen))
  generalize hX : wrE x 1 = X at HW ⊢
  clear hX hlen hok hrd
  rw [ndA_eq] at HW ⊢
  go_enter Tryd.func15, Tryd.ntmps15
  go_upto_region 1 with fail
  have e0 : w.alloc (.cells #[.int .i64 x.nd.kind, .int .i64 x.nd.num, .string ⟨x.nd.text.toArray⟩, .int .i64 x.nd.frm, .int .i64 x.nd.tor, .slice p len cap] tPn) = w.alloc (.cells (ndA x.nd p len cap) tPn) := rfl
  rw [e0]
  clear e0
  generalize w.alloc (.cells (ndA x.nd p len cap) tPn) = w0 at hA0 hAB ⊢
  go_upto_region 2 with fail
  have hib : Hid (Lib.IsBuilder tBd 5 w.heap.size w0.heap.size (Lib.byteCells []) (w0.alloc (.cells #[.pointer none, .slice none 0 0] tBd))) := bd_fresh w.heap.size w0 hAB.out.size
  have hB1 : Hid (Below w.heap.size w (w0.alloc (.cells #[.pointer none, .slice none 0 0] tBd))) := hAB.out.alloc hAB.out.size _
  have hA1 : Hid (NdB tPn (w0.alloc (.cells #[.pointer none, .slice none 0 0] tBd)) w.heap.size x.nd p len cap) := hA0.out.below (by (repeat' (first | (with_reducible exact Below.refl _ _) | (with_reducible assumption) | (with_reducible refine Below.alloc ?_ ?_ _) | (with_reducible refine bel_drewN ?_ _) | (with_reducible refine Below.drew ?_) | (with_reducible refine Below.setCell ?_ ?_ _) | (with_reducible refine bel_call ‹_› ?_ ?_) | go_size)))
  generalize w0.alloc (.cells #[.pointer none, .slice none 0 0] tBd) = w1 at hib hB1 hA1 ⊢
  generalize w0.heap.size = b at hib ⊢
  obtain ⟨c0, c1, c2, c3, c4, c5⟩ := hA1.out.cells
  go_wp2_with fail
  refine (HW.out b w1 hB1.out hib.out hB1.out.size).mono ?_
  rintro e w2 ⟨rfl, hi2, hb2, _⟩
  have hB2 : Hid (Below w.heap.size w w2) := hB1.out.trans hb2
  have HI2 := Lib.hid hi2
  clear hi2 hb2 hB1 hib hA1 c0 c1 c2 c3 c4 c5 HW hA0 hAB
  go_wp2_with fail
  refine (bd_string w.heap.size b _ w2 HI2.out hB2.out.size).mono ?_
  rintro e w3 ⟨rfl, hb3⟩
  go_wp2_with fail
  go_ret
  exact ⟨rfl, hB2.out.trans hb3⟩

theorem rd_two {w : World} {N b d : Nat} {k u f o : Int} {t : Bs} {x y : Nd} {p1 p2 : Option Addr} {l1 c1 l2 c2 : Nat}
    (hb : w.heap[b]? = some (.cells ⟨ndC x p1 l1 c1 ++ ndC y p2 l2 c2⟩ tPn (0, 0))) (hN : b < N) (h1 : RdT w N d x p1 l1) (h2 : RdT w N d y p2 l2) : RdT w N (d + 1) (.mk k u t f o [x, y]) (some ⟨b, 0, none⟩) 2 := by
  refine ⟨rfl, .inr ⟨b, 0, rfl, hN, fun j c hc => ?_⟩⟩
  match j, hc with
  | 0, hc =>
    cases hc
    refine ⟨p1, l1, c1, fun k u hu => ?_, h1⟩
    rw [cell_of_block hb]
    have hk : k < 6 := by
      have := (List.getElem?_eq_some_iff.1 hu).1
      simpa [ndC] using this
    rw [show 0 + 0 * 6 + k = k from by omega]
    simp only [List.getElem?_toArray]
    rw [List.getElem?_append_left (by simpa [ndC] using hk)]
    exact hu
  | 1, hc =>
    cases hc
    refine ⟨p2, l2, c2, fun k u hu => ?_, h2⟩
    rw [cell_of_block hb]
    simp only [List.getElem?_toArray]
    rw [List.getElem?_append_right (by simp [ndC] <;> omega), show 0 + 1 * 6 + k - (ndC x p1 l1 c1).length = k from by simp [ndC]]
    exact hu
  | j + 2, hc => cases hc

set_option maxRecDepth 100000 in
set_option maxHeartbeats 1000000 in
theorem num_any (m : Nat) (hm : m ≤ 100) (w : World) : Calls Tryd.prog 25 #[.int .i64 (m : Int)] w fun e w' => e = .returned (.agg #[.int .i64 1, .int .i64 ((m * 1000000 : Nat) : Int), .string ⟨#[]⟩, .int .i64 0, .int .i64 0, .slice none 0 0]) ∧ Below w.heap.size w w' := by
  have f1 : IntKind.i64.wrap ((m : Int) * 1000000) = ((m * 1000000 : Nat) : Int) := by rw [IntWalk.i64_in _ (by omega)]; omega
  obtain ⟨v, hv⟩ : ∃ v : Int, ((m * 1000000 : Nat) : Int) = v := ⟨_, rfl⟩
  rw [hv] at f1 ⊢
  clear hv
  go_enter Tryd.func25, Tryd.ntmps25
  go_wp2_with fail
  refine bodyPost_ret (v := .agg #[.int .i64 1, .int .i64 v, .string ⟨#[]⟩, .int .i64 0, .int .i64 0, .slice none 0 0]) (by simp only [results, Tryd.results25]; first | (go_simp; done) | (go_simp; rfl)) rfl ⟨rfl, by (repeat' (first | (with_reducible exact Below.refl _ _) | (with_reducible assumption) | (with_reducible refine Below.alloc ?_ ?_ _) | (with_reducible refine bel_drewN ?_ _) | (with_reducible refine Below.drew ?_) | (with_reducible refine Below.setCell ?_ ?_ _) | (with_reducible refine bel_call ‹_› ?_ ?_) | go_size))⟩

def xb : Ex := .bin [45] (.num 2000000) (.num 3000000)
def xa : Ex := .bin [45] (.num 1000000) xb
theorem xa_text : wrE xa 1 = [49, 45, 40, 50, 45, 51, 41] := by decide
theorem xa_depth : dpN xa.nd = 3 := by decide
theorem xa_right : rtN xa.nd 64 = true := by decide
theorem xa_ok : xa.ok := by
  refine ⟨by decide, ⟨by decide, by decide⟩, by decide, ⟨by decide, by decide⟩, by decide, by decide⟩
theorem num_okN {u : Int} (h : 0 ≤ u ∧ u ≤ 9223372036854775807) : OkN (Ex.num u).nd := .mk _ _ _ _ _ _ (by simp) (by simp) (by omega) (by omega) (by omega) (fun c hc => by cases hc)
theorem bin_okN {t : Bs} {x y : Ex} (ht : t.length ≤ 100) (hx : OkN x.nd) (hy : OkN y.nd) : OkN (Ex.bin t x y).nd := .mk _ _ _ _ _ _ (by omega) (by simp) (by omega) (by omega) (by omega) (fun c hc => by
  rcases List.mem_cons.1 hc with rfl | hc
  · exact hx
  · rcases List.mem_cons.1 hc with rfl | hc
    · exact hy
    · cases hc)
theorem xa_okN : OkN xa.nd := bin_okN (by decide) (num_okN (by omega)) (bin_okN (by decide) (num_okN (by omega)) (num_okN (by omega)))
theorem rd_num (w : World) (N d : Nat) (u : Int) (p : Option Addr) : RdT w N d (Ex.num u).nd p 0 := by
  cases d with
  | zero => exact ⟨rfl, rfl⟩
  | succ d => exact ⟨rfl, .inl rfl⟩

abbrev row23 : Array Value := ⟨ndC (Ex.num 2000000).nd none 0 0 ++ ndC (Ex.num 3000000).nd none 0 0⟩
theorem xa_of {w wx : World} {g b3 g3 : Nat} (hrow : wx.heap[g3]? = some (.cells ⟨ndC (Ex.num 1000000).nd none 0 0 ++ ndC xb.nd (some ⟨g, 0, none⟩) 2 2⟩ tPn (0, 0))) (hnode : NdB tPn wx b3 xa.nd (some ⟨g3, 0, none⟩) 2 2) (hr : wx.heap[g]? = some (.cells row23 tPn (0, 0))) (hB : Below w.heap.size w wx) :
    ∃ b3' g3' : Nat, Value.pointer (some ⟨b3, 0, none⟩) = .pointer (some ⟨b3', 0, none⟩) ∧ NdB tPn wx b3' xa.nd (some ⟨g3', 0, none⟩) 2 2 ∧ RdT wx wx.heap.size 2 xa.nd (some ⟨g3', 0, none⟩) 2 ∧ Below w.heap.size w wx :=
  ⟨b3, g3, rfl, hnode, rd_two hrow (lt_some hrow) (rd_num _ _ _ _ _) (rd_two hr (lt_some hr) (rd_num _ _ _ _ _) (rd_num _ _ _ _ _)), hB⟩
theorem nd_store {w : World} {b : Nat} {n : Nd} {p : Option Addr} {l c : Nat} (h : NdB tPn w b n p l c) (y : Nd) (p' : Option Addr) (l' c' : Nat) : NdB tPn ((((((w.setCell ⟨b, 0, none⟩ (.int .i64 y.kind)).setCell ⟨b, 1, none⟩ (.int .i64 y.num)).setCell ⟨b, 2, none⟩ (.string ⟨y.text.toArray⟩)).setCell ⟨b, 3, none⟩ (.int .i64 y.frm)).setCell ⟨b, 4, none⟩ (.int .i64 y.tor)).setCell ⟨b, 5, none⟩ (.slice p' l' c')) b y p' l' c' := by
  have h1 := block_setCell h (.int .i64 y.kind) (i := 0)
  simp only [ndA, List.setIfInBounds_toArray, List.set_cons_zero] at h1
  have h2 := block_setCell h1 (.int .i64 y.num) (i := 1)
  simp only [List.setIfInBounds_toArray, List.set_cons_zero, List.set_cons_succ] at h2
  have h3 := block_setCell h2 (.string ⟨y.text.toArray⟩) (i := 2)
  simp only [List.setIfInBounds_toArray, List.set_cons_zero, List.set_cons_succ] at h3
  have h4 := block_setCell h3 (.int .i64 y.frm) (i := 3)
  simp only [List.setIfInBounds_toArray, List.set_cons_zero, List.set_cons_succ] at h4
  have h5 := block_setCell h4 (.int .i64 y.tor) (i := 4)
  simp only [List.setIfInBounds_toArray, List.set_cons_zero, List.set_cons_succ] at h5
  have h6 := block_setCell h5 (.slice p' l' c') (i := 5)
  simp only [List.setIfInBounds_toArray, List.set_cons_zero, List.set_cons_succ] at h6
  exact h6
theorem blk_other {w : World} {k b j : Nat} {o : Obj} {v : Value} (h : w.heap[k]? = some o) (hne : k ≠ b) : (w.setCell ⟨b, j, none⟩ v).heap[k]? = some o := (Below.heap_setCell w _ v k (by show k ≠ b; exact hne)).trans h
/-- The three orders of the region that makes the example. -/
theorem ord_a {w w3 w4 : World} {g : Nat} (hr : w3.heap[g]? = some (.cells row23 tPn (0, 0))) (hB : Below w.heap.size w w3) (hb4 : Below w3.drew.heap.size w3.drew w4) :
    ∃ b3' g3' : Nat, Value.pointer (some ⟨w4.heap.size + 1, 0, none⟩) = .pointer (some ⟨b3', 0, none⟩) ∧ NdB tPn ((w4.alloc (.cells ⟨ndC (Ex.num 1000000).nd none 0 0 ++ ndC xb.nd (some ⟨g, 0, none⟩) 2 2⟩ tPn)).alloc (.cells (ndA xa.nd (some ⟨w4.heap.size, 0, none⟩) 2 2) tPn)) b3' xa.nd (some ⟨g3', 0, none⟩) 2 2 ∧ RdT ((w4.alloc (.cells ⟨ndC (Ex.num 1000000).nd none 0 0 ++ ndC xb.nd (some ⟨g, 0, none⟩) 2 2⟩ tPn)).alloc (.cells (ndA xa.nd (some ⟨w4.heap.size, 0, none⟩) 2 2) tPn)) ((w4.alloc (.cells ⟨ndC (Ex.num 1000000).nd none 0 0 ++ ndC xb.nd (some ⟨g, 0, none⟩) 2 2⟩ tPn)).alloc (.cells (ndA xa.nd (some ⟨w4.heap.size, 0, none⟩) 2 2) tPn)).heap.size 2 xa.nd (some ⟨g3', 0, none⟩) 2 ∧ Below w.heap.size w ((w4.alloc (.cells ⟨ndC (Ex.num 1000000).nd none 0 0 ++ ndC xb.nd (some ⟨g, 0, none⟩) 2 2⟩ tPn)).alloc (.cells (ndA xa.nd (some ⟨w4.heap.size, 0, none⟩) 2 2) tPn)) := by
  have h4 : Below w3.heap.size w3 w4 := bel_call hb4 (Below.drew (Below.refl _ _)) (Nat.le_refl _)
  have hw4 : Below w.heap.size w w4 := bel_call h4 hB hB.size
  have hz := hw4.size
  have hg := (h4.block g (lt_some hr)).trans hr
  refine xa_of ((Lib.alloc_old _ _ _ (by simp)).trans (heap_alloc_new w4 _)) ?_ ((Lib.alloc_old _ _ _ (by have := lt_some hg; simp; omega)).trans ((Lib.alloc_old _ _ _ (lt_some hg)).trans hg)) ((hw4.alloc hz _).alloc (by simp; omega) _)
  have := heap_alloc_new (w4.alloc (.cells ⟨ndC (Ex.num 1000000).nd none 0 0 ++ ndC xb.nd (some ⟨g, 0, none⟩) 2 2⟩ tPn)) (.cells (ndA xa.nd (some ⟨w4.heap.size, 0, none⟩) 2 2) tPn)
  rw [World.size_alloc] at this
  exact this
theorem ord_b {w w3 w4 : World} {g : Nat} (hr : w3.heap[g]? = some (.cells row23 tPn (0, 0))) (hB : Below w.heap.size w w3) (hb4 : Below w3.drew.heap.size w3.drew w4) :
    ∃ b3' g3' : Nat, Value.pointer (some ⟨w4.heap.size, 0, none⟩) = .pointer (some ⟨b3', 0, none⟩) ∧ NdB tPn ((w4.alloc (.cells (ndA xa.nd (some ⟨w4.heap.size + 1, 0, none⟩) 2 2) tPn)).alloc (.cells ⟨ndC (Ex.num 1000000).nd none 0 0 ++ ndC xb.nd (some ⟨g, 0, none⟩) 2 2⟩ tPn)) b3' xa.nd (some ⟨g3', 0, none⟩) 2 2 ∧ RdT ((w4.alloc (.cells (ndA xa.nd (some ⟨w4.heap.size + 1, 0, none⟩) 2 2) tPn)).alloc (.cells ⟨ndC (Ex.num 1000000).nd none 0 0 ++ ndC xb.nd (some ⟨g, 0, none⟩) 2 2⟩ tPn)) ((w4.alloc (.cells (ndA xa.nd (some ⟨w4.heap.size + 1, 0, none⟩) 2 2) tPn)).alloc (.cells ⟨ndC (Ex.num 1000000).nd none 0 0 ++ ndC xb.nd (some ⟨g, 0, none⟩) 2 2⟩ tPn)).heap.size 2 xa.nd (some ⟨g3', 0, none⟩) 2 ∧ Below w.heap.size w ((w4.alloc (.cells (ndA xa.nd (some ⟨w4.heap.size + 1, 0, none⟩) 2 2) tPn)).alloc (.cells ⟨ndC (Ex.num 1000000).nd none 0 0 ++ ndC xb.nd (some ⟨g, 0, none⟩) 2 2⟩ tPn)) := by
  have h4 : Below w3.heap.size w3 w4 := bel_call hb4 (Below.drew (Below.refl _ _)) (Nat.le_refl _)
  have hw4 : Below w.heap.size w w4 := bel_call h4 hB hB.size
  have hz := hw4.size
  have hg := (h4.block g (lt_some hr)).trans hr
  refine xa_of (b3 := w4.heap.size) (g3 := w4.heap.size + 1) ?_ ((Lib.alloc_old _ _ _ (by simp)).trans (heap_alloc_new w4 _)) ((Lib.alloc_old _ _ _ (by have := lt_some hg; simp; omega)).trans ((Lib.alloc_old _ _ _ (lt_some hg)).trans hg)) ((hw4.alloc hz _).alloc (by simp; omega) _)
  have := heap_alloc_new (w4.alloc (.cells (ndA xa.nd (some ⟨w4.heap.size + 1, 0, none⟩) 2 2) tPn)) (.cells ⟨ndC (Ex.num 1000000).nd none 0 0 ++ ndC xb.nd (some ⟨g, 0, none⟩) 2 2⟩ tPn)
  rw [World.size_alloc] at this
  exact this
def nd0 : Nd := .mk 0 0 [] 0 0 []
theorem ord_c {w w3 w4 : World} {g z : Nat} (hz3 : w3.heap.size = z) (hgz : g < z) (hr : w3.heap[g]? = some (.cells row23 tPn (0, 0))) (hB : Below w.heap.size w w3) (hb4 : Below (w3.drew.alloc (.cells (ndA nd0 none 0 0) tPn)).heap.size (w3.drew.alloc (.cells (ndA nd0 none 0 0) tPn)) w4) {wz : World}
    (hwz : wz = (((((((w4.alloc (.cells ⟨ndC (Ex.num 1000000).nd none 0 0 ++ ndC xb.nd (some ⟨g, 0, none⟩) 2 2⟩ tPn)).setCell ⟨z, 0, none⟩ (.int .i64 xa.nd.kind)).setCell ⟨z, 1, none⟩ (.int .i64 xa.nd.num)).setCell ⟨z, 2, none⟩ (.string ⟨xa.nd.text.toArray⟩)).setCell ⟨z, 3, none⟩ (.int .i64 xa.nd.frm)).setCell ⟨z, 4, none⟩ (.int .i64 xa.nd.tor)).setCell ⟨z, 5, none⟩ (.slice (some ⟨w4.heap.size, 0, none⟩) 2 2))) :
    ∃ b3' g3' : Nat, Value.pointer (some ⟨z, 0, none⟩) = .pointer (some ⟨b3', 0, none⟩) ∧ NdB tPn wz b3' xa.nd (some ⟨g3', 0, none⟩) 2 2 ∧ RdT wz wz.heap.size 2 xa.nd (some ⟨g3', 0, none⟩) 2 ∧ Below w.heap.size w wz := by
  have h0 : Below w3.heap.size w3 (w3.drew.alloc (.cells (ndA nd0 none 0 0) tPn)) := (Below.drew (Below.refl _ _)).alloc (Nat.le_refl _) _
  have h4 : Below w3.heap.size w3 w4 := bel_call hb4 h0 h0.size
  have hw4 : Below w.heap.size w w4 := bel_call h4 hB hB.size
  have hz := hw4.size
  have hg := (h4.block g (lt_some hr)).trans hr
  have hn0 : NdB tPn (w3.drew.alloc (.cells (ndA nd0 none 0 0) tPn)) z nd0 none 0 0 := by
    have := heap_alloc_new w3.drew (.cells (ndA nd0 none 0 0) tPn)
    rw [show w3.drew.heap.size = z from hz3] at this
    exact this
  have hn4 := hn0.below hb4
  have hzl : z < w4.heap.size := lt_some hn4
  have hn5 : NdB tPn (w4.alloc (.cells ⟨ndC (Ex.num 1000000).nd none 0 0 ++ ndC xb.nd (some ⟨g, 0, none⟩) 2 2⟩ tPn)) z nd0 none 0 0 := (Lib.alloc_old _ _ _ hzl).trans hn4
  have hrow := heap_alloc_new w4 (.cells ⟨ndC (Ex.num 1000000).nd none 0 0 ++ ndC xb.nd (some ⟨g, 0, none⟩) 2 2⟩ tPn)
  have hg5 := (Lib.alloc_old w4 (.cells ⟨ndC (Ex.num 1000000).nd none 0 0 ++ ndC xb.nd (some ⟨g, 0, none⟩) 2 2⟩ tPn) _ (lt_some hg)).trans hg
  have hB5 := hw4.alloc hz (.cells ⟨ndC (Ex.num 1000000).nd none 0 0 ++ ndC xb.nd (some ⟨g, 0, none⟩) 2 2⟩ tPn)
  have hwz3 : w.heap.size ≤ z := by rw [← hz3]; exact hB.size
  subst hwz
  refine xa_of (g := g) (b3 := z) (g3 := w4.heap.size) ?_ (nd_store hn5 xa.nd _ _ _) ?_ ?_
  · exact blk_other (blk_other (blk_other (blk_other (blk_other (blk_other hrow (by omega)) (by omega)) (by omega)) (by omega)) (by omega)) (by omega)
  · exact blk_other (blk_other (blk_other (blk_other (blk_other (blk_other hg5 (by omega)) (by omega)) (by omega)) (by omega)) (by omega)) (by omega)
  · exact (((((hB5.setCell (p := ⟨z, 0, none⟩) hwz3 _).setCell (p := ⟨z, 1, none⟩) hwz3 _).setCell (p := ⟨z, 2, none⟩) hwz3 _).setCell (p := ⟨z, 3, none⟩) hwz3 _).setCell (p := ⟨z, 4, none⟩) hwz3 _).setCell (p := ⟨z, 5, none⟩) hwz3 _

set_option maxRecDepth 100000 in
set_option maxHeartbeats 8000000 in
theorem awake_any (w : World) : Calls Tryd.prog 8 #[] w fun e w' => e = .returned (.bool true) ∧ Below w.heap.size w w' := by
  have HN1 : Hid (∀ W, Calls Tryd.prog 25 #[.int .i64 1] W fun e w' => e = .returned (.agg #[.int .i64 1, .int .i64 1000000, .string ⟨#[]⟩, .int .i64 0, .int .i64 0, .slice none 0 0]) ∧ Below W.heap.size W w') := fun W => num_any 1 (by omega) W
  have HN2 : Hid (∀ W, Calls Tryd.prog 25 #[.int .i64 2] W fun e w' => e = .returned (.agg #[.int .i64 1, .int .i64 2000000, .string ⟨#[]⟩, .int .i64 0, .int .i64 0, .slice none 0 0]) ∧ Below W.heap.size W w') := fun W => num_any 2 (by omega) W
  have HN3 : Hid (∀ W, Calls Tryd.prog 25 #[.int .i64 3] W fun e w' => e = .returned (.agg #[.int .i64 1, .int .i64 3000000, .string ⟨#[]⟩, .int .i64 0, .int .i64 0, .slice none 0 0]) ∧ Below W.heap.size W w') := fun W => num_any 3 (by omega) W
  go_enter Tryd.func8, Tryd.ntmps8
  go_wp2_with fail
  go_at_call 25
  refine (HN2.out _).mono ?_
  rintro e w1 ⟨rfl, hb1⟩
  go_wp2_with fail
  go_at_call 25
  refine (HN3.out _).mono ?_
  rintro e w2 ⟨rfl, hb2⟩
  have hz1 := hb1.size
  have hz2 := hb2.size
  have HB2 : Hid (Below w.heap.size w w2) := bel_call hb2 hb1 hb1.size
  clear hb1 hb2
  go_upto_region 3 with fail
  have hR3 : Hid (((w2.alloc (.cells ⟨ndC (Ex.num 2000000).nd none 0 0 ++ ndC (Ex.num 3000000).nd none 0 0⟩ tPn)).alloc (.cells (ndA xb.nd (some ⟨w2.heap.size, 0, none⟩) 2 2) tPn)).heap[w2.heap.size]? = some (.cells ⟨ndC (Ex.num 2000000).nd none 0 0 ++ ndC (Ex.num 3000000).nd none 0 0⟩ tPn (0, 0))) := by
    unfold Hid
    rw [Lib.alloc_old _ _ _ (by simp)]
    exact heap_alloc_new w2 _
  have hN3 : Hid (NdB tPn ((w2.alloc (.cells ⟨ndC (Ex.num 2000000).nd none 0 0 ++ ndC (Ex.num 3000000).nd none 0 0⟩ tPn)).alloc (.cells (ndA xb.nd (some ⟨w2.heap.size, 0, none⟩) 2 2) tPn)) (w2.heap.size + 1) xb.nd (some ⟨w2.heap.size, 0, none⟩) 2 2) := by
    unfold Hid NdB
    have := heap_alloc_new (w2.alloc (.cells ⟨ndC (Ex.num 2000000).nd none 0 0 ++ ndC (Ex.num 3000000).nd none 0 0⟩ tPn)) (.cells (ndA xb.nd (some ⟨w2.heap.size, 0, none⟩) 2 2) tPn)
    rw [World.size_alloc] at this
    exact this
  have hB3 : Hid (Below w.heap.size w ((w2.alloc (.cells ⟨ndC (Ex.num 2000000).nd none 0 0 ++ ndC (Ex.num 3000000).nd none 0 0⟩ tPn)).alloc (.cells (ndA xb.nd (some ⟨w2.heap.size, 0, none⟩) 2 2) tPn))) := by have := HB2.out; unfold Hid; (repeat' (first | (with_reducible exact Below.refl _ _) | (with_reducible assumption) | (with_reducible refine Below.alloc ?_ ?_ _) | (with_reducible refine bel_drewN ?_ _) | (with_reducible refine Below.drew ?_) | (with_reducible refine Below.setCell ?_ ?_ _) | (with_reducible refine bel_call ‹_› ?_ ?_) | go_size))
  have e0 : (w2.alloc (.cells #[.int .i64 1, .int .i64 2000000, .string ⟨#[]⟩, .int .i64 0, .int .i64 0, .slice none 0 0, .int .i64 1, .int .i64 3000000, .string ⟨#[]⟩, .int .i64 0, .int .i64 0, .slice none 0 0] tPn)).alloc (.cells #[.int .i64 6, .int .i64 0, .string ⟨#[45]⟩, .int .i64 0, .int .i64 0, .slice (some ⟨w2.heap.size, 0, none⟩) 2 2] tPn) = (w2.alloc (.cells ⟨ndC (Ex.num 2000000).nd none 0 0 ++ ndC (Ex.num 3000000).nd none 0 0⟩ tPn)).alloc (.cells (ndA xb.nd (some ⟨w2.heap.size, 0, none⟩) 2 2) tPn) := rfl
  rw [e0]
  clear e0 HB2
  have hz3 : ((w2.alloc (.cells ⟨ndC (Ex.num 2000000).nd none 0 0 ++ ndC (Ex.num 3000000).nd none 0 0⟩ tPn)).alloc (.cells (ndA xb.nd (some ⟨w2.heap.size, 0, none⟩) 2 2) tPn)).heap.size = w2.heap.size + 2 := by simp
  generalize (w2.alloc (.cells ⟨ndC (Ex.num 2000000).nd none 0 0 ++ ndC (Ex.num 3000000).nd none 0 0⟩ tPn)).alloc (.cells (ndA xb.nd (some ⟨w2.heap.size, 0, none⟩) 2 2) tPn) = w3 at hR3 hN3 hB3 hz3 ⊢
  generalize w2.heap.size = g at hR3 hN3 hz2 hz3 ⊢
  clear hz1 hz2
  obtain ⟨c0, c1, c2, c3, c4, c5⟩ := hN3.out.cells
  have c0 : w3.cell? ⟨g + 1, 0, none⟩ = some (.int .i64 6) := c0
  have c1 : w3.cell? ⟨g + 1, 1, none⟩ = some (.int .i64 0) := c1
  have c2 : w3.cell? ⟨g + 1, 2, none⟩ = some (.string ⟨#[45]⟩) := c2
  have c3 : w3.cell? ⟨g + 1, 3, none⟩ = some (.int .i64 0) := c3
  have c4 : w3.cell? ⟨g + 1, 4, none⟩ = some (.int .i64 0) := c4
  go_cut [3] (fun v wx => ∃ b3 g3 : Nat, v = .pointer (some ⟨b3, 0, none⟩) ∧ NdB tPn wx b3 xa.nd (some ⟨g3, 0, none⟩) 2 2 ∧ RdT wx wx.heap.size 2 xa.nd (some ⟨g3, 0, none⟩) 2 ∧ Below w.heap.size w wx)
  case first =>
    go_region_with (go_at_call 25; refine (HN1.out _).mono ?_; rintro e w4 ⟨rfl, hb4⟩; obtain ⟨hc4, hf4, hz4⟩ := bcell hb4 (by first | (simp only [World.size_alloc, World.size_setCell, World.size_drew]; rfl) | rfl))
    all_goals go_wp2_with fail
    all_goals go_meet
    all_goals first | exact ord_a hR3.out hB3.out hb4 | exact ord_b hR3.out hB3.out hb4 | exact ord_c (z := g + 2) (by first | exact hz3 | omega) (by omega) hR3.out hB3.out hb4 rfl
  case rest =>
    obtain ⟨b3, g3, rfl, hN, hR, hB⟩ := hcut
    clear c0 c1 c2 c3 c4 c5 hN3 hR3 hB3 hz3 HN1 HN2 HN3
    obtain ⟨c0, c1, c2, c3, c4, c5⟩ := hN.cells
    have HP := Lib.hid (fun W (hW : Below wc.heap.size wc W) => print_ex xa 2 (some ⟨g3, 0, none⟩) 2 2 W ((hR.below hW).mono hW.size) xa_ok (by rw [xa_text]; decide))
    have HD := Lib.hid (fun W (hW : Below wc.heap.size wc W) => depth_any 2 xa.nd (some ⟨g3, 0, none⟩) 2 2 W ((hR.below hW).mono hW.size) xa_okN (by rw [xa_depth]; omega))
    have HR := Lib.hid (fun W (hW : Below wc.heap.size wc W) => Right_any 2 xa.nd (some ⟨g3, 0, none⟩) 2 2 W ((hR.below hW).mono hW.size) xa_okN)
    rw [xa_text, ndA_eq] at HP
    rw [xa_depth, ndA_eq] at HD
    rw [xa_right, ndA_eq] at HR
    have HB := Lib.hid hB
    clear hN hR hB
    have r0 := cell_regrown c0
    have r1 := cell_regrown c1
    have r2 := cell_regrown c2
    have r3 := cell_regrown c3
    have r4 := cell_regrown c4
    have r5 := cell_regrown c5
    clear c0 c1 c2 c3 c4 c5
    have cP : ∀ dd os, Calls Tryd.prog 15 #[.agg #[.int .i64 xa.nd.kind, .int .i64 xa.nd.num, .string ⟨xa.nd.text.toArray⟩, .int .i64 xa.nd.frm, .int .i64 xa.nd.tor, .slice (some ⟨g3, 0, none⟩) 2 2], .func (.func 26) #[] #[]] (Go.Sort.grow (redrawn wc dd) os) fun e w'' => e = .returned (.string ⟨#[49, 45, 40, 50, 45, 51, 41]⟩) ∧ ∃ p : Regrown, w'' = Go.Sort.grow (redrawn wc p.d) p.os := fun dd os => Calls.regrown_of (HP.out _ (below_regrown wc dd os))
    have cD : ∀ dd os, Calls Tryd.prog 21 #[.agg #[.int .i64 xa.nd.kind, .int .i64 xa.nd.num, .string ⟨xa.nd.text.toArray⟩, .int .i64 xa.nd.frm, .int .i64 xa.nd.tor, .slice (some ⟨g3, 0, none⟩) 2 2]] (Go.Sort.grow (redrawn wc dd) os) fun e w'' => e = .returned (.int .i64 3) ∧ ∃ p : Regrown, w'' = Go.Sort.grow (redrawn wc p.d) p.os := fun dd os => Calls.regrown_of (HD.out _ (below_regrown wc dd os))
    have cR : ∀ dd os, Calls Tryd.prog 20 #[.agg #[.int .i64 xa.nd.kind, .int .i64 xa.nd.num, .string ⟨xa.nd.text.toArray⟩, .int .i64 xa.nd.frm, .int .i64 xa.nd.tor, .slice (some ⟨g3, 0, none⟩) 2 2]] (Go.Sort.grow (redrawn wc dd) os) fun e w'' => e = .returned (.bool true) ∧ ∃ p : Regrown, w'' = Go.Sort.grow (redrawn wc p.d) p.os := fun dd os => Calls.regrown_of (HR.out _ (below_regrown wc dd os))
    clear HP HD HR
    go_upto_region 4 with fail
    refine wp_region_plain_below ?_
    repeat (go_big_quiet_step ((first | with_reducible exact cP _ _ | with_reducible exact cD _ _ | with_reducible exact cR _ _)))
    refine wpQuiet_nil ?_
    intro _ hw'
    obtain ⟨⟨dz, osz⟩, hw''⟩ := hw'
    subst hw''
    have hBz : Below w.heap.size w (Go.Sort.grow (redrawn wc dz) osz) := bel_call (below_regrown wc dz osz) HB.out HB.out.size
    clear r0 r1 r2 r3 r4 r5 cP cD cR
    go_wp2_with fail
    go_ret
    exact ⟨rfl, hBz⟩
end Go.Proofs.YtfkfajgfkgeicaaDoor
