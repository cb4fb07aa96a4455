/- CSV: rows are written, the program's way and the document's; are rows alike? -/
import Derived.Test.YthgeajmggbakbaaDoorCsvR
set_option linter.unusedSimpArgs false
set_option linter.unusedVariables false
namespace Go.Proofs.YthgeajmggbakbaaDoor
open Go.RowKit Go.Joins

abbrev rw0 : Rw := ⟨none, 0, 0, []⟩
/-- The text of the first rows. -/
def wrT (Ls : List Rw) (i : Nat) : Bs := wrL ((Ls.take i).map Rw.R)
def szL (Ls : List Rw) : Nat := (Ls.map fun r => szR r.R).sum
theorem wrT_succ (Ls : List Rw) (i : Nat) (h : i < Ls.length) : wrT Ls (i + 1) = wrT Ls i ++ (rowL (Ls.getD i rw0).R ++ [13, 10]) := by
  unfold wrT wrL
  rw [List.take_succ_eq_append_getElem h, List.map_append, List.flatMap_append, getD_get h]
  simp
theorem szL_at (Ls : List Rw) (i : Nat) : szR (Ls.getD i rw0).R ≤ szL Ls := by
  induction Ls generalizing i with
  | nil => simp [szR]
  | cons r Ls ih =>
    unfold szL at ih ⊢
    rw [List.map_cons, List.sum_cons]
    cases i with
    | zero => simp
    | succ i =>
      have := ih i
      rw [List.getD_cons_succ]
      omega
theorem wr_up (rows : List (List Bs)) (h : ∀ R ∈ rows, R.length ≤ 20) : (wrL rows).length ≤ 2 * (rows.map szR).sum + 64 * rows.length := by
  induction rows with
  | nil => simp [wrL]
  | cons R rows ih =>
    have e : wrL (R :: rows) = rowL R ++ [13, 10] ++ wrL rows := by simp [wrL]
    have h1 := rowL_up R
    have h2 := h R (by simp)
    have h3 := ih (fun R hR => h R (by simp [hR]))
    rw [e, List.length_append, List.length_append, List.map_cons, List.sum_cons, List.length_cons]
    simp only [List.length_cons, List.length_nil]
    omega
theorem wrT_len (Ls : List Rw) (h20 : Ls.length ≤ 20) (hR : ∀ r ∈ Ls, r.R.length ≤ 20) (hz : szL Ls ≤ 1048576) (i : Nat) : (wrT Ls i).length ≤ 2100000 := by
  have h1 := wr_up ((Ls.take i).map Rw.R) (fun R hR' => by
    obtain ⟨r, hr, rfl⟩ := List.mem_map.1 hR'
    exact hR r (List.mem_of_mem_take hr))
  have h2 : (((Ls.take i).map Rw.R).map szR).sum ≤ szL Ls := by
    rw [List.map_map]
    unfold szL
    have : ∀ (L : List Rw) (i : Nat), ((L.take i).map (szR ∘ Rw.R)).sum ≤ (L.map fun r => szR r.R).sum := by
      intro L
      induction L with
      | nil => intro i; simp
      | cons r L ih =>
        intro i
        cases i with
        | zero => simp
        | succ i =>
          have := ih i
          simp only [List.take_succ_cons, List.map_cons, List.sum_cons, Function.comp] at this ⊢
          omega
    exact this Ls i
  have h3 : ((Ls.take i).map Rw.R).length ≤ 20 := by
    rw [List.length_map, List.length_take]
    omega
  unfold wrT
  omega

set_option maxRecDepth 100000 in
set_option maxHeartbeats 4000000 in
theorem write_any (p : Option Addr) (n cap : Nat) (Ls : List Rw) (w : World) (hsh : w.ShapedOpen Tryd.prog) (hr : RdRs w p n Ls) (hn : n ≤ 20) (hrows : ∀ r ∈ Ls, r.n ≤ 20) (hsz : szL Ls ≤ 1048576) :
    Calls Tryd.prog 15 #[.slice p n cap] w fun e w' => e = .returned (.string ⟨(wrT Ls n).toArray⟩) ∧ Below w.heap.size w w' := by
  have hlen : Ls.length = n := hr.1.1
  have HLEN := Lib.hid hlen
  have hl20 : ∀ r ∈ Ls, r.R.length ≤ 20 := fun r h => by rw [((hr.2 r h).1).1]; exact hrows r h
  have HUP := Lib.hid (wrT_len Ls (by omega) hl20 hsz)
  have HROW : Hid (∀ i W, i < n → Below w.heap.size w W → Calls Tryd.prog 10 #[.slice (Ls.getD i rw0).p (Ls.getD i rw0).n (Ls.getD i rw0).cap] W fun e w' => e = .returned (.string ⟨(rowL (Ls.getD i rw0).R).toArray⟩) ∧ Below W.heap.size W w') := fun i W hi hW => by
    obtain ⟨b, off, _, _, _, h1, h2, h3⟩ := row_at hr hi
    have h4 := szL_at Ls i
    have h5 : (Ls.getD i rw0).n ≤ 20 := by
      rw [getD_get (by omega)]
      exact hrows _ (List.getElem_mem _)
    exact row_any _ _ _ _ W (shaped_below hsh hW) (h1.below hW) h2 (by omega) (by omega)
  have HAT := Lib.hid (fun i (hi : i < n) W (hW : Below w.heap.size w W) => row_at (hr.below hW) hi)
  have HSU := Lib.hid (wrT_succ Ls)
  have HB : Hid (Lib.IsBuilder tBd 5 w.heap.size w.heap.size (Lib.byteCells []) (w.alloc (.cells #[.pointer none, .slice none 0 0] tBd))) := bd_fresh w.heap.size w (Nat.le_refl _)
  have hb0 : Below w.heap.size w (w.alloc (.cells #[.pointer none, .slice none 0 0] tBd)) := by (repeat' (first | (with_reducible exact Below.refl _ _) | (with_reducible assumption) | (with_reducible refine Below.alloc ?_ ?_ _) | (with_reducible refine bel_drewN ?_ _) | (with_reducible refine Below.drew ?_) | (with_reducible refine Below.setCell ?_ ?_ _) | (with_reducible refine bel_call ‹_› ?_ ?_) | go_size))
  have HB0 := Lib.hid hb0
  clear hr hsh hl20 hrows hsz hb0 hlen
  go_enter Tryd.func15, Tryd.ntmps15
  go_upto_region 2 with fail
  generalize (w.alloc (.cells #[.pointer none, .slice none 0 0] tBd)) = w0 at HB HB0 ⊢
  go_wp2_with fail
  go_loopg [8] n (fun g v8 wr => ∃ i : Nat, i + g = n ∧ v8 = .int .i64 i ∧ Lib.IsBuilder tBd 5 w.heap.size w.heap.size (Lib.byteCells (wrT Ls i)) wr ∧ Below w.heap.size w wr)
  case atStart => exact ⟨0, by omega, rfl, HB.out, HB0.out⟩
  case round =>
    obtain ⟨i, hig, rfl, hbd, hbel⟩ := hrel
    have HBD := Lib.hid hbd
    have HBL := Lib.hid hbel
    have hzr := hbel.size
    clear hbd hbel HB HB0
    by_cases hlt : i < n
    · have hli : (i : Int) < (n : Int) := by omega
      obtain ⟨b, off, rfl, hb, hc, _, _, _⟩ := HAT.out i hlt wr HBL.out
      have HRW := Lib.hid (HROW.out i wr hlt HBL.out)
      have hsu := HSU.out i (by rw [HLEN.out]; exact hlt)
      have hu1 := HUP.out i
      have hu2 := HUP.out (i + 1)
      generalize Ls.getD i rw0 = r at hc HRW hsu
      obtain ⟨rp, rn, rc, R⟩ := r
      simp only at hc HRW hsu
      have hrl : (rowL R).length ≤ 2100000 := by
        have := congrArg List.length hsu
        rw [List.length_append, List.length_append] at this
        omega
      have hcat : (⟨(rowL R).toArray⟩ : ByteArray) ++ ⟨#[13, 10]⟩ = ⟨(rowL R ++ [13, 10]).toArray⟩ := cat_l (rowL R) [13, 10]
      have hop : ∀ W, (Op.stringOp .add ⟨(rowL R).toArray⟩ ⟨#[13, 10]⟩).run Tryd.prog W = .ok (.string ⟨(rowL R ++ [13, 10]).toArray⟩) W := fun W => by
        rw [← hcat]
        exact run_string_add_sum W _ _ (by rw [size_l]; have hz : (⟨#[13, 10]⟩ : ByteArray).size = 2 := rfl; omega)
      have HSU2 := Lib.hid hsu
      clear hsu hcat
      go_wp2_with fail
      refine HRW.out.mono ?_
      rintro e w1 ⟨rfl, hb1⟩
      have hB1 := builder_below HBD.out hb1
      have hbw : Below w.heap.size w w1 := bel_call hb1 HBL.out hzr
      have hz1 := hb1.size
      clear hb1 HRW HBD HBL hc
      have HW := Lib.hid (write_at w.heap.size w.heap.size (wrT Ls i) ⟨(rowL R ++ [13, 10]).toArray⟩ w1 hB1 (by rw [size_l, List.length_append]; simp only [List.length_cons, List.length_nil]; omega) (by omega))
      clear hB1
      go_wp2_with fail
      refine HW.out.mono ?_
      rintro e w2 ⟨rfl, hB2, hb2⟩
      have HB2 : Hid (Lib.IsBuilder tBd 5 w.heap.size w.heap.size (Lib.byteCells (wrT Ls (i + 1))) w2) := by
        unfold Hid
        rw [HSU2.out]
        exact hB2
      have HBW : Hid (Below w.heap.size w w2) := hbw.trans hb2
      clear hB2 hb2 hbw HW
      go_wp2_with fail
      go_roundg (gk - 1)
      case measure => omega
      case rel => exact ⟨i + 1, by omega, by go_num, HB2.out, HBW.out⟩
    · obtain rfl : i = n := by omega
      have hli : ¬ (i : Int) < (i : Int) := by omega
      go_wp2_with fail
      refine (bd_string w.heap.size w.heap.size (wrT Ls i) wr HBD.out hzr).mono ?_
      rintro e w2 ⟨rfl, hb2⟩
      go_wp2_with fail
      go_ret
      exact ⟨rfl, HBL.out.trans hb2⟩

set_option maxRecDepth 100000 in
set_option maxHeartbeats 4000000 in
theorem rwrite_any (p : Option Addr) (n cap : Nat) (Ls : List Rw) (w : World) (hr : RdRs w p n Ls) (hn : n ≤ 20) (hrows : ∀ r ∈ Ls, r.n ≤ 20) (hsz : szL Ls ≤ 1048576) :
    Calls Tryd.prog 16 #[.slice p n cap] w fun e w' => e = .returned (.string ⟨(wrT Ls n).toArray⟩) ∧ w = w' := by
  have hlen : Ls.length = n := hr.1.1
  have HLEN := Lib.hid hlen
  have hl20 : ∀ r ∈ Ls, r.R.length ≤ 20 := fun r h => by rw [((hr.2 r h).1).1]; exact hrows r h
  have HUP := Lib.hid (wrT_len Ls (by omega) hl20 hsz)
  have HROW : Hid (∀ i, i < n → Calls Tryd.prog 11 #[.slice (Ls.getD i rw0).p (Ls.getD i rw0).n (Ls.getD i rw0).cap] w fun e w' => e = .returned (.string ⟨(rowL (Ls.getD i rw0).R).toArray⟩) ∧ w = w') := fun i hi => by
    obtain ⟨b, off, _, _, _, h1, h2, h3⟩ := row_at hr hi
    have h4 := szL_at Ls i
    have h5 : (Ls.getD i rw0).n ≤ 20 := by
      rw [getD_get (by omega)]
      exact hrows _ (List.getElem_mem _)
    exact rrow_any _ _ _ _ w h1 h2 (by omega) (by omega)
  have HAT := Lib.hid (fun i (hi : i < n) => row_at hr hi)
  have HSU := Lib.hid (wrT_succ Ls)
  clear hr hl20 hrows hsz hlen
  go_enter Tryd.func16, Tryd.ntmps16
  go_wp2_with fail
  go_loopg [3, 4] n (fun g v3 v4 wr => ∃ i : Nat, i + g = n ∧ v4 = .int .i64 i ∧ v3 = .string ⟨(wrT Ls i).toArray⟩ ∧ wr = w)
  case atStart => exact ⟨0, by omega, rfl, rfl, rfl⟩
  case round =>
    obtain ⟨i, hig, rfl, rfl, rfl⟩ := hrel
    by_cases hlt : i < n
    · have hli : (i : Int) < (n : Int) := by omega
      obtain ⟨b, off, rfl, hb, hc, _, _, _⟩ := HAT.out i hlt
      have HRW := Lib.hid (HROW.out i hlt)
      have hsu := HSU.out i (by rw [HLEN.out]; exact hlt)
      have hu1 := HUP.out i
      have hu2 := HUP.out (i + 1)
      generalize Ls.getD i rw0 = r at hc HRW hsu
      obtain ⟨rp, rn, rc, R⟩ := r
      simp only at hc HRW hsu
      have hrl : (rowL R).length ≤ 2100000 := by
        have := congrArg List.length hsu
        rw [List.length_append, List.length_append] at this
        omega
      have hcat1 : (⟨(wrT Ls i).toArray⟩ : ByteArray) ++ ⟨(rowL R).toArray⟩ = ⟨(wrT Ls i ++ rowL R).toArray⟩ := cat_l _ _
      have hcat : (⟨(wrT Ls i ++ rowL R).toArray⟩ : ByteArray) ++ ⟨#[13, 10]⟩ = ⟨(wrT Ls (i + 1)).toArray⟩ := by
        rw [hsu, show (⟨#[13, 10]⟩ : ByteArray) = ⟨([13, 10] : Bs).toArray⟩ from rfl, cat_l]
        simp
      have hX : (⟨(wrT Ls i).toArray⟩ : ByteArray).size ≤ 2100000 := by rw [size_l]; exact hu1
      have hY : (⟨(rowL R).toArray⟩ : ByteArray).size ≤ 2100000 := by rw [size_l]; exact hrl
      have hZ : (⟨(wrT Ls i ++ rowL R).toArray⟩ : ByteArray).size ≤ 4200000 := by rw [size_l, List.length_append]; omega
      generalize (⟨(wrT Ls i ++ rowL R).toArray⟩ : ByteArray) = Z at hcat1 hcat hZ
      generalize (⟨(wrT Ls i).toArray⟩ : ByteArray) = X at hcat1 hX ⊢
      generalize (⟨(rowL R).toArray⟩ : ByteArray) = Y at hcat1 hY HRW
      have hop1 : ∀ W, (Op.stringOp .add X Y).run Tryd.prog W = .ok (.string Z) W := fun W => by
        rw [← hcat1]
        exact run_string_add_sum W _ _ (by omega)
      have hop2 : ∀ W, (Op.stringOp .add Z ⟨#[13, 10]⟩).run Tryd.prog W = .ok (.string ⟨(wrT Ls (i + 1)).toArray⟩) W := fun W => by
        rw [← hcat]
        exact run_string_add_sum W _ _ (by have hz : (⟨#[13, 10]⟩ : ByteArray).size = 2 := rfl; omega)
      clear hsu hcat hcat1 hu1 hu2 hrl
      go_wp2_with fail
      refine HRW.out.mono ?_
      rintro e w1 ⟨rfl, rfl⟩
      go_wp2_with fail
      go_roundg (gk - 1)
      case measure => omega
      case rel => exact ⟨i + 1, by omega, by go_num, rfl, rfl⟩
    · obtain rfl : i = n := by omega
      have hli : ¬ (i : Int) < (i : Int) := by omega
      go_wp2_with fail
      go_ret
      exact ⟨rfl, rfl⟩
end Go.Proofs.YthgeajmggbakbaaDoor
