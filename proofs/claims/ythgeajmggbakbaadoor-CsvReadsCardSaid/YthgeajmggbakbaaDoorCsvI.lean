/- CSV: a row is written, the document's way. -/
import Derived.Test.YthgeajmggbakbaaDoorCsvH
set_option linter.unusedSimpArgs false
set_option linter.unusedVariables false
namespace Go.Proofs.YthgeajmggbakbaaDoor
open Go.RowKit

set_option maxRecDepth 100000 in
set_option maxHeartbeats 2000000 in
theorem rrow_any (p : Option Addr) (n cap : Nat) (R : List Bs) (w : World) (hr : RdG bsE 1 w p n R) (hcap : n ≤ cap) (hn : n ≤ 1000) (hsz : szR R ≤ 1100000) :
    Calls Tryd.prog 11 #[.slice p n cap] w fun e w' => e = .returned (.string ⟨(rowL R).toArray⟩) ∧ w = w' := by
  have HCELL : Hid (∀ i W, Calls Tryd.prog 9 #[.string ⟨(R.getD i []).toArray⟩] W fun e w' => e = .returned (.string ⟨(cellL (R.getD i [])).toArray⟩) ∧ W = w') := fun i W => rcell_any _ (by rw [size_l]; have := szR_at R i; omega) W
  have hlen : R.length = n := hr.1
  have HUP := Lib.hid (fun i => com_up R i n hlen hn hsz)
  have HUC : Hid (∀ i, (cellL (R.getD i [])).length ≤ 3300000) := fun i => by
    have h1 := cellL_len (R.getD i [])
    have h2 := szR_at R i
    omega
  have HSN := Lib.hid (cells_snoc R)
  have HCS := Lib.hid (fun j (hj : j < n) => cell_str hr hj)
  have HLEN := Lib.hid hlen
  have HONE : Hid (n = 1 → R = [R.getD 0 []]) := fun h1 => by
    match R, hlen with
    | [], hl => simp at hl; omega
    | [x], _ => rfl
    | x :: y :: r, hl => simp at hl; omega
  clear hr hsz hlen
  go_enter Tryd.func11, Tryd.ntmps11
  go_wp2_with fail
  go_loopg [3, 4] n (fun g v3 v4 wr => ∃ i : Nat, i + g = n ∧ v4 = .int .i64 i ∧ v3 = .string ⟨(comL ((R.take i).map cellL)).toArray⟩ ∧ wr = w)
  case atStart => exact ⟨0, by omega, rfl, rfl, rfl⟩
  case round =>
    obtain ⟨i, hig, rfl, rfl, rfl⟩ := hrel
    have hEl : (⟨(comL ((R.take i).map cellL)).toArray⟩ : ByteArray).size ≤ 3300000 := by rw [size_l]; exact HUP.out i
    by_cases hlt : i < n
    · have hsn := HSN.out i (by rw [HLEN.out]; exact hlt)
      obtain ⟨b, off, rfl, hb, hc⟩ := HCS.out i hlt
      have HC := Lib.hid (HCELL.out i)
      have hCl : (⟨(cellL (R.getD i [])).toArray⟩ : ByteArray).size ≤ 3300000 := by rw [size_l]; exact HUC.out i
      have hli : (i : Int) < (n : Int) := by omega
      have hE0 : i = 0 → comL ((R.take i).map cellL) = [] := fun h => by rw [h]; rfl
      generalize comL ((R.take i).map cellL) = E at hsn hEl hE0 ⊢
      generalize R.getD i [] = x at hsn HC hc hCl
      generalize cellL x = C at hsn HC hCl
      have HT := Lib.hid hsn
      clear hsn
      by_cases h0 : i = 0
      · have hgi : ¬ (0 : Int) < (i : Int) := by omega
        have hE := hE0 h0
        have hs : (⟨E.toArray⟩ : ByteArray) ++ ⟨C.toArray⟩ = ⟨(comL ((R.take (i + 1)).map cellL)).toArray⟩ := by
          rw [HT.out, if_pos h0, hE]
          exact cat_l [] C
        generalize (⟨E.toArray⟩ : ByteArray) = X at hs hEl ⊢
        have hop : ∀ W, (Op.stringOp .add X ⟨C.toArray⟩).run Tryd.prog W = .ok (.string (⟨(comL ((R.take (i + 1)).map cellL)).toArray⟩ : ByteArray)) W := fun W => by
          rw [← hs]
          exact run_string_add_sum W X _ (by omega)
        clear hE0 hE h0 hs
        go_wp2_with fail
        refine (HC.out _).mono ?_
        rintro e w1 ⟨rfl, rfl⟩
        go_wp2_with fail
        go_roundg (gk - 1)
        case measure => omega
        case rel => exact ⟨i + 1, by omega, by go_num, by rw [List.map_take], rfl⟩
      · have hgi : (0 : Int) < (i : Int) := by omega
        have hs1 : (⟨E.toArray⟩ : ByteArray) ++ ⟨#[44]⟩ = ⟨(E ++ [44]).toArray⟩ := cat_l E [44]
        have hs : (⟨(E ++ [44]).toArray⟩ : ByteArray) ++ ⟨C.toArray⟩ = ⟨(comL ((R.take (i + 1)).map cellL)).toArray⟩ := by
          rw [HT.out, if_neg h0, cat_l]
          simp
        have hY : (⟨(E ++ [44]).toArray⟩ : ByteArray).size ≤ 3300001 := by
          rw [size_l] at hEl ⊢
          rw [List.length_append, List.length_singleton]
          omega
        generalize (⟨(E ++ [44]).toArray⟩ : ByteArray) = Y at hs1 hs hY
        generalize (⟨E.toArray⟩ : ByteArray) = X at hs1 hEl ⊢
        have hop1 : ∀ W, (Op.stringOp .add X ⟨#[44]⟩).run Tryd.prog W = .ok (.string Y) W := fun W => by
          rw [← hs1]
          exact run_string_add_sum W X _ (by have hz : (⟨#[44]⟩ : ByteArray).size = 1 := rfl; omega)
        have hop : ∀ W, (Op.stringOp .add Y ⟨C.toArray⟩).run Tryd.prog W = .ok (.string (⟨(comL ((R.take (i + 1)).map cellL)).toArray⟩ : ByteArray)) W := fun W => by
          rw [← hs]
          exact run_string_add_sum W Y _ (by omega)
        clear hE0 h0 hs hs1
        go_wp2_with fail
        refine (HC.out _).mono ?_
        rintro e w1 ⟨rfl, rfl⟩
        go_wp2_with fail
        go_roundg (gk - 1)
        case measure => omega
        case rel => exact ⟨i + 1, by omega, by go_num, by rw [List.map_take], rfl⟩
    · have ht : R.take i = R := List.take_of_length_le (by rw [HLEN.out]; omega)
      obtain rfl : i = n := by omega
      rw [ht] at hEl ⊢
      have hli : ¬ (i : Int) < (i : Int) := by omega
      by_cases h1 : i = 1
      · subst h1
        obtain ⟨b, off, rfl, hb, hc⟩ := HCS.out 0 (by omega)
        have hc : wr.cell? ⟨b, off, none⟩ = some (.string ⟨(R.getD 0 []).toArray⟩) := hc
        have hR := HONE.out rfl
        by_cases hx : R.getD 0 [] = []
        · rw [hx] at hc hR
          have HRL : Hid (rowL R = [34, 34]) := by rw [hR]; rfl
          generalize comL (R.map cellL) = E at hEl ⊢
          clear hR hx ht
          go_wp2_with fail
          go_ret
          exact ⟨by rw [HRL.out]; rfl, rfl⟩
        · have hq := str_nil _ hx
          have HRL : Hid (rowL R = comL (R.map cellL)) := by
            unfold Hid rowL
            rw [if_neg]
            intro e
            rw [e] at hx
            exact hx rfl
          generalize comL (R.map cellL) = E at hEl HRL ⊢
          generalize (⟨(R.getD 0 []).toArray⟩ : ByteArray) = X at hc hq
          clear hR hx ht
          go_wp2_with fail
          go_ret
          exact ⟨by rw [HRL.out]; rfl, rfl⟩
      · have h2 : ((i : Int) == 1) = false := by simp; omega
        have HRL : Hid (rowL R = comL (R.map cellL)) := by
          unfold Hid rowL
          rw [if_neg]
          intro e
          have := HLEN.out
          rw [e] at this
          exact h1 this.symm
        generalize comL (R.map cellL) = E at hEl HRL ⊢
        clear ht h1
        go_wp2_with fail
        go_ret
        exact ⟨by rw [HRL.out]; rfl, rfl⟩
end Go.Proofs.YthgeajmggbakbaaDoor
