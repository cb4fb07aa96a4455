/- CSV: a row is written, the program's way. -/
import Derived.Test.YthgeajmggbakbaaDoorCsvG
import Derived.Deep.DeepCutAuto
set_option linter.unusedSimpArgs false
set_option linter.unusedVariables false
namespace Go.Proofs.YthgeajmggbakbaaDoor
open Go.RowKit

theorem join_any (p : Option Addr) (n cap : Nat) (R : List Bs) (w : World) (hr : RdG bsE 1 w p n R) (hcap : n ≤ cap) (hn : n ≤ 100000) (hl : (comL R).length ≤ 10000000) :
    Calls Tryd.prog 20 #[.slice p n cap, .string ⟨#[44]⟩] w fun e w' => e = .returned (.string ⟨(comL R).toArray⟩) ∧ Below w.heap.size w w' := by
  rcases Nat.eq_zero_or_pos n with h0 | h0
  · subst h0
    have : R = [] := List.eq_nil_of_length_eq_zero hr.1
    subst this
    exact (Tryd.strings_Join_none p cap ⟨#[44]⟩ w).mono fun e w' h => ⟨h.1, by rw [h.2]; exact Below.refl _ _⟩
  · obtain ⟨b, off, rfl, hb, hc⟩ := hr.some (j := 0) h0
    have hm : (R.map fun L : Bs => (⟨L.toArray⟩ : ByteArray)).length = n := by rw [List.length_map]; exact hr.1
    have he : (R.map fun L : Bs => (⟨L.toArray⟩ : ByteArray)).map (·.data.toList) = R := by
      rw [List.map_map]
      exact List.map_id _
    have hj : Lib.join ((R.map fun L : Bs => (⟨L.toArray⟩ : ByteArray)).map (·.data.toList)) (⟨#[44]⟩ : ByteArray).data.toList = comL R := by
      rw [he]
      exact join_com _
    have := Tryd.strings_Join b off cap (R.map fun L : Bs => (⟨L.toArray⟩ : ByteArray)) ⟨#[44]⟩ w (fun j v hv => by
        rw [List.getElem?_map] at hv
        obtain ⟨L, hL, rfl⟩ := Option.map_eq_some_iff.1 hv
        exact RdG.at1 (n := n) (p := some ⟨b, off, none⟩) hc hL rfl) hb (by omega) (by omega) (by rw [hj]; omega)
    rw [hm, hj] at this
    exact this
theorem str_nil (x : Bs) (h : x ≠ []) : (⟨x.toArray⟩ : ByteArray).toList.isEmpty = false := by
  rw [Lib.toList_data]
  cases x with
  | nil => exact absurd rfl h
  | cons c x => rfl

set_option maxRecDepth 100000 in
set_option maxHeartbeats 2000000 in
theorem row_any (p : Option Addr) (n cap : Nat) (R : List Bs) (w : World) (hsh : w.ShapedOpen Tryd.prog) (hr : RdG bsE 1 w p n R) (hcap : n ≤ cap) (hn : n ≤ 1000) (hsz : szR R ≤ 1100000) :
    Calls Tryd.prog 10 #[.slice p n cap] w fun e w' => e = .returned (.string ⟨(rowL R).toArray⟩) ∧ Below w.heap.size w w' := by
  obtain ⟨i0, hi, hz0, hz1, hz2⟩ := info_of info_str
  by_cases hone : R = [[]]
  · subst hone
    have h0 : n = 1 := hr.1.symm
    subst h0
    obtain ⟨b, off, rfl, hb, hc⟩ := cell_str hr (j := 0) (by omega)
    have hc : w.cell? ⟨b, off, none⟩ = some (.string ⟨#[]⟩) := hc
    clear hr hsh hsz
    go_enter Tryd.func10, Tryd.ntmps10
    go_wp2_with fail
    go_ret
    exact ⟨rfl, Below.refl _ _⟩
  · have HRL : Hid (rowL R = comL (R.map cellL)) := by unfold Hid rowL; rw [if_neg hone]
    have hup : (comL (R.map cellL)).length ≤ 10000000 := by
      have h1 := comL_up (R.map cellL)
      have h2 := szR_cells R
      have h3 := hr.1
      rw [List.length_map] at h1
      omega
    have HJ : Hid (∀ (q : Option Addr) (c : Nat) (W : World), RdG bsE 1 W q n (R.map cellL) → n ≤ c → Calls Tryd.prog 20 #[.slice q n c, .string ⟨#[44]⟩] W fun e w' => e = .returned (.string ⟨(rowL R).toArray⟩) ∧ Below W.heap.size W w') := fun q c W h1 h2 => by
      rw [HRL.out]
      exact join_any q n c _ W h1 h2 (by omega) hup
    have HCELL : Hid (∀ i W, Below w.heap.size w W → Calls Tryd.prog 8 #[.string ⟨(R.getD i []).toArray⟩] W fun e w' => e = .returned (.string ⟨(cellL (R.getD i [])).toArray⟩) ∧ Below W.heap.size W w') := fun i W hW => cell_any _ (by rw [size_l]; have := szR_at R i; omega) W (shaped_below hsh hW)
    have HR := Lib.hid hr
    have hlen : R.length = n := hr.1
    have HTK := Lib.hid (take_cell R)
    have HSX : Hid (∀ i, n = 1 → (⟨(R.getD i []).toArray⟩ : ByteArray).toList.isEmpty = false ∨ 0 < i) := fun i h1 => by
      cases i with
      | succ i => exact .inr (Nat.succ_pos _)
      | zero =>
        refine .inl (str_nil _ fun e => hone ?_)
        match R, hlen, e with
        | [], hl, e => simp at hl; omega
        | [x], _, e =>
          have e : x = [] := e
          rw [e]
        | x :: y :: r, hl, _ => simp at hl; omega
    clear hr hsh hup HRL hone
    obtain ⟨RL, hRL⟩ : ∃ RL, rowL R = RL := ⟨_, rfl⟩
    rw [hRL] at HJ ⊢
    clear hRL
    go_enter Tryd.func10, Tryd.ntmps10
    go_upto_region 1 with fail
    go_cut [14] (fun v wx => v = .bool false ∧ w = wx)
    case first =>
      by_cases h1 : n = 1
      · subst h1
        obtain ⟨b, off, rfl, hb, hc⟩ := cell_str HR.out (j := 0) (by omega)
        have hc : w.cell? ⟨b, off, none⟩ = some (.string ⟨(R.getD 0 []).toArray⟩) := hc
        have hq := (HSX.out 0 rfl).resolve_right (by omega)
        generalize (⟨(R.getD 0 []).toArray⟩ : ByteArray) = X at hc hq
        go_wp2_with fail
        go_meet
        exact ⟨rfl, rfl⟩
      · have h2 : ((n : Int) == 1) = false := by simp; omega
        go_wp2_with fail
        go_meet
        exact ⟨rfl, rfl⟩
    case rest =>
      obtain ⟨rfl, rfl⟩ := hcut
      go_wp2_with fail
      go_loopg [3, 17] n (fun g v3 v17 wr => ∃ i : Nat, i + g = n ∧ v17 = .int .i64 i ∧ wr.ownsRow w.heap.size 9 1 v3 i (((R.take i).map cellL).flatMap bsE) ∧ Below w.heap.size w wr)
      case atStart => exact ⟨0, by omega, rfl, World.ownsRow_nil _ _ _ _, Below.refl _ _⟩
      case round =>
        obtain ⟨i, hig, rfl, hown, hbel⟩ := hrel
        have HO := Lib.hid hown
        have hzr := hbel.size
        clear hown
        by_cases hlt : i < n
        · have hli : (i : Int) < (n : Int) := by omega
          obtain ⟨b, off, rfl, hb, hc⟩ := cell_str (HR.out.below hbel) hlt
          have hC := HCELL.out i wr hbel
          have htk := HTK.out i (by omega)
          generalize R.getD i [] = x at hc hC htk
          generalize cellL x = C at hC htk
          have HT := Lib.hid htk
          clear htk
          go_wp2_with fail
          refine hC.mono ?_
          rintro e w1 ⟨rfl, hb1⟩
          have hz1' := hb1.size
          have HO1 : Hid (w1.ownsRow w.heap.size 9 1 u3 i (((R.take i).map cellL).flatMap bsE)) := row_below HO.out hb1
          have hbw : Below w.heap.size w w1 := bel_call hb1 hbel hbel.size
          clear hC
          go_wp2_with (at_builtin; refine wpList_append_own _ rfl _ _ _ rfl w.heap.size 9 i0 (.string ⟨#[]⟩) 1 16 Tryd.underlying22 hi hz0 hz1 hz2 rfl (by decide) _ _ _ rfl (HO1.out.alloc _) ⟨w1.heap.size, 0, none⟩ 1 1 (bsE C) rfl rfl ?c1 ?c2 ?c3 ?c4 ?c5 ?_)
          case c1 => exact new1 w1 _ _
          case c2 => exact bsE_one _
          case c3 => unfold maxLen; omega
          case c4 => omega
          case c5 => first | omega | (simp; omega)
          intro v' w4 hown4 hgrow4 _
          have hb4 : Below w.heap.size w w4 := (hbw.alloc (by omega) _).grown hgrow4 (by simp; omega) (fun k hk => (HO1.out.lt k hk).1)
          have HO4 : Hid (w4.ownsRow w.heap.size 9 1 v' (i + 1) (((R.take (i + 1)).map cellL).flatMap bsE)) := by
            unfold Hid
            rw [HT.out, flat_snoc, List.map_take]
            exact hown4
          clear hown4 hgrow4
          go_wp2_with fail
          go_roundg (gk - 1)
          case measure => omega
          case rel => exact ⟨i + 1, by omega, by go_num, HO4.out, hb4⟩
        · obtain rfl : i = n := by omega
          have hli : ¬ (i : Int) < (i : Int) := by omega
          have ht : R.take i = R := List.take_of_length_le (by omega)
          rw [ht] at HO
          obtain ⟨q, c, rfl, hc1, hc2, hrd, _⟩ := RdG.of_own bsE_len (by rw [List.length_map]; omega) HO.out
          have hJ := HJ.out q c wr hrd hc1
          clear ht hrd hlt
          go_wp2_with fail
          refine hJ.mono ?_
          rintro e w1 ⟨rfl, hb1⟩
          go_wp2_with fail
          go_ret
          exact ⟨rfl, bel_call hb1 hbel hbel.size⟩
end Go.Proofs.YthgeajmggbakbaaDoor
