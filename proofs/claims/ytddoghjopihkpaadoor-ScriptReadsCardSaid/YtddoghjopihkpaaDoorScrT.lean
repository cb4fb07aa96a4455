/- Script: the document's Text; a plain line's text is the program's. -/
import Derived.Test.YtddoghjopihkpaaDoorScrS
import Derived.Test.YtddoghjopihkpaaDoorScrR
set_option linter.unusedSimpArgs false
set_option linter.unusedVariables false
namespace Go.Proofs.YtddoghjopihkpaaDoor
open Go.RowKit Go.Joins

/-- Words, a blank between each two, behind what stands. -/
def joinP (s : Bs) : List Bs → Bs
  | [] => s
  | x :: r => joinP (s ++ [32] ++ x) r
theorem joinP_len : ∀ (L : List Bs) (s : Bs), s.length ≤ (joinP s L).length
  | [], s => Nat.le_refl _
  | x :: r, s => by
    have := joinP_len r (s ++ [32] ++ x)
    rw [joinP]
    simp at this ⊢
    omega
set_option maxRecDepth 100000 in
set_option maxHeartbeats 4000000 in
theorem rtext_any (kk : Int) (x : Stp) (x0 : Bs) (R : List Bs) (hR : R.length ≤ 3) (hlen : (joinP x0 R).length ≤ 10000) (HF : ∀ W, Calls Tryd.prog 17 #[.agg (lnC kk x)] W fun e w' => FldR (x0 :: R) e w' ∧ Below W.heap.size W w') (w : World) :
    Calls Tryd.prog 11 #[.agg (lnC kk x)] w fun e w' => e = .returned (.string ⟨(joinP x0 R).toArray⟩) ∧ Below w.heap.size w w' := by
  have hA0 : Hid (RlB (w.alloc (.cells (lnC kk x) tRl)) w.heap.size kk x) := heap_alloc_new w _
  have hAB : Hid (Below w.heap.size w (w.alloc (.cells (lnC kk x) tRl))) := by unfold Hid; (repeat' (first | (with_reducible exact Below.refl _ _) | (with_reducible assumption) | (with_reducible refine Below.alloc ?_ ?_ _) | (with_reducible refine bel_drewN ?_ _) | (with_reducible refine Below.drew ?_) | (with_reducible refine Below.setCell ?_ ?_ _) | (with_reducible refine bel_call ‹_› ?_ ?_) | go_size))
  obtain ⟨O, hO⟩ : ∃ O, joinP x0 R = O := ⟨_, rfl⟩
  rw [hO] at hlen ⊢
  have HO := Lib.hid hO
  clear hO
  have HFL := Lib.hid HF
  clear HF
  have hY : Value.agg (lnC kk x) = .agg #[.int .i64 kk, .int .i64 x.k, .int .i64 x.who, .string ⟨x.cell.toArray⟩, .string ⟨x.text.toArray⟩, .bool x.cols, .int .i64 x.n, .int .i64 x.tor, .int .u8 x.bits] := rfl
  rw [hY] at HFL ⊢
  clear hY
  go_enter Tryd.func11, Tryd.ntmps11
  go_upto_region 1 with fail
  have e0 : w.alloc (.cells #[.int .i64 kk, .int .i64 x.k, .int .i64 x.who, .string ⟨x.cell.toArray⟩, .string ⟨x.text.toArray⟩, .bool x.cols, .int .i64 x.n, .int .i64 x.tor, .int .u8 x.bits] tRl) = w.alloc (.cells (lnC kk x) tRl) := rfl
  rw [e0]
  clear e0
  generalize w.alloc (.cells (lnC kk x) tRl) = w0 at hA0 hAB ⊢
  obtain ⟨c0, c1, c2, c3, c4, c5, c6, c7, c8⟩ := hA0.out.cells
  go_wp2_with fail
  refine (HFL.out _).mono ?_
  rintro e w1 ⟨⟨p, cap, rfl, hrd⟩, hb1⟩
  have HB1 : Hid (Below w.heap.size w w1) := bel_call hb1 hAB.out hAB.out.size
  have hz1 := hb1.size
  obtain ⟨n, hn⟩ : ∃ n, (x0 :: R).length = n := ⟨_, rfl⟩
  have hn2 : n = R.length + 1 := by rw [← hn]; rfl
  rw [hn] at hrd ⊢
  clear hn c0 c1 c2 c3 c4 c5 c6 c7 c8 hA0 hAB HFL hb1
  have HRD := Lib.hid hrd
  obtain ⟨b, off, rfl, hb, h0⟩ := cell_st hrd (j := 0) (by omega)
  have h0 : w1.cell? ⟨b, off, none⟩ = some (.string ⟨x0.toArray⟩) := h0
  have HC : Hid (∀ j, j < n → w1.cell? ⟨b, off + j, none⟩ = some (.string ⟨((x0 :: R).getD j []).toArray⟩)) := by
    unfold Hid
    intro j hj
    obtain ⟨b', off', e, _, h⟩ := cell_st HRD.out hj
    cases e
    exact h
  clear hrd HRD
  have hn1 : 0 < n := by omega
  have hn4 : n ≤ 4 := by omega
  have HN2 := Lib.hid hn2
  clear hn2
  go_wp2_with fail
  go_loopg [4, 5] n (fun g v4 v5 wr => ∃ (i : Nat) (s : Bs), i + g = n + 1 ∧ 1 ≤ i ∧ i ≤ n ∧ v5 = .int .i64 i ∧ v4 = .string ⟨s.toArray⟩ ∧ joinP s ((x0 :: R).drop i) = O ∧ wr = w1)
  case atStart => exact ⟨1, x0, by omega, by omega, by omega, rfl, rfl, by rw [← HO.out]; rfl, rfl⟩
  case round =>
    obtain ⟨i, s, hig, h1i, hin, rfl, rfl, hJ, rfl⟩ := hrel
    have HJ := Lib.hid hJ
    have hsl : s.length ≤ 10000 := by
      have := joinP_len ((x0 :: R).drop i) s
      rw [hJ] at this
      omega
    clear hJ
    by_cases hlt : i < n
    · have hli : (i : Int) < (n : Int) := by omega
      have hc := HC.out i hlt
      have hdr : (x0 :: R).drop i = (x0 :: R).getD i [] :: (x0 :: R).drop (i + 1) := by
        rw [List.drop_eq_getElem_cons (by rw [List.length_cons]; have := HN2.out; omega), List.getD_eq_getElem?_getD, List.getElem?_eq_getElem (by rw [List.length_cons]; have := HN2.out; omega)]
        rfl
      have HJ2 := Lib.hid HJ.out
      rw [hdr] at HJ2
      clear hdr HJ
      generalize (x0 :: R).getD i [] = y at hc HJ2
      have hyl : s.length + 1 + y.length ≤ 10000 := by
        have := joinP_len ((x0 :: R).drop (i + 1)) (s ++ [32] ++ y)
        rw [show joinP (s ++ [32] ++ y) ((x0 :: R).drop (i + 1)) = O from HJ2.out] at this
        simp only [List.length_append, List.length_cons, List.length_nil] at this
        omega
      have hr1 := add_run s [32] (by simp; omega)
      have hr2 := add_run (s ++ [32]) y (by simp; omega)
      generalize hF1 : (⟨(s ++ [32] ++ y).toArray⟩ : ByteArray) = S1 at hr2
      have HF := Lib.hid hF1
      clear hF1
      generalize (⟨(s ++ [32]).toArray⟩ : ByteArray) = S0 at hr1 hr2
      go_wp2_with fail
      go_roundg (gk - 1)
      case measure => omega
      case rel => exact ⟨i + 1, s ++ [32] ++ y, by omega, by omega, by omega, by go_num, by rw [HF.out], HJ2.out, rfl⟩
    · skip
      obtain rfl : i = n := by omega
      have hli : ¬ (i : Int) < (i : Int) := by omega
      have HS : Hid (s = O) := by
        unfold Hid
        rw [← HJ.out, List.drop_eq_nil_of_le (by rw [List.length_cons]; have := HN2.out; omega)]
        rfl
      go_wp2_with fail
      go_ret
      exact ⟨by rw [← HS.out]; rfl, HB1.out⟩
end Go.Proofs.YtddoghjopihkpaaDoor
