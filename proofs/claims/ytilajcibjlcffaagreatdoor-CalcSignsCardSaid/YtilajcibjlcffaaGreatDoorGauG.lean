/- Sums of whole complex numbers, of the program and of the document's answer; products of the document's answer. -/
import Derived.Test.YtilajcibjlcffaaGreatDoorGauE
set_option linter.unusedSimpArgs false
set_option linter.unusedVariables false

namespace Go.Proofs.YtilajcibjlcffaaGreatDoor.Gau
open Go.RowKit

def zadd (p q : Int × Int) : Int × Int := (p.1 + q.1, p.2 + q.2)
def addL : List (Int × Int) → Int × Int → Option (Int × Int)
  | [], acc => some acc
  | z :: r, acc => if fitB (zadd acc z) then addL r (zadd acc z) else none

/-- The words of a sum. -/
theorem zadd_f {x y u v : Nat} {a b c d : Int} (hx : IsF x a) (hy : IsF y b) (hu : IsF u c) (hv : IsF v d) (h1 : fitB (a, b) = true) (h2 : fitB (c, d) = true) :
    ∃ re im : Nat, cSumBits .add .f64 x y u v = some (re, im) ∧ IsF re (zadd (a, b) (c, d)).1 ∧ IsF im (zadd (a, b) (c, d)).2 := by
  simp only [fitB, decide_eq_true_eq] at h1 h2
  obtain ⟨a1, a2, b1, b2⟩ := h1
  obtain ⟨c1, c2, d1, d2⟩ := h2
  obtain ⟨re, e5, f5⟩ := isF_add hx hu (by unfold M53; omega)
  obtain ⟨im, e6, f6⟩ := isF_add hy hv (by unfold M53; omega)
  refine ⟨re, im, ?_, f5, f6⟩
  unfold cSumBits
  rw [e5, e6]
  rfl

set_option maxRecDepth 100000 in
set_option maxHeartbeats 1000000 in
theorem add_any (p : Option Addr) (n cap : Nat) (L : List (Int × Int)) (hn : n ≤ 100000) (w : World) (hL : RdZ w p n L) :
    Calls Tryz.prog 64 #[.slice p n cap] w fun e w' => (∃ x y, e = .returned (.tuple #[.complex .f64 x y, .int .i64 (zE (addL L (0, 0)))]) ∧ IsF x (zV (addL L (0, 0))).1 ∧ IsF y (zV (addL L (0, 0))).2) ∧ w = w' := by
  obtain ⟨hl, hfit, hcells⟩ := hL
  have HL := Lib.hid hl
  have HFIT := Lib.hid hfit
  have HC := Lib.hid hcells
  clear hfit hcells hl
  go_enter Tryz.func64, Tryz.ntmps64
  go_wp2_with fail
  go_loopg [4, 11] n (fun g v4 v15 wr => wr = w ∧ ∃ (j x y : Nat) (a b : Int), j + g = n ∧ v15 = .int .i64 j ∧ v4 = .complex .f64 x y ∧ IsF x a ∧ IsF y b ∧ fitB (a, b) = true ∧ addL L (0, 0) = addL (L.drop j) (a, b))
  case atStart => exact ⟨rfl, 0, _, _, 0, 0, by omega, rfl, rfl, isF_zero, isF_zero, by decide, rfl⟩
  case round =>
    obtain ⟨rfl, j, x, y, a, b, hj, rfl, rfl, hx, hy, hf, hm⟩ := hrel
    have HX := Lib.hid hx
    have HY := Lib.hid hy
    have HM := Lib.hid hm
    have HF := Lib.hid hf
    clear hx hy hm hf
    by_cases hgo : j < n
    · have hjl : j < L.length := by rw [HL.out]; exact hgo
      obtain ⟨c, hc⟩ : ∃ c, L[j].1 = c := ⟨_, rfl⟩
      obtain ⟨d, hd⟩ : ∃ d, L[j].2 = d := ⟨_, rfl⟩
      have hz : L[j] = (c, d) := by rw [← hc, ← hd]
      obtain ⟨b0, off, rfl, hlt, u, v, hcell, hu, hv⟩ : ∃ b0 off, p = some ⟨b0, off, none⟩ ∧ b0 < wr.heap.size ∧ ∃ u v, wr.cell? ⟨b0, off + j, none⟩ = some (.complex .f64 u v) ∧ IsF u c ∧ IsF v d := by
        rcases HC.out with h | ⟨b0, off, h1, h2, h3⟩
        · omega
        · obtain ⟨u, v, h4, h5, h6⟩ := h3 j hjl
          exact ⟨b0, off, h1, h2, u, v, h4, by rw [← hc]; exact h5, by rw [← hd]; exact h6⟩
      have hfz : fitB (c, d) = true := by
        have := HFIT.out L[j] (List.getElem_mem hjl)
        rw [hz] at this
        simp only [fitB, decide_eq_true_eq]
        exact this
      obtain ⟨re, im, e1, f5, f6⟩ := zadd_f HX.out HY.out hu hv HF.out hfz
      have m1 : ∀ w, (binOp .add 102 (.complex .f64 x y) (.complex .f64 u v)).run Tryz.prog w = .ok (.complex .f64 re im) w := fun w => run_complex_sum w .add (.inl rfl) _ .f64 _ _ _ _ _ _ e1
      have hdr : L.drop j = (c, d) :: L.drop (j + 1) := by rw [List.drop_eq_getElem_cons hjl, hz]
      have F5 := Lib.hid f5
      have F6 := Lib.hid f6
      have HDR := Lib.hid hdr
      clear e1 f5 f6 hdr hu hv hfz hz hc hd hjl
      go_wp2_with (simp only [m1])
      by_cases hfit : fitB (zadd (a, b) (c, d)) = true
      · have hm2 : Hid (addL L (0, 0) = addL (L.drop (j + 1)) (zadd (a, b) (c, d))) := by unfold Hid; rw [HM.out, HDR.out, addL, if_pos hfit]
        have hfit2 := hfit
        simp only [fitB, decide_eq_true_eq] at hfit2
        refine (fit_yes re im _ _ F5.out F6.out hfit2 _).mono ?_
        rintro e w1 ⟨rfl, rfl⟩
        clear hfit2
        go_wp2_with fail
        go_roundg (gk - 1)
        case measure => omega
        case rel => exact ⟨rfl, j + 1, re, im, _, _, by omega, by go_num, rfl, F5.out, F6.out, hfit, hm2.out⟩
      · have hm2 : Hid (addL L (0, 0) = none) := by unfold Hid; rw [HM.out, HDR.out, addL, if_neg hfit]
        have hfit2 := hfit
        simp only [fitB, decide_eq_true_eq] at hfit2
        refine (fit_no re im _ _ F5.out F6.out hfit2 _).mono ?_
        rintro e w1 ⟨rfl, rfl⟩
        clear hfit2
        go_wp2_with fail
        go_ret2
        rw [hm2.out]
        exact ⟨⟨0, 0, rfl, isF_zero, isF_zero⟩, rfl⟩
    · have hm2 : Hid (addL L (0, 0) = some (a, b)) := by
        unfold Hid
        rw [HM.out, List.drop_of_length_le (by rw [HL.out]; omega)]
        rfl
      go_wp2_with fail
      go_ret2
      rw [hm2.out]
      exact ⟨⟨x, y, rfl, HX.out, HY.out⟩, rfl⟩

/-- Pairs in memory. -/
def RdP (w : World) (p : Option Addr) (n : Nat) (L : List (Int × Int)) : Prop :=
  L.length = n ∧ (∀ z ∈ L, -1048576 ≤ z.1 ∧ z.1 ≤ 1048576 ∧ -1048576 ≤ z.2 ∧ z.2 ≤ 1048576) ∧
  (n = 0 ∨ ∃ b off, p = some ⟨b, off, none⟩ ∧ b < w.heap.size ∧ ∀ (j : Nat) (h : j < L.length), w.cell? ⟨b, off + j * 2, none⟩ = some (.int .i64 L[j].1) ∧ w.cell? ⟨b, off + j * 2 + 1, none⟩ = some (.int .i64 L[j].2))

end Go.Proofs.YtilajcibjlcffaaGreatDoor.Gau
