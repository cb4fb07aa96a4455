/- Sums of whole complex numbers, of the program and of the document's answer; products of the document's answer. -/
import Derived.Test.YtaocbebgdbeffaaDoorGauE
set_option linter.unusedSimpArgs false
set_option linter.unusedVariables false
namespace Go.Proofs.YtaocbebgdbeffaaDoor
open Go.RowKit

def zadd (p q : Int × Int) : Int × Int := (p.1 + q.1, p.2 + q.2)
def addL : List (Int × Int) → Int × Int → Option (Int × Int)
  | [], acc => some acc
  | z :: r, acc => if fitB (zadd acc z) then addL r (zadd acc z) else none

/-- The words of a sum. -/
theorem zadd_f {x y u v : Nat} {a b c d : Int} (hx : IsF x a) (hy : IsF y b) (hu : IsF u c) (hv : IsF v d) (h1 : fitB (a, b) = true) (h2 : fitB (c, d) = true) :
    ∃ re im : Nat, cSumBits .add .f64 x y u v = some (re, im) ∧ IsF re (zadd (a, b) (c, d)).1 ∧ IsF im (zadd (a, b) (c, d)).2 := by
  simp only [fitB, decide_eq_true_eq] at h1 h2
  obtain ⟨a1, a2, b1, b2⟩ := h1
  obtain ⟨c1, c2, d1, d2⟩ := h2
  obtain ⟨re, e5, f5⟩ := isF_add hx hu (by unfold M53; omega)
  obtain ⟨im, e6, f6⟩ := isF_add hy hv (by unfold M53; omega)
  refine ⟨re, im, ?_, f5, f6⟩
  unfold cSumBits
  rw [e5, e6]
  rfl

set_option maxRecDepth 100000 in
set_option maxHeartbeats 1000000 in
theorem add_any (p : Option Addr) (n cap : Nat) (L : List (Int × Int)) (hn : n ≤ 100000) (w : World) (hL : RdZ w p n L) :
    Calls Tryd.prog 19 #[.slice p n cap] w fun e w' => (∃ x y, e = .returned (.tuple #[.complex .f64 x y, .int .i64 (zE (addL L (0, 0)))]) ∧ IsF x (zV (addL L (0, 0))).1 ∧ IsF y (zV (addL L (0, 0))).2) ∧ w = w' := by
  obtain ⟨hl, hfit, hcells⟩ := hL
  have HL := Lib.hid hl
  have HFIT := Lib.hid hfit
  have HC := Lib.hid hcells
  clear hfit hcells hl
  go_enter Tryd.func19, Tryd.ntmps19
  go_wp2_with fail
  go_loopg [4, 11] n (fun g v4 v15 wr => wr = w ∧ ∃ (j x y : Nat) (a b : Int), j + g = n ∧ v15 = .int .i64 j ∧ v4 = .complex .f64 x y ∧ IsF x a ∧ IsF y b ∧ fitB (a, b) = true ∧ addL L (0, 0) = addL (L.drop j) (a, b))
  case atStart => exact ⟨rfl, 0, _, _, 0, 0, by omega, rfl, rfl, isF_zero, isF_zero, by decide, rfl⟩
  case round =>
    obtain ⟨rfl, j, x, y, a, b, hj, rfl, rfl, hx, hy, hf, hm⟩ := hrel
    have HX := Lib.hid hx
    have HY := Lib.hid hy
    have HM := Lib.hid hm
    have HF := Lib.hid hf
    clear hx hy hm hf
    by_cases hgo : j < n
    · have hjl : j < L.length := by rw [HL.out]; exact hgo
      obtain ⟨c, hc⟩ : ∃ c, L[j].1 = c := ⟨_, rfl⟩
      obtain ⟨d, hd⟩ : ∃ d, L[j].2 = d := ⟨_, rfl⟩
      have hz : L[j] = (c, d) := by rw [← hc, ← hd]
      obtain ⟨b0, off, rfl, hlt, u, v, hcell, hu, hv⟩ : ∃ b0 off, p = some ⟨b0, off, none⟩ ∧ b0 < wr.heap.size ∧ ∃ u v, wr.cell? ⟨b0, off + j, none⟩ = some (.complex .f64 u v) ∧ IsF u c ∧ IsF v d := by
        rcases HC.out with h | ⟨b0, off, h1, h2, h3⟩
        · omega
        · obtain ⟨u, v, h4, h5, h6⟩ := h3 j hjl
          exact ⟨b0, off, h1, h2, u, v, h4, by rw [← hc]; exact h5, by rw [← hd]; exact h6⟩
      have hfz : fitB (c, d) = true := by
        have := HFIT.out L[j] (List.getElem_mem hjl)
        rw [hz] at this
        simp only [fitB, decide_eq_true_eq]
        exact this
      obtain ⟨re, im, e1, f5, f6⟩ := zadd_f HX.out HY.out hu hv HF.out hfz
      have m1 : ∀ w, (binOp .add 22 (.complex .f64 x y) (.complex .f64 u v)).run Tryd.prog w = .ok (.complex .f64 re im) w := fun w => run_complex_sum w .add (.inl rfl) _ .f64 _ _ _ _ _ _ e1
      have hdr : L.drop j = (c, d) :: L.drop (j + 1) := by rw [List.drop_eq_getElem_cons hjl, hz]
      have F5 := Lib.hid f5
      have F6 := Lib.hid f6
      have HDR := Lib.hid hdr
      clear e1 f5 f6 hdr hu hv hfz hz hc hd hjl
      go_wp2_with (simp only [m1])
      by_cases hfit : fitB (zadd (a, b) (c, d)) = true
      · have hm2 : Hid (addL L (0, 0) = addL (L.drop (j + 1)) (zadd (a, b) (c, d))) := by unfold Hid; rw [HM.out, HDR.out, addL, if_pos hfit]
        have hfit2 := hfit
        simp only [fitB, decide_eq_true_eq] at hfit2
        refine (fit_yes re im _ _ F5.out F6.out hfit2 _).mono ?_
        rintro e w1 ⟨rfl, rfl⟩
        clear hfit2
        go_wp2_with fail
        go_roundg (gk - 1)
        case measure => omega
        case rel => exact ⟨rfl, j + 1, re, im, _, _, by omega, by go_num, rfl, F5.out, F6.out, hfit, hm2.out⟩
      · have hm2 : Hid (addL L (0, 0) = none) := by unfold Hid; rw [HM.out, HDR.out, addL, if_neg hfit]
        have hfit2 := hfit
        simp only [fitB, decide_eq_true_eq] at hfit2
        refine (fit_no re im _ _ F5.out F6.out hfit2 _).mono ?_
        rintro e w1 ⟨rfl, rfl⟩
        clear hfit2
        go_wp2_with fail
        go_ret2
        rw [hm2.out]
        exact ⟨⟨0, 0, rfl, isF_zero, isF_zero⟩, rfl⟩
    · have hm2 : Hid (addL L (0, 0) = some (a, b)) := by
        unfold Hid
        rw [HM.out, List.drop_of_length_le (by rw [HL.out]; omega)]
        rfl
      go_wp2_with fail
      go_ret2
      rw [hm2.out]
      exact ⟨⟨x, y, rfl, HX.out, HY.out⟩, rfl⟩

/-- Pairs in memory. -/
def RdP (w : World) (p : Option Addr) (n : Nat) (L : List (Int × Int)) : Prop :=
  L.length = n ∧ (∀ z ∈ L, -1048576 ≤ z.1 ∧ z.1 ≤ 1048576 ∧ -1048576 ≤ z.2 ∧ z.2 ≤ 1048576) ∧
  (n = 0 ∨ ∃ b off, p = some ⟨b, off, none⟩ ∧ b < w.heap.size ∧ ∀ (j : Nat) (h : j < L.length), w.cell? ⟨b, off + j * 2, none⟩ = some (.int .i64 L[j].1) ∧ w.cell? ⟨b, off + j * 2 + 1, none⟩ = some (.int .i64 L[j].2))

set_option maxRecDepth 100000 in
set_option maxHeartbeats 1000000 in
theorem refAdd_any (p : Option Addr) (n cap : Nat) (L : List (Int × Int)) (hn : n ≤ 100000) (w : World) (hL : RdP w p n L) :
    Calls Tryd.prog 20 #[.slice p n cap] w fun e w' => e = .returned (.tuple #[.agg #[.int .i64 (zV (addL L (0, 0))).1, .int .i64 (zV (addL L (0, 0))).2], .int .i64 (zE (addL L (0, 0)))]) ∧ Below w.heap.size w w' := by
  obtain ⟨hl, hfit, hcells⟩ := hL
  have HL := Lib.hid hl
  have HFIT := Lib.hid hfit
  have HC := Lib.hid hcells
  clear hfit hcells hl
  go_enter Tryd.func20, Tryd.ntmps20
  go_wp2_with fail
  go_loopg [5] n (fun g v5 wr => ∃ (j : Nat) (a b : Int), j + g = n ∧ v5 = .int .i64 j ∧ wr.cell? ⟨w.heap.size, 0, none⟩ = some (.int .i64 0) ∧ wr.cell? ⟨w.heap.size, 1, none⟩ = some (.int .i64 0) ∧ wr.cell? ⟨w.heap.size + 1, 0, none⟩ = some (.int .i64 a) ∧ wr.cell? ⟨w.heap.size + 1, 1, none⟩ = some (.int .i64 b) ∧ wr.frozen? ⟨w.heap.size, 0, none⟩ = false ∧ wr.frozen? ⟨w.heap.size, 1, none⟩ = false ∧ wr.frozen? ⟨w.heap.size + 1, 0, none⟩ = false ∧ wr.frozen? ⟨w.heap.size + 1, 1, none⟩ = false ∧ fitB (a, b) = true ∧ addL L (0, 0) = addL (L.drop j) (a, b) ∧ Below w.heap.size w wr ∧ w.heap.size + 2 ≤ wr.heap.size)
  case atStart => exact ⟨0, 0, 0, by omega, rfl, by go_simp, by go_simp, by go_simp, by go_simp, by go_simp, by go_simp, by go_simp, by go_simp, by decide, rfl, by (repeat' (first | (with_reducible exact Below.refl _ _) | (with_reducible assumption) | (with_reducible refine Below.alloc ?_ ?_ _) | (with_reducible refine bel_drewN ?_ _) | (with_reducible refine Below.drew ?_) | (with_reducible refine Below.setCell ?_ ?_ _) | (with_reducible refine bel_call ‹_› ?_ ?_) | go_size)), by simp⟩
  case round =>
    obtain ⟨j, a, b, hj, rfl, c0, c1, s0, s1, f0, f1, g0, g1, hf, hm, hbel, hsz⟩ := hrel
    have HM := Lib.hid hm
    have HF := Lib.hid hf
    have hab : -1048576 ≤ a ∧ a ≤ 1048576 ∧ -1048576 ≤ b ∧ b ≤ 1048576 := by simpa only [fitB, decide_eq_true_eq] using hf
    clear hm hf
    by_cases hgo : j < n
    · have hjl : j < L.length := by rw [HL.out]; exact hgo
      obtain ⟨c, hc⟩ : ∃ c, L[j].1 = c := ⟨_, rfl⟩
      obtain ⟨d, hd⟩ : ∃ d, L[j].2 = d := ⟨_, rfl⟩
      have hz : L[j] = (c, d) := by rw [← hc, ← hd]
      obtain ⟨b0, off, rfl, hlt, k0, k1⟩ : ∃ b0 off, p = some ⟨b0, off, none⟩ ∧ b0 < w.heap.size ∧ wr.cell? ⟨b0, off + j * 2, none⟩ = some (.int .i64 c) ∧ wr.cell? ⟨b0, off + j * 2 + 1, none⟩ = some (.int .i64 d) := by
        rcases HC.out with h | ⟨b0, off, h1, h2, h3⟩
        · omega
        · obtain ⟨h4, h5⟩ := h3 j hjl
          exact ⟨b0, off, h1, h2, by rw [← hc]; exact (hbel.cell (p := ⟨b0, off + j * 2, none⟩) h2).trans h4, by rw [← hd]; exact (hbel.cell (p := ⟨b0, off + j * 2 + 1, none⟩) h2).trans h5⟩
      have hcd : -1048576 ≤ c ∧ c ≤ 1048576 ∧ -1048576 ≤ d ∧ d ≤ 1048576 := by
        have := HFIT.out L[j] (List.getElem_mem hjl)
        rw [hz] at this
        exact this
      have hdr : L.drop j = (c, d) :: L.drop (j + 1) := by rw [List.drop_eq_getElem_cons hjl, hz]
      have HDR := Lib.hid hdr
      have q1 : IntKind.i64.wrap (a + c) = a + c := IntWalk.i64_in _ (by omega)
      have q2 : IntKind.i64.wrap (b + d) = b + d := IntWalk.i64_in _ (by omega)
      have hjn : (j : Int) < (n : Int) := by omega
      have hj0 : (0 : Int) ≤ (j : Int) := by omega
      clear hdr hz hc hd hjl
      go_wp2_with fail
      go_region
      go_wp2_with fail
      refine (fits_any (a + c) (b + d) _).mono ?_
      rintro e w2 ⟨rfl, hb2⟩
      obtain ⟨hc2, hf2, hz2⟩ := bcell hb2 (by first | (simp only [World.size_alloc, World.size_setCell, World.size_drew]; rfl) | rfl)
      have y0 : w2.cell? ⟨w.heap.size, 0, none⟩ = some (.int .i64 0) := by go_simp
      have y1 : w2.cell? ⟨w.heap.size, 1, none⟩ = some (.int .i64 0) := by go_simp
      have y2 : w2.cell? ⟨w.heap.size + 1, 0, none⟩ = some (.int .i64 (a + c)) := by go_simp
      have y3 : w2.cell? ⟨w.heap.size + 1, 1, none⟩ = some (.int .i64 (b + d)) := by go_simp
      have u0 : w2.frozen? ⟨w.heap.size, 0, none⟩ = false := by go_simp
      have u1 : w2.frozen? ⟨w.heap.size, 1, none⟩ = false := by go_simp
      have u2 : w2.frozen? ⟨w.heap.size + 1, 0, none⟩ = false := by go_simp
      have u3 : w2.frozen? ⟨w.heap.size + 1, 1, none⟩ = false := by go_simp
      have hbw : Below w.heap.size w w2 := by (repeat' (first | (with_reducible exact Below.refl _ _) | (with_reducible assumption) | (with_reducible refine Below.alloc ?_ ?_ _) | (with_reducible refine bel_drewN ?_ _) | (with_reducible refine Below.drew ?_) | (with_reducible refine Below.setCell ?_ ?_ _) | (with_reducible refine bel_call ‹_› ?_ ?_) | go_size))
      have hsw : w.heap.size + 2 ≤ w2.heap.size := by omega
      clear hb2 hc2 hf2 c0 c1 s0 s1 f0 f1 g0 g1 k0 k1 hbel q1 q2
      by_cases hfit : (-1048576 ≤ a + c ∧ a + c ≤ 1048576 ∧ -1048576 ≤ b + d ∧ b + d ≤ 1048576)
      · rw [decide_eq_true hfit]
        have hfb : fitB (zadd (a, b) (c, d)) = true := decide_eq_true hfit
        have hm2 : Hid (addL L (0, 0) = addL (L.drop (j + 1)) (a + c, b + d)) := by unfold Hid; rw [HM.out, HDR.out, addL, if_pos hfb]; rfl
        go_wp2_with fail
        go_roundg (gk - 1)
        case measure => omega
        case rel => exact ⟨j + 1, a + c, b + d, by omega, by go_num, y0, y1, y2, y3, u0, u1, u2, u3, hfb, hm2.out, hbw, hsw⟩
      · rw [decide_eq_false hfit]
        have hfb : ¬ fitB (zadd (a, b) (c, d)) = true := fun h => hfit (of_decide_eq_true h)
        have hm2 : Hid (addL L (0, 0) = none) := by unfold Hid; rw [HM.out, HDR.out, addL, if_neg hfb]
        clear hfit hfb hab hcd
        go_wp2_with fail
        rw [hm2.out]
        refine bodyPost_ret (v := .tuple #[.agg #[.int .i64 0, .int .i64 0], .int .i64 31]) (by simp [results, Tryd.results20, go_sem, y0, y1, u0, u1]) rfl ⟨rfl, by (repeat' (first | (with_reducible exact Below.refl _ _) | (with_reducible assumption) | (with_reducible refine Below.alloc ?_ ?_ _) | (with_reducible refine bel_drewN ?_ _) | (with_reducible refine Below.drew ?_) | (with_reducible refine Below.setCell ?_ ?_ _) | (with_reducible refine bel_call ‹_› ?_ ?_) | go_size))⟩
    · have hm2 : Hid (addL L (0, 0) = some (a, b)) := by
        unfold Hid
        rw [HM.out, List.drop_of_length_le (by rw [HL.out]; omega)]
        rfl
      have hjn : ¬ (j : Int) < (n : Int) := by omega
      go_wp2_with fail
      rw [hm2.out]
      refine bodyPost_ret (v := .tuple #[.agg #[.int .i64 a, .int .i64 b], .int .i64 0]) (by simp [results, Tryd.results20, go_sem, c0, c1, f0, f1]) rfl ⟨rfl, by (repeat' (first | (with_reducible exact Below.refl _ _) | (with_reducible assumption) | (with_reducible refine Below.alloc ?_ ?_ _) | (with_reducible refine bel_drewN ?_ _) | (with_reducible refine Below.drew ?_) | (with_reducible refine Below.setCell ?_ ?_ _) | (with_reducible refine bel_call ‹_› ?_ ?_) | go_size))⟩
set_option maxRecDepth 100000 in
set_option maxHeartbeats 1000000 in
theorem refMul_any (p : Option Addr) (n cap : Nat) (L : List (Int × Int)) (hn : n ≤ 100000) (w : World) (hL : RdP w p n L) :
    Calls Tryd.prog 21 #[.slice p n cap] w fun e w' => e = .returned (.tuple #[.agg #[.int .i64 (zV (mulL L (1, 0))).1, .int .i64 (zV (mulL L (1, 0))).2], .int .i64 (zE (mulL L (1, 0)))]) ∧ Below w.heap.size w w' := by
  obtain ⟨hl, hfit, hcells⟩ := hL
  have HL := Lib.hid hl
  have HFIT := Lib.hid hfit
  have HC := Lib.hid hcells
  clear hfit hcells hl
  go_enter Tryd.func21, Tryd.ntmps21
  go_wp2_with fail
  go_loopg [5] n (fun g v5 wr => ∃ (j : Nat) (a b : Int), j + g = n ∧ v5 = .int .i64 j ∧ wr.cell? ⟨w.heap.size, 0, none⟩ = some (.int .i64 0) ∧ wr.cell? ⟨w.heap.size, 1, none⟩ = some (.int .i64 0) ∧ wr.cell? ⟨w.heap.size + 1, 0, none⟩ = some (.int .i64 a) ∧ wr.cell? ⟨w.heap.size + 1, 1, none⟩ = some (.int .i64 b) ∧ wr.frozen? ⟨w.heap.size, 0, none⟩ = false ∧ wr.frozen? ⟨w.heap.size, 1, none⟩ = false ∧ wr.frozen? ⟨w.heap.size + 1, 0, none⟩ = false ∧ wr.frozen? ⟨w.heap.size + 1, 1, none⟩ = false ∧ fitB (a, b) = true ∧ mulL L (1, 0) = mulL (L.drop j) (a, b) ∧ Below w.heap.size w wr ∧ w.heap.size + 2 ≤ wr.heap.size)
  case atStart => exact ⟨0, 1, 0, by omega, rfl, by go_simp, by go_simp, by go_simp, by go_simp, by go_simp, by go_simp, by go_simp, by go_simp, by decide, rfl, by (repeat' (first | (with_reducible exact Below.refl _ _) | (with_reducible assumption) | (with_reducible refine Below.alloc ?_ ?_ _) | (with_reducible refine bel_drewN ?_ _) | (with_reducible refine Below.drew ?_) | (with_reducible refine Below.setCell ?_ ?_ _) | (with_reducible refine bel_call ‹_› ?_ ?_) | go_size)), by simp⟩
  case round =>
    obtain ⟨j, a, b, hj, rfl, c0, c1, s0, s1, f0, f1, g0, g1, hf, hm, hbel, hsz⟩ := hrel
    have HM := Lib.hid hm
    have HF := Lib.hid hf
    have hab : -1048576 ≤ a ∧ a ≤ 1048576 ∧ -1048576 ≤ b ∧ b ≤ 1048576 := by simpa only [fitB, decide_eq_true_eq] using hf
    clear hm hf
    by_cases hgo : j < n
    · have hjl : j < L.length := by rw [HL.out]; exact hgo
      obtain ⟨c, hc⟩ : ∃ c, L[j].1 = c := ⟨_, rfl⟩
      obtain ⟨d, hd⟩ : ∃ d, L[j].2 = d := ⟨_, rfl⟩
      have hz : L[j] = (c, d) := by rw [← hc, ← hd]
      obtain ⟨b0, off, rfl, hlt, k0, k1⟩ : ∃ b0 off, p = some ⟨b0, off, none⟩ ∧ b0 < w.heap.size ∧ wr.cell? ⟨b0, off + j * 2, none⟩ = some (.int .i64 c) ∧ wr.cell? ⟨b0, off + j * 2 + 1, none⟩ = some (.int .i64 d) := by
        rcases HC.out with h | ⟨b0, off, h1, h2, h3⟩
        · omega
        · obtain ⟨h4, h5⟩ := h3 j hjl
          exact ⟨b0, off, h1, h2, by rw [← hc]; exact (hbel.cell (p := ⟨b0, off + j * 2, none⟩) h2).trans h4, by rw [← hd]; exact (hbel.cell (p := ⟨b0, off + j * 2 + 1, none⟩) h2).trans h5⟩
      have hcd : -1048576 ≤ c ∧ c ≤ 1048576 ∧ -1048576 ≤ d ∧ d ≤ 1048576 := by
        have := HFIT.out L[j] (List.getElem_mem hjl)
        rw [hz] at this
        exact this
      have hdr : L.drop j = (c, d) :: L.drop (j + 1) := by rw [List.drop_eq_getElem_cons hjl, hz]
      have HDR := Lib.hid hdr
      have pac := prod_b hab.1 hab.2.1 hcd.1 hcd.2.1
      have pbd := prod_b hab.2.2.1 hab.2.2.2 hcd.2.2.1 hcd.2.2.2
      have pad := prod_b hab.1 hab.2.1 hcd.2.2.1 hcd.2.2.2
      have pbc := prod_b hab.2.2.1 hab.2.2.2 hcd.1 hcd.2.1
      obtain ⟨ac, hac⟩ : ∃ ac, a * c = ac := ⟨_, rfl⟩
      obtain ⟨bd, hbd⟩ : ∃ bd, b * d = bd := ⟨_, rfl⟩
      obtain ⟨ad, had⟩ : ∃ ad, a * d = ad := ⟨_, rfl⟩
      obtain ⟨bc, hbc⟩ : ∃ bc, b * c = bc := ⟨_, rfl⟩
      rw [hac] at pac
      rw [hbd] at pbd
      rw [had] at pad
      rw [hbc] at pbc
      have hzm : Hid (zmul (a, b) (c, d) = (ac - bd, ad + bc)) := by unfold Hid zmul; rw [hac, hbd, had, hbc]
      have w1 : IntKind.i64.wrap (a * c) = ac := by rw [hac]; exact IntWalk.i64_in _ (by omega)
      have w2 : IntKind.i64.wrap (b * d) = bd := by rw [hbd]; exact IntWalk.i64_in _ (by omega)
      have w3 : IntKind.i64.wrap (a * d) = ad := by rw [had]; exact IntWalk.i64_in _ (by omega)
      have w4 : IntKind.i64.wrap (b * c) = bc := by rw [hbc]; exact IntWalk.i64_in _ (by omega)
      have q1 : IntKind.i64.wrap (ac - bd) = ac - bd := IntWalk.i64_in _ (by omega)
      have q2 : IntKind.i64.wrap (ad + bc) = ad + bc := IntWalk.i64_in _ (by omega)
      clear hac hbd had hbc
      have hjn : (j : Int) < (n : Int) := by omega
      have hj0 : (0 : Int) ≤ (j : Int) := by omega
      clear hdr hz hc hd hjl
      go_wp2_with fail
      refine (fits_any (ac - bd) (ad + bc) _).mono ?_
      rintro e w2 ⟨rfl, hb2⟩
      obtain ⟨hc2, hf2, hz2⟩ := bcell hb2 (by first | (simp only [World.size_alloc, World.size_setCell, World.size_drew]; rfl) | rfl)
      have y0 : w2.cell? ⟨w.heap.size, 0, none⟩ = some (.int .i64 0) := by go_simp
      have y1 : w2.cell? ⟨w.heap.size, 1, none⟩ = some (.int .i64 0) := by go_simp
      have y2 : w2.cell? ⟨w.heap.size + 1, 0, none⟩ = some (.int .i64 (ac - bd)) := by go_simp
      have y3 : w2.cell? ⟨w.heap.size + 1, 1, none⟩ = some (.int .i64 (ad + bc)) := by go_simp
      have u0 : w2.frozen? ⟨w.heap.size, 0, none⟩ = false := by go_simp
      have u1 : w2.frozen? ⟨w.heap.size, 1, none⟩ = false := by go_simp
      have u2 : w2.frozen? ⟨w.heap.size + 1, 0, none⟩ = false := by go_simp
      have u3 : w2.frozen? ⟨w.heap.size + 1, 1, none⟩ = false := by go_simp
      have hbw : Below w.heap.size w w2 := by (repeat' (first | (with_reducible exact Below.refl _ _) | (with_reducible assumption) | (with_reducible refine Below.alloc ?_ ?_ _) | (with_reducible refine bel_drewN ?_ _) | (with_reducible refine Below.drew ?_) | (with_reducible refine Below.setCell ?_ ?_ _) | (with_reducible refine bel_call ‹_› ?_ ?_) | go_size))
      have hsw : w.heap.size + 2 ≤ w2.heap.size := by omega
      clear hb2 hc2 hf2 c0 c1 s0 s1 f0 f1 g0 g1 k0 k1 hbel q1 q2
      by_cases hfit : (-1048576 ≤ ac - bd ∧ ac - bd ≤ 1048576 ∧ -1048576 ≤ ad + bc ∧ ad + bc ≤ 1048576)
      · rw [decide_eq_true hfit]
        have hfb : fitB (zmul (a, b) (c, d)) = true := by rw [hzm.out]; exact decide_eq_true hfit
        have hm2 : Hid (mulL L (1, 0) = mulL (L.drop (j + 1)) (ac - bd, ad + bc)) := by unfold Hid; rw [HM.out, HDR.out, mulL, if_pos hfb, hzm.out]
        go_wp2_with fail
        go_roundg (gk - 1)
        case measure => omega
        case rel => exact ⟨j + 1, ac - bd, ad + bc, by omega, by go_num, y0, y1, y2, y3, u0, u1, u2, u3, by rw [← hzm.out]; exact hfb, hm2.out, hbw, hsw⟩
      · rw [decide_eq_false hfit]
        have hfb : ¬ fitB (zmul (a, b) (c, d)) = true := fun h => hfit (by rw [hzm.out] at h; exact of_decide_eq_true h)
        have hm2 : Hid (mulL L (1, 0) = none) := by unfold Hid; rw [HM.out, HDR.out, mulL, if_neg hfb]
        clear hfit hfb hab hcd
        go_wp2_with fail
        rw [hm2.out]
        refine bodyPost_ret (v := .tuple #[.agg #[.int .i64 0, .int .i64 0], .int .i64 31]) (by simp [results, Tryd.results21, go_sem, y0, y1, u0, u1]) rfl ⟨rfl, by (repeat' (first | (with_reducible exact Below.refl _ _) | (with_reducible assumption) | (with_reducible refine Below.alloc ?_ ?_ _) | (with_reducible refine bel_drewN ?_ _) | (with_reducible refine Below.drew ?_) | (with_reducible refine Below.setCell ?_ ?_ _) | (with_reducible refine bel_call ‹_› ?_ ?_) | go_size))⟩
    · have hm2 : Hid (mulL L (1, 0) = some (a, b)) := by
        unfold Hid
        rw [HM.out, List.drop_of_length_le (by rw [HL.out]; omega)]
        rfl
      have hjn : ¬ (j : Int) < (n : Int) := by omega
      go_wp2_with fail
      rw [hm2.out]
      refine bodyPost_ret (v := .tuple #[.agg #[.int .i64 a, .int .i64 b], .int .i64 0]) (by simp [results, Tryd.results21, go_sem, c0, c1, f0, f1]) rfl ⟨rfl, by (repeat' (first | (with_reducible exact Below.refl _ _) | (with_reducible assumption) | (with_reducible refine Below.alloc ?_ ?_ _) | (with_reducible refine bel_drewN ?_ _) | (with_reducible refine Below.drew ?_) | (with_reducible refine Below.setCell ?_ ?_ _) | (with_reducible refine bel_call ‹_› ?_ ?_) | go_size))⟩
end Go.Proofs.YtaocbebgdbeffaaDoor
