/- Whole complex numbers: contracts of the small functions of both packages and of the law. -/
import Derived.Test.YtilajcibjlcffaaGreatDoorBase
import Derived.Test.YtilajcibjlcffaaGreatDoorFltA
import Derived.Test.YtilajcibjlcffaaGreatDoorShelf
import Derived.Lib.ConvBytes
import Derived.Laws.BytesArg
set_option linter.unusedSimpArgs false
set_option linter.unusedVariables false

namespace Go.Proofs.YtilajcibjlcffaaGreatDoor.Gau
open Go.RowKit

theorem max_f {P : Program} {x y : Nat} {a b : Int} (hx : IsF x a) (hy : IsF y b) : ∃ m, (∀ ts t w, (Builtin.max_ ts t #[.float .f64 x, .float .f64 y]).run P w = .ok (.float .f64 m) w) ∧ IsF m (max a b) := by
  have ho : FloatKind.f64.format.order x y = some (compare a b) := isF_order hx hy
  rcases Int.lt_trichotomy a b with h | h | h
  · have hc : compare a b = .lt := compare_lt_of h
    refine ⟨y, fun ts t w => ?_, by rw [show max a b = b from by omega]; exact hy⟩
    simp [Builtin.max_, Builtin.max2, ho, hc]
  · subst h
    have hc : compare a a = .eq := compare_eq_of
    refine ⟨if (FloatKind.f64.decode x).neg then y else x, fun ts t w => ?_, ?_⟩
    · simp [Builtin.max_, Builtin.max2, ho, hc]
    · rw [show max a a = a from by omega]
      split
      · exact hy
      · exact hx
  · have hc : compare a b = .gt := compare_gt_of h
    refine ⟨x, fun ts t w => ?_, by rw [show max a b = a from by omega]; exact hx⟩
    simp [Builtin.max_, Builtin.max2, ho, hc]
theorem min_f {P : Program} {x y : Nat} {a b : Int} (hx : IsF x a) (hy : IsF y b) : ∃ m, (∀ ts t w, (Builtin.min_ ts t #[.float .f64 x, .float .f64 y]).run P w = .ok (.float .f64 m) w) ∧ IsF m (min a b) := by
  have ho : FloatKind.f64.format.order x y = some (compare a b) := isF_order hx hy
  rcases Int.lt_trichotomy a b with h | h | h
  · have hc : compare a b = .lt := compare_lt_of h
    refine ⟨x, fun ts t w => ?_, by rw [show min a b = a from by omega]; exact hx⟩
    simp [Builtin.min_, Builtin.min2, ho, hc]
  · subst h
    have hc : compare a a = .eq := compare_eq_of
    refine ⟨if (FloatKind.f64.decode x).neg then x else y, fun ts t w => ?_, ?_⟩
    · simp [Builtin.min_, Builtin.min2, ho, hc]
    · rw [show min a a = a from by omega]
      split
      · exact hx
      · exact hy
  · have hc : compare a b = .gt := compare_gt_of h
    refine ⟨y, fun ts t w => ?_, by rw [show min a b = b from by omega]; exact hy⟩
    simp [Builtin.min_, Builtin.min2, ho, hc]
/-- Is a word above another one, or below it? -/
theorem gt_f {x y : Nat} {a b : Int} (hx : IsF x a) (hy : IsF y b) : (FloatKind.f64.format.order x y == some Ordering.gt) = decide (b < a) := by
  have ho : FloatKind.f64.format.order x y = some (compare a b) := isF_order hx hy
  rw [ho]
  rcases Int.lt_trichotomy a b with h | h | h
  · rw [compare_lt_of h, decide_eq_false (by omega)]; rfl
  · subst h
    rw [compare_eq_of, decide_eq_false (by omega)]; rfl
  · rw [compare_gt_of h, decide_eq_true h]; rfl
theorem lt_f {x y : Nat} {a b : Int} (hx : IsF x a) (hy : IsF y b) : (FloatKind.f64.format.order x y == some Ordering.lt) = decide (a < b) := by
  have ho : FloatKind.f64.format.order x y = some (compare a b) := isF_order hx hy
  rw [ho]
  rcases Int.lt_trichotomy a b with h | h | h
  · rw [compare_lt_of h, decide_eq_true h]; rfl
  · subst h
    rw [compare_eq_of, decide_eq_false (by omega)]; rfl
  · rw [compare_gt_of h, decide_eq_false (by omega)]; rfl

theorem parts_any (x y : Nat) (a b : Int) (hx : IsF x a) (hy : IsF y b) (w : World) :
    Calls Tryz.prog 67 #[.complex .f64 x y] w fun e w' => e = .returned (.tuple #[.int .i64 a, .int .i64 b]) ∧ w = w' := by
  have hc1 : ∀ w, (convert 135 3 (.float .f64 x)).run Tryz.prog w = .ok (.int .i64 a) w := fun w => run_convert_float_int w 135 3 .f64 .i64 x a (by rw [Tryz.underlying135]; rfl) Tryz.underlying3 (isF_int hx)
  have hc2 : ∀ w, (convert 135 3 (.float .f64 y)).run Tryz.prog w = .ok (.int .i64 b) w := fun w => run_convert_float_int w 135 3 .f64 .i64 y b (by rw [Tryz.underlying135]; rfl) Tryz.underlying3 (isF_int hy)
  go_enter Tryz.func67, Tryz.ntmps67
  go_wp2_with (simp only [hc1, hc2])
  go_ret2
  exact ⟨rfl, rfl⟩
theorem conj_any (x y : Nat) (a b : Int) (hx : IsF x a) (hy : IsF y b) : ∃ z, IsF z (-b) ∧ ∀ w : World,
    Calls Tryz.prog 68 #[.complex .f64 x y] w fun e w' => e = .returned (.complex .f64 x z) ∧ w = w' := by
  obtain ⟨z, hz, hz2⟩ := isF_sub isF_zero hy (by have := hy.1; omega)
  rw [Int.zero_sub] at hz2
  refine ⟨z, hz2, fun w => ?_⟩
  have hop : ∀ w, (binOp .sub 135 (.float .f64 0) (.float .f64 y)).run Tryz.prog w = .ok (.float .f64 z) w := fun w => run_float_arith w .sub 135 .f64 0 y z hz
  go_enter Tryz.func68, Tryz.ntmps68
  go_wp2_with (simp only [hop])
  go_ret
  exact ⟨rfl, rfl⟩
theorem fit_yes (x y : Nat) (a b : Int) (hx : IsF x a) (hy : IsF y b) (h1 : -1048576 ≤ a ∧ a ≤ 1048576 ∧ -1048576 ≤ b ∧ b ≤ 1048576) (w : World) :
    Calls Tryz.prog 93 #[.complex .f64 x y] w fun e w' => e = .returned (.tuple #[.complex .f64 x y, .int .i64 0]) ∧ w = w' := by
  obtain ⟨m, hm, hm2⟩ := max_f (P := Tryz.prog) hx hy
  obtain ⟨l, hl, hl2⟩ := min_f (P := Tryz.prog) hx hy
  have g1 := gt_f hm2 isF_most
  have g2 := lt_f hl2 isF_least
  rw [decide_eq_false (by omega)] at g1 g2
  go_enter Tryz.func93, Tryz.ntmps93
  go_wp2_with (simp only [hm, hl])
  go_ret2
  exact ⟨rfl, rfl⟩
theorem fit_no (x y : Nat) (a b : Int) (hx : IsF x a) (hy : IsF y b) (h1 : ¬ (-1048576 ≤ a ∧ a ≤ 1048576 ∧ -1048576 ≤ b ∧ b ≤ 1048576)) (w : World) :
    Calls Tryz.prog 93 #[.complex .f64 x y] w fun e w' => e = .returned (.tuple #[.complex .f64 0 0, .int .i64 31]) ∧ w = w' := by
  obtain ⟨m, hm, hm2⟩ := max_f (P := Tryz.prog) hx hy
  obtain ⟨l, hl, hl2⟩ := min_f (P := Tryz.prog) hx hy
  have g1 := gt_f hm2 isF_most
  have g2 := lt_f hl2 isF_least
  by_cases hc : 1048576 < max a b
  · rw [decide_eq_true hc] at g1
    go_enter Tryz.func93, Tryz.ntmps93
    go_wp2_with (simp only [hm, hl])
    go_ret2
    exact ⟨rfl, rfl⟩
  · rw [decide_eq_false hc] at g1
    rw [decide_eq_true (by omega)] at g2
    go_enter Tryz.func93, Tryz.ntmps93
    go_wp2_with (simp only [hm, hl])
    go_ret2
    exact ⟨rfl, rfl⟩
theorem sq_bounds (z : Int) (h1 : -1048576 ≤ z) (h2 : z ≤ 1048576) : 0 ≤ z * z ∧ z * z ≤ 1099511627776 := by
  have h : z * z = ((z.natAbs * z.natAbs : Nat) : Int) := by rw [Int.natAbs_mul_self]
  have h3 : z.natAbs * z.natAbs ≤ 1048576 * 1048576 := Nat.mul_le_mul (by omega) (by omega)
  rw [h]
  omega
/-- Numbers in memory: each a word a part. -/
def RdZ (w : World) (p : Option Addr) (n : Nat) (L : List (Int × Int)) : Prop :=
  L.length = n ∧ (∀ z ∈ L, -1048576 ≤ z.1 ∧ z.1 ≤ 1048576 ∧ -1048576 ≤ z.2 ∧ z.2 ≤ 1048576) ∧
  (n = 0 ∨ ∃ b off, p = some ⟨b, off, none⟩ ∧ b < w.heap.size ∧ ∀ (j : Nat) (h : j < L.length), ∃ x y, w.cell? ⟨b, off + j, none⟩ = some (.complex .f64 x y) ∧ IsF x L[j].1 ∧ IsF y L[j].2)
def fitB (z : Int × Int) : Bool := decide (-1048576 ≤ z.1 ∧ z.1 ≤ 1048576 ∧ -1048576 ≤ z.2 ∧ z.2 ≤ 1048576)
def zmul (p q : Int × Int) : Int × Int := (p.1 * q.1 - p.2 * q.2, p.1 * q.2 + p.2 * q.1)
def mulL : List (Int × Int) → Int × Int → Option (Int × Int)
  | [], acc => some acc
  | z :: r, acc => if fitB (zmul acc z) then mulL r (zmul acc z) else none
def zV (o : Option (Int × Int)) : Int × Int := o.getD (0, 0)
def zE (o : Option (Int × Int)) : Int := if o.isSome then 0 else 31

theorem prod_b {a c : Int} (h1 : -1048576 ≤ a) (h2 : a ≤ 1048576) (h3 : -1048576 ≤ c) (h4 : c ≤ 1048576) : (a * c).natAbs ≤ 1099511627776 := by
  rw [Int.natAbs_mul]
  exact Nat.mul_le_mul (show a.natAbs ≤ 1048576 by omega) (show c.natAbs ≤ 1048576 by omega)
/-- The words of a product. -/
theorem zmul_f {x y u v : Nat} {a b c d : Int} (hx : IsF x a) (hy : IsF y b) (hu : IsF u c) (hv : IsF v d) (h1 : fitB (a, b) = true) (h2 : fitB (c, d) = true) :
    ∃ ac bd ad bc re im : Nat, floatBits .mul .f64 x u = some ac ∧ floatBits .mul .f64 y v = some bd ∧ floatBits .mul .f64 x v = some ad ∧ floatBits .mul .f64 y u = some bc ∧ floatBits .sub .f64 ac bd = some re ∧ floatBits .add .f64 ad bc = some im ∧ IsF re (zmul (a, b) (c, d)).1 ∧ IsF im (zmul (a, b) (c, d)).2 := by
  simp only [fitB, decide_eq_true_eq] at h1 h2
  obtain ⟨a1, a2, b1, b2⟩ := h1
  obtain ⟨c1, c2, d1, d2⟩ := h2
  have pac := prod_b a1 a2 c1 c2
  have pbd := prod_b b1 b2 d1 d2
  have pad := prod_b a1 a2 d1 d2
  have pbc := prod_b b1 b2 c1 c2
  obtain ⟨ac, e1, f1⟩ := isF_mul hx hu (by unfold M53; omega)
  obtain ⟨bd, e2, f2⟩ := isF_mul hy hv (by unfold M53; omega)
  obtain ⟨ad, e3, f3⟩ := isF_mul hx hv (by unfold M53; omega)
  obtain ⟨bc, e4, f4⟩ := isF_mul hy hu (by unfold M53; omega)
  obtain ⟨re, e5, f5⟩ := isF_sub f1 f2 (by unfold M53; omega)
  obtain ⟨im, e6, f6⟩ := isF_add f3 f4 (by unfold M53; omega)
  exact ⟨ac, bd, ad, bc, re, im, e1, e2, e3, e4, e5, e6, f5, f6⟩

set_option maxRecDepth 100000 in
set_option maxHeartbeats 1000000 in
theorem mul_any (p : Option Addr) (n cap : Nat) (L : List (Int × Int)) (hn : n ≤ 100000) (w : World) (hL : RdZ w p n L) :
    Calls Tryz.prog 65 #[.slice p n cap] w fun e w' => (∃ x y, e = .returned (.tuple #[.complex .f64 x y, .int .i64 (zE (mulL L (1, 0)))]) ∧ IsF x (zV (mulL L (1, 0))).1 ∧ IsF y (zV (mulL L (1, 0))).2) ∧ w = w' := by
  obtain ⟨hl, hfit, hcells⟩ := hL
  have HL := Lib.hid hl
  have HFIT := Lib.hid hfit
  have HC := Lib.hid hcells
  clear hfit hcells hl
  go_enter Tryz.func65, Tryz.ntmps65
  go_wp2_with fail
  go_loopg [4, 15] n (fun g v4 v15 wr => wr = w ∧ ∃ (j x y : Nat) (a b : Int), j + g = n ∧ v15 = .int .i64 j ∧ v4 = .complex .f64 x y ∧ IsF x a ∧ IsF y b ∧ fitB (a, b) = true ∧ mulL L (1, 0) = mulL (L.drop j) (a, b))
  case atStart => exact ⟨rfl, 0, _, _, 1, 0, by omega, rfl, rfl, isF_one, isF_zero, by decide, rfl⟩
  case round =>
    obtain ⟨rfl, j, x, y, a, b, hj, rfl, rfl, hx, hy, hf, hm⟩ := hrel
    have HX := Lib.hid hx
    have HY := Lib.hid hy
    have HM := Lib.hid hm
    have HF := Lib.hid hf
    clear hx hy hm hf
    by_cases hgo : j < n
    · have hjl : j < L.length := by rw [HL.out]; exact hgo
      obtain ⟨c, hc⟩ : ∃ c, L[j].1 = c := ⟨_, rfl⟩
      obtain ⟨d, hd⟩ : ∃ d, L[j].2 = d := ⟨_, rfl⟩
      have hz : L[j] = (c, d) := by rw [← hc, ← hd]
      obtain ⟨b0, off, rfl, hlt, u, v, hcell, hu, hv⟩ : ∃ b0 off, p = some ⟨b0, off, none⟩ ∧ b0 < wr.heap.size ∧ ∃ u v, wr.cell? ⟨b0, off + j, none⟩ = some (.complex .f64 u v) ∧ IsF u c ∧ IsF v d := by
        rcases HC.out with h | ⟨b0, off, h1, h2, h3⟩
        · omega
        · obtain ⟨u, v, h4, h5, h6⟩ := h3 j hjl
          exact ⟨b0, off, h1, h2, u, v, h4, by rw [← hc]; exact h5, by rw [← hd]; exact h6⟩
      have hfz : fitB (c, d) = true := by
        have := HFIT.out L[j] (List.getElem_mem hjl)
        rw [hz] at this
        simp only [fitB, decide_eq_true_eq]
        exact this
      obtain ⟨ac, bd, ad, bc, re, im, e1, e2, e3, e4, e5, e6, f5, f6⟩ := zmul_f HX.out HY.out hu hv HF.out hfz
      have m1 : ∀ w, (binOp .mul 135 (.float .f64 x) (.float .f64 u)).run Tryz.prog w = .ok (.float .f64 ac) w := fun w => run_float_arith w .mul _ .f64 _ _ _ e1
      have m2 : ∀ w, (binOp .mul 135 (.float .f64 y) (.float .f64 v)).run Tryz.prog w = .ok (.float .f64 bd) w := fun w => run_float_arith w .mul _ .f64 _ _ _ e2
      have m3 : ∀ w, (binOp .mul 135 (.float .f64 x) (.float .f64 v)).run Tryz.prog w = .ok (.float .f64 ad) w := fun w => run_float_arith w .mul _ .f64 _ _ _ e3
      have m4 : ∀ w, (binOp .mul 135 (.float .f64 y) (.float .f64 u)).run Tryz.prog w = .ok (.float .f64 bc) w := fun w => run_float_arith w .mul _ .f64 _ _ _ e4
      have m5 : ∀ w, (binOp .sub 135 (.float .f64 ac) (.float .f64 bd)).run Tryz.prog w = .ok (.float .f64 re) w := fun w => run_float_arith w .sub _ .f64 _ _ _ e5
      have m6 : ∀ w, (binOp .add 135 (.float .f64 ad) (.float .f64 bc)).run Tryz.prog w = .ok (.float .f64 im) w := fun w => run_float_arith w .add _ .f64 _ _ _ e6
      have hdr : L.drop j = (c, d) :: L.drop (j + 1) := by rw [List.drop_eq_getElem_cons hjl, hz]
      have F5 := Lib.hid f5
      have F6 := Lib.hid f6
      have HDR := Lib.hid hdr
      clear e1 e2 e3 e4 e5 e6 f5 f6 hdr hu hv hfz hz hc hd hjl
      go_wp2_with (simp only [m1, m2, m3, m4, m5, m6])
      by_cases hfit : fitB (zmul (a, b) (c, d)) = true
      · have hm2 : Hid (mulL L (1, 0) = mulL (L.drop (j + 1)) (zmul (a, b) (c, d))) := by unfold Hid; rw [HM.out, HDR.out, mulL, if_pos hfit]
        have hfit2 := hfit
        simp only [fitB, decide_eq_true_eq] at hfit2
        refine (fit_yes re im _ _ F5.out F6.out hfit2 _).mono ?_
        rintro e w1 ⟨rfl, rfl⟩
        clear hfit2
        go_wp2_with fail
        go_roundg (gk - 1)
        case measure => omega
        case rel => exact ⟨rfl, j + 1, re, im, _, _, by omega, by go_num, rfl, F5.out, F6.out, hfit, hm2.out⟩
      · have hm2 : Hid (mulL L (1, 0) = none) := by unfold Hid; rw [HM.out, HDR.out, mulL, if_neg hfit]
        have hfit2 := hfit
        simp only [fitB, decide_eq_true_eq] at hfit2
        refine (fit_no re im _ _ F5.out F6.out hfit2 _).mono ?_
        rintro e w1 ⟨rfl, rfl⟩
        clear hfit2
        go_wp2_with fail
        go_ret2
        rw [hm2.out]
        exact ⟨⟨0, 0, rfl, isF_zero, isF_zero⟩, rfl⟩
    · have hm2 : Hid (mulL L (1, 0) = some (a, b)) := by
        unfold Hid
        rw [HM.out, List.drop_of_length_le (by rw [HL.out]; omega)]
        rfl
      go_wp2_with fail
      go_ret2
      rw [hm2.out]
      exact ⟨⟨x, y, rfl, HX.out, HY.out⟩, rfl⟩
end Go.Proofs.YtilajcibjlcffaaGreatDoor.Gau
