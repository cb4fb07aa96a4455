/- The laws DecProducts and DecWholes: the walks. -/
import Derived.Test.YtgmbfbddfjecpaaDoorDivD
import Derived.Test.YtgmbfbddfjecpaaDoorDecH
set_option linter.unusedSimpArgs false
set_option linter.unusedVariables false
namespace Go.Proofs.YtgmbfbddfjecpaaDoor
open Go.RowKit

set_option maxRecDepth 100000 in
set_option maxHeartbeats 1000000 in
theorem products_walk (a b : Int) (ha1 : -9223372036854775808 ≤ a) (ha2 : a ≤ 9223372036854775807) (hb1 : -9223372036854775808 ≤ b) (hb2 : b ≤ 9223372036854775807) (w : World) (hsh : w.ShapedOpen Tryd.prog) :
    Calls Tryd.prog 4 #[.int .i64 a, .int .i64 b] w fun e w' => e = .returned (.bool true) ∧ Below w.heap.size w w' := by
  have C1 := Lib.hid (fun W => mul_any a b ha1 ha2 hb1 hb2 W)
  have C2 := Lib.hid (fun W => refMul_any a b ha1 ha2 hb1 hb2 W)
  obtain ⟨z, u, C3, C4⟩ : ∃ z u, Hid (∀ W, Calls Tryd.prog 16 #[.int .i64 a, .int .i64 b] W fun e w' => e = .returned (.tuple #[.int .i64 z, .int .i64 u]) ∧ Below W.heap.size W w') ∧ Hid (∀ W, Calls Tryd.prog 17 #[.int .i64 a, .int .i64 b] W fun e w' => e = .returned (.tuple #[.int .i64 z, .int .i64 u]) ∧ Below W.heap.size W w') := by
    cases h0 : (b == 0)
    · exact ⟨_, _, fun W => div_any a b ha1 ha2 hb1 hb2 h0 W, fun W => refDiv_any a b ha1 ha2 hb1 hb2 h0 W⟩
    · have e : b = 0 := by simpa using h0
      subst e
      refine ⟨0, 32, fun W => (div_zero a W).mono ?_, fun W => (refDiv_zero a W).mono ?_⟩
      · rintro e w1 ⟨rfl, rfl⟩
        exact ⟨rfl, Below.refl _ _⟩
      · rintro e w1 ⟨rfl, rfl⟩
        exact ⟨rfl, Below.refl _ _⟩
  have HSH := Lib.hid hsh
  clear hsh ha1 ha2 hb1 hb2
  go_enter Tryd.func4, Tryd.ntmps4
  go_wp2_with fail
  refine (C1.out _).mono ?_
  rintro e w1 ⟨rfl, hb1⟩
  have hs1 := hb1.size
  go_wp2_with fail
  refine (C2.out _).mono ?_
  rintro e w2 ⟨rfl, hb2⟩
  have hs2 := hb2.size
  go_wp2_with fail
  refine (C3.out _).mono ?_
  rintro e w3 ⟨rfl, hb3⟩
  have hs3 := hb3.size
  go_wp2_with fail
  refine (C4.out _).mono ?_
  rintro e w4 ⟨rfl, hb4⟩
  have hs4 := hb4.size
  have hbw : Below w.heap.size w w4 := bel_call hb4 (bel_call hb3 (bel_call hb2 hb1 (by omega)) (by omega)) (by omega)
  go_wp2_with fail
  refine (same_yes _ _ _).mono ?_
  rintro e w7 ⟨rfl, rfl⟩
  go_wp2_with fail
  refine (same_yes _ _ _).mono ?_
  rintro e w8 ⟨rfl, rfl⟩
  go_wp2_with fail
  refine (awake_any _ (shaped_below HSH.out hbw)).mono ?_
  rintro e w10 ⟨rfl, hb10⟩
  go_wp2_with fail
  go_ret
  exact ⟨rfl, bel_call hb10 hbw (by omega)⟩

set_option maxHeartbeats 1000000 in
theorem whole_any (a : Int) (ha1 : -9223372036854775808 ≤ a) (ha2 : a ≤ 9223372036854775807) (w : World) :
    Calls Tryd.prog 24 #[.int .i64 a] w fun e w' => e = .returned (.tuple #[.int .i64 ((a.tdiv 1000000)), .bool (a.tmod 1000000 == 0)]) ∧ w = w' := by
  go_enter Tryd.func24, Tryd.ntmps24
  go_wp2_with fail
  go_ret2
  exact ⟨rfl, rfl⟩

set_option maxRecDepth 100000 in
set_option maxHeartbeats 1000000 in
theorem wholes_walk (n a : Int) (hn1 : -9223372036854775808 ≤ n) (hn2 : n ≤ 9223372036854775807) (ha1 : -9223372036854775808 ≤ a) (ha2 : a ≤ 9223372036854775807) (w : World) (hsh : w.ShapedOpen Tryd.prog) :
    Calls Tryd.prog 5 #[.int .i64 n, .int .i64 a] w fun e w' => e = .returned (.bool true) ∧ Below w.heap.size w w' := by
  have C1 := Lib.hid (fun W => decOf_any n hn1 hn2 W)
  have FA := Lib.hid (fun W => from_any n hn1 hn2 W)
  have la : (digs n.natAbs).length ≤ 20 := digs_length_le (by omega)
  have lp : (digs (n.natAbs * 1000000)).length ≤ 40 := prod_len (by omega) (by omega)
  obtain ⟨ma, hma⟩ : ∃ ma, decide (n < 0) = ma := ⟨_, rfl⟩
  obtain ⟨x, hx⟩ : ∃ x, n.natAbs = x := ⟨_, rfl⟩
  rw [hma, hx] at C1 FA
  rw [hx] at la lp
  have HMA := Lib.hid hma
  have LP := Lib.hid lp
  have HO := Lib.hid (fun W => of_digs 1000000 (by omega) W)
  have LU := Lib.hid (show (digs 1000000).length ≤ 7 from digs_length_le (by decide))
  have HSH := Lib.hid hsh
  clear hsh hn1 hn2 hx lp
  go_enter Tryd.func5, Tryd.ntmps5
  go_wp2_with fail
  refine (C1.out _).mono ?_
  rintro e w1 ⟨rfl, hb1⟩
  have hs1 := hb1.size
  go_wp2_with fail
  refine (FA.out _).mono ?_
  rintro e w2 ⟨p1, n1, c1, rfl, h1, hb2⟩
  have hs2 := hb2.size
  have hn1 : n1 ≤ 20 := by rw [← h1.len]; exact la
  have H1 := Lib.hid h1
  clear h1
  have hfl := field_N ma p1 n1 c1 w2
  go_wp2_with fail
  clear hfl
  refine (HO.out _).mono ?_
  rintro e w3 ⟨p2, n2, c2, rfl, h2, hb3, hf3⟩
  have hs3 := hb3.size
  have hn2 : n2 ≤ 7 := by rw [← h2.len]; exact LU.out
  have H2 := Lib.hid h2
  clear h2 hf3
  go_wp2_with fail
  refine (times_any p1 n1 c1 x p2 n2 c2 1000000 (by omega) (by omega) _ (H1.out.below hb3) H2.out).mono ?_
  rintro e w4 ⟨p3, n3, c3, rfl, h3, hb4, hf4⟩
  have hs4 := hb4.size
  have hn3 : n3 ≤ 40 := by rw [← h3.len]; exact LP.out
  have H3 := Lib.hid h3
  clear h3 hf4
  go_wp2_with fail
  refine (to_any ma p3 n3 c3 (x * 1000000) (by omega) _ H3.out).mono ?_
  rintro e w5 ⟨rfl, hb5⟩
  have hs5 := hb5.size
  rw [toV_is, toE_is]
  have hbw : Below w.heap.size w w5 := bel_call hb5 (bel_call hb4 (bel_call hb3 (bel_call hb2 hb1 (by omega)) (by omega)) (by omega)) (by omega)
  clear hb1 hb2 hb3 hb4 hb5
  go_wp2_with fail
  refine (whole_any a ha1 ha2 _).mono ?_
  rintro e w6 ⟨rfl, rfl⟩
  go_wp2_with fail
  refine (same_yes _ _ _).mono ?_
  rintro e w8 ⟨rfl, rfl⟩
  go_wp2_with fail
  refine (awake_any _ (shaped_below HSH.out hbw)).mono ?_
  rintro e w10 ⟨rfl, hb10⟩
  go_wp2_with fail
  go_ret
  exact ⟨rfl, bel_call hb10 hbw (by omega)⟩
end Go.Proofs.YtgmbfbddfjecpaaDoor
