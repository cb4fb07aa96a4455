/- The laws DecSums and DecBack: the walks. -/
import Derived.Test.YtgmbfbddfjecpaaDoorDecG
set_option linter.unusedSimpArgs false
set_option linter.unusedVariables false
namespace Go.Proofs.YtgmbfbddfjecpaaDoor
open Go.RowKit

theorem same_yes (a e : Int) (w : World) : Calls Tryd.prog 18 #[.int .i64 a, .int .i64 e, .int .i64 a, .int .i64 e] w fun en w' => en = .returned (.bool true) ∧ w = w' := by
  go_enter Tryd.func18, Tryd.ntmps18
  go_wp2
  go_ret
  exact ⟨rfl, rfl⟩

set_option maxRecDepth 100000 in
set_option maxHeartbeats 1000000 in
theorem sums_walk (a b : Int) (ha1 : -9223372036854775808 ≤ a) (ha2 : a ≤ 9223372036854775807) (hb1 : -9223372036854775808 ≤ b) (hb2 : b ≤ 9223372036854775807) (w : World) (hsh : w.ShapedOpen Tryd.prog) :
    Calls Tryd.prog 7 #[.int .i64 a, .int .i64 b] w fun e w' => e = .returned (.bool true) ∧ Below w.heap.size w w' := by
  have C1 := Lib.hid (fun W => add_any a b ha1 ha2 hb1 hb2 W)
  have C2 := Lib.hid (fun W => refAdd_any a b false ha1 ha2 hb1 hb2 (a + b) rfl W)
  have C3 := Lib.hid (fun W => sub_any a b ha1 ha2 hb1 hb2 W)
  have C4 := Lib.hid (fun W => refAdd_any a b true ha1 ha2 hb1 hb2 (a - b) rfl W)
  have C5 := Lib.hid (fun W => neg_any a ha1 ha2 W)
  have C6 := Lib.hid (fun W => refAdd_any 0 a true (by omega) (by omega) ha1 ha2 (0 - a) rfl W)
  have HSH := Lib.hid hsh
  clear hsh ha1 ha2 hb1 hb2
  go_enter Tryd.func7, Tryd.ntmps7
  go_wp2_with fail
  refine (C1.out _).mono ?_
  rintro e w1 ⟨rfl, rfl⟩
  go_wp2_with fail
  refine (C2.out _).mono ?_
  rintro e w2 ⟨rfl, hb2⟩
  have hs2 := hb2.size
  go_wp2_with fail
  refine (C3.out _).mono ?_
  rintro e w3 ⟨rfl, rfl⟩
  go_wp2_with fail
  refine (C4.out _).mono ?_
  rintro e w4 ⟨rfl, hb4⟩
  have hs4 := hb4.size
  go_wp2_with fail
  refine (C5.out _).mono ?_
  rintro e w5 ⟨rfl, rfl⟩
  go_wp2_with fail
  refine (C6.out _).mono ?_
  rintro e w6 ⟨rfl, hb6⟩
  have hs6 := hb6.size
  have hbw : Below w.heap.size w w6 := bel_call hb6 (bel_call hb4 hb2 (by omega)) (by omega)
  go_wp2_with fail
  refine (same_yes _ _ _).mono ?_
  rintro e w7 ⟨rfl, rfl⟩
  go_wp2_with fail
  refine (same_yes _ _ _).mono ?_
  rintro e w8 ⟨rfl, rfl⟩
  go_wp2_with fail
  refine (same_yes _ _ _).mono ?_
  rintro e w9 ⟨rfl, rfl⟩
  go_wp2_with fail
  refine (awake_any _ (shaped_below HSH.out hbw)).mono ?_
  rintro e w10 ⟨rfl, hb10⟩
  go_wp2_with fail
  go_ret
  exact ⟨rfl, bel_call hb10 hbw (by omega)⟩

theorem inR_ok (z : Int) : -9223372036854775808 ≤ okV z ∧ okV z ≤ 9223372036854775807 := by
  by_cases h : -9223372036854775808 ≤ z ∧ z ≤ 9223372036854775807
  · rw [okV_yes h.1 h.2]; exact h
  · rw [okV_no (by omega)]; omega

/-- What coming back gives: the number itself where no error was told. -/
theorem back_add (a b : Int) (ha1 : -9223372036854775808 ≤ a) (ha2 : a ≤ 9223372036854775807) : ((okE (a + b) == 0) = true ∧ okV (okV (a + b) - b) = a ∧ okE (okV (a + b) - b) = 0) ∨ okE (a + b) = 31 := by
  by_cases h : -9223372036854775808 ≤ a + b ∧ a + b ≤ 9223372036854775807
  · left
    rw [okV_yes h.1 h.2, okE_yes h.1 h.2, show a + b - b = a from by omega, okV_yes ha1 ha2, okE_yes ha1 ha2]
    exact ⟨rfl, rfl, rfl⟩
  · right
    exact okE_no (by omega)
theorem back_sub (a b : Int) (ha1 : -9223372036854775808 ≤ a) (ha2 : a ≤ 9223372036854775807) : ((okE (a - b) == 0) = true ∧ okV (okV (a - b) + b) = a ∧ okE (okV (a - b) + b) = 0) ∨ okE (a - b) = 31 := by
  by_cases h : -9223372036854775808 ≤ a - b ∧ a - b ≤ 9223372036854775807
  · left
    rw [okV_yes h.1 h.2, okE_yes h.1 h.2, show a - b + b = a from by omega, okV_yes ha1 ha2, okE_yes ha1 ha2]
    exact ⟨rfl, rfl, rfl⟩
  · right
    exact okE_no (by omega)

set_option maxRecDepth 100000 in
set_option maxHeartbeats 2000000 in
theorem back_walk (a b : Int) (ha1 : -9223372036854775808 ≤ a) (ha2 : a ≤ 9223372036854775807) (hb1 : -9223372036854775808 ≤ b) (hb2 : b ≤ 9223372036854775807) (w : World) (hsh : w.ShapedOpen Tryd.prog) :
    Calls Tryd.prog 6 #[.int .i64 a, .int .i64 b] w fun e w' => e = .returned (.bool true) ∧ Below w.heap.size w w' := by
  have B1 := back_add a b ha1 ha2
  have B2 := back_sub a b ha1 ha2
  have C1 := Lib.hid (fun W => add_any a b ha1 ha2 hb1 hb2 W)
  have C2 := Lib.hid (fun W => sub_any a b ha1 ha2 hb1 hb2 W)
  have C3 := Lib.hid (fun W => sub_any (okV (a + b)) b (inR_ok _).1 (inR_ok _).2 hb1 hb2 W)
  have C4 := Lib.hid (fun W => add_any (okV (a - b)) b (inR_ok _).1 (inR_ok _).2 hb1 hb2 W)
  have HSH := Lib.hid hsh
  clear hsh ha1 ha2 hb1 hb2
  obtain ⟨x, hx⟩ : ∃ x, okV (a + b) = x := ⟨_, rfl⟩
  obtain ⟨y, hy⟩ : ∃ y, okV (a - b) = y := ⟨_, rfl⟩
  obtain ⟨e, he⟩ : ∃ e, okE (a + b) = e := ⟨_, rfl⟩
  obtain ⟨f, hf⟩ : ∃ f, okE (a - b) = f := ⟨_, rfl⟩
  rw [hx, he] at B1 C1
  rw [hx] at C3
  rw [hy, hf] at B2 C2
  rw [hy] at C4
  obtain ⟨z, hz⟩ : ∃ z, okV (x - b) = z := ⟨_, rfl⟩
  obtain ⟨g, hg⟩ : ∃ g, okE (x - b) = g := ⟨_, rfl⟩
  obtain ⟨u, hu⟩ : ∃ u, okV (y + b) = u := ⟨_, rfl⟩
  obtain ⟨k, hk⟩ : ∃ k, okE (y + b) = k := ⟨_, rfl⟩
  rw [hz, hg] at B1 C3
  rw [hu, hk] at B2 C4
  clear hx hy he hf hz hg hu hk
  rcases B1 with ⟨b1, rfl, rfl⟩ | rfl
  all_goals rcases B2 with ⟨b2, rfl, rfl⟩ | rfl
  all_goals try (have b1' : e = 0 := by simpa using b1); try subst b1'; try clear b1
  all_goals try (have b2' : f = 0 := by simpa using b2); try subst b2'; try clear b2
  all_goals
    go_enter Tryd.func6, Tryd.ntmps6
    go_wp2_with fail
    refine (C1.out _).mono ?_
    rintro e w1 ⟨rfl, rfl⟩
    go_wp2_with fail
    refine (C2.out _).mono ?_
    rintro e w2 ⟨rfl, rfl⟩
    go_wp2_with fail
    refine (C3.out _).mono ?_
    rintro e w3 ⟨rfl, rfl⟩
    go_wp2_with fail
    refine (C4.out _).mono ?_
    rintro e w4 ⟨rfl, rfl⟩
    go_wp2_with fail
    refine (awake_any _ HSH.out).mono ?_
    rintro e w5 ⟨rfl, hb5⟩
    go_wp2_with fail
    go_ret
    exact ⟨rfl, hb5⟩
end Go.Proofs.YtgmbfbddfjecpaaDoor
