/- strings.LastIndexAny of the two signs, at every string. -/
import Derived.Test.YtaocbebgdbeffaaDoorGauN
import Derived.Laws.Runes
import Derived.Laws.RangeString
import Derived.Scope
import Derived.Outline
set_option linter.unusedSimpArgs false
set_option linter.unusedVariables false
namespace Go.Proofs.YtaocbebgdbeffaaDoor
open Go.RowKit

/-- Where a rune stands among the two signs. -/
def pmR (r : Int) : Int := if r = 43 then 0 else if r = 45 then 1 else -1

set_option maxRecDepth 100000 in
theorem pm_ascii : ∀ r : Fin 128, Lib.indexByte (⟨#[43, 45]⟩ : ByteArray).data.toList ((r.val : Int)).toNat.toUInt8 = pmR (r.val : Int) := by decide

theorem quiet_add_same2 {P : Program} {f : FuncId} {args : Array Value} {w : World} {a n : Nat} {v : Value}
    (h : Calls P f args (w.drewN (a + n)) fun e w' => e = .returned v ∧ w' = w.drewN (a + n)) :
    Calls P f args (w.drewN (a + n)) fun e w'' => e = .returned v ∧ ∃ m, w'' = w.drewN (a + m) :=
  h.mono fun _ _ ⟨he, hm⟩ => ⟨he, n, hm⟩
set_option maxRecDepth 100000 in
set_option maxHeartbeats 2000000 in
theorem indexRune_pm (r : Int) (h1 : -2147483648 ≤ r) (h2 : r ≤ 2147483647) (w : World) :
    Calls Tryd.prog 34 #[.string ⟨#[43, 45]⟩, .int .i32 r] w fun e w' => e = .returned (.int .i64 (pmR r)) ∧ Below w.heap.size w w' := by
  by_cases ha : 0 ≤ r ∧ r < 128
  · have := pm_ascii ⟨r.toNat, by omega⟩
    have e : ((r.toNat : Nat) : Int) = r := by omega
    simp only [e] at this
    rw [← this]
    exact (Tryd.strings_IndexRune_ascii ⟨#[43, 45]⟩ r w ha.1 ha.2).mono fun e w' ⟨h1, h2⟩ => ⟨h1, by rw [h2]; exact Below.refl _ _⟩
  · have hp : pmR r = -1 := by unfold pmR; rw [if_neg (by omega), if_neg (by omega)]
    rw [hp]
    by_cases he : r = 65533
    · subst he
      have n0 := fun ty => run_next_ascii (P := Tryd.prog) w ⟨#[43, 45]⟩ 0 ty (by decide) (by decide)
      have n1 := fun ty => run_next_ascii (P := Tryd.prog) w ⟨#[43, 45]⟩ 1 ty (by decide) (by decide)
      have n2 := fun ty => run_next_end (P := Tryd.prog) w ⟨#[43, 45]⟩ 2 ty (by decide)
      have g0 : ((⟨#[43, 45]⟩ : ByteArray)[0]'(by decide)).toNat = 43 := rfl
      have g1 : ((⟨#[43, 45]⟩ : ByteArray)[1]'(by decide)).toNat = 45 := rfl
      rw [g0] at n0
      rw [g1] at n1
      clear g0 g1
      go_enter Tryd.func34, Tryd.ntmps34
      go_wp2_with fail
      refine wp_loop_rounds 3 ?_
      rw [rounds_succ]
      go_wp2_with fail
      rw [rounds_succ]
      go_wp2_with fail
      rw [rounds_succ]
      go_wp2_with fail
      go_ret
      exact ⟨rfl, Below.alloc (Below.refl _ _) (Nat.le_refl _) _⟩
    · have he2 : (r == 65533) = false := by simp [he]
      by_cases hneg : r < 0
      · have HVR := Lib.hid (fun W => Tryd.utf8_ValidRune r W)
        have hv : Lib.validRune r = false := by
          unfold Lib.validRune
          simp
          omega
        rw [hv] at HVR
        go_enter Tryd.func34, Tryd.ntmps34
        go_wp2_with fail
        refine (HVR.out _).mono ?_
        rintro e w1 ⟨rfl, rfl⟩
        go_wp2_with fail
        go_ret
        exact ⟨rfl, Below.refl _ _⟩
      · by_cases hv : Lib.validRune r = true
        · have HVR := Lib.hid (fun W => Tryd.utf8_ValidRune r W)
          rw [hv] at HVR
          have hv2 : Utf8.valid r = true := by
            unfold Lib.validRune at hv
            unfold Utf8.valid
            simp at hv ⊢
            omega
          obtain ⟨z2, z4, hb⟩ := encode_facts r hv2 (by omega)
          obtain ⟨E, hE⟩ : ∃ E, Utf8.encode r = E := ⟨_, rfl⟩
          rw [hE] at z2 z4 hb
          have hcv : ∀ W, (convert 21 9 (.int .i32 r)).run Tryd.prog W = .ok (.string E) W := fun W => by
            rw [← hE]
            exact run_convert_int_string W _ _ .i32 r (by rw [Tryd.underlying21]; rfl) Tryd.underlying9
          have hsz : (⟨#[43, 45]⟩ : ByteArray).size = 2 := rfl
          clear hE
          by_cases h2 : E.size = 2
          · have hlt : 1 < E.size := by omega
            have hb2 := hb (by omega)
            have hb1 : 128 ≤ (E[1]'hlt).toNat := by
              have e : E.size - 1 = 1 := by omega
              simpa only [e] using hb2
            have hx : (⟨#[43, 45]⟩ : ByteArray).extract 2 2 = ⟨#[]⟩ := rfl
            have HI : Hid (∀ W, Calls Tryd.prog 43 #[.string ⟨#[]⟩, .int .u8 (((E[1]'hlt).toNat : Nat) : Int)] W fun e w' => e = .returned (.int .i64 (-1)) ∧ w' = W) := fun W => (Tryd.strings_IndexByte ⟨#[]⟩ (((E[1]'hlt).toNat : Nat) : Int) W).mono (fun e w' h => ⟨h.1.trans (by rfl), h.2⟩)
            have hne : ((45 : Int) == (((E[1]'hlt).toNat : Nat) : Int)) = false := by simp; omega
            have hne3 : ¬ ((45 : Int) = (((E[1]'hlt).toNat : Nat) : Int)) := by omega
            have hne2 : (((((⟨#[43, 45]⟩ : ByteArray)[1]'(by decide)).toNat : Nat) : Int) != (((E[1]'hlt).toNat : Nat) : Int)) = true := by show ((45 : Int) != _) = true; simp; omega
            clear hb hb2
            go_enter Tryd.func34, Tryd.ntmps34
            go_wp2_with fail
            refine (HVR.out _).mono ?_
            rintro e w1 ⟨rfl, rfl⟩
            go_wp2_with fail
            refine wp_scope_straight ?_
            go_wp2_with fail
            refine wp_loop_rounds 1 ?_
            rw [rounds_succ]
            go_wp2_with fail
            refine wp_scope_straight ?_
            go_wp2_with fail
            go_quiet (fail)
            go_wp2_with fail
            go_quiet ((exact quiet_add_same2 (HI.out _)))
            go_wp2_with fail
            rw [Exit.noGoto_ret]
            go_wp2_with fail
            rw [Exit.noGoto_ret]
            go_ret
            exact ⟨rfl, by (repeat' (first | (with_reducible exact Below.refl _ _) | (with_reducible assumption) | (with_reducible refine Below.alloc ?_ ?_ _) | (with_reducible refine bel_drewN ?_ _) | (with_reducible refine Below.drew ?_) | (with_reducible refine Below.setCell ?_ ?_ _) | (with_reducible refine bel_call ‹_› ?_ ?_) | go_size))⟩
          · have h3 : 2 < E.size := by omega
            clear hb
            have h3i : 2 ≤ (E.size : Int) - 1 := by omega
            have h3j : ¬ (E.size : Int) - 1 < 2 := by omega
            go_enter Tryd.func34, Tryd.ntmps34
            go_wp2_with fail
            refine (HVR.out _).mono ?_
            rintro e w1 ⟨rfl, rfl⟩
            go_wp2_with fail
            refine wp_scope_straight ?_
            go_wp2_with fail
            refine wp_loop_rounds 1 ?_
            rw [rounds_succ]
            go_wp2_with fail
            repeat rw [Exit.noGoto_ret]
            go_ret
            exact ⟨rfl, Below.refl _ _⟩
        · have HVR := Lib.hid (fun W => Tryd.utf8_ValidRune r W)
          rw [show Lib.validRune r = false from by simpa using hv] at HVR
          go_enter Tryd.func34, Tryd.ntmps34
          go_wp2_with fail
          refine (HVR.out _).mono ?_
          rintro e w1 ⟨rfl, rfl⟩
          go_wp2_with fail
          go_ret
          exact ⟨rfl, Below.refl _ _⟩
end Go.Proofs.YtaocbebgdbeffaaDoor
