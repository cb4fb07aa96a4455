/- strings.IndexRune of csv's four signs, at every rune. -/
import Derived.Test.YthgeajmggbakbaaDoorCsvP
import Derived.Test.YthgeajmggbakbaaDoorShelf
import Derived.Laws.Runes
import Derived.Laws.RangeString
import Derived.Laws.RangeAny
import Derived.Scope
import Derived.Outline
set_option linter.unusedSimpArgs false
set_option linter.unusedVariables false
namespace Go.Proofs.YthgeajmggbakbaaDoor
open Go.RowKit

/-- Where a rune stands among the four signs. -/
def csR (r : Int) : Int := if r = 44 then 0 else if r = 34 then 1 else if r = 13 then 2 else if r = 10 then 3 else -1

set_option maxRecDepth 100000 in
theorem cs_ascii : ∀ r : Fin 128, Lib.indexByte (⟨#[44, 34, 13, 10]⟩ : ByteArray).data.toList ((r.val : Int)).toNat.toUInt8 = csR (r.val : Int) := by decide
theorem ib_high (l : List UInt8) (x : UInt8) (hx : 128 ≤ x.toNat) (hl : ∀ b ∈ l, b.toNat < 128) : Lib.indexByte l (((x.toNat : Nat) : Int)).toNat.toUInt8 = -1 := by
  have e : (((x.toNat : Nat) : Int)).toNat.toUInt8 = x := by simp
  rw [e]
  induction l with
  | nil => rfl
  | cons b l ih =>
    have hb := hl b (by simp)
    have hne : (b == x) = false := by
      rw [beq_eq_false_iff_ne]
      rintro rfl
      omega
    unfold Lib.indexByte
    rw [hne, ih (fun c hc => hl c (by simp [hc]))]
    rfl
theorem quiet_add_same2 {P : Program} {f : FuncId} {args : Array Value} {w : World} {a n : Nat} {v : Value}
    (h : Calls P f args (w.drewN (a + n)) fun e w' => e = .returned v ∧ w' = w.drewN (a + n)) :
    Calls P f args (w.drewN (a + n)) fun e w'' => e = .returned v ∧ ∃ m, w'' = w.drewN (a + m) :=
  h.mono fun _ _ ⟨he, hm⟩ => ⟨he, n, hm⟩
set_option maxRecDepth 100000 in
set_option maxHeartbeats 4000000 in
theorem indexRune_cs (r : Int) (h1 : -2147483648 ≤ r) (h2 : r ≤ 2147483647) (w : World) :
    Calls Tryd.prog 41 #[.string ⟨#[44, 34, 13, 10]⟩, .int .i32 r] w fun e w' => e = .returned (.int .i64 (csR r)) ∧ Below w.heap.size w w' := by
  by_cases ha : 0 ≤ r ∧ r < 128
  · have := cs_ascii ⟨r.toNat, by omega⟩
    have e : ((r.toNat : Nat) : Int) = r := by omega
    simp only [e] at this
    rw [← this]
    exact (Tryd.strings_IndexRune_ascii ⟨#[44, 34, 13, 10]⟩ r w ha.1 ha.2).mono fun e w' ⟨h1, h2⟩ => ⟨h1, by rw [h2]; exact Below.refl _ _⟩
  · have hp : csR r = -1 := by unfold csR; rw [if_neg (by omega), if_neg (by omega), if_neg (by omega), if_neg (by omega)]
    rw [hp]
    by_cases he : r = 65533
    · subst he
      have n0 := fun ty => run_next_ascii (P := Tryd.prog) w ⟨#[44, 34, 13, 10]⟩ 0 ty (by decide) (by decide)
      have g0 : ((⟨#[44, 34, 13, 10]⟩ : ByteArray)[0]'(by decide)).toNat = 44 := rfl
      rw [g0] at n0
      clear g0
      have n1 := fun ty => run_next_ascii (P := Tryd.prog) w ⟨#[44, 34, 13, 10]⟩ 1 ty (by decide) (by decide)
      have g1 : ((⟨#[44, 34, 13, 10]⟩ : ByteArray)[1]'(by decide)).toNat = 34 := rfl
      rw [g1] at n1
      clear g1
      have n2 := fun ty => run_next_ascii (P := Tryd.prog) w ⟨#[44, 34, 13, 10]⟩ 2 ty (by decide) (by decide)
      have g2 : ((⟨#[44, 34, 13, 10]⟩ : ByteArray)[2]'(by decide)).toNat = 13 := rfl
      rw [g2] at n2
      clear g2
      have n3 := fun ty => run_next_ascii (P := Tryd.prog) w ⟨#[44, 34, 13, 10]⟩ 3 ty (by decide) (by decide)
      have g3 : ((⟨#[44, 34, 13, 10]⟩ : ByteArray)[3]'(by decide)).toNat = 10 := rfl
      rw [g3] at n3
      clear g3
      have n4 := fun ty => run_next_end (P := Tryd.prog) w ⟨#[44, 34, 13, 10]⟩ 4 ty (by decide)
      go_enter Tryd.func41, Tryd.ntmps41
      go_wp2_with fail
      refine wp_loop_rounds 5 ?_
      rw [rounds_succ]
      go_wp2_with fail
      rw [rounds_succ]
      go_wp2_with fail
      rw [rounds_succ]
      go_wp2_with fail
      rw [rounds_succ]
      go_wp2_with fail
      rw [rounds_succ]
      go_wp2_with fail
      go_ret
      exact ⟨rfl, Below.alloc (Below.refl _ _) (Nat.le_refl _) _⟩
    · have he2 : (r == 65533) = false := by simp [he]
      by_cases hneg : r < 0
      · have HVR := Lib.hid (fun W => Tryd.utf8_ValidRune r W)
        have hv : Lib.validRune r = false := by
          unfold Lib.validRune
          simp
          omega
        rw [hv] at HVR
        go_enter Tryd.func41, Tryd.ntmps41
        go_wp2_with fail
        refine (HVR.out _).mono ?_
        rintro e w1 ⟨rfl, rfl⟩
        go_wp2_with fail
        go_ret
        exact ⟨rfl, Below.refl _ _⟩
      · by_cases hv : Lib.validRune r = true
        · have HVR := Lib.hid (fun W => Tryd.utf8_ValidRune r W)
          rw [hv] at HVR
          have hv2 : Utf8.valid r = true := by
            unfold Lib.validRune at hv
            unfold Utf8.valid
            simp at hv ⊢
            omega
          obtain ⟨z2, z4, hb⟩ := encode_facts r hv2 (by omega)
          obtain ⟨E, hE⟩ : ∃ E, Utf8.encode r = E := ⟨_, rfl⟩
          rw [hE] at z2 z4 hb
          have hcv : ∀ W, (convert 21 9 (.int .i32 r)).run Tryd.prog W = .ok (.string E) W := fun W => by
            rw [← hE]
            exact run_convert_int_string W _ _ .i32 r (by rw [Tryd.underlying21]; rfl) Tryd.underlying9
          have hsz : (⟨#[44, 34, 13, 10]⟩ : ByteArray).size = 4 := rfl
          clear hE
          obtain h2 | h2 | h2 : E.size = 2 ∨ E.size = 3 ∨ E.size = 4 := by omega
          · have hlt : 1 < E.size := by omega
            have hb2 := hb (by omega)
            have hb1 : 128 ≤ (E[1]'hlt).toNat := by
              have e : E.size - 1 = 1 := by omega
              simpa only [e] using hb2
            have hx : (⟨#[44, 34, 13, 10]⟩ : ByteArray).extract 2 4 = ⟨#[13, 10]⟩ := rfl
            have HI : Hid (∀ W, Calls Tryd.prog 52 #[.string ⟨#[13, 10]⟩, .int .u8 (((E[1]'hlt).toNat : Nat) : Int)] W fun e w' => e = .returned (.int .i64 (-1)) ∧ w' = W) := fun W => (Tryd.strings_IndexByte ⟨#[13, 10]⟩ (((E[1]'hlt).toNat : Nat) : Int) W).mono (fun e w' h => ⟨h.1.trans (by rw [ib_high _ _ hb1 (by decide)]), h.2⟩)
            have hne2 : (((((⟨#[44, 34, 13, 10]⟩ : ByteArray)[1]'(by decide)).toNat : Nat) : Int) != (((E[1]'hlt).toNat : Nat) : Int)) = true := by show ((34 : Int) != _) = true; simp; omega
            have hne3 : ¬ ((34 : Int) = (((E[1]'hlt).toNat : Nat) : Int)) := by omega
            have hne : ((34 : Int) == (((E[1]'hlt).toNat : Nat) : Int)) = false := by simp; omega
            have hez : (E.size : Int) - 1 = 1 := by omega
            clear hb hb2
            go_enter Tryd.func41, Tryd.ntmps41
            go_wp2_with fail
            refine (HVR.out _).mono ?_
            rintro e w1 ⟨rfl, rfl⟩
            go_wp2_with fail
            refine wp_scope_straight ?_
            go_wp2_with fail
            refine wp_loop_rounds 1 ?_
            rw [rounds_succ]
            go_wp2_with fail
            refine wp_scope_straight ?_
            go_wp2_with fail
            go_quiet (fail)
            go_wp2_with fail
            go_quiet ((exact quiet_add_same2 (HI.out _)))
            go_wp2_with fail
            rw [Exit.noGoto_ret]
            go_wp2_with fail
            rw [Exit.noGoto_ret]
            go_ret
            exact ⟨rfl, by (repeat' (first | (with_reducible exact Below.refl _ _) | (with_reducible assumption) | (with_reducible refine Below.alloc ?_ ?_ _) | (with_reducible refine bel_drewN ?_ _) | (with_reducible refine Below.drew ?_) | (with_reducible refine Below.setCell ?_ ?_ _) | (with_reducible refine bel_call ‹_› ?_ ?_) | go_size))⟩
          · have hlt : 2 < E.size := by omega
            have hb2 := hb (by omega)
            have hb1 : 128 ≤ (E[2]'hlt).toNat := by
              have e : E.size - 1 = 2 := by omega
              simpa only [e] using hb2
            have hx : (⟨#[44, 34, 13, 10]⟩ : ByteArray).extract 3 4 = ⟨#[10]⟩ := rfl
            have HI : Hid (∀ W, Calls Tryd.prog 52 #[.string ⟨#[10]⟩, .int .u8 (((E[2]'hlt).toNat : Nat) : Int)] W fun e w' => e = .returned (.int .i64 (-1)) ∧ w' = W) := fun W => (Tryd.strings_IndexByte ⟨#[10]⟩ (((E[2]'hlt).toNat : Nat) : Int) W).mono (fun e w' h => ⟨h.1.trans (by rw [ib_high _ _ hb1 (by decide)]), h.2⟩)
            have hne2 : (((((⟨#[44, 34, 13, 10]⟩ : ByteArray)[2]'(by decide)).toNat : Nat) : Int) != (((E[2]'hlt).toNat : Nat) : Int)) = true := by show ((13 : Int) != _) = true; simp; omega
            have hne3 : ¬ ((13 : Int) = (((E[2]'hlt).toNat : Nat) : Int)) := by omega
            have hne : ((13 : Int) == (((E[2]'hlt).toNat : Nat) : Int)) = false := by simp; omega
            have hez : (E.size : Int) - 1 = 2 := by omega
            clear hb hb2
            go_enter Tryd.func41, Tryd.ntmps41
            go_wp2_with fail
            refine (HVR.out _).mono ?_
            rintro e w1 ⟨rfl, rfl⟩
            go_wp2_with fail
            refine wp_scope_straight ?_
            go_wp2_with fail
            refine wp_loop_rounds 1 ?_
            rw [rounds_succ]
            go_wp2_with fail
            refine wp_scope_straight ?_
            go_wp2_with fail
            go_quiet (fail)
            go_wp2_with fail
            go_quiet ((exact quiet_add_same2 (HI.out _)))
            go_wp2_with fail
            rw [Exit.noGoto_ret]
            go_wp2_with fail
            rw [Exit.noGoto_ret]
            go_ret
            exact ⟨rfl, by (repeat' (first | (with_reducible exact Below.refl _ _) | (with_reducible assumption) | (with_reducible refine Below.alloc ?_ ?_ _) | (with_reducible refine bel_drewN ?_ _) | (with_reducible refine Below.drew ?_) | (with_reducible refine Below.setCell ?_ ?_ _) | (with_reducible refine bel_call ‹_› ?_ ?_) | go_size))⟩
          · have hlt : 3 < E.size := by omega
            have hb2 := hb (by omega)
            have hb1 : 128 ≤ (E[3]'hlt).toNat := by
              have e : E.size - 1 = 3 := by omega
              simpa only [e] using hb2
            have hx : (⟨#[44, 34, 13, 10]⟩ : ByteArray).extract 4 4 = ⟨#[]⟩ := rfl
            have HI : Hid (∀ W, Calls Tryd.prog 52 #[.string ⟨#[]⟩, .int .u8 (((E[3]'hlt).toNat : Nat) : Int)] W fun e w' => e = .returned (.int .i64 (-1)) ∧ w' = W) := fun W => (Tryd.strings_IndexByte ⟨#[]⟩ (((E[3]'hlt).toNat : Nat) : Int) W).mono (fun e w' h => ⟨h.1.trans (by rw [ib_high _ _ hb1 (by decide)]), h.2⟩)
            have hne2 : (((((⟨#[44, 34, 13, 10]⟩ : ByteArray)[3]'(by decide)).toNat : Nat) : Int) != (((E[3]'hlt).toNat : Nat) : Int)) = true := by show ((10 : Int) != _) = true; simp; omega
            have hne3 : ¬ ((10 : Int) = (((E[3]'hlt).toNat : Nat) : Int)) := by omega
            have hne : ((10 : Int) == (((E[3]'hlt).toNat : Nat) : Int)) = false := by simp; omega
            have hez : (E.size : Int) - 1 = 3 := by omega
            clear hb hb2
            go_enter Tryd.func41, Tryd.ntmps41
            go_wp2_with fail
            refine (HVR.out _).mono ?_
            rintro e w1 ⟨rfl, rfl⟩
            go_wp2_with fail
            refine wp_scope_straight ?_
            go_wp2_with fail
            refine wp_loop_rounds 1 ?_
            rw [rounds_succ]
            go_wp2_with fail
            refine wp_scope_straight ?_
            go_wp2_with fail
            go_quiet (fail)
            go_wp2_with fail
            go_quiet ((exact quiet_add_same2 (HI.out _)))
            go_wp2_with fail
            rw [Exit.noGoto_ret]
            go_wp2_with fail
            rw [Exit.noGoto_ret]
            go_ret
            exact ⟨rfl, by (repeat' (first | (with_reducible exact Below.refl _ _) | (with_reducible assumption) | (with_reducible refine Below.alloc ?_ ?_ _) | (with_reducible refine bel_drewN ?_ _) | (with_reducible refine Below.drew ?_) | (with_reducible refine Below.setCell ?_ ?_ _) | (with_reducible refine bel_call ‹_› ?_ ?_) | go_size))⟩
        · have HVR := Lib.hid (fun W => Tryd.utf8_ValidRune r W)
          rw [show Lib.validRune r = false from by simpa using hv] at HVR
          go_enter Tryd.func41, Tryd.ntmps41
          go_wp2_with fail
          refine (HVR.out _).mono ?_
          rintro e w1 ⟨rfl, rfl⟩
          go_wp2_with fail
          go_ret
          exact ⟨rfl, Below.refl _ _⟩
end Go.Proofs.YthgeajmggbakbaaDoor
