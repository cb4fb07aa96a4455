/- The law's helper awake: Substitute and Distance at the chapter's examples. -/
import Derived.Test.YtcmpeppjopdeaaaDoorStrB
import Derived.Test.YtcmpeppjopdeaaaDoorStrW
set_option linter.unusedSimpArgs false
set_option linter.unusedVariables false

namespace Go.Proofs.YtcmpeppjopdeaaaDoor
open Go.RowKit

theorem idx_at (s : ByteArray) (c : UInt8) (z : Int) (h : Lib.indexByte s.data.toList c = z) (w : World) :
    Calls Tryd.prog 19 #[.string s, .string ⟨#[c]⟩] w fun e w' => e = .returned (.int .i64 z) ∧ w = w' := by
  subst h
  exact (Tryd.strings_Index_one s c w).mono fun e w' h => ⟨h.1, h.2.symm⟩
set_option maxRecDepth 100000 in
set_option maxHeartbeats 2000000 in
theorem subst_aw (w : World) : Calls Tryd.prog 11 #[.string ⟨#[97, 45, 98, 45, 99]⟩, .string ⟨#[45]⟩, .string ⟨#[43]⟩, .int .i64 2] w fun e w' => e = .returned (.tuple #[.string ⟨#[97, 45, 98, 43, 99]⟩, .int .i64 0]) ∧ Below w.heap.size w w' := by
  go_enter Tryd.func11, Tryd.ntmps11
  go_wp2_with fail
  have HI0 := Lib.hid (bd_fresh w.heap.size w (Nat.le_refl _))
  have hz0 : w.heap.size < (w.alloc (.cells #[.pointer none, .slice none 0 0] tBd)).heap.size := by simp
  have HB0 : Hid (Below w.heap.size w (w.alloc (.cells #[.pointer none, .slice none 0 0] tBd))) := (Below.refl _ _).alloc (Nat.le_refl _) _
  generalize w.alloc (.cells #[.pointer none, .slice none 0 0] tBd) = w0 at HI0 hz0 HB0 ⊢
  refine wp_loop_rounds 3 ?_
  rw [rounds_succ]
  go_wp2_with fail
  refine (idx_at _ 45 1 (by decide) _).mono ?_
  rintro e w1 ⟨rfl, rfl⟩
  go_wp2_with fail
  refine (write_at w.heap.size w.heap.size [] _ _ HI0.out (by decide) (by omega)).mono ?_
  rintro e w2 ⟨rfl, hI2, hb2⟩
  have HB2 : Hid (Below w.heap.size w w2) := HB0.out.trans hb2
  have HI2 : Hid (Lib.IsBuilder tBd 5 w.heap.size w.heap.size (Lib.byteCells [97]) w2) := hI2
  have hz2 := hb2.size
  clear hI2 hb2
  go_wp2_with fail
  refine (write_at w.heap.size w.heap.size [97] _ _ HI2.out (by decide) (by omega)).mono ?_
  rintro e w3 ⟨rfl, hI3, hb3⟩
  have HB3 : Hid (Below w.heap.size w w3) := HB2.out.trans hb3
  have HI3 : Hid (Lib.IsBuilder tBd 5 w.heap.size w.heap.size (Lib.byteCells [97, 45]) w3) := hI3
  have hz3 := hb3.size
  clear hI3 hb3
  go_wp2_with fail
  refine (bdLen_any w.heap.size w.heap.size _ _ HI3.out).mono ?_
  rintro e w4 ⟨rfl, rfl⟩
  have e3 : (Lib.byteCells [97, 45]).length = 2 := rfl
  rw [e3]
  go_wp2_with fail
  rw [rounds_succ]
  go_wp2_with fail
  refine (idx_at _ 45 1 (by decide) _).mono ?_
  rintro e w1 ⟨rfl, rfl⟩
  go_wp2_with fail
  refine (write_at w.heap.size w.heap.size [97, 45] _ _ HI3.out (by decide) (by omega)).mono ?_
  rintro e w5 ⟨rfl, hI5, hb5⟩
  have HB5 : Hid (Below w.heap.size w w5) := HB3.out.trans hb5
  have HI5 : Hid (Lib.IsBuilder tBd 5 w.heap.size w.heap.size (Lib.byteCells [97, 45, 98]) w5) := hI5
  have hz5 := hb5.size
  clear hI5 hb5
  go_wp2_with fail
  refine (write_at w.heap.size w.heap.size [97, 45, 98] _ _ HI5.out (by decide) (by omega)).mono ?_
  rintro e w6 ⟨rfl, hI6, hb6⟩
  have HB6 : Hid (Below w.heap.size w w6) := HB5.out.trans hb6
  have HI6 : Hid (Lib.IsBuilder tBd 5 w.heap.size w.heap.size (Lib.byteCells [97, 45, 98, 43]) w6) := hI6
  have hz6 := hb6.size
  clear hI6 hb6
  go_wp2_with fail
  refine (bdLen_any w.heap.size w.heap.size _ _ HI6.out).mono ?_
  rintro e w4 ⟨rfl, rfl⟩
  have e6 : (Lib.byteCells [97, 45, 98, 43]).length = 4 := rfl
  rw [e6]
  go_wp2_with fail
  rw [rounds_succ]
  go_wp2_with fail
  refine (idx_at _ 45 (-1) (by decide) _).mono ?_
  rintro e w1 ⟨rfl, rfl⟩
  go_wp2_with fail
  refine (write_at w.heap.size w.heap.size [97, 45, 98, 43] _ _ HI6.out (by decide) (by omega)).mono ?_
  rintro e w7 ⟨rfl, hI7, hb7⟩
  have HB7 : Hid (Below w.heap.size w w7) := HB6.out.trans hb7
  have HI7 : Hid (Lib.IsBuilder tBd 5 w.heap.size w.heap.size (Lib.byteCells [97, 45, 98, 43, 99]) w7) := hI7
  have hz7 := hb7.size
  clear hI7 hb7
  go_wp2_with fail
  refine (bdLen_any w.heap.size w.heap.size _ _ HI7.out).mono ?_
  rintro e w4 ⟨rfl, rfl⟩
  have e7 : (Lib.byteCells [97, 45, 98, 43, 99]).length = 5 := rfl
  rw [e7]
  go_wp2_with fail
  refine (bd_string w.heap.size w.heap.size [97, 45, 98, 43, 99] _ HI7.out (by omega)).mono ?_
  rintro e w8 ⟨rfl, hb8⟩
  have HB8 : Hid (Below w.heap.size w w8) := HB7.out.trans hb8
  clear hb8
  go_wp2_with fail
  go_ret2
  exact ⟨rfl, HB8.out⟩

theorem lev_aw : lev (⟨#[107, 105, 116, 116, 101, 110]⟩ : ByteArray).data.toList (⟨#[115, 105, 116, 116, 105, 110, 103]⟩ : ByteArray).data.toList 6 7 = 3 := by decide +kernel
set_option maxRecDepth 100000 in
set_option maxHeartbeats 1000000 in
theorem awake_any (w : World) : Calls Tryd.prog 4 #[] w fun e w' => e = .returned (.bool true) ∧ Below w.heap.size w w' := by
  go_enter Tryd.func4, Tryd.ntmps4
  go_wp2_with fail
  refine (subst_aw _).mono ?_
  rintro e w1 ⟨rfl, hb1⟩
  have HB1 := Lib.hid hb1
  have hz1 := hb1.size
  clear hb1
  go_wp2_with fail
  refine (dist_any ⟨#[107, 105, 116, 116, 101, 110]⟩ ⟨#[115, 105, 116, 116, 105, 110, 103]⟩ 3 (by decide) (by decide) lev_aw _).mono ?_
  rintro e w2 ⟨rfl, hb2⟩
  have HB2 : Hid (Below w.heap.size w w2) := HB1.out.trans (hb2.mono hz1)
  clear hb2
  go_wp2_with fail
  go_ret
  exact ⟨rfl, HB2.out⟩
end Go.Proofs.YtcmpeppjopdeaaaDoor
