/- Contracts of dec.Text, and of Div where the number of two words has one; the law's helper awake. -/
import Derived.Test.YtilajcibjlcffaaGreatDoorDecD
import Derived.Lib.TrimByte
set_option linter.unusedSimpArgs false
set_option linter.unusedVariables false

namespace Go.Proofs.YtilajcibjlcffaaGreatDoor
open Go.RowKit

/-- A number's text. -/
def txt (d : Int) : List UInt8 :=
  (if d < 0 then [45] else []) ++ dgText (d.natAbs / 1000000) 1 ++ (if 0 < d.natAbs % 1000000 then 46 :: Lib.trimRightB (dgText (d.natAbs % 1000000) 6) 48 else [])

theorem trimRight_zero (L : List UInt8) (hL : L.length ≤ 1000000) (w : World) :
    Calls Tryz.prog 109 #[.string ⟨L.toArray⟩, .string ⟨#[48]⟩] w fun e w' => e = .returned (.string ⟨(Lib.trimRightB L 48).toArray⟩) ∧ w = w' := by
  have e1 : (⟨L.toArray⟩ : ByteArray).data.toList = L := by simp
  have := Tryz.strings_TrimRight_one ⟨L.toArray⟩ 48 (by decide) w (by rw [Lib.size_eq]; simp; omega)
  rw [e1] at this
  exact this.mono fun e w' ⟨h1, h2⟩ => ⟨h1, h2.symm⟩

theorem trimRightB_len (L : List UInt8) (c : UInt8) : (Lib.trimRightB L c).length ≤ L.length := by
  unfold Lib.trimRightB
  rw [List.length_reverse]
  have := (List.dropWhile_sublist (· == c) (l := L.reverse)).length_le
  simpa using this
theorem cat2 (X Y : List UInt8) : (⟨X.toArray⟩ : ByteArray) ++ ⟨Y.toArray⟩ = ⟨(X ++ Y).toArray⟩ := by
  apply ByteArray.ext
  simp
theorem dgText_len (n least : Nat) (hn : n ≤ 18446744073709551615) (hl : least ≤ 100) : (dgText n least).length ≤ 120 := by
  have h2 := digs_length_le (n := n) (k := 20) (by omega)
  simp [dgText, lettersOf, padL]
  omega

theorem digits_1 (q : Nat) (hq : q ≤ 18446744073709551615) (w : World) : Calls Tryz.prog 108 #[.int .u64 q, .int .i64 1] w fun e w' => e = .returned (.string ⟨(dgText q 1).toArray⟩) ∧ Below w.heap.size w w' := digits_any q 1 hq (by omega) w
theorem digits_6 (q : Nat) (hq : q ≤ 18446744073709551615) (w : World) : Calls Tryz.prog 108 #[.int .u64 q, .int .i64 6] w fun e w' => e = .returned (.string ⟨(dgText q 6).toArray⟩) ∧ Below w.heap.size w w' := digits_any q 6 hq (by omega) w

set_option maxRecDepth 100000 in
set_option maxHeartbeats 2000000 in
theorem text_any (d : Int) (hlo : -9223372036854775808 ≤ d) (hhi : d ≤ 9223372036854775807) (w : World) :
    Calls Tryz.prog 96 #[.int .i64 d] w fun e w' => e = .returned (.string ⟨(txt d).toArray⟩) ∧ Below w.heap.size w w' := by
  have HP := Lib.hid (fun W => part_any d hlo hhi W)
  obtain ⟨a, ha⟩ : ∃ a, d.natAbs = a := ⟨_, rfl⟩
  have ha2 : a ≤ 9223372036854775808 := by omega
  obtain ⟨q, hq⟩ : ∃ q, a / 1000000 = q := ⟨_, rfl⟩
  obtain ⟨r, hr⟩ : ∃ r, a % 1000000 = r := ⟨_, rfl⟩
  have hr6 : r < 1000000 := by omega
  have hqz : IntKind.u64.wrap (q : Int) = (q : Int) := IntWalk.u64_in _ (by omega)
  have hrw : IntKind.u64.wrap (r : Int) = (r : Int) := IntWalk.u64_in _ (by omega)
  have hqz' : (a : Int) / 1000000 = (q : Int) := by omega
  have hrz : (a : Int) % 1000000 = (r : Int) := by omega
  have hq2 : q ≤ 18446744073709551615 := by omega
  have HQ := Lib.hid hq2
  have hda := dgText_len q 1 hq2 (by omega)
  have hdr := dgText_len r 6 (by omega) (by omega)
  have HT : Hid (txt d = (if d < 0 then [45] else []) ++ dgText q 1 ++ (if 0 < r then 46 :: Lib.trimRightB (dgText r 6) 48 else [])) := by
    unfold Hid txt
    rw [ha, hq, hr]
  obtain ⟨A, hA⟩ : ∃ A, dgText q 1 = A := ⟨_, rfl⟩
  obtain ⟨B, hB⟩ : ∃ B, dgText r 6 = B := ⟨_, rfl⟩
  obtain ⟨C, hC⟩ : ∃ C, Lib.trimRightB B 48 = C := ⟨_, rfl⟩
  have HA := Lib.hid hA
  have HB := Lib.hid hB
  have hCl : C.length ≤ 120 := by rw [← hC, ← hB]; exact Nat.le_trans (trimRightB_len _ _) hdr
  have HC := Lib.hid hC
  have HAA := Lib.hid ha
  rw [hA] at hda
  rw [hB] at hdr
  clear hlo hhi ha hq hr hq2 hA hB hC ha2
  by_cases h0 : d < 0
  all_goals by_cases h1 : 0 < r
  · have hfin : Hid (txt d = 45 :: (A ++ 46 :: C)) := by
      unfold Hid
      rw [HT.out, if_pos h0, if_pos h1, HA.out, HB.out, HC.out]
      simp
    go_enter Tryz.func96, Tryz.ntmps96
    go_wp2_with fail
    refine (HP.out _).mono ?_
    rintro e w1 ⟨rfl, rfl⟩
    rw [HAA.out]
    go_wp2_with fail
    refine (digits_1 q HQ.out _).mono ?_
    rintro e w2 ⟨rfl, hb2⟩
    rw [HA.out]
    have hs2 := hb2.size
    go_wp2_with fail
    refine (HP.out _).mono ?_
    rintro e w3 ⟨rfl, rfl⟩
    rw [HAA.out]
    go_wp2_with fail
    refine (digits_6 r (by omega) _).mono ?_
    rintro e w4 ⟨rfl, hb4⟩
    rw [HB.out]
    have hs4 := hb4.size
    go_wp2_with fail
    refine (trimRight_zero B (by omega) _).mono ?_
    rintro e w5 ⟨rfl, rfl⟩
    rw [HC.out]
    go_wp2_with fail
    go_ret
    refine ⟨?_, bel_call hb4 hb2 (by omega)⟩
    rw [hfin.out]
    exact congrArg (fun s => Ending.returned (Value.string s)) (show (⟨[45].toArray⟩ : ByteArray) ++ ⟨A.toArray⟩ ++ (⟨[46].toArray⟩ ++ ⟨C.toArray⟩) = _ by rw [cat2, cat2, cat2]; simp)
  · have hfin : Hid (txt d = 45 :: A) := by
      unfold Hid
      rw [HT.out, if_pos h0, if_neg h1, HA.out]
      simp
    go_enter Tryz.func96, Tryz.ntmps96
    go_wp2_with fail
    refine (HP.out _).mono ?_
    rintro e w1 ⟨rfl, rfl⟩
    rw [HAA.out]
    go_wp2_with fail
    refine (digits_1 q HQ.out _).mono ?_
    rintro e w2 ⟨rfl, hb2⟩
    rw [HA.out]
    have hs2 := hb2.size
    go_wp2_with fail
    refine (HP.out _).mono ?_
    rintro e w3 ⟨rfl, rfl⟩
    rw [HAA.out]
    go_wp2_with fail
    go_ret
    refine ⟨?_, hb2⟩
    rw [hfin.out]
    exact congrArg (fun s => Ending.returned (Value.string s)) (show (⟨[45].toArray⟩ : ByteArray) ++ ⟨A.toArray⟩ = _ by rw [cat2]; simp)
  · have hfin : Hid (txt d = A ++ 46 :: C) := by
      unfold Hid
      rw [HT.out, if_neg h0, if_pos h1, HA.out, HB.out, HC.out]
      simp
    go_enter Tryz.func96, Tryz.ntmps96
    go_wp2_with fail
    refine (HP.out _).mono ?_
    rintro e w1 ⟨rfl, rfl⟩
    rw [HAA.out]
    go_wp2_with fail
    refine (digits_1 q HQ.out _).mono ?_
    rintro e w2 ⟨rfl, hb2⟩
    rw [HA.out]
    have hs2 := hb2.size
    go_wp2_with fail
    refine (HP.out _).mono ?_
    rintro e w3 ⟨rfl, rfl⟩
    rw [HAA.out]
    go_wp2_with fail
    refine (digits_6 r (by omega) _).mono ?_
    rintro e w4 ⟨rfl, hb4⟩
    rw [HB.out]
    have hs4 := hb4.size
    go_wp2_with fail
    refine (trimRight_zero B (by omega) _).mono ?_
    rintro e w5 ⟨rfl, rfl⟩
    rw [HC.out]
    go_wp2_with fail
    go_ret
    refine ⟨?_, bel_call hb4 hb2 (by omega)⟩
    rw [hfin.out]
    exact congrArg (fun s => Ending.returned (Value.string s)) (show (⟨A.toArray⟩ : ByteArray) ++ (⟨[46].toArray⟩ ++ ⟨C.toArray⟩) = _ by rw [cat2, cat2]; simp)
  · have hfin : Hid (txt d = A) := by
      unfold Hid
      rw [HT.out, if_neg h0, if_neg h1, HA.out]
      simp
    go_enter Tryz.func96, Tryz.ntmps96
    go_wp2_with fail
    refine (HP.out _).mono ?_
    rintro e w1 ⟨rfl, rfl⟩
    rw [HAA.out]
    go_wp2_with fail
    refine (digits_1 q HQ.out _).mono ?_
    rintro e w2 ⟨rfl, hb2⟩
    rw [HA.out]
    have hs2 := hb2.size
    go_wp2_with fail
    refine (HP.out _).mono ?_
    rintro e w3 ⟨rfl, rfl⟩
    rw [HAA.out]
    go_wp2_with fail
    go_ret
    refine ⟨?_, hb2⟩
    rw [hfin.out]
    rfl
end Go.Proofs.YtilajcibjlcffaaGreatDoor
