/- The law DecTexts: the walk. -/
import Derived.Test.YtgmbfbddfjecpaaDoorDecT
import Derived.Test.YtgmbfbddfjecpaaDoorDecR
set_option linter.unusedSimpArgs false
set_option linter.unusedVariables false
namespace Go.Proofs.YtgmbfbddfjecpaaDoor
open Go.RowKit

theorem txt_len (d : Int) (hlo : -9223372036854775808 ≤ d) (hhi : d ≤ 9223372036854775807) : (txt d).length ≤ 300 := by
  have hq : d.natAbs / 1000000 ≤ 9223372036854775808 := Nat.le_trans (Nat.div_le_self _ _) (by omega)
  have hr : d.natAbs % 1000000 < 1000000 := Nat.mod_lt _ (by omega)
  have h1 := dgText_len (d.natAbs / 1000000) 1 (by omega) (by omega)
  have h2 := dgText_len (d.natAbs % 1000000) 6 (by omega) (by omega)
  have h3 := trimRightB_len (dgText (d.natAbs % 1000000) 6) 48
  unfold txt
  simp only [List.length_append]
  have h4 : (if d < 0 then [(45 : UInt8)] else []).length ≤ 1 := by split <;> simp
  have h5 : (if 0 < d.natAbs % 1000000 then (46 : UInt8) :: Lib.trimRightB (dgText (d.natAbs % 1000000) 6) 48 else []).length ≤ 121 := by
    split
    · simp; omega
    · simp
  omega

theorem refParse_as (s : ByteArray) (hs : s.size ≤ 400) (w : World) :
    Calls Tryd.prog 11 #[.string s] w fun e w' => e = .returned (.tuple #[.int .i64 (prsV s.data.toList), .bool (prsOk s.data.toList)]) ∧ Below w.heap.size w w' := by
  have h := refParse_any s hs w
  rw [prs_v, prs_ok] at h
  exact h
theorem parse_txt (d : Int) (hlo : -9223372036854775808 ≤ d) (hhi : d ≤ 9223372036854775807) (T : List UInt8) (hT : txt d = T) (w : World) (hsh : w.ShapedOpen Tryd.prog) :
    Calls Tryd.prog 10 #[.string ⟨T.toArray⟩] w fun e w' => e = .returned (.tuple #[.int .i64 d, .bool true]) ∧ Below w.heap.size w w' := by
  have hl := txt_len d hlo hhi
  have h := parse_any ⟨T.toArray⟩ (by rw [Lib.size_eq]; simp; rw [← hT]; omega) w hsh
  have e : (⟨T.toArray⟩ : ByteArray).data.toList = txt d := by simp [hT]
  rw [e, (txt_prs d hlo hhi).1, (txt_prs d hlo hhi).2] at h
  exact h

set_option maxRecDepth 100000 in
set_option maxHeartbeats 1000000 in
theorem texts_walk (a : Int) (s : ByteArray) (ha1 : -9223372036854775808 ≤ a) (ha2 : a ≤ 9223372036854775807) (w : World) (hsh : w.ShapedOpen Tryd.prog) :
    Calls Tryd.prog 3 #[.int .i64 a, .string s] w fun e w' => e = .returned (.bool true) ∧ Below w.heap.size w w' := by
  have HSH := Lib.hid hsh
  obtain ⟨T, hT⟩ : ∃ T, txt a = T := ⟨_, rfl⟩
  have C1 := Lib.hid (fun W => text_any a ha1 ha2 W)
  have C2 := Lib.hid (fun W => refText_any a ha1 ha2 W)
  have C3 := Lib.hid (fun W hW => parse_txt a ha1 ha2 T hT W hW)
  rw [hT] at C1 C2
  obtain ⟨v, hv⟩ : ∃ v, prsV s.data.toList = v := ⟨_, rfl⟩
  obtain ⟨o, ho⟩ : ∃ o, prsOk s.data.toList = o := ⟨_, rfl⟩
  have HT := Lib.hid hT
  clear hsh hT ha1 ha2
  by_cases hs : s.size ≤ 60
  · have C4 := Lib.hid (fun W hW => parse_any s (by omega) W hW)
    have C5 := Lib.hid (fun W => refParse_as s (by omega) W)
    rw [hv, ho] at C4 C5
    have hs' : ¬ (60 : Int) < (s.size : Int) := by omega
    clear hv ho
    go_enter Tryd.func3, Tryd.ntmps3
    go_wp2_with fail
    refine (C4.out _ HSH.out).mono ?_
    rintro e w1 ⟨rfl, hb1⟩
    have hs1 := hb1.size
    go_wp2_with fail
    refine (C5.out _).mono ?_
    rintro e w2 ⟨rfl, hb2⟩
    have hs2 := hb2.size
    have hw2 : Below w.heap.size w w2 := bel_call hb2 hb1 (by omega)
    go_wp2_with fail
    refine (C1.out _).mono ?_
    rintro e w3 ⟨rfl, hb3⟩
    have hs3 := hb3.size
    have hw3 : Below w.heap.size w w3 := bel_call hb3 hw2 (by omega)
    go_wp2_with fail
    refine (C3.out _ (shaped_below HSH.out hw3)).mono ?_
    rintro e w4 ⟨rfl, hb4⟩
    have hs4 := hb4.size
    have hw4 : Below w.heap.size w w4 := bel_call hb4 hw3 (by omega)
    clear hb1 hb2 hb3 hb4 hw2 hw3
    go_wp2_with fail
    refine (C1.out _).mono ?_
    rintro e w5 ⟨rfl, hb5⟩
    have hs5 := hb5.size
    have hw5 : Below w.heap.size w w5 := bel_call hb5 hw4 (by omega)
    go_wp2_with fail
    refine (C2.out _).mono ?_
    rintro e w6 ⟨rfl, hb6⟩
    have hs6 := hb6.size
    have hw6 : Below w.heap.size w w6 := bel_call hb6 hw5 (by omega)
    go_wp2_with fail
    refine (awake_any _ (shaped_below HSH.out hw6)).mono ?_
    rintro e w7 ⟨rfl, hb7⟩
    go_wp2_with fail
    go_ret
    exact ⟨rfl, bel_call hb7 hw6 (by omega)⟩
  · have hs' : (60 : Int) < (s.size : Int) := by omega
    clear hv ho
    go_enter Tryd.func3, Tryd.ntmps3
    go_wp2_with fail
    refine (awake_any _ HSH.out).mono ?_
    rintro e w7 ⟨rfl, hb7⟩
    go_wp2_with fail
    go_ret
    exact ⟨rfl, hb7⟩
end Go.Proofs.YtgmbfbddfjecpaaDoor
