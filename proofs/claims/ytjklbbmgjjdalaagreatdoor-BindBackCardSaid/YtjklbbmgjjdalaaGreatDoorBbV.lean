/- The document's reader of cells' names: Column, Parse, at any text. Printed by gen_rr.py. The document's reader of formulas: its block; 'is', 'fail', 'cell'. Printed by gen_rr.py. The document's reader of formulas: what is read is good (plain part); 'cell'. Printed by gen_rr.py. -/
import Derived.Test.YtjklbbmgjjdalaaGreatDoorBbQ
import Derived.Lib.ConvBytes
import Derived.Test.YtjklbbmgjjdalaaGreatDoorBbJ
import Derived.Lib.Replace
import Derived.Lib.ReplaceLaws
import Derived.Test.YtjklbbmgjjdalaaGreatDoorBbF
import Derived.Test.YtjklbbmgjjdalaaGreatDoorBbW
import Derived.Test.YtjklbbmgjjdalaaGreatDoorBbU
set_option linter.unusedSimpArgs false
set_option linter.unusedVariables false
namespace Go.Proofs.YtjklbbmgjjdalaaGreatDoor
open Go.RowKit Go.Joins
def clW (L : Bs) : Int := if L.length = 1 then (if colS ((btN L 0 : Int) - 64) = L then (btN L 0 : Int) - 64 else 0) else (if colS (27 + ((btN L 0 : Int) - 65) * 26 + (btN L 1 : Int) - 65) = L then 27 + ((btN L 0 : Int) - 65) * 26 + (btN L 1 : Int) - 65 else 0)
theorem tl_ne {X s : ByteArray} (h : X.data.toList ≠ s.data.toList) : (X.toList == s.toList) = false := by
  rw [Lib.toList_data, Lib.toList_data]
  simpa using h
set_option maxRecDepth 100000 in
set_option maxHeartbeats 8000000 in
theorem r7column_any (s : ByteArray) (h1 : s.size = 1 ∨ s.size = 2) (w : World) : Calls Tryz.prog 131 #[.string s] w fun e w' => e = .returned (.int .i64 (clW s.data.toList)) ∧ Below w.heap.size w w' := by
  have HB := Lib.hid (btN_str s)
  have hL : s.data.toList.length = s.size := (Lib.size_eq s).symm
  have hs : s = ⟨s.data.toList.toArray⟩ := by simp
  have hl0 := btN_lt s.data.toList 0
  have hl1 := btN_lt s.data.toList 1
  rcases h1 with h1 | h1
  · have hb0 := HB.out 0 (by omega)
    obtain ⟨c, hc⟩ : ∃ c, btN s.data.toList 0 = c := ⟨_, rfl⟩
    have HC := Lib.hid (fun W => r7col_any ((c : Int) - 64) W)
    have HV : Hid (clW s.data.toList = if colS ((c : Int) - 64) = s.data.toList then (c : Int) - 64 else 0) := by
      unfold Hid clW
      rw [if_pos (by omega), hc]
    rw [hc] at hb0 hl0
    have f1 : IntKind.i64.wrap (c : Int) = (c : Int) := IntWalk.i64_in _ (by omega)
    have f2 : IntKind.i64.wrap ((c : Int) - 64) = (c : Int) - 64 := IntWalk.i64_in _ (by omega)
    have hz : (s.size : Int) = 1 := by omega
    have hlt : 0 < s.size := by omega
    clear hc hl1
    rw [HV.out]
    by_cases he : colS ((c : Int) - 64) = s.data.toList
    · rw [if_pos he]
      have hse : (⟨(colS ((c : Int) - 64)).toArray⟩ : ByteArray) = s := by rw [he]
      rw [hse] at HC
      clear he hse HV hs hL HB
      go_enter Tryz.func131, Tryz.ntmps131
      go_wp2_with fail
      refine (HC.out _).mono ?_
      rintro e w1 ⟨rfl, hb⟩
      have hB1 := hb
      go_wp2_with fail
      go_ret
      exact ⟨rfl, hB1⟩
    · rw [if_neg he]
      have hse : ((⟨(colS ((c : Int) - 64)).toArray⟩ : ByteArray).toList == s.toList) = false := tl_ne (by simpa using he)
      generalize (⟨(colS ((c : Int) - 64)).toArray⟩ : ByteArray) = X at HC hse
      clear he HV hs hL HB
      go_enter Tryz.func131, Tryz.ntmps131
      go_wp2_with fail
      refine (HC.out _).mono ?_
      rintro e w1 ⟨rfl, hb⟩
      have hB1 := hb
      go_wp2_with fail
      go_ret
      exact ⟨rfl, hB1⟩
  · have hb0 := HB.out 0 (by omega)
    have hb1 := HB.out 1 (by omega)
    obtain ⟨c, hc⟩ : ∃ c, btN s.data.toList 0 = c := ⟨_, rfl⟩
    obtain ⟨d, hd⟩ : ∃ d, btN s.data.toList 1 = d := ⟨_, rfl⟩
    have HC := Lib.hid (fun W => r7col_any (27 + ((c : Int) - 65) * 26 + (d : Int) - 65) W)
    have HV : Hid (clW s.data.toList = if colS (27 + ((c : Int) - 65) * 26 + (d : Int) - 65) = s.data.toList then 27 + ((c : Int) - 65) * 26 + (d : Int) - 65 else 0) := by
      unfold Hid clW
      rw [if_neg (by omega), hc, hd]
    rw [hc] at hb0 hl0
    rw [hd] at hb1 hl1
    have f1 : IntKind.i64.wrap (c : Int) = (c : Int) := IntWalk.i64_in _ (by omega)
    have f2 : IntKind.i64.wrap ((c : Int) - 65) = (c : Int) - 65 := IntWalk.i64_in _ (by omega)
    have f3 : IntKind.i64.wrap (((c : Int) - 65) * 26) = ((c : Int) - 65) * 26 := IntWalk.i64_in _ (by omega)
    have f4 : IntKind.i64.wrap (27 + ((c : Int) - 65) * 26) = 27 + ((c : Int) - 65) * 26 := IntWalk.i64_in _ (by omega)
    have f5 : IntKind.i64.wrap (d : Int) = (d : Int) := IntWalk.i64_in _ (by omega)
    have f6 : IntKind.i64.wrap (27 + ((c : Int) - 65) * 26 + (d : Int)) = 27 + ((c : Int) - 65) * 26 + (d : Int) := IntWalk.i64_in _ (by omega)
    have f7 : IntKind.i64.wrap (27 + ((c : Int) - 65) * 26 + (d : Int) - 65) = 27 + ((c : Int) - 65) * 26 + (d : Int) - 65 := IntWalk.i64_in _ (by omega)
    have hz : (s.size : Int) = 2 := by omega
    have hlt : 0 < s.size := by omega
    have hlt1 : 1 < s.size := by omega
    clear hc hd
    rw [HV.out]
    by_cases he : colS (27 + ((c : Int) - 65) * 26 + (d : Int) - 65) = s.data.toList
    · rw [if_pos he]
      have hse : (⟨(colS (27 + ((c : Int) - 65) * 26 + (d : Int) - 65)).toArray⟩ : ByteArray) = s := by rw [he]
      rw [hse] at HC
      clear he hse HV hs hL HB
      go_enter Tryz.func131, Tryz.ntmps131
      go_upto_region 5 with fail
      refine wp_region_quiet_below (by kernel_rfl) (by kernel_rfl) ?_
      repeat (go_big_quiet_step (fail))
      refine wpQuiet_nil ?_
      intro _ hw'
      obtain ⟨⟨dz, osz⟩, hw''⟩ := hw'
      subst hw''
      have hBz := below_regrown w dz osz
      go_wp2_with fail
      refine (HC.out _).mono ?_
      rintro e w1 ⟨rfl, hb⟩
      have hB1 : Below w.heap.size w w1 := bel_call hb hBz hBz.size
      go_wp2_with fail
      go_ret
      exact ⟨rfl, hB1⟩
    · rw [if_neg he]
      have hse : ((⟨(colS (27 + ((c : Int) - 65) * 26 + (d : Int) - 65)).toArray⟩ : ByteArray).toList == s.toList) = false := tl_ne (by simpa using he)
      generalize (⟨(colS (27 + ((c : Int) - 65) * 26 + (d : Int) - 65)).toArray⟩ : ByteArray) = X at HC hse
      clear he HV hs hL HB
      go_enter Tryz.func131, Tryz.ntmps131
      go_upto_region 5 with fail
      refine wp_region_quiet_below (by kernel_rfl) (by kernel_rfl) ?_
      repeat (go_big_quiet_step (fail))
      refine wpQuiet_nil ?_
      intro _ hw'
      obtain ⟨⟨dz, osz⟩, hw''⟩ := hw'
      subst hw''
      have hBz := below_regrown w dz osz
      go_wp2_with fail
      refine (HC.out _).mono ?_
      rintro e w1 ⟨rfl, hb⟩
      have hB1 : Below w.heap.size w w1 := bel_call hb hBz hBz.size
      go_wp2_with fail
      go_ret
      exact ⟨rfl, hB1⟩
def bnd : Nat → Int
  | 0 => 0
  | 1 => 300
  | 2 => 3300
  | 3 => 33300
  | 4 => 333300
  | _ => 3333300
theorem bnd_in (j : Nat) : 0 ≤ bnd j ∧ bnd j ≤ 3333300 := by
  unfold bnd
  split <;> omega
theorem bnd_step {j : Nat} (h : j < 5) : 10 * bnd j + 300 ≤ bnd (j + 1) := by
  match j, h with
  | 0, _ => decide
  | 1, _ => decide
  | 2, _ => decide
  | 3, _ => decide
  | 4, _ => decide
def R7P (w : World) (e : Ending) (w' : World) : Prop := (∃ (c r : Int) (ok : Bool), e = .returned (.tuple #[.int .i64 c, .int .i64 r, .bool ok]) ∧ (ok = true → rtC c r = true) ∧ (ok = false → c = 0 ∧ r = 0)) ∧ Below w.heap.size w w'
set_option maxRecDepth 100000 in
set_option maxHeartbeats 8000000 in
theorem r7parse_any (s : ByteArray) (hs : s.size ≤ 1000) (w : World) : Calls Tryz.prog 123 #[.string s] w (R7P w) := by
  have HB := Lib.hid (btN_str s)
  have HBL := Lib.hid (btN_lt s.data.toList)
  go_enter Tryz.func123, Tryz.ntmps123
  go_wp2_with fail
  go_loopw [5] (fun a wx => ∃ j : Nat, a = .int .i64 j ∧ j ≤ s.size ∧ w = wx) (fun a _ => s.size - (intOf a).toNat)
  case atStart => exact ⟨0, rfl, by omega, rfl⟩
  case round =>
    obtain ⟨k, rfl, hjk, rfl⟩ := hrel
    by_cases hjs : k < s.size
    · have hji : (k : Int) < (s.size : Int) := by omega
      have hb := HB.out k hjs
      have hbl := HBL.out k
      generalize hxx : btN s.data.toList k = x at hb hbl
      by_cases h1 : 65 ≤ x
      · have g3 : (65 : Int) ≤ (x : Int) := by omega
        by_cases h2 : x ≤ 90
        · have g2 : (x : Int) ≤ 90 := by omega
          clear hxx
          go_wp2_with fail
          go_roundw
          case rel => exact ⟨k + 1, by go_num, by omega, by first | rfl | trivial⟩
          case measure => simp [intOf]; omega
        · have g2 : ¬ (x : Int) ≤ 90 := by omega
          clear hxx h1 h2
          go_wp2_with fail
          go_loopg [6, 7] (s.size - k + 1) (fun g v6 v7 wx => ∃ (i : Nat) (row : Int), i + k + g = s.size + 1 ∧ v7 = .int .i64 ((k + i : Nat) : Int) ∧ v6 = .int .i64 row ∧ i ≤ 5 ∧ -(bnd i) ≤ row ∧ row ≤ bnd i ∧ w = wx)
          case atStart => exact ⟨0, 0, by omega, by go_num, rfl, by omega, by decide, by decide, rfl⟩
          case round =>
            obtain ⟨i, row, hig, rfl, rfl, hi5, hr1, hr2, rfl⟩ := hrel
            have hbi := bnd_in i
            have f1 : IntKind.i64.wrap ((k : Int) + 5) = (k : Int) + 5 := IntWalk.i64_in _ (by omega)
            by_cases hlt : k + i < s.size
            · have hl1 : (((k + i : Nat) : Int)) < (s.size : Int) := by omega
              by_cases hl5 : i < 5
              · have hl2 : (((k + i : Nat) : Int)) < (k : Int) + 5 := by omega
                have hst := bnd_step hl5
                have hbn := bnd_in (i + 1)
                have hb := HB.out (k + i) hlt
                have hbl := HBL.out (k + i)
                generalize btN s.data.toList (k + i) = d at hb hbl
                have f2 : IntKind.i64.wrap (row * 10) = row * 10 := IntWalk.i64_in _ (by omega)
                have f3 : IntKind.i64.wrap (d : Int) = (d : Int) := IntWalk.i64_in _ (by omega)
                have f4 : IntKind.i64.wrap (row * 10 + (d : Int)) = row * 10 + (d : Int) := IntWalk.i64_in _ (by omega)
                have f5 : IntKind.i64.wrap (row * 10 + (d : Int) - 48) = row * 10 + (d : Int) - 48 := IntWalk.i64_in _ (by omega)
                go_wp2_with fail
                go_roundg (gk - 1)
                case measure => omega
                case rel => exact ⟨i + 1, row * 10 + (d : Int) - 48, by omega, by go_num, rfl, by omega, by omega, by omega, by first | rfl | trivial⟩
              · have hl2 : ¬ (((k + i : Nat) : Int)) < (k : Int) + 5 := by omega
                by_cases hk0 : k = 0
                · subst hk0
                  go_wp2_with fail
                  go_ret3
                  exact ⟨⟨_, _, _, rfl, by simp, by simp⟩, Below.refl _ _⟩
                · have hk4 : ((k : Int) == 0) = false := by simp; omega
                  have hk5 : (k == 0) = false := by simp; omega
                  have hk6 : ¬ (k : Int) = 0 := by omega
                  by_cases hk1 : 2 < k
                  · have hk3 : (2 : Int) < (k : Int) := by omega
                    go_wp2_with fail
                    go_ret3
                    exact ⟨⟨_, _, _, rfl, by simp, by simp⟩, Below.refl _ _⟩
                  · have hk3 : ¬ (2 : Int) < (k : Int) := by omega
                    obtain ⟨t, ht⟩ : ∃ t, s.extract 0 k = t := ⟨_, rfl⟩
                    have htz : t.size = k := by rw [← ht, ByteArray.size_extract]; omega
                    have HCL := Lib.hid (fun W => r7column_any t (by omega) W)
                    obtain ⟨c, hc⟩ : ∃ c, clW t.data.toList = c := ⟨_, rfl⟩
                    rw [hc] at HCL
                    rw [← ht] at HCL
                    have HTX := Lib.hid (fun W => r7text_any c row W)
                    obtain ⟨X, hX⟩ : ∃ X, cellS c row = X := ⟨_, rfl⟩
                    rw [hX] at HTX
                    have hne : s.data.toList ≠ [] := by
                      intro e
                      have := Lib.size_eq s
                      rw [e, List.length_nil] at this
                      omega
                    by_cases hXs : X = s.data.toList
                    · have hxe : (⟨X.toArray⟩ : ByteArray) = s := by rw [hXs]
                      rw [hxe] at HTX
                      clear hxe
                      have HOK : Hid (rtC c row = true) := by
                        unfold Hid
                        cases hrt : rtC c row with
                        | true => rfl
                        | false =>
                          exfalso
                          apply hne
                          rw [← hXs, ← hX]
                          unfold cellS
                          rw [hrt]
                          rfl
                      clear hc htz HB HBL hne hXs hX ht
                      go_wp2_with fail
                      refine (HCL.out _).mono ?_
                      rintro e w1 ⟨rfl, hb1⟩
                      go_wp2_with fail
                      refine (HTX.out _).mono ?_
                      rintro e w2 ⟨rfl, hb2⟩
                      have hB2 : Below w.heap.size w w2 := bel_call hb2 hb1 hb1.size
                      go_wp2_with fail
                      refine (HCL.out _).mono ?_
                      rintro e w3 ⟨rfl, hb3⟩
                      have hB3 : Below w.heap.size w w3 := bel_call hb3 hB2 hB2.size
                      go_wp2_with fail
                      go_ret3
                      exact ⟨⟨_, _, _, rfl, fun _ => HOK.out, by simp⟩, hB3⟩
                    · have hxe : ((⟨X.toArray⟩ : ByteArray).toList == s.toList) = false := tl_ne (by simpa using hXs)
                      generalize (⟨X.toArray⟩ : ByteArray) = Y at hxe HTX
                      clear hc htz HB HBL hne hXs hX ht
                      go_wp2_with fail
                      refine (HCL.out _).mono ?_
                      rintro e w1 ⟨rfl, hb1⟩
                      go_wp2_with fail
                      refine (HTX.out _).mono ?_
                      rintro e w2 ⟨rfl, hb2⟩
                      have hB2 : Below w.heap.size w w2 := bel_call hb2 hb1 hb1.size
                      go_wp2_with fail
                      go_ret3
                      exact ⟨⟨_, _, _, rfl, by simp, by simp⟩, hB2⟩
            · have hl1 : ¬ (((k + i : Nat) : Int)) < (s.size : Int) := by omega
              by_cases hk0 : k = 0
              · subst hk0
                go_wp2_with fail
                go_ret3
                exact ⟨⟨_, _, _, rfl, by simp, by simp⟩, Below.refl _ _⟩
              · have hk4 : ((k : Int) == 0) = false := by simp; omega
                have hk5 : (k == 0) = false := by simp; omega
                have hk6 : ¬ (k : Int) = 0 := by omega
                by_cases hk1 : 2 < k
                · have hk3 : (2 : Int) < (k : Int) := by omega
                  go_wp2_with fail
                  go_ret3
                  exact ⟨⟨_, _, _, rfl, by simp, by simp⟩, Below.refl _ _⟩
                · have hk3 : ¬ (2 : Int) < (k : Int) := by omega
                  obtain ⟨t, ht⟩ : ∃ t, s.extract 0 k = t := ⟨_, rfl⟩
                  have htz : t.size = k := by rw [← ht, ByteArray.size_extract]; omega
                  have HCL := Lib.hid (fun W => r7column_any t (by omega) W)
                  obtain ⟨c, hc⟩ : ∃ c, clW t.data.toList = c := ⟨_, rfl⟩
                  rw [hc] at HCL
                  rw [← ht] at HCL
                  have HTX := Lib.hid (fun W => r7text_any c row W)
                  obtain ⟨X, hX⟩ : ∃ X, cellS c row = X := ⟨_, rfl⟩
                  rw [hX] at HTX
                  have hne : s.data.toList ≠ [] := by
                    intro e
                    have := Lib.size_eq s
                    rw [e, List.length_nil] at this
                    omega
                  by_cases hXs : X = s.data.toList
                  · have hxe : (⟨X.toArray⟩ : ByteArray) = s := by rw [hXs]
                    rw [hxe] at HTX
                    clear hxe
                    have HOK : Hid (rtC c row = true) := by
                      unfold Hid
                      cases hrt : rtC c row with
                      | true => rfl
                      | false =>
                        exfalso
                        apply hne
                        rw [← hXs, ← hX]
                        unfold cellS
                        rw [hrt]
                        rfl
                    clear hc htz HB HBL hne hXs hX ht
                    go_wp2_with fail
                    refine (HCL.out _).mono ?_
                    rintro e w1 ⟨rfl, hb1⟩
                    go_wp2_with fail
                    refine (HTX.out _).mono ?_
                    rintro e w2 ⟨rfl, hb2⟩
                    have hB2 : Below w.heap.size w w2 := bel_call hb2 hb1 hb1.size
                    go_wp2_with fail
                    refine (HCL.out _).mono ?_
                    rintro e w3 ⟨rfl, hb3⟩
                    have hB3 : Below w.heap.size w w3 := bel_call hb3 hB2 hB2.size
                    go_wp2_with fail
                    go_ret3
                    exact ⟨⟨_, _, _, rfl, fun _ => HOK.out, by simp⟩, hB3⟩
                  · have hxe : ((⟨X.toArray⟩ : ByteArray).toList == s.toList) = false := tl_ne (by simpa using hXs)
                    generalize (⟨X.toArray⟩ : ByteArray) = Y at hxe HTX
                    clear hc htz HB HBL hne hXs hX ht
                    go_wp2_with fail
                    refine (HCL.out _).mono ?_
                    rintro e w1 ⟨rfl, hb1⟩
                    go_wp2_with fail
                    refine (HTX.out _).mono ?_
                    rintro e w2 ⟨rfl, hb2⟩
                    have hB2 : Below w.heap.size w w2 := bel_call hb2 hb1 hb1.size
                    go_wp2_with fail
                    go_ret3
                    exact ⟨⟨_, _, _, rfl, by simp, by simp⟩, hB2⟩
      · have g3 : ¬ (65 : Int) ≤ (x : Int) := by omega
        clear hxx h1
        go_wp2_with fail
        go_loopg [6, 7] (s.size - k + 1) (fun g v6 v7 wx => ∃ (i : Nat) (row : Int), i + k + g = s.size + 1 ∧ v7 = .int .i64 ((k + i : Nat) : Int) ∧ v6 = .int .i64 row ∧ i ≤ 5 ∧ -(bnd i) ≤ row ∧ row ≤ bnd i ∧ w = wx)
        case atStart => exact ⟨0, 0, by omega, by go_num, rfl, by omega, by decide, by decide, rfl⟩
        case round =>
          obtain ⟨i, row, hig, rfl, rfl, hi5, hr1, hr2, rfl⟩ := hrel
          have hbi := bnd_in i
          have f1 : IntKind.i64.wrap ((k : Int) + 5) = (k : Int) + 5 := IntWalk.i64_in _ (by omega)
          by_cases hlt : k + i < s.size
          · have hl1 : (((k + i : Nat) : Int)) < (s.size : Int) := by omega
            by_cases hl5 : i < 5
            · have hl2 : (((k + i : Nat) : Int)) < (k : Int) + 5 := by omega
              have hst := bnd_step hl5
              have hbn := bnd_in (i + 1)
              have hb := HB.out (k + i) hlt
              have hbl := HBL.out (k + i)
              generalize btN s.data.toList (k + i) = d at hb hbl
              have f2 : IntKind.i64.wrap (row * 10) = row * 10 := IntWalk.i64_in _ (by omega)
              have f3 : IntKind.i64.wrap (d : Int) = (d : Int) := IntWalk.i64_in _ (by omega)
              have f4 : IntKind.i64.wrap (row * 10 + (d : Int)) = row * 10 + (d : Int) := IntWalk.i64_in _ (by omega)
              have f5 : IntKind.i64.wrap (row * 10 + (d : Int) - 48) = row * 10 + (d : Int) - 48 := IntWalk.i64_in _ (by omega)
              go_wp2_with fail
              go_roundg (gk - 1)
              case measure => omega
              case rel => exact ⟨i + 1, row * 10 + (d : Int) - 48, by omega, by go_num, rfl, by omega, by omega, by omega, by first | rfl | trivial⟩
            · have hl2 : ¬ (((k + i : Nat) : Int)) < (k : Int) + 5 := by omega
              by_cases hk0 : k = 0
              · subst hk0
                go_wp2_with fail
                go_ret3
                exact ⟨⟨_, _, _, rfl, by simp, by simp⟩, Below.refl _ _⟩
              · have hk4 : ((k : Int) == 0) = false := by simp; omega
                have hk5 : (k == 0) = false := by simp; omega
                have hk6 : ¬ (k : Int) = 0 := by omega
                by_cases hk1 : 2 < k
                · have hk3 : (2 : Int) < (k : Int) := by omega
                  go_wp2_with fail
                  go_ret3
                  exact ⟨⟨_, _, _, rfl, by simp, by simp⟩, Below.refl _ _⟩
                · have hk3 : ¬ (2 : Int) < (k : Int) := by omega
                  obtain ⟨t, ht⟩ : ∃ t, s.extract 0 k = t := ⟨_, rfl⟩
                  have htz : t.size = k := by rw [← ht, ByteArray.size_extract]; omega
                  have HCL := Lib.hid (fun W => r7column_any t (by omega) W)
                  obtain ⟨c, hc⟩ : ∃ c, clW t.data.toList = c := ⟨_, rfl⟩
                  rw [hc] at HCL
                  rw [← ht] at HCL
                  have HTX := Lib.hid (fun W => r7text_any c row W)
                  obtain ⟨X, hX⟩ : ∃ X, cellS c row = X := ⟨_, rfl⟩
                  rw [hX] at HTX
                  have hne : s.data.toList ≠ [] := by
                    intro e
                    have := Lib.size_eq s
                    rw [e, List.length_nil] at this
                    omega
                  by_cases hXs : X = s.data.toList
                  · have hxe : (⟨X.toArray⟩ : ByteArray) = s := by rw [hXs]
                    rw [hxe] at HTX
                    clear hxe
                    have HOK : Hid (rtC c row = true) := by
                      unfold Hid
                      cases hrt : rtC c row with
                      | true => rfl
                      | false =>
                        exfalso
                        apply hne
                        rw [← hXs, ← hX]
                        unfold cellS
                        rw [hrt]
                        rfl
                    clear hc htz HB HBL hne hXs hX ht
                    go_wp2_with fail
                    refine (HCL.out _).mono ?_
                    rintro e w1 ⟨rfl, hb1⟩
                    go_wp2_with fail
                    refine (HTX.out _).mono ?_
                    rintro e w2 ⟨rfl, hb2⟩
                    have hB2 : Below w.heap.size w w2 := bel_call hb2 hb1 hb1.size
                    go_wp2_with fail
                    refine (HCL.out _).mono ?_
                    rintro e w3 ⟨rfl, hb3⟩
                    have hB3 : Below w.heap.size w w3 := bel_call hb3 hB2 hB2.size
                    go_wp2_with fail
                    go_ret3
                    exact ⟨⟨_, _, _, rfl, fun _ => HOK.out, by simp⟩, hB3⟩
                  · have hxe : ((⟨X.toArray⟩ : ByteArray).toList == s.toList) = false := tl_ne (by simpa using hXs)
                    generalize (⟨X.toArray⟩ : ByteArray) = Y at hxe HTX
                    clear hc htz HB HBL hne hXs hX ht
                    go_wp2_with fail
                    refine (HCL.out _).mono ?_
                    rintro e w1 ⟨rfl, hb1⟩
                    go_wp2_with fail
                    refine (HTX.out _).mono ?_
                    rintro e w2 ⟨rfl, hb2⟩
                    have hB2 : Below w.heap.size w w2 := bel_call hb2 hb1 hb1.size
                    go_wp2_with fail
                    go_ret3
                    exact ⟨⟨_, _, _, rfl, by simp, by simp⟩, hB2⟩
          · have hl1 : ¬ (((k + i : Nat) : Int)) < (s.size : Int) := by omega
            by_cases hk0 : k = 0
            · subst hk0
              go_wp2_with fail
              go_ret3
              exact ⟨⟨_, _, _, rfl, by simp, by simp⟩, Below.refl _ _⟩
            · have hk4 : ((k : Int) == 0) = false := by simp; omega
              have hk5 : (k == 0) = false := by simp; omega
              have hk6 : ¬ (k : Int) = 0 := by omega
              by_cases hk1 : 2 < k
              · have hk3 : (2 : Int) < (k : Int) := by omega
                go_wp2_with fail
                go_ret3
                exact ⟨⟨_, _, _, rfl, by simp, by simp⟩, Below.refl _ _⟩
              · have hk3 : ¬ (2 : Int) < (k : Int) := by omega
                obtain ⟨t, ht⟩ : ∃ t, s.extract 0 k = t := ⟨_, rfl⟩
                have htz : t.size = k := by rw [← ht, ByteArray.size_extract]; omega
                have HCL := Lib.hid (fun W => r7column_any t (by omega) W)
                obtain ⟨c, hc⟩ : ∃ c, clW t.data.toList = c := ⟨_, rfl⟩
                rw [hc] at HCL
                rw [← ht] at HCL
                have HTX := Lib.hid (fun W => r7text_any c row W)
                obtain ⟨X, hX⟩ : ∃ X, cellS c row = X := ⟨_, rfl⟩
                rw [hX] at HTX
                have hne : s.data.toList ≠ [] := by
                  intro e
                  have := Lib.size_eq s
                  rw [e, List.length_nil] at this
                  omega
                by_cases hXs : X = s.data.toList
                · have hxe : (⟨X.toArray⟩ : ByteArray) = s := by rw [hXs]
                  rw [hxe] at HTX
                  clear hxe
                  have HOK : Hid (rtC c row = true) := by
                    unfold Hid
                    cases hrt : rtC c row with
                    | true => rfl
                    | false =>
                      exfalso
                      apply hne
                      rw [← hXs, ← hX]
                      unfold cellS
                      rw [hrt]
                      rfl
                  clear hc htz HB HBL hne hXs hX ht
                  go_wp2_with fail
                  refine (HCL.out _).mono ?_
                  rintro e w1 ⟨rfl, hb1⟩
                  go_wp2_with fail
                  refine (HTX.out _).mono ?_
                  rintro e w2 ⟨rfl, hb2⟩
                  have hB2 : Below w.heap.size w w2 := bel_call hb2 hb1 hb1.size
                  go_wp2_with fail
                  refine (HCL.out _).mono ?_
                  rintro e w3 ⟨rfl, hb3⟩
                  have hB3 : Below w.heap.size w w3 := bel_call hb3 hB2 hB2.size
                  go_wp2_with fail
                  go_ret3
                  exact ⟨⟨_, _, _, rfl, fun _ => HOK.out, by simp⟩, hB3⟩
                · have hxe : ((⟨X.toArray⟩ : ByteArray).toList == s.toList) = false := tl_ne (by simpa using hXs)
                  generalize (⟨X.toArray⟩ : ByteArray) = Y at hxe HTX
                  clear hc htz HB HBL hne hXs hX ht
                  go_wp2_with fail
                  refine (HCL.out _).mono ?_
                  rintro e w1 ⟨rfl, hb1⟩
                  go_wp2_with fail
                  refine (HTX.out _).mono ?_
                  rintro e w2 ⟨rfl, hb2⟩
                  have hB2 : Below w.heap.size w w2 := bel_call hb2 hb1 hb1.size
                  go_wp2_with fail
                  go_ret3
                  exact ⟨⟨_, _, _, rfl, by simp, by simp⟩, hB2⟩
    · have hji : ¬ (k : Int) < (s.size : Int) := by omega
      go_wp2_with fail
      go_loopg [6, 7] (s.size - k + 1) (fun g v6 v7 wx => ∃ (i : Nat) (row : Int), i + k + g = s.size + 1 ∧ v7 = .int .i64 ((k + i : Nat) : Int) ∧ v6 = .int .i64 row ∧ i ≤ 5 ∧ -(bnd i) ≤ row ∧ row ≤ bnd i ∧ w = wx)
      case atStart => exact ⟨0, 0, by omega, by go_num, rfl, by omega, by decide, by decide, rfl⟩
      case round =>
        obtain ⟨i, row, hig, rfl, rfl, hi5, hr1, hr2, rfl⟩ := hrel
        have hbi := bnd_in i
        have f1 : IntKind.i64.wrap ((k : Int) + 5) = (k : Int) + 5 := IntWalk.i64_in _ (by omega)
        by_cases hlt : k + i < s.size
        · exfalso; omega
        · have hl1 : ¬ (((k + i : Nat) : Int)) < (s.size : Int) := by omega
          by_cases hk0 : k = 0
          · subst hk0
            go_wp2_with fail
            go_ret3
            exact ⟨⟨_, _, _, rfl, by simp, by simp⟩, Below.refl _ _⟩
          · have hk4 : ((k : Int) == 0) = false := by simp; omega
            have hk5 : (k == 0) = false := by simp; omega
            have hk6 : ¬ (k : Int) = 0 := by omega
            by_cases hk1 : 2 < k
            · have hk3 : (2 : Int) < (k : Int) := by omega
              go_wp2_with fail
              go_ret3
              exact ⟨⟨_, _, _, rfl, by simp, by simp⟩, Below.refl _ _⟩
            · have hk3 : ¬ (2 : Int) < (k : Int) := by omega
              obtain ⟨t, ht⟩ : ∃ t, s.extract 0 k = t := ⟨_, rfl⟩
              have htz : t.size = k := by rw [← ht, ByteArray.size_extract]; omega
              have HCL := Lib.hid (fun W => r7column_any t (by omega) W)
              obtain ⟨c, hc⟩ : ∃ c, clW t.data.toList = c := ⟨_, rfl⟩
              rw [hc] at HCL
              rw [← ht] at HCL
              have HTX := Lib.hid (fun W => r7text_any c row W)
              obtain ⟨X, hX⟩ : ∃ X, cellS c row = X := ⟨_, rfl⟩
              rw [hX] at HTX
              have hne : s.data.toList ≠ [] := by
                intro e
                have := Lib.size_eq s
                rw [e, List.length_nil] at this
                omega
              by_cases hXs : X = s.data.toList
              · have hxe : (⟨X.toArray⟩ : ByteArray) = s := by rw [hXs]
                rw [hxe] at HTX
                clear hxe
                have HOK : Hid (rtC c row = true) := by
                  unfold Hid
                  cases hrt : rtC c row with
                  | true => rfl
                  | false =>
                    exfalso
                    apply hne
                    rw [← hXs, ← hX]
                    unfold cellS
                    rw [hrt]
                    rfl
                clear hc htz HB HBL hne hXs hX ht
                go_wp2_with fail
                refine (HCL.out _).mono ?_
                rintro e w1 ⟨rfl, hb1⟩
                go_wp2_with fail
                refine (HTX.out _).mono ?_
                rintro e w2 ⟨rfl, hb2⟩
                have hB2 : Below w.heap.size w w2 := bel_call hb2 hb1 hb1.size
                go_wp2_with fail
                refine (HCL.out _).mono ?_
                rintro e w3 ⟨rfl, hb3⟩
                have hB3 : Below w.heap.size w w3 := bel_call hb3 hB2 hB2.size
                go_wp2_with fail
                go_ret3
                exact ⟨⟨_, _, _, rfl, fun _ => HOK.out, by simp⟩, hB3⟩
              · have hxe : ((⟨X.toArray⟩ : ByteArray).toList == s.toList) = false := tl_ne (by simpa using hXs)
                generalize (⟨X.toArray⟩ : ByteArray) = Y at hxe HTX
                clear hc htz HB HBL hne hXs hX ht
                go_wp2_with fail
                refine (HCL.out _).mono ?_
                rintro e w1 ⟨rfl, hb1⟩
                go_wp2_with fail
                refine (HTX.out _).mono ?_
                rintro e w2 ⟨rfl, hb2⟩
                have hB2 : Below w.heap.size w w2 := bel_call hb2 hb1 hb1.size
                go_wp2_with fail
                go_ret3
                exact ⟨⟨_, _, _, rfl, by simp, by simp⟩, hB2⟩
end Go.Proofs.YtjklbbmgjjdalaaGreatDoor
namespace Go.Proofs.YtjklbbmgjjdalaaGreatDoor
open Go.RowKit Go.Joins
abbrev tRd : TypeId := 113
abbrev ndZ : Nd := .mk 0 0 [] 0 0 []
def Rdr (w : World) (b : Nat) (q : Option Addr) (nT cT i : Nat) (bad : Int) : Prop := BlkC w b #[.slice q nT cT, .int .i64 i, .int .i64 bad] tRd
theorem Rdr.set {w : World} {b : Nat} {q : Option Addr} {nT cT i : Nat} {bad : Int} (h : Rdr w b q nT cT i bad) (z : Int) (j : Nat) (e : z = (j : Int)) : Rdr (w.setCell ⟨b, 1, none⟩ (.int .i64 z)) b q nT cT j bad := by rw [e]; exact block_setCell h _
theorem Rdr.setB {w : World} {b : Nat} {q : Option Addr} {nT cT i : Nat} {bad : Int} (h : Rdr w b q nT cT i bad) (z : Int) : Rdr (w.setCell ⟨b, 2, none⟩ (.int .i64 z)) b q nT cT i z := block_setCell h _
theorem Rdr.below {w w' : World} {b : Nat} {q : Option Addr} {nT cT i : Nat} {bad : Int} (h : Rdr w b q nT cT i bad) (hb : Below w.heap.size w w') : Rdr w' b q nT cT i bad := BlkC.below h hb
theorem Rdr.cells {w : World} {b : Nat} {q : Option Addr} {nT cT i : Nat} {bad : Int} (h : Rdr w b q nT cT i bad) : w.cell? ⟨b, 0, none⟩ = some (.slice q nT cT) ∧ w.cell? ⟨b, 1, none⟩ = some (.int .i64 i) ∧ w.cell? ⟨b, 2, none⟩ = some (.int .i64 bad) ∧ w.frozen? ⟨b, 1, none⟩ = false ∧ w.frozen? ⟨b, 2, none⟩ = false := ⟨BlkC.cell h 0 _ rfl, BlkC.cell h 1 _ rfl, BlkC.cell h 2 _ rfl, BlkC.fz h 1, BlkC.fz h 2⟩
def RiP (R : Bool) (w : World) (e : Ending) (w' : World) : Prop := e = .returned (.bool R) ∧ Below w.heap.size w w'
set_option maxRecDepth 100000 in
set_option maxHeartbeats 8000000 in
theorem ris_any (b : Nat) (q : Option Addr) (cT i : Nat) (bad : Int) (Ts : List Tks.Tk) (s : Bs) (w : World) (hp : Rdr w b q Ts.length cT i bad) (ht : TkR w b q Ts) (hl : Ts.length ≤ 1000) :
    Calls Tryz.prog 72 #[.pointer (some ⟨b, 0, none⟩), .string ⟨s.toArray⟩] w (RiP (decide (bad = 0) && isB Ts i s) w) := by
  obtain ⟨p0, p1, p2, pf, _⟩ := hp.cells
  have r0 := cell_regrown p0
  have r1 := cell_regrown p1
  have r2 := cell_regrown p2
  have hBR : ∀ dd os, Below w.heap.size w (Go.Sort.grow (redrawn w dd) os) := fun dd os => below_regrown w dd os
  by_cases hb0 : bad = 0
  · subst hb0
    rw [decide_eq_true rfl, Bool.true_and]
    obtain ⟨n, hn⟩ : ∃ n, Ts.length = n := ⟨_, rfl⟩
    cases hx : Ts[i]? with
    | none =>
      have hi : ¬ (i : Int) < (n : Int) := by
        have := List.getElem?_eq_none_iff.1 hx
        omega
      rw [show isB Ts i s = false from by unfold isB; rw [hx]]
      rw [hn] at r0
      clear hp ht p0 p1 p2 pf hx hn
      go_enter Tryz.func72, Tryz.ntmps72
      go_upto_region 1 with fail
      refine wp_region_quiet_below (by kernel_rfl) (by kernel_rfl) ?_
      repeat (go_big_quiet_step (fail))
      refine wpQuiet_nil ?_
      intro _ hw'
      obtain ⟨⟨dz, osz⟩, hw''⟩ := hw'
      subst hw''
      have hbz := hBR dz osz
      clear r0 r1 r2 hBR
      go_wp2_with fail
      go_ret
      exact ⟨rfl, hbz⟩
    | some x =>
      have hi : (i : Int) < (n : Int) := by
        have := (List.getElem?_eq_some_iff.1 hx).1
        omega
      have hi2 : i < n := by omega
      obtain ⟨g, rfl, hgb, _, k0, k1, _⟩ := ht.at hx
      have r3 := cell_regrown k0
      have r4 := cell_regrown k1
      obtain ⟨kx, tx, ax⟩ := x
      simp only at r3 r4
      have hib : isB Ts i s = (decide (kx = 4) && decide (tx = s)) := by unfold isB; rw [hx]
      rw [hib]
      rw [hn] at r0 hl
      clear hp ht p0 p1 p2 pf hx hib k0 k1 hn
      by_cases hk : kx = 4
      · subst hk
        by_cases hs : tx = s
        · subst hs
          rw [decide_eq_true rfl, decide_eq_true rfl]
          go_enter Tryz.func72, Tryz.ntmps72
          go_upto_region 1 with fail
          refine wp_region_quiet_below (by kernel_rfl) (by kernel_rfl) ?_
          repeat (go_big_quiet_step (fail))
          refine wpQuiet_nil ?_
          intro _ hw'
          obtain ⟨⟨dz, osz⟩, hw''⟩ := hw'
          subst hw''
          have hbz := hBR dz osz
          clear r0 r1 r2 hBR r3 r4
          go_wp2_with fail
          go_ret
          exact ⟨rfl, hbz⟩
        · rw [decide_eq_false hs]
          have hse : (tx == s) = false := by simpa using hs
          go_enter Tryz.func72, Tryz.ntmps72
          go_upto_region 1 with fail
          refine wp_region_quiet_below (by kernel_rfl) (by kernel_rfl) ?_
          repeat (go_big_quiet_step (fail))
          refine wpQuiet_nil ?_
          intro _ hw'
          obtain ⟨⟨dz, osz⟩, hw''⟩ := hw'
          subst hw''
          have hbz := hBR dz osz
          clear r0 r1 r2 hBR r3 r4
          go_wp2_with fail
          go_ret
          exact ⟨rfl, hbz⟩
      · rw [decide_eq_false hk]
        have hke : (kx == 4) = false := by simpa using hk
        go_enter Tryz.func72, Tryz.ntmps72
        go_upto_region 1 with fail
        refine wp_region_quiet_below (by kernel_rfl) (by kernel_rfl) ?_
        repeat (go_big_quiet_step (fail))
        refine wpQuiet_nil ?_
        intro _ hw'
        obtain ⟨⟨dz, osz⟩, hw''⟩ := hw'
        subst hw''
        have hbz := hBR dz osz
        clear r0 r1 r2 hBR r3 r4
        go_wp2_with fail
        go_ret
        exact ⟨rfl, hbz⟩
  · rw [decide_eq_false hb0, Bool.false_and]
    have hbe : (bad == 0) = false := by simpa using hb0
    clear hp ht p0 p1 p2 pf
    go_enter Tryz.func72, Tryz.ntmps72
    go_upto_region 1 with fail
    refine wp_region_quiet_below (by kernel_rfl) (by kernel_rfl) ?_
    repeat (go_big_quiet_step (fail))
    refine wpQuiet_nil ?_
    intro _ hw'
    obtain ⟨⟨dz, osz⟩, hw''⟩ := hw'
    subst hw''
    have hbz := hBR dz osz
    clear r0 r1 r2 hBR
    go_wp2_with fail
    go_ret
    exact ⟨rfl, hbz⟩
def RfP (b : Nat) (q : Option Addr) (nT cT i : Nat) (bad : Int) (w : World) (e : Ending) (w' : World) : Prop := e = .returned (.agg (ndA ndZ none 0 0)) ∧ Rdr w' b q nT cT i bad ∧ Off b w w'
set_option maxRecDepth 100000 in
set_option maxHeartbeats 8000000 in
theorem rfail_any (b : Nat) (q : Option Addr) (nT cT i : Nat) (bad k : Int) (w : World) (hp : Rdr w b q nT cT i bad) :
    Calls Tryz.prog 92 #[.pointer (some ⟨b, 0, none⟩), .int .i64 k] w (RfP b q nT cT i (if bad = 0 then k else bad) w) := by
  obtain ⟨R, hR⟩ : ∃ R, (if bad = 0 then k else bad) = R := ⟨_, rfl⟩
  rw [hR]
  have hA0 : Hid (BlkC (w.alloc (.cells (ndA ndZ none 0 0) tRn)) w.heap.size (ndA ndZ none 0 0) tRn) := heap_alloc_new w _
  have hAB : Below w.heap.size w (w.alloc (.cells (ndA ndZ none 0 0) tRn)) := by (repeat' (first | (with_reducible exact Below.refl _ _) | (with_reducible assumption) | (with_reducible refine Below.alloc ?_ ?_ _) | (with_reducible refine bel_drewN ?_ _) | (with_reducible refine Below.drew ?_) | (with_reducible refine Below.setCell ?_ ?_ _) | (with_reducible refine bel_call ‹_› ?_ ?_) | go_size))
  have HP0 := Lib.hid (hp.below hAB)
  have HO0 := Lib.hid (Off.of_below (b := b) hAB)
  have hbw : b < w.heap.size := lt_some hp
  clear hp hAB
  go_enter Tryz.func92, Tryz.ntmps92
  go_upto_region 1 with fail
  have e0 : w.alloc (.cells #[.int .i64 0, .int .i64 0, .string ⟨#[]⟩, .int .i64 0, .int .i64 0, .slice none 0 0] tRn) = w.alloc (.cells (ndA ndZ none 0 0) tRn) := rfl
  rw [e0]
  clear e0
  generalize w.alloc (.cells (ndA ndZ none 0 0) tRn) = w0 at hA0 HP0 HO0 ⊢
  obtain ⟨_, _, p2, _, pf⟩ := HP0.out.cells
  by_cases hb0 : bad = 0
  · subst hb0
    rw [if_pos rfl] at hR
    subst hR
    go_upto_region 3 with fail
    have HP1 : Hid (Rdr (w0.setCell ⟨b, 2, none⟩ (.int .i64 k)) b q nT cT i k) := HP0.out.setB k
    have HO1 : Hid (Off b w (w0.setCell ⟨b, 2, none⟩ (.int .i64 k))) := HO0.out.set _ _
    have HA1 : Hid (BlkC (w0.setCell ⟨b, 2, none⟩ (.int .i64 k)) w.heap.size (ndA ndZ none 0 0) tRn) := (Off.set (Off.refl b w0) 2 (.int .i64 k)).bc (by omega) hA0.out
    clear hA0 HP0 HO0 p2 pf
    generalize w0.setCell ⟨b, 2, none⟩ (.int .i64 k) = w1 at HP1 HO1 HA1 ⊢
    refine wp_region_lit ?_
    refine wpList_plain rfl fun K hK => ?_
    go_simp
    refine hK _ _ ?_
    clear hK K
    refine wpList_store_mid (by rfl) _ _ _ (by rfl) w.heap.size 0 #[.int .i64 0, .int .i64 0, .string ⟨#[]⟩, .int .i64 0, .int .i64 0, .slice none 0 0] (by rfl) (by rfl) (block_there HA1.out 6 (Nat.le_refl _)) (by kernel_rfl) (by simp [Value.oneCell']) ?_
    have e8 : w1.setCells w.heap.size 0 (#[.int .i64 0, .int .i64 0, .string ⟨#[]⟩, .int .i64 0, .int .i64 0, .slice none 0 0]).toList = w1.setCells w.heap.size 0 (ndA ndZ none 0 0).toList := rfl
    rw [e8]
    clear e8
    have HS8 : Hid (BlkC (w1.setCells w.heap.size 0 (ndA ndZ none 0 0).toList) w.heap.size (ndA ndZ none 0 0) tRn) := store_block HA1.out _ rfl
    have HO8 : Hid (Off b w (w1.setCells w.heap.size 0 (ndA ndZ none 0 0).toList)) := HO1.out.set_cells (Nat.le_refl _) _ _
    have HP8 := Lib.hid ((store_other (b := w.heap.size) (by omega) (ndA ndZ none 0 0).toList 0 w1).trans HP1.out)
    clear HA1 HO1 HP1
    generalize w1.setCells w.heap.size 0 (ndA ndZ none 0 0).toList = w9 at HS8 HO8 HP8 ⊢
    go_simp
    iterate 3 (first | go_values | go_skip | go_guarded | go_step | go_upon)
    apply wp_ret
    try simp only [Exit.inBlock, Exit.then]
    exact bodyPost_ret (results_cell_row rfl _ _ w.heap.size tRn (ndA ndZ none 0 0) (0, 0) _ rfl HS8.out Tryz.underlying25 rfl (by kernel_rfl)) rfl ⟨rfl, HP8.out, HO8.out⟩
  · rw [if_neg hb0] at hR
    subst hR
    have hbe : (bad == 0) = false := by simpa using hb0
    go_upto_region 3 with fail
    clear p2 pf
    refine wp_region_lit ?_
    refine wpList_plain rfl fun K hK => ?_
    go_simp
    refine hK _ _ ?_
    clear hK K
    refine wpList_store_mid (by rfl) _ _ _ (by rfl) w.heap.size 0 #[.int .i64 0, .int .i64 0, .string ⟨#[]⟩, .int .i64 0, .int .i64 0, .slice none 0 0] (by rfl) (by rfl) (block_there hA0.out 6 (Nat.le_refl _)) (by kernel_rfl) (by simp [Value.oneCell']) ?_
    have e8 : w0.setCells w.heap.size 0 (#[.int .i64 0, .int .i64 0, .string ⟨#[]⟩, .int .i64 0, .int .i64 0, .slice none 0 0]).toList = w0.setCells w.heap.size 0 (ndA ndZ none 0 0).toList := rfl
    rw [e8]
    clear e8
    have HS8 : Hid (BlkC (w0.setCells w.heap.size 0 (ndA ndZ none 0 0).toList) w.heap.size (ndA ndZ none 0 0) tRn) := store_block hA0.out _ rfl
    have HO8 : Hid (Off b w (w0.setCells w.heap.size 0 (ndA ndZ none 0 0).toList)) := HO0.out.set_cells (Nat.le_refl _) _ _
    have HP8 := Lib.hid ((store_other (b := w.heap.size) (by omega) (ndA ndZ none 0 0).toList 0 w0).trans HP0.out)
    clear hA0 HO0 HP0
    generalize w0.setCells w.heap.size 0 (ndA ndZ none 0 0).toList = w9 at HS8 HO8 HP8 ⊢
    go_simp
    iterate 3 (first | go_values | go_skip | go_guarded | go_step | go_upon)
    apply wp_ret
    try simp only [Exit.inBlock, Exit.then]
    exact bodyPost_ret (results_cell_row rfl _ _ w.heap.size tRn (ndA ndZ none 0 0) (0, 0) _ rfl HS8.out Tryz.underlying25 rfl (by kernel_rfl)) rfl ⟨rfl, HP8.out, HO8.out⟩
end Go.Proofs.YtjklbbmgjjdalaaGreatDoor
namespace Go.Proofs.YtjklbbmgjjdalaaGreatDoor
open Go.RowKit Go.Joins
mutual
def cnN : Nd → Nat
  | .mk _ _ _ _ _ a => 1 + cnL a
def cnL : List Nd → Nat
  | [] => 0
  | c :: r => cnN c + cnL r
end
theorem cnN_pos (n : Nd) : 1 ≤ cnN n := by cases n; rw [cnN]; omega
mutual
theorem cn_sz : ∀ (n : Nd) (m : Int), (cnN n : Int) ≤ m → szN n m = cnN n
  | .mk k u t f o a, m, h => by
    rw [cnN] at h ⊢
    rw [szN, cn_szL a 1 m (by omega) (by omega)]
    omega
theorem cn_szL : ∀ (a : List Nd) (k m : Int), 1 ≤ k → k + (cnL a : Int) ≤ m → szL a k m = k + cnL a
  | [], k, m, h1, h => by rw [szL, cnL]; omega
  | c :: r, k, m, h1, h => by
    rw [cnL] at h ⊢
    have := cnN_pos c
    rw [szL, if_pos (by omega), cn_sz c (m - k) (by omega), cn_szL r _ m (by omega) (by omega)]
    omega
end
theorem cn_few {n : Nd} (h : cnN n ≤ 1000) : FewN n := ⟨1000, by omega, by rw [cn_sz n 1000 (by omega)]; omega⟩
def txM (m : Nat) : Nd → Prop
  | .mk _ _ t _ _ a => t.length ≤ m ∧ txM.txL m a
where txL (m : Nat) : List Nd → Prop
  | [] => True
  | c :: r => txM m c ∧ txL m r
theorem txM_of {m : Nat} : ∀ {a : List Nd}, (∀ c ∈ a, txM m c) → txM.txL m a
  | [], _ => by rw [txM.txL]; trivial
  | c :: r, h => by
    rw [txM.txL]
    exact ⟨h c (by simp), txM_of (fun x hx => h x (by simp [hx]))⟩
structure Gd (n : Nd) (k : Nat) : Prop where
  fm : Fm n
  ok : OkN n
  cn : cnN n ≤ k
  wt : wtN n + 1 ≤ 1000 * k
  tx : txM 256 n
theorem Gd.up {n : Nd} {k k' : Nat} (h : Gd n k) (hk : k ≤ k') : Gd n k' := ⟨h.fm, h.ok, by have := h.cn; omega, by have := h.wt; omega, h.tx⟩
theorem Gd.pos {n : Nd} {k : Nat} (h : Gd n k) : 1 ≤ k := by have := h.wt; omega
theorem gd_num {u : Int} (h1 : 0 ≤ u) (h2 : u ≤ 9223372036854775807) : Gd (.mk 1 u [] 0 0 []) 1 :=
  ⟨.num u h1 h2, .mk _ _ _ _ _ _ (by simp) (by simp) (by omega) (by omega) (by omega) (fun c hc => by cases hc), by simp [cnN, cnL], by simp [wtN, wtL], by rw [txM]; exact ⟨by simp, by rw [txM.txL]; trivial⟩⟩
theorem gd_txt {t : Bs} (h : t.length ≤ 256) : Gd (.mk 2 0 t 0 0 []) 1 :=
  ⟨.txt t, .mk _ _ _ _ _ _ (by omega) (by simp) (by omega) (by omega) (by omega) (fun c hc => by cases hc), by simp [cnN, cnL], by simp [wtN, wtL]; omega, by rw [txM]; exact ⟨by simpa using h, by rw [txM.txL]; trivial⟩⟩
theorem gd_ref {f : Int} (h : OkC f) (h1 : 0 ≤ f) (h2 : f ≤ 10000000) : Gd (.mk 3 0 [] f 0 []) 1 :=
  ⟨.ref f h, .mk _ _ _ _ _ _ (by simp) (by simp) (by omega) (by omega) (by omega) (fun c hc => by cases hc), by simp [cnN, cnL], by simp [wtN, wtL], by rw [txM]; exact ⟨by simp, by rw [txM.txL]; trivial⟩⟩
theorem gd_rng {f o : Int} (h : OkC f) (h1 : 0 ≤ f) (h2 : f ≤ 10000000) (h' : OkC o) (h1' : 0 ≤ o) (h2' : o ≤ 10000000) : Gd (.mk 4 0 [] f o []) 1 :=
  ⟨.rng f o h h', .mk _ _ _ _ _ _ (by simp) (by simp) (by omega) (by omega) (by omega) (fun c hc => by cases hc), by simp [cnN, cnL], by simp [wtN, wtL], by rw [txM]; exact ⟨by simp, by rw [txM.txL]; trivial⟩⟩
theorem gd_flt : Gd (.mk 8 0 [] 0 0 []) 1 :=
  ⟨.flt, .mk _ _ _ _ _ _ (by simp) (by simp) (by omega) (by omega) (by omega) (fun c hc => by cases hc), by simp [cnN, cnL], by simp [wtN, wtL], by rw [txM]; exact ⟨by simp, by rw [txM.txL]; trivial⟩⟩
theorem gd_neg {a : Nd} {k : Nat} (h : Gd a k) : Gd (.mk 5 0 [] 0 0 [a]) (k + 1) :=
  ⟨.neg a h.fm, .mk _ _ _ _ _ _ (by simp) (by simp) (by omega) (by omega) (by omega) (fun c hc => by obtain rfl := List.mem_singleton.1 hc; exact h.ok), by have := h.cn; simp [cnN, cnL]; omega, by have := h.wt; simp [wtN, wtL]; omega, by rw [txM]; exact ⟨by simp, txM_of (fun c hc => by obtain rfl := List.mem_singleton.1 hc; exact h.tx)⟩⟩
theorem gd_bin {t : Bs} {a c : Nd} {k k' : Nat} (ht : 1 ≤ lvS t) (hl : t.length ≤ 256) (h : Gd a k) (h' : Gd c k') : Gd (.mk 6 0 t 0 0 [a, c]) (k + k' + 1) :=
  ⟨.bin t a c ht h.fm h'.fm, .mk _ _ _ _ _ _ (by omega) (by simp) (by omega) (by omega) (by omega) (fun x hx => by
    rcases List.mem_cons.1 hx with rfl | hx
    · exact h.ok
    · obtain rfl := List.mem_singleton.1 hx; exact h'.ok), by have := h.cn; have := h'.cn; simp [cnN, cnL]; omega, by have := h.wt; have := h'.wt; simp [wtN, wtL]; omega, by rw [txM]; exact ⟨hl, txM_of (fun x hx => by
      rcases List.mem_cons.1 hx with rfl | hx
      · exact h.tx
      · obtain rfl := List.mem_singleton.1 hx; exact h'.tx)⟩⟩
structure GdL (l : List Nd) (k : Nat) : Prop where
  fm : ∀ c ∈ l, Fm c
  ok : ∀ c ∈ l, OkN c
  cn : cnL l ≤ k
  wt : wtL l ≤ 1000 * k
  tx : ∀ c ∈ l, txM 256 c
theorem gdL_nil (k : Nat) : GdL [] k := ⟨fun c h => (by cases h), fun c h => (by cases h), by simp [cnL], by simp [wtL], fun c h => (by cases h)⟩
theorem cnL_app : ∀ a b : List Nd, cnL (a ++ b) = cnL a + cnL b
  | [], b => by simp [cnL]
  | c :: r, b => by rw [List.cons_append, cnL, cnL, cnL_app r b]; omega
theorem wtL_app : ∀ a b : List Nd, wtL (a ++ b) = wtL a + wtL b
  | [], b => by simp [wtL]
  | c :: r, b => by rw [List.cons_append, wtL, wtL, wtL_app r b]; omega
theorem GdL.snoc {l : List Nd} {k k' : Nat} {c : Nd} (h : GdL l k) (hc : Gd c k') : GdL (l ++ [c]) (k + k') :=
  ⟨fun x hx => by
    rcases List.mem_append.1 hx with hx | hx
    · exact h.fm x hx
    · obtain rfl := List.mem_singleton.1 hx; exact hc.fm, fun x hx => by
    rcases List.mem_append.1 hx with hx | hx
    · exact h.ok x hx
    · obtain rfl := List.mem_singleton.1 hx; exact hc.ok, by
    have := h.cn; have := hc.cn
    rw [cnL_app, cnL, cnL]; omega, by
    have := h.wt; have := hc.wt
    rw [wtL_app, wtL, wtL]; omega, fun x hx => by
    rcases List.mem_append.1 hx with hx | hx
    · exact h.tx x hx
    · obtain rfl := List.mem_singleton.1 hx; exact hc.tx⟩
theorem GdL.up {l : List Nd} {k k' : Nat} (h : GdL l k) (hk : k ≤ k') : GdL l k' := ⟨h.fm, h.ok, by have := h.cn; omega, by have := h.wt; omega, h.tx⟩
theorem gd_cal {t : Bs} {l : List Nd} {k : Nat} (ht : nameB t = true) (hl : t.length ≤ 256) (h : GdL l k) (h16 : l.length ≤ 16) : Gd (.mk 7 0 t 0 0 l) (k + 1) :=
  ⟨.cal t l ht h16 h.fm, .mk _ _ _ _ _ _ (by omega) (by omega) (by omega) (by omega) (by omega) h.ok, by have := h.cn; rw [cnN]; omega, by have := h.wt; rw [wtN]; omega, by rw [txM]; exact ⟨hl, txM_of h.tx⟩⟩
def TokOk (Ts : List Tks.Tk) : Prop := ∀ x ∈ Ts, x.2.1.length ≤ 256 ∧ (x.1 = 1 → btN x.2.1 0 ≠ 45)
theorem tokOk_spl : ∀ (f : Nat) (L : Bs) (i : Nat) (Ts : List Tks.Tk) (x : Nat), L.length - i ≤ f → L.length ≤ 256 → Tks.spl L i = (some Ts, x) → TokOk Ts ∧ Ts.length ≤ L.length - i := by
  intro f
  induction f with
  | zero =>
    intro L i Ts x h hL hs
    rw [Tks.spl_end L i (by omega)] at hs
    cases hs
    exact ⟨fun x hx => (by cases hx), by simp⟩
  | succ f ih =>
    intro L i Ts x h hL hs
    by_cases hi : L.length ≤ i
    · rw [Tks.spl_end L i hi] at hs
      cases hs
      exact ⟨fun x hx => (by cases hx), by simp⟩
    · rw [Tks.spl_step L i (by omega)] at hs
      split at hs
      · obtain ⟨h1, h2⟩ := ih L (i + 1) Ts x (by omega) hL hs
        exact ⟨h1, by omega⟩
      · split at hs
        · cases hs
        · rename_i k t n ht
          have hp := Tks.tok_pos (by omega) ht
          split at hs
          · rename_i r y hr
            cases hs
            obtain ⟨h1, h2⟩ := ih L (i + n) r _ (by omega) hL hr
            refine ⟨fun z hz => ?_, by rw [List.length_cons]; omega⟩
            rcases List.mem_cons.1 hz with rfl | hz
            · refine ⟨by show t.length ≤ 256; omega, fun hk => ?_⟩
              have hk : k = 1 := hk
              subst hk
              show btN t 0 ≠ 45
              unfold Tks.tok at ht
              split at ht
              · rename_i hd
                split at ht
                · cases ht
                · rename_i hn0
                  cases ht
                  have e : btN ((L.drop i).take (Tks.numN L i)) 0 = Tks.nx L i := by
                    unfold btN Tks.nx
                    rw [List.getD_eq_getElem?_getD, List.getElem?_take_of_lt (by omega), List.getElem?_drop, List.getD_eq_getElem?_getD, Nat.add_zero]
                  rw [e]
                  intro e2
                  rw [e2] at hd
                  cases hd
              · split at ht
                · cases ht
                · split at ht
                  · split at ht
                    · cases ht
                    · cases ht
                  · split at ht
                    · cases ht
                    · split at ht
                      · cases ht
                      · cases ht
            · exact h1 z hz
          · cases hs
theorem num_pos {L : Bs} (h : btN L 0 ≠ 45) : 0 ≤ rprsV L ∧ rprsV L ≤ 9223372036854775807 := by
  have hm : prsMi L = false := by
    unfold prsMi Lib.hasPrefix
    cases L with
    | nil => rfl
    | cons c r =>
      have h2 : c ≠ 45 := fun e => h (by rw [e]; rfl)
      show ([45] : Bs).isPrefixOf (c :: r) = false
      have : ((45 : UInt8) == c) = false := by rw [beq_eq_false_iff_ne]; exact fun e => h2 e.symm
      simp [List.isPrefixOf, this]
  unfold rprsV
  split
  · rename_i hok
    unfold rprsOk at hok
    rw [Bool.and_eq_true] at hok
    rw [hm] at hok ⊢
    have h2 := hok.2
    unfold sv at h2 ⊢
    unfold inR at h2
    simp at h2 ⊢
    omega
  · omega
theorem okC_mk {c r : Int} (h : rtC c r = true) : OkC (c * 10000 + r) ∧ 0 ≤ c * 10000 + r ∧ c * 10000 + r ≤ 10000000 := by
  have h' := h
  unfold rtC at h'
  simp at h'
  have e1 : cC (c * 10000 + r) = c := by
    unfold cC
    rw [Int.tdiv_eq_ediv_of_nonneg (by omega)]
    omega
  have e2 : cR (c * 10000 + r) = r := by
    unfold cR
    rw [Int.tmod_eq_emod_of_nonneg (by omega)]
    omega
  refine ⟨?_, by omega, by omega⟩
  unfold OkC
  rw [e1, e2, h]
def RcP (b : Nat) (q : Option Addr) (nT cT i : Nat) (w : World) (e : Ending) (w' : World) : Prop := ∃ (k bad' : Int), e = .returned (.int .i64 k) ∧ Rdr w' b q nT cT i bad' ∧ Off b w w' ∧ (bad' = 0 → OkC k ∧ 0 ≤ k ∧ k ≤ 10000000)
set_option maxRecDepth 100000 in
set_option maxHeartbeats 8000000 in
theorem rcell_any (b : Nat) (q : Option Addr) (nT cT i : Nat) (t : Bs) (ht : t.length ≤ 256) (w : World) (hp : Rdr w b q nT cT i 0) :
    Calls Tryz.prog 114 #[.pointer (some ⟨b, 0, none⟩), .string ⟨t.toArray⟩] w (RcP b q nT cT i w) := by
  have HC := Lib.hid (fun W => r7parse_any ⟨t.toArray⟩ (by rw [Lib.size_eq]; show t.length ≤ 1000; omega) W)
  have HF := Lib.hid (fun W h => rfail_any b q nT cT i 0 20 W h)
  rw [if_pos rfl] at HF
  have HP := Lib.hid hp
  clear hp ht
  go_enter Tryz.func114, Tryz.ntmps114
  go_wp2_with fail
  refine (HC.out _).mono ?_
  rintro e w1 ⟨⟨c, r, ok, rfl, h1, h2⟩, hb1⟩
  have HP1 := Lib.hid (HP.out.below hb1)
  have HO1 := Lib.hid (Off.of_below (b := b) hb1)
  clear hb1 HP
  have hbw : b < w1.heap.size := lt_some HP1.out
  cases ok with
  | false =>
    obtain ⟨rfl, rfl⟩ := h2 rfl
    go_wp2_with fail
    refine (HF.out _ HP1.out).mono ?_
    rintro e w2 ⟨rfl, hp2, ho2⟩
    have HP2 := Lib.hid hp2
    have HO2 := Lib.hid (HO1.out.trans ho2)
    clear hp2 ho2
    go_wp2_with fail
    refine (rcell_num 0 0 (by omega) (by omega) (by omega) (by omega) _).mono ?_
    rintro e w3 ⟨rfl, rfl⟩
    go_wp2_with fail
    go_ret
    exact ⟨_, 20, rfl, HP2.out, HO2.out, fun h => by cases h⟩
  | true =>
    obtain ⟨h3, h4, h5⟩ := okC_mk (h1 rfl)
    have h' := h1 rfl
    unfold rtC at h'
    simp at h'
    have f1 : IntKind.i64.wrap (c * 10000) = c * 10000 := IntWalk.i64_in _ (by omega)
    have f2 : IntKind.i64.wrap (c * 10000 + r) = c * 10000 + r := IntWalk.i64_in _ (by omega)
    clear h1 h2
    go_wp2_with fail
    refine (rcell_num c r (by omega) (by omega) (by omega) (by omega) _).mono ?_
    rintro e w3 ⟨rfl, rfl⟩
    go_wp2_with fail
    go_ret
    exact ⟨_, 0, rfl, HP1.out, HO1.out, fun _ => ⟨h3, h4, h5⟩⟩
end Go.Proofs.YtjklbbmgjjdalaaGreatDoor
