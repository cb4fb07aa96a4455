/- Contracts of the small functions of both texts: a byte, a digit, a letter, a run, a beginning. -/
import Derived.Test.YtipnedgmmpdpjaaDoorTokA
import Derived.Deep.DeepCutAuto
import Derived.Deep.LoopGhost
set_option linter.unusedSimpArgs false
set_option linter.unusedVariables false
namespace Go.Proofs.YtipnedgmmpdpjaaDoor
open Go.RowKit

theorem nx_str (s : ByteArray) (i : Nat) (h : i < s.size) : ((s[i].toNat : Nat) : Int) = (nx s.data.toList i : Int) := by
  have hl : i < s.data.toList.length := by rw [← Lib.size_eq]; exact h
  rw [nx_get hl]
  simp [ByteArray.getElem_eq_getElem_data]
theorem ret_u8 {a b : Int} (h : a = b) : Ending.returned (.int .u8 a) = .returned (.int .u8 b) := by rw [h]
theorem ret_i64 {a b : Int} (h : a = b) : Ending.returned (.int .i64 a) = .returned (.int .i64 b) := by rw [h]
theorem ret_b {a b : Bool} (h : a = b) : Ending.returned (.bool a) = .returned (.bool b) := by rw [h]

set_option maxHeartbeats 400000 in
theorem next_any (s : ByteArray) (i : Nat) (hs : s.size ≤ 100000) (w : World) :
    Calls Tryd.prog 10 #[.string s, .int .i64 i] w fun e w' => e = .returned (.int .u8 (nx s.data.toList i : Int)) ∧ w = w' := by
  by_cases h : i < s.size
  · have H := Lib.hid (nx_str s i h)
    go_enter Tryd.func10, Tryd.ntmps10
    go_wp2
    go_ret
    exact ⟨ret_u8 H.out, rfl⟩
  · have H := Lib.hid (nx_end (L := s.data.toList) (i := i) (by rw [← Lib.size_eq]; omega))
    have h' : s.size ≤ i := by omega
    go_enter Tryd.func10, Tryd.ntmps10
    go_wp2
    go_ret
    exact ⟨ret_u8 (by rw [H.out]; rfl), rfl⟩

set_option maxHeartbeats 400000 in
theorem digit_any (c : Nat) (w : World) : Calls Tryd.prog 13 #[.int .u8 c] w fun e w' => e = .returned (.bool (dgB c)) ∧ w = w' := by
  by_cases h1 : (48 : Int) ≤ (c : Int)
  · by_cases h2 : (c : Int) ≤ 57
    · have H := Lib.hid (show dgB c = true by simp [dgB]; omega)
      go_enter Tryd.func13, Tryd.ntmps13
      go_wp2
      go_ret
      exact ⟨ret_b H.out.symm, rfl⟩
    · have H := Lib.hid (show dgB c = false by simp [dgB]; omega)
      go_enter Tryd.func13, Tryd.ntmps13
      go_wp2
      go_ret
      exact ⟨ret_b H.out.symm, rfl⟩
  · have H := Lib.hid (show dgB c = false by simp [dgB]; omega)
    go_enter Tryd.func13, Tryd.ntmps13
    go_wp2
    go_ret
    exact ⟨ret_b H.out.symm, rfl⟩

set_option maxHeartbeats 400000 in
theorem letter_any (c : Nat) (w : World) : Calls Tryd.prog 15 #[.int .u8 c] w fun e w' => e = .returned (.bool (upB c)) ∧ w = w' := by
  by_cases h1 : (65 : Int) ≤ (c : Int)
  · by_cases h2 : (c : Int) ≤ 90
    · have H := Lib.hid (show upB c = true by simp [upB]; omega)
      go_enter Tryd.func15, Tryd.ntmps15
      go_wp2
      go_ret
      exact ⟨ret_b H.out.symm, rfl⟩
    · have H := Lib.hid (show upB c = false by simp [upB]; omega)
      go_enter Tryd.func15, Tryd.ntmps15
      go_wp2
      go_ret
      exact ⟨ret_b H.out.symm, rfl⟩
  · have H := Lib.hid (show upB c = false by simp [upB]; omega)
    go_enter Tryd.func15, Tryd.ntmps15
    go_wp2
    go_ret
    exact ⟨ret_b H.out.symm, rfl⟩

/-- The contracts as a walk offers them: the answer's name is the caller's. -/
theorem next_at (s : ByteArray) (i c : Nat) (hs : s.size ≤ 100000) (h : nx s.data.toList i = c) (w : World) :
    Calls Tryd.prog 10 #[.string s, .int .i64 i] w fun e w' => e = .returned (.int .u8 (c : Int)) ∧ w = w' := h ▸ next_any s i hs w
theorem digit_yes (c : Nat) (h : dgB c = true) (w : World) : Calls Tryd.prog 13 #[.int .u8 c] w fun e w' => e = .returned (.bool true) ∧ w = w' := h ▸ digit_any c w
theorem digit_no (c : Nat) (h : dgB c = false) (w : World) : Calls Tryd.prog 13 #[.int .u8 c] w fun e w' => e = .returned (.bool false) ∧ w = w' := h ▸ digit_any c w
theorem letter_yes (c : Nat) (h : upB c = true) (w : World) : Calls Tryd.prog 15 #[.int .u8 c] w fun e w' => e = .returned (.bool true) ∧ w = w' := h ▸ letter_any c w
theorem letter_no (c : Nat) (h : upB c = false) (w : World) : Calls Tryd.prog 15 #[.int .u8 c] w fun e w' => e = .returned (.bool false) ∧ w = w' := h ▸ letter_any c w

set_option maxRecDepth 100000 in
set_option maxHeartbeats 1000000 in
theorem name_any (s : ByteArray) (i : Nat) (hs : s.size ≤ 100000) (hi : i ≤ 100000) (w : World) :
    Calls Tryd.prog 16 #[.string s, .int .i64 i] w fun e w' => e = .returned (.int .i64 ((i + runN nmB s.data.toList i : Nat) : Int)) ∧ w = w' := by
  have HE := Lib.hid (show runN nmB s.data.toList i + i ≤ i + runN nmB s.data.toList i by omega)
  obtain ⟨n, hn⟩ : ∃ n, i + runN nmB s.data.toList i = n := ⟨_, rfl⟩
  have hn2 : n ≤ 200000 := by have := run_le nmB s.data.toList i; rw [← Lib.size_eq] at this; omega
  rw [hn]
  have HN := Lib.hid hn
  clear hn HE
  go_enter Tryd.func16, Tryd.ntmps16
  go_wp2_with fail
  go_loop [1] (fun v => ∃ k : Nat, v = .int .i64 k ∧ k ≤ n ∧ k + runN nmB s.data.toList k = n) (fun v => n - (intOf v).toNat)
  case atStart => exact ⟨i, rfl, by have := HN.out; omega, HN.out⟩
  case round =>
    obtain ⟨k, rfl, hk, hr⟩ := hrel
    have HR := Lib.hid hr
    clear hr
    obtain ⟨c, hc⟩ : ∃ c, nx s.data.toList k = c := ⟨_, rfl⟩
    have HC := Lib.hid hc
    clear hc
    have HS := Lib.hid (run_step (p := nmB) (by decide) s.data.toList k)
    rcases hu : upB c with _ | _
    · rcases hd : dgB c with _ | _
      · have HU := Lib.hid hu
        have HD := Lib.hid hd
        clear hu hd
        have hkn : k = n := by have h1 := HS.out; rw [HC.out, if_neg (by simp [nmB, HU.out, HD.out])] at h1; have := HR.out; omega
        have HK := Lib.hid hkn
        clear hkn
        go_wp2_with fail
        refine (next_at s k c hs HC.out _).mono ?_
        rintro e w1 ⟨rfl, rfl⟩
        go_wp2_with fail
        refine (letter_no c HU.out _).mono ?_
        rintro e w1 ⟨rfl, rfl⟩
        go_wp2_with fail
        refine (next_at s k c hs HC.out _).mono ?_
        rintro e w1 ⟨rfl, rfl⟩
        go_wp2_with fail
        refine (digit_no c HD.out _).mono ?_
        rintro e w1 ⟨rfl, rfl⟩
        go_wp2_with fail
        go_ret
        exact ⟨ret_i64 (by rw [HK.out]), rfl⟩
      · have HU := Lib.hid hu
        have HD := Lib.hid hd
        clear hu hd
        have hkn : k + 1 + runN nmB s.data.toList (k + 1) = n := by have h1 := HS.out; rw [HC.out, if_pos (by simp [nmB, HD.out])] at h1; have := HR.out; omega
        have HK := Lib.hid hkn
        clear hkn
        go_wp2_with fail
        refine (next_at s k c hs HC.out _).mono ?_
        rintro e w1 ⟨rfl, rfl⟩
        go_wp2_with fail
        refine (letter_no c HU.out _).mono ?_
        rintro e w1 ⟨rfl, rfl⟩
        go_wp2_with fail
        refine (next_at s k c hs HC.out _).mono ?_
        rintro e w1 ⟨rfl, rfl⟩
        go_wp2_with fail
        refine (digit_yes c HD.out _).mono ?_
        rintro e w1 ⟨rfl, rfl⟩
        go_wp2_with fail
        go_round
        case rel => exact ⟨k + 1, by go_num, by have := HK.out; omega, HK.out⟩
        case measure => have := HK.out; simp [intOf]; omega
    · have HU := Lib.hid hu
      clear hu
      have hkn : k + 1 + runN nmB s.data.toList (k + 1) = n := by have h1 := HS.out; rw [HC.out, if_pos (by simp [nmB, HU.out])] at h1; have := HR.out; omega
      have HK := Lib.hid hkn
      clear hkn
      go_wp2_with fail
      refine (next_at s k c hs HC.out _).mono ?_
      rintro e w1 ⟨rfl, rfl⟩
      go_wp2_with fail
      refine (letter_yes c HU.out _).mono ?_
      rintro e w1 ⟨rfl, rfl⟩
      go_wp2_with fail
      go_round
      case rel => exact ⟨k + 1, by go_num, by have := HK.out; omega, HK.out⟩
      case measure => have := HK.out; simp [intOf]; omega
end Go.Proofs.YtipnedgmmpdpjaaDoor
