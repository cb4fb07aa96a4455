/- Parts of texts: contracts, and the walk of StrsParts. -/
import Derived.Test.YtcmpeppjopdeaaaStrC
set_option linter.unusedSimpArgs false
set_option linter.unusedVariables false
namespace Go.Proofs.Ytcmpeppjopdeaaa
open Go.RowKit

theorem u8_eta (c : UInt8) : UInt8.ofNat c.toNat = c := by simp
theorem cat2 (X Y : List UInt8) : (⟨X.toArray⟩ : ByteArray) ++ ⟨Y.toArray⟩ = ⟨(X ++ Y).toArray⟩ := by
  apply ByteArray.ext
  simp
theorem size_of (X : List UInt8) : (⟨X.toArray⟩ : ByteArray).size = X.length := by rw [Lib.size_eq]
theorem ext_list (s : ByteArray) (i j n : Nat) (h : j = i + n) : s.extract i j = ⟨((s.data.toList.drop i).take n).toArray⟩ := by
  subst h
  apply ByteArray.ext
  apply Array.ext'
  rw [ByteArray.data_extract, Array.toList_extract, List.extract_eq_take_drop]
  simp
theorem ext_one (s : ByteArray) (j : Nat) (h : j < s.size) : s.extract j (j + 1) = ⟨[UInt8.ofNat (nx s.data.toList j)].toArray⟩ := by
  have hl : j < s.data.toList.length := by rw [← Lib.size_eq]; exact h
  rw [ext_list s j (j + 1) 1 rfl, List.drop_eq_getElem_cons hl, nx_get hl, u8_eta]
  rfl
theorem ret_s {a b : ByteArray} (h : a = b) : Ending.returned (.string a) = .returned (.string b) := by rw [h]

/-- k is n, put between 0 and m. -/
def Clip (n : Int) (m k : Nat) : Prop := (n < 0 ∧ k = 0) ∨ (0 ≤ n ∧ n ≤ m ∧ n = k) ∨ ((m : Int) < n ∧ k = m)
theorem clip_ex (n : Int) (m : Nat) : ∃ k, Clip n m k ∧ k ≤ m := by
  by_cases h1 : n < 0
  · exact ⟨0, .inl ⟨h1, rfl⟩, by omega⟩
  · by_cases h2 : n ≤ m
    · exact ⟨n.toNat, .inr (.inl ⟨by omega, h2, by omega⟩), by omega⟩
    · exact ⟨m, .inr (.inr ⟨by omega, rfl⟩), by omega⟩

set_option maxHeartbeats 400000 in
theorem clip_any (n z : Int) (m k : Nat) (hz : z = m) (h : Clip n m k) (w : World) :
    Calls Try.prog 18 #[.int .i64 n, .int .i64 z] w fun e w' => e = .returned (.int .i64 (k : Int)) ∧ w = w' := by
  subst hz
  rcases h with ⟨h1, h2⟩ | ⟨h1, h2, h3⟩ | ⟨h1, h2⟩
  · have H := Lib.hid h2
    clear h2
    have hm : (0 : Int) ≤ (m : Int) := by omega
    go_enter Try.func18, Try.ntmps18
    go_wp2
    go_ret
    exact ⟨ret_i64 (show min (max n 0) (m : Int) = (k : Int) by have := H.out; omega), rfl⟩
  · have H := Lib.hid h3
    clear h3
    go_enter Try.func18, Try.ntmps18
    go_wp2
    go_ret
    exact ⟨ret_i64 (show min (max n 0) (m : Int) = (k : Int) by have := H.out; omega), rfl⟩
  · have H := Lib.hid h2
    clear h2
    have h0 : (0 : Int) ≤ n := by omega
    go_enter Try.func18, Try.ntmps18
    go_wp2
    go_ret
    exact ⟨ret_i64 (show min (max n 0) (m : Int) = (k : Int) by have := H.out; omega), rfl⟩

set_option maxHeartbeats 400000 in
theorem left_any (s : ByteArray) (n : Int) (k : Nat) (X : ByteArray) (hs : s.size ≤ 100000) (h : Clip n s.size k) (hk : k ≤ s.size) (hX : s.extract 0 k = X) (w : World) :
    Calls Try.prog 10 #[.string s, .int .i64 n] w fun e w' => e = .returned (.string X) ∧ w = w' := by
  have H := Lib.hid h
  have HX := Lib.hid hX
  clear h hX
  go_enter Try.func10, Try.ntmps10
  go_wp2_with fail
  refine (clip_any n _ s.size k rfl H.out _).mono ?_
  rintro e w1 ⟨rfl, rfl⟩
  go_wp2_with fail
  go_ret
  exact ⟨ret_s HX.out, rfl⟩
set_option maxHeartbeats 400000 in
theorem right_any (s : ByteArray) (n : Int) (k : Nat) (X : ByteArray) (hs : s.size ≤ 100000) (h : Clip n s.size k) (hk : k ≤ s.size) (hX : s.extract (s.size - k) s.size = X) (w : World) :
    Calls Try.prog 12 #[.string s, .int .i64 n] w fun e w' => e = .returned (.string X) ∧ w = w' := by
  have H := Lib.hid h
  have HX := Lib.hid hX
  clear h hX
  go_enter Try.func12, Try.ntmps12
  go_wp2_with fail
  refine (clip_any n _ s.size k rfl H.out _).mono ?_
  rintro e w1 ⟨rfl, rfl⟩
  go_wp2_with fail
  go_ret
  exact ⟨ret_s HX.out, rfl⟩
set_option maxHeartbeats 400000 in
theorem mid_arg (s : ByteArray) (f n : Int) (h : f < 1 ∨ (1 ≤ f ∧ n < 0)) (w : World) :
    Calls Try.prog 9 #[.string s, .int .i64 f, .int .i64 n] w fun e w' => e = .returned (.tuple #[.string ⟨#[]⟩, .int .i64 1]) ∧ w = w' := by
  rcases h with h | ⟨h, h'⟩
  all_goals
    go_enter Try.func9, Try.ntmps9
    go_wp2_with fail
    go_ret2
    exact ⟨rfl, rfl⟩
set_option maxHeartbeats 400000 in
theorem mid_far (s : ByteArray) (f n : Int) (h1 : 1 ≤ f) (hn : 0 ≤ n) (h2 : (s.size : Int) < f) (w : World) :
    Calls Try.prog 9 #[.string s, .int .i64 f, .int .i64 n] w fun e w' => e = .returned (.tuple #[.string ⟨#[]⟩, .int .i64 0]) ∧ w = w' := by
  go_enter Try.func9, Try.ntmps9
  go_wp2_with fail
  go_ret2
  exact ⟨rfl, rfl⟩
set_option maxHeartbeats 800000 in
theorem mid_any (s : ByteArray) (g : Nat) (n : Int) (k : Nat) (X : ByteArray) (hs : s.size ≤ 100000) (hn : 0 ≤ n) (hg : g < s.size) (h : Clip n (s.size - g) k) (hk : k ≤ s.size - g) (hX : (s.extract g s.size).extract 0 k = X) (f : Int) (hf : f = (g : Int) + 1) (w : World) :
    Calls Try.prog 9 #[.string s, .int .i64 f, .int .i64 n] w fun e w' => e = .returned (.tuple #[.string X, .int .i64 0]) ∧ w = w' := by
  subst hf
  have H := Lib.hid h
  have HX := Lib.hid hX
  have hsz : (s.extract g s.size).size = s.size - g := by rw [ByteArray.size_extract]; omega
  have HSZ := Lib.hid hsz
  have hkz : k ≤ (s.extract g s.size).size := by omega
  have hz9 : (s.extract g s.size).size ≤ 100000 := by omega
  clear h hX hsz
  have h1 : (1 : Int) ≤ (g : Int) + 1 := by omega
  have h2 : (g : Int) + 1 ≤ (s.size : Int) := by omega
  go_enter Try.func9, Try.ntmps9
  go_wp2_with fail
  refine (clip_any n _ (s.size - g) k (by have := HSZ.out; omega) H.out _).mono ?_
  rintro e w1 ⟨rfl, rfl⟩
  go_wp2_with fail
  go_ret2
  exact ⟨by rw [HX.out]; rfl, rfl⟩

set_option maxRecDepth 100000 in
set_option maxHeartbeats 1000000 in
theorem part_any (s : ByteArray) (z1 z2 : Int) (f t : Nat) (X : ByteArray) (hs : s.size ≤ 100000) (h1 : z1 = f) (h2 : z2 = t) (hX : (⟨((s.data.toList.take t).drop f).toArray⟩ : ByteArray) = X) (w : World) :
    Calls Try.prog 11 #[.string s, .int .i64 z1, .int .i64 z2] w fun e w' => e = .returned (.string X) ∧ w = w' := by
  subst h1 h2
  have HX := Lib.hid hX
  clear hX
  go_enter Try.func11, Try.ntmps11
  go_wp2_with fail
  go_loop [7, 8] (fun o v => ∃ (i : Nat) (x : ByteArray), v = .int .i64 i ∧ o = .string x ∧ i ≤ s.size ∧ x = ⟨(((s.data.toList.take i).take t).drop f).toArray⟩) (fun _ v => s.size - (intOf v).toNat)
  case atStart => exact ⟨0, _, rfl, rfl, by omega, by simp⟩
  case round =>
    obtain ⟨i, x, rfl, rfl, hi, hx⟩ := hrel
    have hxs : x.size ≤ 100000 := by rw [hx, size_of]; simp; omega
    have HXX := Lib.hid hx
    clear hx
    rcases Nat.lt_or_ge i s.size with hlt | hge
    · have hlt' : i < s.data.toList.length := by rw [← Lib.size_eq]; exact hlt
      have hts : s.data.toList.take (i + 1) = s.data.toList.take i ++ [UInt8.ofNat (nx s.data.toList i)] := by rw [List.take_succ_eq_append_getElem hlt', nx_get hlt', u8_eta]
      have hx1 := ext_one s i hlt
      have hz3 : (s.extract i (i + 1)).size = 1 := by rw [hx1]; rfl
      have hli : (s.data.toList.take i).length = i := by simp; omega
      by_cases hf : f ≤ i
      · have hfi : (f : Int) ≤ (i : Int) := by omega
        by_cases ht : i < t
        · have hti : (i : Int) < (t : Int) := by omega
          have HN : Hid (x ++ s.extract i (i + 1) = ⟨(((s.data.toList.take (i + 1)).take t).drop f).toArray⟩) := by
            unfold Hid
            rw [HXX.out, hx1, cat2, List.take_of_length_le (l := s.data.toList.take i) (by omega), List.take_of_length_le (l := s.data.toList.take (i + 1)) (by simp; omega), hts, List.drop_append_of_le_length (by omega)]
          clear hts hx1 hli
          go_wp2_with fail
          go_round
          case rel => exact ⟨i + 1, _, by go_num, rfl, by omega, HN.out⟩
          case measure => simp [intOf]; omega
        · have hti : (t : Int) ≤ (i : Int) := by omega
          have HN : Hid (x = ⟨(((s.data.toList.take (i + 1)).take t).drop f).toArray⟩) := by
            unfold Hid
            rw [HXX.out, hts, List.take_append_of_le_length (by omega)]
          clear hts hx1 hli
          go_wp2_with fail
          go_round
          case rel => exact ⟨i + 1, _, by go_num, rfl, by omega, HN.out⟩
          case measure => simp [intOf]; omega
      · have hfi : (i : Int) < (f : Int) := by omega
        have HN : Hid (x = ⟨(((s.data.toList.take (i + 1)).take t).drop f).toArray⟩) := by
          unfold Hid
          rw [HXX.out, List.drop_of_length_le (by simp; omega), List.drop_of_length_le (by simp; omega)]
        clear hts hx1 hli
        go_wp2_with fail
        go_round
        case rel => exact ⟨i + 1, _, by go_num, rfl, by omega, HN.out⟩
        case measure => simp [intOf]; omega
    · have HN : Hid (x = X) := by
        unfold Hid
        rw [HXX.out, ← HX.out, List.take_of_length_le (i := i) (by rw [← Lib.size_eq]; exact hge)]
      go_wp2_with fail
      go_ret
      exact ⟨ret_s HN.out, rfl⟩
theorem part_of (s : ByteArray) (f t k : Nat) (h : t = f + k) : (⟨((s.data.toList.take t).drop f).toArray⟩ : ByteArray) = s.extract f t := by
  rw [ext_list s f t k h, h, List.drop_take]
  congr 3
  omega

set_option maxRecDepth 100000 in
set_option maxHeartbeats 2000000 in
theorem parts_walk (s : ByteArray) (fr n : Int) (hf1 : -9223372036854775808 ≤ fr) (hf2 : fr ≤ 9223372036854775807) (w : World) :
    Calls Try.prog 4 #[.string s, .int .i64 fr, .int .i64 n] w fun e w' => e = .returned (.bool true) ∧ Below w.heap.size w w' := by
  by_cases h4 : s.size ≤ 400
  · have h4' : (s.size : Int) ≤ 400 := by omega
    obtain ⟨k, hk, hks⟩ := clip_ex n s.size
    have hkz : min (max n 0) (s.size : Int) = (k : Int) := by unfold Clip at hk; omega
    obtain ⟨X1, hX1⟩ : ∃ X, s.extract 0 k = X := ⟨_, rfl⟩
    obtain ⟨X2, hX2⟩ : ∃ X, s.extract (s.size - k) s.size = X := ⟨_, rfl⟩
    have HL := Lib.hid (fun W => left_any s n k X1 (by omega) hk hks hX1 W)
    have HRT := Lib.hid (fun W => right_any s n k X2 (by omega) hk hks hX2 W)
    have HP1 := Lib.hid (fun z1 z2 (e1 : z1 = ((0 : Nat) : Int)) (e2 : z2 = (k : Int)) W => part_any s z1 z2 0 k X1 (by omega) e1 e2 ((part_of s 0 k k (by omega)).trans hX1) W)
    have HP2 := Lib.hid (fun z1 z2 (e1 : z1 = ((s.size - k : Nat) : Int)) (e2 : z2 = (s.size : Int)) W => part_any s z1 z2 (s.size - k) s.size X2 (by omega) e1 e2 ((part_of s (s.size - k) s.size k (by omega)).trans hX2) W)
    have eq1 : (X1.toList != X1.toList) = false := by simp
    have eq2 : (X2.toList != X2.toList) = false := by simp
    clear hX1 hX2
    by_cases harg : fr < 1 ∨ n < 0
    · have hArg : fr < 1 ∨ (1 ≤ fr ∧ n < 0) := by omega
      have HM := Lib.hid (fun W => mid_arg s fr n hArg W)
      have HK := Lib.hid hk
      clear harg hk
      rcases hArg with h1 | ⟨h1, h2⟩
      all_goals
        go_enter Try.func4, Try.ntmps4
        go_wp2_with fail
        refine (HM.out _).mono ?_
        rintro e w1 ⟨rfl, rfl⟩
        go_wp2_with fail
        refine (HL.out _).mono ?_
        rintro e w1 ⟨rfl, rfl⟩
        go_wp2_with fail
        refine (HP1.out _ _ rfl (by first | rfl | exact hkz) _).mono ?_
        rintro e w1 ⟨rfl, rfl⟩
        go_wp2_with fail
        refine (HRT.out _).mono ?_
        rintro e w1 ⟨rfl, rfl⟩
        go_wp2_with fail
        refine (HP2.out _ _ (by omega) rfl _).mono ?_
        rintro e w1 ⟨rfl, rfl⟩
        go_wp2_with fail
        refine (awake_any _).mono ?_
        rintro e w1 ⟨rfl, hb⟩
        go_wp2_with fail
        go_ret
        exact ⟨rfl, hb⟩
    · have hn0 : 0 ≤ n := by omega
      have hf0 : 1 ≤ fr := by omega
      by_cases hfar : (s.size : Int) < fr
      · have HM := Lib.hid (fun W => mid_far s fr n hf0 hn0 hfar W)
        have hat : min (fr - 1) (s.size : Int) = (s.size : Int) := by omega
        have HP3 := Lib.hid (fun z1 z2 (e1 : z1 = (s.size : Int)) (e2 : z2 = ((s.size + k : Nat) : Int)) W => part_any s z1 z2 s.size (s.size + k) ⟨#[]⟩ (by omega) e1 e2 (by rw [List.drop_of_length_le (by simp [← Lib.size_eq])]) W)
        clear harg hk
        go_enter Try.func4, Try.ntmps4
        go_wp2_with fail
        refine (HM.out _).mono ?_
        rintro e w1 ⟨rfl, rfl⟩
        go_wp2_with fail
        refine (HL.out _).mono ?_
        rintro e w1 ⟨rfl, rfl⟩
        go_wp2_with fail
        refine (HP1.out _ _ rfl (by first | rfl | exact hkz) _).mono ?_
        rintro e w1 ⟨rfl, rfl⟩
        go_wp2_with fail
        refine (HRT.out _).mono ?_
        rintro e w1 ⟨rfl, rfl⟩
        go_wp2_with fail
        refine (HP2.out _ _ (by omega) rfl _).mono ?_
        rintro e w1 ⟨rfl, rfl⟩
        go_wp2_with fail
        refine (HP3.out _ _ (by first | rfl | exact hat) (by omega) _).mono ?_
        rintro e w1 ⟨rfl, rfl⟩
        go_wp2_with fail
        refine (awake_any _).mono ?_
        rintro e w1 ⟨rfl, hb⟩
        go_wp2_with fail
        go_ret
        exact ⟨rfl, hb⟩
      · obtain ⟨g, hg⟩ : ∃ g : Nat, fr = (g : Int) + 1 := ⟨(fr - 1).toNat, by omega⟩
        have hgs : g < s.size := by omega
        obtain ⟨k2, hk2, hk2s⟩ := clip_ex n (s.size - g)
        obtain ⟨X3, hX3⟩ : ∃ X, (s.extract g s.size).extract 0 k2 = X := ⟨_, rfl⟩
        have HM := Lib.hid (fun W => mid_any s g n k2 X3 (by omega) hn0 hgs hk2 hk2s hX3 fr hg W)
        have hat : min (fr - 1) (s.size : Int) = (g : Int) := by omega
        have hkk : k2 = min k (s.size - g) := by unfold Clip at hk hk2; omega
        have hX4 : (⟨((s.data.toList.take (g + k)).drop g).toArray⟩ : ByteArray) = X3 := by
          rw [← hX3, ext_list s g s.size (s.size - g) (by omega), ext_list _ 0 k2 k2 (by omega), List.drop_take]
          congr 2
          have hl : s.data.toList.length = s.size := by rw [← Lib.size_eq]
          simp only [List.drop_zero]
          rw [List.take_take, hkk, show g + k - g = k by omega, List.take_eq_take_iff]
          simp [hl]
          try omega
        have HP3 := Lib.hid (fun z1 z2 (e1 : z1 = (g : Int)) (e2 : z2 = ((g + k : Nat) : Int)) W => part_any s z1 z2 g (g + k) X3 (by omega) e1 e2 hX4 W)
        have eq3 : (X3.toList == X3.toList) = true := by simp
        clear harg hk hk2 hX3 hX4 hkk hg
        go_enter Try.func4, Try.ntmps4
        go_wp2_with fail
        refine (HM.out _).mono ?_
        rintro e w1 ⟨rfl, rfl⟩
        go_wp2_with fail
        refine (HL.out _).mono ?_
        rintro e w1 ⟨rfl, rfl⟩
        go_wp2_with fail
        refine (HP1.out _ _ rfl (by first | rfl | exact hkz) _).mono ?_
        rintro e w1 ⟨rfl, rfl⟩
        go_wp2_with fail
        refine (HRT.out _).mono ?_
        rintro e w1 ⟨rfl, rfl⟩
        go_wp2_with fail
        refine (HP2.out _ _ (by omega) rfl _).mono ?_
        rintro e w1 ⟨rfl, rfl⟩
        go_wp2_with fail
        refine (HP3.out _ _ (by first | rfl | exact hat) (by omega) _).mono ?_
        rintro e w1 ⟨rfl, rfl⟩
        go_wp2_with fail
        refine (awake_any _).mono ?_
        rintro e w1 ⟨rfl, hb⟩
        go_wp2_with fail
        go_ret
        exact ⟨rfl, hb⟩
  · have h4' : (400 : Int) < (s.size : Int) := by omega
    go_enter Try.func4, Try.ntmps4
    go_wp2_with fail
    refine (awake_any _).mono ?_
    rintro e w1 ⟨rfl, hb⟩
    go_wp2_with fail
    go_ret
    exact ⟨rfl, hb⟩
end Go.Proofs.Ytcmpeppjopdeaaa
