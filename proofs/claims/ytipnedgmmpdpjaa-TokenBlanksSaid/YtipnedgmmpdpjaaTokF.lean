/- Contracts of the document's run, begins and quoted, and of the signs. -/
import Derived.Test.YtipnedgmmpdpjaaTokE
import Derived.Lib.IndexEntry
set_option linter.unusedSimpArgs false
set_option linter.unusedVariables false
namespace Go.Proofs.Ytipnedgmmpdpjaa
open Go.RowKit

set_option maxRecDepth 100000 in
set_option maxHeartbeats 2000000 in
theorem run_dg (s : ByteArray) (i N : Nat) (hs : s.size ≤ 100000) (hi : i ≤ 100000) (hN : runN dgB s.data.toList i = N) (w : World) :
    Calls Try.prog 19 #[.string s, .int .i64 i, .bool false] w fun e w' => e = .returned (.int .i64 N) ∧ w = w' := by
  have hN1 : N ≤ 100000 := by have := run_le dgB s.data.toList i; rw [← Lib.size_eq] at this; omega
  have HN := Lib.hid hN
  clear hN
  go_enter Try.func19, Try.ntmps19
  go_wp2_with fail
  go_loop [7] (fun v => ∃ k : Nat, v = .int .i64 k ∧ k ≤ N ∧ k + runN dgB s.data.toList (i + k) = N) (fun v => N - (intOf v).toNat)
  case atStart => exact ⟨0, rfl, by omega, by have := HN.out; simpa using this⟩
  case round =>
    obtain ⟨k, rfl, hk, hr⟩ := hrel
    have HR := Lib.hid hr
    clear hr
    rcases Nat.lt_or_ge (i + k) s.size with hlt | hge
    · obtain ⟨c, hc⟩ : ∃ c, nx s.data.toList (i + k) = c := ⟨_, rfl⟩
      have hb1 := nx_str s (i + k) hlt
      rw [hc] at hb1
      by_cases h1 : (48 : Int) ≤ ((s[i + k].toNat : Nat) : Int)
      · by_cases h2 : ((s[i + k].toNat : Nat) : Int) ≤ 57
        · have H : Hid (k + 1 + runN dgB s.data.toList (i + k + 1) = N) := by
            have h1 := run_yes (p := dgB) (by decide) hc (by simp [dgB]; omega)
            have h2 := HR.out
            unfold Hid
            omega
          have hkN : k + 1 ≤ N := by have := H.out; omega
          clear hc hb1
          go_wp2_with fail
          go_round
          case rel => exact ⟨k + 1, by go_num, hkN, by rw [show i + (k + 1) = i + k + 1 by omega]; exact H.out⟩
          case measure => simp [intOf]; omega
        · have H : Hid (k = N) := by
            have h1 := run_no (p := dgB) (by decide) hc (by simp [dgB]; omega)
            have h2 := HR.out
            unfold Hid
            omega
          clear hc hb1
          go_wp2_with fail
          go_ret
          exact ⟨ret_i64 (by rw [H.out]), rfl⟩
      · have H : Hid (k = N) := by
          have h1 := run_no (p := dgB) (by decide) hc (by simp [dgB]; omega)
          have h2 := HR.out
          unfold Hid
          omega
        clear hc hb1
        go_wp2_with fail
        go_ret
        exact ⟨ret_i64 (by rw [H.out]), rfl⟩
    · have H : Hid (k = N) := by
        have h1 := run_no (p := dgB) (by decide) (L := s.data.toList) (k := i + k) (nx_end (by rw [← Lib.size_eq]; exact hge)) (by decide)
        have h2 := HR.out
        unfold Hid
        omega
      go_wp2_with fail
      go_ret
      exact ⟨ret_i64 (by rw [H.out]), rfl⟩

set_option maxRecDepth 100000 in
set_option maxHeartbeats 2000000 in
theorem run_nm (s : ByteArray) (i N : Nat) (hs : s.size ≤ 100000) (hi : i ≤ 100000) (hN : runN nmB s.data.toList i = N) (w : World) :
    Calls Try.prog 19 #[.string s, .int .i64 i, .bool true] w fun e w' => e = .returned (.int .i64 N) ∧ w = w' := by
  have hN1 : N ≤ 100000 := by have := run_le nmB s.data.toList i; rw [← Lib.size_eq] at this; omega
  have HN := Lib.hid hN
  clear hN
  go_enter Try.func19, Try.ntmps19
  go_wp2_with fail
  go_loop [7] (fun v => ∃ k : Nat, v = .int .i64 k ∧ k ≤ N ∧ k + runN nmB s.data.toList (i + k) = N) (fun v => N - (intOf v).toNat)
  case atStart => exact ⟨0, rfl, by omega, by have := HN.out; simpa using this⟩
  case round =>
    obtain ⟨k, rfl, hk, hr⟩ := hrel
    have HR := Lib.hid hr
    clear hr
    rcases Nat.lt_or_ge (i + k) s.size with hlt | hge
    · obtain ⟨c, hc⟩ : ∃ c, nx s.data.toList (i + k) = c := ⟨_, rfl⟩
      have hb1 := nx_str s (i + k) hlt
      rw [hc] at hb1
      by_cases h1 : (48 : Int) ≤ ((s[i + k].toNat : Nat) : Int)
      · by_cases h2 : ((s[i + k].toNat : Nat) : Int) ≤ 57
        · have H : Hid (k + 1 + runN nmB s.data.toList (i + k + 1) = N) := by
            have h1 := run_yes (p := nmB) (by decide) hc (by simp [nmB, upB, dgB]; omega)
            have h2 := HR.out
            unfold Hid
            omega
          have hkN : k + 1 ≤ N := by have := H.out; omega
          clear hc hb1
          go_wp2_with fail
          go_round
          case rel => exact ⟨k + 1, by go_num, hkN, by rw [show i + (k + 1) = i + k + 1 by omega]; exact H.out⟩
          case measure => simp [intOf]; omega
        · by_cases h3 : (65 : Int) ≤ ((s[i + k].toNat : Nat) : Int)
          · by_cases h4 : ((s[i + k].toNat : Nat) : Int) ≤ 90
            · have H : Hid (k + 1 + runN nmB s.data.toList (i + k + 1) = N) := by
                have h1 := run_yes (p := nmB) (by decide) hc (by simp [nmB, upB, dgB]; omega)
                have h2 := HR.out
                unfold Hid
                omega
              have hkN : k + 1 ≤ N := by have := H.out; omega
              clear hc hb1
              go_wp2_with fail
              go_round
              case rel => exact ⟨k + 1, by go_num, hkN, by rw [show i + (k + 1) = i + k + 1 by omega]; exact H.out⟩
              case measure => simp [intOf]; omega
            · have H : Hid (k = N) := by
                have h1 := run_no (p := nmB) (by decide) hc (by simp [nmB, upB, dgB]; omega)
                have h2 := HR.out
                unfold Hid
                omega
              clear hc hb1
              go_wp2_with fail
              go_ret
              exact ⟨ret_i64 (by rw [H.out]), rfl⟩
          · have H : Hid (k = N) := by
              have h1 := run_no (p := nmB) (by decide) hc (by simp [nmB, upB, dgB]; omega)
              have h2 := HR.out
              unfold Hid
              omega
            clear hc hb1
            go_wp2_with fail
            go_ret
            exact ⟨ret_i64 (by rw [H.out]), rfl⟩
      · have H : Hid (k = N) := by
          have h1 := run_no (p := nmB) (by decide) hc (by simp [nmB, upB, dgB]; omega)
          have h2 := HR.out
          unfold Hid
          omega
        clear hc hb1
        go_wp2_with fail
        go_ret
        exact ⟨ret_i64 (by rw [H.out]), rfl⟩
    · have H : Hid (k = N) := by
        have h1 := run_no (p := nmB) (by decide) (L := s.data.toList) (k := i + k) (nx_end (by rw [← Lib.size_eq]; exact hge)) (by decide)
        have h2 := HR.out
        unfold Hid
        omega
      go_wp2_with fail
      go_ret
      exact ⟨ret_i64 (by rw [H.out]), rfl⟩


theorem piece_eq (s x : ByteArray) (i : Nat) (h : i + x.size ≤ s.size) : ((s.extract i (i + x.size)).toList == x.toList) = Lib.hasPrefix (s.data.toList.drop i) x.data.toList := by
  rw [← beq_toListBytes, Lib.piece_eq_occAt s x i h]
  rfl
theorem prefix_short {l p : List UInt8} (h : l.length < p.length) : Lib.hasPrefix l p = false := by
  cases hp : Lib.hasPrefix l p with
  | false => rfl
  | true => exact absurd (hasPrefix_len hp) (by omega)

set_option maxHeartbeats 400000 in
theorem begins_any (s x : ByteArray) (z : Int) (i : Nat) (b : Bool) (hs : s.size ≤ 100000) (hx : x.size ≤ 100000) (hz : z = i) (hi : i ≤ s.size) (hb : Lib.hasPrefix (s.data.toList.drop i) x.data.toList = b) (w : World) :
    Calls Try.prog 20 #[.string s, .int .i64 z, .string x] w fun e w' => e = .returned (.bool b) ∧ w = w' := by
  subst hz
  by_cases h : x.size ≤ s.size - i
  · have HE := Lib.hid ((piece_eq s x i (by omega)).trans hb)
    have h1 : (x.size : Int) ≤ (s.size : Int) - (i : Int) := by omega
    clear hb
    go_enter Try.func20, Try.ntmps20
    go_wp2
    go_ret
    exact ⟨ret_b HE.out, rfl⟩
  · have HE := Lib.hid (show false = b by rw [← hb, prefix_short (by rw [List.length_drop, ← Lib.size_eq, ← Lib.size_eq]; omega)])
    have h1 : (s.size : Int) - (i : Int) < (x.size : Int) := by omega
    clear hb
    go_enter Try.func20, Try.ntmps20
    go_wp2
    go_ret
    exact ⟨ret_b HE.out, rfl⟩
theorem two34 (L : List UInt8) (j : Nat) (h : nx L j = 34) : Lib.hasPrefix (L.drop j) [34, 34] = decide (nx L (j + 1) = 34) := by
  have h0 := lt_of_nx (L := L) (i := j) (by omega)
  rw [nx_get h0] at h
  have e34 : L[j] = 34 := by rw [← u8_eta L[j], h]; rfl
  rw [List.drop_eq_getElem_cons h0, e34]
  rcases Nat.lt_or_ge (j + 1) L.length with h1 | h1
  · rw [nx_get h1, List.drop_eq_getElem_cons h1]
    simp only [Lib.hasPrefix, List.isPrefixOf, beq_self_eq_true, Bool.true_and, Bool.and_true]
    by_cases h2 : L[j + 1].toNat = 34
    · have : L[j + 1] = 34 := by rw [← u8_eta L[j + 1], h2]; rfl
      simp [this]
    · have : ¬ (34 : UInt8) = L[j + 1] := by intro e; rw [← e] at h2; exact h2 (by decide)
      simp [h2, this]
  · rw [nx_end h1, List.drop_of_length_le h1]
    simp [Lib.hasPrefix, List.isPrefixOf]
end Go.Proofs.Ytipnedgmmpdpjaa
