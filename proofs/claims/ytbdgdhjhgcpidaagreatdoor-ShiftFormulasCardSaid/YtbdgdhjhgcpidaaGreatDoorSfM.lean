/- Contract of the program's quoted. Contracts of the document's run, begins and quoted, and of the signs. Contracts of the document's quoted and of the program's sign. Contract of the program's one: the token at a place. -/
import Derived.Test.YtbdgdhjhgcpidaaGreatDoorSfB
import Derived.Lib.IndexEntry
set_option linter.unusedSimpArgs false
set_option linter.unusedVariables false
namespace Go.Proofs.YtbdgdhjhgcpidaaGreatDoor.Tks
open Go.RowKit
set_option maxRecDepth 100000 in
set_option maxHeartbeats 2000000 in
theorem quoted_any (s : ByteArray) (i : Nat) (R : Option (List UInt8 × Nat)) (hs : s.size ≤ 100000) (hi : i < s.size) (hR : quo (s.data.toList.drop (i + 1)) = R) (w : World) :
    Calls Tryz.prog 102 #[.string s, .int .i64 i] w (RetQ i R w) := by
  have HR := Lib.hid hR
  clear hR
  go_enter Tryz.func102, Tryz.ntmps102
  go_wp2_with fail
  refine wp_scope_many (fun l a' w' => l = 0 ∧ ∃ (k : Nat) (acc : List UInt8), i ≤ k ∧ acc.length + i ≤ k ∧ k < s.size ∧ qm acc (k - i) (quo (s.data.toList.drop (k + 1))) = R ∧ Lib.IsBuilder tBd 5 w.heap.size w.heap.size (Lib.byteCells acc) w' ∧ Below w.heap.size w w' ∧ ∃ u2 u3 u7 u8 u9 u10 u11 u12 u13 u14 u15 u16 u17 u18 u19 u20 u21 u22 u23 u24 u25 u26 u27 u28 : Value, a' = { tmps := #[.string s, .int .i64 k, u2, u3, .string ⟨#[]⟩, .int .i64 0, .pointer (some ⟨w.heap.size, 0, none⟩), u7, u8, u9, u10, u11, u12, u13, u14, u15, u16, u17, u18, u19, u20, u21, u22, u23, u24, u25, u26, u27, u28], defers := [] }) (fun _ a' _ => 600000 - (intOf (a'.tmps.getD 1 undef)).toNat) 600001 ?_ ?_
  · go_wp2_with fail
    go_step3
    obtain ⟨k, hki⟩ : ∃ k, k = i := ⟨_, rfl⟩
    obtain ⟨acc, hac⟩ : ∃ acc : List UInt8, acc = [] := ⟨_, rfl⟩
    have hik : i ≤ k := by omega
    have hks : k < s.size := by omega
    have hal : acc.length + i ≤ k := by rw [hac]; simp; omega
    have HQ : Hid (qm acc (k - i) (quo (s.data.toList.drop (k + 1))) = R) := by unfold Hid; rw [hki, hac, Nat.sub_self, qm_nil]; exact HR.out
    have HI : Hid (Lib.IsBuilder tBd 5 w.heap.size w.heap.size (Lib.byteCells acc) (w.alloc (.cells #[.pointer none, .slice none 0 0] tBd))) := by rw [hac]; exact bd_fresh _ _ (Nat.le_refl _)
    have HBL : Hid (Below w.heap.size w (w.alloc (.cells #[.pointer none, .slice none 0 0] tBd))) := (Below.refl _ _).alloc (Nat.le_refl _) _
    rw [← hki]
    have hz : w.heap.size ≤ (w.alloc (.cells #[.pointer none, .slice none 0 0] tBd)).heap.size := HBL.out.size
    clear hki hac HR
    generalize w.alloc (.cells #[.pointer none, .slice none 0 0] tBd) = wr at HI HBL hz ⊢
    rcases Nat.lt_or_ge (k + 1) s.size with hlt | hge
    · obtain ⟨c, hc⟩ : ∃ c, nx s.data.toList (k + 1) = c := ⟨_, rfl⟩
      have hc256 : c < 256 := by rw [← hc]; exact nx_lt _ _
      have hb1 := nx_str s (k + 1) hlt
      rw [hc] at hb1
      have hlt' : k + 1 < s.data.toList.length := by rw [← Lib.size_eq]; exact hlt
      by_cases h34 : c = 34
      · have e1 : (((s[k + 1].toNat : Nat) : Int) == 34) = true := by rw [hb1, h34]; rfl
        obtain ⟨d, hd⟩ : ∃ d, nx s.data.toList (k + 1 + 1) = d := ⟨_, rfl⟩
        by_cases hd34 : d = 34
        · have hlt2 : k + 1 + 1 < s.size := by
            have := lt_of_nx (L := s.data.toList) (i := k + 1 + 1) (by omega)
            rw [← Lib.size_eq] at this
            exact this
          have hb2 := nx_str s (k + 1 + 1) hlt2
          rw [hd] at hb2
          have e2 : (((d : Nat) : Int) != 34) = false := by rw [hd34]; rfl
          have HQ2 : Hid (qm (acc ++ [UInt8.ofNat d]) (k + 1 + 1 - i) (quo (s.data.toList.drop (k + 1 + 1 + 1))) = R) := by
            have h1 := quo_two s.data.toList (k + 1) (by omega) (by omega)
            have h2 := HQ.out
            rw [h1, qm_qm] at h2
            unfold Hid
            rw [hd34, show k + 1 + 1 - i = 2 + (k - i) by omega]
            exact h2
          have HD := Lib.hid hd
          have HB2 := Lib.hid hb2
          clear hc hb1 h34 hd hd34 hb2
          go_wp2_with fail
          refine (next_z s _ (k + 1 + 1) d hs (by omega) HD.out _).mono ?_
          rintro e w1 ⟨rfl, rfl⟩
          go_wp2_with fail
          refine (writeByte_any w.heap.size w.heap.size (Lib.byteCells acc) _ _ HI.out (by rw [bc_len]; omega) (by omega)).mono ?_
          rintro e w2 ⟨rfl, h1, hbb⟩
          have HI2 : Hid (Lib.IsBuilder tBd 5 w.heap.size w.heap.size (Lib.byteCells (acc ++ [UInt8.ofNat d])) w2) := by
            unfold Hid
            rw [← bc_snoc acc d (by rw [← HD.out]; exact nx_lt _ _), ← HB2.out]
            exact .inr h1
          have hbel : Below w.heap.size w w2 := HBL.out.trans hbb
          clear h1
          go_wp2_with fail
          go_step3
          refine ⟨⟨rfl, k + 1 + 1, acc ++ [UInt8.ofNat d], by omega, by simp; omega, by omega, HQ2.out, HI2.out, ?_, ⟨_, _, _, _, _, _, _, _, _, _, _, _, _, _, _, _, _, _, _, _, _, _, _, _, by first | rfl | go_num⟩⟩, by simp [intOf]; omega⟩
          exact hbel
        · have e2 : (((d : Nat) : Int) != 34) = true := by simp; omega
          have HRS : Hid (R = some (acc, 1 + (k - i))) := by
            have h1 := quo_close s.data.toList (k + 1) (by omega) (by omega)
            have h2 := HQ.out
            rw [h1] at h2
            unfold Hid
            rw [← h2]
            simp [qm]
          have HD := Lib.hid hd
          clear hc hb1 h34 hd hd34
          go_wp2_with fail
          refine (next_z s _ (k + 1 + 1) d hs (by omega) HD.out _).mono ?_
          rintro e w1 ⟨rfl, rfl⟩
          go_wp2_with fail
          refine (bd_string w.heap.size w.heap.size acc _ HI.out (by omega)).mono ?_
          rintro e w2 ⟨rfl, hbb⟩
          go_wp2_with fail
          simp only [jumps_ret]
          go_ret2
          exact retq_some HRS.out (by omega) (HBL.out.trans hbb)
      · have e1 : (((s[k + 1].toNat : Nat) : Int) == 34) = false := by rw [hb1]; simp; omega
        have HQ2 : Hid (qm (acc ++ [UInt8.ofNat c]) (k + 1 - i) (quo (s.data.toList.drop (k + 1 + 1))) = R) := by
          have h1 := quo_other s.data.toList (k + 1) hlt' (by omega)
          have h2 := HQ.out
          rw [h1, qm_qm, hc] at h2
          unfold Hid
          rw [show k + 1 - i = 1 + (k - i) by omega]
          exact h2
        have HB1 := Lib.hid hb1
        have HC := Lib.hid hc256
        clear hc hb1 h34 hc256
        go_wp2_with fail
        refine (writeByte_any w.heap.size w.heap.size (Lib.byteCells acc) _ _ HI.out (by rw [bc_len]; omega) (by omega)).mono ?_
        rintro e w2 ⟨rfl, h1, hbb⟩
        have HI2 : Hid (Lib.IsBuilder tBd 5 w.heap.size w.heap.size (Lib.byteCells (acc ++ [UInt8.ofNat c])) w2) := by
          unfold Hid
          rw [← bc_snoc acc c HC.out, ← HB1.out]
          exact .inr h1
        have hbel : Below w.heap.size w w2 := HBL.out.trans hbb
        clear h1
        go_wp2_with fail
        go_step3
        refine ⟨⟨rfl, k + 1, acc ++ [UInt8.ofNat c], by omega, by simp; omega, by omega, HQ2.out, HI2.out, ?_, ⟨_, _, _, _, _, _, _, _, _, _, _, _, _, _, _, _, _, _, _, _, _, _, _, _, by first | rfl | go_num⟩⟩, by simp [intOf]; omega⟩
        exact hbel
    · have HRN : Hid (R = none) := by
        have h2 := HQ.out
        rw [quo_end _ _ (by rw [← Lib.size_eq]; exact hge)] at h2
        exact h2.symm
      go_wp2_with fail
      simp only [jumps_ret]
      go_ret2
      exact retq_none HRN.out HBL.out
  · rintro l a' wr ⟨rfl, k, acc, hik, hal, hks, hq, hI, hbl, ⟨u2, u3, u7, u8, u9, u10, u11, u12, u13, u14, u15, u16, u17, u18, u19, u20, u21, u22, u23, u24, u25, u26, u27, u28, rfl⟩⟩
    refine ⟨_, rfl, ?_⟩
    have HQ := Lib.hid hq
    have HI := Lib.hid hI
    have HBL := Lib.hid hbl
    have hz := hbl.size
    clear hq hI hbl HR
    rcases Nat.lt_or_ge (k + 1) s.size with hlt | hge
    · obtain ⟨c, hc⟩ : ∃ c, nx s.data.toList (k + 1) = c := ⟨_, rfl⟩
      have hc256 : c < 256 := by rw [← hc]; exact nx_lt _ _
      have hb1 := nx_str s (k + 1) hlt
      rw [hc] at hb1
      have hlt' : k + 1 < s.data.toList.length := by rw [← Lib.size_eq]; exact hlt
      by_cases h34 : c = 34
      · have e1 : (((s[k + 1].toNat : Nat) : Int) == 34) = true := by rw [hb1, h34]; rfl
        obtain ⟨d, hd⟩ : ∃ d, nx s.data.toList (k + 1 + 1) = d := ⟨_, rfl⟩
        by_cases hd34 : d = 34
        · have hlt2 : k + 1 + 1 < s.size := by
            have := lt_of_nx (L := s.data.toList) (i := k + 1 + 1) (by omega)
            rw [← Lib.size_eq] at this
            exact this
          have hb2 := nx_str s (k + 1 + 1) hlt2
          rw [hd] at hb2
          have e2 : (((d : Nat) : Int) != 34) = false := by rw [hd34]; rfl
          have HQ2 : Hid (qm (acc ++ [UInt8.ofNat d]) (k + 1 + 1 - i) (quo (s.data.toList.drop (k + 1 + 1 + 1))) = R) := by
            have h1 := quo_two s.data.toList (k + 1) (by omega) (by omega)
            have h2 := HQ.out
            rw [h1, qm_qm] at h2
            unfold Hid
            rw [hd34, show k + 1 + 1 - i = 2 + (k - i) by omega]
            exact h2
          have HD := Lib.hid hd
          have HB2 := Lib.hid hb2
          clear hc hb1 h34 hd hd34 hb2
          go_wp2_with fail
          refine (next_z s _ (k + 1 + 1) d hs (by omega) HD.out _).mono ?_
          rintro e w1 ⟨rfl, rfl⟩
          go_wp2_with fail
          refine (writeByte_any w.heap.size w.heap.size (Lib.byteCells acc) _ _ HI.out (by rw [bc_len]; omega) (by omega)).mono ?_
          rintro e w2 ⟨rfl, h1, hbb⟩
          have HI2 : Hid (Lib.IsBuilder tBd 5 w.heap.size w.heap.size (Lib.byteCells (acc ++ [UInt8.ofNat d])) w2) := by
            unfold Hid
            rw [← bc_snoc acc d (by rw [← HD.out]; exact nx_lt _ _), ← HB2.out]
            exact .inr h1
          have hbel : Below w.heap.size w w2 := HBL.out.trans hbb
          clear h1
          go_wp2_with fail
          go_step3
          refine ⟨⟨rfl, k + 1 + 1, acc ++ [UInt8.ofNat d], by omega, by simp; omega, by omega, HQ2.out, HI2.out, ?_, ⟨_, _, _, _, _, _, _, _, _, _, _, _, _, _, _, _, _, _, _, _, _, _, _, _, by first | rfl | go_num⟩⟩, by simp [intOf]; omega⟩
          exact hbel
        · have e2 : (((d : Nat) : Int) != 34) = true := by simp; omega
          have HRS : Hid (R = some (acc, 1 + (k - i))) := by
            have h1 := quo_close s.data.toList (k + 1) (by omega) (by omega)
            have h2 := HQ.out
            rw [h1] at h2
            unfold Hid
            rw [← h2]
            simp [qm]
          have HD := Lib.hid hd
          clear hc hb1 h34 hd hd34
          go_wp2_with fail
          refine (next_z s _ (k + 1 + 1) d hs (by omega) HD.out _).mono ?_
          rintro e w1 ⟨rfl, rfl⟩
          go_wp2_with fail
          refine (bd_string w.heap.size w.heap.size acc _ HI.out (by omega)).mono ?_
          rintro e w2 ⟨rfl, hbb⟩
          go_wp2_with fail
          simp only [jumps_ret]
          go_ret2
          exact retq_some HRS.out (by omega) (HBL.out.trans hbb)
      · have e1 : (((s[k + 1].toNat : Nat) : Int) == 34) = false := by rw [hb1]; simp; omega
        have HQ2 : Hid (qm (acc ++ [UInt8.ofNat c]) (k + 1 - i) (quo (s.data.toList.drop (k + 1 + 1))) = R) := by
          have h1 := quo_other s.data.toList (k + 1) hlt' (by omega)
          have h2 := HQ.out
          rw [h1, qm_qm, hc] at h2
          unfold Hid
          rw [show k + 1 - i = 1 + (k - i) by omega]
          exact h2
        have HB1 := Lib.hid hb1
        have HC := Lib.hid hc256
        clear hc hb1 h34 hc256
        go_wp2_with fail
        refine (writeByte_any w.heap.size w.heap.size (Lib.byteCells acc) _ _ HI.out (by rw [bc_len]; omega) (by omega)).mono ?_
        rintro e w2 ⟨rfl, h1, hbb⟩
        have HI2 : Hid (Lib.IsBuilder tBd 5 w.heap.size w.heap.size (Lib.byteCells (acc ++ [UInt8.ofNat c])) w2) := by
          unfold Hid
          rw [← bc_snoc acc c HC.out, ← HB1.out]
          exact .inr h1
        have hbel : Below w.heap.size w w2 := HBL.out.trans hbb
        clear h1
        go_wp2_with fail
        go_step3
        refine ⟨⟨rfl, k + 1, acc ++ [UInt8.ofNat c], by omega, by simp; omega, by omega, HQ2.out, HI2.out, ?_, ⟨_, _, _, _, _, _, _, _, _, _, _, _, _, _, _, _, _, _, _, _, _, _, _, _, by first | rfl | go_num⟩⟩, by simp [intOf]; omega⟩
        exact hbel
    · have HRN : Hid (R = none) := by
        have h2 := HQ.out
        rw [quo_end _ _ (by rw [← Lib.size_eq]; exact hge)] at h2
        exact h2.symm
      go_wp2_with fail
      simp only [jumps_ret]
      go_ret2
      exact retq_none HRN.out HBL.out
end Go.Proofs.YtbdgdhjhgcpidaaGreatDoor.Tks
namespace Go.Proofs.YtbdgdhjhgcpidaaGreatDoor.Tks
open Go.RowKit
set_option maxRecDepth 100000 in
set_option maxHeartbeats 2000000 in
theorem run_dg (s : ByteArray) (i N : Nat) (hs : s.size ≤ 100000) (hi : i ≤ 100000) (hN : runN dgB s.data.toList i = N) (w : World) :
    Calls Tryz.prog 46 #[.string s, .int .i64 i, .bool false] w fun e w' => e = .returned (.int .i64 N) ∧ w = w' := by
  have hN1 : N ≤ 100000 := by have := run_le dgB s.data.toList i; rw [← Lib.size_eq] at this; omega
  have HN := Lib.hid hN
  clear hN
  go_enter Tryz.func46, Tryz.ntmps46
  go_wp2_with fail
  go_loop [7] (fun v => ∃ k : Nat, v = .int .i64 k ∧ k ≤ N ∧ k + runN dgB s.data.toList (i + k) = N) (fun v => N - (intOf v).toNat)
  case atStart => exact ⟨0, rfl, by omega, by have := HN.out; simpa using this⟩
  case round =>
    obtain ⟨k, rfl, hk, hr⟩ := hrel
    have HR := Lib.hid hr
    clear hr
    rcases Nat.lt_or_ge (i + k) s.size with hlt | hge
    · obtain ⟨c, hc⟩ : ∃ c, nx s.data.toList (i + k) = c := ⟨_, rfl⟩
      have hb1 := nx_str s (i + k) hlt
      rw [hc] at hb1
      by_cases h1 : (48 : Int) ≤ ((s[i + k].toNat : Nat) : Int)
      · by_cases h2 : ((s[i + k].toNat : Nat) : Int) ≤ 57
        · have H : Hid (k + 1 + runN dgB s.data.toList (i + k + 1) = N) := by
            have h1 := run_yes (p := dgB) (by decide) hc (by simp [dgB]; omega)
            have h2 := HR.out
            unfold Hid
            omega
          have hkN : k + 1 ≤ N := by have := H.out; omega
          clear hc hb1
          go_wp2_with fail
          go_round
          case rel => exact ⟨k + 1, by go_num, hkN, by rw [show i + (k + 1) = i + k + 1 by omega]; exact H.out⟩
          case measure => simp [intOf]; omega
        · have H : Hid (k = N) := by
            have h1 := run_no (p := dgB) (by decide) hc (by simp [dgB]; omega)
            have h2 := HR.out
            unfold Hid
            omega
          clear hc hb1
          go_wp2_with fail
          go_ret
          exact ⟨ret_i64 (by rw [H.out]), rfl⟩
      · have H : Hid (k = N) := by
          have h1 := run_no (p := dgB) (by decide) hc (by simp [dgB]; omega)
          have h2 := HR.out
          unfold Hid
          omega
        clear hc hb1
        go_wp2_with fail
        go_ret
        exact ⟨ret_i64 (by rw [H.out]), rfl⟩
    · have H : Hid (k = N) := by
        have h1 := run_no (p := dgB) (by decide) (L := s.data.toList) (k := i + k) (nx_end (by rw [← Lib.size_eq]; exact hge)) (by decide)
        have h2 := HR.out
        unfold Hid
        omega
      go_wp2_with fail
      go_ret
      exact ⟨ret_i64 (by rw [H.out]), rfl⟩
set_option maxRecDepth 100000 in
set_option maxHeartbeats 2000000 in
theorem run_nm (s : ByteArray) (i N : Nat) (hs : s.size ≤ 100000) (hi : i ≤ 100000) (hN : runN nmB s.data.toList i = N) (w : World) :
    Calls Tryz.prog 46 #[.string s, .int .i64 i, .bool true] w fun e w' => e = .returned (.int .i64 N) ∧ w = w' := by
  have hN1 : N ≤ 100000 := by have := run_le nmB s.data.toList i; rw [← Lib.size_eq] at this; omega
  have HN := Lib.hid hN
  clear hN
  go_enter Tryz.func46, Tryz.ntmps46
  go_wp2_with fail
  go_loop [7] (fun v => ∃ k : Nat, v = .int .i64 k ∧ k ≤ N ∧ k + runN nmB s.data.toList (i + k) = N) (fun v => N - (intOf v).toNat)
  case atStart => exact ⟨0, rfl, by omega, by have := HN.out; simpa using this⟩
  case round =>
    obtain ⟨k, rfl, hk, hr⟩ := hrel
    have HR := Lib.hid hr
    clear hr
    rcases Nat.lt_or_ge (i + k) s.size with hlt | hge
    · obtain ⟨c, hc⟩ : ∃ c, nx s.data.toList (i + k) = c := ⟨_, rfl⟩
      have hb1 := nx_str s (i + k) hlt
      rw [hc] at hb1
      by_cases h1 : (48 : Int) ≤ ((s[i + k].toNat : Nat) : Int)
      · by_cases h2 : ((s[i + k].toNat : Nat) : Int) ≤ 57
        · have H : Hid (k + 1 + runN nmB s.data.toList (i + k + 1) = N) := by
            have h1 := run_yes (p := nmB) (by decide) hc (by simp [nmB, upB, dgB]; omega)
            have h2 := HR.out
            unfold Hid
            omega
          have hkN : k + 1 ≤ N := by have := H.out; omega
          clear hc hb1
          go_wp2_with fail
          go_round
          case rel => exact ⟨k + 1, by go_num, hkN, by rw [show i + (k + 1) = i + k + 1 by omega]; exact H.out⟩
          case measure => simp [intOf]; omega
        · by_cases h3 : (65 : Int) ≤ ((s[i + k].toNat : Nat) : Int)
          · by_cases h4 : ((s[i + k].toNat : Nat) : Int) ≤ 90
            · have H : Hid (k + 1 + runN nmB s.data.toList (i + k + 1) = N) := by
                have h1 := run_yes (p := nmB) (by decide) hc (by simp [nmB, upB, dgB]; omega)
                have h2 := HR.out
                unfold Hid
                omega
              have hkN : k + 1 ≤ N := by have := H.out; omega
              clear hc hb1
              go_wp2_with fail
              go_round
              case rel => exact ⟨k + 1, by go_num, hkN, by rw [show i + (k + 1) = i + k + 1 by omega]; exact H.out⟩
              case measure => simp [intOf]; omega
            · have H : Hid (k = N) := by
                have h1 := run_no (p := nmB) (by decide) hc (by simp [nmB, upB, dgB]; omega)
                have h2 := HR.out
                unfold Hid
                omega
              clear hc hb1
              go_wp2_with fail
              go_ret
              exact ⟨ret_i64 (by rw [H.out]), rfl⟩
          · have H : Hid (k = N) := by
              have h1 := run_no (p := nmB) (by decide) hc (by simp [nmB, upB, dgB]; omega)
              have h2 := HR.out
              unfold Hid
              omega
            clear hc hb1
            go_wp2_with fail
            go_ret
            exact ⟨ret_i64 (by rw [H.out]), rfl⟩
      · have H : Hid (k = N) := by
          have h1 := run_no (p := nmB) (by decide) hc (by simp [nmB, upB, dgB]; omega)
          have h2 := HR.out
          unfold Hid
          omega
        clear hc hb1
        go_wp2_with fail
        go_ret
        exact ⟨ret_i64 (by rw [H.out]), rfl⟩
    · have H : Hid (k = N) := by
        have h1 := run_no (p := nmB) (by decide) (L := s.data.toList) (k := i + k) (nx_end (by rw [← Lib.size_eq]; exact hge)) (by decide)
        have h2 := HR.out
        unfold Hid
        omega
      go_wp2_with fail
      go_ret
      exact ⟨ret_i64 (by rw [H.out]), rfl⟩
theorem piece_eq (s x : ByteArray) (i : Nat) (h : i + x.size ≤ s.size) : ((s.extract i (i + x.size)).toList == x.toList) = Lib.hasPrefix (s.data.toList.drop i) x.data.toList := by
  rw [← beq_toListBytes, Lib.piece_eq_occAt s x i h]
  rfl
theorem prefix_short {l p : List UInt8} (h : l.length < p.length) : Lib.hasPrefix l p = false := by
  cases hp : Lib.hasPrefix l p with
  | false => rfl
  | true => exact absurd (hasPrefix_len hp) (by omega)
set_option maxHeartbeats 400000 in
theorem begins_any (s x : ByteArray) (z : Int) (i : Nat) (b : Bool) (hs : s.size ≤ 100000) (hx : x.size ≤ 100000) (hz : z = i) (hi : i ≤ s.size) (hb : Lib.hasPrefix (s.data.toList.drop i) x.data.toList = b) (w : World) :
    Calls Tryz.prog 47 #[.string s, .int .i64 z, .string x] w fun e w' => e = .returned (.bool b) ∧ w = w' := by
  subst hz
  by_cases h : x.size ≤ s.size - i
  · have HE := Lib.hid ((piece_eq s x i (by omega)).trans hb)
    have h1 : (x.size : Int) ≤ (s.size : Int) - (i : Int) := by omega
    clear hb
    go_enter Tryz.func47, Tryz.ntmps47
    go_wp2
    go_ret
    exact ⟨ret_b HE.out, rfl⟩
  · have HE := Lib.hid (show false = b by rw [← hb, prefix_short (by rw [List.length_drop, ← Lib.size_eq, ← Lib.size_eq]; omega)])
    have h1 : (s.size : Int) - (i : Int) < (x.size : Int) := by omega
    clear hb
    go_enter Tryz.func47, Tryz.ntmps47
    go_wp2
    go_ret
    exact ⟨ret_b HE.out, rfl⟩
theorem two34 (L : List UInt8) (j : Nat) (h : nx L j = 34) : Lib.hasPrefix (L.drop j) [34, 34] = decide (nx L (j + 1) = 34) := by
  have h0 := lt_of_nx (L := L) (i := j) (by omega)
  rw [nx_get h0] at h
  have e34 : L[j] = 34 := by rw [← u8_eta L[j], h]; rfl
  rw [List.drop_eq_getElem_cons h0, e34]
  rcases Nat.lt_or_ge (j + 1) L.length with h1 | h1
  · rw [nx_get h1, List.drop_eq_getElem_cons h1]
    simp only [Lib.hasPrefix, List.isPrefixOf, beq_self_eq_true, Bool.true_and, Bool.and_true]
    by_cases h2 : L[j + 1].toNat = 34
    · have : L[j + 1] = 34 := by rw [← u8_eta L[j + 1], h2]; rfl
      simp [this]
    · have : ¬ (34 : UInt8) = L[j + 1] := by intro e; rw [← e] at h2; exact h2 (by decide)
      simp [h2, this]
  · rw [nx_end h1, List.drop_of_length_le h1]
    simp [Lib.hasPrefix, List.isPrefixOf]
end Go.Proofs.YtbdgdhjhgcpidaaGreatDoor.Tks
namespace Go.Proofs.YtbdgdhjhgcpidaaGreatDoor.Tks
open Go.RowKit
theorem cat2 (X Y : List UInt8) : (⟨X.toArray⟩ : ByteArray) ++ ⟨Y.toArray⟩ = ⟨(X ++ Y).toArray⟩ := by
  apply ByteArray.ext
  simp
theorem ext_one (s : ByteArray) (j : Nat) (h : j < s.size) : s.extract j (j + 1) = ⟨[UInt8.ofNat (nx s.data.toList j)].toArray⟩ := by
  have hl : j < s.data.toList.length := by rw [← Lib.size_eq]; exact h
  rw [nx_get hl, u8_eta]
  apply ByteArray.ext
  apply Array.ext'
  rw [ByteArray.data_extract, Array.toList_extract, List.extract_eq_take_drop, List.drop_eq_getElem_cons hl, show j + 1 - j = 1 by omega]
  rfl
theorem size_of (X : List UInt8) : (⟨X.toArray⟩ : ByteArray).size = X.length := by rw [Lib.size_eq]
def RetQR (R : Option (List UInt8 × Nat)) (W : World) (e : Ending) (w' : World) : Prop := W = w' ∧ (match R with | none => e = .returned (.tuple #[.string ⟨#[]⟩, .int .i64 0]) | some (t, m) => e = .returned (.tuple #[.string ⟨t.toArray⟩, .int .i64 ((1 + m : Nat) : Int)]))
theorem retqr_none {R : Option (List UInt8 × Nat)} {W : World} (h : R = none) : RetQR R W (.returned (.tuple #[.string ⟨#[]⟩, .int .i64 0])) W := by subst h; exact ⟨rfl, rfl⟩
theorem retqr_some {m : Nat} {z : Int} {t : List UInt8} {R : Option (List UInt8 × Nat)} {W : World} (h : R = some (t, m)) (hz : z = ((1 + m : Nat) : Int)) : RetQR R W (.returned (.tuple #[.string ⟨t.toArray⟩, .int .i64 z])) W := by subst h hz; exact ⟨rfl, rfl⟩
set_option maxRecDepth 100000 in
set_option maxHeartbeats 2000000 in
theorem refQuoted_any (s : ByteArray) (i : Nat) (R : Option (List UInt8 × Nat)) (hs : s.size ≤ 100000) (hi : i < s.size) (hR : quo (s.data.toList.drop (i + 1)) = R) (w : World) :
    Calls Tryz.prog 48 #[.string s, .int .i64 i] w (RetQR R w) := by
  have HR := Lib.hid hR
  clear hR
  go_enter Tryz.func48, Tryz.ntmps48
  go_wp2_with fail
  go_loop [6, 7] (fun t v => ∃ (j : Nat) (acc : List UInt8), v = .int .i64 j ∧ t = .string ⟨acc.toArray⟩ ∧ i + 1 ≤ j ∧ j ≤ s.size ∧ acc.length + i + 1 ≤ j ∧ qm acc (j - (i + 1)) (quo (s.data.toList.drop j)) = R) (fun _ v => s.size - (intOf v).toNat)
  case atStart => exact ⟨i + 1, [], by go_num, rfl, by omega, by omega, by simp, by rw [Nat.sub_self, qm_nil]; exact HR.out⟩
  case round =>
    obtain ⟨j, acc, rfl, rfl, hij, hjs, hal, hq⟩ := hrel
    have HQ := Lib.hid hq
    clear hq HR
    have hz1 : (⟨acc.toArray⟩ : ByteArray).size ≤ 100000 := by rw [size_of]; omega
    have HSZ := Lib.hid (size_of acc)
    rcases Nat.lt_or_ge j s.size with hlt | hge
    · obtain ⟨c, hc⟩ : ∃ c, nx s.data.toList j = c := ⟨_, rfl⟩
      have hb1 := nx_str s j hlt
      rw [hc] at hb1
      have hlt' : j < s.data.toList.length := by rw [← Lib.size_eq]; exact hlt
      by_cases h34 : c = 34
      · have e1 : (((s[j].toNat : Nat) : Int) == 34) = true := by rw [hb1, h34]; rfl
        have hp := two34 s.data.toList j (by omega)
        by_cases h2 : nx s.data.toList (j + 1) = 34
        · have hlt2 : j + 1 < s.size := by
            have := lt_of_nx (L := s.data.toList) (i := j + 1) (by omega)
            rw [← Lib.size_eq] at this
            exact this
          have HP : Hid (Lib.hasPrefix (s.data.toList.drop j) (⟨#[34, 34]⟩ : ByteArray).data.toList = true) := by unfold Hid; rw [show (⟨#[34, 34]⟩ : ByteArray).data.toList = [34, 34] from rfl, hp]; simp [h2]
          have HQ2 : Hid (qm (acc ++ [34]) (j + 1 + 1 - (i + 1)) (quo (s.data.toList.drop (j + 1 + 1))) = R) := by
            have h3 := quo_two s.data.toList j (by omega) h2
            have h4 := HQ.out
            rw [h3, qm_qm] at h4
            unfold Hid
            rw [show j + 1 + 1 - (i + 1) = 2 + (j - (i + 1)) by omega]
            exact h4
          have HCT := Lib.hid (cat2 acc [34])
          have hz2 : (⟨#[34]⟩ : ByteArray).size = 1 := rfl
          clear hc hb1 h34 hp h2
          go_wp2_with fail
          refine (begins_any s ⟨#[34, 34]⟩ _ j true hs (by show (2 : Nat) ≤ 100000; omega) rfl (by omega) HP.out _).mono ?_
          rintro e w1 ⟨rfl, rfl⟩
          go_wp2_with fail
          go_round
          case rel => exact ⟨j + 1 + 1, acc ++ [34], by go_num, by rw [← HCT.out], by omega, by omega, by simp; omega, HQ2.out⟩
          case measure => simp [intOf]; omega
        · have HP : Hid (Lib.hasPrefix (s.data.toList.drop j) (⟨#[34, 34]⟩ : ByteArray).data.toList = false) := by unfold Hid; rw [show (⟨#[34, 34]⟩ : ByteArray).data.toList = [34, 34] from rfl, hp]; simp [h2]
          have HRS : Hid (R = some (acc, 1 + (j - (i + 1)))) := by
            have h3 := quo_close s.data.toList j (by omega) h2
            have h4 := HQ.out
            rw [h3] at h4
            unfold Hid
            rw [← h4]
            simp [qm]
          clear hc hb1 h34 hp h2
          go_wp2_with fail
          refine (begins_any s ⟨#[34, 34]⟩ _ j false hs (by show (2 : Nat) ≤ 100000; omega) rfl (by omega) HP.out _).mono ?_
          rintro e w1 ⟨rfl, rfl⟩
          go_wp2_with fail
          go_ret2
          exact retqr_some HRS.out (by omega)
      · have e1 : (((s[j].toNat : Nat) : Int) == 34) = false := by rw [hb1]; simp; omega
        have HQ2 : Hid (qm (acc ++ [UInt8.ofNat c]) (j + 1 - (i + 1)) (quo (s.data.toList.drop (j + 1))) = R) := by
          have h3 := quo_other s.data.toList j hlt' (by omega)
          have h4 := HQ.out
          rw [h3, qm_qm, hc] at h4
          unfold Hid
          rw [show j + 1 - (i + 1) = 1 + (j - (i + 1)) by omega]
          exact h4
        have hx1 := ext_one s j hlt
        rw [hc] at hx1
        have HCT : Hid ((⟨acc.toArray⟩ : ByteArray) ++ s.extract j (j + 1) = ⟨(acc ++ [UInt8.ofNat c]).toArray⟩) := by unfold Hid; rw [hx1, cat2]
        have hz2 : (s.extract j (j + 1)).size = 1 := by rw [hx1]; rfl
        clear hc hb1 h34 hx1
        go_wp2_with fail
        go_round
        case rel => exact ⟨j + 1, acc ++ [UInt8.ofNat c], by go_num, by rw [← HCT.out], by omega, by omega, by simp; omega, HQ2.out⟩
        case measure => simp [intOf]; omega
    · have HRN : Hid (R = none) := by
        have h4 := HQ.out
        rw [quo_end _ _ (by rw [← Lib.size_eq]; exact hge)] at h4
        exact h4.symm
      go_wp2_with fail
      go_ret2
      exact retqr_none HRN.out
def sgB (k : Nat) : ByteArray := ⟨(sgs.getD k []).toArray⟩
theorem sg_index (k : Nat) (h : k < 15) : ∀ w, (Instr.index 183 (.agg #[.string ⟨#[60, 62]⟩, .string ⟨#[60, 61]⟩, .string ⟨#[62, 61]⟩, .string ⟨#[60]⟩, .string ⟨#[62]⟩, .string ⟨#[61]⟩, .string ⟨#[43]⟩, .string ⟨#[45]⟩, .string ⟨#[42]⟩, .string ⟨#[47]⟩, .string ⟨#[38]⟩, .string ⟨#[40]⟩, .string ⟨#[41]⟩, .string ⟨#[44]⟩, .string ⟨#[58]⟩]) (.int .i64 (k : Int))).run Tryz.prog w = .ok (.string (sgB k)) w := by
  match k, h with
  | 0, _ => intro w; kernel_rfl
  | 1, _ => intro w; kernel_rfl
  | 2, _ => intro w; kernel_rfl
  | 3, _ => intro w; kernel_rfl
  | 4, _ => intro w; kernel_rfl
  | 5, _ => intro w; kernel_rfl
  | 6, _ => intro w; kernel_rfl
  | 7, _ => intro w; kernel_rfl
  | 8, _ => intro w; kernel_rfl
  | 9, _ => intro w; kernel_rfl
  | 10, _ => intro w; kernel_rfl
  | 11, _ => intro w; kernel_rfl
  | 12, _ => intro w; kernel_rfl
  | 13, _ => intro w; kernel_rfl
  | 14, _ => intro w; kernel_rfl
theorem sg_at {k : Nat} (h : k < 15) : sgs.drop k = sgs.getD k [] :: sgs.drop (k + 1) := by
  have h' : k < sgs.length := h
  rw [List.drop_eq_getElem_cons h']
  simp [List.getD, h']
theorem sg_len (k : Nat) : (sgB k).size ≤ 2 := by
  unfold sgB
  rw [size_of]
  rcases Nat.lt_or_ge k 15 with h | h
  · match k, h with
    | 0, _ | 1, _ | 2, _ | 3, _ | 4, _ | 5, _ | 6, _ | 7, _ | 8, _ | 9, _ | 10, _ | 11, _ | 12, _ | 13, _ | 14, _ => decide
  · have : sgs[k]? = none := List.getElem?_eq_none h
    simp [List.getD, this]
set_option maxRecDepth 100000 in
set_option maxHeartbeats 2000000 in
theorem sign_any (s : ByteArray) (R : List UInt8) (hs : s.size ≤ 100000) (hR : sgn s.data.toList = R) (w : World) :
    Calls Tryz.prog 103 #[.string s] w fun e w' => e = .returned (.string ⟨R.toArray⟩) ∧ w = w' := by
  have HR := Lib.hid hR
  clear hR
  go_enter Tryz.func103, Tryz.ntmps103
  go_wp2_with fail
  go_loop [4, 6] (fun _ v => ∃ k : Nat, v = .int .i64 k ∧ k ≤ 15 ∧ ((sgs.drop k).find? fun x => Lib.hasPrefix s.data.toList x).getD [] = R) (fun _ v => 15 - (intOf v).toNat)
  case atStart => exact ⟨0, rfl, by omega, HR.out⟩
  case round =>
    obtain ⟨k, rfl, hk, hq⟩ := hrel
    have HQ := Lib.hid hq
    clear hq HR
    rcases Nat.lt_or_ge k 15 with hlt | hge
    · have hidx := sg_index k hlt
      obtain ⟨b, hb⟩ : ∃ b, Lib.hasPrefix s.data.toList (sgB k).data.toList = b := ⟨_, rfl⟩
      have hpre : ∀ W, Calls Tryz.prog 28 #[.string s, .string (sgB k)] W fun e w' => e = .returned (.bool b) ∧ W = w' := fun W => by
        refine (Tryz.strings_HasPrefix s (sgB k) W).mono fun e w' h => ?_
        rw [hb] at h
        exact ⟨h.1, h.2.symm⟩
      have HPRE := Lib.hid hpre
      clear hpre
      have hq2 := HQ.out
      have hbb : Lib.hasPrefix s.data.toList (sgs.getD k []) = b := hb
      rw [sg_at hlt, List.find?_cons, hbb] at hq2
      cases b with
      | true =>
        have HE : Hid (sgB k = ⟨R.toArray⟩) := by rw [← hq2]; rfl
        clear hq2 hb hbb
        go_wp2_with fail
        refine (HPRE.out _).mono ?_
        rintro e w1 ⟨rfl, rfl⟩
        go_wp2_with fail
        go_ret
        exact ⟨by rw [← HE.out]; rfl, rfl⟩
      | false =>
        have HE := Lib.hid hq2
        clear hq2 hb hbb
        go_wp2_with fail
        refine (HPRE.out _).mono ?_
        rintro e w1 ⟨rfl, rfl⟩
        go_wp2_with fail
        go_round
        case rel => exact ⟨k + 1, by go_num, by omega, HE.out⟩
        case measure => simp [intOf]; omega
    · have HE : Hid (R = []) := by
        have h := HQ.out
        rw [List.drop_of_length_le (show sgs.length ≤ k from hge)] at h
        exact h.symm
      go_wp2_with fail
      go_ret
      exact ⟨by rw [HE.out]; rfl, rfl⟩
end Go.Proofs.YtbdgdhjhgcpidaaGreatDoor.Tks
namespace Go.Proofs.YtbdgdhjhgcpidaaGreatDoor.Tks
open Go.RowKit
def TokV (R : Option (Int × List UInt8 × Nat)) (i base : Nat) (v : Value) : Prop := match R with
  | none => ∃ k t a, v = .tuple #[.agg #[.int .i64 k, .string t, .int .i64 a], .int .i64 0]
  | some (k, t, n) => v = .tuple #[.agg #[.int .i64 k, .string ⟨t.toArray⟩, .int .i64 i], .int .i64 ((base + n : Nat) : Int)]
def RetO (R : Option (Int × List UInt8 × Nat)) (i base : Nat) (W : World) (e : Ending) (w' : World) : Prop := Below W.heap.size W w' ∧ ∃ v, e = .returned v ∧ TokV R i base v
theorem reto_none {R : Option (Int × List UInt8 × Nat)} {i base : Nat} {W w' : World} {k a : Int} {t : ByteArray} (h : R = none) (hb : Below W.heap.size W w') : RetO R i base W (.returned (.tuple #[.agg #[.int .i64 k, .string t, .int .i64 a], .int .i64 0])) w' := by subst h; exact ⟨hb, _, rfl, k, t, a, rfl⟩
theorem reto_some {R : Option (Int × List UInt8 × Nat)} {i base n : Nat} {W w' : World} {k a z : Int} {t : ByteArray} {T : List UInt8} (h : R = some (k, T, n)) (ht : t = ⟨T.toArray⟩) (ha : a = i) (hz : z = ((base + n : Nat) : Int)) (hb : Below W.heap.size W w') : RetO R i base W (.returned (.tuple #[.agg #[.int .i64 k, .string t, .int .i64 a], .int .i64 z])) w' := by subst h ht ha hz; exact ⟨hb, _, rfl, rfl⟩
theorem ext_list (s : ByteArray) (i j n : Nat) (h : j = i + n) : s.extract i j = ⟨((s.data.toList.drop i).take n).toArray⟩ := by
  subst h
  apply ByteArray.ext
  apply Array.ext'
  rw [ByteArray.data_extract, Array.toList_extract, List.extract_eq_take_drop]
  simp
theorem hp_any (t x : ByteArray) (b : Bool) (h : Lib.hasPrefix t.data.toList x.data.toList = b) (W : World) : Calls Tryz.prog 28 #[.string t, .string x] W fun e w' => e = .returned (.bool b) ∧ W = w' :=
  (Tryz.strings_HasPrefix t x W).mono fun e w' h' => ⟨by rw [h] at h'; exact h'.1, h'.2.symm⟩
theorem tail_list (s : ByteArray) (i : Nat) : (s.extract i s.size).data.toList = s.data.toList.drop i := by
  rw [ByteArray.data_extract, Array.toList_extract, List.extract_eq_take_drop, List.take_of_length_le]
  rw [List.length_drop, ← Lib.size_eq]
  omega
def qTok : Option (List UInt8 × Nat) → Option (Int × List UInt8 × Nat) | some (t, n) => some (2, t, n + 1) | none => none
set_option maxRecDepth 100000 in
set_option maxHeartbeats 2000000 in
theorem one_digit (s : ByteArray) (i : Nat) (hs : s.size ≤ 100000) (hi : i < s.size) (c : Nat) (hc : nx s.data.toList i = c) (hd : dgB c = true) (w : World) :
    Calls Tryz.prog 77 #[.string s, .int .i64 i] w (RetO (tok s.data.toList i) i i w) := by
  have hb1 := nx_str s i hi
  rw [hc] at hb1
  have HD := Lib.hid hd
  have HB := Lib.hid hb1
  by_cases hn : numN s.data.toList i = 0
  · have HT : Hid (tok s.data.toList i = none) := by unfold Hid tok; rw [hc, if_pos hd, if_pos hn]
    have HNU := Lib.hid (fun W => number_any s i 0 hs (by omega) (by rw [hc]; exact hd) (by rw [if_pos hn]) W)
    clear hc hd hn
    go_enter Tryz.func77, Tryz.ntmps77
    go_wp2_with fail
    refine (digit_yes c HD.out _).mono ?_
    rintro e w1 ⟨rfl, rfl⟩
    go_wp2_with fail
    refine (HNU.out _).mono ?_
    rintro e w1 ⟨rfl, rfl⟩
    go_wp2_with fail
    refine bodyPost_ret (v := .tuple #[.agg #[.int .i64 1, .string ByteArray.empty, .int .i64 i], .int .i64 0]) (by simp [results, Tryz.results77, go_sem]) rfl (reto_none HT.out ((Below.refl _ _).alloc (Nat.le_refl _) _))
  · obtain ⟨n, hnn⟩ : ∃ n, numN s.data.toList i = n := ⟨_, rfl⟩
    have HT : Hid (tok s.data.toList i = some (1, (s.data.toList.drop i).take n, n)) := by unfold Hid tok; rw [hc, if_pos hd, if_neg hn, hnn]
    have hle := (tok_pos (by rw [← Lib.size_eq]; exact hi) HT.out).2.1
    rw [← Lib.size_eq] at hle
    have HNU := Lib.hid (fun W => number_any s i (i + n) hs (by omega) (by rw [hc]; exact hd) (by rw [if_neg hn, hnn]) W)
    obtain ⟨r, hr⟩ : ∃ r, i + n = r := ⟨_, rfl⟩
    rw [hr] at HNU hle
    have hir : i ≤ r := by omega
    have hmx : max (r : Int) (i : Int) = (r : Int) := by omega
    have HX := Lib.hid (ext_list s i r n hr.symm)
    have HRN := Lib.hid hr
    clear hc hd hn hnn hr
    go_enter Tryz.func77, Tryz.ntmps77
    go_wp2_with fail
    refine (digit_yes c HD.out _).mono ?_
    rintro e w1 ⟨rfl, rfl⟩
    go_wp2_with fail
    refine (HNU.out _).mono ?_
    rintro e w1 ⟨rfl, rfl⟩
    go_wp2_with fail
    refine bodyPost_ret (v := .tuple #[.agg #[.int .i64 1, .string (s.extract i r), .int .i64 i], .int .i64 r]) (by simp [results, Tryz.results77, go_sem]) rfl (reto_some HT.out HX.out rfl (by rw [HRN.out]) ((Below.refl _ _).alloc (Nat.le_refl _) _))
set_option maxRecDepth 100000 in
set_option maxHeartbeats 2000000 in
theorem one_letter (s : ByteArray) (i : Nat) (hs : s.size ≤ 100000) (hi : i < s.size) (c : Nat) (hc : nx s.data.toList i = c) (hd : dgB c = false) (hu : upB c = true) (w : World) :
    Calls Tryz.prog 77 #[.string s, .int .i64 i] w (RetO (tok s.data.toList i) i i w) := by
  have hb1 := nx_str s i hi
  rw [hc] at hb1
  have HD := Lib.hid hd
  have HU := Lib.hid hu
  have HB := Lib.hid hb1
  obtain ⟨n, hnn⟩ : ∃ n, runN nmB s.data.toList i = n := ⟨_, rfl⟩
  have HT : Hid (tok s.data.toList i = some (3, (s.data.toList.drop i).take n, n)) := by unfold Hid tok; rw [hc, if_neg (by simp [hd]), if_pos hu, hnn]
  have hle := (tok_pos (by rw [← Lib.size_eq]; exact hi) HT.out).2.1
  rw [← Lib.size_eq] at hle
  have HNU := Lib.hid (fun W => name_any s i hs (by omega) W)
  rw [hnn] at HNU
  obtain ⟨r, hr⟩ : ∃ r, i + n = r := ⟨_, rfl⟩
  rw [hr] at HNU hle
  have hir : i ≤ r := by omega
  have HX := Lib.hid (ext_list s i r n hr.symm)
  have HRN := Lib.hid hr
  clear hc hd hu hnn hr
  go_enter Tryz.func77, Tryz.ntmps77
  go_wp2_with fail
  refine (digit_no c HD.out _).mono ?_
  rintro e w1 ⟨rfl, rfl⟩
  go_wp2_with fail
  refine (letter_yes c HU.out _).mono ?_
  rintro e w1 ⟨rfl, rfl⟩
  go_wp2_with fail
  refine (HNU.out _).mono ?_
  rintro e w1 ⟨rfl, rfl⟩
  go_wp2_with fail
  refine bodyPost_ret (v := .tuple #[.agg #[.int .i64 3, .string (s.extract i r), .int .i64 i], .int .i64 r]) (by simp [results, Tryz.results77, go_sem]) rfl (reto_some HT.out HX.out rfl (by rw [HRN.out]) ((Below.refl _ _).alloc (Nat.le_refl _) _))
set_option maxRecDepth 100000 in
set_option maxHeartbeats 2000000 in
theorem one_quote (s : ByteArray) (i : Nat) (hs : s.size ≤ 100000) (hi : i < s.size) (c : Nat) (hc : nx s.data.toList i = c) (hq : c = 34) (w : World) :
    Calls Tryz.prog 77 #[.string s, .int .i64 i] w (RetO (tok s.data.toList i) i i w) := by
  have hb1 := nx_str s i hi
  rw [hc] at hb1
  have hd : dgB c = false := by rw [hq]; decide
  have hu : upB c = false := by rw [hq]; decide
  have HD := Lib.hid hd
  have HU := Lib.hid hu
  have h34 : (((c : Nat) : Int) == 34) = true := by rw [hq]; rfl
  have HB := Lib.hid hb1
  obtain ⟨R, hR⟩ : ∃ R, quo (s.data.toList.drop (i + 1)) = R := ⟨_, rfl⟩
  have HQ := Lib.hid (fun W => quoted_any s i R hs hi hR W)
  have HT : Hid (tok s.data.toList i = qTok R) := by unfold Hid tok; rw [hc, if_neg (by simp [hd]), if_neg (by simp [hu]), if_pos hq, ← hR]; rfl
  clear hc hd hu hq hR
  cases R with
  | none =>
    go_enter Tryz.func77, Tryz.ntmps77
    go_wp2_with fail
    refine (digit_no c HD.out _).mono ?_
    rintro e w1 ⟨rfl, rfl⟩
    go_wp2_with fail
    refine (letter_no c HU.out _).mono ?_
    rintro e w1 ⟨rfl, rfl⟩
    go_wp2_with fail
    refine (HQ.out _).mono ?_
    rintro e w1 ⟨hb, he⟩
    have he : e = .returned (.tuple #[.string ⟨#[]⟩, .int .i64 0]) := he
    subst he
    obtain ⟨hc1, hf1, hz1⟩ := bcell hb (by first | (simp only [World.size_alloc, World.size_setCell, World.size_drew]; rfl) | rfl)
    have hbl : Below w.heap.size w w1 := by (repeat' (first | (with_reducible exact Below.refl _ _) | (with_reducible assumption) | (with_reducible refine Below.alloc ?_ ?_ _) | (with_reducible refine bel_drewN ?_ _) | (with_reducible refine Below.drew ?_) | (with_reducible refine Below.setCell ?_ ?_ _) | (with_reducible refine bel_call ‹_› ?_ ?_) | go_size))
    have HBL := Lib.hid hbl
    clear hbl
    go_wp2_with fail
    refine bodyPost_ret (v := .tuple #[.agg #[.int .i64 2, .string ⟨#[]⟩, .int .i64 i], .int .i64 0]) (by simp [results, Tryz.results77, go_sem, hc1, hz1]) rfl (reto_none HT.out (((HBL.out.setCell (Nat.le_refl _) _).setCell (Nat.le_refl _) _).setCell (Nat.le_refl _) _))
  | some x =>
    obtain ⟨T, m⟩ := x
    go_enter Tryz.func77, Tryz.ntmps77
    go_wp2_with fail
    refine (digit_no c HD.out _).mono ?_
    rintro e w1 ⟨rfl, rfl⟩
    go_wp2_with fail
    refine (letter_no c HU.out _).mono ?_
    rintro e w1 ⟨rfl, rfl⟩
    go_wp2_with fail
    refine (HQ.out _).mono ?_
    rintro e w1 ⟨hb, he⟩
    have he : e = .returned (.tuple #[.string ⟨T.toArray⟩, .int .i64 ((i + 1 + m : Nat) : Int)]) := he
    subst he
    obtain ⟨hc1, hf1, hz1⟩ := bcell hb (by first | (simp only [World.size_alloc, World.size_setCell, World.size_drew]; rfl) | rfl)
    have hbl : Below w.heap.size w w1 := by (repeat' (first | (with_reducible exact Below.refl _ _) | (with_reducible assumption) | (with_reducible refine Below.alloc ?_ ?_ _) | (with_reducible refine bel_drewN ?_ _) | (with_reducible refine Below.drew ?_) | (with_reducible refine Below.setCell ?_ ?_ _) | (with_reducible refine bel_call ‹_› ?_ ?_) | go_size))
    have HBL := Lib.hid hbl
    clear hbl
    go_wp2_with fail
    refine bodyPost_ret (v := .tuple #[.agg #[.int .i64 2, .string ⟨T.toArray⟩, .int .i64 i], .int .i64 ((i + 1 + m : Nat) : Int)]) (by simp [results, Tryz.results77, go_sem, hc1, hz1]) rfl (reto_some HT.out rfl rfl (by omega) (((HBL.out.setCell (Nat.le_refl _) _).setCell (Nat.le_refl _) _).setCell (Nat.le_refl _) _))
set_option maxRecDepth 100000 in
set_option maxHeartbeats 2000000 in
theorem one_ref (s : ByteArray) (i : Nat) (hs : s.size ≤ 100000) (hi : i < s.size) (c : Nat) (hc : nx s.data.toList i = c) (hd : dgB c = false) (hu : upB c = false) (hq : c ≠ 34) (hp : Lib.hasPrefix (s.data.toList.drop i) sREF = true) (w : World) :
    Calls Tryz.prog 77 #[.string s, .int .i64 i] w (RetO (tok s.data.toList i) i i w) := by
  have hb1 := nx_str s i hi
  rw [hc] at hb1
  have HD := Lib.hid hd
  have HU := Lib.hid hu
  have h34 : (((c : Nat) : Int) == 34) = false := by simp; omega
  have HB := Lib.hid hb1
  have HP : Hid (Lib.hasPrefix (s.extract i s.size).data.toList (⟨#[35, 82, 69, 70, 33]⟩ : ByteArray).data.toList = true) := by unfold Hid; rw [tail_list]; exact hp
  have HT : Hid (tok s.data.toList i = some (5, sREF, 5)) := by unfold Hid tok; rw [hc, if_neg (by simp [hd]), if_neg (by simp [hu]), if_neg hq, if_pos hp]
  clear hc hd hu hq hp
  go_enter Tryz.func77, Tryz.ntmps77
  go_wp2_with fail
  refine (digit_no c HD.out _).mono ?_
  rintro e w1 ⟨rfl, rfl⟩
  go_wp2_with fail
  refine (letter_no c HU.out _).mono ?_
  rintro e w1 ⟨rfl, rfl⟩
  go_wp2_with fail
  refine (hp_any _ _ true HP.out _).mono ?_
  rintro e w1 ⟨rfl, rfl⟩
  go_wp2_with fail
  refine bodyPost_ret (v := .tuple #[.agg #[.int .i64 5, .string ⟨#[35, 82, 69, 70, 33]⟩, .int .i64 i], .int .i64 (i + 5)]) (by simp [results, Tryz.results77, go_sem]) rfl (reto_some HT.out rfl rfl (by omega) ((Below.refl _ _).alloc (Nat.le_refl _) _))
set_option maxRecDepth 100000 in
set_option maxHeartbeats 2000000 in
theorem one_sign (s : ByteArray) (i : Nat) (hs : s.size ≤ 100000) (hi : i < s.size) (c : Nat) (hc : nx s.data.toList i = c) (hd : dgB c = false) (hu : upB c = false) (hq : c ≠ 34) (hp : Lib.hasPrefix (s.data.toList.drop i) sREF = false) (w : World) :
    Calls Tryz.prog 77 #[.string s, .int .i64 i] w (RetO (tok s.data.toList i) i i w) := by
  have hb1 := nx_str s i hi
  rw [hc] at hb1
  have HD := Lib.hid hd
  have HU := Lib.hid hu
  have h34 : (((c : Nat) : Int) == 34) = false := by simp; omega
  have HB := Lib.hid hb1
  have HP : Hid (Lib.hasPrefix (s.extract i s.size).data.toList (⟨#[35, 82, 69, 70, 33]⟩ : ByteArray).data.toList = false) := by unfold Hid; rw [tail_list]; exact hp
  obtain ⟨R, hR⟩ : ∃ R, sgn (s.data.toList.drop i) = R := ⟨_, rfl⟩
  have hx9 : (s.extract i s.size).size ≤ 100000 := by rw [Lib.size_eq, tail_list, List.length_drop, ← Lib.size_eq]; omega
  have HSG := Lib.hid (fun W => sign_any (s.extract i s.size) R hx9 (by rw [tail_list]; exact hR) W)
  have HT : Hid (tok s.data.toList i = if R = [] then none else some (4, R, R.length)) := by unfold Hid tok; rw [hc, if_neg (by simp [hd]), if_neg (by simp [hu]), if_neg hq, if_neg (by simp [hp]), hR]
  have hR2 : R.length ≤ 2 := by rw [← hR]; exact sgn_len _
  clear hc hd hu hq hp hR hx9
  by_cases hR0 : R = []
  · subst hR0
    have HT2 : Hid (tok s.data.toList i = none) := HT.out
    go_enter Tryz.func77, Tryz.ntmps77
    go_wp2_with fail
    refine (digit_no c HD.out _).mono ?_
    rintro e w1 ⟨rfl, rfl⟩
    go_wp2_with fail
    refine (letter_no c HU.out _).mono ?_
    rintro e w1 ⟨rfl, rfl⟩
    go_wp2_with fail
    refine (hp_any _ _ false HP.out _).mono ?_
    rintro e w1 ⟨rfl, rfl⟩
    go_wp2_with fail
    refine (HSG.out _).mono ?_
    rintro e w1 ⟨rfl, rfl⟩
    go_wp2_with fail
    refine bodyPost_ret (v := .tuple #[.agg #[.int .i64 0, .string ⟨#[]⟩, .int .i64 0], .int .i64 0]) (by simp [results, Tryz.results77, go_sem]) rfl (reto_none HT2.out ((Below.refl _ _).alloc (Nat.le_refl _) _))
  · have HT2 : Hid (tok s.data.toList i = some (4, R, R.length)) := by have := HT.out; rw [if_neg hR0] at this; exact this
    obtain ⟨T, hT⟩ : ∃ T : ByteArray, T = ⟨R.toArray⟩ := ⟨_, rfl⟩
    have hTl : T.toList = R := by rw [hT, ByteArray.toList_eq]
    have hne : T.toList.isEmpty = false := by rw [hTl]; cases R with | nil => exact absurd rfl hR0 | cons => rfl
    have hne2 : (!T.toList.isEmpty) = true := by rw [hne]; rfl
    have hTs : T.size = R.length := by rw [hT, size_of]
    have hT2 : T.size ≤ 2 := by omega
    have HTS := Lib.hid hTs
    rw [← hT] at HSG
    have HTT := Lib.hid hT
    clear hT hTl hR0 hTs HT
    go_enter Tryz.func77, Tryz.ntmps77
    go_wp2_with fail
    refine (digit_no c HD.out _).mono ?_
    rintro e w1 ⟨rfl, rfl⟩
    go_wp2_with fail
    refine (letter_no c HU.out _).mono ?_
    rintro e w1 ⟨rfl, rfl⟩
    go_wp2_with fail
    refine (hp_any _ _ false HP.out _).mono ?_
    rintro e w1 ⟨rfl, rfl⟩
    go_wp2_with fail
    refine (HSG.out _).mono ?_
    rintro e w1 ⟨rfl, rfl⟩
    go_wp2_with fail
    refine bodyPost_ret (v := .tuple #[.agg #[.int .i64 4, .string T, .int .i64 i], .int .i64 (i + T.size)]) (by simp [results, Tryz.results77, go_sem]) rfl (reto_some HT2.out HTT.out rfl (by rw [HTS.out]; omega) ((Below.refl _ _).alloc (Nat.le_refl _) _))
theorem one_any (s : ByteArray) (i : Nat) (hs : s.size ≤ 100000) (hi : i < s.size) (w : World) :
    Calls Tryz.prog 77 #[.string s, .int .i64 i] w (RetO (tok s.data.toList i) i i w) := by
  obtain ⟨c, hc⟩ : ∃ c, nx s.data.toList i = c := ⟨_, rfl⟩
  cases hd : dgB c with
  | true => exact one_digit s i hs hi c hc hd w
  | false =>
    cases hu : upB c with
    | true => exact one_letter s i hs hi c hc hd hu w
    | false =>
      by_cases hq : c = 34
      · exact one_quote s i hs hi c hc hq w
      · cases hp : Lib.hasPrefix (s.data.toList.drop i) sREF with
        | true => exact one_ref s i hs hi c hc hd hu hq hp w
        | false => exact one_sign s i hs hi c hc hd hu hq hp w
end Go.Proofs.YtbdgdhjhgcpidaaGreatDoor.Tks
