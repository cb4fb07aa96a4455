/- Contract of the program's quoted. -/
import Derived.Test.YtipnedgmmpdpjaaDoorTokD
set_option linter.unusedSimpArgs false
set_option linter.unusedVariables false
namespace Go.Proofs.YtipnedgmmpdpjaaDoor
open Go.RowKit

set_option maxRecDepth 100000 in
set_option maxHeartbeats 2000000 in
theorem quoted_any (s : ByteArray) (i : Nat) (R : Option (List UInt8 × Nat)) (hs : s.size ≤ 100000) (hi : i < s.size) (hR : quo (s.data.toList.drop (i + 1)) = R) (w : World) :
    Calls Tryd.prog 17 #[.string s, .int .i64 i] w (RetQ i R w) := by
  have HR := Lib.hid hR
  clear hR
  go_enter Tryd.func17, Tryd.ntmps17
  go_wp2_with fail
  refine wp_scope_many (fun l a' w' => l = 0 ∧ ∃ (k : Nat) (acc : List UInt8), i ≤ k ∧ acc.length + i ≤ k ∧ k < s.size ∧ qm acc (k - i) (quo (s.data.toList.drop (k + 1))) = R ∧ Lib.IsBuilder tBd 5 w.heap.size w.heap.size (Lib.byteCells acc) w' ∧ Below w.heap.size w w' ∧ ∃ u2 u3 u7 u8 u9 u10 u11 u12 u13 u14 u15 u16 u17 u18 u19 u20 u21 u22 u23 u24 u25 u26 u27 u28 : Value, a' = { tmps := #[.string s, .int .i64 k, u2, u3, .string ⟨#[]⟩, .int .i64 0, .pointer (some ⟨w.heap.size, 0, none⟩), u7, u8, u9, u10, u11, u12, u13, u14, u15, u16, u17, u18, u19, u20, u21, u22, u23, u24, u25, u26, u27, u28], defers := [] }) (fun _ a' _ => 600000 - (intOf (a'.tmps.getD 1 undef)).toNat) 600001 ?_ ?_
  · go_wp2_with fail
    go_step3
    obtain ⟨k, hki⟩ : ∃ k, k = i := ⟨_, rfl⟩
    obtain ⟨acc, hac⟩ : ∃ acc : List UInt8, acc = [] := ⟨_, rfl⟩
    have hik : i ≤ k := by omega
    have hks : k < s.size := by omega
    have hal : acc.length + i ≤ k := by rw [hac]; simp; omega
    have HQ : Hid (qm acc (k - i) (quo (s.data.toList.drop (k + 1))) = R) := by unfold Hid; rw [hki, hac, Nat.sub_self, qm_nil]; exact HR.out
    have HI : Hid (Lib.IsBuilder tBd 5 w.heap.size w.heap.size (Lib.byteCells acc) (w.alloc (.cells #[.pointer none, .slice none 0 0] tBd))) := by rw [hac]; exact bd_fresh _ _ (Nat.le_refl _)
    have HBL : Hid (Below w.heap.size w (w.alloc (.cells #[.pointer none, .slice none 0 0] tBd))) := (Below.refl _ _).alloc (Nat.le_refl _) _
    rw [← hki]
    have hz : w.heap.size ≤ (w.alloc (.cells #[.pointer none, .slice none 0 0] tBd)).heap.size := HBL.out.size
    clear hki hac HR
    generalize w.alloc (.cells #[.pointer none, .slice none 0 0] tBd) = wr at HI HBL hz ⊢
    rcases Nat.lt_or_ge (k + 1) s.size with hlt | hge
    · obtain ⟨c, hc⟩ : ∃ c, nx s.data.toList (k + 1) = c := ⟨_, rfl⟩
      have hc256 : c < 256 := by rw [← hc]; exact nx_lt _ _
      have hb1 := nx_str s (k + 1) hlt
      rw [hc] at hb1
      have hlt' : k + 1 < s.data.toList.length := by rw [← Lib.size_eq]; exact hlt
      by_cases h34 : c = 34
      · have e1 : (((s[k + 1].toNat : Nat) : Int) == 34) = true := by rw [hb1, h34]; rfl
        obtain ⟨d, hd⟩ : ∃ d, nx s.data.toList (k + 1 + 1) = d := ⟨_, rfl⟩
        by_cases hd34 : d = 34
        · have hlt2 : k + 1 + 1 < s.size := by
            have := lt_of_nx (L := s.data.toList) (i := k + 1 + 1) (by omega)
            rw [← Lib.size_eq] at this
            exact this
          have hb2 := nx_str s (k + 1 + 1) hlt2
          rw [hd] at hb2
          have e2 : (((d : Nat) : Int) != 34) = false := by rw [hd34]; rfl
          have HQ2 : Hid (qm (acc ++ [UInt8.ofNat d]) (k + 1 + 1 - i) (quo (s.data.toList.drop (k + 1 + 1 + 1))) = R) := by
            have h1 := quo_two s.data.toList (k + 1) (by omega) (by omega)
            have h2 := HQ.out
            rw [h1, qm_qm] at h2
            unfold Hid
            rw [hd34, show k + 1 + 1 - i = 2 + (k - i) by omega]
            exact h2
          have HD := Lib.hid hd
          have HB2 := Lib.hid hb2
          clear hc hb1 h34 hd hd34 hb2
          go_wp2_with fail
          refine (next_z s _ (k + 1 + 1) d hs (by omega) HD.out _).mono ?_
          rintro e w1 ⟨rfl, rfl⟩
          go_wp2_with fail
          refine (writeByte_any w.heap.size w.heap.size (Lib.byteCells acc) _ _ HI.out (by rw [bc_len]; omega) (by omega)).mono ?_
          rintro e w2 ⟨rfl, h1, hbb⟩
          have HI2 : Hid (Lib.IsBuilder tBd 5 w.heap.size w.heap.size (Lib.byteCells (acc ++ [UInt8.ofNat d])) w2) := by
            unfold Hid
            rw [← bc_snoc acc d (by rw [← HD.out]; exact nx_lt _ _), ← HB2.out]
            exact .inr h1
          have hbel : Below w.heap.size w w2 := HBL.out.trans hbb
          clear h1
          go_wp2_with fail
          go_step3
          refine ⟨⟨rfl, k + 1 + 1, acc ++ [UInt8.ofNat d], by omega, by simp; omega, by omega, HQ2.out, HI2.out, ?_, ⟨_, _, _, _, _, _, _, _, _, _, _, _, _, _, _, _, _, _, _, _, _, _, _, _, by first | rfl | go_num⟩⟩, by simp [intOf]; omega⟩
          exact hbel
        · have e2 : (((d : Nat) : Int) != 34) = true := by simp; omega
          have HRS : Hid (R = some (acc, 1 + (k - i))) := by
            have h1 := quo_close s.data.toList (k + 1) (by omega) (by omega)
            have h2 := HQ.out
            rw [h1] at h2
            unfold Hid
            rw [← h2]
            simp [qm]
          have HD := Lib.hid hd
          clear hc hb1 h34 hd hd34
          go_wp2_with fail
          refine (next_z s _ (k + 1 + 1) d hs (by omega) HD.out _).mono ?_
          rintro e w1 ⟨rfl, rfl⟩
          go_wp2_with fail
          refine (bd_string w.heap.size w.heap.size acc _ HI.out (by omega)).mono ?_
          rintro e w2 ⟨rfl, hbb⟩
          go_wp2_with fail
          simp only [jumps_ret]
          go_ret2
          exact retq_some HRS.out (by omega) (HBL.out.trans hbb)
      · have e1 : (((s[k + 1].toNat : Nat) : Int) == 34) = false := by rw [hb1]; simp; omega
        have HQ2 : Hid (qm (acc ++ [UInt8.ofNat c]) (k + 1 - i) (quo (s.data.toList.drop (k + 1 + 1))) = R) := by
          have h1 := quo_other s.data.toList (k + 1) hlt' (by omega)
          have h2 := HQ.out
          rw [h1, qm_qm, hc] at h2
          unfold Hid
          rw [show k + 1 - i = 1 + (k - i) by omega]
          exact h2
        have HB1 := Lib.hid hb1
        have HC := Lib.hid hc256
        clear hc hb1 h34 hc256
        go_wp2_with fail
        refine (writeByte_any w.heap.size w.heap.size (Lib.byteCells acc) _ _ HI.out (by rw [bc_len]; omega) (by omega)).mono ?_
        rintro e w2 ⟨rfl, h1, hbb⟩
        have HI2 : Hid (Lib.IsBuilder tBd 5 w.heap.size w.heap.size (Lib.byteCells (acc ++ [UInt8.ofNat c])) w2) := by
          unfold Hid
          rw [← bc_snoc acc c HC.out, ← HB1.out]
          exact .inr h1
        have hbel : Below w.heap.size w w2 := HBL.out.trans hbb
        clear h1
        go_wp2_with fail
        go_step3
        refine ⟨⟨rfl, k + 1, acc ++ [UInt8.ofNat c], by omega, by simp; omega, by omega, HQ2.out, HI2.out, ?_, ⟨_, _, _, _, _, _, _, _, _, _, _, _, _, _, _, _, _, _, _, _, _, _, _, _, by first | rfl | go_num⟩⟩, by simp [intOf]; omega⟩
        exact hbel
    · have HRN : Hid (R = none) := by
        have h2 := HQ.out
        rw [quo_end _ _ (by rw [← Lib.size_eq]; exact hge)] at h2
        exact h2.symm
      go_wp2_with fail
      simp only [jumps_ret]
      go_ret2
      exact retq_none HRN.out HBL.out
  · rintro l a' wr ⟨rfl, k, acc, hik, hal, hks, hq, hI, hbl, ⟨u2, u3, u7, u8, u9, u10, u11, u12, u13, u14, u15, u16, u17, u18, u19, u20, u21, u22, u23, u24, u25, u26, u27, u28, rfl⟩⟩
    refine ⟨_, rfl, ?_⟩
    have HQ := Lib.hid hq
    have HI := Lib.hid hI
    have HBL := Lib.hid hbl
    have hz := hbl.size
    clear hq hI hbl HR
    rcases Nat.lt_or_ge (k + 1) s.size with hlt | hge
    · obtain ⟨c, hc⟩ : ∃ c, nx s.data.toList (k + 1) = c := ⟨_, rfl⟩
      have hc256 : c < 256 := by rw [← hc]; exact nx_lt _ _
      have hb1 := nx_str s (k + 1) hlt
      rw [hc] at hb1
      have hlt' : k + 1 < s.data.toList.length := by rw [← Lib.size_eq]; exact hlt
      by_cases h34 : c = 34
      · have e1 : (((s[k + 1].toNat : Nat) : Int) == 34) = true := by rw [hb1, h34]; rfl
        obtain ⟨d, hd⟩ : ∃ d, nx s.data.toList (k + 1 + 1) = d := ⟨_, rfl⟩
        by_cases hd34 : d = 34
        · have hlt2 : k + 1 + 1 < s.size := by
            have := lt_of_nx (L := s.data.toList) (i := k + 1 + 1) (by omega)
            rw [← Lib.size_eq] at this
            exact this
          have hb2 := nx_str s (k + 1 + 1) hlt2
          rw [hd] at hb2
          have e2 : (((d : Nat) : Int) != 34) = false := by rw [hd34]; rfl
          have HQ2 : Hid (qm (acc ++ [UInt8.ofNat d]) (k + 1 + 1 - i) (quo (s.data.toList.drop (k + 1 + 1 + 1))) = R) := by
            have h1 := quo_two s.data.toList (k + 1) (by omega) (by omega)
            have h2 := HQ.out
            rw [h1, qm_qm] at h2
            unfold Hid
            rw [hd34, show k + 1 + 1 - i = 2 + (k - i) by omega]
            exact h2
          have HD := Lib.hid hd
          have HB2 := Lib.hid hb2
          clear hc hb1 h34 hd hd34 hb2
          go_wp2_with fail
          refine (next_z s _ (k + 1 + 1) d hs (by omega) HD.out _).mono ?_
          rintro e w1 ⟨rfl, rfl⟩
          go_wp2_with fail
          refine (writeByte_any w.heap.size w.heap.size (Lib.byteCells acc) _ _ HI.out (by rw [bc_len]; omega) (by omega)).mono ?_
          rintro e w2 ⟨rfl, h1, hbb⟩
          have HI2 : Hid (Lib.IsBuilder tBd 5 w.heap.size w.heap.size (Lib.byteCells (acc ++ [UInt8.ofNat d])) w2) := by
            unfold Hid
            rw [← bc_snoc acc d (by rw [← HD.out]; exact nx_lt _ _), ← HB2.out]
            exact .inr h1
          have hbel : Below w.heap.size w w2 := HBL.out.trans hbb
          clear h1
          go_wp2_with fail
          go_step3
          refine ⟨⟨rfl, k + 1 + 1, acc ++ [UInt8.ofNat d], by omega, by simp; omega, by omega, HQ2.out, HI2.out, ?_, ⟨_, _, _, _, _, _, _, _, _, _, _, _, _, _, _, _, _, _, _, _, _, _, _, _, by first | rfl | go_num⟩⟩, by simp [intOf]; omega⟩
          exact hbel
        · have e2 : (((d : Nat) : Int) != 34) = true := by simp; omega
          have HRS : Hid (R = some (acc, 1 + (k - i))) := by
            have h1 := quo_close s.data.toList (k + 1) (by omega) (by omega)
            have h2 := HQ.out
            rw [h1] at h2
            unfold Hid
            rw [← h2]
            simp [qm]
          have HD := Lib.hid hd
          clear hc hb1 h34 hd hd34
          go_wp2_with fail
          refine (next_z s _ (k + 1 + 1) d hs (by omega) HD.out _).mono ?_
          rintro e w1 ⟨rfl, rfl⟩
          go_wp2_with fail
          refine (bd_string w.heap.size w.heap.size acc _ HI.out (by omega)).mono ?_
          rintro e w2 ⟨rfl, hbb⟩
          go_wp2_with fail
          simp only [jumps_ret]
          go_ret2
          exact retq_some HRS.out (by omega) (HBL.out.trans hbb)
      · have e1 : (((s[k + 1].toNat : Nat) : Int) == 34) = false := by rw [hb1]; simp; omega
        have HQ2 : Hid (qm (acc ++ [UInt8.ofNat c]) (k + 1 - i) (quo (s.data.toList.drop (k + 1 + 1))) = R) := by
          have h1 := quo_other s.data.toList (k + 1) hlt' (by omega)
          have h2 := HQ.out
          rw [h1, qm_qm, hc] at h2
          unfold Hid
          rw [show k + 1 - i = 1 + (k - i) by omega]
          exact h2
        have HB1 := Lib.hid hb1
        have HC := Lib.hid hc256
        clear hc hb1 h34 hc256
        go_wp2_with fail
        refine (writeByte_any w.heap.size w.heap.size (Lib.byteCells acc) _ _ HI.out (by rw [bc_len]; omega) (by omega)).mono ?_
        rintro e w2 ⟨rfl, h1, hbb⟩
        have HI2 : Hid (Lib.IsBuilder tBd 5 w.heap.size w.heap.size (Lib.byteCells (acc ++ [UInt8.ofNat c])) w2) := by
          unfold Hid
          rw [← bc_snoc acc c HC.out, ← HB1.out]
          exact .inr h1
        have hbel : Below w.heap.size w w2 := HBL.out.trans hbb
        clear h1
        go_wp2_with fail
        go_step3
        refine ⟨⟨rfl, k + 1, acc ++ [UInt8.ofNat c], by omega, by simp; omega, by omega, HQ2.out, HI2.out, ?_, ⟨_, _, _, _, _, _, _, _, _, _, _, _, _, _, _, _, _, _, _, _, _, _, _, _, by first | rfl | go_num⟩⟩, by simp [intOf]; omega⟩
        exact hbel
    · have HRN : Hid (R = none) := by
        have h2 := HQ.out
        rw [quo_end _ _ (by rw [← Lib.size_eq]; exact hge)] at h2
        exact h2.symm
      go_wp2_with fail
      simp only [jumps_ret]
      go_ret2
      exact retq_none HRN.out HBL.out
end Go.Proofs.YtipnedgmmpdpjaaDoor
