/- Contract of quadrilleref01.Plus. -/
import Derived.Test.YtilajcibjlcffaaGreatDoorRefA
set_option linter.unusedSimpArgs false
set_option linter.unusedVariables false

namespace Go.Proofs.YtilajcibjlcffaaGreatDoor
open Go.RowKit

theorem plus_step (a b c x y p : Nat) (h : x + p * c = y) : x + p * ((a + b + c) % 10) + p * 10 * ((a + b + c) / 10) = y + p * a + p * b := by
  have e : (a + b + c) % 10 + 10 * ((a + b + c) / 10) = a + b + c := by omega
  have e2 : p * ((a + b + c) % 10) + p * 10 * ((a + b + c) / 10) = p * a + p * b + p * c := by
    rw [Nat.mul_assoc, ← Nat.mul_add, e, Nat.mul_add, Nat.mul_add]
  omega

set_option maxRecDepth 100000 in
set_option maxHeartbeats 2000000 in
theorem plus_any (p : Option Addr) (n cap : Nat) (A : List Nat) (q : Option Addr) (m cap2 : Nat) (B : List Nat) (hn : n ≤ 1000) (hm : m ≤ 1000) (w : World) (hA : RdN w p n cap A) (hB : RdN w q m cap2 B) :
    Calls Tryz.prog 89 #[.slice p n cap, .slice q m cap2] w (RetN (digs (dval A + dval B)) w) := by
  obtain ⟨i0, hi, hz0, hz1, hz2⟩ := info_parts info_u8
  have HA := Lib.hid hA
  have HB := Lib.hid hB
  have hcA := hA.max
  have hcB := hB.max
  have hlA := hA.le
  have hlB := hB.le
  unfold maxLen at hcA hcB
  clear hA hB
  obtain ⟨M, hM⟩ : ∃ M, M = Nat.max n m := ⟨_, rfl⟩
  have hM1 : n ≤ M := by rw [hM]; exact Nat.le_max_left _ _
  have hM2 : m ≤ M := by rw [hM]; exact Nat.le_max_right _ _
  have hM3 : M ≤ 1000 := by rw [hM]; exact Nat.max_le.2 ⟨hn, hm⟩
  have hM4 : M ≤ n ∨ M ≤ m := by rw [hM]; rcases Nat.le_total n m with h | h; · right; exact Nat.max_le.2 ⟨h, Nat.le_refl _⟩
                                 · left; exact Nat.max_le.2 ⟨Nat.le_refl _, h⟩
  clear hM
  go_enter Tryz.func89, Tryz.ntmps89
  go_wp2
  go_loopw [5, 6, 7] (fun v5 v6 v7 wr => ∃ (i c : Nat) (L : List Nat), L.length = i ∧ c ≤ 1 ∧ i ≤ M + 1 ∧ (c = 0 ∨ i ≤ M) ∧ v6 = .int .u8 c ∧ v7 = .int .i64 i ∧ wr.ownsRow w.heap.size 5 1 v5 i (L.map U8) ∧ (∀ d ∈ L, d < 10) ∧ Below w.heap.size w wr ∧ dval L + 10 ^ i * c = dval (A.take i) + dval (B.take i)) (fun _ _ v7 _ => M + 1 - (intOf v7).toNat)
  case atStart => exact ⟨0, 0, [], rfl, by omega, by omega, .inl rfl, rfl, rfl, World.ownsRow_nil _ _ _ _, by simp, Below.refl _ _, by simp [dval]⟩
  case round =>
    obtain ⟨i, c, L, hL, hc, hiM, hci, rfl, rfl, hown, hdig, hb, hval⟩ := hrel
    have HL := Lib.hid hL
    have HD := Lib.hid hdig
    have HV := Lib.hid hval
    clear hL hdig hval
    have hsz := hb.size
    have ha10 := nth_lt HA.out.dig i
    have hb10 := nth_lt HB.out.dig i
    by_cases hgo : i < n ∨ i < m ∨ 0 < c
    · have hiM' : i ≤ M := by omega
      have hcar : Hid ((nth A i + nth B i + c) / 10 = 0 ∨ i + 1 ≤ M) := by
        unfold Hid
        by_cases him : i = M
        · left
          have za : nth A i = 0 := by simp [nth, List.getD, List.getElem?_eq_none (by have := HA.out.len; omega : A.length ≤ i)]
          have zb : nth B i = 0 := by simp [nth, List.getD, List.getElem?_eq_none (by have := HB.out.len; omega : B.length ≤ i)]
          omega
        · right; omega
      have HV2 : Hid (dval (L ++ [(nth A i + nth B i + c) % 10]) + 10 ^ (i + 1) * ((nth A i + nth B i + c) / 10) = dval (A.take (i + 1)) + dval (B.take (i + 1))) := by
        unfold Hid
        have hL' := HL.out
        rw [dval_concat, dval_take, dval_take, hL', Nat.pow_succ]
        have := plus_step (nth A i) (nth B i) c (dval L) (dval (A.take i) + dval (B.take i)) (10 ^ i) HV.out
        simp only [nth] at this ⊢
        omega
      by_cases g1 : i < n
      all_goals by_cases g2 : i < m
      all_goals by_cases g3 : 0 < c
      all_goals try omega
      all_goals clear hgo hci
      all_goals (go_wp2_with fail; refine (digit_any p n cap A i (by omega) _ (HA.out.below hb)).mono ?_; rintro e w1 ⟨rfl, rfl⟩)
      all_goals (go_wp2_with fail; refine (digit_any q m cap2 B i (by omega) _ (HB.out.below hb)).mono ?_; rintro e w1 ⟨rfl, rfl⟩)
      all_goals go_wp2_with (at_builtin; refine wpList_append_own _ rfl (.tmp 34) (.tmp 37) _ rfl w.heap.size 5 i0 (.int .u8 0) 1 1 Tryz.underlying91 hi hz0 hz1 hz2 rfl (by decide) _ i (L.map U8) rfl (hown.alloc _) ⟨wr.heap.size, 0, none⟩ 1 1 [U8 ((nth A i + nth B i + c) % 10)] rfl rfl (news1 wr (U8 ((nth A i + nth B i + c) % 10)) _) (one1 _) (by unfold maxLen; omega) (by omega) (by simp; omega) ?_; intro v' w1 hown1 hgrow1 _)
      all_goals
        go_roundw
        case rel => exact ⟨i + 1, (nth A i + nth B i + c) / 10, L ++ [(nth A i + nth B i + c) % 10], by simp [HL.out], by omega, by omega, hcar.out, by go_num, by go_num, by simpa using hown1, fun d hd => by rcases List.mem_append.1 hd with h | h; exact HD.out d h; simp at h; omega, (hb.alloc hsz _).grown hgrow1 (by simp; omega) (fun k hk => (hown.lt k hk).1), HV2.out⟩
        case measure => simp [intOf]; omega
    · have hc0 : c = 0 := by omega
      subst hc0
      obtain ⟨p', cap', rfl, hr, hfr⟩ := own_cells (L := L) hown HD.out
      have HF := Lib.hid hfr
      clear hfr
      have e : dval L = dval A + dval B := by
        have := HV.out
        rw [List.take_of_length_le (by have := HA.out.len; omega), List.take_of_length_le (by have := HB.out.len; omega)] at this
        omega
      have hR := Lib.hid hr
      clear hr hci
      go_wp2_with fail
      refine (cut_any _ _ _ L (by omega) _ hR.out).mono ?_
      rintro e' w1 ⟨n2, rfl, hr2, rfl⟩
      rw [e] at hr2
      have hR2 := Lib.hid hr2
      clear hr2 e
      go_wp2_with fail
      go_ret
      exact RetN.mk hR2.out hb HF.out
end Go.Proofs.YtilajcibjlcffaaGreatDoor
