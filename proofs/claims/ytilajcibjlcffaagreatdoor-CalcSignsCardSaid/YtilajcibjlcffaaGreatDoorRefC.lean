/- Contracts of quadrilleref01.Less and Minus. -/
import Derived.Test.YtilajcibjlcffaaGreatDoorRefB
set_option linter.unusedSimpArgs false
set_option linter.unusedVariables false

namespace Go.Proofs.YtilajcibjlcffaaGreatDoor
open Go.RowKit

def ltN (a b : Nat) : Bool := decide (a < b)

theorem ltN_len {a b : Nat} (h : (digs a).length ≠ (digs b).length) : ltN a b = decide ((digs a).length < (digs b).length) := by
  unfold ltN
  rw [Bool.eq_iff_iff]
  simp only [decide_eq_true_eq]
  constructor
  · intro hab
    rcases Nat.lt_or_ge (digs a).length (digs b).length with h1 | h1
    · exact h1
    · have := digs_len_lt (a := b) (b := a) (by omega)
      omega
  · exact digs_len_lt

theorem ltN_at {a b k x y : Nat} (hl : (digs a).length = (digs b).length) (hd : (digs a).drop (k + 1) = (digs b).drop (k + 1)) (hx : nth (digs a) k = x) (hy : nth (digs b) k = y) (hne : x ≠ y) : ltN a b = decide (x < y) := by
  unfold ltN
  rw [Bool.eq_iff_iff]
  simp only [decide_eq_true_eq]
  have e1 := dval_digs a
  have e2 := dval_digs b
  constructor
  · intro hab
    rcases Nat.lt_or_ge x y with h1 | h1
    · exact h1
    · have := dval_less (digs b) (digs a) k (digs_lt b) (digs_lt a) hl.symm hd.symm (by simp only [nth] at hx hy; omega)
      omega
  · intro h
    have := dval_less (digs a) (digs b) k (digs_lt a) (digs_lt b) hl hd (by simp only [nth] at hx hy; omega)
    omega

theorem drop_step {A B : List Nat} {k : Nat} (hl : A.length = B.length) (hk : k < A.length) (hd : A.drop (k + 1) = B.drop (k + 1)) (h : nth A k = nth B k) : A.drop k = B.drop k := by
  rw [List.drop_eq_getElem_cons hk, List.drop_eq_getElem_cons (by omega : k < B.length), hd]
  congr 1
  simpa [nth, List.getD, List.getElem?_eq_getElem hk, List.getElem?_eq_getElem (by omega : k < B.length)] using h

set_option maxRecDepth 100000 in
set_option maxHeartbeats 2000000 in
theorem less_any (p : Option Addr) (n cap : Nat) (a : Nat) (q : Option Addr) (m cap2 : Nat) (b : Nat) (hn : n ≤ 1000) (hm : m ≤ 1000) (w : World) (hA : RdN w p n cap (digs a)) (hB : RdN w q m cap2 (digs b)) :
    Calls Tryz.prog 90 #[.slice p n cap, .slice q m cap2] w fun e w' => e = .returned (.bool (ltN a b)) ∧ Below w.heap.size w w' := by
  obtain ⟨a1, a2, a3, a4, a5⟩ := hA
  obtain ⟨b1, b2, b3, b4, b5⟩ := hB
  have hA1 := Lib.hid a1
  have hB1 := Lib.hid b1
  clear a1 a4 b1 b4
  unfold maxLen at a3 b3
  by_cases hnm : n = m
  · subst hnm
    by_cases hn0 : n = 0
    · subst hn0
      have e : ltN a b = false := by
        have x1 : a = 0 := digs_nil.1 (List.eq_nil_of_length_eq_zero hA1.out)
        have x2 : b = 0 := digs_nil.1 (List.eq_nil_of_length_eq_zero hB1.out)
        subst x1 x2
        rfl
      have E := Lib.hid e
      clear e a5 b5
      go_enter Tryz.func90, Tryz.ntmps90
      go_wp2
      go_loop [5] (fun v5 => v5 = .int .i64 (-1)) (fun _ => 0)
      case atStart => rfl
      case round =>
        subst hrel
        go_wp2
        go_ret
        exact ⟨by rw [E.out]; rfl, Below.refl _ _⟩
    · rcases a5 with ⟨_, a5, _⟩ | ⟨ba, oa, rfl, ha, hca⟩
      · omega
      · rcases b5 with ⟨_, b5, _⟩ | ⟨bb, ob, rfl, hb, hcb⟩
        · omega
        · have HCA := Lib.hid hca
          have HCB := Lib.hid hcb
          clear hca hcb
          go_enter Tryz.func90, Tryz.ntmps90
          go_wp2
          go_loopw [5] (fun v5 wr => ∃ k : Nat, k ≤ n ∧ v5 = .int .i64 ((k : Int) - 1) ∧ (digs a).drop k = (digs b).drop k ∧ Below w.heap.size w wr) (fun v5 _ => (intOf v5 + 1).toNat)
          case atStart => exact ⟨n, Nat.le_refl _, rfl, by rw [List.drop_of_length_le (by have := hA1.out; omega), List.drop_of_length_le (by have := hB1.out; omega)], Below.refl _ _⟩
          case round =>
            obtain ⟨k, hk, rfl, hd, hbel⟩ := hrel
            have HD := Lib.hid hd
            clear hd
            by_cases hk0 : k = 0
            · subst hk0
              have e : ltN a b = false := by
                have h1 := congrArg dval HD.out
                simp only [List.drop_zero, dval_digs] at h1
                subst h1
                simp [ltN]
              have E := Lib.hid e
              clear e
              go_wp2
              go_ret
              exact ⟨by rw [E.out]; rfl, hbel⟩
            · obtain ⟨j, rfl⟩ : ∃ j, k = j + 1 := ⟨k - 1, by omega⟩
              have hj1 : ((j + 1 : Nat) : Int) - 1 = (j : Int) := by omega
              rw [hj1]
              clear hj1 hk0
              have hj : (j : Int) < (n : Int) := by omega
              have hj0 : (0 : Int) ≤ (j : Int) := by omega
              obtain ⟨x, hx⟩ : ∃ x, nth (digs a) j = x := ⟨_, rfl⟩
              obtain ⟨y, hy⟩ : ∃ y, nth (digs b) j = y := ⟨_, rfl⟩
              have c1 : wr.cell? ⟨ba, oa + j, none⟩ = some (.int .u8 (x : Int)) := by rw [hbel.cell (by exact ha), HCA.out j (by omega), hx]
              have c2 : wr.cell? ⟨bb, ob + j, none⟩ = some (.int .u8 (y : Int)) := by rw [hbel.cell (by exact hb), HCB.out j (by omega), hy]
              have HX := Lib.hid hx
              have HY := Lib.hid hy
              clear hx hy
              by_cases hxy : x = y
              · have t1 : (((x : Nat) : Int) != (y : Int)) = false := by simp [hxy]
                have HXY := Lib.hid hxy
                clear hxy
                go_wp2
                go_quiet (fail)
                go_wp2
                go_roundw
                case rel => exact ⟨j, by omega, rfl, drop_step (by rw [hA1.out, hB1.out]) (by rw [hA1.out]; omega) HD.out (by rw [HX.out, HY.out, HXY.out]), bel_drewN hbel _⟩
                case measure => simp [intOf]
              · have t1 : (((x : Nat) : Int) != (y : Int)) = true := by rw [bne_iff_ne]; omega
                have E : Hid (ltN a b = decide (x < y)) := ltN_at (by rw [hA1.out, hB1.out]) HD.out HX.out HY.out hxy
                clear hxy
                go_wp2
                go_quiet (fail)
                go_wp2
                go_quiet (fail)
                go_wp2
                go_ret
                refine ⟨?_, bel_drewN (bel_drewN hbel _) _⟩
                rw [E.out]
                simp
  · have t1 : (((n : Nat) : Int) != (m : Int)) = true := by rw [bne_iff_ne]; omega
    have E : Hid (ltN a b = decide (n < m)) := by
      unfold Hid
      rw [ltN_len (by rw [hA1.out, hB1.out]; exact hnm), hA1.out, hB1.out]
    clear a5 b5 hnm
    go_enter Tryz.func90, Tryz.ntmps90
    go_wp2
    go_ret
    refine ⟨?_, Below.refl _ _⟩
    rw [E.out]
    simp

theorem minus_step {p x y c r c' X Y D : Nat} (h : X + p * c = D + Y) (h2 : x + 10 * c' = r + y + c) : X + p * x + p * 10 * c' = D + p * r + (Y + p * y) := by
  have h3 : p * (x + 10 * c') = p * (r + y + c) := by rw [h2]
  simp only [Nat.mul_add] at h3
  rw [Nat.mul_assoc]
  omega

set_option maxRecDepth 100000 in
set_option maxHeartbeats 2000000 in
theorem minus_any (p : Option Addr) (n cap : Nat) (a : Nat) (q : Option Addr) (m cap2 : Nat) (b : Nat) (hn : n ≤ 1000) (hab : b ≤ a) (w : World) (hA : RdN w p n cap (digs a)) (hB : RdN w q m cap2 (digs b)) :
    Calls Tryz.prog 91 #[.slice p n cap, .slice q m cap2] w (RetN (digs (a - b)) w) := by
  obtain ⟨i0, hi, hz0, hz1, hz2⟩ := info_parts info_u8
  have HA := Lib.hid hA
  have HB := Lib.hid hB
  have hcA := hA.max
  have hcB := hB.max
  have hlA := hA.le
  have hlB := hB.le
  unfold maxLen at hcA hcB
  have hmn : m ≤ n := by
    rw [← hA.len, ← hB.len]
    rcases Nat.lt_or_ge (digs a).length (digs b).length with h | h
    · have := digs_len_lt h
      omega
    · exact h
  clear hA hB
  go_enter Tryz.func91, Tryz.ntmps91
  go_wp2
  go_loopw [5, 6, 7] (fun v5 v6 v7 wr => ∃ (i c : Nat) (L : List Nat), L.length = i ∧ c ≤ 1 ∧ i ≤ n ∧ v6 = .int .u8 c ∧ v7 = .int .i64 i ∧ wr.ownsRow w.heap.size 5 1 v5 i (L.map U8) ∧ (∀ d ∈ L, d < 10) ∧ Below w.heap.size w wr ∧ dval ((digs a).take i) + 10 ^ i * c = dval L + dval ((digs b).take i)) (fun _ _ v7 _ => n - (intOf v7).toNat)
  case atStart => exact ⟨0, 0, [], rfl, by omega, by omega, rfl, rfl, World.ownsRow_nil _ _ _ _, by simp, Below.refl _ _, by simp [dval]⟩
  case round =>
    obtain ⟨i, c, L, hL, hc, hin, rfl, rfl, hown, hdig, hb, hval⟩ := hrel
    have HL := Lib.hid hL
    have HD := Lib.hid hdig
    have HV := Lib.hid hval
    clear hL hdig hval
    have hsz := hb.size
    by_cases hgo : i < n
    · have hx10 := nth_lt (digs_lt a) i
      have hy10 := nth_lt (digs_lt b) i
      obtain ⟨s, hs⟩ : ∃ s : Nat, (10 : Int) + (nth (digs a) i : Int) - (nth (digs b) i : Int) - (c : Int) = s := ⟨10 + nth (digs a) i - nth (digs b) i - c, by omega⟩
      have hs19 : s ≤ 19 := by omega
      have HV2 : Hid (dval ((digs a).take (i + 1)) + 10 ^ (i + 1) * (1 - s / 10) = dval (L ++ [s % 10]) + dval ((digs b).take (i + 1))) := by
        unfold Hid
        have hL' := HL.out
        rw [dval_concat, dval_take, dval_take, hL', Nat.pow_succ]
        exact minus_step HV.out (by show nth (digs a) i + _ = _ + nth (digs b) i + _; omega)
      (go_wp2_with fail; refine (digit_any p n cap (digs a) i (by omega) _ (HA.out.below hb)).mono ?_; rintro e w1 ⟨rfl, rfl⟩)
      (go_wp2_with fail; refine (digit_any q m cap2 (digs b) i (by omega) _ (HB.out.below hb)).mono ?_; rintro e w1 ⟨rfl, rfl⟩)
      go_wp2_with (at_builtin; refine wpList_append_own _ rfl (.tmp 25) (.tmp 28) _ rfl w.heap.size 5 i0 (.int .u8 0) 1 1 Tryz.underlying91 hi hz0 hz1 hz2 rfl (by decide) _ i (L.map U8) rfl (hown.alloc _) ⟨wr.heap.size, 0, none⟩ 1 1 [U8 (s % 10)] rfl rfl (news1 wr (U8 (s % 10)) _) (one1 _) (by unfold maxLen; omega) (by omega) (by simp; omega) ?_; intro v' w1 hown1 hgrow1 _)
      go_roundw
      case rel => exact ⟨i + 1, 1 - s / 10, L ++ [s % 10], by simp [HL.out], by omega, by omega, by congr 1; omega, by go_num, by simpa using hown1, fun d hd => by rcases List.mem_append.1 hd with h | h; exact HD.out d h; simp at h; omega, (hb.alloc hsz _).grown hgrow1 (by simp; omega) (fun k hk => (hown.lt k hk).1), HV2.out⟩
      case measure => simp [intOf]; omega
    · have hin' : i = n := by omega
      subst hin'
      obtain ⟨p', cap', rfl, hr, hfr⟩ := own_cells (L := L) hown HD.out
      have HF := Lib.hid hfr
      clear hfr
      have e : dval L = a - b := by
        have h1 := HV.out
        rw [List.take_of_length_le (by have := HA.out.len; omega), List.take_of_length_le (by have := HB.out.len; omega), dval_digs, dval_digs] at h1
        have h2 := dval_lt L HD.out
        rw [HL.out] at h2
        have hc' : c = 0 ∨ c = 1 := by omega
        rcases hc' with rfl | rfl
        · omega
        · omega
      have hR := Lib.hid hr
      clear hr
      go_wp2_with fail
      refine (cut_any _ _ _ L (by omega) _ hR.out).mono ?_
      rintro e' w1 ⟨n2, rfl, hr2, rfl⟩
      rw [e] at hr2
      have hR2 := Lib.hid hr2
      clear hr2 e
      go_wp2_with fail
      go_ret
      exact RetN.mk hR2.out hb HF.out
end Go.Proofs.YtilajcibjlcffaaGreatDoor
