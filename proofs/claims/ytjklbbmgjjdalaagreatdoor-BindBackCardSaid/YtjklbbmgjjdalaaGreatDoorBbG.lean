/- Contracts of quadrilleref01's digits: Of, digit, Cut, Plus. Contract of quadrilleref01.Plus. Contracts of quadrilleref01.Less and Minus. Contract of quadrilleref01.Times. Contract of quadrilleref01.Over. -/
import Derived.Test.YtjklbbmgjjdalaaGreatDoorBbE
import Derived.Deep.LoopGhost
set_option linter.unusedSimpArgs false
set_option linter.unusedVariables false
namespace Go.Proofs.YtjklbbmgjjdalaaGreatDoor
open Go.RowKit
theorem info_u8 : (Tryz.prog.info? 5).map (fun i => (i.zero, i.size, i.bytes)) = some (some (.int .u8 0), 1, 1) := by kernel_rfl
set_option maxHeartbeats 400000 in
theorem digit_any (p : Option Addr) (n cap : Nat) (L : List Nat) (i : Nat) (hi : i ≤ 100000) (w : World) (h : RdN w p n cap L) :
    Calls Tryz.prog 106 #[.slice p n cap, .int .i64 i] w fun e w' => e = .returned (.int .u8 (nth L i : Int)) ∧ w = w' := by
  obtain ⟨h1, h2, h3, h4, h5⟩ := h
  unfold maxLen at h3
  by_cases hlt : i < n
  · rcases h5 with ⟨_, h5, _⟩ | ⟨b, off, rfl, h6, h7⟩
    · omega
    · go_enter Tryz.func106, Tryz.ntmps106
      go_wp2
      go_ret
      exact ⟨rfl, rfl⟩
  · have hz : Hid (nth L i = 0) := by simp [Hid, nth, List.getD, List.getElem?_eq_none (by omega : L.length ≤ i)]
    clear h5
    go_enter Tryz.func106, Tryz.ntmps106
    go_wp2
    go_ret
    exact ⟨by rw [hz.out]; rfl, rfl⟩
set_option maxRecDepth 100000 in
set_option maxHeartbeats 1000000 in
theorem of_digs (n : Nat) (hn : n ≤ 18446744073709551615) (w : World) :
    Calls Tryz.prog 78 #[.int .u64 n] w (RetN (digs n) w) := by
  obtain ⟨i0, hi, hz0, hz1, hz2⟩ := info_parts info_u8
  have HN := Lib.hid hn
  clear hn
  go_enter Tryz.func78, Tryz.ntmps78
  go_wp2
  go_loopw [0, 3] (fun v0 v3 wr => ∃ (m : Nat) (L : List Nat), m ≤ 18446744073709551615 ∧ v0 = .int .u64 m ∧ wr.ownsRow w.heap.size 5 1 v3 L.length (L.map U8) ∧ Below w.heap.size w wr ∧ L ++ digs m = digs n) (fun v0 _ _ => (intOf v0).toNat)
  case atStart => exact ⟨n, [], HN.out, rfl, World.ownsRow_nil _ _ _ _, Below.refl _ _, by simp⟩
  case round =>
    obtain ⟨m, L, hm, rfl, hown, hb, hL⟩ := hrel
    have HL := Lib.hid hL
    have HM := Lib.hid hm
    clear hL hm
    have hlen : L.length ≤ 20 := by
      have h1 := congrArg List.length HL.out
      have h2 := digs_length_le (n := n) (k := 20) (by have := HN.out; omega)
      simp at h1
      omega
    have hsz := hb.size
    by_cases hm0 : m = 0
    · subst hm0
      go_wp2
      go_ret
      have e : L = digs n := by simpa [digs_zero] using HL.out
      rw [← e]
      exact RetN.of_own hown (by rw [e]; exact digs_lt n) hb
    · have hq : IntKind.u64.wrap ((m : Int) / 10) = (m : Int) / 10 := IntWalk.u64_in _ (by have := HM.out; omega)
      go_wp2_with (at_builtin; refine wpList_append_own _ rfl (.tmp 6) (.tmp 10) _ rfl w.heap.size 5 i0 (.int .u8 0) 1 1 Tryz.underlying147 hi hz0 hz1 hz2 rfl (by decide) _ L.length (L.map U8) rfl (hown.alloc _) ⟨wr.heap.size, 0, none⟩ 1 1 [U8 (m % 10)] rfl rfl ?c1 ?c2 ?c3 ?c4 ?c5 ?_)
      case c1 => exact news1 wr (U8 (m % 10)) _
      case c2 => exact one1 _
      case c3 => unfold maxLen; omega
      case c4 => omega
      case c5 => simp; omega
      intro v' w1 hown1 hgrow1 _
      go_wp2
      go_roundw
      case rel => exact ⟨m / 10, L ++ [m % 10], by have := HM.out; omega, by go_num, by simpa using hown1, (hb.alloc hsz _).grown hgrow1 (by simp; omega) (fun k hk => (hown.lt k hk).1), by rw [← HL.out, digs_pos hm0]; simp⟩
      case measure => simp [intOf]; omega
set_option maxRecDepth 100000 in
set_option maxHeartbeats 1000000 in
theorem cut_any (p : Option Addr) (n cap : Nat) (L : List Nat) (hn : n ≤ 100000) (w : World) (h : RdN w p n cap L) :
    Calls Tryz.prog 103 #[.slice p n cap] w (RetC p cap (digs (dval L)) w) := by
  have hR := Lib.hid h
  obtain ⟨h1, h2, h3, h4, h5⟩ := h
  unfold maxLen at h3
  rcases h5 with ⟨rfl, rfl, rfl⟩ | ⟨b, off, rfl, h6, h7⟩
  · have e : L = [] := List.eq_nil_of_length_eq_zero h1
    subst e
    go_enter Tryz.func103, Tryz.ntmps103
    go_wp2
    refine wp_loop_rounds 1 ?_
    rw [rounds_succ]
    go_wp2
    go_ret
    exact ⟨0, rfl, RdN.nil w, rfl⟩
  · have hL := Lib.hid h1
    clear h1
    have h4 := Lib.hid h4
    go_enter Tryz.func103, Tryz.ntmps103
    go_wp2
    go_loop [0] (fun v0 => ∃ k : Nat, k ≤ n ∧ v0 = .slice (some ⟨b, off, none⟩) k cap ∧ ∀ j, k ≤ j → nth L j = 0) (fun v0 => lenOf v0)
    case atStart => exact ⟨n, Nat.le_refl _, rfl, fun j hj => by have := hL.out; simp [nth, List.getD, List.getElem?_eq_none (by omega : L.length ≤ j)]⟩
    case round =>
      obtain ⟨k, hk, rfl, hz⟩ := hrel
      have HZ := Lib.hid hz
      clear hz
      by_cases hk0 : k = 0
      · subst hk0
        go_wp2
        go_ret
        have e := digs_front L 0 h4.out (by omega) HZ.out (.inl rfl)
        rw [← e]
        exact ⟨0, rfl, hR.out.front (Nat.zero_le _), rfl⟩
      · have hc := h7 (k - 1) (by omega)
        have hk1 : (1 : Int) ≤ (k : Int) := by omega
        by_cases hd : nth L (k - 1) = 0
        · have HD := Lib.hid hd
          have hd' : (((nth L (k - 1) : Nat) : Int) == 0) = true := by simp [hd]
          clear hd
          go_wp2
          go_round
          case rel => exact ⟨k - 1, by omega, rfl, fun j hj => by rcases Nat.lt_or_ge j k with h | h; · rw [show j = k - 1 from by omega]; exact HD.out
                                                                  · exact HZ.out j h⟩
          case measure => simp [lenOf]; omega
        · have hd' : (((nth L (k - 1) : Nat) : Int) == 0) = false := by simp; exact hd
          have HD := Lib.hid hd
          clear hd
          go_wp2
          go_ret
          have e := digs_front L k h4.out (by have := hL.out; omega) HZ.out (.inr HD.out)
          rw [← e]
          exact ⟨k, rfl, hR.out.front hk, rfl⟩
end Go.Proofs.YtjklbbmgjjdalaaGreatDoor
namespace Go.Proofs.YtjklbbmgjjdalaaGreatDoor
open Go.RowKit
theorem plus_step (a b c x y p : Nat) (h : x + p * c = y) : x + p * ((a + b + c) % 10) + p * 10 * ((a + b + c) / 10) = y + p * a + p * b := by
  have e : (a + b + c) % 10 + 10 * ((a + b + c) / 10) = a + b + c := by omega
  have e2 : p * ((a + b + c) % 10) + p * 10 * ((a + b + c) / 10) = p * a + p * b + p * c := by
    rw [Nat.mul_assoc, ← Nat.mul_add, e, Nat.mul_add, Nat.mul_add]
  omega
set_option maxRecDepth 100000 in
set_option maxHeartbeats 2000000 in
theorem plus_any (p : Option Addr) (n cap : Nat) (A : List Nat) (q : Option Addr) (m cap2 : Nat) (B : List Nat) (hn : n ≤ 1000) (hm : m ≤ 1000) (w : World) (hA : RdN w p n cap A) (hB : RdN w q m cap2 B) :
    Calls Tryz.prog 102 #[.slice p n cap, .slice q m cap2] w (RetN (digs (dval A + dval B)) w) := by
  obtain ⟨i0, hi, hz0, hz1, hz2⟩ := info_parts info_u8
  have HA := Lib.hid hA
  have HB := Lib.hid hB
  have hcA := hA.max
  have hcB := hB.max
  have hlA := hA.le
  have hlB := hB.le
  unfold maxLen at hcA hcB
  clear hA hB
  obtain ⟨M, hM⟩ : ∃ M, M = Nat.max n m := ⟨_, rfl⟩
  have hM1 : n ≤ M := by rw [hM]; exact Nat.le_max_left _ _
  have hM2 : m ≤ M := by rw [hM]; exact Nat.le_max_right _ _
  have hM3 : M ≤ 1000 := by rw [hM]; exact Nat.max_le.2 ⟨hn, hm⟩
  have hM4 : M ≤ n ∨ M ≤ m := by rw [hM]; rcases Nat.le_total n m with h | h; · right; exact Nat.max_le.2 ⟨h, Nat.le_refl _⟩
                                 · left; exact Nat.max_le.2 ⟨Nat.le_refl _, h⟩
  clear hM
  go_enter Tryz.func102, Tryz.ntmps102
  go_wp2
  go_loopw [5, 6, 7] (fun v5 v6 v7 wr => ∃ (i c : Nat) (L : List Nat), L.length = i ∧ c ≤ 1 ∧ i ≤ M + 1 ∧ (c = 0 ∨ i ≤ M) ∧ v6 = .int .u8 c ∧ v7 = .int .i64 i ∧ wr.ownsRow w.heap.size 5 1 v5 i (L.map U8) ∧ (∀ d ∈ L, d < 10) ∧ Below w.heap.size w wr ∧ dval L + 10 ^ i * c = dval (A.take i) + dval (B.take i)) (fun _ _ v7 _ => M + 1 - (intOf v7).toNat)
  case atStart => exact ⟨0, 0, [], rfl, by omega, by omega, .inl rfl, rfl, rfl, World.ownsRow_nil _ _ _ _, by simp, Below.refl _ _, by simp [dval]⟩
  case round =>
    obtain ⟨i, c, L, hL, hc, hiM, hci, rfl, rfl, hown, hdig, hb, hval⟩ := hrel
    have HL := Lib.hid hL
    have HD := Lib.hid hdig
    have HV := Lib.hid hval
    clear hL hdig hval
    have hsz := hb.size
    have ha10 := nth_lt HA.out.dig i
    have hb10 := nth_lt HB.out.dig i
    by_cases hgo : i < n ∨ i < m ∨ 0 < c
    · have hiM' : i ≤ M := by omega
      have hcar : Hid ((nth A i + nth B i + c) / 10 = 0 ∨ i + 1 ≤ M) := by
        unfold Hid
        by_cases him : i = M
        · left
          have za : nth A i = 0 := by simp [nth, List.getD, List.getElem?_eq_none (by have := HA.out.len; omega : A.length ≤ i)]
          have zb : nth B i = 0 := by simp [nth, List.getD, List.getElem?_eq_none (by have := HB.out.len; omega : B.length ≤ i)]
          omega
        · right; omega
      have HV2 : Hid (dval (L ++ [(nth A i + nth B i + c) % 10]) + 10 ^ (i + 1) * ((nth A i + nth B i + c) / 10) = dval (A.take (i + 1)) + dval (B.take (i + 1))) := by
        unfold Hid
        have hL' := HL.out
        rw [dval_concat, dval_take, dval_take, hL', Nat.pow_succ]
        have := plus_step (nth A i) (nth B i) c (dval L) (dval (A.take i) + dval (B.take i)) (10 ^ i) HV.out
        simp only [nth] at this ⊢
        omega
      by_cases g1 : i < n
      all_goals by_cases g2 : i < m
      all_goals by_cases g3 : 0 < c
      all_goals try omega
      all_goals clear hgo hci
      all_goals (go_wp2_with fail; refine (digit_any p n cap A i (by omega) _ (HA.out.below hb)).mono ?_; rintro e w1 ⟨rfl, rfl⟩)
      all_goals (go_wp2_with fail; refine (digit_any q m cap2 B i (by omega) _ (HB.out.below hb)).mono ?_; rintro e w1 ⟨rfl, rfl⟩)
      all_goals go_wp2_with (at_builtin; refine wpList_append_own _ rfl (.tmp 34) (.tmp 37) _ rfl w.heap.size 5 i0 (.int .u8 0) 1 1 Tryz.underlying147 hi hz0 hz1 hz2 rfl (by decide) _ i (L.map U8) rfl (hown.alloc _) ⟨wr.heap.size, 0, none⟩ 1 1 [U8 ((nth A i + nth B i + c) % 10)] rfl rfl (news1 wr (U8 ((nth A i + nth B i + c) % 10)) _) (one1 _) (by unfold maxLen; omega) (by omega) (by simp; omega) ?_; intro v' w1 hown1 hgrow1 _)
      all_goals
        go_roundw
        case rel => exact ⟨i + 1, (nth A i + nth B i + c) / 10, L ++ [(nth A i + nth B i + c) % 10], by simp [HL.out], by omega, by omega, hcar.out, by go_num, by go_num, by simpa using hown1, fun d hd => by rcases List.mem_append.1 hd with h | h; exact HD.out d h; simp at h; omega, (hb.alloc hsz _).grown hgrow1 (by simp; omega) (fun k hk => (hown.lt k hk).1), HV2.out⟩
        case measure => simp [intOf]; omega
    · have hc0 : c = 0 := by omega
      subst hc0
      obtain ⟨p', cap', rfl, hr, hfr⟩ := own_cells (L := L) hown HD.out
      have HF := Lib.hid hfr
      clear hfr
      have e : dval L = dval A + dval B := by
        have := HV.out
        rw [List.take_of_length_le (by have := HA.out.len; omega), List.take_of_length_le (by have := HB.out.len; omega)] at this
        omega
      have hR := Lib.hid hr
      clear hr hci
      go_wp2_with fail
      refine (cut_any _ _ _ L (by omega) _ hR.out).mono ?_
      rintro e' w1 ⟨n2, rfl, hr2, rfl⟩
      rw [e] at hr2
      have hR2 := Lib.hid hr2
      clear hr2 e
      go_wp2_with fail
      go_ret
      exact RetN.mk hR2.out hb HF.out
end Go.Proofs.YtjklbbmgjjdalaaGreatDoor
namespace Go.Proofs.YtjklbbmgjjdalaaGreatDoor
open Go.RowKit
def ltN (a b : Nat) : Bool := decide (a < b)
theorem ltN_len {a b : Nat} (h : (digs a).length ≠ (digs b).length) : ltN a b = decide ((digs a).length < (digs b).length) := by
  unfold ltN
  rw [Bool.eq_iff_iff]
  simp only [decide_eq_true_eq]
  constructor
  · intro hab
    rcases Nat.lt_or_ge (digs a).length (digs b).length with h1 | h1
    · exact h1
    · have := digs_len_lt (a := b) (b := a) (by omega)
      omega
  · exact digs_len_lt
theorem ltN_at {a b k x y : Nat} (hl : (digs a).length = (digs b).length) (hd : (digs a).drop (k + 1) = (digs b).drop (k + 1)) (hx : nth (digs a) k = x) (hy : nth (digs b) k = y) (hne : x ≠ y) : ltN a b = decide (x < y) := by
  unfold ltN
  rw [Bool.eq_iff_iff]
  simp only [decide_eq_true_eq]
  have e1 := dval_digs a
  have e2 := dval_digs b
  constructor
  · intro hab
    rcases Nat.lt_or_ge x y with h1 | h1
    · exact h1
    · have := dval_less (digs b) (digs a) k (digs_lt b) (digs_lt a) hl.symm hd.symm (by simp only [nth] at hx hy; omega)
      omega
  · intro h
    have := dval_less (digs a) (digs b) k (digs_lt a) (digs_lt b) hl hd (by simp only [nth] at hx hy; omega)
    omega
theorem drop_step {A B : List Nat} {k : Nat} (hl : A.length = B.length) (hk : k < A.length) (hd : A.drop (k + 1) = B.drop (k + 1)) (h : nth A k = nth B k) : A.drop k = B.drop k := by
  rw [List.drop_eq_getElem_cons hk, List.drop_eq_getElem_cons (by omega : k < B.length), hd]
  congr 1
  simpa [nth, List.getD, List.getElem?_eq_getElem hk, List.getElem?_eq_getElem (by omega : k < B.length)] using h
set_option maxRecDepth 100000 in
set_option maxHeartbeats 2000000 in
theorem less_any (p : Option Addr) (n cap : Nat) (a : Nat) (q : Option Addr) (m cap2 : Nat) (b : Nat) (hn : n ≤ 1000) (hm : m ≤ 1000) (w : World) (hA : RdN w p n cap (digs a)) (hB : RdN w q m cap2 (digs b)) :
    Calls Tryz.prog 104 #[.slice p n cap, .slice q m cap2] w fun e w' => e = .returned (.bool (ltN a b)) ∧ Below w.heap.size w w' := by
  obtain ⟨a1, a2, a3, a4, a5⟩ := hA
  obtain ⟨b1, b2, b3, b4, b5⟩ := hB
  have hA1 := Lib.hid a1
  have hB1 := Lib.hid b1
  clear a1 a4 b1 b4
  unfold maxLen at a3 b3
  by_cases hnm : n = m
  · subst hnm
    by_cases hn0 : n = 0
    · subst hn0
      have e : ltN a b = false := by
        have x1 : a = 0 := digs_nil.1 (List.eq_nil_of_length_eq_zero hA1.out)
        have x2 : b = 0 := digs_nil.1 (List.eq_nil_of_length_eq_zero hB1.out)
        subst x1 x2
        rfl
      have E := Lib.hid e
      clear e a5 b5
      go_enter Tryz.func104, Tryz.ntmps104
      go_wp2
      go_loop [5] (fun v5 => v5 = .int .i64 (-1)) (fun _ => 0)
      case atStart => rfl
      case round =>
        subst hrel
        go_wp2
        go_ret
        exact ⟨by rw [E.out]; rfl, Below.refl _ _⟩
    · rcases a5 with ⟨_, a5, _⟩ | ⟨ba, oa, rfl, ha, hca⟩
      · omega
      · rcases b5 with ⟨_, b5, _⟩ | ⟨bb, ob, rfl, hb, hcb⟩
        · omega
        · have HCA := Lib.hid hca
          have HCB := Lib.hid hcb
          clear hca hcb
          go_enter Tryz.func104, Tryz.ntmps104
          go_wp2
          go_loopw [5] (fun v5 wr => ∃ k : Nat, k ≤ n ∧ v5 = .int .i64 ((k : Int) - 1) ∧ (digs a).drop k = (digs b).drop k ∧ Below w.heap.size w wr) (fun v5 _ => (intOf v5 + 1).toNat)
          case atStart => exact ⟨n, Nat.le_refl _, rfl, by rw [List.drop_of_length_le (by have := hA1.out; omega), List.drop_of_length_le (by have := hB1.out; omega)], Below.refl _ _⟩
          case round =>
            obtain ⟨k, hk, rfl, hd, hbel⟩ := hrel
            have HD := Lib.hid hd
            clear hd
            by_cases hk0 : k = 0
            · subst hk0
              have e : ltN a b = false := by
                have h1 := congrArg dval HD.out
                simp only [List.drop_zero, dval_digs] at h1
                subst h1
                simp [ltN]
              have E := Lib.hid e
              clear e
              go_wp2
              go_ret
              exact ⟨by rw [E.out]; rfl, hbel⟩
            · obtain ⟨j, rfl⟩ : ∃ j, k = j + 1 := ⟨k - 1, by omega⟩
              have hj1 : ((j + 1 : Nat) : Int) - 1 = (j : Int) := by omega
              rw [hj1]
              clear hj1 hk0
              have hj : (j : Int) < (n : Int) := by omega
              have hj0 : (0 : Int) ≤ (j : Int) := by omega
              obtain ⟨x, hx⟩ : ∃ x, nth (digs a) j = x := ⟨_, rfl⟩
              obtain ⟨y, hy⟩ : ∃ y, nth (digs b) j = y := ⟨_, rfl⟩
              have c1 : wr.cell? ⟨ba, oa + j, none⟩ = some (.int .u8 (x : Int)) := by rw [hbel.cell (by exact ha), HCA.out j (by omega), hx]
              have c2 : wr.cell? ⟨bb, ob + j, none⟩ = some (.int .u8 (y : Int)) := by rw [hbel.cell (by exact hb), HCB.out j (by omega), hy]
              have HX := Lib.hid hx
              have HY := Lib.hid hy
              clear hx hy
              by_cases hxy : x = y
              · have t1 : (((x : Nat) : Int) != (y : Int)) = false := by simp [hxy]
                have HXY := Lib.hid hxy
                clear hxy
                go_wp2
                go_quiet (fail)
                go_wp2
                go_roundw
                case rel => exact ⟨j, by omega, rfl, drop_step (by rw [hA1.out, hB1.out]) (by rw [hA1.out]; omega) HD.out (by rw [HX.out, HY.out, HXY.out]), bel_drewN hbel _⟩
                case measure => simp [intOf]
              · have t1 : (((x : Nat) : Int) != (y : Int)) = true := by rw [bne_iff_ne]; omega
                have E : Hid (ltN a b = decide (x < y)) := ltN_at (by rw [hA1.out, hB1.out]) HD.out HX.out HY.out hxy
                clear hxy
                go_wp2
                go_quiet (fail)
                go_wp2
                go_quiet (fail)
                go_wp2
                go_ret
                refine ⟨?_, bel_drewN (bel_drewN hbel _) _⟩
                rw [E.out]
                simp
  · have t1 : (((n : Nat) : Int) != (m : Int)) = true := by rw [bne_iff_ne]; omega
    have E : Hid (ltN a b = decide (n < m)) := by
      unfold Hid
      rw [ltN_len (by rw [hA1.out, hB1.out]; exact hnm), hA1.out, hB1.out]
    clear a5 b5 hnm
    go_enter Tryz.func104, Tryz.ntmps104
    go_wp2
    go_ret
    refine ⟨?_, Below.refl _ _⟩
    rw [E.out]
    simp
end Go.Proofs.YtjklbbmgjjdalaaGreatDoor
namespace Go.Proofs.YtjklbbmgjjdalaaGreatDoor
open Go.RowKit
theorem take_le (L : List Nat) (i : Nat) : dval (L.take i) + 10 ^ i * dval (L.drop i) = dval L ∨ L.length < i := by
  rcases Nat.lt_or_ge L.length i with h | h
  · exact .inr h
  · left
    have := dval_append (L.take i) (L.drop i)
    rw [List.take_append_drop] at this
    rw [this]
    simp [Nat.min_eq_left h]
end Go.Proofs.YtjklbbmgjjdalaaGreatDoor
namespace Go.Proofs.YtjklbbmgjjdalaaGreatDoor
open Go.RowKit
def RetN2 (x y : Nat) (W : World) (e : Ending) (w' : World) : Prop := ∃ p n cap p2 n2 cap2, e = .returned (.tuple #[.slice p n cap, .slice p2 n2 cap2]) ∧ RdN w' p n cap (digs x) ∧ RdN w' p2 n2 cap2 (digs y) ∧ Below W.heap.size W w' ∧ (∀ x, p = some x → W.heap.size ≤ x.block) ∧ (∀ x, p2 = some x → W.heap.size ≤ x.block)
theorem RetN2.mk {x y : Nat} {W w' : World} {p : Option Addr} {n cap : Nat} {p2 : Option Addr} {n2 cap2 : Nat} (h1 : RdN w' p n cap (digs x)) (h2 : RdN w' p2 n2 cap2 (digs y)) (hb : Below W.heap.size W w') (hf : ∀ x, p = some x → W.heap.size ≤ x.block) (hf2 : ∀ x, p2 = some x → W.heap.size ≤ x.block) :
    RetN2 x y W (.returned (.tuple #[.slice p n cap, .slice p2 n2 cap2])) w' := ⟨p, n, cap, p2, n2, cap2, rfl, h1, h2, hb, hf, hf2⟩
theorem own_new (w : World) (d : Nat) (e : TypeId) : (w.alloc (.cells #[U8 d] e)).ownsRow w.heap.size e 1 (.slice (some ⟨w.heap.size, 0, none⟩) 1 1) 1 ([d].map U8) :=
  ⟨by simp, .inr ⟨w.heap.size, 1, #[U8 d], rfl, Nat.le_refl _, heap_alloc_new w _, Nat.le_refl _, by unfold maxLen; omega, rfl, by simp⟩⟩
end Go.Proofs.YtjklbbmgjjdalaaGreatDoor
