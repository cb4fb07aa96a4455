/- Contracts of quadrilleref01's digits: Of, digit, Cut, Plus. Contract of quadrilleref01.Plus. Contracts of quadrilleref01.Less and Minus. Contract of quadrilleref01.Times. Contract of quadrilleref01.Over. -/
import Derived.Test.YtjklbbmgjjdalaaGreatDoorBqA
import Derived.Deep.LoopGhost
set_option linter.unusedSimpArgs false
set_option linter.unusedVariables false
namespace Go.Proofs.YtjklbbmgjjdalaaGreatDoor
open Go.RowKit
theorem info_u8 : (Tryz.prog.info? 5).map (fun i => (i.zero, i.size, i.bytes)) = some (some (.int .u8 0), 1, 1) := by kernel_rfl
set_option maxHeartbeats 400000 in
theorem digit_any (p : Option Addr) (n cap : Nat) (L : List Nat) (i : Nat) (hi : i ≤ 100000) (w : World) (h : RdN w p n cap L) :
    Calls Tryz.prog 106 #[.slice p n cap, .int .i64 i] w fun e w' => e = .returned (.int .u8 (nth L i : Int)) ∧ w = w' := by
  obtain ⟨h1, h2, h3, h4, h5⟩ := h
  unfold maxLen at h3
  by_cases hlt : i < n
  · rcases h5 with ⟨_, h5, _⟩ | ⟨b, off, rfl, h6, h7⟩
    · omega
    · go_enter Tryz.func106, Tryz.ntmps106
      go_wp2
      go_ret
      exact ⟨rfl, rfl⟩
  · have hz : Hid (nth L i = 0) := by simp [Hid, nth, List.getD, List.getElem?_eq_none (by omega : L.length ≤ i)]
    clear h5
    go_enter Tryz.func106, Tryz.ntmps106
    go_wp2
    go_ret
    exact ⟨by rw [hz.out]; rfl, rfl⟩
set_option maxRecDepth 100000 in
set_option maxHeartbeats 1000000 in
theorem of_digs (n : Nat) (hn : n ≤ 18446744073709551615) (w : World) :
    Calls Tryz.prog 78 #[.int .u64 n] w (RetN (digs n) w) := by
  obtain ⟨i0, hi, hz0, hz1, hz2⟩ := info_parts info_u8
  have HN := Lib.hid hn
  clear hn
  go_enter Tryz.func78, Tryz.ntmps78
  go_wp2
  go_loopw [0, 3] (fun v0 v3 wr => ∃ (m : Nat) (L : List Nat), m ≤ 18446744073709551615 ∧ v0 = .int .u64 m ∧ wr.ownsRow w.heap.size 5 1 v3 L.length (L.map U8) ∧ Below w.heap.size w wr ∧ L ++ digs m = digs n) (fun v0 _ _ => (intOf v0).toNat)
  case atStart => exact ⟨n, [], HN.out, rfl, World.ownsRow_nil _ _ _ _, Below.refl _ _, by simp⟩
  case round =>
    obtain ⟨m, L, hm, rfl, hown, hb, hL⟩ := hrel
    have HL := Lib.hid hL
    have HM := Lib.hid hm
    clear hL hm
    have hlen : L.length ≤ 20 := by
      have h1 := congrArg List.length HL.out
      have h2 := digs_length_le (n := n) (k := 20) (by have := HN.out; omega)
      simp at h1
      omega
    have hsz := hb.size
    by_cases hm0 : m = 0
    · subst hm0
      go_wp2
      go_ret
      have e : L = digs n := by simpa [digs_zero] using HL.out
      rw [← e]
      exact RetN.of_own hown (by rw [e]; exact digs_lt n) hb
    · have hq : IntKind.u64.wrap ((m : Int) / 10) = (m : Int) / 10 := IntWalk.u64_in _ (by have := HM.out; omega)
      go_wp2_with (at_builtin; refine wpList_append_own _ rfl (.tmp 6) (.tmp 10) _ rfl w.heap.size 5 i0 (.int .u8 0) 1 1 Tryz.underlying147 hi hz0 hz1 hz2 rfl (by decide) _ L.length (L.map U8) rfl (hown.alloc _) ⟨wr.heap.size, 0, none⟩ 1 1 [U8 (m % 10)] rfl rfl ?c1 ?c2 ?c3 ?c4 ?c5 ?_)
      case c1 => exact news1 wr (U8 (m % 10)) _
      case c2 => exact one1 _
      case c3 => unfold maxLen; omega
      case c4 => omega
      case c5 => simp; omega
      intro v' w1 hown1 hgrow1 _
      go_wp2
      go_roundw
      case rel => exact ⟨m / 10, L ++ [m % 10], by have := HM.out; omega, by go_num, by simpa using hown1, (hb.alloc hsz _).grown hgrow1 (by simp; omega) (fun k hk => (hown.lt k hk).1), by rw [← HL.out, digs_pos hm0]; simp⟩
      case measure => simp [intOf]; omega
set_option maxRecDepth 100000 in
set_option maxHeartbeats 1000000 in
theorem cut_any (p : Option Addr) (n cap : Nat) (L : List Nat) (hn : n ≤ 100000) (w : World) (h : RdN w p n cap L) :
    Calls Tryz.prog 103 #[.slice p n cap] w (RetC p cap (digs (dval L)) w) := by
  have hR := Lib.hid h
  obtain ⟨h1, h2, h3, h4, h5⟩ := h
  unfold maxLen at h3
  rcases h5 with ⟨rfl, rfl, rfl⟩ | ⟨b, off, rfl, h6, h7⟩
  · have e : L = [] := List.eq_nil_of_length_eq_zero h1
    subst e
    go_enter Tryz.func103, Tryz.ntmps103
    go_wp2
    refine wp_loop_rounds 1 ?_
    rw [rounds_succ]
    go_wp2
    go_ret
    exact ⟨0, rfl, RdN.nil w, rfl⟩
  · have hL := Lib.hid h1
    clear h1
    have h4 := Lib.hid h4
    go_enter Tryz.func103, Tryz.ntmps103
    go_wp2
    go_loop [0] (fun v0 => ∃ k : Nat, k ≤ n ∧ v0 = .slice (some ⟨b, off, none⟩) k cap ∧ ∀ j, k ≤ j → nth L j = 0) (fun v0 => lenOf v0)
    case atStart => exact ⟨n, Nat.le_refl _, rfl, fun j hj => by have := hL.out; simp [nth, List.getD, List.getElem?_eq_none (by omega : L.length ≤ j)]⟩
    case round =>
      obtain ⟨k, hk, rfl, hz⟩ := hrel
      have HZ := Lib.hid hz
      clear hz
      by_cases hk0 : k = 0
      · subst hk0
        go_wp2
        go_ret
        have e := digs_front L 0 h4.out (by omega) HZ.out (.inl rfl)
        rw [← e]
        exact ⟨0, rfl, hR.out.front (Nat.zero_le _), rfl⟩
      · have hc := h7 (k - 1) (by omega)
        have hk1 : (1 : Int) ≤ (k : Int) := by omega
        by_cases hd : nth L (k - 1) = 0
        · have HD := Lib.hid hd
          have hd' : (((nth L (k - 1) : Nat) : Int) == 0) = true := by simp [hd]
          clear hd
          go_wp2
          go_round
          case rel => exact ⟨k - 1, by omega, rfl, fun j hj => by rcases Nat.lt_or_ge j k with h | h; · rw [show j = k - 1 from by omega]; exact HD.out
                                                                  · exact HZ.out j h⟩
          case measure => simp [lenOf]; omega
        · have hd' : (((nth L (k - 1) : Nat) : Int) == 0) = false := by simp; exact hd
          have HD := Lib.hid hd
          clear hd
          go_wp2
          go_ret
          have e := digs_front L k h4.out (by have := hL.out; omega) HZ.out (.inr HD.out)
          rw [← e]
          exact ⟨k, rfl, hR.out.front hk, rfl⟩
theorem of_mill (w : World) : Calls Tryz.prog 78 #[.int .u64 1000000] w (RetN (digs 1000000) w) := of_digs 1000000 (by omega) w
end Go.Proofs.YtjklbbmgjjdalaaGreatDoor
namespace Go.Proofs.YtjklbbmgjjdalaaGreatDoor
open Go.RowKit
theorem plus_step (a b c x y p : Nat) (h : x + p * c = y) : x + p * ((a + b + c) % 10) + p * 10 * ((a + b + c) / 10) = y + p * a + p * b := by
  have e : (a + b + c) % 10 + 10 * ((a + b + c) / 10) = a + b + c := by omega
  have e2 : p * ((a + b + c) % 10) + p * 10 * ((a + b + c) / 10) = p * a + p * b + p * c := by
    rw [Nat.mul_assoc, ← Nat.mul_add, e, Nat.mul_add, Nat.mul_add]
  omega
set_option maxRecDepth 100000 in
set_option maxHeartbeats 2000000 in
theorem plus_any (p : Option Addr) (n cap : Nat) (A : List Nat) (q : Option Addr) (m cap2 : Nat) (B : List Nat) (hn : n ≤ 1000) (hm : m ≤ 1000) (w : World) (hA : RdN w p n cap A) (hB : RdN w q m cap2 B) :
    Calls Tryz.prog 102 #[.slice p n cap, .slice q m cap2] w (RetN (digs (dval A + dval B)) w) := by
  obtain ⟨i0, hi, hz0, hz1, hz2⟩ := info_parts info_u8
  have HA := Lib.hid hA
  have HB := Lib.hid hB
  have hcA := hA.max
  have hcB := hB.max
  have hlA := hA.le
  have hlB := hB.le
  unfold maxLen at hcA hcB
  clear hA hB
  obtain ⟨M, hM⟩ : ∃ M, M = Nat.max n m := ⟨_, rfl⟩
  have hM1 : n ≤ M := by rw [hM]; exact Nat.le_max_left _ _
  have hM2 : m ≤ M := by rw [hM]; exact Nat.le_max_right _ _
  have hM3 : M ≤ 1000 := by rw [hM]; exact Nat.max_le.2 ⟨hn, hm⟩
  have hM4 : M ≤ n ∨ M ≤ m := by rw [hM]; rcases Nat.le_total n m with h | h; · right; exact Nat.max_le.2 ⟨h, Nat.le_refl _⟩
                                 · left; exact Nat.max_le.2 ⟨Nat.le_refl _, h⟩
  clear hM
  go_enter Tryz.func102, Tryz.ntmps102
  go_wp2
  go_loopw [5, 6, 7] (fun v5 v6 v7 wr => ∃ (i c : Nat) (L : List Nat), L.length = i ∧ c ≤ 1 ∧ i ≤ M + 1 ∧ (c = 0 ∨ i ≤ M) ∧ v6 = .int .u8 c ∧ v7 = .int .i64 i ∧ wr.ownsRow w.heap.size 5 1 v5 i (L.map U8) ∧ (∀ d ∈ L, d < 10) ∧ Below w.heap.size w wr ∧ dval L + 10 ^ i * c = dval (A.take i) + dval (B.take i)) (fun _ _ v7 _ => M + 1 - (intOf v7).toNat)
  case atStart => exact ⟨0, 0, [], rfl, by omega, by omega, .inl rfl, rfl, rfl, World.ownsRow_nil _ _ _ _, by simp, Below.refl _ _, by simp [dval]⟩
  case round =>
    obtain ⟨i, c, L, hL, hc, hiM, hci, rfl, rfl, hown, hdig, hb, hval⟩ := hrel
    have HL := Lib.hid hL
    have HD := Lib.hid hdig
    have HV := Lib.hid hval
    clear hL hdig hval
    have hsz := hb.size
    have ha10 := nth_lt HA.out.dig i
    have hb10 := nth_lt HB.out.dig i
    by_cases hgo : i < n ∨ i < m ∨ 0 < c
    · have hiM' : i ≤ M := by omega
      have hcar : Hid ((nth A i + nth B i + c) / 10 = 0 ∨ i + 1 ≤ M) := by
        unfold Hid
        by_cases him : i = M
        · left
          have za : nth A i = 0 := by simp [nth, List.getD, List.getElem?_eq_none (by have := HA.out.len; omega : A.length ≤ i)]
          have zb : nth B i = 0 := by simp [nth, List.getD, List.getElem?_eq_none (by have := HB.out.len; omega : B.length ≤ i)]
          omega
        · right; omega
      have HV2 : Hid (dval (L ++ [(nth A i + nth B i + c) % 10]) + 10 ^ (i + 1) * ((nth A i + nth B i + c) / 10) = dval (A.take (i + 1)) + dval (B.take (i + 1))) := by
        unfold Hid
        have hL' := HL.out
        rw [dval_concat, dval_take, dval_take, hL', Nat.pow_succ]
        have := plus_step (nth A i) (nth B i) c (dval L) (dval (A.take i) + dval (B.take i)) (10 ^ i) HV.out
        simp only [nth] at this ⊢
        omega
      by_cases g1 : i < n
      all_goals by_cases g2 : i < m
      all_goals by_cases g3 : 0 < c
      all_goals try omega
      all_goals clear hgo hci
      all_goals (go_wp2_with fail; refine (digit_any p n cap A i (by omega) _ (HA.out.below hb)).mono ?_; rintro e w1 ⟨rfl, rfl⟩)
      all_goals (go_wp2_with fail; refine (digit_any q m cap2 B i (by omega) _ (HB.out.below hb)).mono ?_; rintro e w1 ⟨rfl, rfl⟩)
      all_goals go_wp2_with (at_builtin; refine wpList_append_own _ rfl (.tmp 34) (.tmp 37) _ rfl w.heap.size 5 i0 (.int .u8 0) 1 1 Tryz.underlying147 hi hz0 hz1 hz2 rfl (by decide) _ i (L.map U8) rfl (hown.alloc _) ⟨wr.heap.size, 0, none⟩ 1 1 [U8 ((nth A i + nth B i + c) % 10)] rfl rfl (news1 wr (U8 ((nth A i + nth B i + c) % 10)) _) (one1 _) (by unfold maxLen; omega) (by omega) (by simp; omega) ?_; intro v' w1 hown1 hgrow1 _)
      all_goals
        go_roundw
        case rel => exact ⟨i + 1, (nth A i + nth B i + c) / 10, L ++ [(nth A i + nth B i + c) % 10], by simp [HL.out], by omega, by omega, hcar.out, by go_num, by go_num, by simpa using hown1, fun d hd => by rcases List.mem_append.1 hd with h | h; exact HD.out d h; simp at h; omega, (hb.alloc hsz _).grown hgrow1 (by simp; omega) (fun k hk => (hown.lt k hk).1), HV2.out⟩
        case measure => simp [intOf]; omega
    · have hc0 : c = 0 := by omega
      subst hc0
      obtain ⟨p', cap', rfl, hr, hfr⟩ := own_cells (L := L) hown HD.out
      have HF := Lib.hid hfr
      clear hfr
      have e : dval L = dval A + dval B := by
        have := HV.out
        rw [List.take_of_length_le (by have := HA.out.len; omega), List.take_of_length_le (by have := HB.out.len; omega)] at this
        omega
      have hR := Lib.hid hr
      clear hr hci
      go_wp2_with fail
      refine (cut_any _ _ _ L (by omega) _ hR.out).mono ?_
      rintro e' w1 ⟨n2, rfl, hr2, rfl⟩
      rw [e] at hr2
      have hR2 := Lib.hid hr2
      clear hr2 e
      go_wp2_with fail
      go_ret
      exact RetN.mk hR2.out hb HF.out
end Go.Proofs.YtjklbbmgjjdalaaGreatDoor
namespace Go.Proofs.YtjklbbmgjjdalaaGreatDoor
open Go.RowKit
def ltN (a b : Nat) : Bool := decide (a < b)
theorem ltN_len {a b : Nat} (h : (digs a).length ≠ (digs b).length) : ltN a b = decide ((digs a).length < (digs b).length) := by
  unfold ltN
  rw [Bool.eq_iff_iff]
  simp only [decide_eq_true_eq]
  constructor
  · intro hab
    rcases Nat.lt_or_ge (digs a).length (digs b).length with h1 | h1
    · exact h1
    · have := digs_len_lt (a := b) (b := a) (by omega)
      omega
  · exact digs_len_lt
theorem ltN_at {a b k x y : Nat} (hl : (digs a).length = (digs b).length) (hd : (digs a).drop (k + 1) = (digs b).drop (k + 1)) (hx : nth (digs a) k = x) (hy : nth (digs b) k = y) (hne : x ≠ y) : ltN a b = decide (x < y) := by
  unfold ltN
  rw [Bool.eq_iff_iff]
  simp only [decide_eq_true_eq]
  have e1 := dval_digs a
  have e2 := dval_digs b
  constructor
  · intro hab
    rcases Nat.lt_or_ge x y with h1 | h1
    · exact h1
    · have := dval_less (digs b) (digs a) k (digs_lt b) (digs_lt a) hl.symm hd.symm (by simp only [nth] at hx hy; omega)
      omega
  · intro h
    have := dval_less (digs a) (digs b) k (digs_lt a) (digs_lt b) hl hd (by simp only [nth] at hx hy; omega)
    omega
theorem drop_step {A B : List Nat} {k : Nat} (hl : A.length = B.length) (hk : k < A.length) (hd : A.drop (k + 1) = B.drop (k + 1)) (h : nth A k = nth B k) : A.drop k = B.drop k := by
  rw [List.drop_eq_getElem_cons hk, List.drop_eq_getElem_cons (by omega : k < B.length), hd]
  congr 1
  simpa [nth, List.getD, List.getElem?_eq_getElem hk, List.getElem?_eq_getElem (by omega : k < B.length)] using h
set_option maxRecDepth 100000 in
set_option maxHeartbeats 2000000 in
theorem less_any (p : Option Addr) (n cap : Nat) (a : Nat) (q : Option Addr) (m cap2 : Nat) (b : Nat) (hn : n ≤ 1000) (hm : m ≤ 1000) (w : World) (hA : RdN w p n cap (digs a)) (hB : RdN w q m cap2 (digs b)) :
    Calls Tryz.prog 104 #[.slice p n cap, .slice q m cap2] w fun e w' => e = .returned (.bool (ltN a b)) ∧ Below w.heap.size w w' := by
  obtain ⟨a1, a2, a3, a4, a5⟩ := hA
  obtain ⟨b1, b2, b3, b4, b5⟩ := hB
  have hA1 := Lib.hid a1
  have hB1 := Lib.hid b1
  clear a1 a4 b1 b4
  unfold maxLen at a3 b3
  by_cases hnm : n = m
  · subst hnm
    by_cases hn0 : n = 0
    · subst hn0
      have e : ltN a b = false := by
        have x1 : a = 0 := digs_nil.1 (List.eq_nil_of_length_eq_zero hA1.out)
        have x2 : b = 0 := digs_nil.1 (List.eq_nil_of_length_eq_zero hB1.out)
        subst x1 x2
        rfl
      have E := Lib.hid e
      clear e a5 b5
      go_enter Tryz.func104, Tryz.ntmps104
      go_wp2
      go_loop [5] (fun v5 => v5 = .int .i64 (-1)) (fun _ => 0)
      case atStart => rfl
      case round =>
        subst hrel
        go_wp2
        go_ret
        exact ⟨by rw [E.out]; rfl, Below.refl _ _⟩
    · rcases a5 with ⟨_, a5, _⟩ | ⟨ba, oa, rfl, ha, hca⟩
      · omega
      · rcases b5 with ⟨_, b5, _⟩ | ⟨bb, ob, rfl, hb, hcb⟩
        · omega
        · have HCA := Lib.hid hca
          have HCB := Lib.hid hcb
          clear hca hcb
          go_enter Tryz.func104, Tryz.ntmps104
          go_wp2
          go_loopw [5] (fun v5 wr => ∃ k : Nat, k ≤ n ∧ v5 = .int .i64 ((k : Int) - 1) ∧ (digs a).drop k = (digs b).drop k ∧ Below w.heap.size w wr) (fun v5 _ => (intOf v5 + 1).toNat)
          case atStart => exact ⟨n, Nat.le_refl _, rfl, by rw [List.drop_of_length_le (by have := hA1.out; omega), List.drop_of_length_le (by have := hB1.out; omega)], Below.refl _ _⟩
          case round =>
            obtain ⟨k, hk, rfl, hd, hbel⟩ := hrel
            have HD := Lib.hid hd
            clear hd
            by_cases hk0 : k = 0
            · subst hk0
              have e : ltN a b = false := by
                have h1 := congrArg dval HD.out
                simp only [List.drop_zero, dval_digs] at h1
                subst h1
                simp [ltN]
              have E := Lib.hid e
              clear e
              go_wp2
              go_ret
              exact ⟨by rw [E.out]; rfl, hbel⟩
            · obtain ⟨j, rfl⟩ : ∃ j, k = j + 1 := ⟨k - 1, by omega⟩
              have hj1 : ((j + 1 : Nat) : Int) - 1 = (j : Int) := by omega
              rw [hj1]
              clear hj1 hk0
              have hj : (j : Int) < (n : Int) := by omega
              have hj0 : (0 : Int) ≤ (j : Int) := by omega
              obtain ⟨x, hx⟩ : ∃ x, nth (digs a) j = x := ⟨_, rfl⟩
              obtain ⟨y, hy⟩ : ∃ y, nth (digs b) j = y := ⟨_, rfl⟩
              have c1 : wr.cell? ⟨ba, oa + j, none⟩ = some (.int .u8 (x : Int)) := by rw [hbel.cell (by exact ha), HCA.out j (by omega), hx]
              have c2 : wr.cell? ⟨bb, ob + j, none⟩ = some (.int .u8 (y : Int)) := by rw [hbel.cell (by exact hb), HCB.out j (by omega), hy]
              have HX := Lib.hid hx
              have HY := Lib.hid hy
              clear hx hy
              by_cases hxy : x = y
              · have t1 : (((x : Nat) : Int) != (y : Int)) = false := by simp [hxy]
                have HXY := Lib.hid hxy
                clear hxy
                go_wp2
                go_quiet (fail)
                go_wp2
                go_roundw
                case rel => exact ⟨j, by omega, rfl, drop_step (by rw [hA1.out, hB1.out]) (by rw [hA1.out]; omega) HD.out (by rw [HX.out, HY.out, HXY.out]), bel_drewN hbel _⟩
                case measure => simp [intOf]
              · have t1 : (((x : Nat) : Int) != (y : Int)) = true := by rw [bne_iff_ne]; omega
                have E : Hid (ltN a b = decide (x < y)) := ltN_at (by rw [hA1.out, hB1.out]) HD.out HX.out HY.out hxy
                clear hxy
                go_wp2
                go_quiet (fail)
                go_wp2
                go_quiet (fail)
                go_wp2
                go_ret
                refine ⟨?_, bel_drewN (bel_drewN hbel _) _⟩
                rw [E.out]
                simp
  · have t1 : (((n : Nat) : Int) != (m : Int)) = true := by rw [bne_iff_ne]; omega
    have E : Hid (ltN a b = decide (n < m)) := by
      unfold Hid
      rw [ltN_len (by rw [hA1.out, hB1.out]; exact hnm), hA1.out, hB1.out]
    clear a5 b5 hnm
    go_enter Tryz.func104, Tryz.ntmps104
    go_wp2
    go_ret
    refine ⟨?_, Below.refl _ _⟩
    rw [E.out]
    simp
theorem minus_step {p x y c r c' X Y D : Nat} (h : X + p * c = D + Y) (h2 : x + 10 * c' = r + y + c) : X + p * x + p * 10 * c' = D + p * r + (Y + p * y) := by
  have h3 : p * (x + 10 * c') = p * (r + y + c) := by rw [h2]
  simp only [Nat.mul_add] at h3
  rw [Nat.mul_assoc]
  omega
set_option maxRecDepth 100000 in
set_option maxHeartbeats 2000000 in
theorem minus_any (p : Option Addr) (n cap : Nat) (a : Nat) (q : Option Addr) (m cap2 : Nat) (b : Nat) (hn : n ≤ 1000) (hab : b ≤ a) (w : World) (hA : RdN w p n cap (digs a)) (hB : RdN w q m cap2 (digs b)) :
    Calls Tryz.prog 105 #[.slice p n cap, .slice q m cap2] w (RetN (digs (a - b)) w) := by
  obtain ⟨i0, hi, hz0, hz1, hz2⟩ := info_parts info_u8
  have HA := Lib.hid hA
  have HB := Lib.hid hB
  have hcA := hA.max
  have hcB := hB.max
  have hlA := hA.le
  have hlB := hB.le
  unfold maxLen at hcA hcB
  have hmn : m ≤ n := by
    rw [← hA.len, ← hB.len]
    rcases Nat.lt_or_ge (digs a).length (digs b).length with h | h
    · have := digs_len_lt h
      omega
    · exact h
  clear hA hB
  go_enter Tryz.func105, Tryz.ntmps105
  go_wp2
  go_loopw [5, 6, 7] (fun v5 v6 v7 wr => ∃ (i c : Nat) (L : List Nat), L.length = i ∧ c ≤ 1 ∧ i ≤ n ∧ v6 = .int .u8 c ∧ v7 = .int .i64 i ∧ wr.ownsRow w.heap.size 5 1 v5 i (L.map U8) ∧ (∀ d ∈ L, d < 10) ∧ Below w.heap.size w wr ∧ dval ((digs a).take i) + 10 ^ i * c = dval L + dval ((digs b).take i)) (fun _ _ v7 _ => n - (intOf v7).toNat)
  case atStart => exact ⟨0, 0, [], rfl, by omega, by omega, rfl, rfl, World.ownsRow_nil _ _ _ _, by simp, Below.refl _ _, by simp [dval]⟩
  case round =>
    obtain ⟨i, c, L, hL, hc, hin, rfl, rfl, hown, hdig, hb, hval⟩ := hrel
    have HL := Lib.hid hL
    have HD := Lib.hid hdig
    have HV := Lib.hid hval
    clear hL hdig hval
    have hsz := hb.size
    by_cases hgo : i < n
    · have hx10 := nth_lt (digs_lt a) i
      have hy10 := nth_lt (digs_lt b) i
      obtain ⟨s, hs⟩ : ∃ s : Nat, (10 : Int) + (nth (digs a) i : Int) - (nth (digs b) i : Int) - (c : Int) = s := ⟨10 + nth (digs a) i - nth (digs b) i - c, by omega⟩
      have hs19 : s ≤ 19 := by omega
      have HV2 : Hid (dval ((digs a).take (i + 1)) + 10 ^ (i + 1) * (1 - s / 10) = dval (L ++ [s % 10]) + dval ((digs b).take (i + 1))) := by
        unfold Hid
        have hL' := HL.out
        rw [dval_concat, dval_take, dval_take, hL', Nat.pow_succ]
        exact minus_step HV.out (by show nth (digs a) i + _ = _ + nth (digs b) i + _; omega)
      (go_wp2_with fail; refine (digit_any p n cap (digs a) i (by omega) _ (HA.out.below hb)).mono ?_; rintro e w1 ⟨rfl, rfl⟩)
      (go_wp2_with fail; refine (digit_any q m cap2 (digs b) i (by omega) _ (HB.out.below hb)).mono ?_; rintro e w1 ⟨rfl, rfl⟩)
      go_wp2_with (at_builtin; refine wpList_append_own _ rfl (.tmp 25) (.tmp 28) _ rfl w.heap.size 5 i0 (.int .u8 0) 1 1 Tryz.underlying147 hi hz0 hz1 hz2 rfl (by decide) _ i (L.map U8) rfl (hown.alloc _) ⟨wr.heap.size, 0, none⟩ 1 1 [U8 (s % 10)] rfl rfl (news1 wr (U8 (s % 10)) _) (one1 _) (by unfold maxLen; omega) (by omega) (by simp; omega) ?_; intro v' w1 hown1 hgrow1 _)
      go_roundw
      case rel => exact ⟨i + 1, 1 - s / 10, L ++ [s % 10], by simp [HL.out], by omega, by omega, by congr 1; omega, by go_num, by simpa using hown1, fun d hd => by rcases List.mem_append.1 hd with h | h; exact HD.out d h; simp at h; omega, (hb.alloc hsz _).grown hgrow1 (by simp; omega) (fun k hk => (hown.lt k hk).1), HV2.out⟩
      case measure => simp [intOf]; omega
    · have hin' : i = n := by omega
      subst hin'
      obtain ⟨p', cap', rfl, hr, hfr⟩ := own_cells (L := L) hown HD.out
      have HF := Lib.hid hfr
      clear hfr
      have e : dval L = a - b := by
        have h1 := HV.out
        rw [List.take_of_length_le (by have := HA.out.len; omega), List.take_of_length_le (by have := HB.out.len; omega), dval_digs, dval_digs] at h1
        have h2 := dval_lt L HD.out
        rw [HL.out] at h2
        have hc' : c = 0 ∨ c = 1 := by omega
        rcases hc' with rfl | rfl
        · omega
        · omega
      have hR := Lib.hid hr
      clear hr
      go_wp2_with fail
      refine (cut_any _ _ _ L (by omega) _ hR.out).mono ?_
      rintro e' w1 ⟨n2, rfl, hr2, rfl⟩
      rw [e] at hr2
      have hR2 := Lib.hid hr2
      clear hr2 e
      go_wp2_with fail
      go_ret
      exact RetN.mk hR2.out hb HF.out
end Go.Proofs.YtjklbbmgjjdalaaGreatDoor
namespace Go.Proofs.YtjklbbmgjjdalaaGreatDoor
open Go.RowKit
theorem take_le (L : List Nat) (i : Nat) : dval (L.take i) + 10 ^ i * dval (L.drop i) = dval L ∨ L.length < i := by
  rcases Nat.lt_or_ge L.length i with h | h
  · exact .inr h
  · left
    have := dval_append (L.take i) (L.drop i)
    rw [List.take_append_drop] at this
    rw [this]
    simp [Nat.min_eq_left h]
end Go.Proofs.YtjklbbmgjjdalaaGreatDoor
namespace Go.Proofs.YtjklbbmgjjdalaaGreatDoor
open Go.RowKit
def RetN2 (x y : Nat) (W : World) (e : Ending) (w' : World) : Prop := ∃ p n cap p2 n2 cap2, e = .returned (.tuple #[.slice p n cap, .slice p2 n2 cap2]) ∧ RdN w' p n cap (digs x) ∧ RdN w' p2 n2 cap2 (digs y) ∧ Below W.heap.size W w' ∧ (∀ x, p = some x → W.heap.size ≤ x.block) ∧ (∀ x, p2 = some x → W.heap.size ≤ x.block)
theorem RetN2.mk {x y : Nat} {W w' : World} {p : Option Addr} {n cap : Nat} {p2 : Option Addr} {n2 cap2 : Nat} (h1 : RdN w' p n cap (digs x)) (h2 : RdN w' p2 n2 cap2 (digs y)) (hb : Below W.heap.size W w') (hf : ∀ x, p = some x → W.heap.size ≤ x.block) (hf2 : ∀ x, p2 = some x → W.heap.size ≤ x.block) :
    RetN2 x y W (.returned (.tuple #[.slice p n cap, .slice p2 n2 cap2])) w' := ⟨p, n, cap, p2, n2, cap2, rfl, h1, h2, hb, hf, hf2⟩
theorem own_new (w : World) (d : Nat) (e : TypeId) : (w.alloc (.cells #[U8 d] e)).ownsRow w.heap.size e 1 (.slice (some ⟨w.heap.size, 0, none⟩) 1 1) 1 ([d].map U8) :=
  ⟨by simp, .inr ⟨w.heap.size, 1, #[U8 d], rfl, Nat.le_refl _, heap_alloc_new w _, Nat.le_refl _, by unfold maxLen; omega, rfl, by simp⟩⟩
theorem set_digs {O : List Nat} (h : ∀ d ∈ O, d < 10) (j : Nat) {c : Nat} (hc : c < 10) : ∀ d ∈ O.set j c, d < 10 := by
  intro d hd
  rcases List.mem_or_eq_of_mem_set hd with h1 | rfl
  · exact h d h1
  · exact hc
theorem nth_set_eq {O : List Nat} {j c : Nat} (h : j < O.length) : nth (O.set j c) j = c := by simp [nth, List.getD, h]
theorem nth_set_ne {O : List Nat} {i j c : Nat} (h : j ≠ i) : nth (O.set j c) i = nth O i := by simp [nth, List.getD, List.getElem?_set, h]
theorem set_zero {O : List Nat} {j : Nat} (h : nth O j = 0) : O.set j 0 = O := by
  apply List.ext_getElem
  · simp
  · intro i h1 h2
    by_cases hij : j = i
    · subst hij
      simp only [nth, List.getD, List.getElem?_eq_getElem h2, Option.getD_some] at h
      simp [h]
    · simp [List.getElem_set, hij]
theorem drop_set_lt {O : List Nat} {i j c : Nat} (h : j < i) : (O.set j c).drop i = O.drop i := by
  rw [List.drop_set, if_pos h]
theorem over_step {X O1 B r x c r2 : Nat} (h : X = O1 * B + r) (hx : r2 + c * B = x + 10 * r) : x + 10 * X = (c + 10 * O1) * B + r2 := by
  rw [h, Nat.add_mul, Nat.mul_add, Nat.mul_assoc]
  omega
set_option maxRecDepth 100000 in
set_option maxHeartbeats 2000000 in
theorem over_any (p : Option Addr) (n cap : Nat) (a : Nat) (q : Option Addr) (m cap2 : Nat) (b : Nat) (hn : n ≤ 400) (hm : m ≤ 400) (hb0 : 0 < b) (w : World) (hA : RdN w p n cap (digs a)) (hB : RdN w q m cap2 (digs b)) :
    Calls Tryz.prog 77 #[.slice p n cap, .slice q m cap2] w (RetN2 (a / b) (a % b) w) := by
  obtain ⟨i0, hi, hz0, hz1, hz2⟩ := info_parts info_u8
  have HA := Lib.hid hA
  have HB := Lib.hid hB
  have hcA := hA.max
  have hcB := hB.max
  have hlA := hA.le
  have hlB := hB.le
  unfold maxLen at hcA hcB
  obtain ⟨a1, a2, a3, a4, a5⟩ := hA
  clear hB a1 a2 a3 a4
  obtain ⟨ba, oa, hp, hca⟩ : ∃ ba oa, (n = 0 ∨ p = some ⟨ba, oa, none⟩) ∧ ba < w.heap.size + 1 ∧ ∀ j, j < n → w.cell? ⟨ba, oa + j, none⟩ = some (.int .u8 (nth (digs a) j : Int)) := by
    rcases a5 with ⟨_, h, _⟩ | ⟨ba, oa, h1, h2, h3⟩
    · exact ⟨0, 0, .inl h, by omega, fun j hj => by omega⟩
    · exact ⟨ba, oa, .inr h1, by omega, h3⟩
  have HP := Lib.hid hp
  have HCA := Lib.hid hca
  clear hp hca a5
  go_enter Tryz.func77, Tryz.ntmps77
  go_wp2_with (at_make; refine wpList_make_full _ rfl (.tmp 10) (.tmp 10) _ rfl w.heap.size 5 i0 (.int .u8 0) 1 Tryz.underlying147 hi hz0 hz1 .i64 .i64 _ _ n rfl rfl rfl rfl (by rw [hz2]; omega) (by unfold maxLen; omega) (Nat.le_refl _) ?_; intro w0 hown0 hgrow0)
  have hown1 : w0.ownsRow w.heap.size 5 1 (.slice (some ⟨w.heap.size, 0, none⟩) n n) n ((List.replicate n 0).map U8) := by rw [← made_zeros]; exact hown0
  have hbel0 : Below w.heap.size w w0 := (Below.refl _ _).grown hgrow0 (Nat.le_refl _) (fun k h => by cases h)
  have hsz0 : w.heap.size + 1 ≤ w0.heap.size := by
    have := (hown1.lt w.heap.size rfl).2
    omega
  clear hown0 hgrow0
  go_wp2
  go_loopg [7, 8] n (fun g v7 v8 wr => ∃ (r : Nat) (O : List Nat) (p' : Option Addr) (n' cap' : Nat), g ≤ n ∧ v8 = .int .i64 ((g : Int) - 1) ∧ v7 = .slice p' n' cap' ∧ RdN wr p' n' cap' (digs r) ∧ (∀ x, p' = some x → w.heap.size + 1 ≤ x.block) ∧ wr.ownsRow w.heap.size 5 1 (.slice (some ⟨w.heap.size, 0, none⟩) n n) n (O.map U8) ∧ O.length = n ∧ (∀ d ∈ O, d < 10) ∧ r < b ∧ (∀ j, j < g → nth O j = 0) ∧ dval ((digs a).drop g) = dval (O.drop g) * b + r ∧ Below w.heap.size w wr ∧ w.heap.size + 1 ≤ wr.heap.size)
  case atStart => exact ⟨0, List.replicate n 0, none, 0, 0, Nat.le_refl _, rfl, rfl, by simpa [digs_zero] using RdN.nil w0, (fun x hx => by cases hx), hown1, by simp, (fun d hd => by have := List.eq_of_mem_replicate hd; omega), hb0, (fun j hj => by simp [nth, List.getD, List.getElem?_replicate, hj]), by rw [List.drop_of_length_le (by have := HA.out.len; omega), List.drop_of_length_le (by simp)]; simp [dval], hbel0, hsz0⟩
  case round =>
    obtain ⟨r, O, p', n', cap', hg, rfl, rfl, hR, hF, hown, hO, hOd, hrb, hOz, hval, hbel, hsz⟩ := hrel
    clear hown1 hbel0 hsz0
    have hn' : n' ≤ m := by
      rw [← hR.len, ← HB.out.len]
      rcases Nat.lt_or_ge (digs b).length (digs r).length with h | h
      · have := digs_len_lt h
        omega
      · exact h
    have HR := Lib.hid hR
    have HF := Lib.hid hF
    have HO := Lib.hid hO
    have HOd := Lib.hid hOd
    have HOz := Lib.hid hOz
    have HV := Lib.hid hval
    have HRB := Lib.hid hrb
    clear hR hF hO hOd hOz hval hrb
    by_cases hk0 : gk = 0
    · subst hk0
      have e : a = dval O * b + r := by
        have := HV.out
        simpa [dval_digs] using this
      obtain ⟨p3, cap3, hv3, hr3, hf3⟩ := own_cells hown HOd.out
      obtain ⟨rfl, rfl⟩ : p3 = some ⟨w.heap.size, 0, none⟩ ∧ cap3 = n := by
        simp only [Value.slice.injEq] at hv3
        exact ⟨hv3.1.symm, hv3.2.2.symm⟩
      have HR3 := Lib.hid hr3
      have e1 : a / b = dval O := by rw [e, Nat.add_comm, Nat.mul_comm, Nat.add_mul_div_left _ _ hb0, Nat.div_eq_of_lt HRB.out]; omega
      have e2 : a % b = r := by rw [e, Nat.add_comm, Nat.mul_comm, Nat.add_mul_mod_self_left, Nat.mod_eq_of_lt HRB.out]
      have E1 := Lib.hid e1
      have E2 := Lib.hid e2
      clear hr3 hf3 hv3 e e1 e2
      go_wp2_with fail
      refine (cut_any _ _ _ O (by omega) _ HR3.out).mono ?_
      rintro e' w1 ⟨n2, rfl, hr2, rfl⟩
      have HR2 := Lib.hid hr2
      clear hr2
      go_wp2_with fail
      go_ret2
      exact RetN2.mk (by rw [E1.out]; exact HR2.out) (by rw [E2.out]; exact HR.out) hbel (fun x hx => by cases hx; exact Nat.le_refl _) (fun x hx => by have := HF.out x hx; omega)
    · obtain ⟨j, rfl⟩ : ∃ j, gk = j + 1 := ⟨gk - 1, by omega⟩
      have hj1 : ((j + 1 : Nat) : Int) - 1 = (j : Int) := by omega
      rw [hj1]
      clear hj1 hk0
      obtain rfl : p = some ⟨ba, oa, none⟩ := by
        rcases HP.out with h | h
        · omega
        · exact h
      obtain ⟨x, hx⟩ : ∃ x, nth (digs a) j = x := ⟨_, rfl⟩
      have hx10 : x < 10 := by rw [← hx]; exact nth_lt (digs_lt a) j
      have c1 : wr.cell? ⟨ba, oa + j, none⟩ = some (.int .u8 (x : Int)) := by
        rcases HA.out.2.2.2.2 with ⟨h, _⟩ | ⟨ba', oa', h1, h2, h3⟩
        · cases h
        · rw [hbel.cell (by cases h1; exact h2), HCA.out.2 j (by omega), hx]
      have HX := Lib.hid hx
      clear hx
      have hsz' := hsz
      go_wp2_with (at_builtin; refine wpList_append_dig _ rfl (.tmp 23) (.tmp 24) _ rfl wr.heap.size 5 i0 Tryz.underlying147 hi hz0 hz1 hz2 _ 1 [x] rfl (own_new wr x _) p' n' cap' (digs r) rfl (HR.out.alloc _) (by omega) (by simp) ?_; intro v' w2 hown2 hgrow2)
      obtain ⟨p3, cap3, rfl, hr3, hf3⟩ := own_cells (L := [x] ++ digs r) hown2 (fun d hd => by rcases List.mem_append.1 hd with h | h; simp at h; omega; exact digs_lt r d h)
      have hb2 : Below wr.heap.size wr w2 := ((Below.refl _ _).alloc (Nat.le_refl _) _).grown hgrow2 (by simp) (fun k h => by cases h; exact Nat.le_refl _)
      have HR3 := Lib.hid hr3
      have HF3 := Lib.hid hf3
      have hs2 := hb2.size
      clear hr3 hf3 hown2 hgrow2
      refine (cut_any _ _ _ ([x] ++ digs r) (by omega) _ HR3.out).mono ?_
      rintro e' w3 ⟨n4, rfl, hr4, rfl⟩
      rw [show dval ([x] ++ digs r) = x + 10 * r from by simp [dval, dval_digs]] at hr4
      have HR4 := Lib.hid hr4
      have hown2 := own_below hown hb2
      have hbel2 := bel_call hb2 hbel (by omega)
      have hn4 : n4 ≤ m + 1 := by
        rw [← hr4.len]
        refine Nat.le_trans (digs_length_le (k := m + 1) ?_) (Nat.le_refl _)
        have h1 := dval_lt (digs b) (digs_lt b)
        rw [dval_digs, HB.out.len] at h1
        have h2 := HRB.out
        rw [Nat.pow_succ]
        omega
      clear hr4 hown hbel hsz hn' hb2
      obtain ⟨wo, rfl⟩ : ∃ wo : World, wo = w2 := ⟨_, rfl⟩
      go_wp2
      go_loopg [7] 10 (fun g v7 wx => ∃ (c r2 : Nat) (p' : Option Addr) (n' cap' : Nat), c + g = 10 ∧ v7 = .slice p' n' cap' ∧ r2 + c * b = x + 10 * r ∧ n' ≤ m + 1 ∧ RdN wx p' n' cap' (digs r2) ∧ (∀ x, p' = some x → w.heap.size + 1 ≤ x.block) ∧ wx.ownsRow w.heap.size 5 1 (.slice (some ⟨w.heap.size, 0, none⟩) n n) n ((O.set j c).map U8) ∧ Below w.heap.size w wx ∧ w.heap.size + 1 ≤ wx.heap.size)
      case atStart => exact ⟨0, x + 10 * r, p3, n4, cap3, by omega, rfl, by omega, hn4, HR4.out, (fun x hx => by have := HF3.out x hx; omega), by rw [set_zero (HOz.out j (by omega))]; exact hown2, hbel2, by omega⟩
      case round =>
        clear HR4 hn4 hown2 hbel2 HR3 HF3
        obtain ⟨c, r2, p', n', cap', hcg, rfl, hx2, hn', hR, hF, hown, hbel, hsz⟩ := hrel
        have HR := Lib.hid hR
        have HF := Lib.hid hF
        have HX2 := Lib.hid hx2
        clear hR hF hx2
        have hbb := HB.out.below (w' := wr) ⟨hbel.os, hbel.tape, hbel.output, hbel.size, hbel.block⟩
        go_wp2_with fail
        refine (less_any p' n' cap' r2 q m cap2 b (by omega) (by omega) _ HR.out hbb).mono ?_
        rintro e' w4 ⟨rfl, hb4⟩
        have hs4 := hb4.size
        have hown4 := own_below hown hb4
        have HR4 := Lib.hid (HR.out.below hb4)
        have HB4 := Lib.hid (hbb.below hb4)
        have hbel4 := bel_call hb4 hbel (by omega)
        clear hown hbel
        have hcb : c * b + r2 < 10 * b := by
          have h1 := HX2.out
          have h2 := HRB.out
          omega
        by_cases hlt : r2 < b
        · have hl : ltN r2 b = true := by simp [ltN, hlt]
          have hc9 : c < 10 := Nat.lt_of_mul_lt_mul_right (a := b) (by omega)
          have HLT := Lib.hid hlt
          have HCB := Lib.hid hcb
          have HV2 : Hid (dval ((digs a).drop j) = dval ((O.set j c).drop j) * b + r2) := by
            unfold Hid
            rw [dval_drop (digs a) j (by rw [HA.out.len]; omega), dval_drop (O.set j c) j (by simp [HO.out]; omega), drop_set_lt (Nat.lt_succ_self j), show (O.set j c).getD j 0 = c from nth_set_eq (by rw [HO.out]; omega), show (digs a).getD j 0 = x from HX.out]
            exact over_step HV.out HX2.out
          clear hlt hcb
          go_wp2_with fail
          go_roundg j
          case measure => omega
          case rel => exact ⟨r2, O.set j c, p', n', cap', by omega, by go_num, rfl, HR4.out, HF.out, hown4, by simp [HO.out], set_digs HOd.out j hc9, HLT.out, (fun i hi => by rw [nth_set_ne (by omega)]; exact HOz.out i (by omega)), HV2.out, hbel4, by omega⟩
        · have hl : ltN r2 b = false := by simp [ltN]; omega
          have hbr : b ≤ r2 := by omega
          have hc9 : c + 1 < 10 := Nat.lt_of_mul_lt_mul_right (a := b) (by rw [Nat.add_mul]; omega)
          have HX3 : Hid (r2 - b + (c + 1) * b = x + 10 * r) := by
            unfold Hid
            have := HX2.out
            rw [Nat.add_mul]
            omega
          have HBR := Lib.hid hbr
          clear hlt hcb hbr
          go_wp2_with fail
          refine (minus_any p' n' cap' r2 q m cap2 b (by omega) HBR.out _ HR4.out HB4.out).mono ?_
          rintro e' w5 ⟨p6, n6, cap6, rfl, hr6, hb6, hf6⟩
          have hn6 : n6 ≤ m + 1 := by
            rw [← hr6.len]
            refine digs_length_le ?_
            have h1 := dval_lt (digs r2) (digs_lt r2)
            rw [dval_digs, HR4.out.len] at h1
            have h2 : 10 ^ n' ≤ 10 ^ (m + 1) := Nat.pow_le_pow_right (by omega) hn'
            omega
          have hs6 := hb6.size
          have hown6 := own_below hown4 hb6
          have c6 : w5.cell? ⟨w.heap.size, j, none⟩ = some (.int .u8 (c : Int)) := by
            rw [hown6.cellAt j (by omega), nth_cell (by simp [HO.out]; omega), nth_set_eq (by rw [HO.out]; omega)]
          have f6 : w5.frozen? ⟨w.heap.size, j, none⟩ = false := hown6.frozenAt j
          have HR6 := Lib.hid hr6
          have HF6 := Lib.hid hf6
          have hbel6 := bel_call hb6 hbel4 (by omega)
          have hst := (hown6.stored j (U8 (c + 1))).1
          have hset : ((O.set j c).map U8).set j (U8 (c + 1)) = (O.set j (c + 1)).map U8 := by rw [← List.map_set, List.set_set]
          rw [hset] at hst
          clear hr6 hf6 hset hown4 hown6
          have hjn : (j : Int) < (n : Int) := by omega
          have hj0 : (0 : Int) ≤ (j : Int) := by omega
          go_wp2
          go_roundg (gk - 1)
          case measure => omega
          case rel => exact ⟨c + 1, r2 - b, p6, n6, cap6, by omega, rfl, HX3.out, hn6, HR6.out.stored _ _ (fun x hx => by have := HF6.out x hx; simp; omega), (fun x hx => by have := HF6.out x hx; omega), hst, hbel6.setCell (Nat.le_refl _) _, by simp; omega⟩
end Go.Proofs.YtjklbbmgjjdalaaGreatDoor
