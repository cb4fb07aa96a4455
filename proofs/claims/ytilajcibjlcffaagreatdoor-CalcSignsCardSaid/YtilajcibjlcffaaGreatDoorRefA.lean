/- Contracts of quadrilleref01's digits: Of, digit, Cut, Plus. -/
import Derived.Test.YtilajcibjlcffaaGreatDoorMem
set_option linter.unusedSimpArgs false
set_option linter.unusedVariables false

namespace Go.Proofs.YtilajcibjlcffaaGreatDoor
open Go.RowKit

theorem info_u8 : (Tryz.prog.info? 5).map (fun i => (i.zero, i.size, i.bytes)) = some (some (.int .u8 0), 1, 1) := by kernel_rfl

set_option maxHeartbeats 400000 in
theorem digit_any (p : Option Addr) (n cap : Nat) (L : List Nat) (i : Nat) (hi : i ≤ 100000) (w : World) (h : RdN w p n cap L) :
    Calls Tryz.prog 102 #[.slice p n cap, .int .i64 i] w fun e w' => e = .returned (.int .u8 (nth L i : Int)) ∧ w = w' := by
  obtain ⟨h1, h2, h3, h4, h5⟩ := h
  unfold maxLen at h3
  by_cases hlt : i < n
  · rcases h5 with ⟨_, h5, _⟩ | ⟨b, off, rfl, h6, h7⟩
    · omega
    · go_enter Tryz.func102, Tryz.ntmps102
      go_wp2
      go_ret
      exact ⟨rfl, rfl⟩
  · have hz : Hid (nth L i = 0) := by simp [Hid, nth, List.getD, List.getElem?_eq_none (by omega : L.length ≤ i)]
    clear h5
    go_enter Tryz.func102, Tryz.ntmps102
    go_wp2
    go_ret
    exact ⟨by rw [hz.out]; rfl, rfl⟩

set_option maxRecDepth 100000 in
set_option maxHeartbeats 1000000 in
theorem of_digs (n : Nat) (hn : n ≤ 18446744073709551615) (w : World) :
    Calls Tryz.prog 87 #[.int .u64 n] w (RetN (digs n) w) := by
  obtain ⟨i0, hi, hz0, hz1, hz2⟩ := info_parts info_u8
  have HN := Lib.hid hn
  clear hn
  go_enter Tryz.func87, Tryz.ntmps87
  go_wp2
  go_loopw [0, 3] (fun v0 v3 wr => ∃ (m : Nat) (L : List Nat), m ≤ 18446744073709551615 ∧ v0 = .int .u64 m ∧ wr.ownsRow w.heap.size 5 1 v3 L.length (L.map U8) ∧ Below w.heap.size w wr ∧ L ++ digs m = digs n) (fun v0 _ _ => (intOf v0).toNat)
  case atStart => exact ⟨n, [], HN.out, rfl, World.ownsRow_nil _ _ _ _, Below.refl _ _, by simp⟩
  case round =>
    obtain ⟨m, L, hm, rfl, hown, hb, hL⟩ := hrel
    have HL := Lib.hid hL
    have HM := Lib.hid hm
    clear hL hm
    have hlen : L.length ≤ 20 := by
      have h1 := congrArg List.length HL.out
      have h2 := digs_length_le (n := n) (k := 20) (by have := HN.out; omega)
      simp at h1
      omega
    have hsz := hb.size
    by_cases hm0 : m = 0
    · subst hm0
      go_wp2
      go_ret
      have e : L = digs n := by simpa [digs_zero] using HL.out
      rw [← e]
      exact RetN.of_own hown (by rw [e]; exact digs_lt n) hb
    · have hq : IntKind.u64.wrap ((m : Int) / 10) = (m : Int) / 10 := IntWalk.u64_in _ (by have := HM.out; omega)
      go_wp2_with (at_builtin; refine wpList_append_own _ rfl (.tmp 6) (.tmp 10) _ rfl w.heap.size 5 i0 (.int .u8 0) 1 1 Tryz.underlying91 hi hz0 hz1 hz2 rfl (by decide) _ L.length (L.map U8) rfl (hown.alloc _) ⟨wr.heap.size, 0, none⟩ 1 1 [U8 (m % 10)] rfl rfl ?c1 ?c2 ?c3 ?c4 ?c5 ?_)
      case c1 => exact news1 wr (U8 (m % 10)) _
      case c2 => exact one1 _
      case c3 => unfold maxLen; omega
      case c4 => omega
      case c5 => simp; omega
      intro v' w1 hown1 hgrow1 _
      go_wp2
      go_roundw
      case rel => exact ⟨m / 10, L ++ [m % 10], by have := HM.out; omega, by go_num, by simpa using hown1, (hb.alloc hsz _).grown hgrow1 (by simp; omega) (fun k hk => (hown.lt k hk).1), by rw [← HL.out, digs_pos hm0]; simp⟩
      case measure => simp [intOf]; omega

set_option maxRecDepth 100000 in
set_option maxHeartbeats 1000000 in
/-- Cut: no noughts behind. -/
theorem cut_any (p : Option Addr) (n cap : Nat) (L : List Nat) (hn : n ≤ 100000) (w : World) (h : RdN w p n cap L) :
    Calls Tryz.prog 88 #[.slice p n cap] w (RetC p cap (digs (dval L)) w) := by
  have hR := Lib.hid h
  obtain ⟨h1, h2, h3, h4, h5⟩ := h
  unfold maxLen at h3
  rcases h5 with ⟨rfl, rfl, rfl⟩ | ⟨b, off, rfl, h6, h7⟩
  · have e : L = [] := List.eq_nil_of_length_eq_zero h1
    subst e
    go_enter Tryz.func88, Tryz.ntmps88
    go_wp2
    refine wp_loop_rounds 1 ?_
    rw [rounds_succ]
    go_wp2
    go_ret
    exact ⟨0, rfl, RdN.nil w, rfl⟩
  · have hL := Lib.hid h1
    clear h1
    have h4 := Lib.hid h4
    go_enter Tryz.func88, Tryz.ntmps88
    go_wp2
    go_loop [0] (fun v0 => ∃ k : Nat, k ≤ n ∧ v0 = .slice (some ⟨b, off, none⟩) k cap ∧ ∀ j, k ≤ j → nth L j = 0) (fun v0 => lenOf v0)
    case atStart => exact ⟨n, Nat.le_refl _, rfl, fun j hj => by have := hL.out; simp [nth, List.getD, List.getElem?_eq_none (by omega : L.length ≤ j)]⟩
    case round =>
      obtain ⟨k, hk, rfl, hz⟩ := hrel
      have HZ := Lib.hid hz
      clear hz
      by_cases hk0 : k = 0
      · subst hk0
        go_wp2
        go_ret
        have e := digs_front L 0 h4.out (by omega) HZ.out (.inl rfl)
        rw [← e]
        exact ⟨0, rfl, hR.out.front (Nat.zero_le _), rfl⟩
      · have hc := h7 (k - 1) (by omega)
        have hk1 : (1 : Int) ≤ (k : Int) := by omega
        by_cases hd : nth L (k - 1) = 0
        · have HD := Lib.hid hd
          have hd' : (((nth L (k - 1) : Nat) : Int) == 0) = true := by simp [hd]
          clear hd
          go_wp2
          go_round
          case rel => exact ⟨k - 1, by omega, rfl, fun j hj => by rcases Nat.lt_or_ge j k with h | h; · rw [show j = k - 1 from by omega]; exact HD.out
                                                                  · exact HZ.out j h⟩
          case measure => simp [lenOf]; omega
        · have hd' : (((nth L (k - 1) : Nat) : Int) == 0) = false := by simp; exact hd
          have HD := Lib.hid hd
          clear hd
          go_wp2
          go_ret
          have e := digs_front L k h4.out (by have := hL.out; omega) HZ.out (.inr HD.out)
          rw [← e]
          exact ⟨k, rfl, hR.out.front hk, rfl⟩
theorem of_mill (w : World) : Calls Tryz.prog 87 #[.int .u64 1000000] w (RetN (digs 1000000) w) := of_digs 1000000 (by omega) w
end Go.Proofs.YtilajcibjlcffaaGreatDoor
