/- Contract of quadrilleref01.Times. -/
import Derived.Test.YtilajcibjlcffaaGreatDoorRefC
set_option linter.unusedSimpArgs false
set_option linter.unusedVariables false

namespace Go.Proofs.YtilajcibjlcffaaGreatDoor
open Go.RowKit

theorem take_le (L : List Nat) (i : Nat) : dval (L.take i) + 10 ^ i * dval (L.drop i) = dval L ∨ L.length < i := by
  rcases Nat.lt_or_ge L.length i with h | h
  · exact .inr h
  · left
    have := dval_append (L.take i) (L.drop i)
    rw [List.take_append_drop] at this
    rw [this]
    simp [Nat.min_eq_left h]

/-- What has been taken of a product, and the digits of it. -/
theorem part_le {b i k : Nat} (hi : i < (digs b).length) (hk : k ≤ nth (digs b) i) : dval ((digs b).take i) + 10 ^ i * k ≤ b := by
  have h1 := take_le (digs b) (i + 1)
  have h2 := dval_take (digs b) i
  rw [dval_digs] at h1
  have h3 : 10 ^ i * k ≤ 10 ^ i * (digs b).getD i 0 := Nat.mul_le_mul_left _ hk
  rcases h1 with h1 | h1
  · have : 0 ≤ 10 ^ (i + 1) * dval ((digs b).drop (i + 1)) := Nat.zero_le _
    omega
  · omega
theorem take_lt {b i : Nat} : dval ((digs b).take i) ≤ b := by
  rcases take_le (digs b) i with h | h
  · rw [dval_digs] at h
    have : 0 ≤ 10 ^ i * dval ((digs b).drop i) := Nat.zero_le _
    omega
  · rw [List.take_of_length_le (by omega), dval_digs]
    exact Nat.le_refl _
theorem mul_len {a b n m x : Nat} (ha : (digs a).length = n) (hb : (digs b).length = m) (hx : x ≤ a * b) : (digs x).length ≤ n + m := by
  refine digs_length_le (Nat.lt_of_le_of_lt hx ?_)
  have h1 := dval_lt (digs a) (digs_lt a)
  have h2 := dval_lt (digs b) (digs_lt b)
  rw [dval_digs, ha] at h1
  rw [dval_digs, hb] at h2
  rw [Nat.pow_add]
  have h3 : 0 < 10 ^ m := Nat.pow_pos (by omega)
  calc a * b ≤ a * 10 ^ m := Nat.mul_le_mul_left _ (Nat.le_of_lt h2)
    _ < 10 ^ n * 10 ^ m := Nat.mul_lt_mul_of_pos_right h1 h3

set_option maxRecDepth 100000 in
set_option maxHeartbeats 1000000 in
theorem times_any (p : Option Addr) (n cap : Nat) (a : Nat) (q : Option Addr) (m cap2 : Nat) (b : Nat) (hn : n ≤ 200) (hm : m ≤ 200) (w : World) (hA : RdN w p n cap (digs a)) (hB : RdN w q m cap2 (digs b)) :
    Calls Tryz.prog 86 #[.slice p n cap, .slice q m cap2] w (RetN (digs (a * b)) w) := by
  obtain ⟨i0, hi, hz0, hz1, hz2⟩ := info_parts info_u8
  have HA := Lib.hid hA
  have HB := Lib.hid hB
  have hcA := hA.max
  have hcB := hB.max
  have hlA := hA.le
  have hlB := hB.le
  unfold maxLen at hcA hcB
  obtain ⟨b1, b2, b3, b4, b5⟩ := hB
  clear hA b1 b2 b3 b4
  by_cases hm0 : m = 0
  · subst hm0
    have x2 : b = 0 := digs_nil.1 (List.eq_nil_of_length_eq_zero HB.out.len)
    subst x2
    clear b5
    rw [Nat.mul_zero]
    have hnil := Lib.hid (RdN.nil w)
    go_enter Tryz.func86, Tryz.ntmps86
    go_wp2
    go_loop [5, 6] (fun v5 v6 => v5 = .slice none 0 0 ∧ v6 = .int .i64 0) (fun _ _ => 0)
    case atStart => exact ⟨rfl, rfl⟩
    case round =>
      obtain ⟨rfl, rfl⟩ := hrel
      go_wp2_with fail
      refine (cut_any _ _ _ [] (by omega) _ hnil.out).mono ?_
      rintro e' w1 ⟨n2, rfl, hr2, rfl⟩
      rw [show dval [] = 0 from rfl] at hr2
      have HR2 := Lib.hid hr2
      clear hr2
      go_wp2_with fail
      go_ret
      exact RetN.mk HR2.out (Below.refl _ _) (fun x hx => by cases hx)
  · rcases b5 with ⟨_, b5, _⟩ | ⟨bb, ob, rfl, hb, hcb⟩
    · omega
    · have HCB := Lib.hid hcb
      have hnil := Lib.hid (RdN.nil w)
      clear hcb
      go_enter Tryz.func86, Tryz.ntmps86
      go_wp2
      go_loopw [5, 6] (fun v5 v6 wr => ∃ (i : Nat) (p' : Option Addr) (n' cap' : Nat), i ≤ m ∧ v6 = .int .i64 i ∧ v5 = .slice p' n' cap' ∧ RdN wr p' n' cap' (digs (a * dval ((digs b).take i))) ∧ (∀ x, p' = some x → w.heap.size ≤ x.block) ∧ Below w.heap.size w wr) (fun _ v6 _ => m - (intOf v6).toNat)
      case atStart => exact ⟨0, none, 0, 0, Nat.zero_le _, rfl, rfl, by simpa [dval, digs_zero] using hnil.out, (fun x hx => by cases hx), Below.refl _ _⟩
      case round =>
        obtain ⟨i, p', n', cap', him, rfl, rfl, hR, hF, hbel⟩ := hrel
        have HR := Lib.hid hR
        have HF := Lib.hid hF
        have hn' : n' ≤ 400 := by
          rw [← hR.len]
          exact Nat.le_trans (mul_len (a := a) (b := b) HA.out.len HB.out.len (Nat.mul_le_mul_left _ take_lt)) (by omega)
        clear hR hF
        by_cases hgo : i < m
        · obtain ⟨wo, rfl⟩ : ∃ wo : World, wo = wr := ⟨_, rfl⟩
          go_wp2
          go_loopw [5, 7] (fun v5 v7 wr => ∃ (k : Nat) (p' : Option Addr) (n' cap' : Nat), k ≤ nth (digs b) i ∧ v7 = .int .u8 k ∧ v5 = .slice p' n' cap' ∧ RdN wr p' n' cap' (digs (a * dval ((digs b).take i) + k * (10 ^ i * a))) ∧ (∀ x, p' = some x → w.heap.size ≤ x.block) ∧ Below w.heap.size w wr) (fun _ v7 _ => nth (digs b) i - (intOf v7).toNat)
          case atStart => exact ⟨0, p', n', cap', Nat.zero_le _, rfl, rfl, by simpa using HR.out, HF.out, hbel⟩
          case round =>
            clear HR HF hn'
            obtain ⟨k, p', n', cap', hk, rfl, rfl, hR, hF, hbel2⟩ := hrel
            have HR := Lib.hid hR
            have HF := Lib.hid hF
            have hb10 := nth_lt (digs_lt b) i
            have hval : a * dval ((digs b).take i) + k * (10 ^ i * a) = a * (dval ((digs b).take i) + 10 ^ i * k) := by
              rw [Nat.mul_add, ← Nat.mul_assoc k, Nat.mul_comm k, Nat.mul_comm _ a]
            have hn' : n' ≤ 400 := by
              rw [← hR.len, hval]
              exact Nat.le_trans (mul_len (a := a) (b := b) HA.out.len HB.out.len (Nat.mul_le_mul_left _ (part_le (by rw [HB.out.len]; exact hgo) hk))) (by omega)
            clear hR hF hval
            have hsz := hbel2.size
            obtain ⟨y, hy⟩ : ∃ y, nth (digs b) i = y := ⟨_, rfl⟩
            have c2 : wr.cell? ⟨bb, ob + i, none⟩ = some (.int .u8 (y : Int)) := by rw [hbel2.cell (by exact hb), HCB.out i (by omega), hy]
            have hky : k ≤ y := by omega
            have hy10 : y < 10 := by omega
            have HY := Lib.hid hy
            have HK := Lib.hid hk
            clear hy hk hb10
            by_cases hgo2 : k < y
            · go_wp2_with (first
                | (at_make; refine wpList_make_full _ rfl (.tmp 23) (.tmp 23) _ rfl wr.heap.size 5 i0 (.int .u8 0) 1 Tryz.underlying91 hi hz0 hz1 .i64 .i64 _ _ i rfl rfl rfl rfl (by rw [hz2]; omega) (by unfold maxLen; omega) (Nat.le_refl _) ?_; intro w1 hown0 hgrow1; have hown1 : w1.ownsRow wr.heap.size 5 1 (.slice (some ⟨wr.heap.size, 0, none⟩) i i) i ((List.replicate i 0).map U8) := (by rw [← made_zeros]; exact hown0); clear hown0)
                | (at_builtin; refine wpList_append_dig _ rfl (.tmp 24) (.tmp 25) _ rfl wr.heap.size 5 i0 Tryz.underlying91 hi hz0 hz1 hz2 _ i (List.replicate i 0) rfl hown1 p n cap (digs a) rfl ((HA.out.below hbel2).grown hgrow1 (fun x hx => by simp)) (by omega) hgrow1.size ?_; intro v' w2 hown2 hgrow2))
              obtain ⟨p3, cap3, rfl, hr3, hf3⟩ := own_cells (L := List.replicate i 0 ++ digs a) hown2 (fun d hd => by rcases List.mem_append.1 hd with h | h; have := List.eq_of_mem_replicate h; omega; exact digs_lt a d h)
              have hb12 : Below wr.heap.size wr w2 := ((Below.refl _ _).grown hgrow1 (Nat.le_refl _) (fun k h => by cases h)).grown hgrow2 hgrow1.size (fun k h => (hown1.lt k h).1)
              have HR3 := Lib.hid hr3
              have HF3 := Lib.hid hf3
              clear hr3 hf3 hown1 hown2
              go_wp2_with fail
              refine (plus_any p' n' cap' (digs (a * dval ((digs b).take i) + k * (10 ^ i * a))) p3 (i + n) cap3 (List.replicate i 0 ++ digs a) (by omega) (by omega) _ (HR.out.below hb12) HR3.out).mono ?_
              rintro e' w3 ⟨p4, n4, cap4, rfl, hr4, hb4, hf4⟩
              rw [dval_digs, dval_zeros, dval_digs, show a * dval ((digs b).take i) + k * (10 ^ i * a) + 10 ^ i * a = a * dval ((digs b).take i) + (k + 1) * (10 ^ i * a) from by rw [Nat.succ_mul]; omega] at hr4
              have HR4 := Lib.hid hr4
              have HF4 := Lib.hid hf4
              clear hr4 hf4
              have hs2 := hb12.size
              have hs3 := hb4.size
              go_wp2_with fail
              go_roundw
              case rel => exact ⟨k + 1, p4, n4, cap4, by rw [HY.out]; omega, by go_num, rfl, HR4.out, (fun x hx => by have := HF4.out x hx; omega), bel_call hb4 (bel_call hb12 hbel2 hsz) (by omega)⟩
              case measure => have hyy := HY.out; simp [intOf]; omega
            · have hk' : k = y := by omega
              have e : a * dval ((digs b).take i) + k * (10 ^ i * a) = a * dval ((digs b).take (i + 1)) := by
                rw [dval_take, show (digs b).getD i 0 = y from HY.out, hk', Nat.mul_add, ← Nat.mul_assoc y, Nat.mul_comm y, Nat.mul_comm _ a]
              have HE := Lib.hid e
              clear e hk'
              go_wp2_with fail
              go_roundw
              case rel => exact ⟨i + 1, p', n', cap', by omega, by go_num, rfl, by rw [← HE.out]; exact HR.out, HF.out, hbel2⟩
              case measure => simp [intOf]; omega
        · have e : a * dval ((digs b).take i) = a * b := by
            rw [List.take_of_length_le (by have := HB.out.len; omega), dval_digs]
          rw [e] at HR
          clear e
          go_wp2_with fail
          refine (cut_any p' n' cap' (digs (a * b)) (by omega) _ HR.out).mono ?_
          rintro e' w1 ⟨n2, rfl, hr2, rfl⟩
          rw [dval_digs] at hr2
          have HR2 := Lib.hid hr2
          clear hr2
          go_wp2_with fail
          go_ret
          exact RetN.mk HR2.out hbel HF.out
end Go.Proofs.YtilajcibjlcffaaGreatDoor
