/- The walk of the law NetCounts. -/
import Derived.Test.YtoeenaionamhiaaNetI
import Derived.Test.YtoeenaionamhiaaNetO
set_option linter.unusedSimpArgs false
set_option linter.unusedVariables false
namespace Go.Proofs.Ytoeenaionamhiaa
open Go.RowKit

theorem ActAt.below {w w' : World} {b o : Nat} (h : ActAt w b o) (hb : Below w.heap.size w w') (hbl : b < w.heap.size) : ∃ (kd f t : Int) (A : Option Addr) (n c : Nat) (L : List UInt8) (ii aa : Int) (bt : UInt8),
  w'.cell? ⟨b, o, none⟩ = some (.int .i64 kd) ∧ w'.cell? ⟨b, o + 1, none⟩ = some (.int .i64 f) ∧ w'.cell? ⟨b, o + 2, none⟩ = some (.int .i64 t) ∧ w'.cell? ⟨b, o + 3, none⟩ = some (.slice A n c) ∧
  w'.cell? ⟨b, o + 4, none⟩ = some (.int .i64 ii) ∧ w'.cell? ⟨b, o + 5, none⟩ = some (.int .i64 aa) ∧ w'.cell? ⟨b, o + 6, none⟩ = some (.int .u8 (bt.toNat : Int)) ∧
  RdB w.heap.size w A n c L ∧ -9223372036854775808 ≤ ii ∧ ii ≤ 9223372036854775807 ∧ -9223372036854775808 ≤ aa ∧ aa ≤ 9223372036854775807 := by
  obtain ⟨kd, f, t, A, n, c, L, ii, aa, bt, h0, h1, h2, h3, h4, h5, h6, r⟩ := h
  have e : ∀ k, w'.cell? ⟨b, k, none⟩ = w.cell? ⟨b, k, none⟩ := fun k => hb.cell (p := ⟨b, k, none⟩) hbl
  exact ⟨kd, f, t, A, n, c, L, ii, aa, bt, (e _).trans h0, (e _).trans h1, (e _).trans h2, (e _).trans h3, (e _).trans h4, (e _).trans h5, (e _).trans h6, r⟩

theorem to_any (f t : Int) (A : Option Addr) (n c : Nat) (w : World) : Calls Try.prog 12 #[.agg #[.int .i64 f, .int .i64 t, .slice A n c]] w fun e w' => e = .returned (.agg #[.int .i64 f, .int .i64 t, .slice A n c]) ∧ Below w.heap.size w w' := by
  go_enter Try.func12, Try.ntmps12
  go_wp2_with fail
  refine bodyPost_ret (v := .agg #[.int .i64 f, .int .i64 t, .slice A n c]) (by simp [results, Try.results12, go_sem]) rfl ⟨rfl, by (repeat' (first | (with_reducible exact Below.refl _ _) | (with_reducible assumption) | (with_reducible refine Below.alloc ?_ ?_ _) | (with_reducible refine bel_drewN ?_ _) | (with_reducible refine Below.drew ?_) | (with_reducible refine Below.setCell ?_ ?_ _) | (with_reducible refine bel_call ‹_› ?_ ?_) | go_size))⟩

set_option maxRecDepth 100000 in
set_option maxHeartbeats 2000000 in
theorem counts_none (most : Int) (A : Option Addr) (cap : Nat) (w : World) :
    Calls Try.prog 3 #[.int .i64 most, .slice A 0 cap] w fun e w' => e = .returned (.bool true) ∧ Below w.heap.size w w' := by
  go_enter Try.func3, Try.ntmps3
  go_wp2_with fail
  refine (awake_any _).mono ?_
  rintro e w1 ⟨rfl, hb1⟩
  go_wp2_with fail
  refine (new_any most _).mono ?_
  rintro e w2 ⟨rfl, N2, hb2⟩
  clear N2
  go_wp2_with fail
  go_loopw [6] (fun i wr => i = .int .i64 0 ∧ Below w1.heap.size w1 wr) (fun _ _ => 0)
  case atStart => exact ⟨rfl, hb2⟩
  case round =>
    obtain ⟨rfl, hb⟩ := hrel
    go_wp2_with fail
    refine (awake_any _).mono ?_
    rintro e w3 ⟨rfl, hb3⟩
    go_wp2_with fail
    go_ret
    exact ⟨rfl, (hb1.trans (hb.mono hb1.size)).trans (hb3.mono (Nat.le_trans hb1.size hb.size))⟩

set_option maxRecDepth 100000 in
set_option maxHeartbeats 4000000 in
theorem counts_some (most : Int) (b o len cap : Nat) (hlc : len ≤ cap) (hcm : cap ≤ maxLen) (w : World) (hbl : b < w.heap.size) (hact : ∀ i, i < len → ActAt w b (o + i * 7)) :
    Calls Try.prog 3 #[.int .i64 most, .slice (some ⟨b, o, none⟩) len cap] w fun e w' => e = .returned (.bool true) ∧ Below w.heap.size w w' := by
  have HA := Lib.hid hact
  clear hact
  unfold maxLen at hcm
  go_enter Try.func3, Try.ntmps3
  go_wp2_with fail
  refine (awake_any _).mono ?_
  rintro e w1 ⟨rfl, hb1⟩
  go_wp2_with fail
  refine (new_any most _).mono ?_
  rintro e w2 ⟨rfl, N2, hb2⟩
  obtain ⟨M, hM⟩ : ∃ M, M = min (max most 0) 1000 := ⟨_, rfl⟩
  rw [← hM] at N2
  have hM0 : 0 ≤ M := by omega
  have hM1 : M ≤ 1000 := by omega
  clear hM
  have hz1 := hb1.size
  go_wp2_with fail
  go_loopw [6] (fun i wr => ∃ (k : Nat) (v : Value) (Ps : List Pk) (s l c : Int), i = .int .i64 k ∧ k ≤ len ∧ k ≤ 100 ∧ NetW w1.heap.size wr w1.heap.size M s l c v Ps ∧ s - c - l - (Ps.length : Int) = 0 ∧ (Ps.length : Int) ≤ M ∧ 0 ≤ s ∧ s ≤ k ∧ 0 ≤ l ∧ l ≤ k ∧ 0 ≤ c ∧ c ≤ k ∧ Below w.heap.size w wr ∧ w1.heap.size ≤ wr.heap.size) (fun i _ => len - (intOf i).toNat)
  case atStart => exact ⟨0, _, [], 0, 0, 0, rfl, by omega, by omega, N2, by simp, by simpa using hM0, by omega, by omega, by omega, by omega, by omega, by omega, hb1.trans (hb2.mono hz1), hb2.size⟩
  case round =>
    obtain ⟨k, v, Ps, s, l, c, rfl, hk, hk100, N, hbal, hPM, hs0, hs1, hl0, hl1, hc0, hc1, hb, hz⟩ := hrel
    have HN := Lib.hid N
    have HBAL := Lib.hid hbal
    clear N hbal
    by_cases hgo : k < len ∧ k < 100
    · obtain ⟨hgo1, hgo2⟩ := hgo
      obtain ⟨kd, f, t, A, n, cp, L, ii, aa, bt, h0, h1, h2, h3, h4, h5, h6, hL, hi0, hi1, ha0, ha1⟩ := (HA.out k hgo1).below hb hbl
      have HL := Lib.hid hL
      have hncp := hL.2.1
      have hcpm := hL.2.2.1
      unfold maxLen at hcpm
      clear hL
      by_cases h300 : 300 < n
      · go_wp2_with fail
        refine (awake_any _).mono ?_
        rintro e w3 ⟨rfl, hb3⟩
        go_wp2_with fail
        go_ret
        exact ⟨rfl, by (repeat' (first | (with_reducible exact Below.refl _ _) | (with_reducible assumption) | (with_reducible refine Below.alloc ?_ ?_ _) | (with_reducible refine bel_drewN ?_ _) | (with_reducible refine Below.drew ?_) | (with_reducible refine Below.setCell ?_ ?_ _) | (with_reducible refine bel_call ‹_› ?_ ?_) | go_size))⟩
      · by_cases k1 : kd = 1
        · subst k1
          go_wp2_with fail
          refine (take_bal w1.heap.size w1.heap.size M s l c v Ps hM1 hPM hs0 (by omega) hl0 (by omega) hc0 (by omega) _ (by go_size) (HN.out.below (by (repeat' (first | (with_reducible exact Below.refl _ _) | (with_reducible assumption) | (with_reducible refine Below.alloc ?_ ?_ _) | (with_reducible refine bel_drewN ?_ _) | (with_reducible refine Below.drew ?_) | (with_reducible refine Below.setCell ?_ ?_ _) | (with_reducible refine bel_call ‹_› ?_ ?_) | go_size)))) ii).mono ?_
          rintro e w3 ⟨v0, s', l', c', Ps', rfl, hbal', hPM', hs0', hs1', hl0', hl1', hc0', hc1', ⟨v', N'⟩, F'⟩
          have hcmp : (s' != c' + l' + (Ps'.length : Int)) = false := by have := HBAL.out; simp; omega
          obtain ⟨A', cap', rfl⟩ := N'.slice
          obtain ⟨q0, q1, q2, q3, q4, q5⟩ := N'.cell
          have HN' := Lib.hid N'
          have HF : Hid (Below w.heap.size w w3) := by
            have hz3 := F'.size
            refine Below.trans (b := wr) hb ?_
            refine Below.trans (b := _) ?_ ((F'.below (by go_size)).mono hz1)
            (repeat' (first | (with_reducible exact Below.refl _ _) | (with_reducible assumption) | (with_reducible refine Below.alloc ?_ ?_ _) | (with_reducible refine bel_drewN ?_ _) | (with_reducible refine Below.drew ?_) | (with_reducible refine Below.setCell ?_ ?_ _) | (with_reducible refine bel_call ‹_› ?_ ?_) | go_size))
          have HZ : Hid (w1.heap.size ≤ w3.heap.size) := by
            have hz3 := F'.size
            unfold Hid
            try simp at hz3
            omega
          clear N' F' hbal' q0 q5
          go_wp2_with fail
          refine (counts_any w1.heap.size s' l' c' _ q2 q3 q4).mono ?_
          rintro e w4 ⟨rfl, nq, rfl⟩
          go_wp2_with fail
          refine (len_any w1.heap.size A' Ps'.length cap' (by omega) (w3.drewN nq) q1).mono ?_
          rintro e w5 ⟨rfl, rfl⟩
          go_wp2_with fail
          go_roundw
          case rel => exact ⟨k + 1, _, Ps', s', l', c', by go_num, by omega, by omega, HN'.out.drewN nq, by have := hcmp; simp at this; omega, hPM', by omega, by omega, by omega, by omega, by omega, by omega, bel_drewN HF.out nq, HZ.out⟩
          case measure => simp [intOf]; omega
        · by_cases k2 : kd = 2
          · subst k2
            go_wp2_with fail
            refine (drop_bal w1.heap.size w1.heap.size M s l c v Ps hM1 hPM hs0 (by omega) hl0 (by omega) hc0 (by omega) _ (by go_size) (HN.out.below (by (repeat' (first | (with_reducible exact Below.refl _ _) | (with_reducible assumption) | (with_reducible refine Below.alloc ?_ ?_ _) | (with_reducible refine bel_drewN ?_ _) | (with_reducible refine Below.drew ?_) | (with_reducible refine Below.setCell ?_ ?_ _) | (with_reducible refine bel_call ‹_› ?_ ?_) | go_size)))) ii).mono ?_
            rintro e w3 ⟨v0, s', l', c', Ps', rfl, hbal', hPM', hs0', hs1', hl0', hl1', hc0', hc1', ⟨v', N'⟩, F'⟩
            have hcmp : (s' != c' + l' + (Ps'.length : Int)) = false := by have := HBAL.out; simp; omega
            obtain ⟨A', cap', rfl⟩ := N'.slice
            obtain ⟨q0, q1, q2, q3, q4, q5⟩ := N'.cell
            have HN' := Lib.hid N'
            have HF : Hid (Below w.heap.size w w3) := by
              have hz3 := F'.size
              refine Below.trans (b := wr) hb ?_
              refine Below.trans (b := _) ?_ ((F'.below (by go_size)).mono hz1)
              (repeat' (first | (with_reducible exact Below.refl _ _) | (with_reducible assumption) | (with_reducible refine Below.alloc ?_ ?_ _) | (with_reducible refine bel_drewN ?_ _) | (with_reducible refine Below.drew ?_) | (with_reducible refine Below.setCell ?_ ?_ _) | (with_reducible refine bel_call ‹_› ?_ ?_) | go_size))
            have HZ : Hid (w1.heap.size ≤ w3.heap.size) := by
              have hz3 := F'.size
              unfold Hid
              try simp at hz3
              omega
            clear N' F' hbal' q0 q5
            go_wp2_with fail
            refine (counts_any w1.heap.size s' l' c' _ q2 q3 q4).mono ?_
            rintro e w4 ⟨rfl, nq, rfl⟩
            go_wp2_with fail
            refine (len_any w1.heap.size A' Ps'.length cap' (by omega) (w3.drewN nq) q1).mono ?_
            rintro e w5 ⟨rfl, rfl⟩
            go_wp2_with fail
            go_roundw
            case rel => exact ⟨k + 1, _, Ps', s', l', c', by go_num, by omega, by omega, HN'.out.drewN nq, by have := hcmp; simp at this; omega, hPM', by omega, by omega, by omega, by omega, by omega, by omega, bel_drewN HF.out nq, HZ.out⟩
            case measure => simp [intOf]; omega
          · by_cases k3 : kd = 3
            · subst k3
              go_wp2_with fail
              refine (twice_bal w1.heap.size w1.heap.size M s l c v Ps hM1 hPM hs0 (by omega) hl0 (by omega) hc0 (by omega) _ (by go_size) (HN.out.below (by (repeat' (first | (with_reducible exact Below.refl _ _) | (with_reducible assumption) | (with_reducible refine Below.alloc ?_ ?_ _) | (with_reducible refine bel_drewN ?_ _) | (with_reducible refine Below.drew ?_) | (with_reducible refine Below.setCell ?_ ?_ _) | (with_reducible refine bel_call ‹_› ?_ ?_) | go_size)))) ii).mono ?_
              rintro e w3 ⟨v0, s', l', c', Ps', rfl, hbal', hPM', hs0', hs1', hl0', hl1', hc0', hc1', ⟨v', N'⟩, F'⟩
              have hcmp : (s' != c' + l' + (Ps'.length : Int)) = false := by have := HBAL.out; simp; omega
              obtain ⟨A', cap', rfl⟩ := N'.slice
              obtain ⟨q0, q1, q2, q3, q4, q5⟩ := N'.cell
              have HN' := Lib.hid N'
              have HF : Hid (Below w.heap.size w w3) := by
                have hz3 := F'.size
                refine Below.trans (b := wr) hb ?_
                refine Below.trans (b := _) ?_ ((F'.below (by go_size)).mono hz1)
                (repeat' (first | (with_reducible exact Below.refl _ _) | (with_reducible assumption) | (with_reducible refine Below.alloc ?_ ?_ _) | (with_reducible refine bel_drewN ?_ _) | (with_reducible refine Below.drew ?_) | (with_reducible refine Below.setCell ?_ ?_ _) | (with_reducible refine bel_call ‹_› ?_ ?_) | go_size))
              have HZ : Hid (w1.heap.size ≤ w3.heap.size) := by
                have hz3 := F'.size
                unfold Hid
                try simp at hz3
                omega
              clear N' F' hbal' q0 q5
              go_wp2_with fail
              refine (counts_any w1.heap.size s' l' c' _ q2 q3 q4).mono ?_
              rintro e w4 ⟨rfl, nq, rfl⟩
              go_wp2_with fail
              refine (len_any w1.heap.size A' Ps'.length cap' (by omega) (w3.drewN nq) q1).mono ?_
              rintro e w5 ⟨rfl, rfl⟩
              go_wp2_with fail
              go_roundw
              case rel => exact ⟨k + 1, _, Ps', s', l', c', by go_num, by omega, by omega, HN'.out.drewN nq, by have := hcmp; simp at this; omega, hPM', by omega, by omega, by omega, by omega, by omega, by omega, bel_drewN HF.out nq, HZ.out⟩
              case measure => simp [intOf]; omega
            · by_cases k4 : kd = 4
              · subst k4
                by_cases ha : aa < 0
                · go_wp2_with fail
                  refine (spoil_bal0 w1.heap.size w1.heap.size M s l c v Ps hM1 hPM hs0 (by omega) hl0 (by omega) hc0 (by omega) _ (by go_size) (HN.out.below (by (repeat' (first | (with_reducible exact Below.refl _ _) | (with_reducible assumption) | (with_reducible refine Below.alloc ?_ ?_ _) | (with_reducible refine bel_drewN ?_ _) | (with_reducible refine Below.drew ?_) | (with_reducible refine Below.setCell ?_ ?_ _) | (with_reducible refine bel_call ‹_› ?_ ?_) | go_size)))) ii bt).mono ?_
                  rintro e w3 ⟨v0, s', l', c', Ps', rfl, hbal', hPM', hs0', hs1', hl0', hl1', hc0', hc1', ⟨v', N'⟩, F'⟩
                  have hcmp : (s' != c' + l' + (Ps'.length : Int)) = false := by have := HBAL.out; simp; omega
                  obtain ⟨A', cap', rfl⟩ := N'.slice
                  obtain ⟨q0, q1, q2, q3, q4, q5⟩ := N'.cell
                  have HN' := Lib.hid N'
                  have HF : Hid (Below w.heap.size w w3) := by
                    have hz3 := F'.size
                    refine Below.trans (b := wr) hb ?_
                    refine Below.trans (b := _) ?_ ((F'.below (by go_size)).mono hz1)
                    (repeat' (first | (with_reducible exact Below.refl _ _) | (with_reducible assumption) | (with_reducible refine Below.alloc ?_ ?_ _) | (with_reducible refine bel_drewN ?_ _) | (with_reducible refine Below.drew ?_) | (with_reducible refine Below.setCell ?_ ?_ _) | (with_reducible refine bel_call ‹_› ?_ ?_) | go_size))
                  have HZ : Hid (w1.heap.size ≤ w3.heap.size) := by
                    have hz3 := F'.size
                    unfold Hid
                    try simp at hz3
                    omega
                  clear N' F' hbal' q0 q5
                  go_wp2_with fail
                  refine (counts_any w1.heap.size s' l' c' _ q2 q3 q4).mono ?_
                  rintro e w4 ⟨rfl, nq, rfl⟩
                  go_wp2_with fail
                  refine (len_any w1.heap.size A' Ps'.length cap' (by omega) (w3.drewN nq) q1).mono ?_
                  rintro e w5 ⟨rfl, rfl⟩
                  go_wp2_with fail
                  go_roundw
                  case rel => exact ⟨k + 1, _, Ps', s', l', c', by go_num, by omega, by omega, HN'.out.drewN nq, by have := hcmp; simp at this; omega, hPM', by omega, by omega, by omega, by omega, by omega, by omega, bel_drewN HF.out nq, HZ.out⟩
                  case measure => simp [intOf]; omega
                · obtain ⟨a, rfl⟩ : ∃ a : Nat, aa = (a : Int) := ⟨aa.toNat, by omega⟩
                  go_wp2_with fail
                  refine (spoil_bal w1.heap.size w1.heap.size M s l c v Ps hM1 hPM hs0 (by omega) hl0 (by omega) hc0 (by omega) _ (by go_size) (HN.out.below (by (repeat' (first | (with_reducible exact Below.refl _ _) | (with_reducible assumption) | (with_reducible refine Below.alloc ?_ ?_ _) | (with_reducible refine bel_drewN ?_ _) | (with_reducible refine Below.drew ?_) | (with_reducible refine Below.setCell ?_ ?_ _) | (with_reducible refine bel_call ‹_› ?_ ?_) | go_size)))) ii a bt (by omega)).mono ?_
                  rintro e w3 ⟨v0, s', l', c', Ps', rfl, hbal', hPM', hs0', hs1', hl0', hl1', hc0', hc1', ⟨v', N'⟩, F'⟩
                  have hcmp : (s' != c' + l' + (Ps'.length : Int)) = false := by have := HBAL.out; simp; omega
                  obtain ⟨A', cap', rfl⟩ := N'.slice
                  obtain ⟨q0, q1, q2, q3, q4, q5⟩ := N'.cell
                  have HN' := Lib.hid N'
                  have HF : Hid (Below w.heap.size w w3) := by
                    have hz3 := F'.size
                    refine Below.trans (b := wr) hb ?_
                    refine Below.trans (b := _) ?_ ((F'.below (by go_size)).mono hz1)
                    (repeat' (first | (with_reducible exact Below.refl _ _) | (with_reducible assumption) | (with_reducible refine Below.alloc ?_ ?_ _) | (with_reducible refine bel_drewN ?_ _) | (with_reducible refine Below.drew ?_) | (with_reducible refine Below.setCell ?_ ?_ _) | (with_reducible refine bel_call ‹_› ?_ ?_) | go_size))
                  have HZ : Hid (w1.heap.size ≤ w3.heap.size) := by
                    have hz3 := F'.size
                    unfold Hid
                    try simp at hz3
                    omega
                  clear N' F' hbal' q0 q5
                  go_wp2_with fail
                  refine (counts_any w1.heap.size s' l' c' _ q2 q3 q4).mono ?_
                  rintro e w4 ⟨rfl, nq, rfl⟩
                  go_wp2_with fail
                  refine (len_any w1.heap.size A' Ps'.length cap' (by omega) (w3.drewN nq) q1).mono ?_
                  rintro e w5 ⟨rfl, rfl⟩
                  go_wp2_with fail
                  go_roundw
                  case rel => exact ⟨k + 1, _, Ps', s', l', c', by go_num, by omega, by omega, HN'.out.drewN nq, by have := hcmp; simp at this; omega, hPM', by omega, by omega, by omega, by omega, by omega, by omega, bel_drewN HF.out nq, HZ.out⟩
                  case measure => simp [intOf]; omega
              · have d1 : (kd == 1) = false := by simpa using k1
                have d2 : (kd == 2) = false := by simpa using k2
                have d3 : (kd == 3) = false := by simpa using k3
                have d4 : (kd == 4) = false := by simpa using k4
                go_wp2_with fail
                refine (to_any _ _ _ _ _ _).mono ?_
                rintro e w5 ⟨rfl, hb5⟩
                obtain ⟨hc5, hf5, hz5⟩ := bcell hb5 (by first | (simp only [World.size_alloc, World.size_setCell, World.size_drew]; rfl) | rfl)
                go_wp2_with fail
                refine (send_bal w1.heap.size w1.heap.size M s l c v Ps hM1 hPM hs0 (by omega) hl0 (by omega) hc0 (by omega) _ (by go_size) (HN.out.below (by (repeat' (first | (with_reducible exact Below.refl _ _) | (with_reducible assumption) | (with_reducible refine Below.alloc ?_ ?_ _) | (with_reducible refine bel_drewN ?_ _) | (with_reducible refine Below.drew ?_) | (with_reducible refine Below.setCell ?_ ?_ _) | (with_reducible refine bel_call ‹_› ?_ ?_) | go_size)))) _ _ _ _ _ L (by omega) ((HL.out.fr (.of_below (by (repeat' (first | (with_reducible exact Below.refl _ _) | (with_reducible assumption) | (with_reducible refine Below.alloc ?_ ?_ _) | (with_reducible refine bel_drewN ?_ _) | (with_reducible refine Below.drew ?_) | (with_reducible refine Below.setCell ?_ ?_ _) | (with_reducible refine bel_call ‹_› ?_ ?_) | go_size))))).up hz1)).mono ?_
                rintro e w3 ⟨v0, s', l', c', Ps', rfl, hbal', hPM', hs0', hs1', hl0', hl1', hc0', hc1', ⟨v', N'⟩, F'⟩
                have hcmp : (s' != c' + l' + (Ps'.length : Int)) = false := by have := HBAL.out; simp; omega
                obtain ⟨A', cap', rfl⟩ := N'.slice
                obtain ⟨q0, q1, q2, q3, q4, q5⟩ := N'.cell
                have HN' := Lib.hid N'
                have HF : Hid (Below w.heap.size w w3) := by
                  have hz3 := F'.size
                  refine Below.trans (b := wr) hb ?_
                  refine Below.trans (b := _) ?_ ((F'.below (by go_size)).mono hz1)
                  (repeat' (first | (with_reducible exact Below.refl _ _) | (with_reducible assumption) | (with_reducible refine Below.alloc ?_ ?_ _) | (with_reducible refine bel_drewN ?_ _) | (with_reducible refine Below.drew ?_) | (with_reducible refine Below.setCell ?_ ?_ _) | (with_reducible refine bel_call ‹_› ?_ ?_) | go_size))
                have HZ : Hid (w1.heap.size ≤ w3.heap.size) := by
                  have hz3 := F'.size
                  unfold Hid
                  try simp at hz3
                  omega
                clear N' F' hbal' q0 q5
                go_wp2_with fail
                refine (counts_any w1.heap.size s' l' c' _ q2 q3 q4).mono ?_
                rintro e w4 ⟨rfl, nq, rfl⟩
                go_wp2_with fail
                refine (len_any w1.heap.size A' Ps'.length cap' (by omega) (w3.drewN nq) q1).mono ?_
                rintro e w5 ⟨rfl, rfl⟩
                go_wp2_with fail
                go_roundw
                case rel => exact ⟨k + 1, _, Ps', s', l', c', by go_num, by omega, by omega, HN'.out.drewN nq, by have := hcmp; simp at this; omega, hPM', by omega, by omega, by omega, by omega, by omega, by omega, bel_drewN HF.out nq, HZ.out⟩
                case measure => simp [intOf]; omega
    · by_cases hlt : k < len
      · have hd : decide ((k : Int) < 100) = false := by simp; omega
        go_wp2_with fail
        refine (awake_any _).mono ?_
        rintro e w3 ⟨rfl, hb3⟩
        go_wp2_with fail
        go_ret
        exact ⟨rfl, by (repeat' (first | (with_reducible exact Below.refl _ _) | (with_reducible assumption) | (with_reducible refine Below.alloc ?_ ?_ _) | (with_reducible refine bel_drewN ?_ _) | (with_reducible refine Below.drew ?_) | (with_reducible refine Below.setCell ?_ ?_ _) | (with_reducible refine bel_call ‹_› ?_ ?_) | go_size))⟩
      · have hd : decide ((k : Int) < (len : Int)) = false := by simp; omega
        go_wp2_with fail
        refine (awake_any _).mono ?_
        rintro e w3 ⟨rfl, hb3⟩
        go_wp2_with fail
        go_ret
        exact ⟨rfl, by (repeat' (first | (with_reducible exact Below.refl _ _) | (with_reducible assumption) | (with_reducible refine Below.alloc ?_ ?_ _) | (with_reducible refine bel_drewN ?_ _) | (with_reducible refine Below.drew ?_) | (with_reducible refine Below.setCell ?_ ?_ _) | (with_reducible refine bel_call ‹_› ?_ ?_) | go_size))⟩

theorem counts_walk (most : Int) (v : Value) (w : World) (hv : v = .slice none 0 0 ∨ ∃ a len cap, v = .slice (some a) len cap ∧ len ≤ cap ∧ cap ≤ maxLen ∧ ((len = 0) ∨ ∃ b o, a = ⟨b, o, none⟩ ∧ b < w.heap.size ∧ ∀ i, i < len → ActAt w b (o + i * 7))) :
    Calls Try.prog 3 #[.int .i64 most, v] w fun e w' => e = .returned (.bool true) ∧ Below w.heap.size w w' := by
  rcases hv with rfl | ⟨a, len, cap, rfl, h1, h2, rfl | ⟨b, o, rfl, hb, h⟩⟩
  · exact counts_none most none 0 w
  · exact counts_none most (some a) cap w
  · exact counts_some most b o len cap h1 h2 w hb h
end Go.Proofs.Ytoeenaionamhiaa
