/- The law GaussTexts: the walk. -/
import Derived.Test.YtaocbebgdbeffaaDoorGauU
import Derived.Lib.QuietBelow
import Derived.Outline
set_option linter.unusedSimpArgs false
set_option linter.unusedVariables false
namespace Go.Proofs.YtaocbebgdbeffaaDoor
open Go.RowKit

theorem pg_exists (F : List UInt8) : ∃ RE IM0 IM, pgParts F RE IM0 IM := by
  have h2 : ∀ IM0 : List UInt8, ∃ IM, ((IM0 = [] ∧ IM = [49]) ∨ (IM0 = [45] ∧ IM = [45, 49]) ∨ (IM0 ≠ [] ∧ IM0 ≠ [45] ∧ IM = IM0)) := fun IM0 => by
    by_cases h : IM0 = []
    · exact ⟨[49], .inl ⟨h, rfl⟩⟩
    · by_cases h' : IM0 = [45]
      · exact ⟨[45, 49], .inr (.inl ⟨h', rfl⟩)⟩
      · exact ⟨IM0, .inr (.inr ⟨h, h', rfl⟩)⟩
  by_cases h : 0 < lpm F F.length
  · obtain ⟨IM, hI⟩ := h2 (Lib.trimPrefix (F.drop (lpm F F.length).toNat) [43])
    exact ⟨_, _, IM, .inr ⟨h, rfl, rfl⟩, hI⟩
  · obtain ⟨IM, hI⟩ := h2 F
    exact ⟨_, _, IM, .inl ⟨by omega, rfl, rfl⟩, hI⟩

set_option maxRecDepth 100000 in
set_option maxHeartbeats 2000000 in
theorem parse_n (s : ByteArray) (hs : s.size ≤ 1000) (hF : ¬ ∃ F, s.data.toList = F ++ [105]) (w : World) :
    Calls Tryd.prog 11 #[.string s] w fun e w' => e = .returned (.tuple #[.complex .f64 (floatOfInt .f64 (nbV s.data.toList)) (floatOfInt .f64 0), .bool (nbOk s.data.toList)]) ∧ Below w.heap.size w w' := by
  have hsf : Lib.hasSuffix s.data.toList [105] = false := by
    cases h : Lib.hasSuffix s.data.toList [105] with
    | false => rfl
    | true =>
      exfalso
      apply hF
      unfold Lib.hasSuffix at h
      obtain ⟨t, ht⟩ := List.isSuffixOf_iff_suffix.1 h
      exact ⟨t, ht.symm⟩
  have HCS : Hid (∀ W, Calls Tryd.prog 24 #[.string s, .string ⟨#[105]⟩] W fun e w' => e = .returned (.tuple #[.string s, .bool false]) ∧ W = w') := fun W => (Tryd.strings_CutSuffix s ⟨#[105]⟩ W (by omega)).mono fun e w' h => ⟨h.1.trans (by
    show Ending.returned (.tuple #[.string ⟨(Lib.trimSuffix s.data.toList [105]).toArray⟩, .bool (Lib.hasSuffix s.data.toList [105])]) = _
    unfold Lib.trimSuffix
    rw [hsf]
    rfl), h.2.symm⟩
  have HN := Lib.hid (fun W => number_any s (by omega) W)
  have b1 := nbV_b s.data.toList
  obtain ⟨v, hv⟩ : ∃ v, nbV s.data.toList = v := ⟨_, rfl⟩
  obtain ⟨o, ho⟩ : ∃ v, nbOk s.data.toList = v := ⟨_, rfl⟩
  rw [hv, ho] at HN ⊢
  rw [hv] at b1
  clear hF hv ho hsf
  go_enter Tryd.func11, Tryd.ntmps11
  go_wp2_with fail
  refine (HCS.out _).mono ?_
  rintro e w1 ⟨rfl, rfl⟩
  go_wp2_with fail
  refine (HN.out _).mono ?_
  rintro e w2 ⟨rfl, hb2⟩
  go_wp2_with fail
  go_ret2
  exact ⟨rfl, hb2⟩

theorem parse_any (s : ByteArray) (hs : s.size ≤ 1000) (w : World) (hT : Lib.Utf8Tabs 1 2 w) (hg : 2 < w.heap.size) :
    Calls Tryd.prog 11 #[.string s] w fun e w' => e = .returned (.tuple #[.complex .f64 (floatOfInt .f64 (prV s.data.toList).1) (floatOfInt .f64 (prV s.data.toList).2), .bool (prOk s.data.toList)]) ∧ Below w.heap.size w w' := by
  by_cases hF : ∃ F, s.data.toList = F ++ [105]
  · obtain ⟨F, hF⟩ := hF
    obtain ⟨RE, IM0, IM, hp⟩ := pg_exists F
    obtain ⟨e1, e2⟩ := pg_eq hF hp
    rw [← e1, ← e2]
    exact parse_i s F RE IM0 IM hs hF hp w hT hg
  · obtain ⟨e1, e2⟩ := nb_eq hF
    rw [← e1, ← e2]
    exact parse_n s hs hF w
theorem prV_fit (L : List UInt8) : Fit (prV L).1 (prV L).2 := by
  unfold prV
  split
  · rename_i h
    exact (of_prOk h).1
  · show Fit 0 0
    omega
theorem ztxt_len (a b : Int) : (ztxt a b).length ≤ 60 := by
  have h1 := sgL_len a
  have h2 := sgL_len b
  unfold ztxt tailL
  repeat' split
  all_goals simp <;> omega

set_option maxRecDepth 100000 in
set_option maxHeartbeats 4000000 in
theorem texts_walk (a b : Int) (s : ByteArray) (ha1 : -9223372036854775808 ≤ a) (ha2 : a ≤ 9223372036854775807) (hb1 : -9223372036854775808 ≤ b) (hb2 : b ≤ 9223372036854775807) (hsl : s.size ≤ 9223372036854775807) (w : World) (hT : Lib.Utf8Tabs 1 2 w) :
    Calls Tryd.prog 4 #[.agg #[.int .i64 a, .int .i64 b], .string s] w fun e w' => e = .returned (.bool true) ∧ Below w.heap.size w w' := by
  have hg : 2 < w.heap.size := World.block_lt_of_cell? w _ (hT.2 0 (by omega)).1
  by_cases h60 : 60 < s.size
  · have h60i : (60 : Int) < (s.size : Int) := by omega
    clear ha1 ha2 hb1 hb2 hT
    go_enter Tryd.func4, Tryd.ntmps4
    go_wp2_with fail
    refine (awake_any _).mono ?_
    rintro e w1 ⟨rfl, hb1⟩
    go_wp2_with fail
    go_ret
    exact ⟨rfl, by (repeat' (first | (with_reducible exact Below.refl _ _) | (with_reducible assumption) | (with_reducible refine Below.alloc ?_ ?_ _) | (with_reducible refine bel_drewN ?_ _) | (with_reducible refine Below.drew ?_) | (with_reducible refine Below.setCell ?_ ?_ _) | (with_reducible refine bel_call ‹_› ?_ ?_) | go_size))⟩
  · have h60i : ¬ (60 : Int) < (s.size : Int) := by omega
    have HP : Hid (∀ W, Below w.heap.size w W → Calls Tryd.prog 11 #[.string s] W fun e w' => e = .returned (.tuple #[.complex .f64 (floatOfInt .f64 (prV s.data.toList).1) (floatOfInt .f64 (prV s.data.toList).2), .bool (prOk s.data.toList)]) ∧ Below W.heap.size W w') := fun W hb => parse_any s (by omega) W (utf8Tabs_below hT hb (by show 1 < _; omega) (by show 2 < _; omega)) (by have := hb.size; omega)
    have HR := Lib.hid (fun W => refParse_any s (by omega) W)
    have hpf := prV_fit s.data.toList
    obtain ⟨c, hc⟩ : ∃ c, (prV s.data.toList).1 = c := ⟨_, rfl⟩
    obtain ⟨d, hd⟩ : ∃ d, (prV s.data.toList).2 = d := ⟨_, rfl⟩
    obtain ⟨o, ho⟩ : ∃ o, prOk s.data.toList = o := ⟨_, rfl⟩
    rw [hc, hd, ho] at HP HR
    rw [hc, hd] at hpf
    clear hc hd ho
    have HI := Lib.hid (fun W => is_yes _ _ c d (isF_of (n := c) (by unfold M53; omega)) (isF_of (n := d) (by unfold M53; omega)) W)
    have HF := Lib.hid (fun W => fits_any a b W)
    by_cases hf : (-1048576 ≤ a ∧ a ≤ 1048576 ∧ -1048576 ≤ b ∧ b ≤ 1048576)
    · rw [decide_eq_true hf] at HF
      have hzl := ztxt_len a b
      have hpz := prOk_of (L := ztxt a b) hf rfl
      obtain ⟨z, hz⟩ : ∃ z : ByteArray, (⟨(ztxt a b).toArray⟩ : ByteArray) = z := ⟨_, rfl⟩
      have hzd : z.data.toList = ztxt a b := by rw [← hz]
      have HP2 : Hid (∀ W, Below w.heap.size w W → Calls Tryd.prog 11 #[.string z] W fun e w' => e = .returned (.tuple #[.complex .f64 (floatOfInt .f64 a) (floatOfInt .f64 b), .bool true]) ∧ Below W.heap.size W w') := fun W hb => by
        have := parse_any z (by rw [Lib.size_eq, hzd]; omega) W (utf8Tabs_below hT hb (by show 1 < _; omega) (by show 2 < _; omega)) (by have := hb.size; omega)
        rw [hzd, hpz.1, hpz.2] at this
        exact this
      have HT := Lib.hid (fun W => to_yes a b hf.1 hf.2.1 hf.2.2.1 hf.2.2.2 W)
      have HX := Lib.hid (fun W => ztext_any _ _ a b (isF_of (n := a) (by unfold M53; omega)) (isF_of (n := b) (by unfold M53; omega)) hf.1 hf.2.1 hf.2.2.1 hf.2.2.2 W)
      have HY := Lib.hid (fun W => rtext_any a b hf.1 hf.2.1 hf.2.2.1 hf.2.2.2 W)
      rw [hz] at HX HY
      have HI2 := Lib.hid (fun W => is_yes _ _ a b (isF_of (n := a) (by unfold M53; omega)) (isF_of (n := b) (by unfold M53; omega)) W)
      clear hf ha1 ha2 hb1 hb2 hT hpf hzl hpz hz hzd
      go_enter Tryd.func4, Tryd.ntmps4
      go_wp2_with fail
      refine (HP.out _ (by (repeat' (first | (with_reducible exact Below.refl _ _) | (with_reducible assumption) | (with_reducible refine Below.alloc ?_ ?_ _) | (with_reducible refine bel_drewN ?_ _) | (with_reducible refine Below.drew ?_) | (with_reducible refine Below.setCell ?_ ?_ _) | (with_reducible refine bel_call ‹_› ?_ ?_) | go_size)))).mono ?_
      rintro e w1 ⟨rfl, hb1⟩
      obtain ⟨hc1, hf1, hz1⟩ := bcell hb1 (by first | (simp only [World.size_alloc, World.size_setCell, World.size_drew]; rfl) | rfl)
      go_wp2_with fail
      refine (HR.out _).mono ?_
      rintro e w2 ⟨rfl, hb2⟩
      obtain ⟨hc2, hf2, hz2⟩ := bcell hb2 (by first | (simp only [World.size_alloc, World.size_setCell, World.size_drew]; rfl) | rfl)
      go_wp2_with fail
      refine (HI.out _).mono ?_
      rintro e w3 ⟨rfl, hb3⟩
      obtain ⟨hc3, hf3, hz3⟩ := bcell hb3 (by first | (simp only [World.size_alloc, World.size_setCell, World.size_drew]; rfl) | rfl)
      cases o
      all_goals
        go_wp2_with fail
        refine (HF.out _).mono ?_
        rintro e w4 ⟨rfl, hb4⟩
        obtain ⟨hc4, hf4, hz4⟩ := bcell hb4 (by first | (simp only [World.size_alloc, World.size_setCell, World.size_drew]; rfl) | rfl)
        go_wp2_with fail
        refine (HT.out _).mono ?_
        rintro e w5 ⟨rfl, hb5⟩
        obtain ⟨hc5, hf5, hz5⟩ := bcell hb5 (by first | (simp only [World.size_alloc, World.size_setCell, World.size_drew]; rfl) | rfl)
        go_wp2_with fail
        refine (HX.out _).mono ?_
        rintro e w6 ⟨rfl, hb6⟩
        obtain ⟨hc6, hf6, hz6⟩ := bcell hb6 (by first | (simp only [World.size_alloc, World.size_setCell, World.size_drew]; rfl) | rfl)
        go_wp2_with fail
        refine (HP2.out _ (by (repeat' (first | (with_reducible exact Below.refl _ _) | (with_reducible assumption) | (with_reducible refine Below.alloc ?_ ?_ _) | (with_reducible refine bel_drewN ?_ _) | (with_reducible refine Below.drew ?_) | (with_reducible refine Below.setCell ?_ ?_ _) | (with_reducible refine bel_call ‹_› ?_ ?_) | go_size)))).mono ?_
        rintro e w7 ⟨rfl, hb7⟩
        obtain ⟨hc7, hf7, hz7⟩ := bcell hb7 (by first | (simp only [World.size_alloc, World.size_setCell, World.size_drew]; rfl) | rfl)
        have hbw : Below w.heap.size w w7 := by (repeat' (first | (with_reducible exact Below.refl _ _) | (with_reducible assumption) | (with_reducible refine Below.alloc ?_ ?_ _) | (with_reducible refine bel_drewN ?_ _) | (with_reducible refine Below.drew ?_) | (with_reducible refine Below.setCell ?_ ?_ _) | (with_reducible refine bel_call ‹_› ?_ ?_) | go_size))
        have q1 : w7.cell? ⟨w.heap.size, 0, none⟩ = some (.int .i64 a) := by go_simp
        have q2 : w7.cell? ⟨w.heap.size, 1, none⟩ = some (.int .i64 b) := by go_simp
        clear hc1 hc2 hc3 hc4 hc5 hc6 hc7 hf1 hf2 hf3 hf4 hf5 hf6 hf7 hb1 hb2 hb3 hb4 hb5 hb6 hb7
        go_wp2_with fail
        have r1 := cell_regrown q1
        have r2 := cell_regrown q2
        have cT : ∀ dd os, Calls Tryd.prog 13 #[.agg #[.int .i64 a, .int .i64 b]] (Go.Sort.grow (redrawn w7 dd) os) fun e w'' => e = .returned (.complex .f64 (floatOfInt .f64 a) (floatOfInt .f64 b)) ∧ ∃ p : Regrown, w'' = Go.Sort.grow (redrawn w7 p.d) p.os := fun dd os => Calls.regrown_of (HT.out _)
        have cX : ∀ dd os, Calls Tryd.prog 14 #[.complex .f64 (floatOfInt .f64 a) (floatOfInt .f64 b)] (Go.Sort.grow (redrawn w7 dd) os) fun e w'' => e = .returned (.string z) ∧ ∃ p : Regrown, w'' = Go.Sort.grow (redrawn w7 p.d) p.os := fun dd os => Calls.regrown_of (HX.out _)
        have cY : ∀ dd os, Calls Tryd.prog 15 #[.agg #[.int .i64 a, .int .i64 b]] (Go.Sort.grow (redrawn w7 dd) os) fun e w'' => e = .returned (.string z) ∧ ∃ p : Regrown, w'' = Go.Sort.grow (redrawn w7 p.d) p.os := fun dd os => Calls.regrown_of (HY.out _)
        have cI : ∀ dd os, Calls Tryd.prog 9 #[.complex .f64 (floatOfInt .f64 a) (floatOfInt .f64 b), .agg #[.int .i64 a, .int .i64 b]] (Go.Sort.grow (redrawn w7 dd) os) fun e w'' => e = .returned (.bool true) ∧ ∃ p : Regrown, w'' = Go.Sort.grow (redrawn w7 p.d) p.os := fun dd os => Calls.regrown_of (HI2.out _)
        have cA : ∀ dd os, Calls Tryd.prog 10 #[] (Go.Sort.grow (redrawn w7 dd) os) fun e w'' => e = .returned (.bool true) ∧ ∃ p : Regrown, w'' = Go.Sort.grow (redrawn w7 p.d) p.os := fun dd os => Calls.regrown_of (awake_any _)
        refine wp_region_quiet_below (by kernel_rfl) (by kernel_rfl) ?_
        repeat (quiet_step (first | with_reducible exact cT _ _ | with_reducible exact cX _ _ | with_reducible exact cY _ _ | with_reducible exact cI _ _ | with_reducible exact cA _ _))
        refine wpQuiet_nil ?_
        intro _ hw'
        obtain ⟨⟨dq, osq⟩, hw''⟩ := hw'
        subst hw''
        clear r1 r2 cT cX cY cI cA q1 q2
        have hbq : Below w.heap.size w (Go.Sort.grow (redrawn w7 dq) osq) := bel_call (below_regrown w7 dq osq) hbw (by have := hbw.size; omega)
        go_wp2_with fail
        go_ret
        exact ⟨rfl, hbq⟩
    · rw [decide_eq_false hf] at HF
      clear hf ha1 ha2 hb1 hb2 hT hpf
      go_enter Tryd.func4, Tryd.ntmps4
      go_wp2_with fail
      refine (HP.out _ (by (repeat' (first | (with_reducible exact Below.refl _ _) | (with_reducible assumption) | (with_reducible refine Below.alloc ?_ ?_ _) | (with_reducible refine bel_drewN ?_ _) | (with_reducible refine Below.drew ?_) | (with_reducible refine Below.setCell ?_ ?_ _) | (with_reducible refine bel_call ‹_› ?_ ?_) | go_size)))).mono ?_
      rintro e w1 ⟨rfl, hb1⟩
      obtain ⟨hc1, hf1, hz1⟩ := bcell hb1 (by first | (simp only [World.size_alloc, World.size_setCell, World.size_drew]; rfl) | rfl)
      go_wp2_with fail
      refine (HR.out _).mono ?_
      rintro e w2 ⟨rfl, hb2⟩
      obtain ⟨hc2, hf2, hz2⟩ := bcell hb2 (by first | (simp only [World.size_alloc, World.size_setCell, World.size_drew]; rfl) | rfl)
      go_wp2_with fail
      refine (HI.out _).mono ?_
      rintro e w3 ⟨rfl, hb3⟩
      obtain ⟨hc3, hf3, hz3⟩ := bcell hb3 (by first | (simp only [World.size_alloc, World.size_setCell, World.size_drew]; rfl) | rfl)
      cases o
      all_goals
        go_wp2_with fail
        refine (HF.out _).mono ?_
        rintro e w4 ⟨rfl, hb4⟩
        obtain ⟨hc4, hf4, hz4⟩ := bcell hb4 (by first | (simp only [World.size_alloc, World.size_setCell, World.size_drew]; rfl) | rfl)
        go_wp2_with fail
        refine (awake_any _).mono ?_
        rintro e w5 ⟨rfl, hb5⟩
        obtain ⟨hc5, hf5, hz5⟩ := bcell hb5 (by first | (simp only [World.size_alloc, World.size_setCell, World.size_drew]; rfl) | rfl)
        go_wp2_with fail
        go_ret
        exact ⟨rfl, by (repeat' (first | (with_reducible exact Below.refl _ _) | (with_reducible assumption) | (with_reducible refine Below.alloc ?_ ?_ _) | (with_reducible refine bel_drewN ?_ _) | (with_reducible refine Below.drew ?_) | (with_reducible refine Below.setCell ?_ ?_ _) | (with_reducible refine bel_call ‹_› ?_ ?_) | go_size))⟩
end Go.Proofs.YtaocbebgdbeffaaDoor
