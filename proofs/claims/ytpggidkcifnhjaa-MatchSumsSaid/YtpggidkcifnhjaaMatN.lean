/- Conditions: the document's Is: patterns. -/
import Derived.Test.YtpggidkcifnhjaaMatM
set_option linter.unusedSimpArgs false
set_option linter.unusedVariables false
namespace Go.Proofs.Ytpggidkcifnhjaa
open Go.RowKit

theorem cmpB_less (a b : List UInt8) : Op.bytesLess a b = decide (Lib.compareBytes a b < 0) := by
  rw [cmpB_is]
  cases h : Op.bytesLess a b
  · simp only [Bool.false_eq_true, if_false]
    split <;> rfl
  · rfl
theorem cmpB_more : ∀ (a b : List UInt8), Op.bytesLess b a = decide (0 < Lib.compareBytes a b)
  | [], [] => by simp [Lib.compareBytes, Op.bytesLess]
  | [], _ :: _ => by simp [Lib.compareBytes, Op.bytesLess]
  | _ :: _, [] => by simp [Lib.compareBytes, Op.bytesLess]
  | x :: a, y :: b => by
    have ih := cmpB_more a b
    simp only [Lib.compareBytes, Op.bytesLess, ih]
    by_cases h : x < y
    · have h' : ¬ y < x := fun h' => absurd (UInt8.lt_trans h h') (UInt8.lt_irrefl _)
      have hne : y ≠ x := fun e => by subst e; exact absurd h (UInt8.lt_irrefl _)
      simp [h, h', hne]
    · by_cases h' : y < x
      · simp [h, h']
      · have hxy : x = y := UInt8.le_antisymm (UInt8.not_lt.1 h') (UInt8.not_lt.1 h)
        subst hxy
        simp

set_option maxRecDepth 100000 in
set_option maxHeartbeats 8000000 in
theorem ris_patSame (q : Nat) (hqo : q = 5 ∨ q = 0) (num : Int) (L0 : List Sg) (p : Option Addr) (cap : Nat) (k n : Int) (t : ByteArray) (hk : k = 0 ∨ k = 1 ∨ k = 2 ∨ k = 3) (hlen : L0.length ≤ 1000) (ht : t.size ≤ 900) (hok : ∀ x ∈ L0.map low, x.1 ≤ 2 ∧ x.2 < 256) (w : World) (hL : RdG sgE 2 w p (L0.map low).length (L0.map low)) :
    Calls Try.prog 8 #[.agg #[.string (sgB q), .bool false, .int .i64 num, .slice p (L0.map low).length cap], .agg #[.int .i64 k, .int .i64 n, .string t]] w fun e w' => e = .returned (.bool (isB q false num L0 k n t)) ∧ Below w.heap.size w w' := by
  have HN := Lib.hid (fun W => Val.refNumber_any k n t hk ht W)
  have HF : Hid (∀ W, Below w.heap.size w W → Calls Try.prog 24 #[.slice p (L0.map low).length cap, .string t] W fun e w' => e = .returned (.bool (fitB L0 t.data.toList)) ∧ Below W.heap.size W w') := fun W hW => by
    have := rfits_any (L0.map low) p cap t (by simpa using hlen) (by omega) hok W (hL.below hW)
    rw [sgAt_low] at this
    unfold fitB
    simpa using this
  have HV : Hid (isB q false num L0 k n t = ((if k = 0 then decide (L0.length = 0) else decide (k = 2) && fitB L0 t.data.toList) == decide (q = 5))) := by
    unfold Hid isB
    rw [if_neg (by simp), if_pos hqo]
  obtain ⟨r, hr⟩ : ∃ r, isB q false num L0 k n t = r := ⟨_, rfl⟩
  rw [hr] at HV ⊢
  obtain ⟨d, hd⟩ : ∃ d, Val.numV k n t = d := ⟨_, rfl⟩
  obtain ⟨kk, hkk⟩ : ∃ kk, Val.numK k t = kk := ⟨_, rfl⟩
  obtain ⟨mm, hmm⟩ : ∃ mm, Val.numM k n = mm := ⟨_, rfl⟩
  obtain ⟨tt, htt⟩ : ∃ tt, Val.numT k t = tt := ⟨_, rfl⟩
  rw [hd, hkk, hmm, htt] at HN
  obtain ⟨o, ho⟩ : ∃ o, fitB L0 t.data.toList = o := ⟨_, rfl⟩
  rw [ho] at HF HV
  obtain ⟨ln, hln⟩ : ∃ ln, (L0.map low).length = ln := ⟨_, rfl⟩
  have hlz : L0.length = ln := by rw [← hln]; simp
  rw [hln] at HF ⊢
  rw [hlz] at HV hlen
  have hkx : k = 0 ∨ k = 1 ∨ k = 3 ∨ (k = 2 ∧ kk = 0) ∨ (k = 2 ∧ kk ≠ 0) := by omega
  clear hr hd hkk hmm htt ho hln hlz hL hok ht hk
  by_cases h0 : ln = 0
  · subst h0
    rcases hkx with rfl | rfl | rfl | ⟨rfl, hk0⟩ | ⟨rfl, hk0⟩
    · rcases hqo with rfl | rfl
      · have hV := HV.out
        simp at hV
        rw [hV]
        clear hV
        simp only [sgB]
        clear HV
        go_enter Try.func8, Try.ntmps8
        go_wp2_with fail
        refine (HN.out _).mono ?_
        rintro e w1 ⟨rfl, hb1⟩
        obtain ⟨hc1, hf1, hz1⟩ := bcell hb1 (by first | (simp only [World.size_alloc, World.size_setCell, World.size_drew]; rfl) | rfl)
        go_wp2_with fail
        have q0 : (w1.alloc (.cells #[.int .i64 kk, .int .i64 mm, .string tt] 38)).cell? ⟨w.heap.size, 0, none⟩ = some (.string ⟨#[61]⟩) := by go_simp
        have q3 : (w1.alloc (.cells #[.int .i64 kk, .int .i64 mm, .string tt] 38)).cell? ⟨w.heap.size, 3, none⟩ = some (.slice p 0 cap) := by go_simp
        have p0 : (w1.alloc (.cells #[.int .i64 kk, .int .i64 mm, .string tt] 38)).cell? ⟨w.heap.size + 1, 0, none⟩ = some (.int .i64 0) := by go_simp
        have p2 : (w1.alloc (.cells #[.int .i64 kk, .int .i64 mm, .string tt] 38)).cell? ⟨w.heap.size + 1, 2, none⟩ = some (.string t) := by go_simp
        have hbx : Below w.heap.size w (w1.alloc (.cells #[.int .i64 kk, .int .i64 mm, .string tt] 38)) := by (repeat' (first | (with_reducible exact Below.refl _ _) | (with_reducible assumption) | (with_reducible refine Below.alloc ?_ ?_ _) | (with_reducible refine bel_drewN ?_ _) | (with_reducible refine Below.drew ?_) | (with_reducible refine Below.setCell ?_ ?_ _) | (with_reducible refine bel_call ‹_› ?_ ?_) | go_size))
        generalize (w1.alloc (.cells #[.int .i64 kk, .int .i64 mm, .string tt] 38)) = wx at q0 q3 p0 p2 hbx ⊢
        have r0 := cell_regrown q0
        have r3 := cell_regrown q3
        have s0 := cell_regrown p0
        have s2 := cell_regrown p2
        have cF : ∀ dd os, Calls Try.prog 24 #[.slice p 0 cap, .string t] (Go.Sort.grow (redrawn wx dd) os) fun e w'' => e = .returned (.bool o) ∧ ∃ p : Regrown, w'' = Go.Sort.grow (redrawn wx p.d) p.os := fun dd os => Calls.regrown_of (HF.out _ (bel_call (below_regrown wx dd os) hbx hbx.size))
        refine wp_region_quiet_below (by kernel_rfl) (by kernel_rfl) ?_
        repeat (go_big_quiet_step ((first | with_reducible exact cF _ _)))
        refine wpQuiet_nil ?_
        intro _ hw'
        obtain ⟨⟨dq, osq⟩, hw''⟩ := hw'
        subst hw''
        clear r0 r3 s0 s2 cF
        have hbq : Below w.heap.size w (Go.Sort.grow (redrawn wx dq) osq) := bel_call (below_regrown wx dq osq) hbx hbx.size
        go_wp2_with fail
        go_ret
        exact ⟨by first | rfl | (cases o <;> rfl), hbq⟩

      · have hV := HV.out
        simp at hV
        rw [hV]
        clear hV
        simp only [sgB]
        clear HV
        go_enter Try.func8, Try.ntmps8
        go_wp2_with fail
        refine (HN.out _).mono ?_
        rintro e w1 ⟨rfl, hb1⟩
        obtain ⟨hc1, hf1, hz1⟩ := bcell hb1 (by first | (simp only [World.size_alloc, World.size_setCell, World.size_drew]; rfl) | rfl)
        go_wp2_with fail
        have q0 : (w1.alloc (.cells #[.int .i64 kk, .int .i64 mm, .string tt] 38)).cell? ⟨w.heap.size, 0, none⟩ = some (.string ⟨#[60, 62]⟩) := by go_simp
        have q3 : (w1.alloc (.cells #[.int .i64 kk, .int .i64 mm, .string tt] 38)).cell? ⟨w.heap.size, 3, none⟩ = some (.slice p 0 cap) := by go_simp
        have p0 : (w1.alloc (.cells #[.int .i64 kk, .int .i64 mm, .string tt] 38)).cell? ⟨w.heap.size + 1, 0, none⟩ = some (.int .i64 0) := by go_simp
        have p2 : (w1.alloc (.cells #[.int .i64 kk, .int .i64 mm, .string tt] 38)).cell? ⟨w.heap.size + 1, 2, none⟩ = some (.string t) := by go_simp
        have hbx : Below w.heap.size w (w1.alloc (.cells #[.int .i64 kk, .int .i64 mm, .string tt] 38)) := by (repeat' (first | (with_reducible exact Below.refl _ _) | (with_reducible assumption) | (with_reducible refine Below.alloc ?_ ?_ _) | (with_reducible refine bel_drewN ?_ _) | (with_reducible refine Below.drew ?_) | (with_reducible refine Below.setCell ?_ ?_ _) | (with_reducible refine bel_call ‹_› ?_ ?_) | go_size))
        generalize (w1.alloc (.cells #[.int .i64 kk, .int .i64 mm, .string tt] 38)) = wx at q0 q3 p0 p2 hbx ⊢
        have r0 := cell_regrown q0
        have r3 := cell_regrown q3
        have s0 := cell_regrown p0
        have s2 := cell_regrown p2
        have cF : ∀ dd os, Calls Try.prog 24 #[.slice p 0 cap, .string t] (Go.Sort.grow (redrawn wx dd) os) fun e w'' => e = .returned (.bool o) ∧ ∃ p : Regrown, w'' = Go.Sort.grow (redrawn wx p.d) p.os := fun dd os => Calls.regrown_of (HF.out _ (bel_call (below_regrown wx dd os) hbx hbx.size))
        refine wp_region_quiet_below (by kernel_rfl) (by kernel_rfl) ?_
        repeat (go_big_quiet_step ((first | with_reducible exact cF _ _)))
        refine wpQuiet_nil ?_
        intro _ hw'
        obtain ⟨⟨dq, osq⟩, hw''⟩ := hw'
        subst hw''
        clear r0 r3 s0 s2 cF
        have hbq : Below w.heap.size w (Go.Sort.grow (redrawn wx dq) osq) := bel_call (below_regrown wx dq osq) hbx hbx.size
        go_wp2_with fail
        go_ret
        exact ⟨by first | rfl | (cases o <;> rfl), hbq⟩

    · rcases hqo with rfl | rfl
      · have hV := HV.out
        simp at hV
        rw [hV]
        clear hV
        simp only [sgB]
        clear HV
        go_enter Try.func8, Try.ntmps8
        go_wp2_with fail
        refine (HN.out _).mono ?_
        rintro e w1 ⟨rfl, hb1⟩
        obtain ⟨hc1, hf1, hz1⟩ := bcell hb1 (by first | (simp only [World.size_alloc, World.size_setCell, World.size_drew]; rfl) | rfl)
        go_wp2_with fail
        have q0 : (w1.alloc (.cells #[.int .i64 kk, .int .i64 mm, .string tt] 38)).cell? ⟨w.heap.size, 0, none⟩ = some (.string ⟨#[61]⟩) := by go_simp
        have q3 : (w1.alloc (.cells #[.int .i64 kk, .int .i64 mm, .string tt] 38)).cell? ⟨w.heap.size, 3, none⟩ = some (.slice p 0 cap) := by go_simp
        have p0 : (w1.alloc (.cells #[.int .i64 kk, .int .i64 mm, .string tt] 38)).cell? ⟨w.heap.size + 1, 0, none⟩ = some (.int .i64 1) := by go_simp
        have p2 : (w1.alloc (.cells #[.int .i64 kk, .int .i64 mm, .string tt] 38)).cell? ⟨w.heap.size + 1, 2, none⟩ = some (.string t) := by go_simp
        have hbx : Below w.heap.size w (w1.alloc (.cells #[.int .i64 kk, .int .i64 mm, .string tt] 38)) := by (repeat' (first | (with_reducible exact Below.refl _ _) | (with_reducible assumption) | (with_reducible refine Below.alloc ?_ ?_ _) | (with_reducible refine bel_drewN ?_ _) | (with_reducible refine Below.drew ?_) | (with_reducible refine Below.setCell ?_ ?_ _) | (with_reducible refine bel_call ‹_› ?_ ?_) | go_size))
        generalize (w1.alloc (.cells #[.int .i64 kk, .int .i64 mm, .string tt] 38)) = wx at q0 q3 p0 p2 hbx ⊢
        have r0 := cell_regrown q0
        have r3 := cell_regrown q3
        have s0 := cell_regrown p0
        have s2 := cell_regrown p2
        have cF : ∀ dd os, Calls Try.prog 24 #[.slice p 0 cap, .string t] (Go.Sort.grow (redrawn wx dd) os) fun e w'' => e = .returned (.bool o) ∧ ∃ p : Regrown, w'' = Go.Sort.grow (redrawn wx p.d) p.os := fun dd os => Calls.regrown_of (HF.out _ (bel_call (below_regrown wx dd os) hbx hbx.size))
        refine wp_region_quiet_below (by kernel_rfl) (by kernel_rfl) ?_
        repeat (go_big_quiet_step ((first | with_reducible exact cF _ _)))
        refine wpQuiet_nil ?_
        intro _ hw'
        obtain ⟨⟨dq, osq⟩, hw''⟩ := hw'
        subst hw''
        clear r0 r3 s0 s2 cF
        have hbq : Below w.heap.size w (Go.Sort.grow (redrawn wx dq) osq) := bel_call (below_regrown wx dq osq) hbx hbx.size
        go_wp2_with fail
        go_ret
        exact ⟨by first | rfl | (cases o <;> rfl), hbq⟩

      · have hV := HV.out
        simp at hV
        rw [hV]
        clear hV
        simp only [sgB]
        clear HV
        go_enter Try.func8, Try.ntmps8
        go_wp2_with fail
        refine (HN.out _).mono ?_
        rintro e w1 ⟨rfl, hb1⟩
        obtain ⟨hc1, hf1, hz1⟩ := bcell hb1 (by first | (simp only [World.size_alloc, World.size_setCell, World.size_drew]; rfl) | rfl)
        go_wp2_with fail
        have q0 : (w1.alloc (.cells #[.int .i64 kk, .int .i64 mm, .string tt] 38)).cell? ⟨w.heap.size, 0, none⟩ = some (.string ⟨#[60, 62]⟩) := by go_simp
        have q3 : (w1.alloc (.cells #[.int .i64 kk, .int .i64 mm, .string tt] 38)).cell? ⟨w.heap.size, 3, none⟩ = some (.slice p 0 cap) := by go_simp
        have p0 : (w1.alloc (.cells #[.int .i64 kk, .int .i64 mm, .string tt] 38)).cell? ⟨w.heap.size + 1, 0, none⟩ = some (.int .i64 1) := by go_simp
        have p2 : (w1.alloc (.cells #[.int .i64 kk, .int .i64 mm, .string tt] 38)).cell? ⟨w.heap.size + 1, 2, none⟩ = some (.string t) := by go_simp
        have hbx : Below w.heap.size w (w1.alloc (.cells #[.int .i64 kk, .int .i64 mm, .string tt] 38)) := by (repeat' (first | (with_reducible exact Below.refl _ _) | (with_reducible assumption) | (with_reducible refine Below.alloc ?_ ?_ _) | (with_reducible refine bel_drewN ?_ _) | (with_reducible refine Below.drew ?_) | (with_reducible refine Below.setCell ?_ ?_ _) | (with_reducible refine bel_call ‹_› ?_ ?_) | go_size))
        generalize (w1.alloc (.cells #[.int .i64 kk, .int .i64 mm, .string tt] 38)) = wx at q0 q3 p0 p2 hbx ⊢
        have r0 := cell_regrown q0
        have r3 := cell_regrown q3
        have s0 := cell_regrown p0
        have s2 := cell_regrown p2
        have cF : ∀ dd os, Calls Try.prog 24 #[.slice p 0 cap, .string t] (Go.Sort.grow (redrawn wx dd) os) fun e w'' => e = .returned (.bool o) ∧ ∃ p : Regrown, w'' = Go.Sort.grow (redrawn wx p.d) p.os := fun dd os => Calls.regrown_of (HF.out _ (bel_call (below_regrown wx dd os) hbx hbx.size))
        refine wp_region_quiet_below (by kernel_rfl) (by kernel_rfl) ?_
        repeat (go_big_quiet_step ((first | with_reducible exact cF _ _)))
        refine wpQuiet_nil ?_
        intro _ hw'
        obtain ⟨⟨dq, osq⟩, hw''⟩ := hw'
        subst hw''
        clear r0 r3 s0 s2 cF
        have hbq : Below w.heap.size w (Go.Sort.grow (redrawn wx dq) osq) := bel_call (below_regrown wx dq osq) hbx hbx.size
        go_wp2_with fail
        go_ret
        exact ⟨by first | rfl | (cases o <;> rfl), hbq⟩

    · rcases hqo with rfl | rfl
      · have hV := HV.out
        simp at hV
        rw [hV]
        clear hV
        simp only [sgB]
        clear HV
        go_enter Try.func8, Try.ntmps8
        go_wp2_with fail
        refine (HN.out _).mono ?_
        rintro e w1 ⟨rfl, hb1⟩
        obtain ⟨hc1, hf1, hz1⟩ := bcell hb1 (by first | (simp only [World.size_alloc, World.size_setCell, World.size_drew]; rfl) | rfl)
        go_wp2_with fail
        have q0 : (w1.alloc (.cells #[.int .i64 kk, .int .i64 mm, .string tt] 38)).cell? ⟨w.heap.size, 0, none⟩ = some (.string ⟨#[61]⟩) := by go_simp
        have q3 : (w1.alloc (.cells #[.int .i64 kk, .int .i64 mm, .string tt] 38)).cell? ⟨w.heap.size, 3, none⟩ = some (.slice p 0 cap) := by go_simp
        have p0 : (w1.alloc (.cells #[.int .i64 kk, .int .i64 mm, .string tt] 38)).cell? ⟨w.heap.size + 1, 0, none⟩ = some (.int .i64 3) := by go_simp
        have p2 : (w1.alloc (.cells #[.int .i64 kk, .int .i64 mm, .string tt] 38)).cell? ⟨w.heap.size + 1, 2, none⟩ = some (.string t) := by go_simp
        have hbx : Below w.heap.size w (w1.alloc (.cells #[.int .i64 kk, .int .i64 mm, .string tt] 38)) := by (repeat' (first | (with_reducible exact Below.refl _ _) | (with_reducible assumption) | (with_reducible refine Below.alloc ?_ ?_ _) | (with_reducible refine bel_drewN ?_ _) | (with_reducible refine Below.drew ?_) | (with_reducible refine Below.setCell ?_ ?_ _) | (with_reducible refine bel_call ‹_› ?_ ?_) | go_size))
        generalize (w1.alloc (.cells #[.int .i64 kk, .int .i64 mm, .string tt] 38)) = wx at q0 q3 p0 p2 hbx ⊢
        have r0 := cell_regrown q0
        have r3 := cell_regrown q3
        have s0 := cell_regrown p0
        have s2 := cell_regrown p2
        have cF : ∀ dd os, Calls Try.prog 24 #[.slice p 0 cap, .string t] (Go.Sort.grow (redrawn wx dd) os) fun e w'' => e = .returned (.bool o) ∧ ∃ p : Regrown, w'' = Go.Sort.grow (redrawn wx p.d) p.os := fun dd os => Calls.regrown_of (HF.out _ (bel_call (below_regrown wx dd os) hbx hbx.size))
        refine wp_region_quiet_below (by kernel_rfl) (by kernel_rfl) ?_
        repeat (go_big_quiet_step ((first | with_reducible exact cF _ _)))
        refine wpQuiet_nil ?_
        intro _ hw'
        obtain ⟨⟨dq, osq⟩, hw''⟩ := hw'
        subst hw''
        clear r0 r3 s0 s2 cF
        have hbq : Below w.heap.size w (Go.Sort.grow (redrawn wx dq) osq) := bel_call (below_regrown wx dq osq) hbx hbx.size
        go_wp2_with fail
        go_ret
        exact ⟨by first | rfl | (cases o <;> rfl), hbq⟩

      · have hV := HV.out
        simp at hV
        rw [hV]
        clear hV
        simp only [sgB]
        clear HV
        go_enter Try.func8, Try.ntmps8
        go_wp2_with fail
        refine (HN.out _).mono ?_
        rintro e w1 ⟨rfl, hb1⟩
        obtain ⟨hc1, hf1, hz1⟩ := bcell hb1 (by first | (simp only [World.size_alloc, World.size_setCell, World.size_drew]; rfl) | rfl)
        go_wp2_with fail
        have q0 : (w1.alloc (.cells #[.int .i64 kk, .int .i64 mm, .string tt] 38)).cell? ⟨w.heap.size, 0, none⟩ = some (.string ⟨#[60, 62]⟩) := by go_simp
        have q3 : (w1.alloc (.cells #[.int .i64 kk, .int .i64 mm, .string tt] 38)).cell? ⟨w.heap.size, 3, none⟩ = some (.slice p 0 cap) := by go_simp
        have p0 : (w1.alloc (.cells #[.int .i64 kk, .int .i64 mm, .string tt] 38)).cell? ⟨w.heap.size + 1, 0, none⟩ = some (.int .i64 3) := by go_simp
        have p2 : (w1.alloc (.cells #[.int .i64 kk, .int .i64 mm, .string tt] 38)).cell? ⟨w.heap.size + 1, 2, none⟩ = some (.string t) := by go_simp
        have hbx : Below w.heap.size w (w1.alloc (.cells #[.int .i64 kk, .int .i64 mm, .string tt] 38)) := by (repeat' (first | (with_reducible exact Below.refl _ _) | (with_reducible assumption) | (with_reducible refine Below.alloc ?_ ?_ _) | (with_reducible refine bel_drewN ?_ _) | (with_reducible refine Below.drew ?_) | (with_reducible refine Below.setCell ?_ ?_ _) | (with_reducible refine bel_call ‹_› ?_ ?_) | go_size))
        generalize (w1.alloc (.cells #[.int .i64 kk, .int .i64 mm, .string tt] 38)) = wx at q0 q3 p0 p2 hbx ⊢
        have r0 := cell_regrown q0
        have r3 := cell_regrown q3
        have s0 := cell_regrown p0
        have s2 := cell_regrown p2
        have cF : ∀ dd os, Calls Try.prog 24 #[.slice p 0 cap, .string t] (Go.Sort.grow (redrawn wx dd) os) fun e w'' => e = .returned (.bool o) ∧ ∃ p : Regrown, w'' = Go.Sort.grow (redrawn wx p.d) p.os := fun dd os => Calls.regrown_of (HF.out _ (bel_call (below_regrown wx dd os) hbx hbx.size))
        refine wp_region_quiet_below (by kernel_rfl) (by kernel_rfl) ?_
        repeat (go_big_quiet_step ((first | with_reducible exact cF _ _)))
        refine wpQuiet_nil ?_
        intro _ hw'
        obtain ⟨⟨dq, osq⟩, hw''⟩ := hw'
        subst hw''
        clear r0 r3 s0 s2 cF
        have hbq : Below w.heap.size w (Go.Sort.grow (redrawn wx dq) osq) := bel_call (below_regrown wx dq osq) hbx hbx.size
        go_wp2_with fail
        go_ret
        exact ⟨by first | rfl | (cases o <;> rfl), hbq⟩

    · rcases hqo with rfl | rfl
      · have hV := HV.out
        simp at hV
        rw [hV]
        clear hV
        have hkb : (kk == 0) = true := by simp [hk0]
        clear hk0
        simp only [sgB]
        clear HV
        go_enter Try.func8, Try.ntmps8
        go_wp2_with fail
        refine (HN.out _).mono ?_
        rintro e w1 ⟨rfl, hb1⟩
        obtain ⟨hc1, hf1, hz1⟩ := bcell hb1 (by first | (simp only [World.size_alloc, World.size_setCell, World.size_drew]; rfl) | rfl)
        go_wp2_with fail
        have q0 : (w1.alloc (.cells #[.int .i64 kk, .int .i64 mm, .string tt] 38)).cell? ⟨w.heap.size, 0, none⟩ = some (.string ⟨#[61]⟩) := by go_simp
        have q3 : (w1.alloc (.cells #[.int .i64 kk, .int .i64 mm, .string tt] 38)).cell? ⟨w.heap.size, 3, none⟩ = some (.slice p 0 cap) := by go_simp
        have p0 : (w1.alloc (.cells #[.int .i64 kk, .int .i64 mm, .string tt] 38)).cell? ⟨w.heap.size + 1, 0, none⟩ = some (.int .i64 2) := by go_simp
        have p2 : (w1.alloc (.cells #[.int .i64 kk, .int .i64 mm, .string tt] 38)).cell? ⟨w.heap.size + 1, 2, none⟩ = some (.string t) := by go_simp
        have hbx : Below w.heap.size w (w1.alloc (.cells #[.int .i64 kk, .int .i64 mm, .string tt] 38)) := by (repeat' (first | (with_reducible exact Below.refl _ _) | (with_reducible assumption) | (with_reducible refine Below.alloc ?_ ?_ _) | (with_reducible refine bel_drewN ?_ _) | (with_reducible refine Below.drew ?_) | (with_reducible refine Below.setCell ?_ ?_ _) | (with_reducible refine bel_call ‹_› ?_ ?_) | go_size))
        generalize (w1.alloc (.cells #[.int .i64 kk, .int .i64 mm, .string tt] 38)) = wx at q0 q3 p0 p2 hbx ⊢
        have r0 := cell_regrown q0
        have r3 := cell_regrown q3
        have s0 := cell_regrown p0
        have s2 := cell_regrown p2
        have cF : ∀ dd os, Calls Try.prog 24 #[.slice p 0 cap, .string t] (Go.Sort.grow (redrawn wx dd) os) fun e w'' => e = .returned (.bool o) ∧ ∃ p : Regrown, w'' = Go.Sort.grow (redrawn wx p.d) p.os := fun dd os => Calls.regrown_of (HF.out _ (bel_call (below_regrown wx dd os) hbx hbx.size))
        refine wp_region_quiet_below (by kernel_rfl) (by kernel_rfl) ?_
        repeat (go_big_quiet_step ((first | with_reducible exact cF _ _)))
        refine wpQuiet_nil ?_
        intro _ hw'
        obtain ⟨⟨dq, osq⟩, hw''⟩ := hw'
        subst hw''
        clear r0 r3 s0 s2 cF
        have hbq : Below w.heap.size w (Go.Sort.grow (redrawn wx dq) osq) := bel_call (below_regrown wx dq osq) hbx hbx.size
        go_wp2_with fail
        go_ret
        exact ⟨by first | rfl | (cases o <;> rfl), hbq⟩

      · have hV := HV.out
        simp at hV
        rw [hV]
        clear hV
        have hkb : (kk == 0) = true := by simp [hk0]
        clear hk0
        simp only [sgB]
        clear HV
        go_enter Try.func8, Try.ntmps8
        go_wp2_with fail
        refine (HN.out _).mono ?_
        rintro e w1 ⟨rfl, hb1⟩
        obtain ⟨hc1, hf1, hz1⟩ := bcell hb1 (by first | (simp only [World.size_alloc, World.size_setCell, World.size_drew]; rfl) | rfl)
        go_wp2_with fail
        have q0 : (w1.alloc (.cells #[.int .i64 kk, .int .i64 mm, .string tt] 38)).cell? ⟨w.heap.size, 0, none⟩ = some (.string ⟨#[60, 62]⟩) := by go_simp
        have q3 : (w1.alloc (.cells #[.int .i64 kk, .int .i64 mm, .string tt] 38)).cell? ⟨w.heap.size, 3, none⟩ = some (.slice p 0 cap) := by go_simp
        have p0 : (w1.alloc (.cells #[.int .i64 kk, .int .i64 mm, .string tt] 38)).cell? ⟨w.heap.size + 1, 0, none⟩ = some (.int .i64 2) := by go_simp
        have p2 : (w1.alloc (.cells #[.int .i64 kk, .int .i64 mm, .string tt] 38)).cell? ⟨w.heap.size + 1, 2, none⟩ = some (.string t) := by go_simp
        have hbx : Below w.heap.size w (w1.alloc (.cells #[.int .i64 kk, .int .i64 mm, .string tt] 38)) := by (repeat' (first | (with_reducible exact Below.refl _ _) | (with_reducible assumption) | (with_reducible refine Below.alloc ?_ ?_ _) | (with_reducible refine bel_drewN ?_ _) | (with_reducible refine Below.drew ?_) | (with_reducible refine Below.setCell ?_ ?_ _) | (with_reducible refine bel_call ‹_› ?_ ?_) | go_size))
        generalize (w1.alloc (.cells #[.int .i64 kk, .int .i64 mm, .string tt] 38)) = wx at q0 q3 p0 p2 hbx ⊢
        have r0 := cell_regrown q0
        have r3 := cell_regrown q3
        have s0 := cell_regrown p0
        have s2 := cell_regrown p2
        have cF : ∀ dd os, Calls Try.prog 24 #[.slice p 0 cap, .string t] (Go.Sort.grow (redrawn wx dd) os) fun e w'' => e = .returned (.bool o) ∧ ∃ p : Regrown, w'' = Go.Sort.grow (redrawn wx p.d) p.os := fun dd os => Calls.regrown_of (HF.out _ (bel_call (below_regrown wx dd os) hbx hbx.size))
        refine wp_region_quiet_below (by kernel_rfl) (by kernel_rfl) ?_
        repeat (go_big_quiet_step ((first | with_reducible exact cF _ _)))
        refine wpQuiet_nil ?_
        intro _ hw'
        obtain ⟨⟨dq, osq⟩, hw''⟩ := hw'
        subst hw''
        clear r0 r3 s0 s2 cF
        have hbq : Below w.heap.size w (Go.Sort.grow (redrawn wx dq) osq) := bel_call (below_regrown wx dq osq) hbx hbx.size
        go_wp2_with fail
        go_ret
        exact ⟨by first | rfl | (cases o <;> rfl), hbq⟩

    · rcases hqo with rfl | rfl
      · have hV := HV.out
        simp at hV
        rw [hV]
        clear hV
        have hkb : (kk == 0) = false := by simp [hk0]
        clear hk0
        simp only [sgB]
        clear HV
        go_enter Try.func8, Try.ntmps8
        go_wp2_with fail
        refine (HN.out _).mono ?_
        rintro e w1 ⟨rfl, hb1⟩
        obtain ⟨hc1, hf1, hz1⟩ := bcell hb1 (by first | (simp only [World.size_alloc, World.size_setCell, World.size_drew]; rfl) | rfl)
        go_wp2_with fail
        have q0 : (w1.alloc (.cells #[.int .i64 kk, .int .i64 mm, .string tt] 38)).cell? ⟨w.heap.size, 0, none⟩ = some (.string ⟨#[61]⟩) := by go_simp
        have q3 : (w1.alloc (.cells #[.int .i64 kk, .int .i64 mm, .string tt] 38)).cell? ⟨w.heap.size, 3, none⟩ = some (.slice p 0 cap) := by go_simp
        have p0 : (w1.alloc (.cells #[.int .i64 kk, .int .i64 mm, .string tt] 38)).cell? ⟨w.heap.size + 1, 0, none⟩ = some (.int .i64 2) := by go_simp
        have p2 : (w1.alloc (.cells #[.int .i64 kk, .int .i64 mm, .string tt] 38)).cell? ⟨w.heap.size + 1, 2, none⟩ = some (.string t) := by go_simp
        have hbx : Below w.heap.size w (w1.alloc (.cells #[.int .i64 kk, .int .i64 mm, .string tt] 38)) := by (repeat' (first | (with_reducible exact Below.refl _ _) | (with_reducible assumption) | (with_reducible refine Below.alloc ?_ ?_ _) | (with_reducible refine bel_drewN ?_ _) | (with_reducible refine Below.drew ?_) | (with_reducible refine Below.setCell ?_ ?_ _) | (with_reducible refine bel_call ‹_› ?_ ?_) | go_size))
        generalize (w1.alloc (.cells #[.int .i64 kk, .int .i64 mm, .string tt] 38)) = wx at q0 q3 p0 p2 hbx ⊢
        have r0 := cell_regrown q0
        have r3 := cell_regrown q3
        have s0 := cell_regrown p0
        have s2 := cell_regrown p2
        have cF : ∀ dd os, Calls Try.prog 24 #[.slice p 0 cap, .string t] (Go.Sort.grow (redrawn wx dd) os) fun e w'' => e = .returned (.bool o) ∧ ∃ p : Regrown, w'' = Go.Sort.grow (redrawn wx p.d) p.os := fun dd os => Calls.regrown_of (HF.out _ (bel_call (below_regrown wx dd os) hbx hbx.size))
        refine wp_region_quiet_below (by kernel_rfl) (by kernel_rfl) ?_
        repeat (go_big_quiet_step ((first | with_reducible exact cF _ _)))
        refine wpQuiet_nil ?_
        intro _ hw'
        obtain ⟨⟨dq, osq⟩, hw''⟩ := hw'
        subst hw''
        clear r0 r3 s0 s2 cF
        have hbq : Below w.heap.size w (Go.Sort.grow (redrawn wx dq) osq) := bel_call (below_regrown wx dq osq) hbx hbx.size
        go_wp2_with fail
        go_ret
        exact ⟨by first | rfl | (cases o <;> rfl), hbq⟩

      · have hV := HV.out
        simp at hV
        rw [hV]
        clear hV
        have hkb : (kk == 0) = false := by simp [hk0]
        clear hk0
        simp only [sgB]
        clear HV
        go_enter Try.func8, Try.ntmps8
        go_wp2_with fail
        refine (HN.out _).mono ?_
        rintro e w1 ⟨rfl, hb1⟩
        obtain ⟨hc1, hf1, hz1⟩ := bcell hb1 (by first | (simp only [World.size_alloc, World.size_setCell, World.size_drew]; rfl) | rfl)
        go_wp2_with fail
        have q0 : (w1.alloc (.cells #[.int .i64 kk, .int .i64 mm, .string tt] 38)).cell? ⟨w.heap.size, 0, none⟩ = some (.string ⟨#[60, 62]⟩) := by go_simp
        have q3 : (w1.alloc (.cells #[.int .i64 kk, .int .i64 mm, .string tt] 38)).cell? ⟨w.heap.size, 3, none⟩ = some (.slice p 0 cap) := by go_simp
        have p0 : (w1.alloc (.cells #[.int .i64 kk, .int .i64 mm, .string tt] 38)).cell? ⟨w.heap.size + 1, 0, none⟩ = some (.int .i64 2) := by go_simp
        have p2 : (w1.alloc (.cells #[.int .i64 kk, .int .i64 mm, .string tt] 38)).cell? ⟨w.heap.size + 1, 2, none⟩ = some (.string t) := by go_simp
        have hbx : Below w.heap.size w (w1.alloc (.cells #[.int .i64 kk, .int .i64 mm, .string tt] 38)) := by (repeat' (first | (with_reducible exact Below.refl _ _) | (with_reducible assumption) | (with_reducible refine Below.alloc ?_ ?_ _) | (with_reducible refine bel_drewN ?_ _) | (with_reducible refine Below.drew ?_) | (with_reducible refine Below.setCell ?_ ?_ _) | (with_reducible refine bel_call ‹_› ?_ ?_) | go_size))
        generalize (w1.alloc (.cells #[.int .i64 kk, .int .i64 mm, .string tt] 38)) = wx at q0 q3 p0 p2 hbx ⊢
        have r0 := cell_regrown q0
        have r3 := cell_regrown q3
        have s0 := cell_regrown p0
        have s2 := cell_regrown p2
        have cF : ∀ dd os, Calls Try.prog 24 #[.slice p 0 cap, .string t] (Go.Sort.grow (redrawn wx dd) os) fun e w'' => e = .returned (.bool o) ∧ ∃ p : Regrown, w'' = Go.Sort.grow (redrawn wx p.d) p.os := fun dd os => Calls.regrown_of (HF.out _ (bel_call (below_regrown wx dd os) hbx hbx.size))
        refine wp_region_quiet_below (by kernel_rfl) (by kernel_rfl) ?_
        repeat (go_big_quiet_step ((first | with_reducible exact cF _ _)))
        refine wpQuiet_nil ?_
        intro _ hw'
        obtain ⟨⟨dq, osq⟩, hw''⟩ := hw'
        subst hw''
        clear r0 r3 s0 s2 cF
        have hbq : Below w.heap.size w (Go.Sort.grow (redrawn wx dq) osq) := bel_call (below_regrown wx dq osq) hbx hbx.size
        go_wp2_with fail
        go_ret
        exact ⟨by first | rfl | (cases o <;> rfl), hbq⟩

  · have hl0 : ((ln : Int) == 0) = false := by simp; omega
    rcases hkx with rfl | rfl | rfl | ⟨rfl, hk0⟩ | ⟨rfl, hk0⟩
    · rcases hqo with rfl | rfl
      · have hV := HV.out
        simp [h0] at hV
        rw [hV]
        clear hV
        simp only [sgB]
        clear HV
        go_enter Try.func8, Try.ntmps8
        go_wp2_with fail
        refine (HN.out _).mono ?_
        rintro e w1 ⟨rfl, hb1⟩
        obtain ⟨hc1, hf1, hz1⟩ := bcell hb1 (by first | (simp only [World.size_alloc, World.size_setCell, World.size_drew]; rfl) | rfl)
        go_wp2_with fail
        have q0 : (w1.alloc (.cells #[.int .i64 kk, .int .i64 mm, .string tt] 38)).cell? ⟨w.heap.size, 0, none⟩ = some (.string ⟨#[61]⟩) := by go_simp
        have q3 : (w1.alloc (.cells #[.int .i64 kk, .int .i64 mm, .string tt] 38)).cell? ⟨w.heap.size, 3, none⟩ = some (.slice p ln cap) := by go_simp
        have p0 : (w1.alloc (.cells #[.int .i64 kk, .int .i64 mm, .string tt] 38)).cell? ⟨w.heap.size + 1, 0, none⟩ = some (.int .i64 0) := by go_simp
        have p2 : (w1.alloc (.cells #[.int .i64 kk, .int .i64 mm, .string tt] 38)).cell? ⟨w.heap.size + 1, 2, none⟩ = some (.string t) := by go_simp
        have hbx : Below w.heap.size w (w1.alloc (.cells #[.int .i64 kk, .int .i64 mm, .string tt] 38)) := by (repeat' (first | (with_reducible exact Below.refl _ _) | (with_reducible assumption) | (with_reducible refine Below.alloc ?_ ?_ _) | (with_reducible refine bel_drewN ?_ _) | (with_reducible refine Below.drew ?_) | (with_reducible refine Below.setCell ?_ ?_ _) | (with_reducible refine bel_call ‹_› ?_ ?_) | go_size))
        generalize (w1.alloc (.cells #[.int .i64 kk, .int .i64 mm, .string tt] 38)) = wx at q0 q3 p0 p2 hbx ⊢
        have r0 := cell_regrown q0
        have r3 := cell_regrown q3
        have s0 := cell_regrown p0
        have s2 := cell_regrown p2
        have cF : ∀ dd os, Calls Try.prog 24 #[.slice p ln cap, .string t] (Go.Sort.grow (redrawn wx dd) os) fun e w'' => e = .returned (.bool o) ∧ ∃ p : Regrown, w'' = Go.Sort.grow (redrawn wx p.d) p.os := fun dd os => Calls.regrown_of (HF.out _ (bel_call (below_regrown wx dd os) hbx hbx.size))
        refine wp_region_quiet_below (by kernel_rfl) (by kernel_rfl) ?_
        repeat (go_big_quiet_step ((first | with_reducible exact cF _ _)))
        refine wpQuiet_nil ?_
        intro _ hw'
        obtain ⟨⟨dq, osq⟩, hw''⟩ := hw'
        subst hw''
        clear r0 r3 s0 s2 cF
        have hbq : Below w.heap.size w (Go.Sort.grow (redrawn wx dq) osq) := bel_call (below_regrown wx dq osq) hbx hbx.size
        go_wp2_with fail
        go_ret
        exact ⟨by first | rfl | (cases o <;> rfl), hbq⟩

      · have hV := HV.out
        simp [h0] at hV
        rw [hV]
        clear hV
        simp only [sgB]
        clear HV
        go_enter Try.func8, Try.ntmps8
        go_wp2_with fail
        refine (HN.out _).mono ?_
        rintro e w1 ⟨rfl, hb1⟩
        obtain ⟨hc1, hf1, hz1⟩ := bcell hb1 (by first | (simp only [World.size_alloc, World.size_setCell, World.size_drew]; rfl) | rfl)
        go_wp2_with fail
        have q0 : (w1.alloc (.cells #[.int .i64 kk, .int .i64 mm, .string tt] 38)).cell? ⟨w.heap.size, 0, none⟩ = some (.string ⟨#[60, 62]⟩) := by go_simp
        have q3 : (w1.alloc (.cells #[.int .i64 kk, .int .i64 mm, .string tt] 38)).cell? ⟨w.heap.size, 3, none⟩ = some (.slice p ln cap) := by go_simp
        have p0 : (w1.alloc (.cells #[.int .i64 kk, .int .i64 mm, .string tt] 38)).cell? ⟨w.heap.size + 1, 0, none⟩ = some (.int .i64 0) := by go_simp
        have p2 : (w1.alloc (.cells #[.int .i64 kk, .int .i64 mm, .string tt] 38)).cell? ⟨w.heap.size + 1, 2, none⟩ = some (.string t) := by go_simp
        have hbx : Below w.heap.size w (w1.alloc (.cells #[.int .i64 kk, .int .i64 mm, .string tt] 38)) := by (repeat' (first | (with_reducible exact Below.refl _ _) | (with_reducible assumption) | (with_reducible refine Below.alloc ?_ ?_ _) | (with_reducible refine bel_drewN ?_ _) | (with_reducible refine Below.drew ?_) | (with_reducible refine Below.setCell ?_ ?_ _) | (with_reducible refine bel_call ‹_› ?_ ?_) | go_size))
        generalize (w1.alloc (.cells #[.int .i64 kk, .int .i64 mm, .string tt] 38)) = wx at q0 q3 p0 p2 hbx ⊢
        have r0 := cell_regrown q0
        have r3 := cell_regrown q3
        have s0 := cell_regrown p0
        have s2 := cell_regrown p2
        have cF : ∀ dd os, Calls Try.prog 24 #[.slice p ln cap, .string t] (Go.Sort.grow (redrawn wx dd) os) fun e w'' => e = .returned (.bool o) ∧ ∃ p : Regrown, w'' = Go.Sort.grow (redrawn wx p.d) p.os := fun dd os => Calls.regrown_of (HF.out _ (bel_call (below_regrown wx dd os) hbx hbx.size))
        refine wp_region_quiet_below (by kernel_rfl) (by kernel_rfl) ?_
        repeat (go_big_quiet_step ((first | with_reducible exact cF _ _)))
        refine wpQuiet_nil ?_
        intro _ hw'
        obtain ⟨⟨dq, osq⟩, hw''⟩ := hw'
        subst hw''
        clear r0 r3 s0 s2 cF
        have hbq : Below w.heap.size w (Go.Sort.grow (redrawn wx dq) osq) := bel_call (below_regrown wx dq osq) hbx hbx.size
        go_wp2_with fail
        go_ret
        exact ⟨by first | rfl | (cases o <;> rfl), hbq⟩

    · rcases hqo with rfl | rfl
      · have hV := HV.out
        simp [h0] at hV
        rw [hV]
        clear hV
        simp only [sgB]
        clear HV
        go_enter Try.func8, Try.ntmps8
        go_wp2_with fail
        refine (HN.out _).mono ?_
        rintro e w1 ⟨rfl, hb1⟩
        obtain ⟨hc1, hf1, hz1⟩ := bcell hb1 (by first | (simp only [World.size_alloc, World.size_setCell, World.size_drew]; rfl) | rfl)
        go_wp2_with fail
        have q0 : (w1.alloc (.cells #[.int .i64 kk, .int .i64 mm, .string tt] 38)).cell? ⟨w.heap.size, 0, none⟩ = some (.string ⟨#[61]⟩) := by go_simp
        have q3 : (w1.alloc (.cells #[.int .i64 kk, .int .i64 mm, .string tt] 38)).cell? ⟨w.heap.size, 3, none⟩ = some (.slice p ln cap) := by go_simp
        have p0 : (w1.alloc (.cells #[.int .i64 kk, .int .i64 mm, .string tt] 38)).cell? ⟨w.heap.size + 1, 0, none⟩ = some (.int .i64 1) := by go_simp
        have p2 : (w1.alloc (.cells #[.int .i64 kk, .int .i64 mm, .string tt] 38)).cell? ⟨w.heap.size + 1, 2, none⟩ = some (.string t) := by go_simp
        have hbx : Below w.heap.size w (w1.alloc (.cells #[.int .i64 kk, .int .i64 mm, .string tt] 38)) := by (repeat' (first | (with_reducible exact Below.refl _ _) | (with_reducible assumption) | (with_reducible refine Below.alloc ?_ ?_ _) | (with_reducible refine bel_drewN ?_ _) | (with_reducible refine Below.drew ?_) | (with_reducible refine Below.setCell ?_ ?_ _) | (with_reducible refine bel_call ‹_› ?_ ?_) | go_size))
        generalize (w1.alloc (.cells #[.int .i64 kk, .int .i64 mm, .string tt] 38)) = wx at q0 q3 p0 p2 hbx ⊢
        have r0 := cell_regrown q0
        have r3 := cell_regrown q3
        have s0 := cell_regrown p0
        have s2 := cell_regrown p2
        have cF : ∀ dd os, Calls Try.prog 24 #[.slice p ln cap, .string t] (Go.Sort.grow (redrawn wx dd) os) fun e w'' => e = .returned (.bool o) ∧ ∃ p : Regrown, w'' = Go.Sort.grow (redrawn wx p.d) p.os := fun dd os => Calls.regrown_of (HF.out _ (bel_call (below_regrown wx dd os) hbx hbx.size))
        refine wp_region_quiet_below (by kernel_rfl) (by kernel_rfl) ?_
        repeat (go_big_quiet_step ((first | with_reducible exact cF _ _)))
        refine wpQuiet_nil ?_
        intro _ hw'
        obtain ⟨⟨dq, osq⟩, hw''⟩ := hw'
        subst hw''
        clear r0 r3 s0 s2 cF
        have hbq : Below w.heap.size w (Go.Sort.grow (redrawn wx dq) osq) := bel_call (below_regrown wx dq osq) hbx hbx.size
        go_wp2_with fail
        go_ret
        exact ⟨by first | rfl | (cases o <;> rfl), hbq⟩

      · have hV := HV.out
        simp [h0] at hV
        rw [hV]
        clear hV
        simp only [sgB]
        clear HV
        go_enter Try.func8, Try.ntmps8
        go_wp2_with fail
        refine (HN.out _).mono ?_
        rintro e w1 ⟨rfl, hb1⟩
        obtain ⟨hc1, hf1, hz1⟩ := bcell hb1 (by first | (simp only [World.size_alloc, World.size_setCell, World.size_drew]; rfl) | rfl)
        go_wp2_with fail
        have q0 : (w1.alloc (.cells #[.int .i64 kk, .int .i64 mm, .string tt] 38)).cell? ⟨w.heap.size, 0, none⟩ = some (.string ⟨#[60, 62]⟩) := by go_simp
        have q3 : (w1.alloc (.cells #[.int .i64 kk, .int .i64 mm, .string tt] 38)).cell? ⟨w.heap.size, 3, none⟩ = some (.slice p ln cap) := by go_simp
        have p0 : (w1.alloc (.cells #[.int .i64 kk, .int .i64 mm, .string tt] 38)).cell? ⟨w.heap.size + 1, 0, none⟩ = some (.int .i64 1) := by go_simp
        have p2 : (w1.alloc (.cells #[.int .i64 kk, .int .i64 mm, .string tt] 38)).cell? ⟨w.heap.size + 1, 2, none⟩ = some (.string t) := by go_simp
        have hbx : Below w.heap.size w (w1.alloc (.cells #[.int .i64 kk, .int .i64 mm, .string tt] 38)) := by (repeat' (first | (with_reducible exact Below.refl _ _) | (with_reducible assumption) | (with_reducible refine Below.alloc ?_ ?_ _) | (with_reducible refine bel_drewN ?_ _) | (with_reducible refine Below.drew ?_) | (with_reducible refine Below.setCell ?_ ?_ _) | (with_reducible refine bel_call ‹_› ?_ ?_) | go_size))
        generalize (w1.alloc (.cells #[.int .i64 kk, .int .i64 mm, .string tt] 38)) = wx at q0 q3 p0 p2 hbx ⊢
        have r0 := cell_regrown q0
        have r3 := cell_regrown q3
        have s0 := cell_regrown p0
        have s2 := cell_regrown p2
        have cF : ∀ dd os, Calls Try.prog 24 #[.slice p ln cap, .string t] (Go.Sort.grow (redrawn wx dd) os) fun e w'' => e = .returned (.bool o) ∧ ∃ p : Regrown, w'' = Go.Sort.grow (redrawn wx p.d) p.os := fun dd os => Calls.regrown_of (HF.out _ (bel_call (below_regrown wx dd os) hbx hbx.size))
        refine wp_region_quiet_below (by kernel_rfl) (by kernel_rfl) ?_
        repeat (go_big_quiet_step ((first | with_reducible exact cF _ _)))
        refine wpQuiet_nil ?_
        intro _ hw'
        obtain ⟨⟨dq, osq⟩, hw''⟩ := hw'
        subst hw''
        clear r0 r3 s0 s2 cF
        have hbq : Below w.heap.size w (Go.Sort.grow (redrawn wx dq) osq) := bel_call (below_regrown wx dq osq) hbx hbx.size
        go_wp2_with fail
        go_ret
        exact ⟨by first | rfl | (cases o <;> rfl), hbq⟩

    · rcases hqo with rfl | rfl
      · have hV := HV.out
        simp [h0] at hV
        rw [hV]
        clear hV
        simp only [sgB]
        clear HV
        go_enter Try.func8, Try.ntmps8
        go_wp2_with fail
        refine (HN.out _).mono ?_
        rintro e w1 ⟨rfl, hb1⟩
        obtain ⟨hc1, hf1, hz1⟩ := bcell hb1 (by first | (simp only [World.size_alloc, World.size_setCell, World.size_drew]; rfl) | rfl)
        go_wp2_with fail
        have q0 : (w1.alloc (.cells #[.int .i64 kk, .int .i64 mm, .string tt] 38)).cell? ⟨w.heap.size, 0, none⟩ = some (.string ⟨#[61]⟩) := by go_simp
        have q3 : (w1.alloc (.cells #[.int .i64 kk, .int .i64 mm, .string tt] 38)).cell? ⟨w.heap.size, 3, none⟩ = some (.slice p ln cap) := by go_simp
        have p0 : (w1.alloc (.cells #[.int .i64 kk, .int .i64 mm, .string tt] 38)).cell? ⟨w.heap.size + 1, 0, none⟩ = some (.int .i64 3) := by go_simp
        have p2 : (w1.alloc (.cells #[.int .i64 kk, .int .i64 mm, .string tt] 38)).cell? ⟨w.heap.size + 1, 2, none⟩ = some (.string t) := by go_simp
        have hbx : Below w.heap.size w (w1.alloc (.cells #[.int .i64 kk, .int .i64 mm, .string tt] 38)) := by (repeat' (first | (with_reducible exact Below.refl _ _) | (with_reducible assumption) | (with_reducible refine Below.alloc ?_ ?_ _) | (with_reducible refine bel_drewN ?_ _) | (with_reducible refine Below.drew ?_) | (with_reducible refine Below.setCell ?_ ?_ _) | (with_reducible refine bel_call ‹_› ?_ ?_) | go_size))
        generalize (w1.alloc (.cells #[.int .i64 kk, .int .i64 mm, .string tt] 38)) = wx at q0 q3 p0 p2 hbx ⊢
        have r0 := cell_regrown q0
        have r3 := cell_regrown q3
        have s0 := cell_regrown p0
        have s2 := cell_regrown p2
        have cF : ∀ dd os, Calls Try.prog 24 #[.slice p ln cap, .string t] (Go.Sort.grow (redrawn wx dd) os) fun e w'' => e = .returned (.bool o) ∧ ∃ p : Regrown, w'' = Go.Sort.grow (redrawn wx p.d) p.os := fun dd os => Calls.regrown_of (HF.out _ (bel_call (below_regrown wx dd os) hbx hbx.size))
        refine wp_region_quiet_below (by kernel_rfl) (by kernel_rfl) ?_
        repeat (go_big_quiet_step ((first | with_reducible exact cF _ _)))
        refine wpQuiet_nil ?_
        intro _ hw'
        obtain ⟨⟨dq, osq⟩, hw''⟩ := hw'
        subst hw''
        clear r0 r3 s0 s2 cF
        have hbq : Below w.heap.size w (Go.Sort.grow (redrawn wx dq) osq) := bel_call (below_regrown wx dq osq) hbx hbx.size
        go_wp2_with fail
        go_ret
        exact ⟨by first | rfl | (cases o <;> rfl), hbq⟩

      · have hV := HV.out
        simp [h0] at hV
        rw [hV]
        clear hV
        simp only [sgB]
        clear HV
        go_enter Try.func8, Try.ntmps8
        go_wp2_with fail
        refine (HN.out _).mono ?_
        rintro e w1 ⟨rfl, hb1⟩
        obtain ⟨hc1, hf1, hz1⟩ := bcell hb1 (by first | (simp only [World.size_alloc, World.size_setCell, World.size_drew]; rfl) | rfl)
        go_wp2_with fail
        have q0 : (w1.alloc (.cells #[.int .i64 kk, .int .i64 mm, .string tt] 38)).cell? ⟨w.heap.size, 0, none⟩ = some (.string ⟨#[60, 62]⟩) := by go_simp
        have q3 : (w1.alloc (.cells #[.int .i64 kk, .int .i64 mm, .string tt] 38)).cell? ⟨w.heap.size, 3, none⟩ = some (.slice p ln cap) := by go_simp
        have p0 : (w1.alloc (.cells #[.int .i64 kk, .int .i64 mm, .string tt] 38)).cell? ⟨w.heap.size + 1, 0, none⟩ = some (.int .i64 3) := by go_simp
        have p2 : (w1.alloc (.cells #[.int .i64 kk, .int .i64 mm, .string tt] 38)).cell? ⟨w.heap.size + 1, 2, none⟩ = some (.string t) := by go_simp
        have hbx : Below w.heap.size w (w1.alloc (.cells #[.int .i64 kk, .int .i64 mm, .string tt] 38)) := by (repeat' (first | (with_reducible exact Below.refl _ _) | (with_reducible assumption) | (with_reducible refine Below.alloc ?_ ?_ _) | (with_reducible refine bel_drewN ?_ _) | (with_reducible refine Below.drew ?_) | (with_reducible refine Below.setCell ?_ ?_ _) | (with_reducible refine bel_call ‹_› ?_ ?_) | go_size))
        generalize (w1.alloc (.cells #[.int .i64 kk, .int .i64 mm, .string tt] 38)) = wx at q0 q3 p0 p2 hbx ⊢
        have r0 := cell_regrown q0
        have r3 := cell_regrown q3
        have s0 := cell_regrown p0
        have s2 := cell_regrown p2
        have cF : ∀ dd os, Calls Try.prog 24 #[.slice p ln cap, .string t] (Go.Sort.grow (redrawn wx dd) os) fun e w'' => e = .returned (.bool o) ∧ ∃ p : Regrown, w'' = Go.Sort.grow (redrawn wx p.d) p.os := fun dd os => Calls.regrown_of (HF.out _ (bel_call (below_regrown wx dd os) hbx hbx.size))
        refine wp_region_quiet_below (by kernel_rfl) (by kernel_rfl) ?_
        repeat (go_big_quiet_step ((first | with_reducible exact cF _ _)))
        refine wpQuiet_nil ?_
        intro _ hw'
        obtain ⟨⟨dq, osq⟩, hw''⟩ := hw'
        subst hw''
        clear r0 r3 s0 s2 cF
        have hbq : Below w.heap.size w (Go.Sort.grow (redrawn wx dq) osq) := bel_call (below_regrown wx dq osq) hbx hbx.size
        go_wp2_with fail
        go_ret
        exact ⟨by first | rfl | (cases o <;> rfl), hbq⟩

    · rcases hqo with rfl | rfl
      · have hV := HV.out
        simp [h0] at hV
        rw [hV]
        clear hV
        have hkb : (kk == 0) = true := by simp [hk0]
        clear hk0
        simp only [sgB]
        clear HV
        go_enter Try.func8, Try.ntmps8
        go_wp2_with fail
        refine (HN.out _).mono ?_
        rintro e w1 ⟨rfl, hb1⟩
        obtain ⟨hc1, hf1, hz1⟩ := bcell hb1 (by first | (simp only [World.size_alloc, World.size_setCell, World.size_drew]; rfl) | rfl)
        go_wp2_with fail
        have q0 : (w1.alloc (.cells #[.int .i64 kk, .int .i64 mm, .string tt] 38)).cell? ⟨w.heap.size, 0, none⟩ = some (.string ⟨#[61]⟩) := by go_simp
        have q3 : (w1.alloc (.cells #[.int .i64 kk, .int .i64 mm, .string tt] 38)).cell? ⟨w.heap.size, 3, none⟩ = some (.slice p ln cap) := by go_simp
        have p0 : (w1.alloc (.cells #[.int .i64 kk, .int .i64 mm, .string tt] 38)).cell? ⟨w.heap.size + 1, 0, none⟩ = some (.int .i64 2) := by go_simp
        have p2 : (w1.alloc (.cells #[.int .i64 kk, .int .i64 mm, .string tt] 38)).cell? ⟨w.heap.size + 1, 2, none⟩ = some (.string t) := by go_simp
        have hbx : Below w.heap.size w (w1.alloc (.cells #[.int .i64 kk, .int .i64 mm, .string tt] 38)) := by (repeat' (first | (with_reducible exact Below.refl _ _) | (with_reducible assumption) | (with_reducible refine Below.alloc ?_ ?_ _) | (with_reducible refine bel_drewN ?_ _) | (with_reducible refine Below.drew ?_) | (with_reducible refine Below.setCell ?_ ?_ _) | (with_reducible refine bel_call ‹_› ?_ ?_) | go_size))
        generalize (w1.alloc (.cells #[.int .i64 kk, .int .i64 mm, .string tt] 38)) = wx at q0 q3 p0 p2 hbx ⊢
        have r0 := cell_regrown q0
        have r3 := cell_regrown q3
        have s0 := cell_regrown p0
        have s2 := cell_regrown p2
        have cF : ∀ dd os, Calls Try.prog 24 #[.slice p ln cap, .string t] (Go.Sort.grow (redrawn wx dd) os) fun e w'' => e = .returned (.bool o) ∧ ∃ p : Regrown, w'' = Go.Sort.grow (redrawn wx p.d) p.os := fun dd os => Calls.regrown_of (HF.out _ (bel_call (below_regrown wx dd os) hbx hbx.size))
        refine wp_region_quiet_below (by kernel_rfl) (by kernel_rfl) ?_
        repeat (go_big_quiet_step ((first | with_reducible exact cF _ _)))
        refine wpQuiet_nil ?_
        intro _ hw'
        obtain ⟨⟨dq, osq⟩, hw''⟩ := hw'
        subst hw''
        clear r0 r3 s0 s2 cF
        have hbq : Below w.heap.size w (Go.Sort.grow (redrawn wx dq) osq) := bel_call (below_regrown wx dq osq) hbx hbx.size
        go_wp2_with fail
        go_ret
        exact ⟨by first | rfl | (cases o <;> rfl), hbq⟩

      · have hV := HV.out
        simp [h0] at hV
        rw [hV]
        clear hV
        have hkb : (kk == 0) = true := by simp [hk0]
        clear hk0
        simp only [sgB]
        clear HV
        go_enter Try.func8, Try.ntmps8
        go_wp2_with fail
        refine (HN.out _).mono ?_
        rintro e w1 ⟨rfl, hb1⟩
        obtain ⟨hc1, hf1, hz1⟩ := bcell hb1 (by first | (simp only [World.size_alloc, World.size_setCell, World.size_drew]; rfl) | rfl)
        go_wp2_with fail
        have q0 : (w1.alloc (.cells #[.int .i64 kk, .int .i64 mm, .string tt] 38)).cell? ⟨w.heap.size, 0, none⟩ = some (.string ⟨#[60, 62]⟩) := by go_simp
        have q3 : (w1.alloc (.cells #[.int .i64 kk, .int .i64 mm, .string tt] 38)).cell? ⟨w.heap.size, 3, none⟩ = some (.slice p ln cap) := by go_simp
        have p0 : (w1.alloc (.cells #[.int .i64 kk, .int .i64 mm, .string tt] 38)).cell? ⟨w.heap.size + 1, 0, none⟩ = some (.int .i64 2) := by go_simp
        have p2 : (w1.alloc (.cells #[.int .i64 kk, .int .i64 mm, .string tt] 38)).cell? ⟨w.heap.size + 1, 2, none⟩ = some (.string t) := by go_simp
        have hbx : Below w.heap.size w (w1.alloc (.cells #[.int .i64 kk, .int .i64 mm, .string tt] 38)) := by (repeat' (first | (with_reducible exact Below.refl _ _) | (with_reducible assumption) | (with_reducible refine Below.alloc ?_ ?_ _) | (with_reducible refine bel_drewN ?_ _) | (with_reducible refine Below.drew ?_) | (with_reducible refine Below.setCell ?_ ?_ _) | (with_reducible refine bel_call ‹_› ?_ ?_) | go_size))
        generalize (w1.alloc (.cells #[.int .i64 kk, .int .i64 mm, .string tt] 38)) = wx at q0 q3 p0 p2 hbx ⊢
        have r0 := cell_regrown q0
        have r3 := cell_regrown q3
        have s0 := cell_regrown p0
        have s2 := cell_regrown p2
        have cF : ∀ dd os, Calls Try.prog 24 #[.slice p ln cap, .string t] (Go.Sort.grow (redrawn wx dd) os) fun e w'' => e = .returned (.bool o) ∧ ∃ p : Regrown, w'' = Go.Sort.grow (redrawn wx p.d) p.os := fun dd os => Calls.regrown_of (HF.out _ (bel_call (below_regrown wx dd os) hbx hbx.size))
        refine wp_region_quiet_below (by kernel_rfl) (by kernel_rfl) ?_
        repeat (go_big_quiet_step ((first | with_reducible exact cF _ _)))
        refine wpQuiet_nil ?_
        intro _ hw'
        obtain ⟨⟨dq, osq⟩, hw''⟩ := hw'
        subst hw''
        clear r0 r3 s0 s2 cF
        have hbq : Below w.heap.size w (Go.Sort.grow (redrawn wx dq) osq) := bel_call (below_regrown wx dq osq) hbx hbx.size
        go_wp2_with fail
        go_ret
        exact ⟨by first | rfl | (cases o <;> rfl), hbq⟩

    · rcases hqo with rfl | rfl
      · have hV := HV.out
        simp [h0] at hV
        rw [hV]
        clear hV
        have hkb : (kk == 0) = false := by simp [hk0]
        clear hk0
        simp only [sgB]
        clear HV
        go_enter Try.func8, Try.ntmps8
        go_wp2_with fail
        refine (HN.out _).mono ?_
        rintro e w1 ⟨rfl, hb1⟩
        obtain ⟨hc1, hf1, hz1⟩ := bcell hb1 (by first | (simp only [World.size_alloc, World.size_setCell, World.size_drew]; rfl) | rfl)
        go_wp2_with fail
        have q0 : (w1.alloc (.cells #[.int .i64 kk, .int .i64 mm, .string tt] 38)).cell? ⟨w.heap.size, 0, none⟩ = some (.string ⟨#[61]⟩) := by go_simp
        have q3 : (w1.alloc (.cells #[.int .i64 kk, .int .i64 mm, .string tt] 38)).cell? ⟨w.heap.size, 3, none⟩ = some (.slice p ln cap) := by go_simp
        have p0 : (w1.alloc (.cells #[.int .i64 kk, .int .i64 mm, .string tt] 38)).cell? ⟨w.heap.size + 1, 0, none⟩ = some (.int .i64 2) := by go_simp
        have p2 : (w1.alloc (.cells #[.int .i64 kk, .int .i64 mm, .string tt] 38)).cell? ⟨w.heap.size + 1, 2, none⟩ = some (.string t) := by go_simp
        have hbx : Below w.heap.size w (w1.alloc (.cells #[.int .i64 kk, .int .i64 mm, .string tt] 38)) := by (repeat' (first | (with_reducible exact Below.refl _ _) | (with_reducible assumption) | (with_reducible refine Below.alloc ?_ ?_ _) | (with_reducible refine bel_drewN ?_ _) | (with_reducible refine Below.drew ?_) | (with_reducible refine Below.setCell ?_ ?_ _) | (with_reducible refine bel_call ‹_› ?_ ?_) | go_size))
        generalize (w1.alloc (.cells #[.int .i64 kk, .int .i64 mm, .string tt] 38)) = wx at q0 q3 p0 p2 hbx ⊢
        have r0 := cell_regrown q0
        have r3 := cell_regrown q3
        have s0 := cell_regrown p0
        have s2 := cell_regrown p2
        have cF : ∀ dd os, Calls Try.prog 24 #[.slice p ln cap, .string t] (Go.Sort.grow (redrawn wx dd) os) fun e w'' => e = .returned (.bool o) ∧ ∃ p : Regrown, w'' = Go.Sort.grow (redrawn wx p.d) p.os := fun dd os => Calls.regrown_of (HF.out _ (bel_call (below_regrown wx dd os) hbx hbx.size))
        refine wp_region_quiet_below (by kernel_rfl) (by kernel_rfl) ?_
        repeat (go_big_quiet_step ((first | with_reducible exact cF _ _)))
        refine wpQuiet_nil ?_
        intro _ hw'
        obtain ⟨⟨dq, osq⟩, hw''⟩ := hw'
        subst hw''
        clear r0 r3 s0 s2 cF
        have hbq : Below w.heap.size w (Go.Sort.grow (redrawn wx dq) osq) := bel_call (below_regrown wx dq osq) hbx hbx.size
        go_wp2_with fail
        go_ret
        exact ⟨by first | rfl | (cases o <;> rfl), hbq⟩

      · have hV := HV.out
        simp [h0] at hV
        rw [hV]
        clear hV
        have hkb : (kk == 0) = false := by simp [hk0]
        clear hk0
        simp only [sgB]
        clear HV
        go_enter Try.func8, Try.ntmps8
        go_wp2_with fail
        refine (HN.out _).mono ?_
        rintro e w1 ⟨rfl, hb1⟩
        obtain ⟨hc1, hf1, hz1⟩ := bcell hb1 (by first | (simp only [World.size_alloc, World.size_setCell, World.size_drew]; rfl) | rfl)
        go_wp2_with fail
        have q0 : (w1.alloc (.cells #[.int .i64 kk, .int .i64 mm, .string tt] 38)).cell? ⟨w.heap.size, 0, none⟩ = some (.string ⟨#[60, 62]⟩) := by go_simp
        have q3 : (w1.alloc (.cells #[.int .i64 kk, .int .i64 mm, .string tt] 38)).cell? ⟨w.heap.size, 3, none⟩ = some (.slice p ln cap) := by go_simp
        have p0 : (w1.alloc (.cells #[.int .i64 kk, .int .i64 mm, .string tt] 38)).cell? ⟨w.heap.size + 1, 0, none⟩ = some (.int .i64 2) := by go_simp
        have p2 : (w1.alloc (.cells #[.int .i64 kk, .int .i64 mm, .string tt] 38)).cell? ⟨w.heap.size + 1, 2, none⟩ = some (.string t) := by go_simp
        have hbx : Below w.heap.size w (w1.alloc (.cells #[.int .i64 kk, .int .i64 mm, .string tt] 38)) := by (repeat' (first | (with_reducible exact Below.refl _ _) | (with_reducible assumption) | (with_reducible refine Below.alloc ?_ ?_ _) | (with_reducible refine bel_drewN ?_ _) | (with_reducible refine Below.drew ?_) | (with_reducible refine Below.setCell ?_ ?_ _) | (with_reducible refine bel_call ‹_› ?_ ?_) | go_size))
        generalize (w1.alloc (.cells #[.int .i64 kk, .int .i64 mm, .string tt] 38)) = wx at q0 q3 p0 p2 hbx ⊢
        have r0 := cell_regrown q0
        have r3 := cell_regrown q3
        have s0 := cell_regrown p0
        have s2 := cell_regrown p2
        have cF : ∀ dd os, Calls Try.prog 24 #[.slice p ln cap, .string t] (Go.Sort.grow (redrawn wx dd) os) fun e w'' => e = .returned (.bool o) ∧ ∃ p : Regrown, w'' = Go.Sort.grow (redrawn wx p.d) p.os := fun dd os => Calls.regrown_of (HF.out _ (bel_call (below_regrown wx dd os) hbx hbx.size))
        refine wp_region_quiet_below (by kernel_rfl) (by kernel_rfl) ?_
        repeat (go_big_quiet_step ((first | with_reducible exact cF _ _)))
        refine wpQuiet_nil ?_
        intro _ hw'
        obtain ⟨⟨dq, osq⟩, hw''⟩ := hw'
        subst hw''
        clear r0 r3 s0 s2 cF
        have hbq : Below w.heap.size w (Go.Sort.grow (redrawn wx dq) osq) := bel_call (below_regrown wx dq osq) hbx hbx.size
        go_wp2_with fail
        go_ret
        exact ⟨by first | rfl | (cases o <;> rfl), hbq⟩

end Go.Proofs.Ytpggidkcifnhjaa
