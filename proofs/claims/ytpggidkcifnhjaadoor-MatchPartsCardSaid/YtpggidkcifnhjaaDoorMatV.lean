/- Conditions: the chapter's examples; the law MatchSums. -/
import Derived.Test.YtpggidkcifnhjaaDoorMatU
set_option linter.unusedSimpArgs false
set_option linter.unusedVariables false

namespace Go.Proofs.YtpggidkcifnhjaaDoor
open Go.RowKit

/-- Two conditions in boxes. -/
abbrev CnW (w : World) (t1 t2 : TypeId) (a0 a1 a2 a3 b0 b1 b2 b3 : Value) : World := (w.alloc (.cells #[a0, a1, a2, a3] t1)).alloc (.cells #[b0, b1, b2, b3] t2)
theorem cnw_is (w : World) (t1 t2 : TypeId) (a0 a1 a2 a3 b0 b1 b2 b3 : Value) :
    ((CnW w t1 t2 a0 a1 a2 a3 b0 b1 b2 b3).cell? ⟨w.heap.size, 0, none⟩ = some a0 ∧ (CnW w t1 t2 a0 a1 a2 a3 b0 b1 b2 b3).cell? ⟨w.heap.size, 1, none⟩ = some a1 ∧ (CnW w t1 t2 a0 a1 a2 a3 b0 b1 b2 b3).cell? ⟨w.heap.size, 2, none⟩ = some a2 ∧ (CnW w t1 t2 a0 a1 a2 a3 b0 b1 b2 b3).cell? ⟨w.heap.size, 3, none⟩ = some a3)
    ∧ ((CnW w t1 t2 a0 a1 a2 a3 b0 b1 b2 b3).cell? ⟨w.heap.size + 1, 0, none⟩ = some b0 ∧ (CnW w t1 t2 a0 a1 a2 a3 b0 b1 b2 b3).cell? ⟨w.heap.size + 1, 1, none⟩ = some b1 ∧ (CnW w t1 t2 a0 a1 a2 a3 b0 b1 b2 b3).cell? ⟨w.heap.size + 1, 2, none⟩ = some b2 ∧ (CnW w t1 t2 a0 a1 a2 a3 b0 b1 b2 b3).cell? ⟨w.heap.size + 1, 3, none⟩ = some b3) := by
  refine ⟨⟨?_, ?_, ?_, ?_⟩, ⟨?_, ?_, ?_, ?_⟩⟩
  all_goals go_simp
theorem cnw_below (w : World) (t1 t2 : TypeId) (a0 a1 a2 a3 b0 b1 b2 b3 : Value) : Below w.heap.size w (CnW w t1 t2 a0 a1 a2 a3 b0 b1 b2 b3) ∧ (CnW w t1 t2 a0 a1 a2 a3 b0 b1 b2 b3).heap.size = w.heap.size + 2 := ⟨by (repeat' (first | (with_reducible exact Below.refl _ _) | (with_reducible assumption) | (with_reducible refine Below.alloc ?_ ?_ _) | (with_reducible refine bel_drewN ?_ _) | (with_reducible refine Below.drew ?_) | (with_reducible refine Below.setCell ?_ ?_ _) | (with_reducible refine bel_call ‹_› ?_ ?_) | go_size)), by simp [CnW]⟩
/-- What a condition has of signs. -/
def cnL (R : List UInt8) : List Sg := if prsOk R then [] else sgs R
theorem cnL_len (R : List UInt8) : (cnL R).length ≤ R.length := by
  unfold cnL
  split
  · simp
  · exact sgs_len R
theorem cnL_ok (R : List UInt8) : ∀ x ∈ cnL R, x.1 ≤ 2 ∧ x.2 < 256 := by
  unfold cnL
  split
  · intro x hx; cases hx
  · exact sgs_ok R
theorem cnL_low (R : List UInt8) : (if prsOk R then [] else (sgs R).map low) = (cnL R).map low := by
  unfold cnL
  split <;> rfl
theorem low_ok {L : List Sg} (h : ∀ x ∈ L, x.1 ≤ 2 ∧ x.2 < 256) : ∀ x ∈ L.map low, x.1 ≤ 2 ∧ x.2 < 256 := by
  intro x hx
  obtain ⟨y, hy, rfl⟩ := List.mem_map.1 hx
  exact ⟨(h y hy).1, lowN_lt (h y hy).2⟩
/-- The program's condition, as a result. -/
def CnR (q : Nat) (ok : Bool) (m : Int) (L : List Sg) (e : Ending) (w' : World) : Prop := ∃ p cap, e = .returned (.agg #[.string (sgB q), .bool ok, .int .i64 m, .slice p L.length cap]) ∧ RdG sgE 2 w' p L.length L
theorem mparse_cn (s : ByteArray) (hs : s.size ≤ 800) (w : World) (hsh : w.ShapedOpen Tryd.prog) :
    Calls Tryd.prog 7 #[.string s] w fun e w' => CnR (prC s.data.toList).1 (prsOk (prC s.data.toList).2) (prsV (prC s.data.toList).2) (cnL (prC s.data.toList).2) e w' ∧ Below w.heap.size w w' := mparse_any s hs w hsh
theorem aw_a (w : World) (hsh : w.ShapedOpen Tryd.prog) : Calls Tryd.prog 7 #[.string ⟨#[97, 42]⟩] w fun e w' => CnR 5 false 0 [(0, 97), (2, 0)] e w' ∧ Below w.heap.size w w' := by
  have := mparse_cn ⟨#[97, 42]⟩ (by decide) w hsh
  have e1 : (prC (⟨#[97, 42]⟩ : ByteArray).data.toList) = (5, [97, 42]) := by decide +kernel
  have e2 : prsOk [97, 42] = false := by decide +kernel
  have e3 : prsV [97, 42] = 0 := by decide +kernel
  have e4 : cnL [97, 42] = [(0, 97), (2, 0)] := by decide +kernel
  rw [e1] at this
  simp only [e2, e3, e4] at this
  exact this
theorem aw_b (w : World) (hsh : w.ShapedOpen Tryd.prog) : Calls Tryd.prog 7 #[.string ⟨#[62, 61, 51]⟩] w fun e w' => CnR 2 true 3000000 [] e w' ∧ Below w.heap.size w w' := by
  have := mparse_cn ⟨#[62, 61, 51]⟩ (by decide) w hsh
  have e1 : (prC (⟨#[62, 61, 51]⟩ : ByteArray).data.toList) = (2, [51]) := by decide +kernel
  have e2 : prsOk [51] = true := by decide +kernel
  have e3 : prsV [51] = 3000000 := by decide +kernel
  have e4 : cnL [51] = [] := by decide +kernel
  rw [e1] at this
  simp only [e2, e3, e4] at this
  exact this
theorem is_a1 : isB 5 false 0 [(0, 97), (2, 0)] 2 0 ⟨#[65, 98, 99]⟩ = true := by decide +kernel
theorem is_a2 : isB 5 false 0 [(0, 97), (2, 0)] 2 0 ⟨#[99, 97, 98]⟩ = false := by decide +kernel
theorem is_b1 : isB 2 true 3000000 [] 1 3000000 ⟨#[]⟩ = true := by decide +kernel
theorem is_b2 : isB 2 true 3000000 [] 2 0 ⟨#[52]⟩ = true := by decide +kernel

set_option maxRecDepth 100000 in
set_option maxHeartbeats 2000000 in
theorem mawake_any (w : World) (hsh : w.ShapedOpen Tryd.prog) : Calls Tryd.prog 5 #[] w fun e w' => e = .returned (.bool true) ∧ Below w.heap.size w w' := by
  go_enter Tryd.func5, Tryd.ntmps5
  go_wp2_with fail
  refine (aw_a _ hsh).mono ?_
  rintro e w1 ⟨⟨p, cap, rfl, hA⟩, hb1⟩
  go_wp2_with fail
  refine (aw_b _ (shaped_below hsh hb1)).mono ?_
  rintro e w2 ⟨⟨p2, cap2, rfl, hB⟩, hb2⟩
  obtain ⟨hc1, hf1, hz1⟩ := bcell hb1 (by rfl)
  obtain ⟨hc2, hf2, hz2⟩ := bcell hb2 (by rfl)
  have hA2 := hA.below hb2
  have hb12 : Below w.heap.size w w2 := by (repeat' (first | (with_reducible exact Below.refl _ _) | (with_reducible assumption) | (with_reducible refine Below.alloc ?_ ?_ _) | (with_reducible refine bel_drewN ?_ _) | (with_reducible refine Below.drew ?_) | (with_reducible refine Below.setCell ?_ ?_ _) | (with_reducible refine bel_call ‹_› ?_ ?_) | go_size))
  have H1 : Hid (∀ W, Below w2.heap.size w2 W → Calls Tryd.prog 8 #[.agg #[.string (sgB 5), .bool false, .int .i64 0, .slice p 2 cap], .agg #[.int .i64 2, .int .i64 0, .string ⟨#[65, 98, 99]⟩]] W fun e w' => e = .returned (.bool true) ∧ Below W.heap.size W w') := fun W hW => by
    have := is_any 5 (by decide) false 0 [(0, 97), (2, 0)] p cap 2 0 ⟨#[65, 98, 99]⟩ (by omega) (by decide) (by decide) (by decide) W (shaped_below hsh (bel_call hW hb12 hb12.size)) (hA2.below hW)
    rw [is_a1] at this
    exact this
  have H2 : Hid (∀ W, Below w2.heap.size w2 W → Calls Tryd.prog 8 #[.agg #[.string (sgB 5), .bool false, .int .i64 0, .slice p 2 cap], .agg #[.int .i64 2, .int .i64 0, .string ⟨#[99, 97, 98]⟩]] W fun e w' => e = .returned (.bool false) ∧ Below W.heap.size W w') := fun W hW => by
    have := is_any 5 (by decide) false 0 [(0, 97), (2, 0)] p cap 2 0 ⟨#[99, 97, 98]⟩ (by omega) (by decide) (by decide) (by decide) W (shaped_below hsh (bel_call hW hb12 hb12.size)) (hA2.below hW)
    rw [is_a2] at this
    exact this
  have H3 : Hid (∀ W, Below w2.heap.size w2 W → Calls Tryd.prog 8 #[.agg #[.string (sgB 2), .bool true, .int .i64 3000000, .slice p2 0 cap2], .agg #[.int .i64 1, .int .i64 3000000, .string ⟨#[]⟩]] W fun e w' => e = .returned (.bool true) ∧ Below W.heap.size W w') := fun W hW => by
    have := is_any 2 (by decide) true 3000000 [] p2 cap2 1 3000000 ⟨#[]⟩ (by omega) (by decide) (by decide) (by decide) W (shaped_below hsh (bel_call hW hb12 hb12.size)) (RdG.nil _ _ _ _)
    rw [is_b1] at this
    exact this
  have H4 : Hid (∀ W, Below w2.heap.size w2 W → Calls Tryd.prog 8 #[.agg #[.string (sgB 2), .bool true, .int .i64 3000000, .slice p2 0 cap2], .agg #[.int .i64 2, .int .i64 0, .string ⟨#[52]⟩]] W fun e w' => e = .returned (.bool true) ∧ Below W.heap.size W w') := fun W hW => by
    have := is_any 2 (by decide) true 3000000 [] p2 cap2 2 0 ⟨#[52]⟩ (by omega) (by decide) (by decide) (by decide) W (shaped_below hsh (bel_call hW hb12 hb12.size)) (RdG.nil _ _ _ _)
    rw [is_b2] at this
    exact this
  simp only [List.length_cons, List.length_nil, Nat.zero_add]
  clear hA hB hA2 hsh hb1 hb2 hc1 hf1 hc2 hf2
  go_wp2_with fail
  have hcw := cnw_is w2 32 32 (.string (sgB 5)) (.bool false) (.int .i64 0) (.slice p 2 cap) (.string (sgB 2)) (.bool true) (.int .i64 3000000) (.slice p2 0 cap2)
  have hbw := cnw_below w2 32 32 (.string (sgB 5)) (.bool false) (.int .i64 0) (.slice p 2 cap) (.string (sgB 2)) (.bool true) (.int .i64 3000000) (.slice p2 0 cap2)
  unfold CnW at hcw hbw
  generalize (w2.alloc (.cells #[.string (sgB 5), .bool false, .int .i64 0, .slice p 2 cap] 32)).alloc (.cells #[.string (sgB 2), .bool true, .int .i64 3000000, .slice p2 0 cap2] 32) = wx at hcw hbw ⊢
  obtain ⟨⟨q0, q1, q2, q3⟩, r0, r1, r2, r3⟩ := hcw
  obtain ⟨hbw, hzw⟩ := hbw
  have HBW := Lib.hid hbw
  have q0' := cell_regrown q0
  have q1' := cell_regrown q1
  have q2' := cell_regrown q2
  have q3' := cell_regrown q3
  have r0' := cell_regrown r0
  have r1' := cell_regrown r1
  have r2' := cell_regrown r2
  have r3' := cell_regrown r3
  have hg : ∀ dd os, Below w2.heap.size w2 (Go.Sort.grow (redrawn wx dd) os) := fun dd os => bel_call (below_regrown wx dd os) HBW.out (by omega)
  have HG := Lib.hid hg
  have c1 : ∀ dd os, Calls Tryd.prog 8 #[.agg #[.string (sgB 5), .bool false, .int .i64 0, .slice p 2 cap], .agg #[.int .i64 2, .int .i64 0, .string ⟨#[65, 98, 99]⟩]] (Go.Sort.grow (redrawn wx dd) os) fun e w'' => e = .returned (.bool true) ∧ ∃ p : Regrown, w'' = Go.Sort.grow (redrawn wx p.d) p.os := fun dd os => Calls.regrown_of (H1.out _ (HG.out dd os))
  have c2 : ∀ dd os, Calls Tryd.prog 8 #[.agg #[.string (sgB 5), .bool false, .int .i64 0, .slice p 2 cap], .agg #[.int .i64 2, .int .i64 0, .string ⟨#[99, 97, 98]⟩]] (Go.Sort.grow (redrawn wx dd) os) fun e w'' => e = .returned (.bool false) ∧ ∃ p : Regrown, w'' = Go.Sort.grow (redrawn wx p.d) p.os := fun dd os => Calls.regrown_of (H2.out _ (HG.out dd os))
  have c3 : ∀ dd os, Calls Tryd.prog 8 #[.agg #[.string (sgB 2), .bool true, .int .i64 3000000, .slice p2 0 cap2], .agg #[.int .i64 1, .int .i64 3000000, .string ⟨#[]⟩]] (Go.Sort.grow (redrawn wx dd) os) fun e w'' => e = .returned (.bool true) ∧ ∃ p : Regrown, w'' = Go.Sort.grow (redrawn wx p.d) p.os := fun dd os => Calls.regrown_of (H3.out _ (HG.out dd os))
  have c4 : ∀ dd os, Calls Tryd.prog 8 #[.agg #[.string (sgB 2), .bool true, .int .i64 3000000, .slice p2 0 cap2], .agg #[.int .i64 2, .int .i64 0, .string ⟨#[52]⟩]] (Go.Sort.grow (redrawn wx dd) os) fun e w'' => e = .returned (.bool true) ∧ ∃ p : Regrown, w'' = Go.Sort.grow (redrawn wx p.d) p.os := fun dd os => Calls.regrown_of (H4.out _ (HG.out dd os))
  have s1 : ∀ dd os, Calls Tryd.prog 11 #[.string ⟨#[65, 98, 99]⟩] (Go.Sort.grow (redrawn wx dd) os) fun e w'' => e = .returned (.agg #[.int .i64 2, .int .i64 0, .string ⟨#[65, 98, 99]⟩]) ∧ ∃ p : Regrown, w'' = Go.Sort.grow (redrawn wx p.d) p.os := fun dd os => Calls.regrown_of (Val.str_any _ _)
  have s2 : ∀ dd os, Calls Tryd.prog 11 #[.string ⟨#[99, 97, 98]⟩] (Go.Sort.grow (redrawn wx dd) os) fun e w'' => e = .returned (.agg #[.int .i64 2, .int .i64 0, .string ⟨#[99, 97, 98]⟩]) ∧ ∃ p : Regrown, w'' = Go.Sort.grow (redrawn wx p.d) p.os := fun dd os => Calls.regrown_of (Val.str_any _ _)
  have s3 : ∀ dd os, Calls Tryd.prog 12 #[.int .i64 3000000] (Go.Sort.grow (redrawn wx dd) os) fun e w'' => e = .returned (.agg #[.int .i64 1, .int .i64 3000000, .string ⟨#[]⟩]) ∧ ∃ p : Regrown, w'' = Go.Sort.grow (redrawn wx p.d) p.os := fun dd os => Calls.regrown_of (Val.of_any _ _)
  have s4 : ∀ dd os, Calls Tryd.prog 11 #[.string ⟨#[52]⟩] (Go.Sort.grow (redrawn wx dd) os) fun e w'' => e = .returned (.agg #[.int .i64 2, .int .i64 0, .string ⟨#[52]⟩]) ∧ ∃ p : Regrown, w'' = Go.Sort.grow (redrawn wx p.d) p.os := fun dd os => Calls.regrown_of (Val.str_any _ _)
  clear hg
  refine wp_region_quiet_below (by kernel_rfl) (by kernel_rfl) ?_
  repeat (quiet_step (first | with_reducible exact c1 _ _ | with_reducible exact c2 _ _ | with_reducible exact c3 _ _ | with_reducible exact c4 _ _ | with_reducible exact s1 _ _ | with_reducible exact s2 _ _ | with_reducible exact s3 _ _ | with_reducible exact s4 _ _))
  refine wpQuiet_nil ?_
  intro _ hw'
  obtain ⟨⟨dq, osq⟩, hw''⟩ := hw'
  subst hw''
  have hbq := HG.out dq osq
  have HB12 := Lib.hid hb12
  clear q0' q1' q2' q3' r0' r1' r2' r3' c1 c2 c3 c4 s1 s2 s3 s4
  go_wp2_with fail
  go_ret
  exact ⟨rfl, bel_call hbq HB12.out (by have := HB12.out.size; omega)⟩
end Go.Proofs.YtpggidkcifnhjaaDoor
