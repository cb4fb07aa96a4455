/- The signs of formulas (SgnE, SgnF, SgnG). Printed by gen_csg.py, merged by merge_sgn.py. -/
import Derived.Test.YtilajcibjlcffaaGreatDoorSgnP
import Derived.Lib.SmallJoins
import Derived.Lib.QuietBelow
set_option linter.unusedSimpArgs false
set_option linter.unusedVariables false
namespace Go.Proofs.YtilajcibjlcffaaGreatDoor.Val
section
open Go.RowKit Go.Joins

def cmH (sg : Nat) (n : Int) : Bool := if sg = 0 then decide (n = 0) else if sg = 1 then decide (n ≠ 0) else if sg = 2 then decide (n < 0) else if sg = 3 then decide (n ≤ 0) else if sg = 4 then decide (0 < n) else decide (0 ≤ n)
theorem ex_if {P : Prop} [Decidable P] {a b : Value} (ha : ∃ x1 x2 x3, a = vv x1 x2 x3) (hb : ∃ x1 x2 x3, b = vv x1 x2 x3) : ∃ x1 x2 x3, (if P then a else b) = vv x1 x2 x3 := by
  split
  · exact ha
  · exact hb
/-- What a comparison makes of two values. -/
def cmV (sg : Nat) (k n : Int) (s : ByteArray) (k' n' : Int) (s' : ByteArray) : Value := if cmpK k k' = 3 then vv 3 (cmpM k n k' n') (cmpT k s k' s') else vv 1 (truthI (cmH sg (cmpN k n s k' n' s'))) ⟨#[]⟩
set_option maxRecDepth 100000 in
set_option maxHeartbeats 4000000 in
theorem bin_0 (k n : Int) (s : ByteArray) (hk : k = 0 ∨ k = 1 ∨ k = 2 ∨ k = 3) (hs : s.size ≤ 900) (hn1 : -9223372036854775808 ≤ n) (hn2 : n ≤ 9223372036854775807) (k' n' : Int) (s' : ByteArray) (hk' : k' = 0 ∨ k' = 1 ∨ k' = 2 ∨ k' = 3) (hs' : s'.size ≤ 900) (hn1' : -9223372036854775808 ≤ n') (hn2' : n' ≤ 9223372036854775807) (w : World) (hsh : w.ShapedOpen Tryz.prog) : Calls Tryz.prog 6 #[.string ⟨#[61]⟩, .agg #[.int .i64 k, .int .i64 n, .string s], .agg #[.int .i64 k', .int .i64 n', .string s']] w fun e w' => e = .returned (cmV 0 k n s k' n' s') ∧ Below w.heap.size w w' := by
  have HC := Lib.hid (fun W => compare_any k n s k' n' s' W)
  have ej : Hid (cmV 0 k n s k' n' s' = if cmpK k k' = 3 then vv 3 (cmpM k n k' n') (cmpT k s k' s') else vv 1 (truthI (decide ((cmpN k n s k' n' s') = 0))) ⟨#[]⟩) := rfl
  generalize cmV 0 k n s k' n' s' = R at ej ⊢
  generalize cmpN k n s k' n' s' = m at HC ej
  generalize cmpK k k' = a at HC ej
  generalize cmpM k n k' n' = b at HC ej
  generalize cmpT k s k' s' = u at HC ej
  clear hk hs hn1 hn2 hk' hs' hn1' hn2' hsh
  by_cases h3 : a = 3
  · have e1 : R = vv 3 b u := by rw [ej.out, if_pos h3]
    rw [e1]
    subst h3
    clear e1 ej
    go_enter Tryz.func6, Tryz.ntmps6
    go_wp2_with fail
    refine (HC.out _).mono ?_
    rintro e w1 ⟨rfl, hb1⟩; obtain ⟨hc_w1, hf_w1, hz_w1⟩ := bcell hb1 (by first | (simp only [World.size_alloc, World.size_setCell, World.size_drew]; rfl) | rfl)
    go_wp2_with fail
    refine (Gau.failed_any _ _ _ _).mono ?_
    rintro e w2 ⟨rfl, hb2⟩; obtain ⟨hc_w2, hf_w2, hz_w2⟩ := bcell hb2 (by first | (simp only [World.size_alloc, World.size_setCell, World.size_drew]; rfl) | rfl)
    go_wp2_with fail
    refine bodyPost_ret (v := .agg #[.int .i64 3, .int .i64 b, .string u]) (by simp only [results, Tryz.results6]; go_simp) rfl ⟨rfl, by (repeat' (first | (with_reducible exact Below.refl _ _) | (with_reducible assumption) | (with_reducible refine Below.alloc ?_ ?_ _) | (with_reducible refine bel_drewN ?_ _) | (with_reducible refine Below.drew ?_) | (with_reducible refine Below.setCell ?_ ?_ _) | (with_reducible refine bel_call ‹_› ?_ ?_) | go_size))⟩
  · have h3b : (a == 3) = false := by simpa using h3
    obtain ⟨q, hq⟩ : ∃ q, (decide (m = 0)) = q := ⟨_, rfl⟩
    have e1 : R = vv 1 (truthI q) ⟨#[]⟩ := by rw [ej.out, if_neg h3, hq]
    rw [e1]
    have HH := Lib.hid (fun W => holds_0 m W)
    rw [hq] at HH
    clear e1 ej h3 hq
    go_enter Tryz.func6, Tryz.ntmps6
    go_wp2_with fail
    refine (HC.out _).mono ?_
    rintro e w1 ⟨rfl, hb1⟩; obtain ⟨hc_w1, hf_w1, hz_w1⟩ := bcell hb1 (by first | (simp only [World.size_alloc, World.size_setCell, World.size_drew]; rfl) | rfl)
    go_wp2_with fail
    refine (Gau.failed_any _ _ _ _).mono ?_
    rintro e w2 ⟨rfl, hb2⟩; obtain ⟨hc_w2, hf_w2, hz_w2⟩ := bcell hb2 (by first | (simp only [World.size_alloc, World.size_setCell, World.size_drew]; rfl) | rfl)
    go_wp2_with fail
    refine (HH.out _).mono ?_
    rintro e w3 ⟨rfl, rfl⟩
    go_wp2_with fail
    refine (truth_any _ _).mono ?_
    rintro e w4 ⟨rfl, hb4⟩; obtain ⟨hc_w4, hf_w4, hz_w4⟩ := bcell hb4 (by first | (simp only [World.size_alloc, World.size_setCell, World.size_drew]; rfl) | rfl)
    go_wp2_with fail
    refine bodyPost_ret (v := .agg #[.int .i64 1, .int .i64 (truthI q), .string ⟨#[]⟩]) (by simp only [results, Tryz.results6]; go_simp) rfl ⟨rfl, by (repeat' (first | (with_reducible exact Below.refl _ _) | (with_reducible assumption) | (with_reducible refine Below.alloc ?_ ?_ _) | (with_reducible refine bel_drewN ?_ _) | (with_reducible refine Below.drew ?_) | (with_reducible refine Below.setCell ?_ ?_ _) | (with_reducible refine bel_call ‹_› ?_ ?_) | go_size))⟩
set_option maxRecDepth 100000 in
set_option maxHeartbeats 4000000 in
theorem bin_1 (k n : Int) (s : ByteArray) (hk : k = 0 ∨ k = 1 ∨ k = 2 ∨ k = 3) (hs : s.size ≤ 900) (hn1 : -9223372036854775808 ≤ n) (hn2 : n ≤ 9223372036854775807) (k' n' : Int) (s' : ByteArray) (hk' : k' = 0 ∨ k' = 1 ∨ k' = 2 ∨ k' = 3) (hs' : s'.size ≤ 900) (hn1' : -9223372036854775808 ≤ n') (hn2' : n' ≤ 9223372036854775807) (w : World) (hsh : w.ShapedOpen Tryz.prog) : Calls Tryz.prog 6 #[.string ⟨#[60, 62]⟩, .agg #[.int .i64 k, .int .i64 n, .string s], .agg #[.int .i64 k', .int .i64 n', .string s']] w fun e w' => e = .returned (cmV 1 k n s k' n' s') ∧ Below w.heap.size w w' := by
  have HC := Lib.hid (fun W => compare_any k n s k' n' s' W)
  have ej : Hid (cmV 1 k n s k' n' s' = if cmpK k k' = 3 then vv 3 (cmpM k n k' n') (cmpT k s k' s') else vv 1 (truthI (decide ((cmpN k n s k' n' s') ≠ 0))) ⟨#[]⟩) := rfl
  generalize cmV 1 k n s k' n' s' = R at ej ⊢
  generalize cmpN k n s k' n' s' = m at HC ej
  generalize cmpK k k' = a at HC ej
  generalize cmpM k n k' n' = b at HC ej
  generalize cmpT k s k' s' = u at HC ej
  clear hk hs hn1 hn2 hk' hs' hn1' hn2' hsh
  by_cases h3 : a = 3
  · have e1 : R = vv 3 b u := by rw [ej.out, if_pos h3]
    rw [e1]
    subst h3
    clear e1 ej
    go_enter Tryz.func6, Tryz.ntmps6
    go_wp2_with fail
    refine (HC.out _).mono ?_
    rintro e w1 ⟨rfl, hb1⟩; obtain ⟨hc_w1, hf_w1, hz_w1⟩ := bcell hb1 (by first | (simp only [World.size_alloc, World.size_setCell, World.size_drew]; rfl) | rfl)
    go_wp2_with fail
    refine (Gau.failed_any _ _ _ _).mono ?_
    rintro e w2 ⟨rfl, hb2⟩; obtain ⟨hc_w2, hf_w2, hz_w2⟩ := bcell hb2 (by first | (simp only [World.size_alloc, World.size_setCell, World.size_drew]; rfl) | rfl)
    go_wp2_with fail
    refine bodyPost_ret (v := .agg #[.int .i64 3, .int .i64 b, .string u]) (by simp only [results, Tryz.results6]; go_simp) rfl ⟨rfl, by (repeat' (first | (with_reducible exact Below.refl _ _) | (with_reducible assumption) | (with_reducible refine Below.alloc ?_ ?_ _) | (with_reducible refine bel_drewN ?_ _) | (with_reducible refine Below.drew ?_) | (with_reducible refine Below.setCell ?_ ?_ _) | (with_reducible refine bel_call ‹_› ?_ ?_) | go_size))⟩
  · have h3b : (a == 3) = false := by simpa using h3
    obtain ⟨q, hq⟩ : ∃ q, (decide (m ≠ 0)) = q := ⟨_, rfl⟩
    have e1 : R = vv 1 (truthI q) ⟨#[]⟩ := by rw [ej.out, if_neg h3, hq]
    rw [e1]
    have HH := Lib.hid (fun W => holds_1 m W)
    rw [hq] at HH
    clear e1 ej h3 hq
    go_enter Tryz.func6, Tryz.ntmps6
    go_wp2_with fail
    refine (HC.out _).mono ?_
    rintro e w1 ⟨rfl, hb1⟩; obtain ⟨hc_w1, hf_w1, hz_w1⟩ := bcell hb1 (by first | (simp only [World.size_alloc, World.size_setCell, World.size_drew]; rfl) | rfl)
    go_wp2_with fail
    refine (Gau.failed_any _ _ _ _).mono ?_
    rintro e w2 ⟨rfl, hb2⟩; obtain ⟨hc_w2, hf_w2, hz_w2⟩ := bcell hb2 (by first | (simp only [World.size_alloc, World.size_setCell, World.size_drew]; rfl) | rfl)
    go_wp2_with fail
    refine (HH.out _).mono ?_
    rintro e w3 ⟨rfl, rfl⟩
    go_wp2_with fail
    refine (truth_any _ _).mono ?_
    rintro e w4 ⟨rfl, hb4⟩; obtain ⟨hc_w4, hf_w4, hz_w4⟩ := bcell hb4 (by first | (simp only [World.size_alloc, World.size_setCell, World.size_drew]; rfl) | rfl)
    go_wp2_with fail
    refine bodyPost_ret (v := .agg #[.int .i64 1, .int .i64 (truthI q), .string ⟨#[]⟩]) (by simp only [results, Tryz.results6]; go_simp) rfl ⟨rfl, by (repeat' (first | (with_reducible exact Below.refl _ _) | (with_reducible assumption) | (with_reducible refine Below.alloc ?_ ?_ _) | (with_reducible refine bel_drewN ?_ _) | (with_reducible refine Below.drew ?_) | (with_reducible refine Below.setCell ?_ ?_ _) | (with_reducible refine bel_call ‹_› ?_ ?_) | go_size))⟩
set_option maxRecDepth 100000 in
set_option maxHeartbeats 4000000 in
theorem bin_2 (k n : Int) (s : ByteArray) (hk : k = 0 ∨ k = 1 ∨ k = 2 ∨ k = 3) (hs : s.size ≤ 900) (hn1 : -9223372036854775808 ≤ n) (hn2 : n ≤ 9223372036854775807) (k' n' : Int) (s' : ByteArray) (hk' : k' = 0 ∨ k' = 1 ∨ k' = 2 ∨ k' = 3) (hs' : s'.size ≤ 900) (hn1' : -9223372036854775808 ≤ n') (hn2' : n' ≤ 9223372036854775807) (w : World) (hsh : w.ShapedOpen Tryz.prog) : Calls Tryz.prog 6 #[.string ⟨#[60]⟩, .agg #[.int .i64 k, .int .i64 n, .string s], .agg #[.int .i64 k', .int .i64 n', .string s']] w fun e w' => e = .returned (cmV 2 k n s k' n' s') ∧ Below w.heap.size w w' := by
  have HC := Lib.hid (fun W => compare_any k n s k' n' s' W)
  have ej : Hid (cmV 2 k n s k' n' s' = if cmpK k k' = 3 then vv 3 (cmpM k n k' n') (cmpT k s k' s') else vv 1 (truthI (decide ((cmpN k n s k' n' s') < 0))) ⟨#[]⟩) := rfl
  generalize cmV 2 k n s k' n' s' = R at ej ⊢
  generalize cmpN k n s k' n' s' = m at HC ej
  generalize cmpK k k' = a at HC ej
  generalize cmpM k n k' n' = b at HC ej
  generalize cmpT k s k' s' = u at HC ej
  clear hk hs hn1 hn2 hk' hs' hn1' hn2' hsh
  by_cases h3 : a = 3
  · have e1 : R = vv 3 b u := by rw [ej.out, if_pos h3]
    rw [e1]
    subst h3
    clear e1 ej
    go_enter Tryz.func6, Tryz.ntmps6
    go_wp2_with fail
    refine (HC.out _).mono ?_
    rintro e w1 ⟨rfl, hb1⟩; obtain ⟨hc_w1, hf_w1, hz_w1⟩ := bcell hb1 (by first | (simp only [World.size_alloc, World.size_setCell, World.size_drew]; rfl) | rfl)
    go_wp2_with fail
    refine (Gau.failed_any _ _ _ _).mono ?_
    rintro e w2 ⟨rfl, hb2⟩; obtain ⟨hc_w2, hf_w2, hz_w2⟩ := bcell hb2 (by first | (simp only [World.size_alloc, World.size_setCell, World.size_drew]; rfl) | rfl)
    go_wp2_with fail
    refine bodyPost_ret (v := .agg #[.int .i64 3, .int .i64 b, .string u]) (by simp only [results, Tryz.results6]; go_simp) rfl ⟨rfl, by (repeat' (first | (with_reducible exact Below.refl _ _) | (with_reducible assumption) | (with_reducible refine Below.alloc ?_ ?_ _) | (with_reducible refine bel_drewN ?_ _) | (with_reducible refine Below.drew ?_) | (with_reducible refine Below.setCell ?_ ?_ _) | (with_reducible refine bel_call ‹_› ?_ ?_) | go_size))⟩
  · have h3b : (a == 3) = false := by simpa using h3
    obtain ⟨q, hq⟩ : ∃ q, (decide (m < 0)) = q := ⟨_, rfl⟩
    have e1 : R = vv 1 (truthI q) ⟨#[]⟩ := by rw [ej.out, if_neg h3, hq]
    rw [e1]
    have HH := Lib.hid (fun W => holds_2 m W)
    rw [hq] at HH
    clear e1 ej h3 hq
    go_enter Tryz.func6, Tryz.ntmps6
    go_wp2_with fail
    refine (HC.out _).mono ?_
    rintro e w1 ⟨rfl, hb1⟩; obtain ⟨hc_w1, hf_w1, hz_w1⟩ := bcell hb1 (by first | (simp only [World.size_alloc, World.size_setCell, World.size_drew]; rfl) | rfl)
    go_wp2_with fail
    refine (Gau.failed_any _ _ _ _).mono ?_
    rintro e w2 ⟨rfl, hb2⟩; obtain ⟨hc_w2, hf_w2, hz_w2⟩ := bcell hb2 (by first | (simp only [World.size_alloc, World.size_setCell, World.size_drew]; rfl) | rfl)
    go_wp2_with fail
    refine (HH.out _).mono ?_
    rintro e w3 ⟨rfl, rfl⟩
    go_wp2_with fail
    refine (truth_any _ _).mono ?_
    rintro e w4 ⟨rfl, hb4⟩; obtain ⟨hc_w4, hf_w4, hz_w4⟩ := bcell hb4 (by first | (simp only [World.size_alloc, World.size_setCell, World.size_drew]; rfl) | rfl)
    go_wp2_with fail
    refine bodyPost_ret (v := .agg #[.int .i64 1, .int .i64 (truthI q), .string ⟨#[]⟩]) (by simp only [results, Tryz.results6]; go_simp) rfl ⟨rfl, by (repeat' (first | (with_reducible exact Below.refl _ _) | (with_reducible assumption) | (with_reducible refine Below.alloc ?_ ?_ _) | (with_reducible refine bel_drewN ?_ _) | (with_reducible refine Below.drew ?_) | (with_reducible refine Below.setCell ?_ ?_ _) | (with_reducible refine bel_call ‹_› ?_ ?_) | go_size))⟩
set_option maxRecDepth 100000 in
set_option maxHeartbeats 4000000 in
theorem bin_3 (k n : Int) (s : ByteArray) (hk : k = 0 ∨ k = 1 ∨ k = 2 ∨ k = 3) (hs : s.size ≤ 900) (hn1 : -9223372036854775808 ≤ n) (hn2 : n ≤ 9223372036854775807) (k' n' : Int) (s' : ByteArray) (hk' : k' = 0 ∨ k' = 1 ∨ k' = 2 ∨ k' = 3) (hs' : s'.size ≤ 900) (hn1' : -9223372036854775808 ≤ n') (hn2' : n' ≤ 9223372036854775807) (w : World) (hsh : w.ShapedOpen Tryz.prog) : Calls Tryz.prog 6 #[.string ⟨#[60, 61]⟩, .agg #[.int .i64 k, .int .i64 n, .string s], .agg #[.int .i64 k', .int .i64 n', .string s']] w fun e w' => e = .returned (cmV 3 k n s k' n' s') ∧ Below w.heap.size w w' := by
  have HC := Lib.hid (fun W => compare_any k n s k' n' s' W)
  have ej : Hid (cmV 3 k n s k' n' s' = if cmpK k k' = 3 then vv 3 (cmpM k n k' n') (cmpT k s k' s') else vv 1 (truthI (decide ((cmpN k n s k' n' s') ≤ 0))) ⟨#[]⟩) := rfl
  generalize cmV 3 k n s k' n' s' = R at ej ⊢
  generalize cmpN k n s k' n' s' = m at HC ej
  generalize cmpK k k' = a at HC ej
  generalize cmpM k n k' n' = b at HC ej
  generalize cmpT k s k' s' = u at HC ej
  clear hk hs hn1 hn2 hk' hs' hn1' hn2' hsh
  by_cases h3 : a = 3
  · have e1 : R = vv 3 b u := by rw [ej.out, if_pos h3]
    rw [e1]
    subst h3
    clear e1 ej
    go_enter Tryz.func6, Tryz.ntmps6
    go_wp2_with fail
    refine (HC.out _).mono ?_
    rintro e w1 ⟨rfl, hb1⟩; obtain ⟨hc_w1, hf_w1, hz_w1⟩ := bcell hb1 (by first | (simp only [World.size_alloc, World.size_setCell, World.size_drew]; rfl) | rfl)
    go_wp2_with fail
    refine (Gau.failed_any _ _ _ _).mono ?_
    rintro e w2 ⟨rfl, hb2⟩; obtain ⟨hc_w2, hf_w2, hz_w2⟩ := bcell hb2 (by first | (simp only [World.size_alloc, World.size_setCell, World.size_drew]; rfl) | rfl)
    go_wp2_with fail
    refine bodyPost_ret (v := .agg #[.int .i64 3, .int .i64 b, .string u]) (by simp only [results, Tryz.results6]; go_simp) rfl ⟨rfl, by (repeat' (first | (with_reducible exact Below.refl _ _) | (with_reducible assumption) | (with_reducible refine Below.alloc ?_ ?_ _) | (with_reducible refine bel_drewN ?_ _) | (with_reducible refine Below.drew ?_) | (with_reducible refine Below.setCell ?_ ?_ _) | (with_reducible refine bel_call ‹_› ?_ ?_) | go_size))⟩
  · have h3b : (a == 3) = false := by simpa using h3
    obtain ⟨q, hq⟩ : ∃ q, (decide (m ≤ 0)) = q := ⟨_, rfl⟩
    have e1 : R = vv 1 (truthI q) ⟨#[]⟩ := by rw [ej.out, if_neg h3, hq]
    rw [e1]
    have HH := Lib.hid (fun W => holds_3 m W)
    rw [hq] at HH
    clear e1 ej h3 hq
    go_enter Tryz.func6, Tryz.ntmps6
    go_wp2_with fail
    refine (HC.out _).mono ?_
    rintro e w1 ⟨rfl, hb1⟩; obtain ⟨hc_w1, hf_w1, hz_w1⟩ := bcell hb1 (by first | (simp only [World.size_alloc, World.size_setCell, World.size_drew]; rfl) | rfl)
    go_wp2_with fail
    refine (Gau.failed_any _ _ _ _).mono ?_
    rintro e w2 ⟨rfl, hb2⟩; obtain ⟨hc_w2, hf_w2, hz_w2⟩ := bcell hb2 (by first | (simp only [World.size_alloc, World.size_setCell, World.size_drew]; rfl) | rfl)
    go_wp2_with fail
    refine (HH.out _).mono ?_
    rintro e w3 ⟨rfl, rfl⟩
    go_wp2_with fail
    refine (truth_any _ _).mono ?_
    rintro e w4 ⟨rfl, hb4⟩; obtain ⟨hc_w4, hf_w4, hz_w4⟩ := bcell hb4 (by first | (simp only [World.size_alloc, World.size_setCell, World.size_drew]; rfl) | rfl)
    go_wp2_with fail
    refine bodyPost_ret (v := .agg #[.int .i64 1, .int .i64 (truthI q), .string ⟨#[]⟩]) (by simp only [results, Tryz.results6]; go_simp) rfl ⟨rfl, by (repeat' (first | (with_reducible exact Below.refl _ _) | (with_reducible assumption) | (with_reducible refine Below.alloc ?_ ?_ _) | (with_reducible refine bel_drewN ?_ _) | (with_reducible refine Below.drew ?_) | (with_reducible refine Below.setCell ?_ ?_ _) | (with_reducible refine bel_call ‹_› ?_ ?_) | go_size))⟩
set_option maxRecDepth 100000 in
set_option maxHeartbeats 4000000 in
theorem bin_4 (k n : Int) (s : ByteArray) (hk : k = 0 ∨ k = 1 ∨ k = 2 ∨ k = 3) (hs : s.size ≤ 900) (hn1 : -9223372036854775808 ≤ n) (hn2 : n ≤ 9223372036854775807) (k' n' : Int) (s' : ByteArray) (hk' : k' = 0 ∨ k' = 1 ∨ k' = 2 ∨ k' = 3) (hs' : s'.size ≤ 900) (hn1' : -9223372036854775808 ≤ n') (hn2' : n' ≤ 9223372036854775807) (w : World) (hsh : w.ShapedOpen Tryz.prog) : Calls Tryz.prog 6 #[.string ⟨#[62]⟩, .agg #[.int .i64 k, .int .i64 n, .string s], .agg #[.int .i64 k', .int .i64 n', .string s']] w fun e w' => e = .returned (cmV 4 k n s k' n' s') ∧ Below w.heap.size w w' := by
  have HC := Lib.hid (fun W => compare_any k n s k' n' s' W)
  have ej : Hid (cmV 4 k n s k' n' s' = if cmpK k k' = 3 then vv 3 (cmpM k n k' n') (cmpT k s k' s') else vv 1 (truthI (decide (0 < (cmpN k n s k' n' s')))) ⟨#[]⟩) := rfl
  generalize cmV 4 k n s k' n' s' = R at ej ⊢
  generalize cmpN k n s k' n' s' = m at HC ej
  generalize cmpK k k' = a at HC ej
  generalize cmpM k n k' n' = b at HC ej
  generalize cmpT k s k' s' = u at HC ej
  clear hk hs hn1 hn2 hk' hs' hn1' hn2' hsh
  by_cases h3 : a = 3
  · have e1 : R = vv 3 b u := by rw [ej.out, if_pos h3]
    rw [e1]
    subst h3
    clear e1 ej
    go_enter Tryz.func6, Tryz.ntmps6
    go_wp2_with fail
    refine (HC.out _).mono ?_
    rintro e w1 ⟨rfl, hb1⟩; obtain ⟨hc_w1, hf_w1, hz_w1⟩ := bcell hb1 (by first | (simp only [World.size_alloc, World.size_setCell, World.size_drew]; rfl) | rfl)
    go_wp2_with fail
    refine (Gau.failed_any _ _ _ _).mono ?_
    rintro e w2 ⟨rfl, hb2⟩; obtain ⟨hc_w2, hf_w2, hz_w2⟩ := bcell hb2 (by first | (simp only [World.size_alloc, World.size_setCell, World.size_drew]; rfl) | rfl)
    go_wp2_with fail
    refine bodyPost_ret (v := .agg #[.int .i64 3, .int .i64 b, .string u]) (by simp only [results, Tryz.results6]; go_simp) rfl ⟨rfl, by (repeat' (first | (with_reducible exact Below.refl _ _) | (with_reducible assumption) | (with_reducible refine Below.alloc ?_ ?_ _) | (with_reducible refine bel_drewN ?_ _) | (with_reducible refine Below.drew ?_) | (with_reducible refine Below.setCell ?_ ?_ _) | (with_reducible refine bel_call ‹_› ?_ ?_) | go_size))⟩
  · have h3b : (a == 3) = false := by simpa using h3
    obtain ⟨q, hq⟩ : ∃ q, (decide (0 < m)) = q := ⟨_, rfl⟩
    have e1 : R = vv 1 (truthI q) ⟨#[]⟩ := by rw [ej.out, if_neg h3, hq]
    rw [e1]
    have HH := Lib.hid (fun W => holds_4 m W)
    rw [hq] at HH
    clear e1 ej h3 hq
    go_enter Tryz.func6, Tryz.ntmps6
    go_wp2_with fail
    refine (HC.out _).mono ?_
    rintro e w1 ⟨rfl, hb1⟩; obtain ⟨hc_w1, hf_w1, hz_w1⟩ := bcell hb1 (by first | (simp only [World.size_alloc, World.size_setCell, World.size_drew]; rfl) | rfl)
    go_wp2_with fail
    refine (Gau.failed_any _ _ _ _).mono ?_
    rintro e w2 ⟨rfl, hb2⟩; obtain ⟨hc_w2, hf_w2, hz_w2⟩ := bcell hb2 (by first | (simp only [World.size_alloc, World.size_setCell, World.size_drew]; rfl) | rfl)
    go_wp2_with fail
    refine (HH.out _).mono ?_
    rintro e w3 ⟨rfl, rfl⟩
    go_wp2_with fail
    refine (truth_any _ _).mono ?_
    rintro e w4 ⟨rfl, hb4⟩; obtain ⟨hc_w4, hf_w4, hz_w4⟩ := bcell hb4 (by first | (simp only [World.size_alloc, World.size_setCell, World.size_drew]; rfl) | rfl)
    go_wp2_with fail
    refine bodyPost_ret (v := .agg #[.int .i64 1, .int .i64 (truthI q), .string ⟨#[]⟩]) (by simp only [results, Tryz.results6]; go_simp) rfl ⟨rfl, by (repeat' (first | (with_reducible exact Below.refl _ _) | (with_reducible assumption) | (with_reducible refine Below.alloc ?_ ?_ _) | (with_reducible refine bel_drewN ?_ _) | (with_reducible refine Below.drew ?_) | (with_reducible refine Below.setCell ?_ ?_ _) | (with_reducible refine bel_call ‹_› ?_ ?_) | go_size))⟩
set_option maxRecDepth 100000 in
set_option maxHeartbeats 4000000 in
theorem bin_5 (k n : Int) (s : ByteArray) (hk : k = 0 ∨ k = 1 ∨ k = 2 ∨ k = 3) (hs : s.size ≤ 900) (hn1 : -9223372036854775808 ≤ n) (hn2 : n ≤ 9223372036854775807) (k' n' : Int) (s' : ByteArray) (hk' : k' = 0 ∨ k' = 1 ∨ k' = 2 ∨ k' = 3) (hs' : s'.size ≤ 900) (hn1' : -9223372036854775808 ≤ n') (hn2' : n' ≤ 9223372036854775807) (w : World) (hsh : w.ShapedOpen Tryz.prog) : Calls Tryz.prog 6 #[.string ⟨#[62, 61]⟩, .agg #[.int .i64 k, .int .i64 n, .string s], .agg #[.int .i64 k', .int .i64 n', .string s']] w fun e w' => e = .returned (cmV 5 k n s k' n' s') ∧ Below w.heap.size w w' := by
  have HC := Lib.hid (fun W => compare_any k n s k' n' s' W)
  have ej : Hid (cmV 5 k n s k' n' s' = if cmpK k k' = 3 then vv 3 (cmpM k n k' n') (cmpT k s k' s') else vv 1 (truthI (decide (0 ≤ (cmpN k n s k' n' s')))) ⟨#[]⟩) := rfl
  generalize cmV 5 k n s k' n' s' = R at ej ⊢
  generalize cmpN k n s k' n' s' = m at HC ej
  generalize cmpK k k' = a at HC ej
  generalize cmpM k n k' n' = b at HC ej
  generalize cmpT k s k' s' = u at HC ej
  clear hk hs hn1 hn2 hk' hs' hn1' hn2' hsh
  by_cases h3 : a = 3
  · have e1 : R = vv 3 b u := by rw [ej.out, if_pos h3]
    rw [e1]
    subst h3
    clear e1 ej
    go_enter Tryz.func6, Tryz.ntmps6
    go_wp2_with fail
    refine (HC.out _).mono ?_
    rintro e w1 ⟨rfl, hb1⟩; obtain ⟨hc_w1, hf_w1, hz_w1⟩ := bcell hb1 (by first | (simp only [World.size_alloc, World.size_setCell, World.size_drew]; rfl) | rfl)
    go_wp2_with fail
    refine (Gau.failed_any _ _ _ _).mono ?_
    rintro e w2 ⟨rfl, hb2⟩; obtain ⟨hc_w2, hf_w2, hz_w2⟩ := bcell hb2 (by first | (simp only [World.size_alloc, World.size_setCell, World.size_drew]; rfl) | rfl)
    go_wp2_with fail
    refine bodyPost_ret (v := .agg #[.int .i64 3, .int .i64 b, .string u]) (by simp only [results, Tryz.results6]; go_simp) rfl ⟨rfl, by (repeat' (first | (with_reducible exact Below.refl _ _) | (with_reducible assumption) | (with_reducible refine Below.alloc ?_ ?_ _) | (with_reducible refine bel_drewN ?_ _) | (with_reducible refine Below.drew ?_) | (with_reducible refine Below.setCell ?_ ?_ _) | (with_reducible refine bel_call ‹_› ?_ ?_) | go_size))⟩
  · have h3b : (a == 3) = false := by simpa using h3
    obtain ⟨q, hq⟩ : ∃ q, (decide (0 ≤ m)) = q := ⟨_, rfl⟩
    have e1 : R = vv 1 (truthI q) ⟨#[]⟩ := by rw [ej.out, if_neg h3, hq]
    rw [e1]
    have HH := Lib.hid (fun W => holds_5 m W)
    rw [hq] at HH
    clear e1 ej h3 hq
    go_enter Tryz.func6, Tryz.ntmps6
    go_wp2_with fail
    refine (HC.out _).mono ?_
    rintro e w1 ⟨rfl, hb1⟩; obtain ⟨hc_w1, hf_w1, hz_w1⟩ := bcell hb1 (by first | (simp only [World.size_alloc, World.size_setCell, World.size_drew]; rfl) | rfl)
    go_wp2_with fail
    refine (Gau.failed_any _ _ _ _).mono ?_
    rintro e w2 ⟨rfl, hb2⟩; obtain ⟨hc_w2, hf_w2, hz_w2⟩ := bcell hb2 (by first | (simp only [World.size_alloc, World.size_setCell, World.size_drew]; rfl) | rfl)
    go_wp2_with fail
    refine (HH.out _).mono ?_
    rintro e w3 ⟨rfl, rfl⟩
    go_wp2_with fail
    refine (truth_any _ _).mono ?_
    rintro e w4 ⟨rfl, hb4⟩; obtain ⟨hc_w4, hf_w4, hz_w4⟩ := bcell hb4 (by first | (simp only [World.size_alloc, World.size_setCell, World.size_drew]; rfl) | rfl)
    go_wp2_with fail
    refine bodyPost_ret (v := .agg #[.int .i64 1, .int .i64 (truthI q), .string ⟨#[]⟩]) (by simp only [results, Tryz.results6]; go_simp) rfl ⟨rfl, by (repeat' (first | (with_reducible exact Below.refl _ _) | (with_reducible assumption) | (with_reducible refine Below.alloc ?_ ?_ _) | (with_reducible refine bel_drewN ?_ _) | (with_reducible refine Below.drew ?_) | (with_reducible refine Below.setCell ?_ ?_ _) | (with_reducible refine bel_call ‹_› ?_ ?_) | go_size))⟩
set_option maxRecDepth 100000 in
set_option maxHeartbeats 4000000 in
theorem bin_6 (k n : Int) (s : ByteArray) (hk : k = 0 ∨ k = 1 ∨ k = 2 ∨ k = 3) (hs : s.size ≤ 900) (hn1 : -9223372036854775808 ≤ n) (hn2 : n ≤ 9223372036854775807) (k' n' : Int) (s' : ByteArray) (hk' : k' = 0 ∨ k' = 1 ∨ k' = 2 ∨ k' = 3) (hs' : s'.size ≤ 900) (hn1' : -9223372036854775808 ≤ n') (hn2' : n' ≤ 9223372036854775807) (w : World) (hsh : w.ShapedOpen Tryz.prog) : Calls Tryz.prog 6 #[.string ⟨#[38]⟩, .agg #[.int .i64 k, .int .i64 n, .string s], .agg #[.int .i64 k', .int .i64 n', .string s']] w fun e w' => e = .returned (jnV k n s k' n' s') ∧ Below w.heap.size w w' := by
  have HJ := Lib.hid (fun A W hA => join_any A k n s hk hs hn1 hn2 k' n' s' hk' hs' hn1' hn2' W hA)
  obtain ⟨x1, x2, x3, hx⟩ : ∃ x1 x2 x3, jnV k n s k' n' s' = vv x1 x2 x3 := ex_if ⟨_, _, _, rfl⟩ (ex_if ⟨_, _, _, rfl⟩ (ex_if ⟨_, _, _, rfl⟩ (ex_if ⟨_, _, _, rfl⟩ ⟨_, _, _, rfl⟩)))
  rw [hx] at HJ ⊢
  clear hk hs hn1 hn2 hk' hs' hn1' hn2' hx hsh
  go_enter Tryz.func6, Tryz.ntmps6
  go_wp2_with fail
  refine (HJ.out _ _ ?hA).mono ?post
  case hA => exact (by simp only [World.alloc, Array.getElem?_push, Array.size_push]; (repeat (first | rfl | (rw [if_neg (by omega)]) | (rw [if_pos (by omega)]))))
  case post =>
  rintro e w5 ⟨rfl, hb5⟩; obtain ⟨hc_w5, hf_w5, hz_w5⟩ := bcell hb5 (by first | (simp only [World.size_alloc, World.size_setCell, World.size_drew]; rfl) | rfl)
  go_wp2_with fail
  refine bodyPost_ret (v := .agg #[.int .i64 x1, .int .i64 x2, .string x3]) (by simp only [results, Tryz.results6]; go_simp) rfl ⟨rfl, by (repeat' (first | (with_reducible exact Below.refl _ _) | (with_reducible assumption) | (with_reducible refine Below.alloc ?_ ?_ _) | (with_reducible refine bel_drewN ?_ _) | (with_reducible refine Below.drew ?_) | (with_reducible refine Below.setCell ?_ ?_ _) | (with_reducible refine bel_call ‹_› ?_ ?_) | go_size))⟩
set_option maxRecDepth 100000 in
set_option maxHeartbeats 4000000 in
theorem bin_7 (k n : Int) (s : ByteArray) (hk : k = 0 ∨ k = 1 ∨ k = 2 ∨ k = 3) (hs : s.size ≤ 900) (hn1 : -9223372036854775808 ≤ n) (hn2 : n ≤ 9223372036854775807) (k' n' : Int) (s' : ByteArray) (hk' : k' = 0 ∨ k' = 1 ∨ k' = 2 ∨ k' = 3) (hs' : s'.size ≤ 900) (hn1' : -9223372036854775808 ≤ n') (hn2' : n' ≤ 9223372036854775807) (w : World) (hsh : w.ShapedOpen Tryz.prog) : Calls Tryz.prog 6 #[.string ⟨#[43]⟩, .agg #[.int .i64 k, .int .i64 n, .string s], .agg #[.int .i64 k', .int .i64 n', .string s']] w fun e w' => e = .returned (rcV 0 k n s k' n' s') ∧ Below w.heap.size w w' := by
  have HNA := Lib.hid (fun W hW => number_any k n s hk hs W hW)
  have HNB := Lib.hid (fun W hW => number_any k' n' s' hk' hs' W hW)
  have HSH := Lib.hid hsh
  clear hsh
  obtain ⟨hv1, hv2⟩ := numV_rng k n s hn1 hn2
  obtain ⟨hu1, hu2⟩ := numV_rng k' n' s' hn1' hn2'
  have HOP := Lib.hid (fun W => reckon_0 (numV k n s) (numV k' n' s') hv1 hv2 hu1 hu2 W)
  have HR : Hid (rcV 0 k n s k' n' s' = if numK k s = 3 then vv 3 (numM k n) (numT k s) else if numK k' s' = 3 then vv 3 (numM k' n') (numT k' s') else vv (fromK (rkE 0 (numV k n s) (numV k' n' s'))) (fromN (rkV 0 (numV k n s) (numV k' n' s')) (rkE 0 (numV k n s) (numV k' n' s'))) (fromT (rkE 0 (numV k n s) (numV k' n' s')))) := rfl
  generalize rcV 0 k n s k' n' s' = R at HR ⊢
  generalize rkV 0 (numV k n s) (numV k' n' s') = v at HOP HR
  generalize rkE 0 (numV k n s) (numV k' n' s') = f at HOP HR
  generalize numV k n s = d at HNA HOP
  generalize numK k s = a at HNA HR
  generalize numM k n = b at HNA HR
  generalize numT k s = t at HNA HR
  generalize numV k' n' s' = d' at HNB HOP
  generalize numK k' s' = a' at HNB HR
  generalize numM k' n' = b' at HNB HR
  generalize numT k' s' = t' at HNB HR
  clear hv1 hv2 hu1 hu2 hn1 hn2 hs hn1' hn2' hs'
  clear hk hk'
  by_cases h3 : a = 3
  · have e1 : R = vv 3 b t := by rw [HR.out, if_pos h3]
    rw [e1]
    subst h3
    clear e1 HR HOP
    go_enter Tryz.func6, Tryz.ntmps6
    go_wp2_with fail
    refine (HNA.out _ (shaped_below HSH.out (by (repeat' (first | (with_reducible exact Below.refl _ _) | (with_reducible assumption) | (with_reducible refine Below.alloc ?_ ?_ _) | (with_reducible refine bel_drewN ?_ _) | (with_reducible refine Below.drew ?_) | (with_reducible refine Below.setCell ?_ ?_ _) | (with_reducible refine bel_call ‹_› ?_ ?_) | go_size))))).mono ?_
    rintro e w1 ⟨rfl, hb1⟩; obtain ⟨hc_w1, hf_w1, hz_w1⟩ := bcell hb1 (by first | (simp only [World.size_alloc, World.size_setCell, World.size_drew]; rfl) | rfl)
    go_wp2_with fail
    refine (HNB.out _ (shaped_below HSH.out (by (repeat' (first | (with_reducible exact Below.refl _ _) | (with_reducible assumption) | (with_reducible refine Below.alloc ?_ ?_ _) | (with_reducible refine bel_drewN ?_ _) | (with_reducible refine Below.drew ?_) | (with_reducible refine Below.setCell ?_ ?_ _) | (with_reducible refine bel_call ‹_› ?_ ?_) | go_size))))).mono ?_
    rintro e w2 ⟨rfl, hb2⟩; obtain ⟨hc_w2, hf_w2, hz_w2⟩ := bcell hb2 (by first | (simp only [World.size_alloc, World.size_setCell, World.size_drew]; rfl) | rfl)
    go_wp2_with fail
    refine (Gau.failed_any _ _ _ _).mono ?_
    rintro e w3 ⟨rfl, hb3⟩; obtain ⟨hc_w3, hf_w3, hz_w3⟩ := bcell hb3 (by first | (simp only [World.size_alloc, World.size_setCell, World.size_drew]; rfl) | rfl)
    go_wp2_with fail
    refine bodyPost_ret (v := .agg #[.int .i64 3, .int .i64 b, .string t]) (by simp only [results, Tryz.results6]; go_simp) rfl ⟨rfl, by (repeat' (first | (with_reducible exact Below.refl _ _) | (with_reducible assumption) | (with_reducible refine Below.alloc ?_ ?_ _) | (with_reducible refine bel_drewN ?_ _) | (with_reducible refine Below.drew ?_) | (with_reducible refine Below.setCell ?_ ?_ _) | (with_reducible refine bel_call ‹_› ?_ ?_) | go_size))⟩
  · have h3b : (a == 3) = false := by simpa using h3
    by_cases h4 : a' = 3
    · have e1 : R = vv 3 b' t' := by rw [HR.out, if_neg h3, if_pos h4]
      rw [e1]
      subst h4
      clear e1 h3 HR HOP
      go_enter Tryz.func6, Tryz.ntmps6
      go_wp2_with fail
      refine (HNA.out _ (shaped_below HSH.out (by (repeat' (first | (with_reducible exact Below.refl _ _) | (with_reducible assumption) | (with_reducible refine Below.alloc ?_ ?_ _) | (with_reducible refine bel_drewN ?_ _) | (with_reducible refine Below.drew ?_) | (with_reducible refine Below.setCell ?_ ?_ _) | (with_reducible refine bel_call ‹_› ?_ ?_) | go_size))))).mono ?_
      rintro e w1 ⟨rfl, hb1⟩; obtain ⟨hc_w1, hf_w1, hz_w1⟩ := bcell hb1 (by first | (simp only [World.size_alloc, World.size_setCell, World.size_drew]; rfl) | rfl)
      go_wp2_with fail
      refine (HNB.out _ (shaped_below HSH.out (by (repeat' (first | (with_reducible exact Below.refl _ _) | (with_reducible assumption) | (with_reducible refine Below.alloc ?_ ?_ _) | (with_reducible refine bel_drewN ?_ _) | (with_reducible refine Below.drew ?_) | (with_reducible refine Below.setCell ?_ ?_ _) | (with_reducible refine bel_call ‹_› ?_ ?_) | go_size))))).mono ?_
      rintro e w2 ⟨rfl, hb2⟩; obtain ⟨hc_w2, hf_w2, hz_w2⟩ := bcell hb2 (by first | (simp only [World.size_alloc, World.size_setCell, World.size_drew]; rfl) | rfl)
      go_wp2_with fail
      refine (Gau.failed_any _ _ _ _).mono ?_
      rintro e w3 ⟨rfl, hb3⟩; obtain ⟨hc_w3, hf_w3, hz_w3⟩ := bcell hb3 (by first | (simp only [World.size_alloc, World.size_setCell, World.size_drew]; rfl) | rfl)
      go_wp2_with fail
      refine (Gau.failed_any _ _ _ _).mono ?_
      rintro e w4 ⟨rfl, hb4⟩; obtain ⟨hc_w4, hf_w4, hz_w4⟩ := bcell hb4 (by first | (simp only [World.size_alloc, World.size_setCell, World.size_drew]; rfl) | rfl)
      go_wp2_with fail
      refine bodyPost_ret (v := .agg #[.int .i64 3, .int .i64 b', .string t']) (by simp only [results, Tryz.results6]; go_simp) rfl ⟨rfl, by (repeat' (first | (with_reducible exact Below.refl _ _) | (with_reducible assumption) | (with_reducible refine Below.alloc ?_ ?_ _) | (with_reducible refine bel_drewN ?_ _) | (with_reducible refine Below.drew ?_) | (with_reducible refine Below.setCell ?_ ?_ _) | (with_reducible refine bel_call ‹_› ?_ ?_) | go_size))⟩
    · have h4b : (a' == 3) = false := by simpa using h4
      have e1 : R = vv (fromK f) (fromN v f) (fromT f) := by rw [HR.out, if_neg h3, if_neg h4]
      rw [e1]
      clear e1 h3 h4 HR
      go_enter Tryz.func6, Tryz.ntmps6
      go_wp2_with fail
      refine (HNA.out _ (shaped_below HSH.out (by (repeat' (first | (with_reducible exact Below.refl _ _) | (with_reducible assumption) | (with_reducible refine Below.alloc ?_ ?_ _) | (with_reducible refine bel_drewN ?_ _) | (with_reducible refine Below.drew ?_) | (with_reducible refine Below.setCell ?_ ?_ _) | (with_reducible refine bel_call ‹_› ?_ ?_) | go_size))))).mono ?_
      rintro e w1 ⟨rfl, hb1⟩; obtain ⟨hc_w1, hf_w1, hz_w1⟩ := bcell hb1 (by first | (simp only [World.size_alloc, World.size_setCell, World.size_drew]; rfl) | rfl)
      go_wp2_with fail
      refine (HNB.out _ (shaped_below HSH.out (by (repeat' (first | (with_reducible exact Below.refl _ _) | (with_reducible assumption) | (with_reducible refine Below.alloc ?_ ?_ _) | (with_reducible refine bel_drewN ?_ _) | (with_reducible refine Below.drew ?_) | (with_reducible refine Below.setCell ?_ ?_ _) | (with_reducible refine bel_call ‹_› ?_ ?_) | go_size))))).mono ?_
      rintro e w2 ⟨rfl, hb2⟩; obtain ⟨hc_w2, hf_w2, hz_w2⟩ := bcell hb2 (by first | (simp only [World.size_alloc, World.size_setCell, World.size_drew]; rfl) | rfl)
      go_wp2_with fail
      refine (Gau.failed_any _ _ _ _).mono ?_
      rintro e w3 ⟨rfl, hb3⟩; obtain ⟨hc_w3, hf_w3, hz_w3⟩ := bcell hb3 (by first | (simp only [World.size_alloc, World.size_setCell, World.size_drew]; rfl) | rfl)
      go_wp2_with fail
      refine (Gau.failed_any _ _ _ _).mono ?_
      rintro e w4 ⟨rfl, hb4⟩; obtain ⟨hc_w4, hf_w4, hz_w4⟩ := bcell hb4 (by first | (simp only [World.size_alloc, World.size_setCell, World.size_drew]; rfl) | rfl)
      go_wp2_with fail
      refine (HOP.out _).mono ?_
      rintro e w5 ⟨rfl, hb5⟩; obtain ⟨hc_w5, hf_w5, hz_w5⟩ := bcell hb5 (by first | (simp only [World.size_alloc, World.size_setCell, World.size_drew]; rfl) | rfl)
      go_wp2_with fail
      refine bodyPost_ret (v := .agg #[.int .i64 (fromK f), .int .i64 (fromN v f), .string (fromT f)]) (by simp only [results, Tryz.results6]; go_simp) rfl ⟨rfl, by (repeat' (first | (with_reducible exact Below.refl _ _) | (with_reducible assumption) | (with_reducible refine Below.alloc ?_ ?_ _) | (with_reducible refine bel_drewN ?_ _) | (with_reducible refine Below.drew ?_) | (with_reducible refine Below.setCell ?_ ?_ _) | (with_reducible refine bel_call ‹_› ?_ ?_) | go_size))⟩
set_option maxRecDepth 100000 in
set_option maxHeartbeats 4000000 in
theorem bin_8 (k n : Int) (s : ByteArray) (hk : k = 0 ∨ k = 1 ∨ k = 2 ∨ k = 3) (hs : s.size ≤ 900) (hn1 : -9223372036854775808 ≤ n) (hn2 : n ≤ 9223372036854775807) (k' n' : Int) (s' : ByteArray) (hk' : k' = 0 ∨ k' = 1 ∨ k' = 2 ∨ k' = 3) (hs' : s'.size ≤ 900) (hn1' : -9223372036854775808 ≤ n') (hn2' : n' ≤ 9223372036854775807) (w : World) (hsh : w.ShapedOpen Tryz.prog) : Calls Tryz.prog 6 #[.string ⟨#[45]⟩, .agg #[.int .i64 k, .int .i64 n, .string s], .agg #[.int .i64 k', .int .i64 n', .string s']] w fun e w' => e = .returned (rcV 1 k n s k' n' s') ∧ Below w.heap.size w w' := by
  have HNA := Lib.hid (fun W hW => number_any k n s hk hs W hW)
  have HNB := Lib.hid (fun W hW => number_any k' n' s' hk' hs' W hW)
  have HSH := Lib.hid hsh
  clear hsh
  obtain ⟨hv1, hv2⟩ := numV_rng k n s hn1 hn2
  obtain ⟨hu1, hu2⟩ := numV_rng k' n' s' hn1' hn2'
  have HOP := Lib.hid (fun W => reckon_1 (numV k n s) (numV k' n' s') hv1 hv2 hu1 hu2 W)
  have HR : Hid (rcV 1 k n s k' n' s' = if numK k s = 3 then vv 3 (numM k n) (numT k s) else if numK k' s' = 3 then vv 3 (numM k' n') (numT k' s') else vv (fromK (rkE 1 (numV k n s) (numV k' n' s'))) (fromN (rkV 1 (numV k n s) (numV k' n' s')) (rkE 1 (numV k n s) (numV k' n' s'))) (fromT (rkE 1 (numV k n s) (numV k' n' s')))) := rfl
  generalize rcV 1 k n s k' n' s' = R at HR ⊢
  generalize rkV 1 (numV k n s) (numV k' n' s') = v at HOP HR
  generalize rkE 1 (numV k n s) (numV k' n' s') = f at HOP HR
  generalize numV k n s = d at HNA HOP
  generalize numK k s = a at HNA HR
  generalize numM k n = b at HNA HR
  generalize numT k s = t at HNA HR
  generalize numV k' n' s' = d' at HNB HOP
  generalize numK k' s' = a' at HNB HR
  generalize numM k' n' = b' at HNB HR
  generalize numT k' s' = t' at HNB HR
  clear hv1 hv2 hu1 hu2 hn1 hn2 hs hn1' hn2' hs'
  clear hk hk'
  by_cases h3 : a = 3
  · have e1 : R = vv 3 b t := by rw [HR.out, if_pos h3]
    rw [e1]
    subst h3
    clear e1 HR HOP
    go_enter Tryz.func6, Tryz.ntmps6
    go_wp2_with fail
    refine (HNA.out _ (shaped_below HSH.out (by (repeat' (first | (with_reducible exact Below.refl _ _) | (with_reducible assumption) | (with_reducible refine Below.alloc ?_ ?_ _) | (with_reducible refine bel_drewN ?_ _) | (with_reducible refine Below.drew ?_) | (with_reducible refine Below.setCell ?_ ?_ _) | (with_reducible refine bel_call ‹_› ?_ ?_) | go_size))))).mono ?_
    rintro e w1 ⟨rfl, hb1⟩; obtain ⟨hc_w1, hf_w1, hz_w1⟩ := bcell hb1 (by first | (simp only [World.size_alloc, World.size_setCell, World.size_drew]; rfl) | rfl)
    go_wp2_with fail
    refine (HNB.out _ (shaped_below HSH.out (by (repeat' (first | (with_reducible exact Below.refl _ _) | (with_reducible assumption) | (with_reducible refine Below.alloc ?_ ?_ _) | (with_reducible refine bel_drewN ?_ _) | (with_reducible refine Below.drew ?_) | (with_reducible refine Below.setCell ?_ ?_ _) | (with_reducible refine bel_call ‹_› ?_ ?_) | go_size))))).mono ?_
    rintro e w2 ⟨rfl, hb2⟩; obtain ⟨hc_w2, hf_w2, hz_w2⟩ := bcell hb2 (by first | (simp only [World.size_alloc, World.size_setCell, World.size_drew]; rfl) | rfl)
    go_wp2_with fail
    refine (Gau.failed_any _ _ _ _).mono ?_
    rintro e w3 ⟨rfl, hb3⟩; obtain ⟨hc_w3, hf_w3, hz_w3⟩ := bcell hb3 (by first | (simp only [World.size_alloc, World.size_setCell, World.size_drew]; rfl) | rfl)
    go_wp2_with fail
    refine bodyPost_ret (v := .agg #[.int .i64 3, .int .i64 b, .string t]) (by simp only [results, Tryz.results6]; go_simp) rfl ⟨rfl, by (repeat' (first | (with_reducible exact Below.refl _ _) | (with_reducible assumption) | (with_reducible refine Below.alloc ?_ ?_ _) | (with_reducible refine bel_drewN ?_ _) | (with_reducible refine Below.drew ?_) | (with_reducible refine Below.setCell ?_ ?_ _) | (with_reducible refine bel_call ‹_› ?_ ?_) | go_size))⟩
  · have h3b : (a == 3) = false := by simpa using h3
    by_cases h4 : a' = 3
    · have e1 : R = vv 3 b' t' := by rw [HR.out, if_neg h3, if_pos h4]
      rw [e1]
      subst h4
      clear e1 h3 HR HOP
      go_enter Tryz.func6, Tryz.ntmps6
      go_wp2_with fail
      refine (HNA.out _ (shaped_below HSH.out (by (repeat' (first | (with_reducible exact Below.refl _ _) | (with_reducible assumption) | (with_reducible refine Below.alloc ?_ ?_ _) | (with_reducible refine bel_drewN ?_ _) | (with_reducible refine Below.drew ?_) | (with_reducible refine Below.setCell ?_ ?_ _) | (with_reducible refine bel_call ‹_› ?_ ?_) | go_size))))).mono ?_
      rintro e w1 ⟨rfl, hb1⟩; obtain ⟨hc_w1, hf_w1, hz_w1⟩ := bcell hb1 (by first | (simp only [World.size_alloc, World.size_setCell, World.size_drew]; rfl) | rfl)
      go_wp2_with fail
      refine (HNB.out _ (shaped_below HSH.out (by (repeat' (first | (with_reducible exact Below.refl _ _) | (with_reducible assumption) | (with_reducible refine Below.alloc ?_ ?_ _) | (with_reducible refine bel_drewN ?_ _) | (with_reducible refine Below.drew ?_) | (with_reducible refine Below.setCell ?_ ?_ _) | (with_reducible refine bel_call ‹_› ?_ ?_) | go_size))))).mono ?_
      rintro e w2 ⟨rfl, hb2⟩; obtain ⟨hc_w2, hf_w2, hz_w2⟩ := bcell hb2 (by first | (simp only [World.size_alloc, World.size_setCell, World.size_drew]; rfl) | rfl)
      go_wp2_with fail
      refine (Gau.failed_any _ _ _ _).mono ?_
      rintro e w3 ⟨rfl, hb3⟩; obtain ⟨hc_w3, hf_w3, hz_w3⟩ := bcell hb3 (by first | (simp only [World.size_alloc, World.size_setCell, World.size_drew]; rfl) | rfl)
      go_wp2_with fail
      refine (Gau.failed_any _ _ _ _).mono ?_
      rintro e w4 ⟨rfl, hb4⟩; obtain ⟨hc_w4, hf_w4, hz_w4⟩ := bcell hb4 (by first | (simp only [World.size_alloc, World.size_setCell, World.size_drew]; rfl) | rfl)
      go_wp2_with fail
      refine bodyPost_ret (v := .agg #[.int .i64 3, .int .i64 b', .string t']) (by simp only [results, Tryz.results6]; go_simp) rfl ⟨rfl, by (repeat' (first | (with_reducible exact Below.refl _ _) | (with_reducible assumption) | (with_reducible refine Below.alloc ?_ ?_ _) | (with_reducible refine bel_drewN ?_ _) | (with_reducible refine Below.drew ?_) | (with_reducible refine Below.setCell ?_ ?_ _) | (with_reducible refine bel_call ‹_› ?_ ?_) | go_size))⟩
    · have h4b : (a' == 3) = false := by simpa using h4
      have e1 : R = vv (fromK f) (fromN v f) (fromT f) := by rw [HR.out, if_neg h3, if_neg h4]
      rw [e1]
      clear e1 h3 h4 HR
      go_enter Tryz.func6, Tryz.ntmps6
      go_wp2_with fail
      refine (HNA.out _ (shaped_below HSH.out (by (repeat' (first | (with_reducible exact Below.refl _ _) | (with_reducible assumption) | (with_reducible refine Below.alloc ?_ ?_ _) | (with_reducible refine bel_drewN ?_ _) | (with_reducible refine Below.drew ?_) | (with_reducible refine Below.setCell ?_ ?_ _) | (with_reducible refine bel_call ‹_› ?_ ?_) | go_size))))).mono ?_
      rintro e w1 ⟨rfl, hb1⟩; obtain ⟨hc_w1, hf_w1, hz_w1⟩ := bcell hb1 (by first | (simp only [World.size_alloc, World.size_setCell, World.size_drew]; rfl) | rfl)
      go_wp2_with fail
      refine (HNB.out _ (shaped_below HSH.out (by (repeat' (first | (with_reducible exact Below.refl _ _) | (with_reducible assumption) | (with_reducible refine Below.alloc ?_ ?_ _) | (with_reducible refine bel_drewN ?_ _) | (with_reducible refine Below.drew ?_) | (with_reducible refine Below.setCell ?_ ?_ _) | (with_reducible refine bel_call ‹_› ?_ ?_) | go_size))))).mono ?_
      rintro e w2 ⟨rfl, hb2⟩; obtain ⟨hc_w2, hf_w2, hz_w2⟩ := bcell hb2 (by first | (simp only [World.size_alloc, World.size_setCell, World.size_drew]; rfl) | rfl)
      go_wp2_with fail
      refine (Gau.failed_any _ _ _ _).mono ?_
      rintro e w3 ⟨rfl, hb3⟩; obtain ⟨hc_w3, hf_w3, hz_w3⟩ := bcell hb3 (by first | (simp only [World.size_alloc, World.size_setCell, World.size_drew]; rfl) | rfl)
      go_wp2_with fail
      refine (Gau.failed_any _ _ _ _).mono ?_
      rintro e w4 ⟨rfl, hb4⟩; obtain ⟨hc_w4, hf_w4, hz_w4⟩ := bcell hb4 (by first | (simp only [World.size_alloc, World.size_setCell, World.size_drew]; rfl) | rfl)
      go_wp2_with fail
      refine (HOP.out _).mono ?_
      rintro e w5 ⟨rfl, hb5⟩; obtain ⟨hc_w5, hf_w5, hz_w5⟩ := bcell hb5 (by first | (simp only [World.size_alloc, World.size_setCell, World.size_drew]; rfl) | rfl)
      go_wp2_with fail
      refine bodyPost_ret (v := .agg #[.int .i64 (fromK f), .int .i64 (fromN v f), .string (fromT f)]) (by simp only [results, Tryz.results6]; go_simp) rfl ⟨rfl, by (repeat' (first | (with_reducible exact Below.refl _ _) | (with_reducible assumption) | (with_reducible refine Below.alloc ?_ ?_ _) | (with_reducible refine bel_drewN ?_ _) | (with_reducible refine Below.drew ?_) | (with_reducible refine Below.setCell ?_ ?_ _) | (with_reducible refine bel_call ‹_› ?_ ?_) | go_size))⟩
set_option maxRecDepth 100000 in
set_option maxHeartbeats 4000000 in
theorem bin_9 (k n : Int) (s : ByteArray) (hk : k = 0 ∨ k = 1 ∨ k = 2 ∨ k = 3) (hs : s.size ≤ 900) (hn1 : -9223372036854775808 ≤ n) (hn2 : n ≤ 9223372036854775807) (k' n' : Int) (s' : ByteArray) (hk' : k' = 0 ∨ k' = 1 ∨ k' = 2 ∨ k' = 3) (hs' : s'.size ≤ 900) (hn1' : -9223372036854775808 ≤ n') (hn2' : n' ≤ 9223372036854775807) (w : World) (hsh : w.ShapedOpen Tryz.prog) : Calls Tryz.prog 6 #[.string ⟨#[42]⟩, .agg #[.int .i64 k, .int .i64 n, .string s], .agg #[.int .i64 k', .int .i64 n', .string s']] w fun e w' => e = .returned (rcV 2 k n s k' n' s') ∧ Below w.heap.size w w' := by
  have HNA := Lib.hid (fun W hW => number_any k n s hk hs W hW)
  have HNB := Lib.hid (fun W hW => number_any k' n' s' hk' hs' W hW)
  have HSH := Lib.hid hsh
  clear hsh
  obtain ⟨hv1, hv2⟩ := numV_rng k n s hn1 hn2
  obtain ⟨hu1, hu2⟩ := numV_rng k' n' s' hn1' hn2'
  have HOP := Lib.hid (fun W => reckon_2 (numV k n s) (numV k' n' s') hv1 hv2 hu1 hu2 W)
  have HR : Hid (rcV 2 k n s k' n' s' = if numK k s = 3 then vv 3 (numM k n) (numT k s) else if numK k' s' = 3 then vv 3 (numM k' n') (numT k' s') else vv (fromK (rkE 2 (numV k n s) (numV k' n' s'))) (fromN (rkV 2 (numV k n s) (numV k' n' s')) (rkE 2 (numV k n s) (numV k' n' s'))) (fromT (rkE 2 (numV k n s) (numV k' n' s')))) := rfl
  generalize rcV 2 k n s k' n' s' = R at HR ⊢
  generalize rkV 2 (numV k n s) (numV k' n' s') = v at HOP HR
  generalize rkE 2 (numV k n s) (numV k' n' s') = f at HOP HR
  generalize numV k n s = d at HNA HOP
  generalize numK k s = a at HNA HR
  generalize numM k n = b at HNA HR
  generalize numT k s = t at HNA HR
  generalize numV k' n' s' = d' at HNB HOP
  generalize numK k' s' = a' at HNB HR
  generalize numM k' n' = b' at HNB HR
  generalize numT k' s' = t' at HNB HR
  clear hv1 hv2 hu1 hu2 hn1 hn2 hs hn1' hn2' hs'
  clear hk hk'
  by_cases h3 : a = 3
  · have e1 : R = vv 3 b t := by rw [HR.out, if_pos h3]
    rw [e1]
    subst h3
    clear e1 HR HOP
    go_enter Tryz.func6, Tryz.ntmps6
    go_wp2_with fail
    refine (HNA.out _ (shaped_below HSH.out (by (repeat' (first | (with_reducible exact Below.refl _ _) | (with_reducible assumption) | (with_reducible refine Below.alloc ?_ ?_ _) | (with_reducible refine bel_drewN ?_ _) | (with_reducible refine Below.drew ?_) | (with_reducible refine Below.setCell ?_ ?_ _) | (with_reducible refine bel_call ‹_› ?_ ?_) | go_size))))).mono ?_
    rintro e w1 ⟨rfl, hb1⟩; obtain ⟨hc_w1, hf_w1, hz_w1⟩ := bcell hb1 (by first | (simp only [World.size_alloc, World.size_setCell, World.size_drew]; rfl) | rfl)
    go_wp2_with fail
    refine (HNB.out _ (shaped_below HSH.out (by (repeat' (first | (with_reducible exact Below.refl _ _) | (with_reducible assumption) | (with_reducible refine Below.alloc ?_ ?_ _) | (with_reducible refine bel_drewN ?_ _) | (with_reducible refine Below.drew ?_) | (with_reducible refine Below.setCell ?_ ?_ _) | (with_reducible refine bel_call ‹_› ?_ ?_) | go_size))))).mono ?_
    rintro e w2 ⟨rfl, hb2⟩; obtain ⟨hc_w2, hf_w2, hz_w2⟩ := bcell hb2 (by first | (simp only [World.size_alloc, World.size_setCell, World.size_drew]; rfl) | rfl)
    go_wp2_with fail
    refine (Gau.failed_any _ _ _ _).mono ?_
    rintro e w3 ⟨rfl, hb3⟩; obtain ⟨hc_w3, hf_w3, hz_w3⟩ := bcell hb3 (by first | (simp only [World.size_alloc, World.size_setCell, World.size_drew]; rfl) | rfl)
    go_wp2_with fail
    refine bodyPost_ret (v := .agg #[.int .i64 3, .int .i64 b, .string t]) (by simp only [results, Tryz.results6]; go_simp) rfl ⟨rfl, by (repeat' (first | (with_reducible exact Below.refl _ _) | (with_reducible assumption) | (with_reducible refine Below.alloc ?_ ?_ _) | (with_reducible refine bel_drewN ?_ _) | (with_reducible refine Below.drew ?_) | (with_reducible refine Below.setCell ?_ ?_ _) | (with_reducible refine bel_call ‹_› ?_ ?_) | go_size))⟩
  · have h3b : (a == 3) = false := by simpa using h3
    by_cases h4 : a' = 3
    · have e1 : R = vv 3 b' t' := by rw [HR.out, if_neg h3, if_pos h4]
      rw [e1]
      subst h4
      clear e1 h3 HR HOP
      go_enter Tryz.func6, Tryz.ntmps6
      go_wp2_with fail
      refine (HNA.out _ (shaped_below HSH.out (by (repeat' (first | (with_reducible exact Below.refl _ _) | (with_reducible assumption) | (with_reducible refine Below.alloc ?_ ?_ _) | (with_reducible refine bel_drewN ?_ _) | (with_reducible refine Below.drew ?_) | (with_reducible refine Below.setCell ?_ ?_ _) | (with_reducible refine bel_call ‹_› ?_ ?_) | go_size))))).mono ?_
      rintro e w1 ⟨rfl, hb1⟩; obtain ⟨hc_w1, hf_w1, hz_w1⟩ := bcell hb1 (by first | (simp only [World.size_alloc, World.size_setCell, World.size_drew]; rfl) | rfl)
      go_wp2_with fail
      refine (HNB.out _ (shaped_below HSH.out (by (repeat' (first | (with_reducible exact Below.refl _ _) | (with_reducible assumption) | (with_reducible refine Below.alloc ?_ ?_ _) | (with_reducible refine bel_drewN ?_ _) | (with_reducible refine Below.drew ?_) | (with_reducible refine Below.setCell ?_ ?_ _) | (with_reducible refine bel_call ‹_› ?_ ?_) | go_size))))).mono ?_
      rintro e w2 ⟨rfl, hb2⟩; obtain ⟨hc_w2, hf_w2, hz_w2⟩ := bcell hb2 (by first | (simp only [World.size_alloc, World.size_setCell, World.size_drew]; rfl) | rfl)
      go_wp2_with fail
      refine (Gau.failed_any _ _ _ _).mono ?_
      rintro e w3 ⟨rfl, hb3⟩; obtain ⟨hc_w3, hf_w3, hz_w3⟩ := bcell hb3 (by first | (simp only [World.size_alloc, World.size_setCell, World.size_drew]; rfl) | rfl)
      go_wp2_with fail
      refine (Gau.failed_any _ _ _ _).mono ?_
      rintro e w4 ⟨rfl, hb4⟩; obtain ⟨hc_w4, hf_w4, hz_w4⟩ := bcell hb4 (by first | (simp only [World.size_alloc, World.size_setCell, World.size_drew]; rfl) | rfl)
      go_wp2_with fail
      refine bodyPost_ret (v := .agg #[.int .i64 3, .int .i64 b', .string t']) (by simp only [results, Tryz.results6]; go_simp) rfl ⟨rfl, by (repeat' (first | (with_reducible exact Below.refl _ _) | (with_reducible assumption) | (with_reducible refine Below.alloc ?_ ?_ _) | (with_reducible refine bel_drewN ?_ _) | (with_reducible refine Below.drew ?_) | (with_reducible refine Below.setCell ?_ ?_ _) | (with_reducible refine bel_call ‹_› ?_ ?_) | go_size))⟩
    · have h4b : (a' == 3) = false := by simpa using h4
      have e1 : R = vv (fromK f) (fromN v f) (fromT f) := by rw [HR.out, if_neg h3, if_neg h4]
      rw [e1]
      clear e1 h3 h4 HR
      go_enter Tryz.func6, Tryz.ntmps6
      go_wp2_with fail
      refine (HNA.out _ (shaped_below HSH.out (by (repeat' (first | (with_reducible exact Below.refl _ _) | (with_reducible assumption) | (with_reducible refine Below.alloc ?_ ?_ _) | (with_reducible refine bel_drewN ?_ _) | (with_reducible refine Below.drew ?_) | (with_reducible refine Below.setCell ?_ ?_ _) | (with_reducible refine bel_call ‹_› ?_ ?_) | go_size))))).mono ?_
      rintro e w1 ⟨rfl, hb1⟩; obtain ⟨hc_w1, hf_w1, hz_w1⟩ := bcell hb1 (by first | (simp only [World.size_alloc, World.size_setCell, World.size_drew]; rfl) | rfl)
      go_wp2_with fail
      refine (HNB.out _ (shaped_below HSH.out (by (repeat' (first | (with_reducible exact Below.refl _ _) | (with_reducible assumption) | (with_reducible refine Below.alloc ?_ ?_ _) | (with_reducible refine bel_drewN ?_ _) | (with_reducible refine Below.drew ?_) | (with_reducible refine Below.setCell ?_ ?_ _) | (with_reducible refine bel_call ‹_› ?_ ?_) | go_size))))).mono ?_
      rintro e w2 ⟨rfl, hb2⟩; obtain ⟨hc_w2, hf_w2, hz_w2⟩ := bcell hb2 (by first | (simp only [World.size_alloc, World.size_setCell, World.size_drew]; rfl) | rfl)
      go_wp2_with fail
      refine (Gau.failed_any _ _ _ _).mono ?_
      rintro e w3 ⟨rfl, hb3⟩; obtain ⟨hc_w3, hf_w3, hz_w3⟩ := bcell hb3 (by first | (simp only [World.size_alloc, World.size_setCell, World.size_drew]; rfl) | rfl)
      go_wp2_with fail
      refine (Gau.failed_any _ _ _ _).mono ?_
      rintro e w4 ⟨rfl, hb4⟩; obtain ⟨hc_w4, hf_w4, hz_w4⟩ := bcell hb4 (by first | (simp only [World.size_alloc, World.size_setCell, World.size_drew]; rfl) | rfl)
      go_wp2_with fail
      refine (HOP.out _).mono ?_
      rintro e w5 ⟨rfl, hb5⟩; obtain ⟨hc_w5, hf_w5, hz_w5⟩ := bcell hb5 (by first | (simp only [World.size_alloc, World.size_setCell, World.size_drew]; rfl) | rfl)
      go_wp2_with fail
      refine bodyPost_ret (v := .agg #[.int .i64 (fromK f), .int .i64 (fromN v f), .string (fromT f)]) (by simp only [results, Tryz.results6]; go_simp) rfl ⟨rfl, by (repeat' (first | (with_reducible exact Below.refl _ _) | (with_reducible assumption) | (with_reducible refine Below.alloc ?_ ?_ _) | (with_reducible refine bel_drewN ?_ _) | (with_reducible refine Below.drew ?_) | (with_reducible refine Below.setCell ?_ ?_ _) | (with_reducible refine bel_call ‹_› ?_ ?_) | go_size))⟩
set_option maxRecDepth 100000 in
set_option maxHeartbeats 4000000 in
theorem bin_10 (k n : Int) (s : ByteArray) (hk : k = 0 ∨ k = 1 ∨ k = 2 ∨ k = 3) (hs : s.size ≤ 900) (hn1 : -9223372036854775808 ≤ n) (hn2 : n ≤ 9223372036854775807) (k' n' : Int) (s' : ByteArray) (hk' : k' = 0 ∨ k' = 1 ∨ k' = 2 ∨ k' = 3) (hs' : s'.size ≤ 900) (hn1' : -9223372036854775808 ≤ n') (hn2' : n' ≤ 9223372036854775807) (w : World) (hsh : w.ShapedOpen Tryz.prog) : Calls Tryz.prog 6 #[.string ⟨#[47]⟩, .agg #[.int .i64 k, .int .i64 n, .string s], .agg #[.int .i64 k', .int .i64 n', .string s']] w fun e w' => e = .returned (rcV 3 k n s k' n' s') ∧ Below w.heap.size w w' := by
  have HNA := Lib.hid (fun W hW => number_any k n s hk hs W hW)
  have HNB := Lib.hid (fun W hW => number_any k' n' s' hk' hs' W hW)
  have HSH := Lib.hid hsh
  clear hsh
  obtain ⟨hv1, hv2⟩ := numV_rng k n s hn1 hn2
  obtain ⟨hu1, hu2⟩ := numV_rng k' n' s' hn1' hn2'
  have HOP := Lib.hid (fun W => reckon_3 (numV k n s) (numV k' n' s') hv1 hv2 hu1 hu2 W)
  have HR : Hid (rcV 3 k n s k' n' s' = if numK k s = 3 then vv 3 (numM k n) (numT k s) else if numK k' s' = 3 then vv 3 (numM k' n') (numT k' s') else vv (fromK (rkE 3 (numV k n s) (numV k' n' s'))) (fromN (rkV 3 (numV k n s) (numV k' n' s')) (rkE 3 (numV k n s) (numV k' n' s'))) (fromT (rkE 3 (numV k n s) (numV k' n' s')))) := rfl
  generalize rcV 3 k n s k' n' s' = R at HR ⊢
  generalize rkV 3 (numV k n s) (numV k' n' s') = v at HOP HR
  generalize rkE 3 (numV k n s) (numV k' n' s') = f at HOP HR
  generalize numV k n s = d at HNA HOP
  generalize numK k s = a at HNA HR
  generalize numM k n = b at HNA HR
  generalize numT k s = t at HNA HR
  generalize numV k' n' s' = d' at HNB HOP
  generalize numK k' s' = a' at HNB HR
  generalize numM k' n' = b' at HNB HR
  generalize numT k' s' = t' at HNB HR
  clear hv1 hv2 hu1 hu2 hn1 hn2 hs hn1' hn2' hs'
  clear hk hk'
  by_cases h3 : a = 3
  · have e1 : R = vv 3 b t := by rw [HR.out, if_pos h3]
    rw [e1]
    subst h3
    clear e1 HR HOP
    go_enter Tryz.func6, Tryz.ntmps6
    go_wp2_with fail
    refine (HNA.out _ (shaped_below HSH.out (by (repeat' (first | (with_reducible exact Below.refl _ _) | (with_reducible assumption) | (with_reducible refine Below.alloc ?_ ?_ _) | (with_reducible refine bel_drewN ?_ _) | (with_reducible refine Below.drew ?_) | (with_reducible refine Below.setCell ?_ ?_ _) | (with_reducible refine bel_call ‹_› ?_ ?_) | go_size))))).mono ?_
    rintro e w1 ⟨rfl, hb1⟩; obtain ⟨hc_w1, hf_w1, hz_w1⟩ := bcell hb1 (by first | (simp only [World.size_alloc, World.size_setCell, World.size_drew]; rfl) | rfl)
    go_wp2_with fail
    refine (HNB.out _ (shaped_below HSH.out (by (repeat' (first | (with_reducible exact Below.refl _ _) | (with_reducible assumption) | (with_reducible refine Below.alloc ?_ ?_ _) | (with_reducible refine bel_drewN ?_ _) | (with_reducible refine Below.drew ?_) | (with_reducible refine Below.setCell ?_ ?_ _) | (with_reducible refine bel_call ‹_› ?_ ?_) | go_size))))).mono ?_
    rintro e w2 ⟨rfl, hb2⟩; obtain ⟨hc_w2, hf_w2, hz_w2⟩ := bcell hb2 (by first | (simp only [World.size_alloc, World.size_setCell, World.size_drew]; rfl) | rfl)
    go_wp2_with fail
    refine (Gau.failed_any _ _ _ _).mono ?_
    rintro e w3 ⟨rfl, hb3⟩; obtain ⟨hc_w3, hf_w3, hz_w3⟩ := bcell hb3 (by first | (simp only [World.size_alloc, World.size_setCell, World.size_drew]; rfl) | rfl)
    go_wp2_with fail
    refine bodyPost_ret (v := .agg #[.int .i64 3, .int .i64 b, .string t]) (by simp only [results, Tryz.results6]; go_simp) rfl ⟨rfl, by (repeat' (first | (with_reducible exact Below.refl _ _) | (with_reducible assumption) | (with_reducible refine Below.alloc ?_ ?_ _) | (with_reducible refine bel_drewN ?_ _) | (with_reducible refine Below.drew ?_) | (with_reducible refine Below.setCell ?_ ?_ _) | (with_reducible refine bel_call ‹_› ?_ ?_) | go_size))⟩
  · have h3b : (a == 3) = false := by simpa using h3
    by_cases h4 : a' = 3
    · have e1 : R = vv 3 b' t' := by rw [HR.out, if_neg h3, if_pos h4]
      rw [e1]
      subst h4
      clear e1 h3 HR HOP
      go_enter Tryz.func6, Tryz.ntmps6
      go_wp2_with fail
      refine (HNA.out _ (shaped_below HSH.out (by (repeat' (first | (with_reducible exact Below.refl _ _) | (with_reducible assumption) | (with_reducible refine Below.alloc ?_ ?_ _) | (with_reducible refine bel_drewN ?_ _) | (with_reducible refine Below.drew ?_) | (with_reducible refine Below.setCell ?_ ?_ _) | (with_reducible refine bel_call ‹_› ?_ ?_) | go_size))))).mono ?_
      rintro e w1 ⟨rfl, hb1⟩; obtain ⟨hc_w1, hf_w1, hz_w1⟩ := bcell hb1 (by first | (simp only [World.size_alloc, World.size_setCell, World.size_drew]; rfl) | rfl)
      go_wp2_with fail
      refine (HNB.out _ (shaped_below HSH.out (by (repeat' (first | (with_reducible exact Below.refl _ _) | (with_reducible assumption) | (with_reducible refine Below.alloc ?_ ?_ _) | (with_reducible refine bel_drewN ?_ _) | (with_reducible refine Below.drew ?_) | (with_reducible refine Below.setCell ?_ ?_ _) | (with_reducible refine bel_call ‹_› ?_ ?_) | go_size))))).mono ?_
      rintro e w2 ⟨rfl, hb2⟩; obtain ⟨hc_w2, hf_w2, hz_w2⟩ := bcell hb2 (by first | (simp only [World.size_alloc, World.size_setCell, World.size_drew]; rfl) | rfl)
      go_wp2_with fail
      refine (Gau.failed_any _ _ _ _).mono ?_
      rintro e w3 ⟨rfl, hb3⟩; obtain ⟨hc_w3, hf_w3, hz_w3⟩ := bcell hb3 (by first | (simp only [World.size_alloc, World.size_setCell, World.size_drew]; rfl) | rfl)
      go_wp2_with fail
      refine (Gau.failed_any _ _ _ _).mono ?_
      rintro e w4 ⟨rfl, hb4⟩; obtain ⟨hc_w4, hf_w4, hz_w4⟩ := bcell hb4 (by first | (simp only [World.size_alloc, World.size_setCell, World.size_drew]; rfl) | rfl)
      go_wp2_with fail
      refine bodyPost_ret (v := .agg #[.int .i64 3, .int .i64 b', .string t']) (by simp only [results, Tryz.results6]; go_simp) rfl ⟨rfl, by (repeat' (first | (with_reducible exact Below.refl _ _) | (with_reducible assumption) | (with_reducible refine Below.alloc ?_ ?_ _) | (with_reducible refine bel_drewN ?_ _) | (with_reducible refine Below.drew ?_) | (with_reducible refine Below.setCell ?_ ?_ _) | (with_reducible refine bel_call ‹_› ?_ ?_) | go_size))⟩
    · have h4b : (a' == 3) = false := by simpa using h4
      have e1 : R = vv (fromK f) (fromN v f) (fromT f) := by rw [HR.out, if_neg h3, if_neg h4]
      rw [e1]
      clear e1 h3 h4 HR
      go_enter Tryz.func6, Tryz.ntmps6
      go_wp2_with fail
      refine (HNA.out _ (shaped_below HSH.out (by (repeat' (first | (with_reducible exact Below.refl _ _) | (with_reducible assumption) | (with_reducible refine Below.alloc ?_ ?_ _) | (with_reducible refine bel_drewN ?_ _) | (with_reducible refine Below.drew ?_) | (with_reducible refine Below.setCell ?_ ?_ _) | (with_reducible refine bel_call ‹_› ?_ ?_) | go_size))))).mono ?_
      rintro e w1 ⟨rfl, hb1⟩; obtain ⟨hc_w1, hf_w1, hz_w1⟩ := bcell hb1 (by first | (simp only [World.size_alloc, World.size_setCell, World.size_drew]; rfl) | rfl)
      go_wp2_with fail
      refine (HNB.out _ (shaped_below HSH.out (by (repeat' (first | (with_reducible exact Below.refl _ _) | (with_reducible assumption) | (with_reducible refine Below.alloc ?_ ?_ _) | (with_reducible refine bel_drewN ?_ _) | (with_reducible refine Below.drew ?_) | (with_reducible refine Below.setCell ?_ ?_ _) | (with_reducible refine bel_call ‹_› ?_ ?_) | go_size))))).mono ?_
      rintro e w2 ⟨rfl, hb2⟩; obtain ⟨hc_w2, hf_w2, hz_w2⟩ := bcell hb2 (by first | (simp only [World.size_alloc, World.size_setCell, World.size_drew]; rfl) | rfl)
      go_wp2_with fail
      refine (Gau.failed_any _ _ _ _).mono ?_
      rintro e w3 ⟨rfl, hb3⟩; obtain ⟨hc_w3, hf_w3, hz_w3⟩ := bcell hb3 (by first | (simp only [World.size_alloc, World.size_setCell, World.size_drew]; rfl) | rfl)
      go_wp2_with fail
      refine (Gau.failed_any _ _ _ _).mono ?_
      rintro e w4 ⟨rfl, hb4⟩; obtain ⟨hc_w4, hf_w4, hz_w4⟩ := bcell hb4 (by first | (simp only [World.size_alloc, World.size_setCell, World.size_drew]; rfl) | rfl)
      go_wp2_with fail
      refine (HOP.out _).mono ?_
      rintro e w5 ⟨rfl, hb5⟩; obtain ⟨hc_w5, hf_w5, hz_w5⟩ := bcell hb5 (by first | (simp only [World.size_alloc, World.size_setCell, World.size_drew]; rfl) | rfl)
      go_wp2_with fail
      refine bodyPost_ret (v := .agg #[.int .i64 (fromK f), .int .i64 (fromN v f), .string (fromT f)]) (by simp only [results, Tryz.results6]; go_simp) rfl ⟨rfl, by (repeat' (first | (with_reducible exact Below.refl _ _) | (with_reducible assumption) | (with_reducible refine Below.alloc ?_ ?_ _) | (with_reducible refine bel_drewN ?_ _) | (with_reducible refine Below.drew ?_) | (with_reducible refine Below.setCell ?_ ?_ _) | (with_reducible refine bel_call ‹_› ?_ ?_) | go_size))⟩
set_option maxRecDepth 100000 in
set_option maxHeartbeats 4000000 in
theorem bin_no (sg : ByteArray) (e0 : (sg.toList == [61]) = false) (e1 : (sg.toList == [60, 62]) = false) (e2 : (sg.toList == [60]) = false) (e3 : (sg.toList == [60, 61]) = false) (e4 : (sg.toList == [62]) = false) (e5 : (sg.toList == [62, 61]) = false) (e6 : (sg.toList == [38]) = false) (e7 : (sg.toList == [43]) = false) (e8 : (sg.toList == [45]) = false) (e9 : (sg.toList == [42]) = false) (e10 : (sg.toList == [47]) = false) (k n : Int) (s : ByteArray) (hk : k = 0 ∨ k = 1 ∨ k = 2 ∨ k = 3) (hs : s.size ≤ 900) (hn1 : -9223372036854775808 ≤ n) (hn2 : n ≤ 9223372036854775807) (k' n' : Int) (s' : ByteArray) (hk' : k' = 0 ∨ k' = 1 ∨ k' = 2 ∨ k' = 3) (hs' : s'.size ≤ 900) (hn1' : -9223372036854775808 ≤ n') (hn2' : n' ≤ 9223372036854775807) (w : World) (hsh : w.ShapedOpen Tryz.prog) : Calls Tryz.prog 6 #[.string sg, .agg #[.int .i64 k, .int .i64 n, .string s], .agg #[.int .i64 k', .int .i64 n', .string s']] w fun e w' => e = .returned (vv 3 0 ⟨#[35, 78, 65, 77, 69, 63]⟩) ∧ Below w.heap.size w w' := by
  clear hk hs hn1 hn2 hk' hs' hn1' hn2' hsh
  go_enter Tryz.func6, Tryz.ntmps6
  go_wp2_with fail
  refine (fail_any _ _).mono ?_
  rintro e w5 ⟨rfl, hb5⟩; obtain ⟨hc_w5, hf_w5, hz_w5⟩ := bcell hb5 (by first | (simp only [World.size_alloc, World.size_setCell, World.size_drew]; rfl) | rfl)
  go_wp2_with fail
  refine bodyPost_ret (v := .agg #[.int .i64 3, .int .i64 0, .string ⟨#[35, 78, 65, 77, 69, 63]⟩]) (by simp only [results, Tryz.results6]; go_simp) rfl ⟨rfl, by (repeat' (first | (with_reducible exact Below.refl _ _) | (with_reducible assumption) | (with_reducible refine Below.alloc ?_ ?_ _) | (with_reducible refine bel_drewN ?_ _) | (with_reducible refine Below.drew ?_) | (with_reducible refine Below.setCell ?_ ?_ _) | (with_reducible refine bel_call ‹_› ?_ ?_) | go_size))⟩
end
section
open Go.RowKit Go.Joins

set_option maxRecDepth 100000 in
set_option maxHeartbeats 4000000 in
theorem rbin_0 (k n : Int) (s : ByteArray) (hk : k = 0 ∨ k = 1 ∨ k = 2 ∨ k = 3) (hs : s.size ≤ 900) (hn1 : -9223372036854775808 ≤ n) (hn2 : n ≤ 9223372036854775807) (k' n' : Int) (s' : ByteArray) (hk' : k' = 0 ∨ k' = 1 ∨ k' = 2 ∨ k' = 3) (hs' : s'.size ≤ 900) (hn1' : -9223372036854775808 ≤ n') (hn2' : n' ≤ 9223372036854775807) (w : World) : Calls Tryz.prog 8 #[.string ⟨#[61]⟩, .agg #[.int .i64 k, .int .i64 n, .string s], .agg #[.int .i64 k', .int .i64 n', .string s']] w fun e w' => e = .returned (cmV 0 k n s k' n' s') ∧ Below w.heap.size w w' := by
  have HC := Lib.hid (fun W => refCompare_any k n s k' n' s' W)
  have ej : Hid (cmV 0 k n s k' n' s' = if cmpK k k' = 3 then vv 3 (cmpM k n k' n') (cmpT k s k' s') else vv 1 (truthI (decide ((cmpN k n s k' n' s') = 0))) ⟨#[]⟩) := rfl
  generalize cmV 0 k n s k' n' s' = R at ej ⊢
  generalize cmpN k n s k' n' s' = m at HC ej
  generalize cmpK k k' = a at HC ej
  generalize cmpM k n k' n' = b at HC ej
  generalize cmpT k s k' s' = u at HC ej
  clear hk hs hn1 hn2 hk' hs' hn1' hn2'
  by_cases h3 : a = 3
  · have e1 : R = vv 3 b u := by rw [ej.out, if_pos h3]
    rw [e1]
    subst h3
    clear e1 ej
    go_enter Tryz.func8, Tryz.ntmps8
    go_wp2_with fail
    refine (HC.out _).mono ?_
    rintro e w1 ⟨rfl, hb1⟩; obtain ⟨hc_w1, hf_w1, hz_w1⟩ := bcell hb1 (by first | (simp only [World.size_alloc, World.size_setCell, World.size_drew]; rfl) | rfl)
    go_wp2_with fail
    refine bodyPost_ret (v := .agg #[.int .i64 3, .int .i64 b, .string u]) (by simp only [results, Tryz.results8]; go_simp) rfl ⟨rfl, by (repeat' (first | (with_reducible exact Below.refl _ _) | (with_reducible assumption) | (with_reducible refine Below.alloc ?_ ?_ _) | (with_reducible refine bel_drewN ?_ _) | (with_reducible refine Below.drew ?_) | (with_reducible refine Below.setCell ?_ ?_ _) | (with_reducible refine bel_call ‹_› ?_ ?_) | go_size))⟩
  · have h3b : (a == 3) = false := by simpa using h3
    obtain ⟨q, hq⟩ : ∃ q, (decide (m = 0)) = q := ⟨_, rfl⟩
    have e1 : R = vv 1 (truthI q) ⟨#[]⟩ := by rw [ej.out, if_neg h3, hq]
    rw [e1]
    have hqe : (m == 0) = q := by rw [← hq]; by_cases h : m = 0 <;> simp [h]
    clear e1 ej h3 hq
    go_enter Tryz.func8, Tryz.ntmps8
    go_wp2_with fail
    refine (HC.out _).mono ?_
    rintro e w1 ⟨rfl, hb1⟩; obtain ⟨hc_w1, hf_w1, hz_w1⟩ := bcell hb1 (by first | (simp only [World.size_alloc, World.size_setCell, World.size_drew]; rfl) | rfl)
    go_wp2_with fail
    refine (refTruth_any _ _).mono ?_
    rintro e w4 ⟨rfl, hb4⟩; obtain ⟨hc_w4, hf_w4, hz_w4⟩ := bcell hb4 (by first | (simp only [World.size_alloc, World.size_setCell, World.size_drew]; rfl) | rfl)
    go_wp2_with fail
    refine bodyPost_ret (v := .agg #[.int .i64 1, .int .i64 (truthI q), .string ⟨#[]⟩]) (by simp only [results, Tryz.results8]; go_simp) rfl ⟨rfl, by (repeat' (first | (with_reducible exact Below.refl _ _) | (with_reducible assumption) | (with_reducible refine Below.alloc ?_ ?_ _) | (with_reducible refine bel_drewN ?_ _) | (with_reducible refine Below.drew ?_) | (with_reducible refine Below.setCell ?_ ?_ _) | (with_reducible refine bel_call ‹_› ?_ ?_) | go_size))⟩
set_option maxRecDepth 100000 in
set_option maxHeartbeats 4000000 in
theorem rbin_1 (k n : Int) (s : ByteArray) (hk : k = 0 ∨ k = 1 ∨ k = 2 ∨ k = 3) (hs : s.size ≤ 900) (hn1 : -9223372036854775808 ≤ n) (hn2 : n ≤ 9223372036854775807) (k' n' : Int) (s' : ByteArray) (hk' : k' = 0 ∨ k' = 1 ∨ k' = 2 ∨ k' = 3) (hs' : s'.size ≤ 900) (hn1' : -9223372036854775808 ≤ n') (hn2' : n' ≤ 9223372036854775807) (w : World) : Calls Tryz.prog 8 #[.string ⟨#[60, 62]⟩, .agg #[.int .i64 k, .int .i64 n, .string s], .agg #[.int .i64 k', .int .i64 n', .string s']] w fun e w' => e = .returned (cmV 1 k n s k' n' s') ∧ Below w.heap.size w w' := by
  have HC := Lib.hid (fun W => refCompare_any k n s k' n' s' W)
  have ej : Hid (cmV 1 k n s k' n' s' = if cmpK k k' = 3 then vv 3 (cmpM k n k' n') (cmpT k s k' s') else vv 1 (truthI (decide ((cmpN k n s k' n' s') ≠ 0))) ⟨#[]⟩) := rfl
  generalize cmV 1 k n s k' n' s' = R at ej ⊢
  generalize cmpN k n s k' n' s' = m at HC ej
  generalize cmpK k k' = a at HC ej
  generalize cmpM k n k' n' = b at HC ej
  generalize cmpT k s k' s' = u at HC ej
  clear hk hs hn1 hn2 hk' hs' hn1' hn2'
  by_cases h3 : a = 3
  · have e1 : R = vv 3 b u := by rw [ej.out, if_pos h3]
    rw [e1]
    subst h3
    clear e1 ej
    go_enter Tryz.func8, Tryz.ntmps8
    go_wp2_with fail
    refine (HC.out _).mono ?_
    rintro e w1 ⟨rfl, hb1⟩; obtain ⟨hc_w1, hf_w1, hz_w1⟩ := bcell hb1 (by first | (simp only [World.size_alloc, World.size_setCell, World.size_drew]; rfl) | rfl)
    go_wp2_with fail
    refine bodyPost_ret (v := .agg #[.int .i64 3, .int .i64 b, .string u]) (by simp only [results, Tryz.results8]; go_simp) rfl ⟨rfl, by (repeat' (first | (with_reducible exact Below.refl _ _) | (with_reducible assumption) | (with_reducible refine Below.alloc ?_ ?_ _) | (with_reducible refine bel_drewN ?_ _) | (with_reducible refine Below.drew ?_) | (with_reducible refine Below.setCell ?_ ?_ _) | (with_reducible refine bel_call ‹_› ?_ ?_) | go_size))⟩
  · have h3b : (a == 3) = false := by simpa using h3
    obtain ⟨q, hq⟩ : ∃ q, (decide (m ≠ 0)) = q := ⟨_, rfl⟩
    have e1 : R = vv 1 (truthI q) ⟨#[]⟩ := by rw [ej.out, if_neg h3, hq]
    rw [e1]
    have hqe : (m != 0) = q := by rw [← hq]; by_cases h : m = 0 <;> simp [h]
    clear e1 ej h3 hq
    go_enter Tryz.func8, Tryz.ntmps8
    go_wp2_with fail
    refine (HC.out _).mono ?_
    rintro e w1 ⟨rfl, hb1⟩; obtain ⟨hc_w1, hf_w1, hz_w1⟩ := bcell hb1 (by first | (simp only [World.size_alloc, World.size_setCell, World.size_drew]; rfl) | rfl)
    go_wp2_with fail
    refine (refTruth_any _ _).mono ?_
    rintro e w4 ⟨rfl, hb4⟩; obtain ⟨hc_w4, hf_w4, hz_w4⟩ := bcell hb4 (by first | (simp only [World.size_alloc, World.size_setCell, World.size_drew]; rfl) | rfl)
    go_wp2_with fail
    refine bodyPost_ret (v := .agg #[.int .i64 1, .int .i64 (truthI q), .string ⟨#[]⟩]) (by simp only [results, Tryz.results8]; go_simp) rfl ⟨rfl, by (repeat' (first | (with_reducible exact Below.refl _ _) | (with_reducible assumption) | (with_reducible refine Below.alloc ?_ ?_ _) | (with_reducible refine bel_drewN ?_ _) | (with_reducible refine Below.drew ?_) | (with_reducible refine Below.setCell ?_ ?_ _) | (with_reducible refine bel_call ‹_› ?_ ?_) | go_size))⟩
set_option maxRecDepth 100000 in
set_option maxHeartbeats 4000000 in
theorem rbin_2 (k n : Int) (s : ByteArray) (hk : k = 0 ∨ k = 1 ∨ k = 2 ∨ k = 3) (hs : s.size ≤ 900) (hn1 : -9223372036854775808 ≤ n) (hn2 : n ≤ 9223372036854775807) (k' n' : Int) (s' : ByteArray) (hk' : k' = 0 ∨ k' = 1 ∨ k' = 2 ∨ k' = 3) (hs' : s'.size ≤ 900) (hn1' : -9223372036854775808 ≤ n') (hn2' : n' ≤ 9223372036854775807) (w : World) : Calls Tryz.prog 8 #[.string ⟨#[60]⟩, .agg #[.int .i64 k, .int .i64 n, .string s], .agg #[.int .i64 k', .int .i64 n', .string s']] w fun e w' => e = .returned (cmV 2 k n s k' n' s') ∧ Below w.heap.size w w' := by
  have HC := Lib.hid (fun W => refCompare_any k n s k' n' s' W)
  have ej : Hid (cmV 2 k n s k' n' s' = if cmpK k k' = 3 then vv 3 (cmpM k n k' n') (cmpT k s k' s') else vv 1 (truthI (decide ((cmpN k n s k' n' s') < 0))) ⟨#[]⟩) := rfl
  generalize cmV 2 k n s k' n' s' = R at ej ⊢
  generalize cmpN k n s k' n' s' = m at HC ej
  generalize cmpK k k' = a at HC ej
  generalize cmpM k n k' n' = b at HC ej
  generalize cmpT k s k' s' = u at HC ej
  clear hk hs hn1 hn2 hk' hs' hn1' hn2'
  by_cases h3 : a = 3
  · have e1 : R = vv 3 b u := by rw [ej.out, if_pos h3]
    rw [e1]
    subst h3
    clear e1 ej
    go_enter Tryz.func8, Tryz.ntmps8
    go_wp2_with fail
    refine (HC.out _).mono ?_
    rintro e w1 ⟨rfl, hb1⟩; obtain ⟨hc_w1, hf_w1, hz_w1⟩ := bcell hb1 (by first | (simp only [World.size_alloc, World.size_setCell, World.size_drew]; rfl) | rfl)
    go_wp2_with fail
    refine bodyPost_ret (v := .agg #[.int .i64 3, .int .i64 b, .string u]) (by simp only [results, Tryz.results8]; go_simp) rfl ⟨rfl, by (repeat' (first | (with_reducible exact Below.refl _ _) | (with_reducible assumption) | (with_reducible refine Below.alloc ?_ ?_ _) | (with_reducible refine bel_drewN ?_ _) | (with_reducible refine Below.drew ?_) | (with_reducible refine Below.setCell ?_ ?_ _) | (with_reducible refine bel_call ‹_› ?_ ?_) | go_size))⟩
  · have h3b : (a == 3) = false := by simpa using h3
    obtain ⟨q, hq⟩ : ∃ q, (decide (m < 0)) = q := ⟨_, rfl⟩
    have e1 : R = vv 1 (truthI q) ⟨#[]⟩ := by rw [ej.out, if_neg h3, hq]
    rw [e1]
    have hqe : decide (m < 0) = q := by rw [← hq]
    clear e1 ej h3 hq
    go_enter Tryz.func8, Tryz.ntmps8
    go_wp2_with fail
    refine (HC.out _).mono ?_
    rintro e w1 ⟨rfl, hb1⟩; obtain ⟨hc_w1, hf_w1, hz_w1⟩ := bcell hb1 (by first | (simp only [World.size_alloc, World.size_setCell, World.size_drew]; rfl) | rfl)
    go_wp2_with fail
    refine (refTruth_any _ _).mono ?_
    rintro e w4 ⟨rfl, hb4⟩; obtain ⟨hc_w4, hf_w4, hz_w4⟩ := bcell hb4 (by first | (simp only [World.size_alloc, World.size_setCell, World.size_drew]; rfl) | rfl)
    go_wp2_with fail
    refine bodyPost_ret (v := .agg #[.int .i64 1, .int .i64 (truthI q), .string ⟨#[]⟩]) (by simp only [results, Tryz.results8]; go_simp) rfl ⟨rfl, by (repeat' (first | (with_reducible exact Below.refl _ _) | (with_reducible assumption) | (with_reducible refine Below.alloc ?_ ?_ _) | (with_reducible refine bel_drewN ?_ _) | (with_reducible refine Below.drew ?_) | (with_reducible refine Below.setCell ?_ ?_ _) | (with_reducible refine bel_call ‹_› ?_ ?_) | go_size))⟩
set_option maxRecDepth 100000 in
set_option maxHeartbeats 4000000 in
theorem rbin_3 (k n : Int) (s : ByteArray) (hk : k = 0 ∨ k = 1 ∨ k = 2 ∨ k = 3) (hs : s.size ≤ 900) (hn1 : -9223372036854775808 ≤ n) (hn2 : n ≤ 9223372036854775807) (k' n' : Int) (s' : ByteArray) (hk' : k' = 0 ∨ k' = 1 ∨ k' = 2 ∨ k' = 3) (hs' : s'.size ≤ 900) (hn1' : -9223372036854775808 ≤ n') (hn2' : n' ≤ 9223372036854775807) (w : World) : Calls Tryz.prog 8 #[.string ⟨#[60, 61]⟩, .agg #[.int .i64 k, .int .i64 n, .string s], .agg #[.int .i64 k', .int .i64 n', .string s']] w fun e w' => e = .returned (cmV 3 k n s k' n' s') ∧ Below w.heap.size w w' := by
  have HC := Lib.hid (fun W => refCompare_any k n s k' n' s' W)
  have ej : Hid (cmV 3 k n s k' n' s' = if cmpK k k' = 3 then vv 3 (cmpM k n k' n') (cmpT k s k' s') else vv 1 (truthI (decide ((cmpN k n s k' n' s') ≤ 0))) ⟨#[]⟩) := rfl
  generalize cmV 3 k n s k' n' s' = R at ej ⊢
  generalize cmpN k n s k' n' s' = m at HC ej
  generalize cmpK k k' = a at HC ej
  generalize cmpM k n k' n' = b at HC ej
  generalize cmpT k s k' s' = u at HC ej
  clear hk hs hn1 hn2 hk' hs' hn1' hn2'
  by_cases h3 : a = 3
  · have e1 : R = vv 3 b u := by rw [ej.out, if_pos h3]
    rw [e1]
    subst h3
    clear e1 ej
    go_enter Tryz.func8, Tryz.ntmps8
    go_wp2_with fail
    refine (HC.out _).mono ?_
    rintro e w1 ⟨rfl, hb1⟩; obtain ⟨hc_w1, hf_w1, hz_w1⟩ := bcell hb1 (by first | (simp only [World.size_alloc, World.size_setCell, World.size_drew]; rfl) | rfl)
    go_wp2_with fail
    refine bodyPost_ret (v := .agg #[.int .i64 3, .int .i64 b, .string u]) (by simp only [results, Tryz.results8]; go_simp) rfl ⟨rfl, by (repeat' (first | (with_reducible exact Below.refl _ _) | (with_reducible assumption) | (with_reducible refine Below.alloc ?_ ?_ _) | (with_reducible refine bel_drewN ?_ _) | (with_reducible refine Below.drew ?_) | (with_reducible refine Below.setCell ?_ ?_ _) | (with_reducible refine bel_call ‹_› ?_ ?_) | go_size))⟩
  · have h3b : (a == 3) = false := by simpa using h3
    obtain ⟨q, hq⟩ : ∃ q, (decide (m ≤ 0)) = q := ⟨_, rfl⟩
    have e1 : R = vv 1 (truthI q) ⟨#[]⟩ := by rw [ej.out, if_neg h3, hq]
    rw [e1]
    have hqe : decide (m ≤ 0) = q := by rw [← hq]
    clear e1 ej h3 hq
    go_enter Tryz.func8, Tryz.ntmps8
    go_wp2_with fail
    refine (HC.out _).mono ?_
    rintro e w1 ⟨rfl, hb1⟩; obtain ⟨hc_w1, hf_w1, hz_w1⟩ := bcell hb1 (by first | (simp only [World.size_alloc, World.size_setCell, World.size_drew]; rfl) | rfl)
    go_wp2_with fail
    refine (refTruth_any _ _).mono ?_
    rintro e w4 ⟨rfl, hb4⟩; obtain ⟨hc_w4, hf_w4, hz_w4⟩ := bcell hb4 (by first | (simp only [World.size_alloc, World.size_setCell, World.size_drew]; rfl) | rfl)
    go_wp2_with fail
    refine bodyPost_ret (v := .agg #[.int .i64 1, .int .i64 (truthI q), .string ⟨#[]⟩]) (by simp only [results, Tryz.results8]; go_simp) rfl ⟨rfl, by (repeat' (first | (with_reducible exact Below.refl _ _) | (with_reducible assumption) | (with_reducible refine Below.alloc ?_ ?_ _) | (with_reducible refine bel_drewN ?_ _) | (with_reducible refine Below.drew ?_) | (with_reducible refine Below.setCell ?_ ?_ _) | (with_reducible refine bel_call ‹_› ?_ ?_) | go_size))⟩
set_option maxRecDepth 100000 in
set_option maxHeartbeats 4000000 in
theorem rbin_4 (k n : Int) (s : ByteArray) (hk : k = 0 ∨ k = 1 ∨ k = 2 ∨ k = 3) (hs : s.size ≤ 900) (hn1 : -9223372036854775808 ≤ n) (hn2 : n ≤ 9223372036854775807) (k' n' : Int) (s' : ByteArray) (hk' : k' = 0 ∨ k' = 1 ∨ k' = 2 ∨ k' = 3) (hs' : s'.size ≤ 900) (hn1' : -9223372036854775808 ≤ n') (hn2' : n' ≤ 9223372036854775807) (w : World) : Calls Tryz.prog 8 #[.string ⟨#[62]⟩, .agg #[.int .i64 k, .int .i64 n, .string s], .agg #[.int .i64 k', .int .i64 n', .string s']] w fun e w' => e = .returned (cmV 4 k n s k' n' s') ∧ Below w.heap.size w w' := by
  have HC := Lib.hid (fun W => refCompare_any k n s k' n' s' W)
  have ej : Hid (cmV 4 k n s k' n' s' = if cmpK k k' = 3 then vv 3 (cmpM k n k' n') (cmpT k s k' s') else vv 1 (truthI (decide (0 < (cmpN k n s k' n' s')))) ⟨#[]⟩) := rfl
  generalize cmV 4 k n s k' n' s' = R at ej ⊢
  generalize cmpN k n s k' n' s' = m at HC ej
  generalize cmpK k k' = a at HC ej
  generalize cmpM k n k' n' = b at HC ej
  generalize cmpT k s k' s' = u at HC ej
  clear hk hs hn1 hn2 hk' hs' hn1' hn2'
  by_cases h3 : a = 3
  · have e1 : R = vv 3 b u := by rw [ej.out, if_pos h3]
    rw [e1]
    subst h3
    clear e1 ej
    go_enter Tryz.func8, Tryz.ntmps8
    go_wp2_with fail
    refine (HC.out _).mono ?_
    rintro e w1 ⟨rfl, hb1⟩; obtain ⟨hc_w1, hf_w1, hz_w1⟩ := bcell hb1 (by first | (simp only [World.size_alloc, World.size_setCell, World.size_drew]; rfl) | rfl)
    go_wp2_with fail
    refine bodyPost_ret (v := .agg #[.int .i64 3, .int .i64 b, .string u]) (by simp only [results, Tryz.results8]; go_simp) rfl ⟨rfl, by (repeat' (first | (with_reducible exact Below.refl _ _) | (with_reducible assumption) | (with_reducible refine Below.alloc ?_ ?_ _) | (with_reducible refine bel_drewN ?_ _) | (with_reducible refine Below.drew ?_) | (with_reducible refine Below.setCell ?_ ?_ _) | (with_reducible refine bel_call ‹_› ?_ ?_) | go_size))⟩
  · have h3b : (a == 3) = false := by simpa using h3
    obtain ⟨q, hq⟩ : ∃ q, (decide (0 < m)) = q := ⟨_, rfl⟩
    have e1 : R = vv 1 (truthI q) ⟨#[]⟩ := by rw [ej.out, if_neg h3, hq]
    rw [e1]
    have hqe : decide (0 < m) = q := by rw [← hq]
    clear e1 ej h3 hq
    go_enter Tryz.func8, Tryz.ntmps8
    go_wp2_with fail
    refine (HC.out _).mono ?_
    rintro e w1 ⟨rfl, hb1⟩; obtain ⟨hc_w1, hf_w1, hz_w1⟩ := bcell hb1 (by first | (simp only [World.size_alloc, World.size_setCell, World.size_drew]; rfl) | rfl)
    go_wp2_with fail
    refine (refTruth_any _ _).mono ?_
    rintro e w4 ⟨rfl, hb4⟩; obtain ⟨hc_w4, hf_w4, hz_w4⟩ := bcell hb4 (by first | (simp only [World.size_alloc, World.size_setCell, World.size_drew]; rfl) | rfl)
    go_wp2_with fail
    refine bodyPost_ret (v := .agg #[.int .i64 1, .int .i64 (truthI q), .string ⟨#[]⟩]) (by simp only [results, Tryz.results8]; go_simp) rfl ⟨rfl, by (repeat' (first | (with_reducible exact Below.refl _ _) | (with_reducible assumption) | (with_reducible refine Below.alloc ?_ ?_ _) | (with_reducible refine bel_drewN ?_ _) | (with_reducible refine Below.drew ?_) | (with_reducible refine Below.setCell ?_ ?_ _) | (with_reducible refine bel_call ‹_› ?_ ?_) | go_size))⟩
set_option maxRecDepth 100000 in
set_option maxHeartbeats 4000000 in
theorem rbin_5 (k n : Int) (s : ByteArray) (hk : k = 0 ∨ k = 1 ∨ k = 2 ∨ k = 3) (hs : s.size ≤ 900) (hn1 : -9223372036854775808 ≤ n) (hn2 : n ≤ 9223372036854775807) (k' n' : Int) (s' : ByteArray) (hk' : k' = 0 ∨ k' = 1 ∨ k' = 2 ∨ k' = 3) (hs' : s'.size ≤ 900) (hn1' : -9223372036854775808 ≤ n') (hn2' : n' ≤ 9223372036854775807) (w : World) : Calls Tryz.prog 8 #[.string ⟨#[62, 61]⟩, .agg #[.int .i64 k, .int .i64 n, .string s], .agg #[.int .i64 k', .int .i64 n', .string s']] w fun e w' => e = .returned (cmV 5 k n s k' n' s') ∧ Below w.heap.size w w' := by
  have HC := Lib.hid (fun W => refCompare_any k n s k' n' s' W)
  have ej : Hid (cmV 5 k n s k' n' s' = if cmpK k k' = 3 then vv 3 (cmpM k n k' n') (cmpT k s k' s') else vv 1 (truthI (decide (0 ≤ (cmpN k n s k' n' s')))) ⟨#[]⟩) := rfl
  generalize cmV 5 k n s k' n' s' = R at ej ⊢
  generalize cmpN k n s k' n' s' = m at HC ej
  generalize cmpK k k' = a at HC ej
  generalize cmpM k n k' n' = b at HC ej
  generalize cmpT k s k' s' = u at HC ej
  clear hk hs hn1 hn2 hk' hs' hn1' hn2'
  by_cases h3 : a = 3
  · have e1 : R = vv 3 b u := by rw [ej.out, if_pos h3]
    rw [e1]
    subst h3
    clear e1 ej
    go_enter Tryz.func8, Tryz.ntmps8
    go_wp2_with fail
    refine (HC.out _).mono ?_
    rintro e w1 ⟨rfl, hb1⟩; obtain ⟨hc_w1, hf_w1, hz_w1⟩ := bcell hb1 (by first | (simp only [World.size_alloc, World.size_setCell, World.size_drew]; rfl) | rfl)
    go_wp2_with fail
    refine bodyPost_ret (v := .agg #[.int .i64 3, .int .i64 b, .string u]) (by simp only [results, Tryz.results8]; go_simp) rfl ⟨rfl, by (repeat' (first | (with_reducible exact Below.refl _ _) | (with_reducible assumption) | (with_reducible refine Below.alloc ?_ ?_ _) | (with_reducible refine bel_drewN ?_ _) | (with_reducible refine Below.drew ?_) | (with_reducible refine Below.setCell ?_ ?_ _) | (with_reducible refine bel_call ‹_› ?_ ?_) | go_size))⟩
  · have h3b : (a == 3) = false := by simpa using h3
    obtain ⟨q, hq⟩ : ∃ q, (decide (0 ≤ m)) = q := ⟨_, rfl⟩
    have e1 : R = vv 1 (truthI q) ⟨#[]⟩ := by rw [ej.out, if_neg h3, hq]
    rw [e1]
    have hqe : decide (0 ≤ m) = q := by rw [← hq]
    clear e1 ej h3 hq
    go_enter Tryz.func8, Tryz.ntmps8
    go_wp2_with fail
    refine (HC.out _).mono ?_
    rintro e w1 ⟨rfl, hb1⟩; obtain ⟨hc_w1, hf_w1, hz_w1⟩ := bcell hb1 (by first | (simp only [World.size_alloc, World.size_setCell, World.size_drew]; rfl) | rfl)
    go_wp2_with fail
    refine (refTruth_any _ _).mono ?_
    rintro e w4 ⟨rfl, hb4⟩; obtain ⟨hc_w4, hf_w4, hz_w4⟩ := bcell hb4 (by first | (simp only [World.size_alloc, World.size_setCell, World.size_drew]; rfl) | rfl)
    go_wp2_with fail
    refine bodyPost_ret (v := .agg #[.int .i64 1, .int .i64 (truthI q), .string ⟨#[]⟩]) (by simp only [results, Tryz.results8]; go_simp) rfl ⟨rfl, by (repeat' (first | (with_reducible exact Below.refl _ _) | (with_reducible assumption) | (with_reducible refine Below.alloc ?_ ?_ _) | (with_reducible refine bel_drewN ?_ _) | (with_reducible refine Below.drew ?_) | (with_reducible refine Below.setCell ?_ ?_ _) | (with_reducible refine bel_call ‹_› ?_ ?_) | go_size))⟩
set_option maxRecDepth 100000 in
set_option maxHeartbeats 4000000 in
theorem rbin_6 (k n : Int) (s : ByteArray) (hk : k = 0 ∨ k = 1 ∨ k = 2 ∨ k = 3) (hs : s.size ≤ 900) (hn1 : -9223372036854775808 ≤ n) (hn2 : n ≤ 9223372036854775807) (k' n' : Int) (s' : ByteArray) (hk' : k' = 0 ∨ k' = 1 ∨ k' = 2 ∨ k' = 3) (hs' : s'.size ≤ 900) (hn1' : -9223372036854775808 ≤ n') (hn2' : n' ≤ 9223372036854775807) (w : World) : Calls Tryz.prog 8 #[.string ⟨#[38]⟩, .agg #[.int .i64 k, .int .i64 n, .string s], .agg #[.int .i64 k', .int .i64 n', .string s']] w fun e w' => e = .returned (jnV k n s k' n' s') ∧ Below w.heap.size w w' := by
  have HC := Lib.hid (fun W => refCompare_any k n s k' n' s' W)
  generalize cmpN k n s k' n' s' = m at HC
  generalize cmpK k k' = a at HC
  generalize cmpM k n k' n' = b at HC
  generalize cmpT k s k' s' = u at HC
  have HJ := Lib.hid (fun A W hA => rjoin_any A k n s hk hs hn1 hn2 k' n' s' hk' hs' hn1' hn2' W hA)
  obtain ⟨x1, x2, x3, hx⟩ : ∃ x1 x2 x3, jnV k n s k' n' s' = vv x1 x2 x3 := ex_if ⟨_, _, _, rfl⟩ (ex_if ⟨_, _, _, rfl⟩ (ex_if ⟨_, _, _, rfl⟩ (ex_if ⟨_, _, _, rfl⟩ ⟨_, _, _, rfl⟩)))
  rw [hx] at HJ ⊢
  simp only [vv] at HJ ⊢
  clear hk hs hn1 hn2 hk' hs' hn1' hn2' hx
  go_enter Tryz.func8, Tryz.ntmps8
  go_wp2_with fail
  refine (HC.out _).mono ?_
  rintro e w1 ⟨rfl, hb1⟩; obtain ⟨hc_w1, hf_w1, hz_w1⟩ := bcell hb1 (by first | (simp only [World.size_alloc, World.size_setCell, World.size_drew]; rfl) | rfl)
  go_wp2_with fail
  have z0 : w1.cell? ⟨w.heap.size + 1 + 1, 0, none⟩ = some (.int .i64 0) := by go_simp
  have g0 : w1.frozen? ⟨w.heap.size + 1 + 1, 0, none⟩ = false := by go_simp
  have z1 : w1.cell? ⟨w.heap.size + 1 + 1, 1, none⟩ = some (.int .i64 0) := by go_simp
  have g1 : w1.frozen? ⟨w.heap.size + 1 + 1, 1, none⟩ = false := by go_simp
  have z2 : w1.cell? ⟨w.heap.size + 1 + 1, 2, none⟩ = some (.string ⟨#[]⟩) := by go_simp
  have g2 : w1.frozen? ⟨w.heap.size + 1 + 1, 2, none⟩ = false := by go_simp
  refine (HJ.out _ _ ?hA).mono ?post
  case hA => exact (by simp only [World.alloc, Array.getElem?_push, Array.size_push]; (repeat (first | rfl | (rw [if_neg (by omega)]) | (rw [if_pos (by omega)]))))
  case post =>
  rintro e w5 ⟨rfl, hb5⟩; obtain ⟨hc_w5, hf_w5, hz_w5⟩ := bcell hb5 (by first | (simp only [World.size_alloc, World.size_setCell, World.size_drew]; rfl) | rfl)
  have hB5 : Below w1.heap.size w1 w5 := by (repeat' (first | (with_reducible exact Below.refl _ _) | (with_reducible assumption) | (with_reducible refine Below.alloc ?_ ?_ _) | (with_reducible refine bel_drewN ?_ _) | (with_reducible refine Below.drew ?_) | (with_reducible refine Below.setCell ?_ ?_ _) | (with_reducible refine bel_call ‹_› ?_ ?_) | go_size))
  have xx0 := (hB5.cell (p := ⟨w.heap.size + 1 + 1, 0, none⟩) (by show w.heap.size + 1 + 1 < w1.heap.size; omega)).trans z0
  have k0 := (hB5.frozen (p := ⟨w.heap.size + 1 + 1, 0, none⟩) (by show w.heap.size + 1 + 1 < w1.heap.size; omega)).trans g0
  have xx1 := (hB5.cell (p := ⟨w.heap.size + 1 + 1, 1, none⟩) (by show w.heap.size + 1 + 1 < w1.heap.size; omega)).trans z1
  have k1 := (hB5.frozen (p := ⟨w.heap.size + 1 + 1, 1, none⟩) (by show w.heap.size + 1 + 1 < w1.heap.size; omega)).trans g1
  have xx2 := (hB5.cell (p := ⟨w.heap.size + 1 + 1, 2, none⟩) (by show w.heap.size + 1 + 1 < w1.heap.size; omega)).trans z2
  have k2 := (hB5.frozen (p := ⟨w.heap.size + 1 + 1, 2, none⟩) (by show w.heap.size + 1 + 1 < w1.heap.size; omega)).trans g2
  clear hc_w5 hf_w5 hc_w1 hf_w1
  go_wp2_with fail
  refine bodyPost_ret (v := .agg #[.int .i64 x1, .int .i64 x2, .string x3]) (by simp only [results, Tryz.results8]; go_simp) rfl ⟨rfl, by (repeat' (first | (with_reducible exact Below.refl _ _) | (with_reducible assumption) | (with_reducible refine Below.alloc ?_ ?_ _) | (with_reducible refine bel_drewN ?_ _) | (with_reducible refine Below.drew ?_) | (with_reducible refine Below.setCell ?_ ?_ _) | (with_reducible refine bel_call ‹_› ?_ ?_) | go_size))⟩
set_option maxRecDepth 100000 in
set_option maxHeartbeats 4000000 in
theorem rbin_7 (k n : Int) (s : ByteArray) (hk : k = 0 ∨ k = 1 ∨ k = 2 ∨ k = 3) (hs : s.size ≤ 900) (hn1 : -9223372036854775808 ≤ n) (hn2 : n ≤ 9223372036854775807) (k' n' : Int) (s' : ByteArray) (hk' : k' = 0 ∨ k' = 1 ∨ k' = 2 ∨ k' = 3) (hs' : s'.size ≤ 900) (hn1' : -9223372036854775808 ≤ n') (hn2' : n' ≤ 9223372036854775807) (w : World) : Calls Tryz.prog 8 #[.string ⟨#[43]⟩, .agg #[.int .i64 k, .int .i64 n, .string s], .agg #[.int .i64 k', .int .i64 n', .string s']] w fun e w' => e = .returned (rcV 0 k n s k' n' s') ∧ Below w.heap.size w w' := by
  have HC := Lib.hid (fun W => refCompare_any k n s k' n' s' W)
  generalize cmpN k n s k' n' s' = m at HC
  generalize cmpK k k' = a at HC
  generalize cmpM k n k' n' = b at HC
  generalize cmpT k s k' s' = u at HC
  have HJ := Lib.hid (fun W => reckoned_0 k n s hk hs hn1 hn2 k' n' s' hk' hs' hn1' hn2' W)
  obtain ⟨x1, x2, x3, hx⟩ : ∃ x1 x2 x3, rcV 0 k n s k' n' s' = vv x1 x2 x3 := ex_if ⟨_, _, _, rfl⟩ (ex_if ⟨_, _, _, rfl⟩ ⟨_, _, _, rfl⟩)
  rw [hx] at HJ ⊢
  clear hk hs hn1 hn2 hk' hs' hn1' hn2' hx
  go_enter Tryz.func8, Tryz.ntmps8
  go_wp2_with fail
  refine (HC.out _).mono ?_
  rintro e w1 ⟨rfl, hb1⟩; obtain ⟨hc_w1, hf_w1, hz_w1⟩ := bcell hb1 (by first | (simp only [World.size_alloc, World.size_setCell, World.size_drew]; rfl) | rfl)
  go_wp2_with fail
  refine (HJ.out _).mono ?_
  rintro e w5 ⟨rfl, hb5⟩; obtain ⟨hc_w5, hf_w5, hz_w5⟩ := bcell hb5 (by first | (simp only [World.size_alloc, World.size_setCell, World.size_drew]; rfl) | rfl)
  go_wp2_with fail
  refine bodyPost_ret (v := .agg #[.int .i64 x1, .int .i64 x2, .string x3]) (by simp only [results, Tryz.results8]; go_simp) rfl ⟨rfl, by (repeat' (first | (with_reducible exact Below.refl _ _) | (with_reducible assumption) | (with_reducible refine Below.alloc ?_ ?_ _) | (with_reducible refine bel_drewN ?_ _) | (with_reducible refine Below.drew ?_) | (with_reducible refine Below.setCell ?_ ?_ _) | (with_reducible refine bel_call ‹_› ?_ ?_) | go_size))⟩
set_option maxRecDepth 100000 in
set_option maxHeartbeats 4000000 in
theorem rbin_8 (k n : Int) (s : ByteArray) (hk : k = 0 ∨ k = 1 ∨ k = 2 ∨ k = 3) (hs : s.size ≤ 900) (hn1 : -9223372036854775808 ≤ n) (hn2 : n ≤ 9223372036854775807) (k' n' : Int) (s' : ByteArray) (hk' : k' = 0 ∨ k' = 1 ∨ k' = 2 ∨ k' = 3) (hs' : s'.size ≤ 900) (hn1' : -9223372036854775808 ≤ n') (hn2' : n' ≤ 9223372036854775807) (w : World) : Calls Tryz.prog 8 #[.string ⟨#[45]⟩, .agg #[.int .i64 k, .int .i64 n, .string s], .agg #[.int .i64 k', .int .i64 n', .string s']] w fun e w' => e = .returned (rcV 1 k n s k' n' s') ∧ Below w.heap.size w w' := by
  have HC := Lib.hid (fun W => refCompare_any k n s k' n' s' W)
  generalize cmpN k n s k' n' s' = m at HC
  generalize cmpK k k' = a at HC
  generalize cmpM k n k' n' = b at HC
  generalize cmpT k s k' s' = u at HC
  have HJ := Lib.hid (fun W => reckoned_1 k n s hk hs hn1 hn2 k' n' s' hk' hs' hn1' hn2' W)
  obtain ⟨x1, x2, x3, hx⟩ : ∃ x1 x2 x3, rcV 1 k n s k' n' s' = vv x1 x2 x3 := ex_if ⟨_, _, _, rfl⟩ (ex_if ⟨_, _, _, rfl⟩ ⟨_, _, _, rfl⟩)
  rw [hx] at HJ ⊢
  clear hk hs hn1 hn2 hk' hs' hn1' hn2' hx
  go_enter Tryz.func8, Tryz.ntmps8
  go_wp2_with fail
  refine (HC.out _).mono ?_
  rintro e w1 ⟨rfl, hb1⟩; obtain ⟨hc_w1, hf_w1, hz_w1⟩ := bcell hb1 (by first | (simp only [World.size_alloc, World.size_setCell, World.size_drew]; rfl) | rfl)
  go_wp2_with fail
  refine (HJ.out _).mono ?_
  rintro e w5 ⟨rfl, hb5⟩; obtain ⟨hc_w5, hf_w5, hz_w5⟩ := bcell hb5 (by first | (simp only [World.size_alloc, World.size_setCell, World.size_drew]; rfl) | rfl)
  go_wp2_with fail
  refine bodyPost_ret (v := .agg #[.int .i64 x1, .int .i64 x2, .string x3]) (by simp only [results, Tryz.results8]; go_simp) rfl ⟨rfl, by (repeat' (first | (with_reducible exact Below.refl _ _) | (with_reducible assumption) | (with_reducible refine Below.alloc ?_ ?_ _) | (with_reducible refine bel_drewN ?_ _) | (with_reducible refine Below.drew ?_) | (with_reducible refine Below.setCell ?_ ?_ _) | (with_reducible refine bel_call ‹_› ?_ ?_) | go_size))⟩
set_option maxRecDepth 100000 in
set_option maxHeartbeats 4000000 in
theorem rbin_9 (k n : Int) (s : ByteArray) (hk : k = 0 ∨ k = 1 ∨ k = 2 ∨ k = 3) (hs : s.size ≤ 900) (hn1 : -9223372036854775808 ≤ n) (hn2 : n ≤ 9223372036854775807) (k' n' : Int) (s' : ByteArray) (hk' : k' = 0 ∨ k' = 1 ∨ k' = 2 ∨ k' = 3) (hs' : s'.size ≤ 900) (hn1' : -9223372036854775808 ≤ n') (hn2' : n' ≤ 9223372036854775807) (w : World) : Calls Tryz.prog 8 #[.string ⟨#[42]⟩, .agg #[.int .i64 k, .int .i64 n, .string s], .agg #[.int .i64 k', .int .i64 n', .string s']] w fun e w' => e = .returned (rcV 2 k n s k' n' s') ∧ Below w.heap.size w w' := by
  have HC := Lib.hid (fun W => refCompare_any k n s k' n' s' W)
  generalize cmpN k n s k' n' s' = m at HC
  generalize cmpK k k' = a at HC
  generalize cmpM k n k' n' = b at HC
  generalize cmpT k s k' s' = u at HC
  have HJ := Lib.hid (fun W => reckoned_2 k n s hk hs hn1 hn2 k' n' s' hk' hs' hn1' hn2' W)
  obtain ⟨x1, x2, x3, hx⟩ : ∃ x1 x2 x3, rcV 2 k n s k' n' s' = vv x1 x2 x3 := ex_if ⟨_, _, _, rfl⟩ (ex_if ⟨_, _, _, rfl⟩ ⟨_, _, _, rfl⟩)
  rw [hx] at HJ ⊢
  clear hk hs hn1 hn2 hk' hs' hn1' hn2' hx
  go_enter Tryz.func8, Tryz.ntmps8
  go_wp2_with fail
  refine (HC.out _).mono ?_
  rintro e w1 ⟨rfl, hb1⟩; obtain ⟨hc_w1, hf_w1, hz_w1⟩ := bcell hb1 (by first | (simp only [World.size_alloc, World.size_setCell, World.size_drew]; rfl) | rfl)
  go_wp2_with fail
  refine (HJ.out _).mono ?_
  rintro e w5 ⟨rfl, hb5⟩; obtain ⟨hc_w5, hf_w5, hz_w5⟩ := bcell hb5 (by first | (simp only [World.size_alloc, World.size_setCell, World.size_drew]; rfl) | rfl)
  go_wp2_with fail
  refine bodyPost_ret (v := .agg #[.int .i64 x1, .int .i64 x2, .string x3]) (by simp only [results, Tryz.results8]; go_simp) rfl ⟨rfl, by (repeat' (first | (with_reducible exact Below.refl _ _) | (with_reducible assumption) | (with_reducible refine Below.alloc ?_ ?_ _) | (with_reducible refine bel_drewN ?_ _) | (with_reducible refine Below.drew ?_) | (with_reducible refine Below.setCell ?_ ?_ _) | (with_reducible refine bel_call ‹_› ?_ ?_) | go_size))⟩
set_option maxRecDepth 100000 in
set_option maxHeartbeats 4000000 in
theorem rbin_10 (k n : Int) (s : ByteArray) (hk : k = 0 ∨ k = 1 ∨ k = 2 ∨ k = 3) (hs : s.size ≤ 900) (hn1 : -9223372036854775808 ≤ n) (hn2 : n ≤ 9223372036854775807) (k' n' : Int) (s' : ByteArray) (hk' : k' = 0 ∨ k' = 1 ∨ k' = 2 ∨ k' = 3) (hs' : s'.size ≤ 900) (hn1' : -9223372036854775808 ≤ n') (hn2' : n' ≤ 9223372036854775807) (w : World) : Calls Tryz.prog 8 #[.string ⟨#[47]⟩, .agg #[.int .i64 k, .int .i64 n, .string s], .agg #[.int .i64 k', .int .i64 n', .string s']] w fun e w' => e = .returned (rcV 3 k n s k' n' s') ∧ Below w.heap.size w w' := by
  have HC := Lib.hid (fun W => refCompare_any k n s k' n' s' W)
  generalize cmpN k n s k' n' s' = m at HC
  generalize cmpK k k' = a at HC
  generalize cmpM k n k' n' = b at HC
  generalize cmpT k s k' s' = u at HC
  have HJ := Lib.hid (fun W => reckoned_3 k n s hk hs hn1 hn2 k' n' s' hk' hs' hn1' hn2' W)
  obtain ⟨x1, x2, x3, hx⟩ : ∃ x1 x2 x3, rcV 3 k n s k' n' s' = vv x1 x2 x3 := ex_if ⟨_, _, _, rfl⟩ (ex_if ⟨_, _, _, rfl⟩ ⟨_, _, _, rfl⟩)
  rw [hx] at HJ ⊢
  clear hk hs hn1 hn2 hk' hs' hn1' hn2' hx
  go_enter Tryz.func8, Tryz.ntmps8
  go_wp2_with fail
  refine (HC.out _).mono ?_
  rintro e w1 ⟨rfl, hb1⟩; obtain ⟨hc_w1, hf_w1, hz_w1⟩ := bcell hb1 (by first | (simp only [World.size_alloc, World.size_setCell, World.size_drew]; rfl) | rfl)
  go_wp2_with fail
  refine (HJ.out _).mono ?_
  rintro e w5 ⟨rfl, hb5⟩; obtain ⟨hc_w5, hf_w5, hz_w5⟩ := bcell hb5 (by first | (simp only [World.size_alloc, World.size_setCell, World.size_drew]; rfl) | rfl)
  go_wp2_with fail
  refine bodyPost_ret (v := .agg #[.int .i64 x1, .int .i64 x2, .string x3]) (by simp only [results, Tryz.results8]; go_simp) rfl ⟨rfl, by (repeat' (first | (with_reducible exact Below.refl _ _) | (with_reducible assumption) | (with_reducible refine Below.alloc ?_ ?_ _) | (with_reducible refine bel_drewN ?_ _) | (with_reducible refine Below.drew ?_) | (with_reducible refine Below.setCell ?_ ?_ _) | (with_reducible refine bel_call ‹_› ?_ ?_) | go_size))⟩
set_option maxRecDepth 100000 in
set_option maxHeartbeats 4000000 in
theorem rbin_no (sg : ByteArray) (e0 : (sg.toList == [61]) = false) (e1 : (sg.toList == [60, 62]) = false) (e2 : (sg.toList == [60]) = false) (e3 : (sg.toList == [60, 61]) = false) (e4 : (sg.toList == [62]) = false) (e5 : (sg.toList == [62, 61]) = false) (e6 : (sg.toList == [38]) = false) (e7 : (sg.toList == [43]) = false) (e8 : (sg.toList == [45]) = false) (e9 : (sg.toList == [42]) = false) (e10 : (sg.toList == [47]) = false) (k n : Int) (s : ByteArray) (hk : k = 0 ∨ k = 1 ∨ k = 2 ∨ k = 3) (hs : s.size ≤ 900) (hn1 : -9223372036854775808 ≤ n) (hn2 : n ≤ 9223372036854775807) (k' n' : Int) (s' : ByteArray) (hk' : k' = 0 ∨ k' = 1 ∨ k' = 2 ∨ k' = 3) (hs' : s'.size ≤ 900) (hn1' : -9223372036854775808 ≤ n') (hn2' : n' ≤ 9223372036854775807) (w : World) : Calls Tryz.prog 8 #[.string sg, .agg #[.int .i64 k, .int .i64 n, .string s], .agg #[.int .i64 k', .int .i64 n', .string s']] w fun e w' => e = .returned (vv 3 0 ⟨#[35, 78, 65, 77, 69, 63]⟩) ∧ Below w.heap.size w w' := by
  have HC := Lib.hid (fun W => refCompare_any k n s k' n' s' W)
  generalize cmpN k n s k' n' s' = m at HC
  generalize cmpK k k' = a at HC
  generalize cmpM k n k' n' = b at HC
  generalize cmpT k s k' s' = u at HC
  clear hk hs hn1 hn2 hk' hs' hn1' hn2'
  go_enter Tryz.func8, Tryz.ntmps8
  go_wp2_with fail
  refine (HC.out _).mono ?_
  rintro e w1 ⟨rfl, hb1⟩; obtain ⟨hc_w1, hf_w1, hz_w1⟩ := bcell hb1 (by first | (simp only [World.size_alloc, World.size_setCell, World.size_drew]; rfl) | rfl)
  go_wp2_with fail
  refine (refFail_any _ _).mono ?_
  rintro e w5 ⟨rfl, hb5⟩; obtain ⟨hc_w5, hf_w5, hz_w5⟩ := bcell hb5 (by first | (simp only [World.size_alloc, World.size_setCell, World.size_drew]; rfl) | rfl)
  go_wp2_with fail
  refine bodyPost_ret (v := .agg #[.int .i64 3, .int .i64 0, .string ⟨#[35, 78, 65, 77, 69, 63]⟩]) (by simp only [results, Tryz.results8]; go_simp) rfl ⟨rfl, by (repeat' (first | (with_reducible exact Below.refl _ _) | (with_reducible assumption) | (with_reducible refine Below.alloc ?_ ?_ _) | (with_reducible refine bel_drewN ?_ _) | (with_reducible refine Below.drew ?_) | (with_reducible refine Below.setCell ?_ ?_ _) | (with_reducible refine bel_call ‹_› ?_ ?_) | go_size))⟩
end
section
open Go.RowKit Go.Joins

theorem both_bin (sg : ByteArray) (k n : Int) (s : ByteArray) (hk : k = 0 ∨ k = 1 ∨ k = 2 ∨ k = 3) (hs : s.size ≤ 900) (hn1 : -9223372036854775808 ≤ n) (hn2 : n ≤ 9223372036854775807) (k' n' : Int) (s' : ByteArray) (hk' : k' = 0 ∨ k' = 1 ∨ k' = 2 ∨ k' = 3) (hs' : s'.size ≤ 900) (hn1' : -9223372036854775808 ≤ n') (hn2' : n' ≤ 9223372036854775807) : ∃ x1 x2 x3, (∀ W, W.ShapedOpen Tryz.prog → Calls Tryz.prog 6 #[.string sg, .agg #[.int .i64 k, .int .i64 n, .string s], .agg #[.int .i64 k', .int .i64 n', .string s']] W fun e w' => e = .returned (.agg #[.int .i64 x1, .int .i64 x2, .string x3]) ∧ Below W.heap.size W w') ∧ (∀ W, Calls Tryz.prog 8 #[.string sg, .agg #[.int .i64 k, .int .i64 n, .string s], .agg #[.int .i64 k', .int .i64 n', .string s']] W fun e w' => e = .returned (.agg #[.int .i64 x1, .int .i64 x2, .string x3]) ∧ Below W.heap.size W w') := by
  by_cases h0 : sg.toList = [61]
  · have e : sg = ⟨#[61]⟩ := ba_toList h0
    subst e
    obtain ⟨x1, x2, x3, hx⟩ : ∃ x1 x2 x3, cmV 0 k n s k' n' s' = vv x1 x2 x3 := ex_if ⟨_, _, _, rfl⟩ ⟨_, _, _, rfl⟩
    refine ⟨x1, x2, x3, fun W hW => ?_, fun W => ?_⟩
    · have := bin_0 k n s hk hs hn1 hn2 k' n' s' hk' hs' hn1' hn2' W hW
      rw [hx] at this
      exact this
    · have := rbin_0 k n s hk hs hn1 hn2 k' n' s' hk' hs' hn1' hn2' W
      rw [hx] at this
      exact this
  by_cases h1 : sg.toList = [60, 62]
  · have e : sg = ⟨#[60, 62]⟩ := ba_toList h1
    subst e
    obtain ⟨x1, x2, x3, hx⟩ : ∃ x1 x2 x3, cmV 1 k n s k' n' s' = vv x1 x2 x3 := ex_if ⟨_, _, _, rfl⟩ ⟨_, _, _, rfl⟩
    refine ⟨x1, x2, x3, fun W hW => ?_, fun W => ?_⟩
    · have := bin_1 k n s hk hs hn1 hn2 k' n' s' hk' hs' hn1' hn2' W hW
      rw [hx] at this
      exact this
    · have := rbin_1 k n s hk hs hn1 hn2 k' n' s' hk' hs' hn1' hn2' W
      rw [hx] at this
      exact this
  by_cases h2 : sg.toList = [60]
  · have e : sg = ⟨#[60]⟩ := ba_toList h2
    subst e
    obtain ⟨x1, x2, x3, hx⟩ : ∃ x1 x2 x3, cmV 2 k n s k' n' s' = vv x1 x2 x3 := ex_if ⟨_, _, _, rfl⟩ ⟨_, _, _, rfl⟩
    refine ⟨x1, x2, x3, fun W hW => ?_, fun W => ?_⟩
    · have := bin_2 k n s hk hs hn1 hn2 k' n' s' hk' hs' hn1' hn2' W hW
      rw [hx] at this
      exact this
    · have := rbin_2 k n s hk hs hn1 hn2 k' n' s' hk' hs' hn1' hn2' W
      rw [hx] at this
      exact this
  by_cases h3 : sg.toList = [60, 61]
  · have e : sg = ⟨#[60, 61]⟩ := ba_toList h3
    subst e
    obtain ⟨x1, x2, x3, hx⟩ : ∃ x1 x2 x3, cmV 3 k n s k' n' s' = vv x1 x2 x3 := ex_if ⟨_, _, _, rfl⟩ ⟨_, _, _, rfl⟩
    refine ⟨x1, x2, x3, fun W hW => ?_, fun W => ?_⟩
    · have := bin_3 k n s hk hs hn1 hn2 k' n' s' hk' hs' hn1' hn2' W hW
      rw [hx] at this
      exact this
    · have := rbin_3 k n s hk hs hn1 hn2 k' n' s' hk' hs' hn1' hn2' W
      rw [hx] at this
      exact this
  by_cases h4 : sg.toList = [62]
  · have e : sg = ⟨#[62]⟩ := ba_toList h4
    subst e
    obtain ⟨x1, x2, x3, hx⟩ : ∃ x1 x2 x3, cmV 4 k n s k' n' s' = vv x1 x2 x3 := ex_if ⟨_, _, _, rfl⟩ ⟨_, _, _, rfl⟩
    refine ⟨x1, x2, x3, fun W hW => ?_, fun W => ?_⟩
    · have := bin_4 k n s hk hs hn1 hn2 k' n' s' hk' hs' hn1' hn2' W hW
      rw [hx] at this
      exact this
    · have := rbin_4 k n s hk hs hn1 hn2 k' n' s' hk' hs' hn1' hn2' W
      rw [hx] at this
      exact this
  by_cases h5 : sg.toList = [62, 61]
  · have e : sg = ⟨#[62, 61]⟩ := ba_toList h5
    subst e
    obtain ⟨x1, x2, x3, hx⟩ : ∃ x1 x2 x3, cmV 5 k n s k' n' s' = vv x1 x2 x3 := ex_if ⟨_, _, _, rfl⟩ ⟨_, _, _, rfl⟩
    refine ⟨x1, x2, x3, fun W hW => ?_, fun W => ?_⟩
    · have := bin_5 k n s hk hs hn1 hn2 k' n' s' hk' hs' hn1' hn2' W hW
      rw [hx] at this
      exact this
    · have := rbin_5 k n s hk hs hn1 hn2 k' n' s' hk' hs' hn1' hn2' W
      rw [hx] at this
      exact this
  by_cases h6 : sg.toList = [38]
  · have e : sg = ⟨#[38]⟩ := ba_toList h6
    subst e
    obtain ⟨x1, x2, x3, hx⟩ : ∃ x1 x2 x3, jnV k n s k' n' s' = vv x1 x2 x3 := ex_if ⟨_, _, _, rfl⟩ (ex_if ⟨_, _, _, rfl⟩ (ex_if ⟨_, _, _, rfl⟩ (ex_if ⟨_, _, _, rfl⟩ ⟨_, _, _, rfl⟩)))
    refine ⟨x1, x2, x3, fun W hW => ?_, fun W => ?_⟩
    · have := bin_6 k n s hk hs hn1 hn2 k' n' s' hk' hs' hn1' hn2' W hW
      rw [hx] at this
      exact this
    · have := rbin_6 k n s hk hs hn1 hn2 k' n' s' hk' hs' hn1' hn2' W
      rw [hx] at this
      exact this
  by_cases h7 : sg.toList = [43]
  · have e : sg = ⟨#[43]⟩ := ba_toList h7
    subst e
    obtain ⟨x1, x2, x3, hx⟩ : ∃ x1 x2 x3, rcV 0 k n s k' n' s' = vv x1 x2 x3 := ex_if ⟨_, _, _, rfl⟩ (ex_if ⟨_, _, _, rfl⟩ ⟨_, _, _, rfl⟩)
    refine ⟨x1, x2, x3, fun W hW => ?_, fun W => ?_⟩
    · have := bin_7 k n s hk hs hn1 hn2 k' n' s' hk' hs' hn1' hn2' W hW
      rw [hx] at this
      exact this
    · have := rbin_7 k n s hk hs hn1 hn2 k' n' s' hk' hs' hn1' hn2' W
      rw [hx] at this
      exact this
  by_cases h8 : sg.toList = [45]
  · have e : sg = ⟨#[45]⟩ := ba_toList h8
    subst e
    obtain ⟨x1, x2, x3, hx⟩ : ∃ x1 x2 x3, rcV 1 k n s k' n' s' = vv x1 x2 x3 := ex_if ⟨_, _, _, rfl⟩ (ex_if ⟨_, _, _, rfl⟩ ⟨_, _, _, rfl⟩)
    refine ⟨x1, x2, x3, fun W hW => ?_, fun W => ?_⟩
    · have := bin_8 k n s hk hs hn1 hn2 k' n' s' hk' hs' hn1' hn2' W hW
      rw [hx] at this
      exact this
    · have := rbin_8 k n s hk hs hn1 hn2 k' n' s' hk' hs' hn1' hn2' W
      rw [hx] at this
      exact this
  by_cases h9 : sg.toList = [42]
  · have e : sg = ⟨#[42]⟩ := ba_toList h9
    subst e
    obtain ⟨x1, x2, x3, hx⟩ : ∃ x1 x2 x3, rcV 2 k n s k' n' s' = vv x1 x2 x3 := ex_if ⟨_, _, _, rfl⟩ (ex_if ⟨_, _, _, rfl⟩ ⟨_, _, _, rfl⟩)
    refine ⟨x1, x2, x3, fun W hW => ?_, fun W => ?_⟩
    · have := bin_9 k n s hk hs hn1 hn2 k' n' s' hk' hs' hn1' hn2' W hW
      rw [hx] at this
      exact this
    · have := rbin_9 k n s hk hs hn1 hn2 k' n' s' hk' hs' hn1' hn2' W
      rw [hx] at this
      exact this
  by_cases h10 : sg.toList = [47]
  · have e : sg = ⟨#[47]⟩ := ba_toList h10
    subst e
    obtain ⟨x1, x2, x3, hx⟩ : ∃ x1 x2 x3, rcV 3 k n s k' n' s' = vv x1 x2 x3 := ex_if ⟨_, _, _, rfl⟩ (ex_if ⟨_, _, _, rfl⟩ ⟨_, _, _, rfl⟩)
    refine ⟨x1, x2, x3, fun W hW => ?_, fun W => ?_⟩
    · have := bin_10 k n s hk hs hn1 hn2 k' n' s' hk' hs' hn1' hn2' W hW
      rw [hx] at this
      exact this
    · have := rbin_10 k n s hk hs hn1 hn2 k' n' s' hk' hs' hn1' hn2' W
      rw [hx] at this
      exact this
  · exact ⟨_, _, _, fun W hW => bin_no sg (beq_eq_false_iff_ne.2 h0) (beq_eq_false_iff_ne.2 h1) (beq_eq_false_iff_ne.2 h2) (beq_eq_false_iff_ne.2 h3) (beq_eq_false_iff_ne.2 h4) (beq_eq_false_iff_ne.2 h5) (beq_eq_false_iff_ne.2 h6) (beq_eq_false_iff_ne.2 h7) (beq_eq_false_iff_ne.2 h8) (beq_eq_false_iff_ne.2 h9) (beq_eq_false_iff_ne.2 h10) k n s hk hs hn1 hn2 k' n' s' hk' hs' hn1' hn2' W hW, fun W => rbin_no sg (beq_eq_false_iff_ne.2 h0) (beq_eq_false_iff_ne.2 h1) (beq_eq_false_iff_ne.2 h2) (beq_eq_false_iff_ne.2 h3) (beq_eq_false_iff_ne.2 h4) (beq_eq_false_iff_ne.2 h5) (beq_eq_false_iff_ne.2 h6) (beq_eq_false_iff_ne.2 h7) (beq_eq_false_iff_ne.2 h8) (beq_eq_false_iff_ne.2 h9) (beq_eq_false_iff_ne.2 h10) k n s hk hs hn1 hn2 k' n' s' hk' hs' hn1' hn2' W⟩
theorem cto_any (k n : Int) (s : ByteArray) (w : World) : Calls Tryz.prog 7 #[.agg #[.int .i64 k, .int .i64 n, .string s]] w fun e w' => e = .returned (.agg #[.int .i64 k, .int .i64 n, .string s]) ∧ Below w.heap.size w w' := by
  go_enter Tryz.func7, Tryz.ntmps7
  go_wp2
  all_goals go_returns
  all_goals exact ⟨rfl, by (repeat' (first | (with_reducible exact Below.refl _ _) | (with_reducible assumption) | (with_reducible refine Below.alloc ?_ ?_ _) | (with_reducible refine bel_drewN ?_ _) | (with_reducible refine Below.drew ?_) | (with_reducible refine Below.setCell ?_ ?_ _) | (with_reducible refine bel_call ‹_› ?_ ?_) | go_size))⟩
def rightC (k n : Int) (s : ByteArray) : Bool := decide (s.size ≤ 300) && ((k == 0 && n == 0 && s.toList.isEmpty) || (k == 1 && s.toList.isEmpty) || ((k == 2 || k == 3) && n == 0))
theorem cright_any (k n : Int) (s : ByteArray) (w : World) : Calls Tryz.prog 4 #[.agg #[.int .i64 k, .int .i64 n, .string s]] w fun e w' => e = .returned (.bool (rightC k n s)) ∧ Below w.heap.size w w' := by
  go_enter Tryz.func4, Tryz.ntmps4
  go_wp2
  all_goals go_returns
  all_goals refine ⟨?_, by (repeat' (first | (with_reducible exact Below.refl _ _) | (with_reducible assumption) | (with_reducible refine Below.alloc ?_ ?_ _) | (with_reducible refine bel_drewN ?_ _) | (with_reducible refine Below.drew ?_) | (with_reducible refine Below.setCell ?_ ?_ _) | (with_reducible refine bel_call ‹_› ?_ ?_) | go_size))⟩
  all_goals (simp_all [rightC] <;> omega)
theorem rightC_yes {k n : Int} {s : ByteArray} (h : rightC k n s = true) : (k = 0 ∨ k = 1 ∨ k = 2 ∨ k = 3) ∧ s.size ≤ 900 := by
  unfold rightC at h
  simp only [Bool.and_eq_true, Bool.or_eq_true, decide_eq_true_eq, beq_iff_eq] at h
  refine ⟨?_, by omega⟩
  rcases h.2 with (⟨⟨h, _⟩, _⟩ | ⟨h, _⟩) | ⟨h | h, _⟩
  · exact .inl h
  · exact .inr (.inl h)
  · exact .inr (.inr (.inl h))
  · exact .inr (.inr (.inr h))
set_option maxRecDepth 100000 in
set_option maxHeartbeats 16000000 in
theorem signs_walk (sg : ByteArray) (k n : Int) (s : ByteArray) (hn1 : -9223372036854775808 ≤ n) (hn2 : n ≤ 9223372036854775807) (k' n' : Int) (s' : ByteArray) (hn1' : -9223372036854775808 ≤ n') (hn2' : n' ≤ 9223372036854775807) (w : World) (hsh : w.ShapedOpen Tryz.prog) : Calls Tryz.prog 3 #[.string sg, .agg #[.int .i64 k, .int .i64 n, .string s], .agg #[.int .i64 k', .int .i64 n', .string s']] w fun e w' => e = .returned (.bool true) ∧ Below w.heap.size w w' := by
  cases hr : rightC k n s
  · have HRA := Lib.hid (fun W => cright_any k n s W)
    rw [hr] at HRA
    clear hr hn1 hn2 hn1' hn2' hsh
    go_enter Tryz.func3, Tryz.ntmps3
    go_wp2_with fail
    refine (HRA.out _).mono ?_
    rintro e w1 ⟨rfl, hb1⟩; obtain ⟨hc_w1, hf_w1, hz_w1⟩ := bcell hb1 (by first | (simp only [World.size_alloc, World.size_setCell, World.size_drew]; rfl) | rfl)
    go_wp2_with fail
    refine (Gau.cawake_any _).mono ?_
    rintro e w9 ⟨rfl, hb9⟩; obtain ⟨hc_w9, hf_w9, hz_w9⟩ := bcell hb9 (by first | (simp only [World.size_alloc, World.size_setCell, World.size_drew]; rfl) | rfl)
    go_wp2_with fail
    go_ret
    exact ⟨rfl, by (repeat' (first | (with_reducible exact Below.refl _ _) | (with_reducible assumption) | (with_reducible refine Below.alloc ?_ ?_ _) | (with_reducible refine bel_drewN ?_ _) | (with_reducible refine Below.drew ?_) | (with_reducible refine Below.setCell ?_ ?_ _) | (with_reducible refine bel_call ‹_› ?_ ?_) | go_size))⟩
  cases hr' : rightC k' n' s'
  · have HRA := Lib.hid (fun W => cright_any k n s W)
    have HRB := Lib.hid (fun W => cright_any k' n' s' W)
    rw [hr] at HRA
    rw [hr'] at HRB
    clear hr hr' hn1 hn2 hn1' hn2' hsh
    go_enter Tryz.func3, Tryz.ntmps3
    go_wp2_with fail
    refine (HRA.out _).mono ?_
    rintro e w1 ⟨rfl, hb1⟩; obtain ⟨hc_w1, hf_w1, hz_w1⟩ := bcell hb1 (by first | (simp only [World.size_alloc, World.size_setCell, World.size_drew]; rfl) | rfl)
    go_wp2_with fail
    refine (HRB.out _).mono ?_
    rintro e w2 ⟨rfl, hb2⟩; obtain ⟨hc_w2, hf_w2, hz_w2⟩ := bcell hb2 (by first | (simp only [World.size_alloc, World.size_setCell, World.size_drew]; rfl) | rfl)
    go_wp2_with fail
    refine (Gau.cawake_any _).mono ?_
    rintro e w9 ⟨rfl, hb9⟩; obtain ⟨hc_w9, hf_w9, hz_w9⟩ := bcell hb9 (by first | (simp only [World.size_alloc, World.size_setCell, World.size_drew]; rfl) | rfl)
    go_wp2_with fail
    go_ret
    exact ⟨rfl, by (repeat' (first | (with_reducible exact Below.refl _ _) | (with_reducible assumption) | (with_reducible refine Below.alloc ?_ ?_ _) | (with_reducible refine bel_drewN ?_ _) | (with_reducible refine Below.drew ?_) | (with_reducible refine Below.setCell ?_ ?_ _) | (with_reducible refine bel_call ‹_› ?_ ?_) | go_size))⟩
  by_cases h20 : 20 < sg.size
  · have HRA := Lib.hid (fun W => cright_any k n s W)
    have HRB := Lib.hid (fun W => cright_any k' n' s' W)
    rw [hr] at HRA
    rw [hr'] at HRB
    have h20i : (20 : Int) < (sg.size : Int) := by omega
    clear hr hr' hn1 hn2 hn1' hn2' hsh h20
    go_enter Tryz.func3, Tryz.ntmps3
    go_wp2_with fail
    refine (HRA.out _).mono ?_
    rintro e w1 ⟨rfl, hb1⟩; obtain ⟨hc_w1, hf_w1, hz_w1⟩ := bcell hb1 (by first | (simp only [World.size_alloc, World.size_setCell, World.size_drew]; rfl) | rfl)
    go_wp2_with fail
    refine (HRB.out _).mono ?_
    rintro e w2 ⟨rfl, hb2⟩; obtain ⟨hc_w2, hf_w2, hz_w2⟩ := bcell hb2 (by first | (simp only [World.size_alloc, World.size_setCell, World.size_drew]; rfl) | rfl)
    go_wp2_with fail
    refine (Gau.cawake_any _).mono ?_
    rintro e w9 ⟨rfl, hb9⟩; obtain ⟨hc_w9, hf_w9, hz_w9⟩ := bcell hb9 (by first | (simp only [World.size_alloc, World.size_setCell, World.size_drew]; rfl) | rfl)
    go_wp2_with fail
    go_ret
    exact ⟨rfl, by (repeat' (first | (with_reducible exact Below.refl _ _) | (with_reducible assumption) | (with_reducible refine Below.alloc ?_ ?_ _) | (with_reducible refine bel_drewN ?_ _) | (with_reducible refine Below.drew ?_) | (with_reducible refine Below.setCell ?_ ?_ _) | (with_reducible refine bel_call ‹_› ?_ ?_) | go_size))⟩
  · have HRA := Lib.hid (fun W => cright_any k n s W)
    have HRB := Lib.hid (fun W => cright_any k' n' s' W)
    obtain ⟨hk, hs⟩ := rightC_yes hr
    obtain ⟨hk', hs'⟩ := rightC_yes hr'
    rw [hr] at HRA
    rw [hr'] at HRB
    have h20i : ¬ (20 : Int) < (sg.size : Int) := by omega
    obtain ⟨x1, x2, x3, hP, hR⟩ := both_bin sg k n s hk hs hn1 hn2 k' n' s' hk' hs' hn1' hn2'
    have HP := Lib.hid hP
    have HR := Lib.hid hR
    have HM := Lib.hid (fun W hW => minus_any k n s hk hs hn1 hn2 W hW)
    have HN := Lib.hid (fun W => rminus_any k n s hk hs hn1 hn2 W)
    generalize mnK k n s = y1 at HM HN
    generalize mnN k n s = y2 at HM HN
    generalize mnT k n s = y3 at HM HN
    have HSH := Lib.hid hsh
    clear hr hr' hn1 hn2 hn1' hn2' hsh h20 hP hR hk hs hk' hs'
    have q0 : (w.alloc (.cells #[.int .i64 k, .int .i64 n, .string s] 23)).heap.size = w.heap.size + 1 := World.size_alloc _ _
    go_enter Tryz.func3, Tryz.ntmps3
    go_wp2_with fail
    refine (HRA.out _).mono ?_
    rintro e w1 ⟨rfl, hb1⟩; obtain ⟨hc_w1, hf_w1, hz_w1⟩ := bcell hb1 (by first | (simp only [World.size_alloc, World.size_setCell, World.size_drew]; rfl) | rfl)
    go_wp2_with fail
    refine (HRB.out _).mono ?_
    rintro e w2 ⟨rfl, hb2⟩; obtain ⟨hc_w2, hf_w2, hz_w2⟩ := bcell hb2 (by first | (simp only [World.size_alloc, World.size_setCell, World.size_drew]; rfl) | rfl)
    have hbw : Below w.heap.size w w2 := by (repeat' (first | (with_reducible exact Below.refl _ _) | (with_reducible assumption) | (with_reducible refine Below.alloc ?_ ?_ _) | (with_reducible refine bel_drewN ?_ _) | (with_reducible refine Below.drew ?_) | (with_reducible refine Below.setCell ?_ ?_ _) | (with_reducible refine bel_call ‹_› ?_ ?_) | go_size))
    go_upto_region 3 with fail
    have a0 : w2.cell? ⟨w.heap.size, 0, none⟩ = some (.int .i64 k) := by go_simp
    have a1 : w2.cell? ⟨w.heap.size, 1, none⟩ = some (.int .i64 n) := by go_simp
    have a2 : w2.cell? ⟨w.heap.size, 2, none⟩ = some (.string s) := by go_simp
    have b0 : w2.cell? ⟨w.heap.size + 1, 0, none⟩ = some (.int .i64 k') := by go_simp
    have b1 : w2.cell? ⟨w.heap.size + 1, 1, none⟩ = some (.int .i64 n') := by go_simp
    have b2 : w2.cell? ⟨w.heap.size + 1, 2, none⟩ = some (.string s') := by go_simp
    clear hc_w1 hf_w1 hz_w1 hc_w2 hf_w2 hz_w2 hb1 hb2 q0
    have HS2 := Lib.hid (shaped_below HSH.out hbw)
    generalize hwr : w2 = wr at hbw a0 a1 a2 b0 b1 b2 HS2 ⊢
    clear hwr
    have HSG := Lib.hid (fun dd os => shaped_below HS2.out (below_regrown wr dd os))
    have r0 := cell_regrown a0
    have r1 := cell_regrown a1
    have r2 := cell_regrown a2
    have t0 := cell_regrown b0
    have t1 := cell_regrown b1
    have t2 := cell_regrown b2
    have c1 : ∀ dd os, Calls Tryz.prog 7 #[.agg #[.int .i64 k, .int .i64 n, .string s]] (Go.Sort.grow (redrawn wr dd) os) fun e w'' => e = .returned (.agg #[.int .i64 k, .int .i64 n, .string s]) ∧ ∃ p : Regrown, w'' = Go.Sort.grow (redrawn wr p.d) p.os := fun dd os => Calls.regrown_of (cto_any _ _ _ _)
    have c2 : ∀ dd os, Calls Tryz.prog 7 #[.agg #[.int .i64 k', .int .i64 n', .string s']] (Go.Sort.grow (redrawn wr dd) os) fun e w'' => e = .returned (.agg #[.int .i64 k', .int .i64 n', .string s']) ∧ ∃ p : Regrown, w'' = Go.Sort.grow (redrawn wr p.d) p.os := fun dd os => Calls.regrown_of (cto_any _ _ _ _)
    have c3 : ∀ dd os, Calls Tryz.prog 7 #[.agg #[.int .i64 x1, .int .i64 x2, .string x3]] (Go.Sort.grow (redrawn wr dd) os) fun e w'' => e = .returned (.agg #[.int .i64 x1, .int .i64 x2, .string x3]) ∧ ∃ p : Regrown, w'' = Go.Sort.grow (redrawn wr p.d) p.os := fun dd os => Calls.regrown_of (cto_any _ _ _ _)
    have c4 : ∀ dd os, Calls Tryz.prog 7 #[.agg #[.int .i64 y1, .int .i64 y2, .string y3]] (Go.Sort.grow (redrawn wr dd) os) fun e w'' => e = .returned (.agg #[.int .i64 y1, .int .i64 y2, .string y3]) ∧ ∃ p : Regrown, w'' = Go.Sort.grow (redrawn wr p.d) p.os := fun dd os => Calls.regrown_of (cto_any _ _ _ _)
    have c5 : ∀ dd os, Calls Tryz.prog 6 #[.string sg, .agg #[.int .i64 k, .int .i64 n, .string s], .agg #[.int .i64 k', .int .i64 n', .string s']] (Go.Sort.grow (redrawn wr dd) os) fun e w'' => e = .returned (.agg #[.int .i64 x1, .int .i64 x2, .string x3]) ∧ ∃ p : Regrown, w'' = Go.Sort.grow (redrawn wr p.d) p.os := fun dd os => Calls.regrown_of (HP.out _ (HSG.out dd os))
    have c6 : ∀ dd os, Calls Tryz.prog 8 #[.string sg, .agg #[.int .i64 k, .int .i64 n, .string s], .agg #[.int .i64 k', .int .i64 n', .string s']] (Go.Sort.grow (redrawn wr dd) os) fun e w'' => e = .returned (.agg #[.int .i64 x1, .int .i64 x2, .string x3]) ∧ ∃ p : Regrown, w'' = Go.Sort.grow (redrawn wr p.d) p.os := fun dd os => Calls.regrown_of (HR.out _)
    have c7 : ∀ dd os, Calls Tryz.prog 9 #[.agg #[.int .i64 k, .int .i64 n, .string s]] (Go.Sort.grow (redrawn wr dd) os) fun e w'' => e = .returned (.agg #[.int .i64 y1, .int .i64 y2, .string y3]) ∧ ∃ p : Regrown, w'' = Go.Sort.grow (redrawn wr p.d) p.os := fun dd os => Calls.regrown_of (HM.out _ (HSG.out dd os))
    have c8 : ∀ dd os, Calls Tryz.prog 10 #[.agg #[.int .i64 k, .int .i64 n, .string s]] (Go.Sort.grow (redrawn wr dd) os) fun e w'' => e = .returned (.agg #[.int .i64 y1, .int .i64 y2, .string y3]) ∧ ∃ p : Regrown, w'' = Go.Sort.grow (redrawn wr p.d) p.os := fun dd os => Calls.regrown_of (HN.out _)
    have c9 : ∀ dd os, Calls Tryz.prog 5 #[] (Go.Sort.grow (redrawn wr dd) os) fun e w'' => e = .returned (.bool true) ∧ ∃ p : Regrown, w'' = Go.Sort.grow (redrawn wr p.d) p.os := fun dd os => Calls.regrown_of (Gau.cawake_any _)
    refine wp_region_quiet_below (by kernel_rfl) (by kernel_rfl) ?_
    repeat (quiet_step (first | with_reducible exact c1 _ _ | with_reducible exact c2 _ _ | with_reducible exact c3 _ _ | with_reducible exact c4 _ _ | with_reducible exact c5 _ _ | with_reducible exact c6 _ _ | with_reducible exact c7 _ _ | with_reducible exact c8 _ _ | with_reducible exact c9 _ _))
    refine wpQuiet_nil ?_
    intro _ hw'
    obtain ⟨⟨dq, osq⟩, hw''⟩ := hw'
    subst hw''
    clear r0 r1 r2 t0 t1 t2 c1 c2 c3 c4 c5 c6 c7 c8 c9
    have hbq : Below w.heap.size w (Go.Sort.grow (redrawn wr dq) osq) := bel_call (below_regrown wr dq osq) hbw hbw.size
    go_wp2_with fail
    go_ret
    exact ⟨rfl, hbq⟩
end
end Go.Proofs.YtilajcibjlcffaaGreatDoor.Val
