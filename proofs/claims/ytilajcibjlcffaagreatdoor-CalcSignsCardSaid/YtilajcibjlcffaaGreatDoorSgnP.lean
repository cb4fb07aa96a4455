/- The signs of formulas (SgnA, SgnB, SgnC, SgnD). Printed by gen_csg.py, merged by merge_sgn.py. -/
import Derived.Test.YtilajcibjlcffaaGreatDoorTelB
import Derived.Test.YtilajcibjlcffaaGreatDoorVal2
import Derived.Test.YtilajcibjlcffaaGreatDoorDivD
import Derived.Test.YtilajcibjlcffaaGreatDoorDecG
import Derived.Test.YtilajcibjlcffaaGreatDoorCalD
import Derived.Test.YtilajcibjlcffaaGreatDoorBlk
import Derived.Test.YtilajcibjlcffaaGreatDoorResR
import Derived.Deep.DeepCutAuto
import Derived.Deep.LoopGhost
import Derived.Test.YtilajcibjlcffaaGreatDoorDecU
import Derived.LoopN
import Derived.Lib.SmallJoins
set_option linter.unusedSimpArgs false
set_option linter.unusedVariables false
namespace Go.Proofs.YtilajcibjlcffaaGreatDoor.Val
section
open Go.RowKit

def mulZ (x y : Int) : Int := sv (decide (x < 0) != decide (y < 0)) (rdiv (x.natAbs * y.natAbs) 1000000)
def divZ (x y : Int) : Int := sv (decide (x < 0) != decide (y < 0)) (rdiv (x.natAbs * 1000000) y.natAbs)
/-- What a sign makes of two numbers: the number and the error. -/
def rkV (sg : Nat) (x y : Int) : Int := if sg = 0 then okV (x + y) else if sg = 1 then okV (x - y) else if sg = 2 then okV (mulZ x y) else if y = 0 then 0 else okV (divZ x y)
def rkE (sg : Nat) (x y : Int) : Int := if sg = 0 then okE (x + y) else if sg = 1 then okE (x - y) else if sg = 2 then okE (mulZ x y) else if y = 0 then 32 else okE (divZ x y)
def rkS (sg : Nat) : ByteArray := if sg = 0 then ⟨#[43]⟩ else if sg = 1 then ⟨#[45]⟩ else if sg = 2 then ⟨#[42]⟩ else ⟨#[47]⟩
theorem prsV_rng (L : List UInt8) : -9223372036854775808 ≤ prsV L ∧ prsV L ≤ 9223372036854775807 := by
  unfold prsV
  split
  · rename_i h
    unfold prsOk at h
    simp only [Bool.and_eq_true] at h
    have := h.2.2.2.2
    unfold inR at this
    simp only [Bool.and_eq_true, decide_eq_true_eq] at this
    exact this
  · omega
theorem numV_rng (k n : Int) (s : ByteArray) (h1 : -9223372036854775808 ≤ n) (h2 : n ≤ 9223372036854775807) : -9223372036854775808 ≤ numV k n s ∧ numV k n s ≤ 9223372036854775807 := by
  unfold numV
  split
  · exact ⟨h1, h2⟩
  · split
    · exact prsV_rng _
    · omega
set_option maxRecDepth 100000 in
set_option maxHeartbeats 4000000 in
theorem reckon_0 (x y : Int) (hx1 : -9223372036854775808 ≤ x) (hx2 : x ≤ 9223372036854775807) (hy1 : -9223372036854775808 ≤ y) (hy2 : y ≤ 9223372036854775807) (w : World) : Calls Tryz.prog 20 #[.string ⟨#[43]⟩, .int .i64 x, .int .i64 y] w fun e w' => e = .returned (.agg #[.int .i64 (fromK (rkE 0 x y)), .int .i64 (fromN (rkV 0 x y) (rkE 0 x y)), .string (fromT (rkE 0 x y))]) ∧ Below w.heap.size w w' := by
  rw [show rkV 0 x y = okV (x + y) from rfl, show rkE 0 x y = okE (x + y) from rfl]
  have HD := Lib.hid (fun W => add_any x y hx1 hx2 hy1 hy2 W)
  generalize okV (x + y) = v at HD ⊢
  generalize okE (x + y) = k at HD ⊢
  clear hx1 hx2 hy1 hy2
  go_enter Tryz.func20, Tryz.ntmps20
  go_wp2_with fail
  refine (HD.out _).mono ?_
  rintro e w1 ⟨rfl, rfl⟩
  go_wp2_with fail
  refine (from_any _ _ _).mono ?_
  rintro e w2 ⟨rfl, hb2⟩; obtain ⟨hc_w2, hf_w2, hz_w2⟩ := bcell hb2 (by first | (simp only [World.size_alloc, World.size_setCell, World.size_drew]; rfl) | rfl)
  go_wp2_with fail
  refine bodyPost_ret (v := .agg #[.int .i64 (fromK k), .int .i64 (fromN v k), .string (fromT k)]) (by simp only [results, Tryz.results20]; go_simp) rfl ⟨rfl, by (repeat' (first | (with_reducible exact Below.refl _ _) | (with_reducible assumption) | (with_reducible refine Below.alloc ?_ ?_ _) | (with_reducible refine bel_drewN ?_ _) | (with_reducible refine Below.drew ?_) | (with_reducible refine Below.setCell ?_ ?_ _) | (with_reducible refine bel_call ‹_› ?_ ?_) | go_size))⟩
set_option maxRecDepth 100000 in
set_option maxHeartbeats 4000000 in
theorem reckon_1 (x y : Int) (hx1 : -9223372036854775808 ≤ x) (hx2 : x ≤ 9223372036854775807) (hy1 : -9223372036854775808 ≤ y) (hy2 : y ≤ 9223372036854775807) (w : World) : Calls Tryz.prog 20 #[.string ⟨#[45]⟩, .int .i64 x, .int .i64 y] w fun e w' => e = .returned (.agg #[.int .i64 (fromK (rkE 1 x y)), .int .i64 (fromN (rkV 1 x y) (rkE 1 x y)), .string (fromT (rkE 1 x y))]) ∧ Below w.heap.size w w' := by
  rw [show rkV 1 x y = okV (x - y) from rfl, show rkE 1 x y = okE (x - y) from rfl]
  have HD := Lib.hid (fun W => sub_any x y hx1 hx2 hy1 hy2 W)
  generalize okV (x - y) = v at HD ⊢
  generalize okE (x - y) = k at HD ⊢
  clear hx1 hx2 hy1 hy2
  go_enter Tryz.func20, Tryz.ntmps20
  go_wp2_with fail
  refine (HD.out _).mono ?_
  rintro e w1 ⟨rfl, rfl⟩
  go_wp2_with fail
  refine (from_any _ _ _).mono ?_
  rintro e w2 ⟨rfl, hb2⟩; obtain ⟨hc_w2, hf_w2, hz_w2⟩ := bcell hb2 (by first | (simp only [World.size_alloc, World.size_setCell, World.size_drew]; rfl) | rfl)
  go_wp2_with fail
  refine bodyPost_ret (v := .agg #[.int .i64 (fromK k), .int .i64 (fromN v k), .string (fromT k)]) (by simp only [results, Tryz.results20]; go_simp) rfl ⟨rfl, by (repeat' (first | (with_reducible exact Below.refl _ _) | (with_reducible assumption) | (with_reducible refine Below.alloc ?_ ?_ _) | (with_reducible refine bel_drewN ?_ _) | (with_reducible refine Below.drew ?_) | (with_reducible refine Below.setCell ?_ ?_ _) | (with_reducible refine bel_call ‹_› ?_ ?_) | go_size))⟩
set_option maxRecDepth 100000 in
set_option maxHeartbeats 4000000 in
theorem reckon_2 (x y : Int) (hx1 : -9223372036854775808 ≤ x) (hx2 : x ≤ 9223372036854775807) (hy1 : -9223372036854775808 ≤ y) (hy2 : y ≤ 9223372036854775807) (w : World) : Calls Tryz.prog 20 #[.string ⟨#[42]⟩, .int .i64 x, .int .i64 y] w fun e w' => e = .returned (.agg #[.int .i64 (fromK (rkE 2 x y)), .int .i64 (fromN (rkV 2 x y) (rkE 2 x y)), .string (fromT (rkE 2 x y))]) ∧ Below w.heap.size w w' := by
  rw [show rkV 2 x y = okV (mulZ x y) from rfl, show rkE 2 x y = okE (mulZ x y) from rfl]
  have HD := Lib.hid (fun W => mul_any x y hx1 hx2 hy1 hy2 W)
  rw [show sv (decide (x < 0) != decide (y < 0)) (rdiv (x.natAbs * y.natAbs) 1000000) = mulZ x y from rfl] at HD
  generalize okV (mulZ x y) = v at HD ⊢
  generalize okE (mulZ x y) = k at HD ⊢
  clear hx1 hx2 hy1 hy2
  go_enter Tryz.func20, Tryz.ntmps20
  go_wp2_with fail
  refine (HD.out _).mono ?_
  rintro e w1 ⟨rfl, hb1⟩; obtain ⟨hc_w1, hf_w1, hz_w1⟩ := bcell hb1 (by first | (simp only [World.size_alloc, World.size_setCell, World.size_drew]; rfl) | rfl)
  go_wp2_with fail
  refine (from_any _ _ _).mono ?_
  rintro e w2 ⟨rfl, hb2⟩; obtain ⟨hc_w2, hf_w2, hz_w2⟩ := bcell hb2 (by first | (simp only [World.size_alloc, World.size_setCell, World.size_drew]; rfl) | rfl)
  go_wp2_with fail
  refine bodyPost_ret (v := .agg #[.int .i64 (fromK k), .int .i64 (fromN v k), .string (fromT k)]) (by simp only [results, Tryz.results20]; go_simp) rfl ⟨rfl, by (repeat' (first | (with_reducible exact Below.refl _ _) | (with_reducible assumption) | (with_reducible refine Below.alloc ?_ ?_ _) | (with_reducible refine bel_drewN ?_ _) | (with_reducible refine Below.drew ?_) | (with_reducible refine Below.setCell ?_ ?_ _) | (with_reducible refine bel_call ‹_› ?_ ?_) | go_size))⟩
set_option maxRecDepth 100000 in
set_option maxHeartbeats 4000000 in
theorem reckon_3 (x y : Int) (hx1 : -9223372036854775808 ≤ x) (hx2 : x ≤ 9223372036854775807) (hy1 : -9223372036854775808 ≤ y) (hy2 : y ≤ 9223372036854775807) (w : World) : Calls Tryz.prog 20 #[.string ⟨#[47]⟩, .int .i64 x, .int .i64 y] w fun e w' => e = .returned (.agg #[.int .i64 (fromK (rkE 3 x y)), .int .i64 (fromN (rkV 3 x y) (rkE 3 x y)), .string (fromT (rkE 3 x y))]) ∧ Below w.heap.size w w' := by
  by_cases h0 : y = 0
  · subst h0
    rw [show rkV 3 x 0 = 0 from rfl, show rkE 3 x 0 = 32 from rfl]
    have HD := Lib.hid (fun W => div_zero x W)
    clear hx1 hx2 hy1 hy2
    go_enter Tryz.func20, Tryz.ntmps20
    go_wp2_with fail
    refine (HD.out _).mono ?_
    rintro e w1 ⟨rfl, rfl⟩
    go_wp2_with fail
    refine (from_any _ _ _).mono ?_
    rintro e w2 ⟨rfl, hb2⟩; obtain ⟨hc_w2, hf_w2, hz_w2⟩ := bcell hb2 (by first | (simp only [World.size_alloc, World.size_setCell, World.size_drew]; rfl) | rfl)
    go_wp2_with fail
    refine bodyPost_ret (v := .agg #[.int .i64 (fromK 32), .int .i64 (fromN 0 32), .string (fromT 32)]) (by simp only [results, Tryz.results20]; go_simp) rfl ⟨rfl, by (repeat' (first | (with_reducible exact Below.refl _ _) | (with_reducible assumption) | (with_reducible refine Below.alloc ?_ ?_ _) | (with_reducible refine bel_drewN ?_ _) | (with_reducible refine Below.drew ?_) | (with_reducible refine Below.setCell ?_ ?_ _) | (with_reducible refine bel_call ‹_› ?_ ?_) | go_size))⟩
  · have hb0 : (y == 0) = false := by simpa using h0
    have e1 : rkV 3 x y = okV (divZ x y) := by unfold rkV; simp [h0]
    have e2 : rkE 3 x y = okE (divZ x y) := by unfold rkE; simp [h0]
    rw [e1, e2]
    have HD := Lib.hid (fun W => div_any x y hx1 hx2 hy1 hy2 hb0 W)
    rw [show sv (decide (x < 0) != decide (y < 0)) (rdiv (x.natAbs * 1000000) y.natAbs) = divZ x y from rfl] at HD
    generalize okV (divZ x y) = v at HD ⊢
    generalize okE (divZ x y) = k at HD ⊢
    clear e1 e2 h0 hb0 hx1 hx2 hy1 hy2
    go_enter Tryz.func20, Tryz.ntmps20
    go_wp2_with fail
    refine (HD.out _).mono ?_
    rintro e w1 ⟨rfl, hb1⟩; obtain ⟨hc_w1, hf_w1, hz_w1⟩ := bcell hb1 (by first | (simp only [World.size_alloc, World.size_setCell, World.size_drew]; rfl) | rfl)
    go_wp2_with fail
    refine (from_any _ _ _).mono ?_
    rintro e w2 ⟨rfl, hb2⟩; obtain ⟨hc_w2, hf_w2, hz_w2⟩ := bcell hb2 (by first | (simp only [World.size_alloc, World.size_setCell, World.size_drew]; rfl) | rfl)
    go_wp2_with fail
    refine bodyPost_ret (v := .agg #[.int .i64 (fromK k), .int .i64 (fromN v k), .string (fromT k)]) (by simp only [results, Tryz.results20]; go_simp) rfl ⟨rfl, by (repeat' (first | (with_reducible exact Below.refl _ _) | (with_reducible assumption) | (with_reducible refine Below.alloc ?_ ?_ _) | (with_reducible refine bel_drewN ?_ _) | (with_reducible refine Below.drew ?_) | (with_reducible refine Below.setCell ?_ ?_ _) | (with_reducible refine bel_call ‹_› ?_ ?_) | go_size))⟩
/-- What a turned sign makes of a value. -/
def mnK (k n : Int) (s : ByteArray) : Int := if numK k s = 3 then 3 else fromK (okE (0 - numV k n s))
def mnN (k n : Int) (s : ByteArray) : Int := if numK k s = 3 then numM k n else fromN (okV (0 - numV k n s)) (okE (0 - numV k n s))
def mnT (k n : Int) (s : ByteArray) : ByteArray := if numK k s = 3 then numT k s else fromT (okE (0 - numV k n s))
set_option maxRecDepth 100000 in
set_option maxHeartbeats 4000000 in
theorem minus_any (k n : Int) (s : ByteArray) (hk : k = 0 ∨ k = 1 ∨ k = 2 ∨ k = 3) (hs : s.size ≤ 900) (hn1 : -9223372036854775808 ≤ n) (hn2 : n ≤ 9223372036854775807) (w : World) (hsh : w.ShapedOpen Tryz.prog) : Calls Tryz.prog 9 #[.agg #[.int .i64 k, .int .i64 n, .string s]] w fun e w' => e = .returned (.agg #[.int .i64 (mnK k n s), .int .i64 (mnN k n s), .string (mnT k n s)]) ∧ Below w.heap.size w w' := by
  have HNU := Lib.hid (fun W hW => number_any k n s hk hs W hW)
  have HSH := Lib.hid hsh
  clear hsh
  obtain ⟨hv1, hv2⟩ := numV_rng k n s hn1 hn2
  have HNG := Lib.hid (fun W => neg_any (numV k n s) hv1 hv2 W)
  have HK : Hid (mnK k n s = if numK k s = 3 then 3 else fromK (okE (0 - numV k n s))) := rfl
  have HN : Hid (mnN k n s = if numK k s = 3 then numM k n else fromN (okV (0 - numV k n s)) (okE (0 - numV k n s))) := rfl
  have HT : Hid (mnT k n s = if numK k s = 3 then numT k s else fromT (okE (0 - numV k n s))) := rfl
  generalize okV (0 - numV k n s) = v at HNG HK HN HT
  generalize okE (0 - numV k n s) = f at HNG HK HN HT
  generalize mnK k n s = rK at HK ⊢
  generalize mnN k n s = rN at HN ⊢
  generalize mnT k n s = rT at HT ⊢
  generalize numV k n s = d at HNU HNG
  generalize numK k s = a at HNU HK HN HT
  generalize numM k n = b at HNU HN
  generalize numT k s = t at HNU HT
  clear hv1 hv2 hn1 hn2 hs
  by_cases h3 : a = 3
  · have e1 : rK = 3 := by rw [HK.out, if_pos h3]
    have e2 : rN = b := by rw [HN.out, if_pos h3]
    have e3 : rT = t := by rw [HT.out, if_pos h3]
    rw [e1, e2, e3]
    subst h3
    clear e1 e2 e3 HK HN HT
    go_enter Tryz.func9, Tryz.ntmps9
    go_wp2_with fail
    refine (HNU.out _ (shaped_below HSH.out (by (repeat' (first | (with_reducible exact Below.refl _ _) | (with_reducible assumption) | (with_reducible refine Below.alloc ?_ ?_ _) | (with_reducible refine bel_drewN ?_ _) | (with_reducible refine Below.drew ?_) | (with_reducible refine Below.setCell ?_ ?_ _) | (with_reducible refine bel_call ‹_› ?_ ?_) | go_size))))).mono ?_
    rintro e w1 ⟨rfl, hb1⟩; obtain ⟨hc_w1, hf_w1, hz_w1⟩ := bcell hb1 (by first | (simp only [World.size_alloc, World.size_setCell, World.size_drew]; rfl) | rfl)
    go_wp2_with fail
    refine (Gau.failed_any _ _ _ _).mono ?_
    rintro e w2 ⟨rfl, hb2⟩; obtain ⟨hc_w2, hf_w2, hz_w2⟩ := bcell hb2 (by first | (simp only [World.size_alloc, World.size_setCell, World.size_drew]; rfl) | rfl)
    go_wp2_with fail
    refine bodyPost_ret (v := .agg #[.int .i64 3, .int .i64 b, .string t]) (by simp only [results, Tryz.results9]; go_simp) rfl ⟨rfl, by (repeat' (first | (with_reducible exact Below.refl _ _) | (with_reducible assumption) | (with_reducible refine Below.alloc ?_ ?_ _) | (with_reducible refine bel_drewN ?_ _) | (with_reducible refine Below.drew ?_) | (with_reducible refine Below.setCell ?_ ?_ _) | (with_reducible refine bel_call ‹_› ?_ ?_) | go_size))⟩
  · have e1 : rK = fromK f := by rw [HK.out, if_neg h3]
    have e2 : rN = fromN v f := by rw [HN.out, if_neg h3]
    have e3 : rT = fromT f := by rw [HT.out, if_neg h3]
    rw [e1, e2, e3]
    have h3b : (a == 3) = false := by simpa using h3
    clear e1 e2 e3 h3 HK HN HT
    go_enter Tryz.func9, Tryz.ntmps9
    go_wp2_with fail
    refine (HNU.out _ (shaped_below HSH.out (by (repeat' (first | (with_reducible exact Below.refl _ _) | (with_reducible assumption) | (with_reducible refine Below.alloc ?_ ?_ _) | (with_reducible refine bel_drewN ?_ _) | (with_reducible refine Below.drew ?_) | (with_reducible refine Below.setCell ?_ ?_ _) | (with_reducible refine bel_call ‹_› ?_ ?_) | go_size))))).mono ?_
    rintro e w1 ⟨rfl, hb1⟩; obtain ⟨hc_w1, hf_w1, hz_w1⟩ := bcell hb1 (by first | (simp only [World.size_alloc, World.size_setCell, World.size_drew]; rfl) | rfl)
    go_wp2_with fail
    refine (Gau.failed_any _ _ _ _).mono ?_
    rintro e w2 ⟨rfl, hb2⟩; obtain ⟨hc_w2, hf_w2, hz_w2⟩ := bcell hb2 (by first | (simp only [World.size_alloc, World.size_setCell, World.size_drew]; rfl) | rfl)
    go_wp2_with fail
    refine (HNG.out _).mono ?_
    rintro e w3 ⟨rfl, rfl⟩
    go_wp2_with fail
    refine (from_any _ _ _).mono ?_
    rintro e w4 ⟨rfl, hb4⟩; obtain ⟨hc_w4, hf_w4, hz_w4⟩ := bcell hb4 (by first | (simp only [World.size_alloc, World.size_setCell, World.size_drew]; rfl) | rfl)
    go_wp2_with fail
    refine bodyPost_ret (v := .agg #[.int .i64 (fromK f), .int .i64 (fromN v f), .string (fromT f)]) (by simp only [results, Tryz.results9]; go_simp) rfl ⟨rfl, by (repeat' (first | (with_reducible exact Below.refl _ _) | (with_reducible assumption) | (with_reducible refine Below.alloc ?_ ?_ _) | (with_reducible refine bel_drewN ?_ _) | (with_reducible refine Below.drew ?_) | (with_reducible refine Below.setCell ?_ ?_ _) | (with_reducible refine bel_call ‹_› ?_ ?_) | go_size))⟩
set_option maxRecDepth 100000 in
set_option maxHeartbeats 4000000 in
theorem rminus_any (k n : Int) (s : ByteArray) (hk : k = 0 ∨ k = 1 ∨ k = 2 ∨ k = 3) (hs : s.size ≤ 900) (hn1 : -9223372036854775808 ≤ n) (hn2 : n ≤ 9223372036854775807) (w : World) : Calls Tryz.prog 10 #[.agg #[.int .i64 k, .int .i64 n, .string s]] w fun e w' => e = .returned (.agg #[.int .i64 (mnK k n s), .int .i64 (mnN k n s), .string (mnT k n s)]) ∧ Below w.heap.size w w' := by
  have HNU := Lib.hid (fun W => refNumber_any k n s hk hs W)
  obtain ⟨hv1, hv2⟩ := numV_rng k n s hn1 hn2
  have HNG := Lib.hid (fun W => refAdd_any 0 (numV k n s) true (by omega) (by omega) hv1 hv2 (0 - numV k n s) rfl W)
  have HK : Hid (mnK k n s = if numK k s = 3 then 3 else fromK (okE (0 - numV k n s))) := rfl
  have HN : Hid (mnN k n s = if numK k s = 3 then numM k n else fromN (okV (0 - numV k n s)) (okE (0 - numV k n s))) := rfl
  have HT : Hid (mnT k n s = if numK k s = 3 then numT k s else fromT (okE (0 - numV k n s))) := rfl
  generalize okV (0 - numV k n s) = v at HNG HK HN HT
  generalize okE (0 - numV k n s) = f at HNG HK HN HT
  generalize mnK k n s = rK at HK ⊢
  generalize mnN k n s = rN at HN ⊢
  generalize mnT k n s = rT at HT ⊢
  generalize numV k n s = d at HNU HNG
  generalize numK k s = a at HNU HK HN HT
  generalize numM k n = b at HNU HN
  generalize numT k s = t at HNU HT
  clear hv1 hv2 hn1 hn2 hs
  by_cases h3 : a = 3
  · have e1 : rK = 3 := by rw [HK.out, if_pos h3]
    have e2 : rN = b := by rw [HN.out, if_pos h3]
    have e3 : rT = t := by rw [HT.out, if_pos h3]
    rw [e1, e2, e3]
    subst h3
    clear e1 e2 e3 HK HN HT
    go_enter Tryz.func10, Tryz.ntmps10
    go_wp2_with fail
    refine (HNU.out _ ).mono ?_
    rintro e w1 ⟨rfl, hb1⟩; obtain ⟨hc_w1, hf_w1, hz_w1⟩ := bcell hb1 (by first | (simp only [World.size_alloc, World.size_setCell, World.size_drew]; rfl) | rfl)
    go_wp2_with fail
    refine bodyPost_ret (v := .agg #[.int .i64 3, .int .i64 b, .string t]) (by simp only [results, Tryz.results10]; go_simp) rfl ⟨rfl, by (repeat' (first | (with_reducible exact Below.refl _ _) | (with_reducible assumption) | (with_reducible refine Below.alloc ?_ ?_ _) | (with_reducible refine bel_drewN ?_ _) | (with_reducible refine Below.drew ?_) | (with_reducible refine Below.setCell ?_ ?_ _) | (with_reducible refine bel_call ‹_› ?_ ?_) | go_size))⟩
  · have e1 : rK = fromK f := by rw [HK.out, if_neg h3]
    have e2 : rN = fromN v f := by rw [HN.out, if_neg h3]
    have e3 : rT = fromT f := by rw [HT.out, if_neg h3]
    rw [e1, e2, e3]
    have h3b : (a == 3) = false := by simpa using h3
    clear e1 e2 e3 h3 HK HN HT
    go_enter Tryz.func10, Tryz.ntmps10
    go_wp2_with fail
    refine (HNU.out _ ).mono ?_
    rintro e w1 ⟨rfl, hb1⟩; obtain ⟨hc_w1, hf_w1, hz_w1⟩ := bcell hb1 (by first | (simp only [World.size_alloc, World.size_setCell, World.size_drew]; rfl) | rfl)
    go_wp2_with fail
    refine (HNG.out _).mono ?_
    rintro e w3 ⟨rfl, hb3⟩; obtain ⟨hc_w3, hf_w3, hz_w3⟩ := bcell hb3 (by first | (simp only [World.size_alloc, World.size_setCell, World.size_drew]; rfl) | rfl)
    go_wp2_with fail
    refine (refFrom_any _ _ _).mono ?_
    rintro e w4 ⟨rfl, hb4⟩; obtain ⟨hc_w4, hf_w4, hz_w4⟩ := bcell hb4 (by first | (simp only [World.size_alloc, World.size_setCell, World.size_drew]; rfl) | rfl)
    go_wp2_with fail
    refine bodyPost_ret (v := .agg #[.int .i64 (fromK f), .int .i64 (fromN v f), .string (fromT f)]) (by simp only [results, Tryz.results10]; go_simp) rfl ⟨rfl, by (repeat' (first | (with_reducible exact Below.refl _ _) | (with_reducible assumption) | (with_reducible refine Below.alloc ?_ ?_ _) | (with_reducible refine bel_drewN ?_ _) | (with_reducible refine Below.drew ?_) | (with_reducible refine Below.setCell ?_ ?_ _) | (with_reducible refine bel_call ‹_› ?_ ?_) | go_size))⟩
end
section
open Go.RowKit

set_option maxRecDepth 100000 in
set_option maxHeartbeats 4000000 in
theorem holds_0 (n : Int) (w : World) : Calls Tryz.prog 17 #[.string ⟨#[61]⟩, .int .i64 n] w fun e w' => e = .returned (.bool (decide (n = 0))) ∧ w = w' := by
  by_cases h : (n = 0)
  · have hd : (decide (n = 0)) = true := decide_eq_true h
    have hb : (n == 0) = decide (n = 0) := by by_cases h : n = 0 <;> simp [h]
    rw [hd]
    go_enter Tryz.func17, Tryz.ntmps17
    go_wp2_with fail
    all_goals go_ret
    all_goals exact ⟨by simp_all, rfl⟩
  · have hd : (decide (n = 0)) = false := decide_eq_false h
    rw [hd]
    go_enter Tryz.func17, Tryz.ntmps17
    go_wp2_with fail
    all_goals go_ret
    all_goals exact ⟨by simp_all, rfl⟩
set_option maxRecDepth 100000 in
set_option maxHeartbeats 4000000 in
theorem holds_1 (n : Int) (w : World) : Calls Tryz.prog 17 #[.string ⟨#[60, 62]⟩, .int .i64 n] w fun e w' => e = .returned (.bool (decide (n ≠ 0))) ∧ w = w' := by
  by_cases h : (n ≠ 0)
  · have hd : (decide (n ≠ 0)) = true := decide_eq_true h
    have hb : (n == 0) = decide (n = 0) := by by_cases h : n = 0 <;> simp [h]
    rw [hd]
    go_enter Tryz.func17, Tryz.ntmps17
    go_wp2_with fail
    all_goals go_ret
    all_goals exact ⟨by simp_all, rfl⟩
  · have hd : (decide (n ≠ 0)) = false := decide_eq_false h
    rw [hd]
    go_enter Tryz.func17, Tryz.ntmps17
    go_wp2_with fail
    all_goals go_ret
    all_goals exact ⟨by simp_all, rfl⟩
set_option maxRecDepth 100000 in
set_option maxHeartbeats 4000000 in
theorem holds_2 (n : Int) (w : World) : Calls Tryz.prog 17 #[.string ⟨#[60]⟩, .int .i64 n] w fun e w' => e = .returned (.bool (decide (n < 0))) ∧ w = w' := by
  by_cases h : (n < 0)
  · have hd : (decide (n < 0)) = true := decide_eq_true h
    have hb : (n == 0) = decide (n = 0) := by by_cases h : n = 0 <;> simp [h]
    rw [hd]
    go_enter Tryz.func17, Tryz.ntmps17
    go_wp2_with fail
    all_goals go_ret
    all_goals exact ⟨by simp_all, rfl⟩
  · have hd : (decide (n < 0)) = false := decide_eq_false h
    rw [hd]
    go_enter Tryz.func17, Tryz.ntmps17
    go_wp2_with fail
    all_goals go_ret
    all_goals exact ⟨by simp_all, rfl⟩
set_option maxRecDepth 100000 in
set_option maxHeartbeats 4000000 in
theorem holds_3 (n : Int) (w : World) : Calls Tryz.prog 17 #[.string ⟨#[60, 61]⟩, .int .i64 n] w fun e w' => e = .returned (.bool (decide (n ≤ 0))) ∧ w = w' := by
  by_cases h : (n ≤ 0)
  · have hd : (decide (n ≤ 0)) = true := decide_eq_true h
    have hb : (n == 0) = decide (n = 0) := by by_cases h : n = 0 <;> simp [h]
    rw [hd]
    go_enter Tryz.func17, Tryz.ntmps17
    go_wp2_with fail
    all_goals go_ret
    all_goals exact ⟨by simp_all, rfl⟩
  · have hd : (decide (n ≤ 0)) = false := decide_eq_false h
    rw [hd]
    go_enter Tryz.func17, Tryz.ntmps17
    go_wp2_with fail
    all_goals go_ret
    all_goals exact ⟨by simp_all, rfl⟩
set_option maxRecDepth 100000 in
set_option maxHeartbeats 4000000 in
theorem holds_4 (n : Int) (w : World) : Calls Tryz.prog 17 #[.string ⟨#[62]⟩, .int .i64 n] w fun e w' => e = .returned (.bool (decide (0 < n))) ∧ w = w' := by
  by_cases h : (0 < n)
  · have hd : (decide (0 < n)) = true := decide_eq_true h
    have hb : (n == 0) = decide (n = 0) := by by_cases h : n = 0 <;> simp [h]
    rw [hd]
    go_enter Tryz.func17, Tryz.ntmps17
    go_wp2_with fail
    all_goals go_ret
    all_goals exact ⟨by simp_all, rfl⟩
  · have hd : (decide (0 < n)) = false := decide_eq_false h
    rw [hd]
    go_enter Tryz.func17, Tryz.ntmps17
    go_wp2_with fail
    all_goals go_ret
    all_goals exact ⟨by simp_all, rfl⟩
set_option maxRecDepth 100000 in
set_option maxHeartbeats 4000000 in
theorem holds_5 (n : Int) (w : World) : Calls Tryz.prog 17 #[.string ⟨#[62, 61]⟩, .int .i64 n] w fun e w' => e = .returned (.bool (decide (0 ≤ n))) ∧ w = w' := by
  by_cases h : (0 ≤ n)
  · have hd : (decide (0 ≤ n)) = true := decide_eq_true h
    have hb : (n == 0) = decide (n = 0) := by by_cases h : n = 0 <;> simp [h]
    rw [hd]
    go_enter Tryz.func17, Tryz.ntmps17
    go_wp2_with fail
    all_goals go_ret
    all_goals exact ⟨by simp_all, rfl⟩
  · have hd : (decide (0 ≤ n)) = false := decide_eq_false h
    rw [hd]
    go_enter Tryz.func17, Tryz.ntmps17
    go_wp2_with fail
    all_goals go_ret
    all_goals exact ⟨by simp_all, rfl⟩
set_option maxRecDepth 100000 in
set_option maxHeartbeats 4000000 in
theorem bad_any (w : World) : Calls Tryz.prog 51 #[] w fun e w' => e = .returned (.agg #[.int .i64 3, .int .i64 0, .string ⟨#[35, 86, 65, 76, 85, 69, 33]⟩]) ∧ Below w.heap.size w w' := by
  go_enter Tryz.func51, Tryz.ntmps51
  go_wp2_with fail
  refine (refFail_any _ _).mono ?_
  rintro e w1 ⟨rfl, hb1⟩; obtain ⟨hc_w1, hf_w1, hz_w1⟩ := bcell hb1 (by first | (simp only [World.size_alloc, World.size_setCell, World.size_drew]; rfl) | rfl)
  go_wp2_with fail
  refine bodyPost_ret (v := .agg #[.int .i64 3, .int .i64 0, .string ⟨#[35, 86, 65, 76, 85, 69, 33]⟩]) (by simp only [results, Tryz.results51]; go_simp) rfl ⟨rfl, by (repeat' (first | (with_reducible exact Below.refl _ _) | (with_reducible assumption) | (with_reducible refine Below.alloc ?_ ?_ _) | (with_reducible refine bel_drewN ?_ _) | (with_reducible refine Below.drew ?_) | (with_reducible refine Below.setCell ?_ ?_ _) | (with_reducible refine bel_call ‹_› ?_ ?_) | go_size))⟩
end
section
open Go.RowKit

abbrev vv (k n : Int) (s : ByteArray) : Value := .agg #[.int .i64 k, .int .i64 n, .string s]
/-- What a sign of numbers makes of two values. -/
def rcV (sg : Nat) (k n : Int) (s : ByteArray) (k' n' : Int) (s' : ByteArray) : Value := if numK k s = 3 then vv 3 (numM k n) (numT k s) else if numK k' s' = 3 then vv 3 (numM k' n') (numT k' s') else
  vv (fromK (rkE sg (numV k n s) (numV k' n' s'))) (fromN (rkV sg (numV k n s) (numV k' n' s')) (rkE sg (numV k n s) (numV k' n' s'))) (fromT (rkE sg (numV k n s) (numV k' n' s')))
theorem rop_0 (x y : Int) (hx1 : -9223372036854775808 ≤ x) (hx2 : x ≤ 9223372036854775807) (hy1 : -9223372036854775808 ≤ y) (hy2 : y ≤ 9223372036854775807) (w : World) : Calls Tryz.prog 31 #[.int .i64 x, .int .i64 y, .bool false] w fun e w' => e = .returned (.tuple #[.int .i64 (rkV 0 x y), .int .i64 (rkE 0 x y)]) ∧ Below w.heap.size w w' := (refAdd_any x y false hx1 hx2 hy1 hy2 (x + y) rfl w)
theorem rop_1 (x y : Int) (hx1 : -9223372036854775808 ≤ x) (hx2 : x ≤ 9223372036854775807) (hy1 : -9223372036854775808 ≤ y) (hy2 : y ≤ 9223372036854775807) (w : World) : Calls Tryz.prog 31 #[.int .i64 x, .int .i64 y, .bool true] w fun e w' => e = .returned (.tuple #[.int .i64 (rkV 1 x y), .int .i64 (rkE 1 x y)]) ∧ Below w.heap.size w w' := (refAdd_any x y true hx1 hx2 hy1 hy2 (x - y) rfl w)
theorem rop_2 (x y : Int) (hx1 : -9223372036854775808 ≤ x) (hx2 : x ≤ 9223372036854775807) (hy1 : -9223372036854775808 ≤ y) (hy2 : y ≤ 9223372036854775807) (w : World) : Calls Tryz.prog 52 #[.int .i64 x, .int .i64 y] w fun e w' => e = .returned (.tuple #[.int .i64 (rkV 2 x y), .int .i64 (rkE 2 x y)]) ∧ Below w.heap.size w w' := (refMul_any x y hx1 hx2 hy1 hy2 w)
theorem rop_3 (x y : Int) (hx1 : -9223372036854775808 ≤ x) (hx2 : x ≤ 9223372036854775807) (hy1 : -9223372036854775808 ≤ y) (hy2 : y ≤ 9223372036854775807) (w : World) : Calls Tryz.prog 53 #[.int .i64 x, .int .i64 y] w fun e w' => e = .returned (.tuple #[.int .i64 (rkV 3 x y), .int .i64 (rkE 3 x y)]) ∧ Below w.heap.size w w' := by
  by_cases h0 : y = 0
  · subst h0
    exact (refDiv_zero x w).mono fun e w' h => ⟨h.1, by rw [← h.2]; exact Below.refl _ _⟩
  · have e1 : rkV 3 x y = okV (divZ x y) := by unfold rkV; simp [h0]
    have e2 : rkE 3 x y = okE (divZ x y) := by unfold rkE; simp [h0]
    rw [e1, e2]
    exact refDiv_any x y hx1 hx2 hy1 hy2 (by simpa using h0) w
set_option maxRecDepth 100000 in
set_option maxHeartbeats 4000000 in
theorem reckoned_0 (k n : Int) (s : ByteArray) (hk : k = 0 ∨ k = 1 ∨ k = 2 ∨ k = 3) (hs : s.size ≤ 900) (hn1 : -9223372036854775808 ≤ n) (hn2 : n ≤ 9223372036854775807) (k' n' : Int) (s' : ByteArray) (hk' : k' = 0 ∨ k' = 1 ∨ k' = 2 ∨ k' = 3) (hs' : s'.size ≤ 900) (hn1' : -9223372036854775808 ≤ n') (hn2' : n' ≤ 9223372036854775807) (w : World) : Calls Tryz.prog 24 #[.string ⟨#[43]⟩, .agg #[.int .i64 k, .int .i64 n, .string s], .agg #[.int .i64 k', .int .i64 n', .string s']] w fun e w' => e = .returned (rcV 0 k n s k' n' s') ∧ Below w.heap.size w w' := by
  have HNA := Lib.hid (fun W => refNumber_any k n s hk hs W)
  have HNB := Lib.hid (fun W => refNumber_any k' n' s' hk' hs' W)
  obtain ⟨hv1, hv2⟩ := numV_rng k n s hn1 hn2
  obtain ⟨hu1, hu2⟩ := numV_rng k' n' s' hn1' hn2'
  have HOP := Lib.hid (fun W => rop_0 (numV k n s) (numV k' n' s') hv1 hv2 hu1 hu2 W)
  have HR : Hid (rcV 0 k n s k' n' s' = if numK k s = 3 then vv 3 (numM k n) (numT k s) else if numK k' s' = 3 then vv 3 (numM k' n') (numT k' s') else vv (fromK (rkE 0 (numV k n s) (numV k' n' s'))) (fromN (rkV 0 (numV k n s) (numV k' n' s')) (rkE 0 (numV k n s) (numV k' n' s'))) (fromT (rkE 0 (numV k n s) (numV k' n' s')))) := rfl
  generalize rcV 0 k n s k' n' s' = R at HR ⊢
  generalize rkV 0 (numV k n s) (numV k' n' s') = v at HOP HR
  generalize rkE 0 (numV k n s) (numV k' n' s') = f at HOP HR
  generalize numV k n s = d at HNA HOP
  generalize numK k s = a at HNA HR
  generalize numM k n = b at HNA HR
  generalize numT k s = t at HNA HR
  generalize numV k' n' s' = d' at HNB HOP
  generalize numK k' s' = a' at HNB HR
  generalize numM k' n' = b' at HNB HR
  generalize numT k' s' = t' at HNB HR
  clear hv1 hv2 hu1 hu2 hn1 hn2 hs hn1' hn2' hs'
  by_cases h3 : a = 3
  · have e1 : R = vv 3 b t := by rw [HR.out, if_pos h3]
    rw [e1]
    subst h3
    clear e1 HR HOP HNB
    go_enter Tryz.func24, Tryz.ntmps24
    go_wp2_with fail
    refine (HNA.out _).mono ?_
    rintro e w1 ⟨rfl, hb1⟩; obtain ⟨hc_w1, hf_w1, hz_w1⟩ := bcell hb1 (by first | (simp only [World.size_alloc, World.size_setCell, World.size_drew]; rfl) | rfl)
    go_wp2_with fail
    refine bodyPost_ret (v := .agg #[.int .i64 3, .int .i64 b, .string t]) (by simp only [results, Tryz.results24]; go_simp) rfl ⟨rfl, by (repeat' (first | (with_reducible exact Below.refl _ _) | (with_reducible assumption) | (with_reducible refine Below.alloc ?_ ?_ _) | (with_reducible refine bel_drewN ?_ _) | (with_reducible refine Below.drew ?_) | (with_reducible refine Below.setCell ?_ ?_ _) | (with_reducible refine bel_call ‹_› ?_ ?_) | go_size))⟩
  · have h3b : (a == 3) = false := by simpa using h3
    by_cases h4 : a' = 3
    · have e1 : R = vv 3 b' t' := by rw [HR.out, if_neg h3, if_pos h4]
      rw [e1]
      subst h4
      clear e1 h3 HR HOP
      go_enter Tryz.func24, Tryz.ntmps24
      go_wp2_with fail
      refine (HNA.out _).mono ?_
      rintro e w1 ⟨rfl, hb1⟩; obtain ⟨hc_w1, hf_w1, hz_w1⟩ := bcell hb1 (by first | (simp only [World.size_alloc, World.size_setCell, World.size_drew]; rfl) | rfl)
      go_wp2_with fail
      refine (HNB.out _).mono ?_
      rintro e w2 ⟨rfl, hb2⟩; obtain ⟨hc_w2, hf_w2, hz_w2⟩ := bcell hb2 (by first | (simp only [World.size_alloc, World.size_setCell, World.size_drew]; rfl) | rfl)
      go_wp2_with fail
      refine bodyPost_ret (v := .agg #[.int .i64 3, .int .i64 b', .string t']) (by simp only [results, Tryz.results24]; go_simp) rfl ⟨rfl, by (repeat' (first | (with_reducible exact Below.refl _ _) | (with_reducible assumption) | (with_reducible refine Below.alloc ?_ ?_ _) | (with_reducible refine bel_drewN ?_ _) | (with_reducible refine Below.drew ?_) | (with_reducible refine Below.setCell ?_ ?_ _) | (with_reducible refine bel_call ‹_› ?_ ?_) | go_size))⟩
    · have h4b : (a' == 3) = false := by simpa using h4
      have e1 : R = vv (fromK f) (fromN v f) (fromT f) := by rw [HR.out, if_neg h3, if_neg h4]
      rw [e1]
      clear e1 h3 h4 HR
      go_enter Tryz.func24, Tryz.ntmps24
      go_wp2_with fail
      refine (HNA.out _).mono ?_
      rintro e w1 ⟨rfl, hb1⟩; obtain ⟨hc_w1, hf_w1, hz_w1⟩ := bcell hb1 (by first | (simp only [World.size_alloc, World.size_setCell, World.size_drew]; rfl) | rfl)
      go_wp2_with fail
      refine (HNB.out _).mono ?_
      rintro e w2 ⟨rfl, hb2⟩; obtain ⟨hc_w2, hf_w2, hz_w2⟩ := bcell hb2 (by first | (simp only [World.size_alloc, World.size_setCell, World.size_drew]; rfl) | rfl)
      go_wp2_with fail
      refine (HOP.out _).mono ?_
      rintro e w3 ⟨rfl, hb3⟩; obtain ⟨hc_w3, hf_w3, hz_w3⟩ := bcell hb3 (by first | (simp only [World.size_alloc, World.size_setCell, World.size_drew]; rfl) | rfl)
      go_wp2_with fail
      refine (refFrom_any _ _ _).mono ?_
      rintro e w4 ⟨rfl, hb4⟩; obtain ⟨hc_w4, hf_w4, hz_w4⟩ := bcell hb4 (by first | (simp only [World.size_alloc, World.size_setCell, World.size_drew]; rfl) | rfl)
      go_wp2_with fail
      refine bodyPost_ret (v := .agg #[.int .i64 (fromK f), .int .i64 (fromN v f), .string (fromT f)]) (by simp only [results, Tryz.results24]; go_simp) rfl ⟨rfl, by (repeat' (first | (with_reducible exact Below.refl _ _) | (with_reducible assumption) | (with_reducible refine Below.alloc ?_ ?_ _) | (with_reducible refine bel_drewN ?_ _) | (with_reducible refine Below.drew ?_) | (with_reducible refine Below.setCell ?_ ?_ _) | (with_reducible refine bel_call ‹_› ?_ ?_) | go_size))⟩
set_option maxRecDepth 100000 in
set_option maxHeartbeats 4000000 in
theorem reckoned_1 (k n : Int) (s : ByteArray) (hk : k = 0 ∨ k = 1 ∨ k = 2 ∨ k = 3) (hs : s.size ≤ 900) (hn1 : -9223372036854775808 ≤ n) (hn2 : n ≤ 9223372036854775807) (k' n' : Int) (s' : ByteArray) (hk' : k' = 0 ∨ k' = 1 ∨ k' = 2 ∨ k' = 3) (hs' : s'.size ≤ 900) (hn1' : -9223372036854775808 ≤ n') (hn2' : n' ≤ 9223372036854775807) (w : World) : Calls Tryz.prog 24 #[.string ⟨#[45]⟩, .agg #[.int .i64 k, .int .i64 n, .string s], .agg #[.int .i64 k', .int .i64 n', .string s']] w fun e w' => e = .returned (rcV 1 k n s k' n' s') ∧ Below w.heap.size w w' := by
  have HNA := Lib.hid (fun W => refNumber_any k n s hk hs W)
  have HNB := Lib.hid (fun W => refNumber_any k' n' s' hk' hs' W)
  obtain ⟨hv1, hv2⟩ := numV_rng k n s hn1 hn2
  obtain ⟨hu1, hu2⟩ := numV_rng k' n' s' hn1' hn2'
  have HOP := Lib.hid (fun W => rop_1 (numV k n s) (numV k' n' s') hv1 hv2 hu1 hu2 W)
  have HR : Hid (rcV 1 k n s k' n' s' = if numK k s = 3 then vv 3 (numM k n) (numT k s) else if numK k' s' = 3 then vv 3 (numM k' n') (numT k' s') else vv (fromK (rkE 1 (numV k n s) (numV k' n' s'))) (fromN (rkV 1 (numV k n s) (numV k' n' s')) (rkE 1 (numV k n s) (numV k' n' s'))) (fromT (rkE 1 (numV k n s) (numV k' n' s')))) := rfl
  generalize rcV 1 k n s k' n' s' = R at HR ⊢
  generalize rkV 1 (numV k n s) (numV k' n' s') = v at HOP HR
  generalize rkE 1 (numV k n s) (numV k' n' s') = f at HOP HR
  generalize numV k n s = d at HNA HOP
  generalize numK k s = a at HNA HR
  generalize numM k n = b at HNA HR
  generalize numT k s = t at HNA HR
  generalize numV k' n' s' = d' at HNB HOP
  generalize numK k' s' = a' at HNB HR
  generalize numM k' n' = b' at HNB HR
  generalize numT k' s' = t' at HNB HR
  clear hv1 hv2 hu1 hu2 hn1 hn2 hs hn1' hn2' hs'
  by_cases h3 : a = 3
  · have e1 : R = vv 3 b t := by rw [HR.out, if_pos h3]
    rw [e1]
    subst h3
    clear e1 HR HOP HNB
    go_enter Tryz.func24, Tryz.ntmps24
    go_wp2_with fail
    refine (HNA.out _).mono ?_
    rintro e w1 ⟨rfl, hb1⟩; obtain ⟨hc_w1, hf_w1, hz_w1⟩ := bcell hb1 (by first | (simp only [World.size_alloc, World.size_setCell, World.size_drew]; rfl) | rfl)
    go_wp2_with fail
    refine bodyPost_ret (v := .agg #[.int .i64 3, .int .i64 b, .string t]) (by simp only [results, Tryz.results24]; go_simp) rfl ⟨rfl, by (repeat' (first | (with_reducible exact Below.refl _ _) | (with_reducible assumption) | (with_reducible refine Below.alloc ?_ ?_ _) | (with_reducible refine bel_drewN ?_ _) | (with_reducible refine Below.drew ?_) | (with_reducible refine Below.setCell ?_ ?_ _) | (with_reducible refine bel_call ‹_› ?_ ?_) | go_size))⟩
  · have h3b : (a == 3) = false := by simpa using h3
    by_cases h4 : a' = 3
    · have e1 : R = vv 3 b' t' := by rw [HR.out, if_neg h3, if_pos h4]
      rw [e1]
      subst h4
      clear e1 h3 HR HOP
      go_enter Tryz.func24, Tryz.ntmps24
      go_wp2_with fail
      refine (HNA.out _).mono ?_
      rintro e w1 ⟨rfl, hb1⟩; obtain ⟨hc_w1, hf_w1, hz_w1⟩ := bcell hb1 (by first | (simp only [World.size_alloc, World.size_setCell, World.size_drew]; rfl) | rfl)
      go_wp2_with fail
      refine (HNB.out _).mono ?_
      rintro e w2 ⟨rfl, hb2⟩; obtain ⟨hc_w2, hf_w2, hz_w2⟩ := bcell hb2 (by first | (simp only [World.size_alloc, World.size_setCell, World.size_drew]; rfl) | rfl)
      go_wp2_with fail
      refine bodyPost_ret (v := .agg #[.int .i64 3, .int .i64 b', .string t']) (by simp only [results, Tryz.results24]; go_simp) rfl ⟨rfl, by (repeat' (first | (with_reducible exact Below.refl _ _) | (with_reducible assumption) | (with_reducible refine Below.alloc ?_ ?_ _) | (with_reducible refine bel_drewN ?_ _) | (with_reducible refine Below.drew ?_) | (with_reducible refine Below.setCell ?_ ?_ _) | (with_reducible refine bel_call ‹_› ?_ ?_) | go_size))⟩
    · have h4b : (a' == 3) = false := by simpa using h4
      have e1 : R = vv (fromK f) (fromN v f) (fromT f) := by rw [HR.out, if_neg h3, if_neg h4]
      rw [e1]
      clear e1 h3 h4 HR
      go_enter Tryz.func24, Tryz.ntmps24
      go_wp2_with fail
      refine (HNA.out _).mono ?_
      rintro e w1 ⟨rfl, hb1⟩; obtain ⟨hc_w1, hf_w1, hz_w1⟩ := bcell hb1 (by first | (simp only [World.size_alloc, World.size_setCell, World.size_drew]; rfl) | rfl)
      go_wp2_with fail
      refine (HNB.out _).mono ?_
      rintro e w2 ⟨rfl, hb2⟩; obtain ⟨hc_w2, hf_w2, hz_w2⟩ := bcell hb2 (by first | (simp only [World.size_alloc, World.size_setCell, World.size_drew]; rfl) | rfl)
      go_wp2_with fail
      refine (HOP.out _).mono ?_
      rintro e w3 ⟨rfl, hb3⟩; obtain ⟨hc_w3, hf_w3, hz_w3⟩ := bcell hb3 (by first | (simp only [World.size_alloc, World.size_setCell, World.size_drew]; rfl) | rfl)
      go_wp2_with fail
      refine (refFrom_any _ _ _).mono ?_
      rintro e w4 ⟨rfl, hb4⟩; obtain ⟨hc_w4, hf_w4, hz_w4⟩ := bcell hb4 (by first | (simp only [World.size_alloc, World.size_setCell, World.size_drew]; rfl) | rfl)
      go_wp2_with fail
      refine bodyPost_ret (v := .agg #[.int .i64 (fromK f), .int .i64 (fromN v f), .string (fromT f)]) (by simp only [results, Tryz.results24]; go_simp) rfl ⟨rfl, by (repeat' (first | (with_reducible exact Below.refl _ _) | (with_reducible assumption) | (with_reducible refine Below.alloc ?_ ?_ _) | (with_reducible refine bel_drewN ?_ _) | (with_reducible refine Below.drew ?_) | (with_reducible refine Below.setCell ?_ ?_ _) | (with_reducible refine bel_call ‹_› ?_ ?_) | go_size))⟩
set_option maxRecDepth 100000 in
set_option maxHeartbeats 4000000 in
theorem reckoned_2 (k n : Int) (s : ByteArray) (hk : k = 0 ∨ k = 1 ∨ k = 2 ∨ k = 3) (hs : s.size ≤ 900) (hn1 : -9223372036854775808 ≤ n) (hn2 : n ≤ 9223372036854775807) (k' n' : Int) (s' : ByteArray) (hk' : k' = 0 ∨ k' = 1 ∨ k' = 2 ∨ k' = 3) (hs' : s'.size ≤ 900) (hn1' : -9223372036854775808 ≤ n') (hn2' : n' ≤ 9223372036854775807) (w : World) : Calls Tryz.prog 24 #[.string ⟨#[42]⟩, .agg #[.int .i64 k, .int .i64 n, .string s], .agg #[.int .i64 k', .int .i64 n', .string s']] w fun e w' => e = .returned (rcV 2 k n s k' n' s') ∧ Below w.heap.size w w' := by
  have HNA := Lib.hid (fun W => refNumber_any k n s hk hs W)
  have HNB := Lib.hid (fun W => refNumber_any k' n' s' hk' hs' W)
  obtain ⟨hv1, hv2⟩ := numV_rng k n s hn1 hn2
  obtain ⟨hu1, hu2⟩ := numV_rng k' n' s' hn1' hn2'
  have HOP := Lib.hid (fun W => rop_2 (numV k n s) (numV k' n' s') hv1 hv2 hu1 hu2 W)
  have HR : Hid (rcV 2 k n s k' n' s' = if numK k s = 3 then vv 3 (numM k n) (numT k s) else if numK k' s' = 3 then vv 3 (numM k' n') (numT k' s') else vv (fromK (rkE 2 (numV k n s) (numV k' n' s'))) (fromN (rkV 2 (numV k n s) (numV k' n' s')) (rkE 2 (numV k n s) (numV k' n' s'))) (fromT (rkE 2 (numV k n s) (numV k' n' s')))) := rfl
  generalize rcV 2 k n s k' n' s' = R at HR ⊢
  generalize rkV 2 (numV k n s) (numV k' n' s') = v at HOP HR
  generalize rkE 2 (numV k n s) (numV k' n' s') = f at HOP HR
  generalize numV k n s = d at HNA HOP
  generalize numK k s = a at HNA HR
  generalize numM k n = b at HNA HR
  generalize numT k s = t at HNA HR
  generalize numV k' n' s' = d' at HNB HOP
  generalize numK k' s' = a' at HNB HR
  generalize numM k' n' = b' at HNB HR
  generalize numT k' s' = t' at HNB HR
  clear hv1 hv2 hu1 hu2 hn1 hn2 hs hn1' hn2' hs'
  by_cases h3 : a = 3
  · have e1 : R = vv 3 b t := by rw [HR.out, if_pos h3]
    rw [e1]
    subst h3
    clear e1 HR HOP HNB
    go_enter Tryz.func24, Tryz.ntmps24
    go_wp2_with fail
    refine (HNA.out _).mono ?_
    rintro e w1 ⟨rfl, hb1⟩; obtain ⟨hc_w1, hf_w1, hz_w1⟩ := bcell hb1 (by first | (simp only [World.size_alloc, World.size_setCell, World.size_drew]; rfl) | rfl)
    go_wp2_with fail
    refine bodyPost_ret (v := .agg #[.int .i64 3, .int .i64 b, .string t]) (by simp only [results, Tryz.results24]; go_simp) rfl ⟨rfl, by (repeat' (first | (with_reducible exact Below.refl _ _) | (with_reducible assumption) | (with_reducible refine Below.alloc ?_ ?_ _) | (with_reducible refine bel_drewN ?_ _) | (with_reducible refine Below.drew ?_) | (with_reducible refine Below.setCell ?_ ?_ _) | (with_reducible refine bel_call ‹_› ?_ ?_) | go_size))⟩
  · have h3b : (a == 3) = false := by simpa using h3
    by_cases h4 : a' = 3
    · have e1 : R = vv 3 b' t' := by rw [HR.out, if_neg h3, if_pos h4]
      rw [e1]
      subst h4
      clear e1 h3 HR HOP
      go_enter Tryz.func24, Tryz.ntmps24
      go_wp2_with fail
      refine (HNA.out _).mono ?_
      rintro e w1 ⟨rfl, hb1⟩; obtain ⟨hc_w1, hf_w1, hz_w1⟩ := bcell hb1 (by first | (simp only [World.size_alloc, World.size_setCell, World.size_drew]; rfl) | rfl)
      go_wp2_with fail
      refine (HNB.out _).mono ?_
      rintro e w2 ⟨rfl, hb2⟩; obtain ⟨hc_w2, hf_w2, hz_w2⟩ := bcell hb2 (by first | (simp only [World.size_alloc, World.size_setCell, World.size_drew]; rfl) | rfl)
      go_wp2_with fail
      refine bodyPost_ret (v := .agg #[.int .i64 3, .int .i64 b', .string t']) (by simp only [results, Tryz.results24]; go_simp) rfl ⟨rfl, by (repeat' (first | (with_reducible exact Below.refl _ _) | (with_reducible assumption) | (with_reducible refine Below.alloc ?_ ?_ _) | (with_reducible refine bel_drewN ?_ _) | (with_reducible refine Below.drew ?_) | (with_reducible refine Below.setCell ?_ ?_ _) | (with_reducible refine bel_call ‹_› ?_ ?_) | go_size))⟩
    · have h4b : (a' == 3) = false := by simpa using h4
      have e1 : R = vv (fromK f) (fromN v f) (fromT f) := by rw [HR.out, if_neg h3, if_neg h4]
      rw [e1]
      clear e1 h3 h4 HR
      go_enter Tryz.func24, Tryz.ntmps24
      go_wp2_with fail
      refine (HNA.out _).mono ?_
      rintro e w1 ⟨rfl, hb1⟩; obtain ⟨hc_w1, hf_w1, hz_w1⟩ := bcell hb1 (by first | (simp only [World.size_alloc, World.size_setCell, World.size_drew]; rfl) | rfl)
      go_wp2_with fail
      refine (HNB.out _).mono ?_
      rintro e w2 ⟨rfl, hb2⟩; obtain ⟨hc_w2, hf_w2, hz_w2⟩ := bcell hb2 (by first | (simp only [World.size_alloc, World.size_setCell, World.size_drew]; rfl) | rfl)
      go_wp2_with fail
      refine (HOP.out _).mono ?_
      rintro e w3 ⟨rfl, hb3⟩; obtain ⟨hc_w3, hf_w3, hz_w3⟩ := bcell hb3 (by first | (simp only [World.size_alloc, World.size_setCell, World.size_drew]; rfl) | rfl)
      go_wp2_with fail
      refine (refFrom_any _ _ _).mono ?_
      rintro e w4 ⟨rfl, hb4⟩; obtain ⟨hc_w4, hf_w4, hz_w4⟩ := bcell hb4 (by first | (simp only [World.size_alloc, World.size_setCell, World.size_drew]; rfl) | rfl)
      go_wp2_with fail
      refine bodyPost_ret (v := .agg #[.int .i64 (fromK f), .int .i64 (fromN v f), .string (fromT f)]) (by simp only [results, Tryz.results24]; go_simp) rfl ⟨rfl, by (repeat' (first | (with_reducible exact Below.refl _ _) | (with_reducible assumption) | (with_reducible refine Below.alloc ?_ ?_ _) | (with_reducible refine bel_drewN ?_ _) | (with_reducible refine Below.drew ?_) | (with_reducible refine Below.setCell ?_ ?_ _) | (with_reducible refine bel_call ‹_› ?_ ?_) | go_size))⟩
set_option maxRecDepth 100000 in
set_option maxHeartbeats 4000000 in
theorem reckoned_3 (k n : Int) (s : ByteArray) (hk : k = 0 ∨ k = 1 ∨ k = 2 ∨ k = 3) (hs : s.size ≤ 900) (hn1 : -9223372036854775808 ≤ n) (hn2 : n ≤ 9223372036854775807) (k' n' : Int) (s' : ByteArray) (hk' : k' = 0 ∨ k' = 1 ∨ k' = 2 ∨ k' = 3) (hs' : s'.size ≤ 900) (hn1' : -9223372036854775808 ≤ n') (hn2' : n' ≤ 9223372036854775807) (w : World) : Calls Tryz.prog 24 #[.string ⟨#[47]⟩, .agg #[.int .i64 k, .int .i64 n, .string s], .agg #[.int .i64 k', .int .i64 n', .string s']] w fun e w' => e = .returned (rcV 3 k n s k' n' s') ∧ Below w.heap.size w w' := by
  have HNA := Lib.hid (fun W => refNumber_any k n s hk hs W)
  have HNB := Lib.hid (fun W => refNumber_any k' n' s' hk' hs' W)
  obtain ⟨hv1, hv2⟩ := numV_rng k n s hn1 hn2
  obtain ⟨hu1, hu2⟩ := numV_rng k' n' s' hn1' hn2'
  have HOP := Lib.hid (fun W => rop_3 (numV k n s) (numV k' n' s') hv1 hv2 hu1 hu2 W)
  have HR : Hid (rcV 3 k n s k' n' s' = if numK k s = 3 then vv 3 (numM k n) (numT k s) else if numK k' s' = 3 then vv 3 (numM k' n') (numT k' s') else vv (fromK (rkE 3 (numV k n s) (numV k' n' s'))) (fromN (rkV 3 (numV k n s) (numV k' n' s')) (rkE 3 (numV k n s) (numV k' n' s'))) (fromT (rkE 3 (numV k n s) (numV k' n' s')))) := rfl
  generalize rcV 3 k n s k' n' s' = R at HR ⊢
  generalize rkV 3 (numV k n s) (numV k' n' s') = v at HOP HR
  generalize rkE 3 (numV k n s) (numV k' n' s') = f at HOP HR
  generalize numV k n s = d at HNA HOP
  generalize numK k s = a at HNA HR
  generalize numM k n = b at HNA HR
  generalize numT k s = t at HNA HR
  generalize numV k' n' s' = d' at HNB HOP
  generalize numK k' s' = a' at HNB HR
  generalize numM k' n' = b' at HNB HR
  generalize numT k' s' = t' at HNB HR
  clear hv1 hv2 hu1 hu2 hn1 hn2 hs hn1' hn2' hs'
  by_cases h3 : a = 3
  · have e1 : R = vv 3 b t := by rw [HR.out, if_pos h3]
    rw [e1]
    subst h3
    clear e1 HR HOP HNB
    go_enter Tryz.func24, Tryz.ntmps24
    go_wp2_with fail
    refine (HNA.out _).mono ?_
    rintro e w1 ⟨rfl, hb1⟩; obtain ⟨hc_w1, hf_w1, hz_w1⟩ := bcell hb1 (by first | (simp only [World.size_alloc, World.size_setCell, World.size_drew]; rfl) | rfl)
    go_wp2_with fail
    refine bodyPost_ret (v := .agg #[.int .i64 3, .int .i64 b, .string t]) (by simp only [results, Tryz.results24]; go_simp) rfl ⟨rfl, by (repeat' (first | (with_reducible exact Below.refl _ _) | (with_reducible assumption) | (with_reducible refine Below.alloc ?_ ?_ _) | (with_reducible refine bel_drewN ?_ _) | (with_reducible refine Below.drew ?_) | (with_reducible refine Below.setCell ?_ ?_ _) | (with_reducible refine bel_call ‹_› ?_ ?_) | go_size))⟩
  · have h3b : (a == 3) = false := by simpa using h3
    by_cases h4 : a' = 3
    · have e1 : R = vv 3 b' t' := by rw [HR.out, if_neg h3, if_pos h4]
      rw [e1]
      subst h4
      clear e1 h3 HR HOP
      go_enter Tryz.func24, Tryz.ntmps24
      go_wp2_with fail
      refine (HNA.out _).mono ?_
      rintro e w1 ⟨rfl, hb1⟩; obtain ⟨hc_w1, hf_w1, hz_w1⟩ := bcell hb1 (by first | (simp only [World.size_alloc, World.size_setCell, World.size_drew]; rfl) | rfl)
      go_wp2_with fail
      refine (HNB.out _).mono ?_
      rintro e w2 ⟨rfl, hb2⟩; obtain ⟨hc_w2, hf_w2, hz_w2⟩ := bcell hb2 (by first | (simp only [World.size_alloc, World.size_setCell, World.size_drew]; rfl) | rfl)
      go_wp2_with fail
      refine bodyPost_ret (v := .agg #[.int .i64 3, .int .i64 b', .string t']) (by simp only [results, Tryz.results24]; go_simp) rfl ⟨rfl, by (repeat' (first | (with_reducible exact Below.refl _ _) | (with_reducible assumption) | (with_reducible refine Below.alloc ?_ ?_ _) | (with_reducible refine bel_drewN ?_ _) | (with_reducible refine Below.drew ?_) | (with_reducible refine Below.setCell ?_ ?_ _) | (with_reducible refine bel_call ‹_› ?_ ?_) | go_size))⟩
    · have h4b : (a' == 3) = false := by simpa using h4
      have e1 : R = vv (fromK f) (fromN v f) (fromT f) := by rw [HR.out, if_neg h3, if_neg h4]
      rw [e1]
      clear e1 h3 h4 HR
      go_enter Tryz.func24, Tryz.ntmps24
      go_wp2_with fail
      refine (HNA.out _).mono ?_
      rintro e w1 ⟨rfl, hb1⟩; obtain ⟨hc_w1, hf_w1, hz_w1⟩ := bcell hb1 (by first | (simp only [World.size_alloc, World.size_setCell, World.size_drew]; rfl) | rfl)
      go_wp2_with fail
      refine (HNB.out _).mono ?_
      rintro e w2 ⟨rfl, hb2⟩; obtain ⟨hc_w2, hf_w2, hz_w2⟩ := bcell hb2 (by first | (simp only [World.size_alloc, World.size_setCell, World.size_drew]; rfl) | rfl)
      go_wp2_with fail
      refine (HOP.out _).mono ?_
      rintro e w3 ⟨rfl, hb3⟩; obtain ⟨hc_w3, hf_w3, hz_w3⟩ := bcell hb3 (by first | (simp only [World.size_alloc, World.size_setCell, World.size_drew]; rfl) | rfl)
      go_wp2_with fail
      refine (refFrom_any _ _ _).mono ?_
      rintro e w4 ⟨rfl, hb4⟩; obtain ⟨hc_w4, hf_w4, hz_w4⟩ := bcell hb4 (by first | (simp only [World.size_alloc, World.size_setCell, World.size_drew]; rfl) | rfl)
      go_wp2_with fail
      refine bodyPost_ret (v := .agg #[.int .i64 (fromK f), .int .i64 (fromN v f), .string (fromT f)]) (by simp only [results, Tryz.results24]; go_simp) rfl ⟨rfl, by (repeat' (first | (with_reducible exact Below.refl _ _) | (with_reducible assumption) | (with_reducible refine Below.alloc ?_ ?_ _) | (with_reducible refine bel_drewN ?_ _) | (with_reducible refine Below.drew ?_) | (with_reducible refine Below.setCell ?_ ?_ _) | (with_reducible refine bel_call ‹_› ?_ ?_) | go_size))⟩
end
section
open Go.RowKit Go.Joins

theorem shw_len (k n : Int) (s : ByteArray) (hs : s.size ≤ 900) (hn1 : -9223372036854775808 ≤ n) (hn2 : n ≤ 9223372036854775807) : (shwL k n s).length ≤ 900 := by
  unfold shwL
  split
  · have := txt_len n hn1 hn2; omega
  · rw [← Lib.size_eq]; exact hs
abbrev shB (k n : Int) (s : ByteArray) : ByteArray := ⟨(shwL k n s).toArray⟩
theorem shB_size (k n : Int) (s : ByteArray) (hs : s.size ≤ 900) (hn1 : -9223372036854775808 ≤ n) (hn2 : n ≤ 9223372036854775807) : (shB k n s).size ≤ 900 := by
  have h := shw_len k n s hs hn1 hn2
  show (shwL k n s).toArray.size ≤ 900
  simpa using h
theorem string_3 (n : Int) (s : ByteArray) (hn1 : -9223372036854775808 ≤ n) (hn2 : n ≤ 9223372036854775807) (w : World) : Calls Tryz.prog 44 #[vv 3 n s] w fun e w' => e = .returned (.tuple #[.string ⟨#[]⟩, vv 3 n s]) ∧ Below w.heap.size w w' := string_any 3 n s hn1 hn2 w
theorem string_n (k n : Int) (s : ByteArray) (h3 : k ≠ 3) (hn1 : -9223372036854775808 ≤ n) (hn2 : n ≤ 9223372036854775807) (w : World) : Calls Tryz.prog 44 #[vv k n s] w fun e w' => e = .returned (.tuple #[.string (shB k n s), vv 0 0 ⟨#[]⟩]) ∧ Below w.heap.size w w' := by
  have e1 : strL k n s = shwL k n s := if_neg h3
  have e2 : strK k = 0 := if_neg h3
  have e3 : strM k n = 0 := if_neg h3
  have e4 : strT k s = ⟨#[]⟩ := if_neg h3
  have := string_any k n s hn1 hn2 w
  rw [e1, e2, e3, e4] at this
  exact this
/-- Two values as one text. -/
def jnV (k n : Int) (s : ByteArray) (k' n' : Int) (s' : ByteArray) : Value := if k = 3 then vv 3 n s else if 256 < (shB k n s).size then vv 3 0 ⟨#[35, 86, 65, 76, 85, 69, 33]⟩ else if k' = 3 then vv 3 n' s' else if 256 < (shB k n s).size + (shB k' n' s').size then vv 3 0 ⟨#[35, 86, 65, 76, 85, 69, 33]⟩ else vv 2 0 (shB k n s ++ shB k' n' s')
set_option maxRecDepth 100000 in
set_option maxHeartbeats 4000000 in
theorem join_any (A : Nat) (k n : Int) (s : ByteArray) (hk : k = 0 ∨ k = 1 ∨ k = 2 ∨ k = 3) (hs : s.size ≤ 900) (hn1 : -9223372036854775808 ≤ n) (hn2 : n ≤ 9223372036854775807) (k' n' : Int) (s' : ByteArray) (hk' : k' = 0 ∨ k' = 1 ∨ k' = 2 ∨ k' = 3) (hs' : s'.size ≤ 900) (hn1' : -9223372036854775808 ≤ n') (hn2' : n' ≤ 9223372036854775807) (w : World) (hA : w.heap[A]? = some (.cells #[.int .i64 k, .int .i64 n, .string s, .int .i64 k', .int .i64 n', .string s'] 28 (0, 0))) : Calls Tryz.prog 18 #[.slice (some ⟨A, 0, none⟩) 2 2] w fun e w' => e = .returned (jnV k n s k' n' s') ∧ Below w.heap.size w w' := by
  have c0 : w.cell? ⟨A, 0, none⟩ = some (.int .i64 k) := by rw [cell_of_block hA]; rfl
  have c1 : w.cell? ⟨A, 1, none⟩ = some (.int .i64 n) := by rw [cell_of_block hA]; rfl
  have c2 : w.cell? ⟨A, 2, none⟩ = some (.string s) := by rw [cell_of_block hA]; rfl
  have c3 : w.cell? ⟨A, 3, none⟩ = some (.int .i64 k') := by rw [cell_of_block hA]; rfl
  have c4 : w.cell? ⟨A, 4, none⟩ = some (.int .i64 n') := by rw [cell_of_block hA]; rfl
  have c5 : w.cell? ⟨A, 5, none⟩ = some (.string s') := by rw [cell_of_block hA]; rfl
  have hlt : A < w.heap.size := by
    rcases Nat.lt_or_ge A w.heap.size with h' | h'
    · exact h'
    · rw [Array.getElem?_eq_none h'] at hA; cases hA
  have hz1 := shB_size k n s hs hn1 hn2
  have hz2 := shB_size k' n' s' hs' hn1' hn2'
  clear hA hs hs'
  by_cases h3 : k = 3
  · have e1 : jnV k n s k' n' s' = vv 3 n s := if_pos h3
    rw [e1]
    subst h3
    clear e1 hz1 hz2 hk hk'
    go_enter Tryz.func18, Tryz.ntmps18
    go_wp2_with fail
    refine wp_loop_rounds 3 ?_
    rw [rounds_succ]
    go_wp2_with fail
    refine (string_3 n s hn1 hn2 _).mono ?_
    rintro e w1 ⟨rfl, hbw1⟩; obtain ⟨hc_w1, hf_w1, hz_w1⟩ := bcell hbw1 (by first | (simp only [World.size_alloc, World.size_setCell, World.size_drew]; rfl) | rfl)
    go_wp2_with fail
    refine (Gau.failed_any _ _ _ _).mono ?_
    rintro e w1f ⟨rfl, hbw1f⟩; obtain ⟨hc_w1f, hf_w1f, hz_w1f⟩ := bcell hbw1f (by first | (simp only [World.size_alloc, World.size_setCell, World.size_drew]; rfl) | rfl)
    go_wp2_with fail
    refine bodyPost_ret (v := .agg #[.int .i64 3, .int .i64 n, .string s]) (by simp only [results, Tryz.results18]; go_simp) rfl ⟨rfl, by (repeat' (first | (with_reducible exact Below.refl _ _) | (with_reducible assumption) | (with_reducible refine Below.alloc ?_ ?_ _) | (with_reducible refine bel_drewN ?_ _) | (with_reducible refine Below.drew ?_) | (with_reducible refine Below.setCell ?_ ?_ _) | (with_reducible refine bel_call ‹_› ?_ ?_) | go_size))⟩
  · have H1 := Lib.hid (fun W => string_n k n s h3 hn1 hn2 W)
    try rw [show (⟨(shwL k n s).toArray⟩ : ByteArray) = shB k n s from rfl] at H1
    have h3b : (k == 3) = false := by simpa using h3
    have ej : Hid (jnV k n s k' n' s' = if 256 < (shB k n s).size then vv 3 0 ⟨#[35, 86, 65, 76, 85, 69, 33]⟩ else if k' = 3 then vv 3 n' s' else if 256 < (shB k n s).size + (shB k' n' s').size then vv 3 0 ⟨#[35, 86, 65, 76, 85, 69, 33]⟩ else vv 2 0 (shB k n s ++ shB k' n' s')) := if_neg h3
    have Hw1 := H1
    clear H1
    generalize jnV k n s k' n' s' = R at ej ⊢
    generalize shB k n s = S1 at Hw1 ej hz1
    have hop1 : ∀ W, (Op.stringOp .add ⟨#[]⟩ S1).run Tryz.prog W = .ok (.string S1) W := fun W => by
      rw [run_string_add_sum W ⟨#[]⟩ S1 (by have hz : (⟨#[]⟩ : ByteArray).size = 0 := rfl; omega)]
      rw [show (⟨#[]⟩ : ByteArray) ++ S1 = S1 from by apply ByteArray.ext; rw [ByteArray.data_append]; simp]
    have hz0 : (⟨#[]⟩ : ByteArray).size = 0 := rfl
    by_cases h5 : 256 < S1.size
    · have e1 : R = vv 3 0 ⟨#[35, 86, 65, 76, 85, 69, 33]⟩ := by rw [ej.out, if_pos h5]
      rw [e1]
      have h5i : (256 : Int) < (S1.size : Int) := by omega
      clear e1 ej hz2 hk hk' h3 hn1 hn2 hn1' hn2'
      go_enter Tryz.func18, Tryz.ntmps18
      go_wp2_with fail
      refine wp_loop_rounds 3 ?_
      rw [rounds_succ]
      go_wp2_with fail
      refine (Hw1.out _).mono ?_
      rintro e w1 ⟨rfl, hbw1⟩; obtain ⟨hc_w1, hf_w1, hz_w1⟩ := bcell hbw1 (by first | (simp only [World.size_alloc, World.size_setCell, World.size_drew]; rfl) | rfl)
      go_wp2_with fail
      refine (Gau.failed_any _ _ _ _).mono ?_
      rintro e w1f ⟨rfl, hbw1f⟩; obtain ⟨hc_w1f, hf_w1f, hz_w1f⟩ := bcell hbw1f (by first | (simp only [World.size_alloc, World.size_setCell, World.size_drew]; rfl) | rfl)
      go_wp2_with fail
      refine (fail_any _ _).mono ?_
      rintro e w2 ⟨rfl, hbw2⟩; obtain ⟨hc_w2, hf_w2, hz_w2⟩ := bcell hbw2 (by first | (simp only [World.size_alloc, World.size_setCell, World.size_drew]; rfl) | rfl)
      go_wp2_with fail
      refine bodyPost_ret (v := .agg #[.int .i64 3, .int .i64 0, .string ⟨#[35, 86, 65, 76, 85, 69, 33]⟩]) (by simp only [results, Tryz.results18]; go_simp) rfl ⟨rfl, by (repeat' (first | (with_reducible exact Below.refl _ _) | (with_reducible assumption) | (with_reducible refine Below.alloc ?_ ?_ _) | (with_reducible refine bel_drewN ?_ _) | (with_reducible refine Below.drew ?_) | (with_reducible refine Below.setCell ?_ ?_ _) | (with_reducible refine bel_call ‹_› ?_ ?_) | go_size))⟩
    · have h5i : ¬ (256 : Int) < (S1.size : Int) := by omega
      by_cases h4 : k' = 3
      · have e1 : R = vv 3 n' s' := by rw [ej.out, if_neg h5, if_pos h4]
        rw [e1]
        subst h4
        clear e1 ej hz2 hk hk' h3 hn1 hn2
        go_enter Tryz.func18, Tryz.ntmps18
        go_wp2_with fail
        refine wp_loop_rounds 3 ?_
        rw [rounds_succ]
        go_wp2_with fail
        refine (Hw1.out _).mono ?_
        rintro e w1 ⟨rfl, hbw1⟩; obtain ⟨hc_w1, hf_w1, hz_w1⟩ := bcell hbw1 (by first | (simp only [World.size_alloc, World.size_setCell, World.size_drew]; rfl) | rfl)
        go_wp2_with fail
        refine (Gau.failed_any _ _ _ _).mono ?_
        rintro e w1f ⟨rfl, hbw1f⟩; obtain ⟨hc_w1f, hf_w1f, hz_w1f⟩ := bcell hbw1f (by first | (simp only [World.size_alloc, World.size_setCell, World.size_drew]; rfl) | rfl)
        go_wp2_with fail
        rw [rounds_succ]
        go_wp2_with fail
        refine (string_3 n' s' hn1' hn2' _).mono ?_
        rintro e w2 ⟨rfl, hbw2⟩; obtain ⟨hc_w2, hf_w2, hz_w2⟩ := bcell hbw2 (by first | (simp only [World.size_alloc, World.size_setCell, World.size_drew]; rfl) | rfl)
        go_wp2_with fail
        refine (Gau.failed_any _ _ _ _).mono ?_
        rintro e w2f ⟨rfl, hbw2f⟩; obtain ⟨hc_w2f, hf_w2f, hz_w2f⟩ := bcell hbw2f (by first | (simp only [World.size_alloc, World.size_setCell, World.size_drew]; rfl) | rfl)
        go_wp2_with fail
        refine bodyPost_ret (v := .agg #[.int .i64 3, .int .i64 n', .string s']) (by simp only [results, Tryz.results18]; go_simp) rfl ⟨rfl, by (repeat' (first | (with_reducible exact Below.refl _ _) | (with_reducible assumption) | (with_reducible refine Below.alloc ?_ ?_ _) | (with_reducible refine bel_drewN ?_ _) | (with_reducible refine Below.drew ?_) | (with_reducible refine Below.setCell ?_ ?_ _) | (with_reducible refine bel_call ‹_› ?_ ?_) | go_size))⟩
      · have Hw2 := Lib.hid (fun W => string_n k' n' s' h4 hn1' hn2' W)
        try rw [show (⟨(shwL k' n' s').toArray⟩ : ByteArray) = shB k' n' s' from rfl] at Hw2
        have h4b : (k' == 3) = false := by simpa using h4
        replace ej : Hid (R = if 256 < S1.size + (shB k' n' s').size then vv 3 0 ⟨#[35, 86, 65, 76, 85, 69, 33]⟩ else vv 2 0 (S1 ++ shB k' n' s')) := by unfold Hid; rw [ej.out, if_neg h5, if_neg h4]
        generalize shB k' n' s' = S2 at Hw2 ej hz2
        have hop2 : ∀ W, (Op.stringOp .add S1 S2).run Tryz.prog W = .ok (.string (S1 ++ S2)) W := fun W => run_string_add_sum W S1 S2 (by omega)
        have hsz : (S1 ++ S2).size = S1.size + S2.size := ByteArray.size_append
        by_cases h6 : 256 < S1.size + S2.size
        · have e1 : R = vv 3 0 ⟨#[35, 86, 65, 76, 85, 69, 33]⟩ := by rw [ej.out, if_pos h6]
          rw [e1]
          have h6i : (256 : Int) < (S1.size : Int) + (S2.size : Int) := by omega
          clear e1 ej hk hk' h3 h4 hn1 hn2 hn1' hn2'
          go_enter Tryz.func18, Tryz.ntmps18
          go_wp2_with fail
          refine wp_loop_rounds 3 ?_
          rw [rounds_succ]
          go_wp2_with fail
          refine (Hw1.out _).mono ?_
          rintro e w1 ⟨rfl, hbw1⟩; obtain ⟨hc_w1, hf_w1, hz_w1⟩ := bcell hbw1 (by first | (simp only [World.size_alloc, World.size_setCell, World.size_drew]; rfl) | rfl)
          go_wp2_with fail
          refine (Gau.failed_any _ _ _ _).mono ?_
          rintro e w1f ⟨rfl, hbw1f⟩; obtain ⟨hc_w1f, hf_w1f, hz_w1f⟩ := bcell hbw1f (by first | (simp only [World.size_alloc, World.size_setCell, World.size_drew]; rfl) | rfl)
          go_wp2_with fail
          rw [rounds_succ]
          go_wp2_with fail
          refine (Hw2.out _).mono ?_
          rintro e w2 ⟨rfl, hbw2⟩; obtain ⟨hc_w2, hf_w2, hz_w2⟩ := bcell hbw2 (by first | (simp only [World.size_alloc, World.size_setCell, World.size_drew]; rfl) | rfl)
          go_wp2_with fail
          refine (Gau.failed_any _ _ _ _).mono ?_
          rintro e w2f ⟨rfl, hbw2f⟩; obtain ⟨hc_w2f, hf_w2f, hz_w2f⟩ := bcell hbw2f (by first | (simp only [World.size_alloc, World.size_setCell, World.size_drew]; rfl) | rfl)
          go_wp2_with fail
          refine (fail_any _ _).mono ?_
          rintro e w3 ⟨rfl, hbw3⟩; obtain ⟨hc_w3, hf_w3, hz_w3⟩ := bcell hbw3 (by first | (simp only [World.size_alloc, World.size_setCell, World.size_drew]; rfl) | rfl)
          go_wp2_with fail
          refine bodyPost_ret (v := .agg #[.int .i64 3, .int .i64 0, .string ⟨#[35, 86, 65, 76, 85, 69, 33]⟩]) (by simp only [results, Tryz.results18]; go_simp) rfl ⟨rfl, by (repeat' (first | (with_reducible exact Below.refl _ _) | (with_reducible assumption) | (with_reducible refine Below.alloc ?_ ?_ _) | (with_reducible refine bel_drewN ?_ _) | (with_reducible refine Below.drew ?_) | (with_reducible refine Below.setCell ?_ ?_ _) | (with_reducible refine bel_call ‹_› ?_ ?_) | go_size))⟩
        · have e1 : R = vv 2 0 (S1 ++ S2) := by rw [ej.out, if_neg h6]
          rw [e1]
          have h6i : ¬ (256 : Int) < (S1.size : Int) + (S2.size : Int) := by omega
          clear e1 ej hk hk' h3 h4 hn1 hn2 hn1' hn2'
          go_enter Tryz.func18, Tryz.ntmps18
          go_wp2_with fail
          refine wp_loop_rounds 3 ?_
          rw [rounds_succ]
          go_wp2_with fail
          refine (Hw1.out _).mono ?_
          rintro e w1 ⟨rfl, hbw1⟩; obtain ⟨hc_w1, hf_w1, hz_w1⟩ := bcell hbw1 (by first | (simp only [World.size_alloc, World.size_setCell, World.size_drew]; rfl) | rfl)
          go_wp2_with fail
          refine (Gau.failed_any _ _ _ _).mono ?_
          rintro e w1f ⟨rfl, hbw1f⟩; obtain ⟨hc_w1f, hf_w1f, hz_w1f⟩ := bcell hbw1f (by first | (simp only [World.size_alloc, World.size_setCell, World.size_drew]; rfl) | rfl)
          go_wp2_with fail
          rw [rounds_succ]
          go_wp2_with fail
          refine (Hw2.out _).mono ?_
          rintro e w2 ⟨rfl, hbw2⟩; obtain ⟨hc_w2, hf_w2, hz_w2⟩ := bcell hbw2 (by first | (simp only [World.size_alloc, World.size_setCell, World.size_drew]; rfl) | rfl)
          go_wp2_with fail
          refine (Gau.failed_any _ _ _ _).mono ?_
          rintro e w2f ⟨rfl, hbw2f⟩; obtain ⟨hc_w2f, hf_w2f, hz_w2f⟩ := bcell hbw2f (by first | (simp only [World.size_alloc, World.size_setCell, World.size_drew]; rfl) | rfl)
          go_wp2_with fail
          rw [rounds_succ]
          go_wp2_with fail
          refine (str_any _ _).mono ?_
          rintro e w3 ⟨rfl, hbw3⟩; obtain ⟨hc_w3, hf_w3, hz_w3⟩ := bcell hbw3 (by first | (simp only [World.size_alloc, World.size_setCell, World.size_drew]; rfl) | rfl)
          go_wp2_with fail
          refine bodyPost_ret (v := .agg #[.int .i64 2, .int .i64 0, .string (S1 ++ S2)]) (by simp only [results, Tryz.results18]; go_simp) rfl ⟨rfl, by (repeat' (first | (with_reducible exact Below.refl _ _) | (with_reducible assumption) | (with_reducible refine Below.alloc ?_ ?_ _) | (with_reducible refine bel_drewN ?_ _) | (with_reducible refine Below.drew ?_) | (with_reducible refine Below.setCell ?_ ?_ _) | (with_reducible refine bel_call ‹_› ?_ ?_) | go_size))⟩
set_option maxRecDepth 100000 in
set_option maxHeartbeats 4000000 in
theorem rjoin_any (A : Nat) (k n : Int) (s : ByteArray) (hk : k = 0 ∨ k = 1 ∨ k = 2 ∨ k = 3) (hs : s.size ≤ 900) (hn1 : -9223372036854775808 ≤ n) (hn2 : n ≤ 9223372036854775807) (k' n' : Int) (s' : ByteArray) (hk' : k' = 0 ∨ k' = 1 ∨ k' = 2 ∨ k' = 3) (hs' : s'.size ≤ 900) (hn1' : -9223372036854775808 ≤ n') (hn2' : n' ≤ 9223372036854775807) (w : World) (hA : w.heap[A]? = some (.cells #[.int .i64 k, .int .i64 n, .string s, .int .i64 k', .int .i64 n', .string s'] 23 (0, 0))) : Calls Tryz.prog 23 #[.slice (some ⟨A, 0, none⟩) 2 2] w fun e w' => e = .returned (jnV k n s k' n' s') ∧ Below w.heap.size w w' := by
  have c0 : w.cell? ⟨A, 0, none⟩ = some (.int .i64 k) := by rw [cell_of_block hA]; rfl
  have c1 : w.cell? ⟨A, 1, none⟩ = some (.int .i64 n) := by rw [cell_of_block hA]; rfl
  have c2 : w.cell? ⟨A, 2, none⟩ = some (.string s) := by rw [cell_of_block hA]; rfl
  have c3 : w.cell? ⟨A, 3, none⟩ = some (.int .i64 k') := by rw [cell_of_block hA]; rfl
  have c4 : w.cell? ⟨A, 4, none⟩ = some (.int .i64 n') := by rw [cell_of_block hA]; rfl
  have c5 : w.cell? ⟨A, 5, none⟩ = some (.string s') := by rw [cell_of_block hA]; rfl
  have hlt : A < w.heap.size := by
    rcases Nat.lt_or_ge A w.heap.size with h' | h'
    · exact h'
    · rw [Array.getElem?_eq_none h'] at hA; cases hA
  have hz1 := shB_size k n s hs hn1 hn2
  have hz2 := shB_size k' n' s' hs' hn1' hn2'
  clear hA hs hs'
  by_cases h3 : k = 3
  · have e1 : jnV k n s k' n' s' = vv 3 n s := if_pos h3
    rw [e1]
    subst h3
    clear e1 hz1 hz2 hk hk'
    go_enter Tryz.func23, Tryz.ntmps23
    go_wp2_with fail
    refine wp_loop_rounds 3 ?_
    rw [rounds_succ]
    go_wp2_with fail
    refine bodyPost_ret (v := .agg #[.int .i64 3, .int .i64 n, .string s]) (by simp only [results, Tryz.results23]; go_simp) rfl ⟨rfl, by (repeat' (first | (with_reducible exact Below.refl _ _) | (with_reducible assumption) | (with_reducible refine Below.alloc ?_ ?_ _) | (with_reducible refine bel_drewN ?_ _) | (with_reducible refine Below.drew ?_) | (with_reducible refine Below.setCell ?_ ?_ _) | (with_reducible refine bel_call ‹_› ?_ ?_) | go_size))⟩
  · have H1 := Lib.hid (fun W => refShow_any k n s hn1 hn2 W)
    try rw [show (⟨(shwL k n s).toArray⟩ : ByteArray) = shB k n s from rfl] at H1
    have h3b : (k == 3) = false := by simpa using h3
    have ej : Hid (jnV k n s k' n' s' = if 256 < (shB k n s).size then vv 3 0 ⟨#[35, 86, 65, 76, 85, 69, 33]⟩ else if k' = 3 then vv 3 n' s' else if 256 < (shB k n s).size + (shB k' n' s').size then vv 3 0 ⟨#[35, 86, 65, 76, 85, 69, 33]⟩ else vv 2 0 (shB k n s ++ shB k' n' s')) := if_neg h3
    have Hw1 := H1
    clear H1
    generalize jnV k n s k' n' s' = R at ej ⊢
    generalize shB k n s = S1 at Hw1 ej hz1
    have hop1 : ∀ W, (Op.stringOp .add ⟨#[]⟩ S1).run Tryz.prog W = .ok (.string S1) W := fun W => by
      rw [run_string_add_sum W ⟨#[]⟩ S1 (by have hz : (⟨#[]⟩ : ByteArray).size = 0 := rfl; omega)]
      rw [show (⟨#[]⟩ : ByteArray) ++ S1 = S1 from by apply ByteArray.ext; rw [ByteArray.data_append]; simp]
    have hz0 : (⟨#[]⟩ : ByteArray).size = 0 := rfl
    by_cases h5 : 256 < S1.size
    · have e1 : R = vv 3 0 ⟨#[35, 86, 65, 76, 85, 69, 33]⟩ := by rw [ej.out, if_pos h5]
      rw [e1]
      have h5i : (256 : Int) < (S1.size : Int) := by omega
      clear e1 ej hz2 hk hk' h3 hn1 hn2 hn1' hn2'
      go_enter Tryz.func23, Tryz.ntmps23
      go_wp2_with fail
      refine wp_loop_rounds 3 ?_
      rw [rounds_succ]
      go_wp2_with fail
      refine (Hw1.out _).mono ?_
      rintro e w1 ⟨rfl, hbw1⟩; obtain ⟨hc_w1, hf_w1, hz_w1⟩ := bcell hbw1 (by first | (simp only [World.size_alloc, World.size_setCell, World.size_drew]; rfl) | rfl)
      go_wp2_with fail
      refine (bad_any _).mono ?_
      rintro e w2 ⟨rfl, hbw2⟩; obtain ⟨hc_w2, hf_w2, hz_w2⟩ := bcell hbw2 (by first | (simp only [World.size_alloc, World.size_setCell, World.size_drew]; rfl) | rfl)
      go_wp2_with fail
      refine bodyPost_ret (v := .agg #[.int .i64 3, .int .i64 0, .string ⟨#[35, 86, 65, 76, 85, 69, 33]⟩]) (by simp only [results, Tryz.results23]; go_simp) rfl ⟨rfl, by (repeat' (first | (with_reducible exact Below.refl _ _) | (with_reducible assumption) | (with_reducible refine Below.alloc ?_ ?_ _) | (with_reducible refine bel_drewN ?_ _) | (with_reducible refine Below.drew ?_) | (with_reducible refine Below.setCell ?_ ?_ _) | (with_reducible refine bel_call ‹_› ?_ ?_) | go_size))⟩
    · have h5i : ¬ (256 : Int) < (S1.size : Int) := by omega
      by_cases h4 : k' = 3
      · have e1 : R = vv 3 n' s' := by rw [ej.out, if_neg h5, if_pos h4]
        rw [e1]
        subst h4
        clear e1 ej hz2 hk hk' h3 hn1 hn2
        go_enter Tryz.func23, Tryz.ntmps23
        go_wp2_with fail
        refine wp_loop_rounds 3 ?_
        rw [rounds_succ]
        go_wp2_with fail
        refine (Hw1.out _).mono ?_
        rintro e w1 ⟨rfl, hbw1⟩; obtain ⟨hc_w1, hf_w1, hz_w1⟩ := bcell hbw1 (by first | (simp only [World.size_alloc, World.size_setCell, World.size_drew]; rfl) | rfl)
        go_wp2_with fail
        rw [rounds_succ]
        go_wp2_with fail
        refine bodyPost_ret (v := .agg #[.int .i64 3, .int .i64 n', .string s']) (by simp only [results, Tryz.results23]; go_simp) rfl ⟨rfl, by (repeat' (first | (with_reducible exact Below.refl _ _) | (with_reducible assumption) | (with_reducible refine Below.alloc ?_ ?_ _) | (with_reducible refine bel_drewN ?_ _) | (with_reducible refine Below.drew ?_) | (with_reducible refine Below.setCell ?_ ?_ _) | (with_reducible refine bel_call ‹_› ?_ ?_) | go_size))⟩
      · have Hw2 := Lib.hid (fun W => refShow_any k' n' s' hn1' hn2' W)
        try rw [show (⟨(shwL k' n' s').toArray⟩ : ByteArray) = shB k' n' s' from rfl] at Hw2
        have h4b : (k' == 3) = false := by simpa using h4
        replace ej : Hid (R = if 256 < S1.size + (shB k' n' s').size then vv 3 0 ⟨#[35, 86, 65, 76, 85, 69, 33]⟩ else vv 2 0 (S1 ++ shB k' n' s')) := by unfold Hid; rw [ej.out, if_neg h5, if_neg h4]
        generalize shB k' n' s' = S2 at Hw2 ej hz2
        have hop2 : ∀ W, (Op.stringOp .add S1 S2).run Tryz.prog W = .ok (.string (S1 ++ S2)) W := fun W => run_string_add_sum W S1 S2 (by omega)
        have hsz : (S1 ++ S2).size = S1.size + S2.size := ByteArray.size_append
        by_cases h6 : 256 < S1.size + S2.size
        · have e1 : R = vv 3 0 ⟨#[35, 86, 65, 76, 85, 69, 33]⟩ := by rw [ej.out, if_pos h6]
          rw [e1]
          have h6i : (256 : Int) < (S1.size : Int) + (S2.size : Int) := by omega
          clear e1 ej hk hk' h3 h4 hn1 hn2 hn1' hn2'
          go_enter Tryz.func23, Tryz.ntmps23
          go_wp2_with fail
          refine wp_loop_rounds 3 ?_
          rw [rounds_succ]
          go_wp2_with fail
          refine (Hw1.out _).mono ?_
          rintro e w1 ⟨rfl, hbw1⟩; obtain ⟨hc_w1, hf_w1, hz_w1⟩ := bcell hbw1 (by first | (simp only [World.size_alloc, World.size_setCell, World.size_drew]; rfl) | rfl)
          go_wp2_with fail
          rw [rounds_succ]
          go_wp2_with fail
          refine (Hw2.out _).mono ?_
          rintro e w2 ⟨rfl, hbw2⟩; obtain ⟨hc_w2, hf_w2, hz_w2⟩ := bcell hbw2 (by first | (simp only [World.size_alloc, World.size_setCell, World.size_drew]; rfl) | rfl)
          go_wp2_with fail
          refine (bad_any _).mono ?_
          rintro e w3 ⟨rfl, hbw3⟩; obtain ⟨hc_w3, hf_w3, hz_w3⟩ := bcell hbw3 (by first | (simp only [World.size_alloc, World.size_setCell, World.size_drew]; rfl) | rfl)
          go_wp2_with fail
          refine bodyPost_ret (v := .agg #[.int .i64 3, .int .i64 0, .string ⟨#[35, 86, 65, 76, 85, 69, 33]⟩]) (by simp only [results, Tryz.results23]; go_simp) rfl ⟨rfl, by (repeat' (first | (with_reducible exact Below.refl _ _) | (with_reducible assumption) | (with_reducible refine Below.alloc ?_ ?_ _) | (with_reducible refine bel_drewN ?_ _) | (with_reducible refine Below.drew ?_) | (with_reducible refine Below.setCell ?_ ?_ _) | (with_reducible refine bel_call ‹_› ?_ ?_) | go_size))⟩
        · have e1 : R = vv 2 0 (S1 ++ S2) := by rw [ej.out, if_neg h6]
          rw [e1]
          have h6i : ¬ (256 : Int) < (S1.size : Int) + (S2.size : Int) := by omega
          clear e1 ej hk hk' h3 h4 hn1 hn2 hn1' hn2'
          go_enter Tryz.func23, Tryz.ntmps23
          go_wp2_with fail
          refine wp_loop_rounds 3 ?_
          rw [rounds_succ]
          go_wp2_with fail
          refine (Hw1.out _).mono ?_
          rintro e w1 ⟨rfl, hbw1⟩; obtain ⟨hc_w1, hf_w1, hz_w1⟩ := bcell hbw1 (by first | (simp only [World.size_alloc, World.size_setCell, World.size_drew]; rfl) | rfl)
          go_wp2_with fail
          rw [rounds_succ]
          go_wp2_with fail
          refine (Hw2.out _).mono ?_
          rintro e w2 ⟨rfl, hbw2⟩; obtain ⟨hc_w2, hf_w2, hz_w2⟩ := bcell hbw2 (by first | (simp only [World.size_alloc, World.size_setCell, World.size_drew]; rfl) | rfl)
          go_wp2_with fail
          rw [rounds_succ]
          go_wp2_with fail
          refine bodyPost_ret (v := .agg #[.int .i64 2, .int .i64 0, .string (S1 ++ S2)]) (by simp only [results, Tryz.results23]; go_simp) rfl ⟨rfl, by (repeat' (first | (with_reducible exact Below.refl _ _) | (with_reducible assumption) | (with_reducible refine Below.alloc ?_ ?_ _) | (with_reducible refine bel_drewN ?_ _) | (with_reducible refine Below.drew ?_) | (with_reducible refine Below.setCell ?_ ?_ _) | (with_reducible refine bel_call ‹_› ?_ ?_) | go_size))⟩
end
end Go.Proofs.YtilajcibjlcffaaGreatDoor.Val
