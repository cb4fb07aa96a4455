/- The law's 'does': Send. -/
import Derived.Test.YtoeenaionamhiaaNetY
import Derived.Test.YtoeenaionamhiaaNetV
import Derived.Test.YtoeenaionamhiaaNetP
set_option linter.unusedSimpArgs false
set_option linter.unusedVariables false
namespace Go.Proofs.Ytoeenaionamhiaa
open Go.RowKit
theorem has_any (M s c l : Int) (A : Option Addr) (n cap : Nat) (i : Int) (hn : n ≤ 1000) (w : World) :
    Calls Try.prog 21 #[.agg #[.int .i64 M, .slice A n cap, .int .i64 s, .int .i64 c, .int .i64 l], .int .i64 i] w fun e w' => ∃ b, e = .returned (.bool b) ∧ Below w.heap.size w w' := by
  by_cases h : i < 0 ∨ (n : Int) ≤ i
  · exact (has_no M s c l A n cap i h hn w).mono fun e w' ⟨h1, h2⟩ => ⟨_, h1, h2⟩
  · obtain ⟨k, rfl⟩ : ∃ k : Nat, i = (k : Int) := ⟨i.toNat, by omega⟩
    exact (has_yes M s c l A n cap k (by omega) hn w).mono fun e w' ⟨h1, h2⟩ => ⟨_, h1, h2⟩

set_option maxRecDepth 100000 in
set_option maxHeartbeats 4000000 in
theorem does_send_full (B0 g : Nat) (M s l c : Int) (v : Value) (Ps Qs : List Pk) (RA : Option Addr) (RC : Nat) (f t ii aa : Int) (A : Option Addr) (n cp : Nat) (L : List UInt8) (bt : UInt8) (hM : M ≤ 1000) (hPM : (Ps.length : Int) ≤ M) (hs0 : 0 ≤ s) (hs1 : s ≤ 100000) (hl0 : 0 ≤ l) (hl1 : l ≤ 100000) (hc0 : 0 ≤ c) (hc1 : c ≤ 100000) (hn : n ≤ 300) (w : World) (hB : B0 ≤ w.heap.size) (hN : NetW B0 w g M s l c v Ps) (hR : RefW B0 w (.slice RA Qs.length RC) Qs) (hK : Ps.map Pk.key = Qs.map Pk.key) (hL : RdB B0 w A n cp L) (kd : Int) (k1 : kd ≠ 1) (k2 : kd ≠ 2) (k3 : kd ≠ 3) (k4 : kd ≠ 4) (hfull : M ≤ (Ps.length : Int)) :
    Calls Try.prog 15 #[.pointer (some ⟨g, 0, none⟩), .agg #[.int .i64 M, .slice RA Qs.length RC, .int .i64 s, .int .i64 c, .int .i64 l], .agg #[.int .i64 kd, .int .i64 f, .int .i64 t, .slice A n cp, .int .i64 ii, .int .i64 aa, .int .u8 (bt.toNat : Int)]] w (RetD B0 g M s c l w) := by
  have d1 : (kd == 1) = false := by simpa using k1
  have d2 : (kd == 2) = false := by simpa using k2
  have d3 : (kd == 3) = false := by simpa using k3
  have d4 : (kd == 4) = false := by simpa using k4
  have HFU := Lib.hid hfull
  clear k1 k2 k3 k4 hfull
  have hKL : Ps.length = Qs.length := by simpa using congrArg List.length hK
  have HN := Lib.hid hN
  have HR := Lib.hid hR
  have HK := Lib.hid hK
  have HKL := Lib.hid hKL
  have HL := Lib.hid hL
  have hgl := hN.lt
  clear hN hR hK hKL hL
  go_enter Try.func15, Try.ntmps15
  go_wp2_with fail
  refine (has_any M s c l RA Qs.length RC ii (by have := HKL.out; omega) _).mono ?_
  rintro e w1 ⟨b8, rfl, hb1⟩
  have hb0 : Below w.heap.size w w1 := by (repeat' (first | (with_reducible exact Below.refl _ _) | (with_reducible assumption) | (with_reducible refine Below.alloc ?_ ?_ _) | (with_reducible refine bel_drewN ?_ _) | (with_reducible refine Below.drew ?_) | (with_reducible refine Below.setCell ?_ ?_ _) | (with_reducible refine bel_call ‹_› ?_ ?_) | go_size))
  have r1 := be_box hb1 (heap3 w (.cells #[.int .i64 M, .slice RA Qs.length RC, .int .i64 s, .int .i64 c, .int .i64 l] tRN) (.cells #[.int .i64 kd, .int .i64 f, .int .i64 t, .slice A n cp, .int .i64 ii, .int .i64 aa, .int .u8 (bt.toNat : Int)] tAct) (.cells #[.int .i64 0, .slice none 0 0, .int .i64 0, .int .i64 0, .int .i64 0] tRN)).1
  have a1 := be_box hb1 (heap3 w (.cells #[.int .i64 M, .slice RA Qs.length RC, .int .i64 s, .int .i64 c, .int .i64 l] tRN) (.cells #[.int .i64 kd, .int .i64 f, .int .i64 t, .slice A n cp, .int .i64 ii, .int .i64 aa, .int .u8 (bt.toNat : Int)] tAct) (.cells #[.int .i64 0, .slice none 0 0, .int .i64 0, .int .i64 0, .int .i64 0] tRN)).2.1
  have o1 := be_box hb1 (heap3 w (.cells #[.int .i64 M, .slice RA Qs.length RC, .int .i64 s, .int .i64 c, .int .i64 l] tRN) (.cells #[.int .i64 kd, .int .i64 f, .int .i64 t, .slice A n cp, .int .i64 ii, .int .i64 aa, .int .u8 (bt.toNat : Int)] tAct) (.cells #[.int .i64 0, .slice none 0 0, .int .i64 0, .int .i64 0, .int .i64 0] tRN)).2.2
  have HB0 := Lib.hid hb0
  have HR1 := Lib.hid r1
  have HA1 := Lib.hid a1
  have HO1 := Lib.hid o1
  have hz1 : w.heap.size + 1 + 1 < w1.heap.size := tyAt_lt (tyAt_cells o1)
  obtain ⟨r0, r1, r2, r3, r4, rf⟩ := cells5 r1
  obtain ⟨p0, p1, p2, p3, p4, p5, p6, pf⟩ := cells7 a1
  obtain ⟨o0, o1, o2, o3, o4, of⟩ := cells5 o1
  clear hb0 hb1
  go_wp2_with fail
  refine (to_any f t A n cp w1).mono ?_
  rintro e w2' ⟨rfl, hb2'⟩
  have hb02 : Below w.heap.size w w2' := HB0.out.trans (hb2'.mono (by omega))
  have hz2' := hb2'.size
  go_wp2_with fail
  refine (send_full B0 g M s l c v Ps f t A n cp HFU.out (by omega) hs0 (by omega) hl0 (by omega) w2' (by omega) (HN.out.below hb02)).mono ?_
  rintro e w2 ⟨rfl, ⟨v2, N2⟩, F2'⟩
  have F2 : Fr B0 w1 w2 := (Fr.of_below hb2').trans F2'
  have HF2 := Lib.hid F2
  have HN2 := Lib.hid N2
  have r1' := fr_box F2 HR1.out (by decide) (by decide)
  have a1' := fr_box F2 HA1.out (by decide) (by decide)
  have o1' := fr_box F2 HO1.out (by decide) (by decide)
  have HR2 := Lib.hid r1'
  have HA2 := Lib.hid a1'
  have HO2 := Lib.hid o1'
  have hz2 : w1.heap.size ≤ w2.heap.size := F2.size
  have HW2 : Hid (RefW B0 w2 (.slice RA Qs.length RC) Qs) := (HR.out.below HB0.out).fr F2
  have HFW : Hid (Fr B0 w w2) := (Fr.of_below HB0.out).trans F2
  clear r0 r1 r2 r3 r4 rf p0 p1 p2 p3 p4 p5 p6 pf o0 o1 o2 o3 o4 of F2 N2
  obtain ⟨r0, r1, r2, r3, r4, rf⟩ := cells5 r1'
  obtain ⟨p0, p1, p2, p3, p4, p5, p6, pf⟩ := cells7 a1'
  obtain ⟨o0, o1, o2, o3, o4, of⟩ := cells5 o1'
  clear r1' a1' o1'
  go_wp2_with fail
  refine (ref_full M s c l RA Qs.length RC f t A n cp (by have := HFU.out; have := HKL.out; omega) (by have := HKL.out; omega) hs0 (by omega) hl0 (by omega) w2).mono ?_
  rintro e w4 ⟨rfl, hb4⟩
  have HW4 := Lib.hid (HW2.out.below hb4)
  have z := be_box hb4 HO2.out
  have HZ := Lib.hid z
  have HB4 := Lib.hid hb4
  obtain ⟨z0, z1, z2, z3, z4, zf⟩ := cells5 z
  have hz4 := hb4.size
  clear z hb4
  go_wp2_with fail
  have hb5 : Below w4.heap.size w4 (w4.alloc (.cells #[.int .i64 M, .slice RA Qs.length RC, .int .i64 (s + 1), .int .i64 c, .int .i64 (l + 1)] tRN)) := (Below.refl _ _).alloc (Nat.le_refl _) _
  refine bodyPost_ret (v := .tuple #[.agg #[.int .i64 M, .slice RA Qs.length RC, .int .i64 (s + 1), .int .i64 c, .int .i64 (l + 1)], .bool true]) (by simp [results, Try.results15, go_sem, z0, z1, z2, z3, z4]) rfl ?_
  exact does_close (b := w.heap.size + 1 + 1) (HW4.out.below hb5) ((HN2.out.below HB4.out).below hb5) ((HFW.out.trans (.of_below HB4.out)).trans (.of_below hb5)) (tyAt_cells (be_box hb5 HZ.out)) (by omega) hB HK.out hPM (by omega) (by omega) (by omega) (by omega) (by omega) (by omega)

set_option maxRecDepth 100000 in
set_option maxHeartbeats 4000000 in
theorem does_send_ok (B0 g : Nat) (M s l c : Int) (v : Value) (Ps Qs : List Pk) (RA : Option Addr) (RC : Nat) (f t ii aa : Int) (A : Option Addr) (n cp : Nat) (L : List UInt8) (bt : UInt8) (hM : M ≤ 1000) (hPM : (Ps.length : Int) ≤ M) (hs0 : 0 ≤ s) (hs1 : s ≤ 100000) (hl0 : 0 ≤ l) (hl1 : l ≤ 100000) (hc0 : 0 ≤ c) (hc1 : c ≤ 100000) (hn : n ≤ 300) (w : World) (hB : B0 ≤ w.heap.size) (hN : NetW B0 w g M s l c v Ps) (hR : RefW B0 w (.slice RA Qs.length RC) Qs) (hK : Ps.map Pk.key = Qs.map Pk.key) (hL : RdB B0 w A n cp L) (kd : Int) (k1 : kd ≠ 1) (k2 : kd ≠ 2) (k3 : kd ≠ 3) (k4 : kd ≠ 4) (hfull : (Ps.length : Int) < M) :
    Calls Try.prog 15 #[.pointer (some ⟨g, 0, none⟩), .agg #[.int .i64 M, .slice RA Qs.length RC, .int .i64 s, .int .i64 c, .int .i64 l], .agg #[.int .i64 kd, .int .i64 f, .int .i64 t, .slice A n cp, .int .i64 ii, .int .i64 aa, .int .u8 (bt.toNat : Int)]] w (RetD B0 g M s c l w) := by
  have d1 : (kd == 1) = false := by simpa using k1
  have d2 : (kd == 2) = false := by simpa using k2
  have d3 : (kd == 3) = false := by simpa using k3
  have d4 : (kd == 4) = false := by simpa using k4
  have HFU := Lib.hid hfull
  clear k1 k2 k3 k4 hfull
  have hKL : Ps.length = Qs.length := by simpa using congrArg List.length hK
  have HN := Lib.hid hN
  have HR := Lib.hid hR
  have HK := Lib.hid hK
  have HKL := Lib.hid hKL
  have HL := Lib.hid hL
  have hgl := hN.lt
  clear hN hR hK hKL hL
  go_enter Try.func15, Try.ntmps15
  go_wp2_with fail
  refine (has_any M s c l RA Qs.length RC ii (by have := HKL.out; omega) _).mono ?_
  rintro e w1 ⟨b8, rfl, hb1⟩
  have hb0 : Below w.heap.size w w1 := by (repeat' (first | (with_reducible exact Below.refl _ _) | (with_reducible assumption) | (with_reducible refine Below.alloc ?_ ?_ _) | (with_reducible refine bel_drewN ?_ _) | (with_reducible refine Below.drew ?_) | (with_reducible refine Below.setCell ?_ ?_ _) | (with_reducible refine bel_call ‹_› ?_ ?_) | go_size))
  have r1 := be_box hb1 (heap3 w (.cells #[.int .i64 M, .slice RA Qs.length RC, .int .i64 s, .int .i64 c, .int .i64 l] tRN) (.cells #[.int .i64 kd, .int .i64 f, .int .i64 t, .slice A n cp, .int .i64 ii, .int .i64 aa, .int .u8 (bt.toNat : Int)] tAct) (.cells #[.int .i64 0, .slice none 0 0, .int .i64 0, .int .i64 0, .int .i64 0] tRN)).1
  have a1 := be_box hb1 (heap3 w (.cells #[.int .i64 M, .slice RA Qs.length RC, .int .i64 s, .int .i64 c, .int .i64 l] tRN) (.cells #[.int .i64 kd, .int .i64 f, .int .i64 t, .slice A n cp, .int .i64 ii, .int .i64 aa, .int .u8 (bt.toNat : Int)] tAct) (.cells #[.int .i64 0, .slice none 0 0, .int .i64 0, .int .i64 0, .int .i64 0] tRN)).2.1
  have o1 := be_box hb1 (heap3 w (.cells #[.int .i64 M, .slice RA Qs.length RC, .int .i64 s, .int .i64 c, .int .i64 l] tRN) (.cells #[.int .i64 kd, .int .i64 f, .int .i64 t, .slice A n cp, .int .i64 ii, .int .i64 aa, .int .u8 (bt.toNat : Int)] tAct) (.cells #[.int .i64 0, .slice none 0 0, .int .i64 0, .int .i64 0, .int .i64 0] tRN)).2.2
  have HB0 := Lib.hid hb0
  have HR1 := Lib.hid r1
  have HA1 := Lib.hid a1
  have HO1 := Lib.hid o1
  have hz1 : w.heap.size + 1 + 1 < w1.heap.size := tyAt_lt (tyAt_cells o1)
  obtain ⟨r0, r1, r2, r3, r4, rf⟩ := cells5 r1
  obtain ⟨p0, p1, p2, p3, p4, p5, p6, pf⟩ := cells7 a1
  obtain ⟨o0, o1, o2, o3, o4, of⟩ := cells5 o1
  clear hb0 hb1
  go_wp2_with fail
  refine (to_any f t A n cp w1).mono ?_
  rintro e w2' ⟨rfl, hb2'⟩
  have hb02 : Below w.heap.size w w2' := HB0.out.trans (hb2'.mono (by omega))
  have hz2' := hb2'.size
  go_wp2_with fail
  refine (send_ok B0 g M s l c v Ps f t A n cp L HFU.out (by omega) hs0 (by omega) hn w2' (by omega) (HN.out.below hb02) (HL.out.below hb02)).mono ?_
  rintro e w2 ⟨rfl, q2, hq1, hq2, hq3, ⟨v2, N2⟩, F2'⟩
  have F2 : Fr B0 w1 w2 := (Fr.of_below hb2').trans F2'
  have HQ2 : Hid (q2.f = f ∧ q2.t = t ∧ q2.bs = L) := ⟨hq1, hq2, hq3⟩
  clear hq1 hq2 hq3
  have HF2 := Lib.hid F2
  have HN2 := Lib.hid N2
  have r1' := fr_box F2 HR1.out (by decide) (by decide)
  have a1' := fr_box F2 HA1.out (by decide) (by decide)
  have o1' := fr_box F2 HO1.out (by decide) (by decide)
  have HR2 := Lib.hid r1'
  have HA2 := Lib.hid a1'
  have HO2 := Lib.hid o1'
  have hz2 : w1.heap.size ≤ w2.heap.size := F2.size
  have HW2 : Hid (RefW B0 w2 (.slice RA Qs.length RC) Qs) := (HR.out.below HB0.out).fr F2
  have HFW : Hid (Fr B0 w w2) := (Fr.of_below HB0.out).trans F2
  clear r0 r1 r2 r3 r4 rf p0 p1 p2 p3 p4 p5 p6 pf o0 o1 o2 o3 o4 of F2 N2
  obtain ⟨r0, r1, r2, r3, r4, rf⟩ := cells5 r1'
  obtain ⟨p0, p1, p2, p3, p4, p5, p6, pf⟩ := cells7 a1'
  obtain ⟨o0, o1, o2, o3, o4, of⟩ := cells5 o1'
  clear r1' a1' o1'
  go_wp2_with fail
  refine (ref_ok B0 M s c l (.slice RA Qs.length RC) Qs ⟨f, t, A, n, cp, L⟩ (by have := HFU.out; have := HKL.out; omega) (by have := HKL.out; omega) hs0 (by omega) w2 (by omega) HW2.out ⟨HL.out.fr HFW.out, hn⟩).mono ?_
  rintro e w4 ⟨A4, n4, cap4, rfl, W4, hb4⟩
  have HW4 := Lib.hid W4
  have z := be_box hb4 HO2.out
  have HZ := Lib.hid z
  have HB4 := Lib.hid hb4
  obtain ⟨z0, z1, z2, z3, z4, zf⟩ := cells5 z
  have hz4 := hb4.size
  clear z hb4
  go_wp2_with fail
  have hb5 : Below w4.heap.size w4 (w4.alloc (.cells #[.int .i64 M, .slice A4 n4 cap4, .int .i64 (s + 1), .int .i64 c, .int .i64 l] tRN)) := (Below.refl _ _).alloc (Nat.le_refl _) _
  refine bodyPost_ret (v := .tuple #[.agg #[.int .i64 M, .slice A4 n4 cap4, .int .i64 (s + 1), .int .i64 c, .int .i64 l], .bool true]) (by simp [results, Try.results15, go_sem, z0, z1, z2, z3, z4]) rfl ?_
  exact does_close (b := w.heap.size + 1 + 1) (HW4.out.below hb5) ((HN2.out.below HB4.out).below hb5) ((HFW.out.trans (.of_below HB4.out)).trans (.of_below hb5)) (tyAt_cells (be_box hb5 HZ.out)) (by omega) hB (key_snoc HK.out (by obtain ⟨a1, a2, a3⟩ := HQ2.out; unfold Pk.key; rw [a1, a2, a3])) (by have := HFU.out; simp; omega) (by omega) (by omega) (by omega) (by omega) (by omega) (by omega)
end Go.Proofs.Ytoeenaionamhiaa
