/- The law's 'does': Drop. -/
import Derived.Test.YtoeenaionamhiaaNetY
set_option linter.unusedSimpArgs false
set_option linter.unusedVariables false
namespace Go.Proofs.Ytoeenaionamhiaa
open Go.RowKit

set_option maxRecDepth 100000 in
set_option maxHeartbeats 4000000 in
theorem does_drop_miss (B0 g : Nat) (M s l c : Int) (v : Value) (Ps Qs : List Pk) (RA : Option Addr) (RC : Nat) (f t ii aa : Int) (A : Option Addr) (n cp : Nat) (L : List UInt8) (bt : UInt8) (hM : M ≤ 1000) (hPM : (Ps.length : Int) ≤ M) (hs0 : 0 ≤ s) (hs1 : s ≤ 100000) (hl0 : 0 ≤ l) (hl1 : l ≤ 100000) (hc0 : 0 ≤ c) (hc1 : c ≤ 100000) (hn : n ≤ 300) (w : World) (hB : B0 ≤ w.heap.size) (hN : NetW B0 w g M s l c v Ps) (hR : RefW B0 w (.slice RA Qs.length RC) Qs) (hK : Ps.map Pk.key = Qs.map Pk.key) (hL : RdB B0 w A n cp L) (hi : ii < 0 ∨ (Ps.length : Int) ≤ ii) :
    Calls Try.prog 15 #[.pointer (some ⟨g, 0, none⟩), .agg #[.int .i64 M, .slice RA Qs.length RC, .int .i64 s, .int .i64 c, .int .i64 l], .agg #[.int .i64 2, .int .i64 f, .int .i64 t, .slice A n cp, .int .i64 ii, .int .i64 aa, .int .u8 (bt.toNat : Int)]] w (RetD B0 g M s c l w) := by
  have HI := Lib.hid hi
  clear hi
  have hKL : Ps.length = Qs.length := by simpa using congrArg List.length hK
  have HN := Lib.hid hN
  have HR := Lib.hid hR
  have HK := Lib.hid hK
  have HKL := Lib.hid hKL
  have HL := Lib.hid hL
  have hgl := hN.lt
  clear hN hR hK hKL hL
  go_enter Try.func15, Try.ntmps15
  go_wp2_with fail
  refine (has_no M s c l RA Qs.length RC ii (by have := HKL.out; have := HI.out; omega) (by have := HKL.out; omega) _).mono ?_
  rintro e w1 ⟨rfl, hb1⟩
  have hb0 : Below w.heap.size w w1 := by (repeat' (first | (with_reducible exact Below.refl _ _) | (with_reducible assumption) | (with_reducible refine Below.alloc ?_ ?_ _) | (with_reducible refine bel_drewN ?_ _) | (with_reducible refine Below.drew ?_) | (with_reducible refine Below.setCell ?_ ?_ _) | (with_reducible refine bel_call ‹_› ?_ ?_) | go_size))
  have r1 := be_box hb1 (heap3 w (.cells #[.int .i64 M, .slice RA Qs.length RC, .int .i64 s, .int .i64 c, .int .i64 l] tRN) (.cells #[.int .i64 2, .int .i64 f, .int .i64 t, .slice A n cp, .int .i64 ii, .int .i64 aa, .int .u8 (bt.toNat : Int)] tAct) (.cells #[.int .i64 0, .slice none 0 0, .int .i64 0, .int .i64 0, .int .i64 0] tRN)).1
  have a1 := be_box hb1 (heap3 w (.cells #[.int .i64 M, .slice RA Qs.length RC, .int .i64 s, .int .i64 c, .int .i64 l] tRN) (.cells #[.int .i64 2, .int .i64 f, .int .i64 t, .slice A n cp, .int .i64 ii, .int .i64 aa, .int .u8 (bt.toNat : Int)] tAct) (.cells #[.int .i64 0, .slice none 0 0, .int .i64 0, .int .i64 0, .int .i64 0] tRN)).2.1
  have o1 := be_box hb1 (heap3 w (.cells #[.int .i64 M, .slice RA Qs.length RC, .int .i64 s, .int .i64 c, .int .i64 l] tRN) (.cells #[.int .i64 2, .int .i64 f, .int .i64 t, .slice A n cp, .int .i64 ii, .int .i64 aa, .int .u8 (bt.toNat : Int)] tAct) (.cells #[.int .i64 0, .slice none 0 0, .int .i64 0, .int .i64 0, .int .i64 0] tRN)).2.2
  have HB0 := Lib.hid hb0
  have HR1 := Lib.hid r1
  have HA1 := Lib.hid a1
  have HO1 := Lib.hid o1
  have hz1 : w.heap.size + 1 + 1 < w1.heap.size := tyAt_lt (tyAt_cells o1)
  obtain ⟨r0, r1, r2, r3, r4, rf⟩ := cells5 r1
  obtain ⟨p0, p1, p2, p3, p4, p5, p6, pf⟩ := cells7 a1
  obtain ⟨o0, o1, o2, o3, o4, of⟩ := cells5 o1
  clear hb0 hb1
  go_wp2_with fail
  refine (drop_miss B0 g M s l c v Ps ii HI.out (by omega) w1 (by omega) (HN.out.below HB0.out)).mono ?_
  rintro e w2 ⟨rfl, ⟨v2, N2⟩, F2⟩
  have HF2 := Lib.hid F2
  have HN2 := Lib.hid N2
  have r1' := fr_box F2 HR1.out (by decide) (by decide)
  have a1' := fr_box F2 HA1.out (by decide) (by decide)
  have o1' := fr_box F2 HO1.out (by decide) (by decide)
  have HR2 := Lib.hid r1'
  have HA2 := Lib.hid a1'
  have HO2 := Lib.hid o1'
  have hz2 : w1.heap.size ≤ w2.heap.size := F2.size
  have HW2 : Hid (RefW B0 w2 (.slice RA Qs.length RC) Qs) := (HR.out.below HB0.out).fr F2
  have HFW : Hid (Fr B0 w w2) := (Fr.of_below HB0.out).trans F2
  clear r0 r1 r2 r3 r4 rf p0 p1 p2 p3 p4 p5 p6 pf o0 o1 o2 o3 o4 of F2 N2
  obtain ⟨r0, r1, r2, r3, r4, rf⟩ := cells5 r1'
  obtain ⟨p0, p1, p2, p3, p4, p5, p6, pf⟩ := cells7 a1'
  obtain ⟨o0, o1, o2, o3, o4, of⟩ := cells5 o1'
  clear r1' a1' o1'
  go_wp2_with fail
  refine bodyPost_ret (v := .tuple #[.agg #[.int .i64 M, .slice RA Qs.length RC, .int .i64 s, .int .i64 c, .int .i64 l], .bool true]) (by simp [results, Try.results15, go_sem, o0, o1, o2, o3, o4]) rfl (does_close (b := w.heap.size + 1 + 1) HW2.out HN2.out HFW.out (tyAt_cells HO2.out) (by omega) hB HK.out hPM (by omega) (by omega) (by omega) (by omega) (by omega) (by omega))

set_option maxRecDepth 100000 in
set_option maxHeartbeats 4000000 in
theorem does_drop_hit (B0 g : Nat) (M s l c : Int) (v : Value) (Ps Qs : List Pk) (RA : Option Addr) (RC : Nat) (f t ii aa : Int) (A : Option Addr) (n cp : Nat) (L : List UInt8) (bt : UInt8) (hM : M ≤ 1000) (hPM : (Ps.length : Int) ≤ M) (hs0 : 0 ≤ s) (hs1 : s ≤ 100000) (hl0 : 0 ≤ l) (hl1 : l ≤ 100000) (hc0 : 0 ≤ c) (hc1 : c ≤ 100000) (hn : n ≤ 300) (w : World) (hB : B0 ≤ w.heap.size) (hN : NetW B0 w g M s l c v Ps) (hR : RefW B0 w (.slice RA Qs.length RC) Qs) (hK : Ps.map Pk.key = Qs.map Pk.key) (hL : RdB B0 w A n cp L) (k : Nat) (p q : Pk) (hp : Ps[k]? = some p) (hq : Qs[k]? = some q) :
    Calls Try.prog 15 #[.pointer (some ⟨g, 0, none⟩), .agg #[.int .i64 M, .slice RA Qs.length RC, .int .i64 s, .int .i64 c, .int .i64 l], .agg #[.int .i64 2, .int .i64 f, .int .i64 t, .slice A n cp, .int .i64 k, .int .i64 aa, .int .u8 (bt.toNat : Int)]] w (RetD B0 g M s c l w) := by
  have HP := Lib.hid hp
  have HQ := Lib.hid hq
  clear hp hq
  have hKL : Ps.length = Qs.length := by simpa using congrArg List.length hK
  have HN := Lib.hid hN
  have HR := Lib.hid hR
  have HK := Lib.hid hK
  have HKL := Lib.hid hKL
  have HL := Lib.hid hL
  have hgl := hN.lt
  clear hN hR hK hKL hL
  go_enter Try.func15, Try.ntmps15
  go_wp2_with fail
  refine (has_yes M s c l RA Qs.length RC k (by have := (List.getElem?_eq_some_iff.1 HQ.out).1; omega) (by have := HKL.out; omega) _).mono ?_
  rintro e w1 ⟨rfl, hb1⟩
  have hb0 : Below w.heap.size w w1 := by (repeat' (first | (with_reducible exact Below.refl _ _) | (with_reducible assumption) | (with_reducible refine Below.alloc ?_ ?_ _) | (with_reducible refine bel_drewN ?_ _) | (with_reducible refine Below.drew ?_) | (with_reducible refine Below.setCell ?_ ?_ _) | (with_reducible refine bel_call ‹_› ?_ ?_) | go_size))
  have r1 := be_box hb1 (heap3 w (.cells #[.int .i64 M, .slice RA Qs.length RC, .int .i64 s, .int .i64 c, .int .i64 l] tRN) (.cells #[.int .i64 2, .int .i64 f, .int .i64 t, .slice A n cp, .int .i64 k, .int .i64 aa, .int .u8 (bt.toNat : Int)] tAct) (.cells #[.int .i64 0, .slice none 0 0, .int .i64 0, .int .i64 0, .int .i64 0] tRN)).1
  have a1 := be_box hb1 (heap3 w (.cells #[.int .i64 M, .slice RA Qs.length RC, .int .i64 s, .int .i64 c, .int .i64 l] tRN) (.cells #[.int .i64 2, .int .i64 f, .int .i64 t, .slice A n cp, .int .i64 k, .int .i64 aa, .int .u8 (bt.toNat : Int)] tAct) (.cells #[.int .i64 0, .slice none 0 0, .int .i64 0, .int .i64 0, .int .i64 0] tRN)).2.1
  have o1 := be_box hb1 (heap3 w (.cells #[.int .i64 M, .slice RA Qs.length RC, .int .i64 s, .int .i64 c, .int .i64 l] tRN) (.cells #[.int .i64 2, .int .i64 f, .int .i64 t, .slice A n cp, .int .i64 k, .int .i64 aa, .int .u8 (bt.toNat : Int)] tAct) (.cells #[.int .i64 0, .slice none 0 0, .int .i64 0, .int .i64 0, .int .i64 0] tRN)).2.2
  have HB0 := Lib.hid hb0
  have HR1 := Lib.hid r1
  have HA1 := Lib.hid a1
  have HO1 := Lib.hid o1
  have hz1 : w.heap.size + 1 + 1 < w1.heap.size := tyAt_lt (tyAt_cells o1)
  obtain ⟨r0, r1, r2, r3, r4, rf⟩ := cells5 r1
  obtain ⟨p0, p1, p2, p3, p4, p5, p6, pf⟩ := cells7 a1
  obtain ⟨o0, o1, o2, o3, o4, of⟩ := cells5 o1
  clear hb0 hb1
  go_wp2_with fail
  refine (drop_hit B0 g M s l c v Ps k p HP.out (by omega) hl0 (by omega) w1 (by omega) (HN.out.below HB0.out)).mono ?_
  rintro e w2 ⟨rfl, ⟨v2, N2⟩, F2⟩
  have HF2 := Lib.hid F2
  have HN2 := Lib.hid N2
  have r1' := fr_box F2 HR1.out (by decide) (by decide)
  have a1' := fr_box F2 HA1.out (by decide) (by decide)
  have o1' := fr_box F2 HO1.out (by decide) (by decide)
  have HR2 := Lib.hid r1'
  have HA2 := Lib.hid a1'
  have HO2 := Lib.hid o1'
  have hz2 : w1.heap.size ≤ w2.heap.size := F2.size
  have HW2 : Hid (RefW B0 w2 (.slice RA Qs.length RC) Qs) := (HR.out.below HB0.out).fr F2
  have HFW : Hid (Fr B0 w w2) := (Fr.of_below HB0.out).trans F2
  clear r0 r1 r2 r3 r4 rf p0 p1 p2 p3 p4 p5 p6 pf o0 o1 o2 o3 o4 of F2 N2
  obtain ⟨r0, r1, r2, r3, r4, rf⟩ := cells5 r1'
  obtain ⟨p0, p1, p2, p3, p4, p5, p6, pf⟩ := cells7 a1'
  obtain ⟨o0, o1, o2, o3, o4, of⟩ := cells5 o1'
  clear r1' a1' o1'
  have HW3 : Hid (RefW B0 (w2.setCell ⟨w.heap.size, 4, none⟩ (.int .i64 (l + 1))) (.slice RA Qs.length RC) Qs) := HW2.out.setO (q := ⟨w.heap.size, 4, none⟩) hB (tyAt_cells HR2.out) (by decide) (by decide) _
  have HN3 := Lib.hid (HN2.out.setO (q := ⟨w.heap.size, 4, none⟩) hB (tyAt_cells HR2.out) (by decide) (by decide) (by decide) (.int .i64 (l + 1)))
  have HO3 := Lib.hid ((Below.heap_setCell w2 ⟨w.heap.size, 4, none⟩ (.int .i64 (l + 1)) (w.heap.size + 1 + 1) (by simp; omega)).trans HO2.out)
  have HFW3 := Lib.hid (HFW.out.new (p := ⟨w.heap.size, 4, none⟩) (Nat.le_refl _) (.int .i64 (l + 1)))
  go_wp2_with fail
  have hk0 : k < Qs.length := (List.getElem?_eq_some_iff.1 HQ.out).1
  refine (ref_cut B0 M s c (l + 1) (.slice RA Qs.length RC) Qs k hk0 (by have := HKL.out; omega) _ (by go_size) (HW3.out)).mono ?_
  rintro e w4 ⟨A4, n4, cap4, rfl, W4, hb4⟩
  have o4' := be_box hb4 HO3.out
  have HB4 := Lib.hid hb4
  have HW4 := Lib.hid W4
  have HO4 := Lib.hid o4'
  have HN4 := Lib.hid (HN3.out.below hb4)
  have HF4 : Hid (Fr B0 w w4) := HFW3.out.trans (.of_below hb4)
  clear o0 o1 o2 o3 o4 of
  obtain ⟨o0, o1, o2, o3, o4, of⟩ := cells5 o4'
  clear o4' W4 hb4
  go_wp2_with fail
  refine bodyPost_ret (v := .tuple #[.agg #[.int .i64 M, .slice A4 n4 cap4, .int .i64 s, .int .i64 c, .int .i64 (l + 1)], .bool true]) (by simp [results, Try.results15, go_sem, o0, o1, o2, o3, o4]) rfl (does_close (b := w.heap.size + 1 + 1) HW4.out HN4.out HF4.out (tyAt_cells HO4.out) (by omega) hB (key_erase HK.out k) (by have := erase_len HP.out; omega) (by omega) (by omega) (by omega) (by omega) (by omega) (by omega))
end Go.Proofs.Ytoeenaionamhiaa
