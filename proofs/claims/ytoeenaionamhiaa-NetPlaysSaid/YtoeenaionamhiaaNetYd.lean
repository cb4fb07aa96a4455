/- The law's 'does': Spoil. -/
import Derived.Test.YtoeenaionamhiaaNetY
set_option linter.unusedSimpArgs false
set_option linter.unusedVariables false
namespace Go.Proofs.Ytoeenaionamhiaa
open Go.RowKit

set_option maxRecDepth 100000 in
set_option maxHeartbeats 4000000 in
theorem does_spoil_miss_neg (B0 g : Nat) (M s l c : Int) (v : Value) (Ps Qs : List Pk) (RA : Option Addr) (RC : Nat) (f t ii aa : Int) (A : Option Addr) (n cp : Nat) (L : List UInt8) (bt : UInt8) (hM : M ≤ 1000) (hPM : (Ps.length : Int) ≤ M) (hs0 : 0 ≤ s) (hs1 : s ≤ 100000) (hl0 : 0 ≤ l) (hl1 : l ≤ 100000) (hc0 : 0 ≤ c) (hc1 : c ≤ 100000) (hn : n ≤ 300) (w : World) (hB : B0 ≤ w.heap.size) (hN : NetW B0 w g M s l c v Ps) (hR : RefW B0 w (.slice RA Qs.length RC) Qs) (hK : Ps.map Pk.key = Qs.map Pk.key) (hL : RdB B0 w A n cp L) (hi : ii < 0 ∨ (Ps.length : Int) ≤ ii) (hneg : aa < 0) :
    Calls Try.prog 15 #[.pointer (some ⟨g, 0, none⟩), .agg #[.int .i64 M, .slice RA Qs.length RC, .int .i64 s, .int .i64 c, .int .i64 l], .agg #[.int .i64 4, .int .i64 f, .int .i64 t, .slice A n cp, .int .i64 ii, .int .i64 aa, .int .u8 (bt.toNat : Int)]] w (RetD B0 g M s c l w) := by
  have HI := Lib.hid hi
  clear hi
  have hKL : Ps.length = Qs.length := by simpa using congrArg List.length hK
  have HN := Lib.hid hN
  have HR := Lib.hid hR
  have HK := Lib.hid hK
  have HKL := Lib.hid hKL
  have HL := Lib.hid hL
  have hgl := hN.lt
  clear hN hR hK hKL hL
  go_enter Try.func15, Try.ntmps15
  go_wp2_with fail
  refine (has_no M s c l RA Qs.length RC ii (by have := HKL.out; have := HI.out; omega) (by have := HKL.out; omega) _).mono ?_
  rintro e w1 ⟨rfl, hb1⟩
  have hb0 : Below w.heap.size w w1 := by (repeat' (first | (with_reducible exact Below.refl _ _) | (with_reducible assumption) | (with_reducible refine Below.alloc ?_ ?_ _) | (with_reducible refine bel_drewN ?_ _) | (with_reducible refine Below.drew ?_) | (with_reducible refine Below.setCell ?_ ?_ _) | (with_reducible refine bel_call ‹_› ?_ ?_) | go_size))
  have r1 := be_box hb1 (heap3 w (.cells #[.int .i64 M, .slice RA Qs.length RC, .int .i64 s, .int .i64 c, .int .i64 l] tRN) (.cells #[.int .i64 4, .int .i64 f, .int .i64 t, .slice A n cp, .int .i64 ii, .int .i64 aa, .int .u8 (bt.toNat : Int)] tAct) (.cells #[.int .i64 0, .slice none 0 0, .int .i64 0, .int .i64 0, .int .i64 0] tRN)).1
  have a1 := be_box hb1 (heap3 w (.cells #[.int .i64 M, .slice RA Qs.length RC, .int .i64 s, .int .i64 c, .int .i64 l] tRN) (.cells #[.int .i64 4, .int .i64 f, .int .i64 t, .slice A n cp, .int .i64 ii, .int .i64 aa, .int .u8 (bt.toNat : Int)] tAct) (.cells #[.int .i64 0, .slice none 0 0, .int .i64 0, .int .i64 0, .int .i64 0] tRN)).2.1
  have o1 := be_box hb1 (heap3 w (.cells #[.int .i64 M, .slice RA Qs.length RC, .int .i64 s, .int .i64 c, .int .i64 l] tRN) (.cells #[.int .i64 4, .int .i64 f, .int .i64 t, .slice A n cp, .int .i64 ii, .int .i64 aa, .int .u8 (bt.toNat : Int)] tAct) (.cells #[.int .i64 0, .slice none 0 0, .int .i64 0, .int .i64 0, .int .i64 0] tRN)).2.2
  have HB0 := Lib.hid hb0
  have HR1 := Lib.hid r1
  have HA1 := Lib.hid a1
  have HO1 := Lib.hid o1
  have hz1 : w.heap.size + 1 + 1 < w1.heap.size := tyAt_lt (tyAt_cells o1)
  obtain ⟨r0, r1, r2, r3, r4, rf⟩ := cells5 r1
  obtain ⟨p0, p1, p2, p3, p4, p5, p6, pf⟩ := cells7 a1
  obtain ⟨o0, o1, o2, o3, o4, of⟩ := cells5 o1
  clear hb0 hb1
  go_wp2_with fail
  refine (spoil_miss B0 g M s l c v Ps ii 0 bt.toNat HI.out (by omega) w1 (by omega) (HN.out.below HB0.out)).mono ?_
  rintro e w2 ⟨rfl, ⟨v2, N2⟩, F2⟩
  have HF2 := Lib.hid F2
  have HN2 := Lib.hid N2
  have r1' := fr_box F2 HR1.out (by decide) (by decide)
  have a1' := fr_box F2 HA1.out (by decide) (by decide)
  have o1' := fr_box F2 HO1.out (by decide) (by decide)
  have HR2 := Lib.hid r1'
  have HA2 := Lib.hid a1'
  have HO2 := Lib.hid o1'
  have hz2 : w1.heap.size ≤ w2.heap.size := F2.size
  have HW2 : Hid (RefW B0 w2 (.slice RA Qs.length RC) Qs) := (HR.out.below HB0.out).fr F2
  have HFW : Hid (Fr B0 w w2) := (Fr.of_below HB0.out).trans F2
  clear r0 r1 r2 r3 r4 rf p0 p1 p2 p3 p4 p5 p6 pf o0 o1 o2 o3 o4 of F2 N2
  obtain ⟨r0, r1, r2, r3, r4, rf⟩ := cells5 r1'
  obtain ⟨p0, p1, p2, p3, p4, p5, p6, pf⟩ := cells7 a1'
  obtain ⟨o0, o1, o2, o3, o4, of⟩ := cells5 o1'
  clear r1' a1' o1'
  go_wp2_with fail
  refine bodyPost_ret (v := .tuple #[.agg #[.int .i64 M, .slice RA Qs.length RC, .int .i64 s, .int .i64 c, .int .i64 l], .bool true]) (by simp [results, Try.results15, go_sem, o0, o1, o2, o3, o4]) rfl (does_close (b := w.heap.size + 1 + 1) HW2.out HN2.out HFW.out (tyAt_cells HO2.out) (by omega) hB HK.out hPM (by omega) (by omega) (by omega) (by omega) (by omega) (by omega))

set_option maxRecDepth 100000 in
set_option maxHeartbeats 4000000 in
theorem does_spoil_empty_neg (B0 g : Nat) (M s l c : Int) (v : Value) (Ps Qs : List Pk) (RA : Option Addr) (RC : Nat) (f t ii aa : Int) (A : Option Addr) (n cp : Nat) (L : List UInt8) (bt : UInt8) (hM : M ≤ 1000) (hPM : (Ps.length : Int) ≤ M) (hs0 : 0 ≤ s) (hs1 : s ≤ 100000) (hl0 : 0 ≤ l) (hl1 : l ≤ 100000) (hc0 : 0 ≤ c) (hc1 : c ≤ 100000) (hn : n ≤ 300) (w : World) (hB : B0 ≤ w.heap.size) (hN : NetW B0 w g M s l c v Ps) (hR : RefW B0 w (.slice RA Qs.length RC) Qs) (hK : Ps.map Pk.key = Qs.map Pk.key) (hL : RdB B0 w A n cp L) (k : Nat) (p q : Pk) (hp : Ps[k]? = some p) (hq : Qs[k]? = some q) (hz0 : p.n = 0) (hneg : aa < 0) :
    Calls Try.prog 15 #[.pointer (some ⟨g, 0, none⟩), .agg #[.int .i64 M, .slice RA Qs.length RC, .int .i64 s, .int .i64 c, .int .i64 l], .agg #[.int .i64 4, .int .i64 f, .int .i64 t, .slice A n cp, .int .i64 k, .int .i64 aa, .int .u8 (bt.toNat : Int)]] w (RetD B0 g M s c l w) := by
  have HQK : Hid (q.ok B0 w) := hR.pk q (List.mem_of_getElem? hq)
  have HPK : Hid (p.ok B0 w) := hN.pk p (List.mem_of_getElem? hp)
  have HKY : Hid (p.f = q.f ∧ p.t = q.t ∧ p.bs = q.bs) := key_parts (key_at hK hp hq)
  have HNN : Hid (p.n = q.n) := by have h1 := HPK.out.1.1; have h2 := HQK.out.1.1; have h3 := HKY.out.2.2; unfold Hid; rw [← h1, ← h2, h3]
  have HZ0 := Lib.hid hz0
  clear hz0
  have HP := Lib.hid hp
  have HQ := Lib.hid hq
  clear hp hq
  have hKL : Ps.length = Qs.length := by simpa using congrArg List.length hK
  have HN := Lib.hid hN
  have HR := Lib.hid hR
  have HK := Lib.hid hK
  have HKL := Lib.hid hKL
  have HL := Lib.hid hL
  have hgl := hN.lt
  clear hN hR hK hKL hL
  go_enter Try.func15, Try.ntmps15
  go_wp2_with fail
  refine (has_yes M s c l RA Qs.length RC k (by have := (List.getElem?_eq_some_iff.1 HQ.out).1; omega) (by have := HKL.out; omega) _).mono ?_
  rintro e w1 ⟨rfl, hb1⟩
  have hb0 : Below w.heap.size w w1 := by (repeat' (first | (with_reducible exact Below.refl _ _) | (with_reducible assumption) | (with_reducible refine Below.alloc ?_ ?_ _) | (with_reducible refine bel_drewN ?_ _) | (with_reducible refine Below.drew ?_) | (with_reducible refine Below.setCell ?_ ?_ _) | (with_reducible refine bel_call ‹_› ?_ ?_) | go_size))
  have r1 := be_box hb1 (heap3 w (.cells #[.int .i64 M, .slice RA Qs.length RC, .int .i64 s, .int .i64 c, .int .i64 l] tRN) (.cells #[.int .i64 4, .int .i64 f, .int .i64 t, .slice A n cp, .int .i64 k, .int .i64 aa, .int .u8 (bt.toNat : Int)] tAct) (.cells #[.int .i64 0, .slice none 0 0, .int .i64 0, .int .i64 0, .int .i64 0] tRN)).1
  have a1 := be_box hb1 (heap3 w (.cells #[.int .i64 M, .slice RA Qs.length RC, .int .i64 s, .int .i64 c, .int .i64 l] tRN) (.cells #[.int .i64 4, .int .i64 f, .int .i64 t, .slice A n cp, .int .i64 k, .int .i64 aa, .int .u8 (bt.toNat : Int)] tAct) (.cells #[.int .i64 0, .slice none 0 0, .int .i64 0, .int .i64 0, .int .i64 0] tRN)).2.1
  have o1 := be_box hb1 (heap3 w (.cells #[.int .i64 M, .slice RA Qs.length RC, .int .i64 s, .int .i64 c, .int .i64 l] tRN) (.cells #[.int .i64 4, .int .i64 f, .int .i64 t, .slice A n cp, .int .i64 k, .int .i64 aa, .int .u8 (bt.toNat : Int)] tAct) (.cells #[.int .i64 0, .slice none 0 0, .int .i64 0, .int .i64 0, .int .i64 0] tRN)).2.2
  have HB0 := Lib.hid hb0
  have HR1 := Lib.hid r1
  have HA1 := Lib.hid a1
  have HO1 := Lib.hid o1
  have hz1 : w.heap.size + 1 + 1 < w1.heap.size := tyAt_lt (tyAt_cells o1)
  obtain ⟨r0, r1, r2, r3, r4, rf⟩ := cells5 r1
  obtain ⟨p0, p1, p2, p3, p4, p5, p6, pf⟩ := cells7 a1
  obtain ⟨o0, o1, o2, o3, o4, of⟩ := cells5 o1
  clear hb0 hb1
  go_wp2_with fail
  refine (spoil_empty B0 g M s l c v Ps k 0 bt.toNat p HP.out HZ0.out (by omega) w1 (by omega) (HN.out.below HB0.out)).mono ?_
  rintro e w2 ⟨rfl, ⟨v2, N2⟩, F2⟩
  have HF2 := Lib.hid F2
  have HN2 := Lib.hid N2
  have r1' := fr_box F2 HR1.out (by decide) (by decide)
  have a1' := fr_box F2 HA1.out (by decide) (by decide)
  have o1' := fr_box F2 HO1.out (by decide) (by decide)
  have HR2 := Lib.hid r1'
  have HA2 := Lib.hid a1'
  have HO2 := Lib.hid o1'
  have hz2 : w1.heap.size ≤ w2.heap.size := F2.size
  have HW2 : Hid (RefW B0 w2 (.slice RA Qs.length RC) Qs) := (HR.out.below HB0.out).fr F2
  have HFW : Hid (Fr B0 w w2) := (Fr.of_below HB0.out).trans F2
  clear r0 r1 r2 r3 r4 rf p0 p1 p2 p3 p4 p5 p6 pf o0 o1 o2 o3 o4 of F2 N2
  obtain ⟨r0, r1, r2, r3, r4, rf⟩ := cells5 r1'
  obtain ⟨p0, p1, p2, p3, p4, p5, p6, pf⟩ := cells7 a1'
  obtain ⟨o0, o1, o2, o3, o4, of⟩ := cells5 o1'
  clear r1' a1' o1'
  have hk0 : k < Qs.length := (List.getElem?_eq_some_iff.1 HQ.out).1
  obtain ⟨rr, rc, hv, hrc, hrm, hrl, hrB, hrt, _, key⟩ := own_row HW2.out.own (by omega)
  cases hv
  have k2 : w2.cell? ⟨rr, k * 3 + 2, none⟩ = some (.slice q.A q.n q.c) := key _ _ (flat_at Qs k _ HQ.out 2 (by omega))
  have g4 : (k : Int) < (Qs.length : Int) := by omega
  clear key hrt
  unfold maxLen at hrm
  have hqn : q.n = 0 := by rw [← HNN.out]; exact HZ0.out
  rw [hqn] at k2
  clear hqn
  go_wp2_with fail
  refine bodyPost_ret (v := .tuple #[.agg #[.int .i64 M, .slice (some ⟨rr, 0, none⟩) Qs.length RC, .int .i64 s, .int .i64 c, .int .i64 l], .bool true]) (by simp [results, Try.results15, go_sem, o0, o1, o2, o3, o4]) rfl (does_close (b := w.heap.size + 1 + 1) HW2.out HN2.out HFW.out (tyAt_cells HO2.out) (by omega) hB HK.out hPM (by omega) (by omega) (by omega) (by omega) (by omega) (by omega))

set_option maxRecDepth 100000 in
set_option maxHeartbeats 4000000 in
theorem does_spoil_ok_neg (B0 g : Nat) (M s l c : Int) (v : Value) (Ps Qs : List Pk) (RA : Option Addr) (RC : Nat) (f t ii aa : Int) (A : Option Addr) (n cp : Nat) (L : List UInt8) (bt : UInt8) (hM : M ≤ 1000) (hPM : (Ps.length : Int) ≤ M) (hs0 : 0 ≤ s) (hs1 : s ≤ 100000) (hl0 : 0 ≤ l) (hl1 : l ≤ 100000) (hc0 : 0 ≤ c) (hc1 : c ≤ 100000) (hn : n ≤ 300) (w : World) (hB : B0 ≤ w.heap.size) (hN : NetW B0 w g M s l c v Ps) (hR : RefW B0 w (.slice RA Qs.length RC) Qs) (hK : Ps.map Pk.key = Qs.map Pk.key) (hL : RdB B0 w A n cp L) (k : Nat) (p q : Pk) (hp : Ps[k]? = some p) (hq : Qs[k]? = some q) (hz0 : 0 < p.n) (hneg : aa < 0) :
    Calls Try.prog 15 #[.pointer (some ⟨g, 0, none⟩), .agg #[.int .i64 M, .slice RA Qs.length RC, .int .i64 s, .int .i64 c, .int .i64 l], .agg #[.int .i64 4, .int .i64 f, .int .i64 t, .slice A n cp, .int .i64 k, .int .i64 aa, .int .u8 (bt.toNat : Int)]] w (RetD B0 g M s c l w) := by
  have HQK : Hid (q.ok B0 w) := hR.pk q (List.mem_of_getElem? hq)
  have HPK : Hid (p.ok B0 w) := hN.pk p (List.mem_of_getElem? hp)
  have HKY : Hid (p.f = q.f ∧ p.t = q.t ∧ p.bs = q.bs) := key_parts (key_at hK hp hq)
  have HNN : Hid (p.n = q.n) := by have h1 := HPK.out.1.1; have h2 := HQK.out.1.1; have h3 := HKY.out.2.2; unfold Hid; rw [← h1, ← h2, h3]
  have HZ0 := Lib.hid hz0
  clear hz0
  have HP := Lib.hid hp
  have HQ := Lib.hid hq
  clear hp hq
  have hKL : Ps.length = Qs.length := by simpa using congrArg List.length hK
  have HN := Lib.hid hN
  have HR := Lib.hid hR
  have HK := Lib.hid hK
  have HKL := Lib.hid hKL
  have HL := Lib.hid hL
  have hgl := hN.lt
  clear hN hR hK hKL hL
  go_enter Try.func15, Try.ntmps15
  go_wp2_with fail
  refine (has_yes M s c l RA Qs.length RC k (by have := (List.getElem?_eq_some_iff.1 HQ.out).1; omega) (by have := HKL.out; omega) _).mono ?_
  rintro e w1 ⟨rfl, hb1⟩
  have hb0 : Below w.heap.size w w1 := by (repeat' (first | (with_reducible exact Below.refl _ _) | (with_reducible assumption) | (with_reducible refine Below.alloc ?_ ?_ _) | (with_reducible refine bel_drewN ?_ _) | (with_reducible refine Below.drew ?_) | (with_reducible refine Below.setCell ?_ ?_ _) | (with_reducible refine bel_call ‹_› ?_ ?_) | go_size))
  have r1 := be_box hb1 (heap3 w (.cells #[.int .i64 M, .slice RA Qs.length RC, .int .i64 s, .int .i64 c, .int .i64 l] tRN) (.cells #[.int .i64 4, .int .i64 f, .int .i64 t, .slice A n cp, .int .i64 k, .int .i64 aa, .int .u8 (bt.toNat : Int)] tAct) (.cells #[.int .i64 0, .slice none 0 0, .int .i64 0, .int .i64 0, .int .i64 0] tRN)).1
  have a1 := be_box hb1 (heap3 w (.cells #[.int .i64 M, .slice RA Qs.length RC, .int .i64 s, .int .i64 c, .int .i64 l] tRN) (.cells #[.int .i64 4, .int .i64 f, .int .i64 t, .slice A n cp, .int .i64 k, .int .i64 aa, .int .u8 (bt.toNat : Int)] tAct) (.cells #[.int .i64 0, .slice none 0 0, .int .i64 0, .int .i64 0, .int .i64 0] tRN)).2.1
  have o1 := be_box hb1 (heap3 w (.cells #[.int .i64 M, .slice RA Qs.length RC, .int .i64 s, .int .i64 c, .int .i64 l] tRN) (.cells #[.int .i64 4, .int .i64 f, .int .i64 t, .slice A n cp, .int .i64 k, .int .i64 aa, .int .u8 (bt.toNat : Int)] tAct) (.cells #[.int .i64 0, .slice none 0 0, .int .i64 0, .int .i64 0, .int .i64 0] tRN)).2.2
  have HB0 := Lib.hid hb0
  have HR1 := Lib.hid r1
  have HA1 := Lib.hid a1
  have HO1 := Lib.hid o1
  have hz1 : w.heap.size + 1 + 1 < w1.heap.size := tyAt_lt (tyAt_cells o1)
  obtain ⟨r0, r1, r2, r3, r4, rf⟩ := cells5 r1
  obtain ⟨p0, p1, p2, p3, p4, p5, p6, pf⟩ := cells7 a1
  obtain ⟨o0, o1, o2, o3, o4, of⟩ := cells5 o1
  clear hb0 hb1
  go_wp2_with fail
  refine (spoil_ok B0 g M s l c v Ps k 0 bt p HP.out HZ0.out (by omega) (by omega) w1 (by omega) (HN.out.below HB0.out)).mono ?_
  rintro e w2 ⟨rfl, q2, hq1, hq2, hq3, ⟨v2, N2⟩, F2⟩
  have HQ2 : Hid (q2.f = p.f ∧ q2.t = p.t ∧ q2.bs = p.bs.set (0 % p.n) (p.bs.getD (0 % p.n) 0 ^^^ bt)) := ⟨hq1, hq2, hq3⟩
  clear hq1 hq2 hq3
  have HF2 := Lib.hid F2
  have HN2 := Lib.hid N2
  have r1' := fr_box F2 HR1.out (by decide) (by decide)
  have a1' := fr_box F2 HA1.out (by decide) (by decide)
  have o1' := fr_box F2 HO1.out (by decide) (by decide)
  have HR2 := Lib.hid r1'
  have HA2 := Lib.hid a1'
  have HO2 := Lib.hid o1'
  have hz2 : w1.heap.size ≤ w2.heap.size := F2.size
  have HW2 : Hid (RefW B0 w2 (.slice RA Qs.length RC) Qs) := (HR.out.below HB0.out).fr F2
  have HFW : Hid (Fr B0 w w2) := (Fr.of_below HB0.out).trans F2
  clear r0 r1 r2 r3 r4 rf p0 p1 p2 p3 p4 p5 p6 pf o0 o1 o2 o3 o4 of F2 N2
  obtain ⟨r0, r1, r2, r3, r4, rf⟩ := cells5 r1'
  obtain ⟨p0, p1, p2, p3, p4, p5, p6, pf⟩ := cells7 a1'
  obtain ⟨o0, o1, o2, o3, o4, of⟩ := cells5 o1'
  clear r1' a1' o1'
  have hk0 : k < Qs.length := (List.getElem?_eq_some_iff.1 HQ.out).1
  obtain ⟨rr, rc, hv, hrc, hrm, hrl, hrB, hrt, _, key⟩ := own_row HW2.out.own (by omega)
  cases hv
  have k2 : w2.cell? ⟨rr, k * 3 + 2, none⟩ = some (.slice q.A q.n q.c) := key _ _ (flat_at Qs k _ HQ.out 2 (by omega))
  have g4 : (k : Int) < (Qs.length : Int) := by omega
  clear key hrt
  unfold maxLen at hrm
  have hqn : 0 < q.n := by rw [← HNN.out]; exact HZ0.out
  have g6 : ((q.n : Int) == 0) = false := by simp; omega
  go_wp2_with fail
  refine (ref_spoil B0 M s c l (.slice (some ⟨rr, 0, none⟩) Qs.length RC) Qs k 0 bt q HQ.out hqn (by omega) (by have := HKL.out; omega) _ (by omega) HW2.out).mono ?_
  rintro e w4 ⟨q4, hq1, hq2, hq3, A4, n4, cap4, rfl, W4, hb4⟩
  have HQ4 : Hid (q2.key = q4.key) := by
    obtain ⟨a1, a2, a3⟩ := HQ2.out
    obtain ⟨c1, c2, c3⟩ := HKY.out
    unfold Hid Pk.key
    rw [a1, a2, a3, hq1, hq2, hq3, c1, c2, c3, HNN.out]
  have z := be_box hb4 HO2.out
  have HZ := Lib.hid z
  have HB4 := Lib.hid hb4
  have HW4 := Lib.hid W4
  obtain ⟨z0, z1, z2, z3, z4, zf⟩ := cells5 z
  clear z hb4 W4 hq1 hq2 hq3
  go_wp2_with fail
  refine bodyPost_ret (v := .tuple #[.agg #[.int .i64 M, .slice A4 n4 cap4, .int .i64 s, .int .i64 c, .int .i64 l], .bool true]) (by simp [results, Try.results15, go_sem, z0, z1, z2, z3, z4]) rfl (does_close (b := w.heap.size + 1 + 1) HW4.out (HN2.out.below HB4.out) (HFW.out.trans (.of_below HB4.out)) (tyAt_cells HZ.out) (by omega) hB (key_set HK.out HQ4.out k) (by simpa using hPM) (by omega) (by omega) (by omega) (by omega) (by omega) (by omega))

set_option maxRecDepth 100000 in
set_option maxHeartbeats 4000000 in
theorem does_spoil_miss_pos (B0 g : Nat) (M s l c : Int) (v : Value) (Ps Qs : List Pk) (RA : Option Addr) (RC : Nat) (f t ii aa : Int) (A : Option Addr) (n cp : Nat) (L : List UInt8) (bt : UInt8) (hM : M ≤ 1000) (hPM : (Ps.length : Int) ≤ M) (hs0 : 0 ≤ s) (hs1 : s ≤ 100000) (hl0 : 0 ≤ l) (hl1 : l ≤ 100000) (hc0 : 0 ≤ c) (hc1 : c ≤ 100000) (hn : n ≤ 300) (w : World) (hB : B0 ≤ w.heap.size) (hN : NetW B0 w g M s l c v Ps) (hR : RefW B0 w (.slice RA Qs.length RC) Qs) (hK : Ps.map Pk.key = Qs.map Pk.key) (hL : RdB B0 w A n cp L) (hi : ii < 0 ∨ (Ps.length : Int) ≤ ii) (a : Nat) (ha : a ≤ 9223372036854775807) :
    Calls Try.prog 15 #[.pointer (some ⟨g, 0, none⟩), .agg #[.int .i64 M, .slice RA Qs.length RC, .int .i64 s, .int .i64 c, .int .i64 l], .agg #[.int .i64 4, .int .i64 f, .int .i64 t, .slice A n cp, .int .i64 ii, .int .i64 a, .int .u8 (bt.toNat : Int)]] w (RetD B0 g M s c l w) := by
  have HI := Lib.hid hi
  clear hi
  have hKL : Ps.length = Qs.length := by simpa using congrArg List.length hK
  have HN := Lib.hid hN
  have HR := Lib.hid hR
  have HK := Lib.hid hK
  have HKL := Lib.hid hKL
  have HL := Lib.hid hL
  have hgl := hN.lt
  clear hN hR hK hKL hL
  go_enter Try.func15, Try.ntmps15
  go_wp2_with fail
  refine (has_no M s c l RA Qs.length RC ii (by have := HKL.out; have := HI.out; omega) (by have := HKL.out; omega) _).mono ?_
  rintro e w1 ⟨rfl, hb1⟩
  have hb0 : Below w.heap.size w w1 := by (repeat' (first | (with_reducible exact Below.refl _ _) | (with_reducible assumption) | (with_reducible refine Below.alloc ?_ ?_ _) | (with_reducible refine bel_drewN ?_ _) | (with_reducible refine Below.drew ?_) | (with_reducible refine Below.setCell ?_ ?_ _) | (with_reducible refine bel_call ‹_› ?_ ?_) | go_size))
  have r1 := be_box hb1 (heap3 w (.cells #[.int .i64 M, .slice RA Qs.length RC, .int .i64 s, .int .i64 c, .int .i64 l] tRN) (.cells #[.int .i64 4, .int .i64 f, .int .i64 t, .slice A n cp, .int .i64 ii, .int .i64 a, .int .u8 (bt.toNat : Int)] tAct) (.cells #[.int .i64 0, .slice none 0 0, .int .i64 0, .int .i64 0, .int .i64 0] tRN)).1
  have a1 := be_box hb1 (heap3 w (.cells #[.int .i64 M, .slice RA Qs.length RC, .int .i64 s, .int .i64 c, .int .i64 l] tRN) (.cells #[.int .i64 4, .int .i64 f, .int .i64 t, .slice A n cp, .int .i64 ii, .int .i64 a, .int .u8 (bt.toNat : Int)] tAct) (.cells #[.int .i64 0, .slice none 0 0, .int .i64 0, .int .i64 0, .int .i64 0] tRN)).2.1
  have o1 := be_box hb1 (heap3 w (.cells #[.int .i64 M, .slice RA Qs.length RC, .int .i64 s, .int .i64 c, .int .i64 l] tRN) (.cells #[.int .i64 4, .int .i64 f, .int .i64 t, .slice A n cp, .int .i64 ii, .int .i64 a, .int .u8 (bt.toNat : Int)] tAct) (.cells #[.int .i64 0, .slice none 0 0, .int .i64 0, .int .i64 0, .int .i64 0] tRN)).2.2
  have HB0 := Lib.hid hb0
  have HR1 := Lib.hid r1
  have HA1 := Lib.hid a1
  have HO1 := Lib.hid o1
  have hz1 : w.heap.size + 1 + 1 < w1.heap.size := tyAt_lt (tyAt_cells o1)
  obtain ⟨r0, r1, r2, r3, r4, rf⟩ := cells5 r1
  obtain ⟨p0, p1, p2, p3, p4, p5, p6, pf⟩ := cells7 a1
  obtain ⟨o0, o1, o2, o3, o4, of⟩ := cells5 o1
  clear hb0 hb1
  go_wp2_with fail
  refine (spoil_miss B0 g M s l c v Ps ii a bt.toNat HI.out (by omega) w1 (by omega) (HN.out.below HB0.out)).mono ?_
  rintro e w2 ⟨rfl, ⟨v2, N2⟩, F2⟩
  have HF2 := Lib.hid F2
  have HN2 := Lib.hid N2
  have r1' := fr_box F2 HR1.out (by decide) (by decide)
  have a1' := fr_box F2 HA1.out (by decide) (by decide)
  have o1' := fr_box F2 HO1.out (by decide) (by decide)
  have HR2 := Lib.hid r1'
  have HA2 := Lib.hid a1'
  have HO2 := Lib.hid o1'
  have hz2 : w1.heap.size ≤ w2.heap.size := F2.size
  have HW2 : Hid (RefW B0 w2 (.slice RA Qs.length RC) Qs) := (HR.out.below HB0.out).fr F2
  have HFW : Hid (Fr B0 w w2) := (Fr.of_below HB0.out).trans F2
  clear r0 r1 r2 r3 r4 rf p0 p1 p2 p3 p4 p5 p6 pf o0 o1 o2 o3 o4 of F2 N2
  obtain ⟨r0, r1, r2, r3, r4, rf⟩ := cells5 r1'
  obtain ⟨p0, p1, p2, p3, p4, p5, p6, pf⟩ := cells7 a1'
  obtain ⟨o0, o1, o2, o3, o4, of⟩ := cells5 o1'
  clear r1' a1' o1'
  go_wp2_with fail
  refine bodyPost_ret (v := .tuple #[.agg #[.int .i64 M, .slice RA Qs.length RC, .int .i64 s, .int .i64 c, .int .i64 l], .bool true]) (by simp [results, Try.results15, go_sem, o0, o1, o2, o3, o4]) rfl (does_close (b := w.heap.size + 1 + 1) HW2.out HN2.out HFW.out (tyAt_cells HO2.out) (by omega) hB HK.out hPM (by omega) (by omega) (by omega) (by omega) (by omega) (by omega))

set_option maxRecDepth 100000 in
set_option maxHeartbeats 4000000 in
theorem does_spoil_empty_pos (B0 g : Nat) (M s l c : Int) (v : Value) (Ps Qs : List Pk) (RA : Option Addr) (RC : Nat) (f t ii aa : Int) (A : Option Addr) (n cp : Nat) (L : List UInt8) (bt : UInt8) (hM : M ≤ 1000) (hPM : (Ps.length : Int) ≤ M) (hs0 : 0 ≤ s) (hs1 : s ≤ 100000) (hl0 : 0 ≤ l) (hl1 : l ≤ 100000) (hc0 : 0 ≤ c) (hc1 : c ≤ 100000) (hn : n ≤ 300) (w : World) (hB : B0 ≤ w.heap.size) (hN : NetW B0 w g M s l c v Ps) (hR : RefW B0 w (.slice RA Qs.length RC) Qs) (hK : Ps.map Pk.key = Qs.map Pk.key) (hL : RdB B0 w A n cp L) (k : Nat) (p q : Pk) (hp : Ps[k]? = some p) (hq : Qs[k]? = some q) (hz0 : p.n = 0) (a : Nat) (ha : a ≤ 9223372036854775807) :
    Calls Try.prog 15 #[.pointer (some ⟨g, 0, none⟩), .agg #[.int .i64 M, .slice RA Qs.length RC, .int .i64 s, .int .i64 c, .int .i64 l], .agg #[.int .i64 4, .int .i64 f, .int .i64 t, .slice A n cp, .int .i64 k, .int .i64 a, .int .u8 (bt.toNat : Int)]] w (RetD B0 g M s c l w) := by
  have HQK : Hid (q.ok B0 w) := hR.pk q (List.mem_of_getElem? hq)
  have HPK : Hid (p.ok B0 w) := hN.pk p (List.mem_of_getElem? hp)
  have HKY : Hid (p.f = q.f ∧ p.t = q.t ∧ p.bs = q.bs) := key_parts (key_at hK hp hq)
  have HNN : Hid (p.n = q.n) := by have h1 := HPK.out.1.1; have h2 := HQK.out.1.1; have h3 := HKY.out.2.2; unfold Hid; rw [← h1, ← h2, h3]
  have HZ0 := Lib.hid hz0
  clear hz0
  have HP := Lib.hid hp
  have HQ := Lib.hid hq
  clear hp hq
  have hKL : Ps.length = Qs.length := by simpa using congrArg List.length hK
  have HN := Lib.hid hN
  have HR := Lib.hid hR
  have HK := Lib.hid hK
  have HKL := Lib.hid hKL
  have HL := Lib.hid hL
  have hgl := hN.lt
  clear hN hR hK hKL hL
  go_enter Try.func15, Try.ntmps15
  go_wp2_with fail
  refine (has_yes M s c l RA Qs.length RC k (by have := (List.getElem?_eq_some_iff.1 HQ.out).1; omega) (by have := HKL.out; omega) _).mono ?_
  rintro e w1 ⟨rfl, hb1⟩
  have hb0 : Below w.heap.size w w1 := by (repeat' (first | (with_reducible exact Below.refl _ _) | (with_reducible assumption) | (with_reducible refine Below.alloc ?_ ?_ _) | (with_reducible refine bel_drewN ?_ _) | (with_reducible refine Below.drew ?_) | (with_reducible refine Below.setCell ?_ ?_ _) | (with_reducible refine bel_call ‹_› ?_ ?_) | go_size))
  have r1 := be_box hb1 (heap3 w (.cells #[.int .i64 M, .slice RA Qs.length RC, .int .i64 s, .int .i64 c, .int .i64 l] tRN) (.cells #[.int .i64 4, .int .i64 f, .int .i64 t, .slice A n cp, .int .i64 k, .int .i64 a, .int .u8 (bt.toNat : Int)] tAct) (.cells #[.int .i64 0, .slice none 0 0, .int .i64 0, .int .i64 0, .int .i64 0] tRN)).1
  have a1 := be_box hb1 (heap3 w (.cells #[.int .i64 M, .slice RA Qs.length RC, .int .i64 s, .int .i64 c, .int .i64 l] tRN) (.cells #[.int .i64 4, .int .i64 f, .int .i64 t, .slice A n cp, .int .i64 k, .int .i64 a, .int .u8 (bt.toNat : Int)] tAct) (.cells #[.int .i64 0, .slice none 0 0, .int .i64 0, .int .i64 0, .int .i64 0] tRN)).2.1
  have o1 := be_box hb1 (heap3 w (.cells #[.int .i64 M, .slice RA Qs.length RC, .int .i64 s, .int .i64 c, .int .i64 l] tRN) (.cells #[.int .i64 4, .int .i64 f, .int .i64 t, .slice A n cp, .int .i64 k, .int .i64 a, .int .u8 (bt.toNat : Int)] tAct) (.cells #[.int .i64 0, .slice none 0 0, .int .i64 0, .int .i64 0, .int .i64 0] tRN)).2.2
  have HB0 := Lib.hid hb0
  have HR1 := Lib.hid r1
  have HA1 := Lib.hid a1
  have HO1 := Lib.hid o1
  have hz1 : w.heap.size + 1 + 1 < w1.heap.size := tyAt_lt (tyAt_cells o1)
  obtain ⟨r0, r1, r2, r3, r4, rf⟩ := cells5 r1
  obtain ⟨p0, p1, p2, p3, p4, p5, p6, pf⟩ := cells7 a1
  obtain ⟨o0, o1, o2, o3, o4, of⟩ := cells5 o1
  clear hb0 hb1
  go_wp2_with fail
  refine (spoil_empty B0 g M s l c v Ps k a bt.toNat p HP.out HZ0.out (by omega) w1 (by omega) (HN.out.below HB0.out)).mono ?_
  rintro e w2 ⟨rfl, ⟨v2, N2⟩, F2⟩
  have HF2 := Lib.hid F2
  have HN2 := Lib.hid N2
  have r1' := fr_box F2 HR1.out (by decide) (by decide)
  have a1' := fr_box F2 HA1.out (by decide) (by decide)
  have o1' := fr_box F2 HO1.out (by decide) (by decide)
  have HR2 := Lib.hid r1'
  have HA2 := Lib.hid a1'
  have HO2 := Lib.hid o1'
  have hz2 : w1.heap.size ≤ w2.heap.size := F2.size
  have HW2 : Hid (RefW B0 w2 (.slice RA Qs.length RC) Qs) := (HR.out.below HB0.out).fr F2
  have HFW : Hid (Fr B0 w w2) := (Fr.of_below HB0.out).trans F2
  clear r0 r1 r2 r3 r4 rf p0 p1 p2 p3 p4 p5 p6 pf o0 o1 o2 o3 o4 of F2 N2
  obtain ⟨r0, r1, r2, r3, r4, rf⟩ := cells5 r1'
  obtain ⟨p0, p1, p2, p3, p4, p5, p6, pf⟩ := cells7 a1'
  obtain ⟨o0, o1, o2, o3, o4, of⟩ := cells5 o1'
  clear r1' a1' o1'
  have hk0 : k < Qs.length := (List.getElem?_eq_some_iff.1 HQ.out).1
  obtain ⟨rr, rc, hv, hrc, hrm, hrl, hrB, hrt, _, key⟩ := own_row HW2.out.own (by omega)
  cases hv
  have k2 : w2.cell? ⟨rr, k * 3 + 2, none⟩ = some (.slice q.A q.n q.c) := key _ _ (flat_at Qs k _ HQ.out 2 (by omega))
  have g4 : (k : Int) < (Qs.length : Int) := by omega
  clear key hrt
  unfold maxLen at hrm
  have hqn : q.n = 0 := by rw [← HNN.out]; exact HZ0.out
  rw [hqn] at k2
  clear hqn
  go_wp2_with fail
  refine bodyPost_ret (v := .tuple #[.agg #[.int .i64 M, .slice (some ⟨rr, 0, none⟩) Qs.length RC, .int .i64 s, .int .i64 c, .int .i64 l], .bool true]) (by simp [results, Try.results15, go_sem, o0, o1, o2, o3, o4]) rfl (does_close (b := w.heap.size + 1 + 1) HW2.out HN2.out HFW.out (tyAt_cells HO2.out) (by omega) hB HK.out hPM (by omega) (by omega) (by omega) (by omega) (by omega) (by omega))

set_option maxRecDepth 100000 in
set_option maxHeartbeats 4000000 in
theorem does_spoil_ok_pos (B0 g : Nat) (M s l c : Int) (v : Value) (Ps Qs : List Pk) (RA : Option Addr) (RC : Nat) (f t ii aa : Int) (A : Option Addr) (n cp : Nat) (L : List UInt8) (bt : UInt8) (hM : M ≤ 1000) (hPM : (Ps.length : Int) ≤ M) (hs0 : 0 ≤ s) (hs1 : s ≤ 100000) (hl0 : 0 ≤ l) (hl1 : l ≤ 100000) (hc0 : 0 ≤ c) (hc1 : c ≤ 100000) (hn : n ≤ 300) (w : World) (hB : B0 ≤ w.heap.size) (hN : NetW B0 w g M s l c v Ps) (hR : RefW B0 w (.slice RA Qs.length RC) Qs) (hK : Ps.map Pk.key = Qs.map Pk.key) (hL : RdB B0 w A n cp L) (k : Nat) (p q : Pk) (hp : Ps[k]? = some p) (hq : Qs[k]? = some q) (hz0 : 0 < p.n) (a : Nat) (ha : a ≤ 9223372036854775807) :
    Calls Try.prog 15 #[.pointer (some ⟨g, 0, none⟩), .agg #[.int .i64 M, .slice RA Qs.length RC, .int .i64 s, .int .i64 c, .int .i64 l], .agg #[.int .i64 4, .int .i64 f, .int .i64 t, .slice A n cp, .int .i64 k, .int .i64 a, .int .u8 (bt.toNat : Int)]] w (RetD B0 g M s c l w) := by
  have HQK : Hid (q.ok B0 w) := hR.pk q (List.mem_of_getElem? hq)
  have HPK : Hid (p.ok B0 w) := hN.pk p (List.mem_of_getElem? hp)
  have HKY : Hid (p.f = q.f ∧ p.t = q.t ∧ p.bs = q.bs) := key_parts (key_at hK hp hq)
  have HNN : Hid (p.n = q.n) := by have h1 := HPK.out.1.1; have h2 := HQK.out.1.1; have h3 := HKY.out.2.2; unfold Hid; rw [← h1, ← h2, h3]
  have HZ0 := Lib.hid hz0
  clear hz0
  have HP := Lib.hid hp
  have HQ := Lib.hid hq
  clear hp hq
  have hKL : Ps.length = Qs.length := by simpa using congrArg List.length hK
  have HN := Lib.hid hN
  have HR := Lib.hid hR
  have HK := Lib.hid hK
  have HKL := Lib.hid hKL
  have HL := Lib.hid hL
  have hgl := hN.lt
  clear hN hR hK hKL hL
  go_enter Try.func15, Try.ntmps15
  go_wp2_with fail
  refine (has_yes M s c l RA Qs.length RC k (by have := (List.getElem?_eq_some_iff.1 HQ.out).1; omega) (by have := HKL.out; omega) _).mono ?_
  rintro e w1 ⟨rfl, hb1⟩
  have hb0 : Below w.heap.size w w1 := by (repeat' (first | (with_reducible exact Below.refl _ _) | (with_reducible assumption) | (with_reducible refine Below.alloc ?_ ?_ _) | (with_reducible refine bel_drewN ?_ _) | (with_reducible refine Below.drew ?_) | (with_reducible refine Below.setCell ?_ ?_ _) | (with_reducible refine bel_call ‹_› ?_ ?_) | go_size))
  have r1 := be_box hb1 (heap3 w (.cells #[.int .i64 M, .slice RA Qs.length RC, .int .i64 s, .int .i64 c, .int .i64 l] tRN) (.cells #[.int .i64 4, .int .i64 f, .int .i64 t, .slice A n cp, .int .i64 k, .int .i64 a, .int .u8 (bt.toNat : Int)] tAct) (.cells #[.int .i64 0, .slice none 0 0, .int .i64 0, .int .i64 0, .int .i64 0] tRN)).1
  have a1 := be_box hb1 (heap3 w (.cells #[.int .i64 M, .slice RA Qs.length RC, .int .i64 s, .int .i64 c, .int .i64 l] tRN) (.cells #[.int .i64 4, .int .i64 f, .int .i64 t, .slice A n cp, .int .i64 k, .int .i64 a, .int .u8 (bt.toNat : Int)] tAct) (.cells #[.int .i64 0, .slice none 0 0, .int .i64 0, .int .i64 0, .int .i64 0] tRN)).2.1
  have o1 := be_box hb1 (heap3 w (.cells #[.int .i64 M, .slice RA Qs.length RC, .int .i64 s, .int .i64 c, .int .i64 l] tRN) (.cells #[.int .i64 4, .int .i64 f, .int .i64 t, .slice A n cp, .int .i64 k, .int .i64 a, .int .u8 (bt.toNat : Int)] tAct) (.cells #[.int .i64 0, .slice none 0 0, .int .i64 0, .int .i64 0, .int .i64 0] tRN)).2.2
  have HB0 := Lib.hid hb0
  have HR1 := Lib.hid r1
  have HA1 := Lib.hid a1
  have HO1 := Lib.hid o1
  have hz1 : w.heap.size + 1 + 1 < w1.heap.size := tyAt_lt (tyAt_cells o1)
  obtain ⟨r0, r1, r2, r3, r4, rf⟩ := cells5 r1
  obtain ⟨p0, p1, p2, p3, p4, p5, p6, pf⟩ := cells7 a1
  obtain ⟨o0, o1, o2, o3, o4, of⟩ := cells5 o1
  clear hb0 hb1
  go_wp2_with fail
  refine (spoil_ok B0 g M s l c v Ps k a bt p HP.out HZ0.out ha (by omega) w1 (by omega) (HN.out.below HB0.out)).mono ?_
  rintro e w2 ⟨rfl, q2, hq1, hq2, hq3, ⟨v2, N2⟩, F2⟩
  have HQ2 : Hid (q2.f = p.f ∧ q2.t = p.t ∧ q2.bs = p.bs.set (a % p.n) (p.bs.getD (a % p.n) 0 ^^^ bt)) := ⟨hq1, hq2, hq3⟩
  clear hq1 hq2 hq3
  have HF2 := Lib.hid F2
  have HN2 := Lib.hid N2
  have r1' := fr_box F2 HR1.out (by decide) (by decide)
  have a1' := fr_box F2 HA1.out (by decide) (by decide)
  have o1' := fr_box F2 HO1.out (by decide) (by decide)
  have HR2 := Lib.hid r1'
  have HA2 := Lib.hid a1'
  have HO2 := Lib.hid o1'
  have hz2 : w1.heap.size ≤ w2.heap.size := F2.size
  have HW2 : Hid (RefW B0 w2 (.slice RA Qs.length RC) Qs) := (HR.out.below HB0.out).fr F2
  have HFW : Hid (Fr B0 w w2) := (Fr.of_below HB0.out).trans F2
  clear r0 r1 r2 r3 r4 rf p0 p1 p2 p3 p4 p5 p6 pf o0 o1 o2 o3 o4 of F2 N2
  obtain ⟨r0, r1, r2, r3, r4, rf⟩ := cells5 r1'
  obtain ⟨p0, p1, p2, p3, p4, p5, p6, pf⟩ := cells7 a1'
  obtain ⟨o0, o1, o2, o3, o4, of⟩ := cells5 o1'
  clear r1' a1' o1'
  have hk0 : k < Qs.length := (List.getElem?_eq_some_iff.1 HQ.out).1
  obtain ⟨rr, rc, hv, hrc, hrm, hrl, hrB, hrt, _, key⟩ := own_row HW2.out.own (by omega)
  cases hv
  have k2 : w2.cell? ⟨rr, k * 3 + 2, none⟩ = some (.slice q.A q.n q.c) := key _ _ (flat_at Qs k _ HQ.out 2 (by omega))
  have g4 : (k : Int) < (Qs.length : Int) := by omega
  clear key hrt
  unfold maxLen at hrm
  have hqn : 0 < q.n := by rw [← HNN.out]; exact HZ0.out
  have g6 : ((q.n : Int) == 0) = false := by simp; omega
  go_wp2_with fail
  refine (ref_spoil B0 M s c l (.slice (some ⟨rr, 0, none⟩) Qs.length RC) Qs k a bt q HQ.out hqn ha (by have := HKL.out; omega) _ (by omega) HW2.out).mono ?_
  rintro e w4 ⟨q4, hq1, hq2, hq3, A4, n4, cap4, rfl, W4, hb4⟩
  have HQ4 : Hid (q2.key = q4.key) := by
    obtain ⟨a1, a2, a3⟩ := HQ2.out
    obtain ⟨c1, c2, c3⟩ := HKY.out
    unfold Hid Pk.key
    rw [a1, a2, a3, hq1, hq2, hq3, c1, c2, c3, HNN.out]
  have z := be_box hb4 HO2.out
  have HZ := Lib.hid z
  have HB4 := Lib.hid hb4
  have HW4 := Lib.hid W4
  obtain ⟨z0, z1, z2, z3, z4, zf⟩ := cells5 z
  clear z hb4 W4 hq1 hq2 hq3
  go_wp2_with fail
  refine bodyPost_ret (v := .tuple #[.agg #[.int .i64 M, .slice A4 n4 cap4, .int .i64 s, .int .i64 c, .int .i64 l], .bool true]) (by simp [results, Try.results15, go_sem, z0, z1, z2, z3, z4]) rfl (does_close (b := w.heap.size + 1 + 1) HW4.out (HN2.out.below HB4.out) (HFW.out.trans (.of_below HB4.out)) (tyAt_cells HZ.out) (by omega) hB (key_set HK.out HQ4.out k) (by simpa using hPM) (by omega) (by omega) (by omega) (by omega) (by omega) (by omega))
end Go.Proofs.Ytoeenaionamhiaa
