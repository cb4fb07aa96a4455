/- The law's 'does': Twice. -/
import Derived.Test.YtoeenaionamhiaaNetY
import Derived.Test.YtoeenaionamhiaaNetV
set_option linter.unusedSimpArgs false
set_option linter.unusedVariables false
namespace Go.Proofs.Ytoeenaionamhiaa
open Go.RowKit
theorem retd_below {B0 g : Nat} {M s c l : Int} {W w' w'' : World} {e : Ending} (h : RetD B0 g M s c l W e w') (hb : Below w'.heap.size w' w'') : RetD B0 g M s c l W e w'' := by
  obtain ⟨A, n, cap, s', c', l', Ps', Qs', h1, h2, h3, ⟨v', h4⟩, h5, h6⟩ := h
  exact ⟨A, n, cap, s', c', l', Ps', Qs', h1, h2.below hb, h3, ⟨v', h4.below hb⟩, h5.trans (.of_below hb), h6⟩
theorem RefW.five {B0 : Nat} {w : World} {v : Value} {Qs : List Pk} (h : RefW B0 w v Qs) {b : Nat} (hb : B0 ≤ b) (t : tyAt w b = some tRN) (a0 a1 a2 a3 a4 : Value) : RefW B0 (((((w.setCell ⟨b, 0, none⟩ a0).setCell ⟨b, 1, none⟩ a1).setCell ⟨b, 2, none⟩ a2).setCell ⟨b, 3, none⟩ a3).setCell ⟨b, 4, none⟩ a4) v Qs := by
  have d1 : tRN ≠ tU8 := by decide
  have d2 : tRN ≠ tRP := by decide
  refine ((((h.setO (q := ⟨b, 0, none⟩) hb t d1 d2 a0).setO (q := ⟨b, 1, none⟩) hb ?_ d1 d2 a1).setO (q := ⟨b, 2, none⟩) hb ?_ d1 d2 a2).setO (q := ⟨b, 3, none⟩) hb ?_ d1 d2 a3).setO (q := ⟨b, 4, none⟩) hb ?_ d1 d2 a4
  all_goals (simp only [tyAt_set]; exact t)
theorem NetW.five {B0 : Nat} {w : World} {g : Nat} {m s l c : Int} {v : Value} {Ps : List Pk} (h : NetW B0 w g m s l c v Ps) {b : Nat} (hb : B0 ≤ b) (t : tyAt w b = some tRN) (a0 a1 a2 a3 a4 : Value) : NetW B0 (((((w.setCell ⟨b, 0, none⟩ a0).setCell ⟨b, 1, none⟩ a1).setCell ⟨b, 2, none⟩ a2).setCell ⟨b, 3, none⟩ a3).setCell ⟨b, 4, none⟩ a4) g m s l c v Ps := by
  have d1 : tRN ≠ tU8 := by decide
  have d2 : tRN ≠ tPk := by decide
  have d3 : tRN ≠ tNet := by decide
  refine ((((h.setO (q := ⟨b, 0, none⟩) hb t d1 d2 d3 a0).setO (q := ⟨b, 1, none⟩) hb ?_ d1 d2 d3 a1).setO (q := ⟨b, 2, none⟩) hb ?_ d1 d2 d3 a2).setO (q := ⟨b, 3, none⟩) hb ?_ d1 d2 d3 a3).setO (q := ⟨b, 4, none⟩) hb ?_ d1 d2 d3 a4
  all_goals (simp only [tyAt_set]; exact t)
theorem Fr.five {B0 : Nat} {w w' : World} (h : Fr B0 w w') {b : Nat} (hb : w.heap.size ≤ b) (a0 a1 a2 a3 a4 : Value) : Fr B0 w (((((w'.setCell ⟨b, 0, none⟩ a0).setCell ⟨b, 1, none⟩ a1).setCell ⟨b, 2, none⟩ a2).setCell ⟨b, 3, none⟩ a3).setCell ⟨b, 4, none⟩ a4) :=
  ((((h.new (p := ⟨b, 0, none⟩) hb _).new (p := ⟨b, 1, none⟩) hb _).new (p := ⟨b, 2, none⟩) hb _).new (p := ⟨b, 3, none⟩) hb _).new (p := ⟨b, 4, none⟩) hb _
theorem five_cells {w : World} {b : Nat} {x0 x1 x2 x3 x4 : Value} {t : TypeId} (h : w.heap[b]? = some (.cells #[x0, x1, x2, x3, x4] t (0, 0))) (a0 a1 a2 a3 a4 : Value) : (((((w.setCell ⟨b, 0, none⟩ a0).setCell ⟨b, 1, none⟩ a1).setCell ⟨b, 2, none⟩ a2).setCell ⟨b, 3, none⟩ a3).setCell ⟨b, 4, none⟩ a4).heap[b]? = some (.cells #[a0, a1, a2, a3, a4] t (0, 0)) := by
  simp [World.setCell, Array.getElem?_modify, h]
theorem five_other (w : World) (b : Nat) (a0 a1 a2 a3 a4 : Value) (k : Nat) (hk : k ≠ b) : (((((w.setCell ⟨b, 0, none⟩ a0).setCell ⟨b, 1, none⟩ a1).setCell ⟨b, 2, none⟩ a2).setCell ⟨b, 3, none⟩ a3).setCell ⟨b, 4, none⟩ a4).heap[k]? = w.heap[k]? :=
  ((((Below.heap_setCell _ ⟨b, 4, none⟩ a4 k hk).trans (Below.heap_setCell _ ⟨b, 3, none⟩ a3 k hk)).trans (Below.heap_setCell _ ⟨b, 2, none⟩ a2 k hk)).trans (Below.heap_setCell _ ⟨b, 1, none⟩ a1 k hk)).trans (Below.heap_setCell _ ⟨b, 0, none⟩ a0 k hk)
theorem five_ty (w : World) (b : Nat) (a0 a1 a2 a3 a4 : Value) (k : Nat) : tyAt (((((w.setCell ⟨b, 0, none⟩ a0).setCell ⟨b, 1, none⟩ a1).setCell ⟨b, 2, none⟩ a2).setCell ⟨b, 3, none⟩ a3).setCell ⟨b, 4, none⟩ a4) k = tyAt w k := by
  simp only [tyAt_set]
theorem box_drew (w : World) (o : Obj) : ((w.alloc o).drew).heap[w.heap.size]? = some o := heap_alloc_new w o

set_option maxRecDepth 100000 in
set_option maxHeartbeats 4000000 in
theorem does_twice_miss (B0 g : Nat) (M s l c : Int) (v : Value) (Ps Qs : List Pk) (RA : Option Addr) (RC : Nat) (f t ii aa : Int) (A : Option Addr) (n cp : Nat) (L : List UInt8) (bt : UInt8) (hM : M ≤ 1000) (hPM : (Ps.length : Int) ≤ M) (hs0 : 0 ≤ s) (hs1 : s ≤ 100000) (hl0 : 0 ≤ l) (hl1 : l ≤ 100000) (hc0 : 0 ≤ c) (hc1 : c ≤ 100000) (hn : n ≤ 300) (w : World) (hB : B0 ≤ w.heap.size) (hN : NetW B0 w g M s l c v Ps) (hR : RefW B0 w (.slice RA Qs.length RC) Qs) (hK : Ps.map Pk.key = Qs.map Pk.key) (hL : RdB B0 w A n cp L) (hi : ii < 0 ∨ (Ps.length : Int) ≤ ii) :
    Calls Try.prog 15 #[.pointer (some ⟨g, 0, none⟩), .agg #[.int .i64 M, .slice RA Qs.length RC, .int .i64 s, .int .i64 c, .int .i64 l], .agg #[.int .i64 3, .int .i64 f, .int .i64 t, .slice A n cp, .int .i64 ii, .int .i64 aa, .int .u8 (bt.toNat : Int)]] w (RetD B0 g M s c l w) := by
  have HI := Lib.hid hi
  clear hi
  have hKL : Ps.length = Qs.length := by simpa using congrArg List.length hK
  have HN := Lib.hid hN
  have HR := Lib.hid hR
  have HK := Lib.hid hK
  have HKL := Lib.hid hKL
  have HL := Lib.hid hL
  have hgl := hN.lt
  clear hN hR hK hKL hL
  go_enter Try.func15, Try.ntmps15
  go_wp2_with fail
  refine (has_no M s c l RA Qs.length RC ii (by have := HKL.out; have := HI.out; omega) (by have := HKL.out; omega) _).mono ?_
  rintro e w1 ⟨rfl, hb1⟩
  have hb0 : Below w.heap.size w w1 := by (repeat' (first | (with_reducible exact Below.refl _ _) | (with_reducible assumption) | (with_reducible refine Below.alloc ?_ ?_ _) | (with_reducible refine bel_drewN ?_ _) | (with_reducible refine Below.drew ?_) | (with_reducible refine Below.setCell ?_ ?_ _) | (with_reducible refine bel_call ‹_› ?_ ?_) | go_size))
  have r1 := be_box hb1 (heap3 w (.cells #[.int .i64 M, .slice RA Qs.length RC, .int .i64 s, .int .i64 c, .int .i64 l] tRN) (.cells #[.int .i64 3, .int .i64 f, .int .i64 t, .slice A n cp, .int .i64 ii, .int .i64 aa, .int .u8 (bt.toNat : Int)] tAct) (.cells #[.int .i64 0, .slice none 0 0, .int .i64 0, .int .i64 0, .int .i64 0] tRN)).1
  have a1 := be_box hb1 (heap3 w (.cells #[.int .i64 M, .slice RA Qs.length RC, .int .i64 s, .int .i64 c, .int .i64 l] tRN) (.cells #[.int .i64 3, .int .i64 f, .int .i64 t, .slice A n cp, .int .i64 ii, .int .i64 aa, .int .u8 (bt.toNat : Int)] tAct) (.cells #[.int .i64 0, .slice none 0 0, .int .i64 0, .int .i64 0, .int .i64 0] tRN)).2.1
  have o1 := be_box hb1 (heap3 w (.cells #[.int .i64 M, .slice RA Qs.length RC, .int .i64 s, .int .i64 c, .int .i64 l] tRN) (.cells #[.int .i64 3, .int .i64 f, .int .i64 t, .slice A n cp, .int .i64 ii, .int .i64 aa, .int .u8 (bt.toNat : Int)] tAct) (.cells #[.int .i64 0, .slice none 0 0, .int .i64 0, .int .i64 0, .int .i64 0] tRN)).2.2
  have HB0 := Lib.hid hb0
  have HR1 := Lib.hid r1
  have HA1 := Lib.hid a1
  have HO1 := Lib.hid o1
  have hz1 : w.heap.size + 1 + 1 < w1.heap.size := tyAt_lt (tyAt_cells o1)
  obtain ⟨r0, r1, r2, r3, r4, rf⟩ := cells5 r1
  obtain ⟨p0, p1, p2, p3, p4, p5, p6, pf⟩ := cells7 a1
  obtain ⟨o0, o1, o2, o3, o4, of⟩ := cells5 o1
  clear hb0 hb1
  go_wp2_with fail
  refine (twice_miss B0 g M s l c v Ps ii HI.out (by omega) w1 (by omega) (HN.out.below HB0.out)).mono ?_
  rintro e w2 ⟨rfl, ⟨v2, N2⟩, F2⟩
  have HF2 := Lib.hid F2
  have HN2 := Lib.hid N2
  have r1' := fr_box F2 HR1.out (by decide) (by decide)
  have a1' := fr_box F2 HA1.out (by decide) (by decide)
  have o1' := fr_box F2 HO1.out (by decide) (by decide)
  have HR2 := Lib.hid r1'
  have HA2 := Lib.hid a1'
  have HO2 := Lib.hid o1'
  have hz2 : w1.heap.size ≤ w2.heap.size := F2.size
  have HW2 : Hid (RefW B0 w2 (.slice RA Qs.length RC) Qs) := (HR.out.below HB0.out).fr F2
  have HFW : Hid (Fr B0 w w2) := (Fr.of_below HB0.out).trans F2
  clear r0 r1 r2 r3 r4 rf p0 p1 p2 p3 p4 p5 p6 pf o0 o1 o2 o3 o4 of F2 N2
  obtain ⟨r0, r1, r2, r3, r4, rf⟩ := cells5 r1'
  obtain ⟨p0, p1, p2, p3, p4, p5, p6, pf⟩ := cells7 a1'
  obtain ⟨o0, o1, o2, o3, o4, of⟩ := cells5 o1'
  clear r1' a1' o1'
  go_wp2_with fail
  refine bodyPost_ret (v := .tuple #[.agg #[.int .i64 M, .slice RA Qs.length RC, .int .i64 s, .int .i64 c, .int .i64 l], .bool true]) (by simp [results, Try.results15, go_sem, o0, o1, o2, o3, o4]) rfl (does_close (b := w.heap.size + 1 + 1) HW2.out HN2.out HFW.out (tyAt_cells HO2.out) (by omega) hB HK.out hPM (by omega) (by omega) (by omega) (by omega) (by omega) (by omega))

set_option maxRecDepth 100000 in
set_option maxHeartbeats 4000000 in
theorem does_twice_full (B0 g : Nat) (M s l c : Int) (v : Value) (Ps Qs : List Pk) (RA : Option Addr) (RC : Nat) (f t ii aa : Int) (A : Option Addr) (n cp : Nat) (L : List UInt8) (bt : UInt8) (hM : M ≤ 1000) (hPM : (Ps.length : Int) ≤ M) (hs0 : 0 ≤ s) (hs1 : s ≤ 100000) (hl0 : 0 ≤ l) (hl1 : l ≤ 100000) (hc0 : 0 ≤ c) (hc1 : c ≤ 100000) (hn : n ≤ 300) (w : World) (hB : B0 ≤ w.heap.size) (hN : NetW B0 w g M s l c v Ps) (hR : RefW B0 w (.slice RA Qs.length RC) Qs) (hK : Ps.map Pk.key = Qs.map Pk.key) (hL : RdB B0 w A n cp L) (k : Nat) (p q : Pk) (hp : Ps[k]? = some p) (hq : Qs[k]? = some q) (hfull : M ≤ (Ps.length : Int)) :
    Calls Try.prog 15 #[.pointer (some ⟨g, 0, none⟩), .agg #[.int .i64 M, .slice RA Qs.length RC, .int .i64 s, .int .i64 c, .int .i64 l], .agg #[.int .i64 3, .int .i64 f, .int .i64 t, .slice A n cp, .int .i64 k, .int .i64 aa, .int .u8 (bt.toNat : Int)]] w (RetD B0 g M s c l w) := by
  have HP := Lib.hid hp
  have HQ := Lib.hid hq
  clear hp hq
  have HFU := Lib.hid hfull
  clear hfull
  have hKL : Ps.length = Qs.length := by simpa using congrArg List.length hK
  have HN := Lib.hid hN
  have HR := Lib.hid hR
  have HK := Lib.hid hK
  have HKL := Lib.hid hKL
  have HL := Lib.hid hL
  have hgl := hN.lt
  clear hN hR hK hKL hL
  go_enter Try.func15, Try.ntmps15
  go_wp2_with fail
  refine (has_yes M s c l RA Qs.length RC k (by have := (List.getElem?_eq_some_iff.1 HQ.out).1; omega) (by have := HKL.out; omega) _).mono ?_
  rintro e w1 ⟨rfl, hb1⟩
  have hb0 : Below w.heap.size w w1 := by (repeat' (first | (with_reducible exact Below.refl _ _) | (with_reducible assumption) | (with_reducible refine Below.alloc ?_ ?_ _) | (with_reducible refine bel_drewN ?_ _) | (with_reducible refine Below.drew ?_) | (with_reducible refine Below.setCell ?_ ?_ _) | (with_reducible refine bel_call ‹_› ?_ ?_) | go_size))
  have r1 := be_box hb1 (heap3 w (.cells #[.int .i64 M, .slice RA Qs.length RC, .int .i64 s, .int .i64 c, .int .i64 l] tRN) (.cells #[.int .i64 3, .int .i64 f, .int .i64 t, .slice A n cp, .int .i64 k, .int .i64 aa, .int .u8 (bt.toNat : Int)] tAct) (.cells #[.int .i64 0, .slice none 0 0, .int .i64 0, .int .i64 0, .int .i64 0] tRN)).1
  have a1 := be_box hb1 (heap3 w (.cells #[.int .i64 M, .slice RA Qs.length RC, .int .i64 s, .int .i64 c, .int .i64 l] tRN) (.cells #[.int .i64 3, .int .i64 f, .int .i64 t, .slice A n cp, .int .i64 k, .int .i64 aa, .int .u8 (bt.toNat : Int)] tAct) (.cells #[.int .i64 0, .slice none 0 0, .int .i64 0, .int .i64 0, .int .i64 0] tRN)).2.1
  have o1 := be_box hb1 (heap3 w (.cells #[.int .i64 M, .slice RA Qs.length RC, .int .i64 s, .int .i64 c, .int .i64 l] tRN) (.cells #[.int .i64 3, .int .i64 f, .int .i64 t, .slice A n cp, .int .i64 k, .int .i64 aa, .int .u8 (bt.toNat : Int)] tAct) (.cells #[.int .i64 0, .slice none 0 0, .int .i64 0, .int .i64 0, .int .i64 0] tRN)).2.2
  have HB0 := Lib.hid hb0
  have HR1 := Lib.hid r1
  have HA1 := Lib.hid a1
  have HO1 := Lib.hid o1
  have hz1 : w.heap.size + 1 + 1 < w1.heap.size := tyAt_lt (tyAt_cells o1)
  obtain ⟨r0, r1, r2, r3, r4, rf⟩ := cells5 r1
  obtain ⟨p0, p1, p2, p3, p4, p5, p6, pf⟩ := cells7 a1
  obtain ⟨o0, o1, o2, o3, o4, of⟩ := cells5 o1
  clear hb0 hb1
  go_wp2_with fail
  refine (twice_full B0 g M s l c v Ps k (List.getElem?_eq_some_iff.1 HP.out).1 HFU.out (by omega) w1 (by omega) (HN.out.below HB0.out)).mono ?_
  rintro e w2 ⟨rfl, ⟨v2, N2⟩, F2⟩
  have HF2 := Lib.hid F2
  have HN2 := Lib.hid N2
  have r1' := fr_box F2 HR1.out (by decide) (by decide)
  have a1' := fr_box F2 HA1.out (by decide) (by decide)
  have o1' := fr_box F2 HO1.out (by decide) (by decide)
  have HR2 := Lib.hid r1'
  have HA2 := Lib.hid a1'
  have HO2 := Lib.hid o1'
  have hz2 : w1.heap.size ≤ w2.heap.size := F2.size
  have HW2 : Hid (RefW B0 w2 (.slice RA Qs.length RC) Qs) := (HR.out.below HB0.out).fr F2
  have HFW : Hid (Fr B0 w w2) := (Fr.of_below HB0.out).trans F2
  clear r0 r1 r2 r3 r4 rf p0 p1 p2 p3 p4 p5 p6 pf o0 o1 o2 o3 o4 of F2 N2
  obtain ⟨r0, r1, r2, r3, r4, rf⟩ := cells5 r1'
  obtain ⟨p0, p1, p2, p3, p4, p5, p6, pf⟩ := cells7 a1'
  obtain ⟨o0, o1, o2, o3, o4, of⟩ := cells5 o1'
  clear r1' a1' o1'
  have hd : decide (M ≤ (Qs.length : Int)) = true := by have := HFU.out; have := HKL.out; simp; omega
  go_wp2_with fail
  refine bodyPost_ret (v := .tuple #[.agg #[.int .i64 M, .slice RA Qs.length RC, .int .i64 s, .int .i64 c, .int .i64 l], .bool true]) (by simp [results, Try.results15, go_sem, o0, o1, o2, o3, o4]) rfl (does_close (b := w.heap.size + 1 + 1) HW2.out HN2.out HFW.out (tyAt_cells HO2.out) (by omega) hB HK.out hPM (by omega) (by omega) (by omega) (by omega) (by omega) (by omega))

set_option maxRecDepth 100000 in
set_option maxHeartbeats 4000000 in
theorem does_twice_ok (B0 g : Nat) (M s l c : Int) (v : Value) (Ps Qs : List Pk) (RA : Option Addr) (RC : Nat) (f t ii aa : Int) (A : Option Addr) (n cp : Nat) (L : List UInt8) (bt : UInt8) (hM : M ≤ 1000) (hPM : (Ps.length : Int) ≤ M) (hs0 : 0 ≤ s) (hs1 : s ≤ 100000) (hl0 : 0 ≤ l) (hl1 : l ≤ 100000) (hc0 : 0 ≤ c) (hc1 : c ≤ 100000) (hn : n ≤ 300) (w : World) (hB : B0 ≤ w.heap.size) (hN : NetW B0 w g M s l c v Ps) (hR : RefW B0 w (.slice RA Qs.length RC) Qs) (hK : Ps.map Pk.key = Qs.map Pk.key) (hL : RdB B0 w A n cp L) (k : Nat) (p q : Pk) (hp : Ps[k]? = some p) (hq : Qs[k]? = some q) (hroom : (Ps.length : Int) < M) :
    Calls Try.prog 15 #[.pointer (some ⟨g, 0, none⟩), .agg #[.int .i64 M, .slice RA Qs.length RC, .int .i64 s, .int .i64 c, .int .i64 l], .agg #[.int .i64 3, .int .i64 f, .int .i64 t, .slice A n cp, .int .i64 k, .int .i64 aa, .int .u8 (bt.toNat : Int)]] w (RetD B0 g M s c l w) := by
  have HQK : Hid (q.ok B0 w) := hR.pk q (List.mem_of_getElem? hq)
  have HKY : Hid (p.key = q.key) := key_at hK hp hq
  have HRM := Lib.hid hroom
  clear hroom
  have HP := Lib.hid hp
  have HQ := Lib.hid hq
  clear hp hq
  have hKL : Ps.length = Qs.length := by simpa using congrArg List.length hK
  have HN := Lib.hid hN
  have HR := Lib.hid hR
  have HK := Lib.hid hK
  have HKL := Lib.hid hKL
  have HL := Lib.hid hL
  have hgl := hN.lt
  clear hN hR hK hKL hL
  go_enter Try.func15, Try.ntmps15
  go_wp2_with fail
  refine (has_yes M s c l RA Qs.length RC k (by have := (List.getElem?_eq_some_iff.1 HQ.out).1; omega) (by have := HKL.out; omega) _).mono ?_
  rintro e w1 ⟨rfl, hb1⟩
  have hb0 : Below w.heap.size w w1 := by (repeat' (first | (with_reducible exact Below.refl _ _) | (with_reducible assumption) | (with_reducible refine Below.alloc ?_ ?_ _) | (with_reducible refine bel_drewN ?_ _) | (with_reducible refine Below.drew ?_) | (with_reducible refine Below.setCell ?_ ?_ _) | (with_reducible refine bel_call ‹_› ?_ ?_) | go_size))
  have r1 := be_box hb1 (heap3 w (.cells #[.int .i64 M, .slice RA Qs.length RC, .int .i64 s, .int .i64 c, .int .i64 l] tRN) (.cells #[.int .i64 3, .int .i64 f, .int .i64 t, .slice A n cp, .int .i64 k, .int .i64 aa, .int .u8 (bt.toNat : Int)] tAct) (.cells #[.int .i64 0, .slice none 0 0, .int .i64 0, .int .i64 0, .int .i64 0] tRN)).1
  have a1 := be_box hb1 (heap3 w (.cells #[.int .i64 M, .slice RA Qs.length RC, .int .i64 s, .int .i64 c, .int .i64 l] tRN) (.cells #[.int .i64 3, .int .i64 f, .int .i64 t, .slice A n cp, .int .i64 k, .int .i64 aa, .int .u8 (bt.toNat : Int)] tAct) (.cells #[.int .i64 0, .slice none 0 0, .int .i64 0, .int .i64 0, .int .i64 0] tRN)).2.1
  have o1 := be_box hb1 (heap3 w (.cells #[.int .i64 M, .slice RA Qs.length RC, .int .i64 s, .int .i64 c, .int .i64 l] tRN) (.cells #[.int .i64 3, .int .i64 f, .int .i64 t, .slice A n cp, .int .i64 k, .int .i64 aa, .int .u8 (bt.toNat : Int)] tAct) (.cells #[.int .i64 0, .slice none 0 0, .int .i64 0, .int .i64 0, .int .i64 0] tRN)).2.2
  have HB0 := Lib.hid hb0
  have HR1 := Lib.hid r1
  have HA1 := Lib.hid a1
  have HO1 := Lib.hid o1
  have hz1 : w.heap.size + 1 + 1 < w1.heap.size := tyAt_lt (tyAt_cells o1)
  obtain ⟨r0, r1, r2, r3, r4, rf⟩ := cells5 r1
  obtain ⟨p0, p1, p2, p3, p4, p5, p6, pf⟩ := cells7 a1
  obtain ⟨o0, o1, o2, o3, o4, of⟩ := cells5 o1
  clear hb0 hb1
  go_wp2_with fail
  refine (twice_ok B0 g M s l c v Ps k p HP.out HRM.out (by omega) hs0 (by omega) w1 (by omega) (HN.out.below HB0.out)).mono ?_
  rintro e w2 ⟨rfl, q2, hq1, hq2, hq3, ⟨v2, N2⟩, F2⟩
  have HQ2 : Hid (q2.f = p.f ∧ q2.t = p.t ∧ q2.bs = p.bs) := ⟨hq1, hq2, hq3⟩
  clear hq1 hq2 hq3
  have HF2 := Lib.hid F2
  have HN2 := Lib.hid N2
  have r1' := fr_box F2 HR1.out (by decide) (by decide)
  have a1' := fr_box F2 HA1.out (by decide) (by decide)
  have o1' := fr_box F2 HO1.out (by decide) (by decide)
  have HR2 := Lib.hid r1'
  have HA2 := Lib.hid a1'
  have HO2 := Lib.hid o1'
  have hz2 : w1.heap.size ≤ w2.heap.size := F2.size
  have HW2 : Hid (RefW B0 w2 (.slice RA Qs.length RC) Qs) := (HR.out.below HB0.out).fr F2
  have HFW : Hid (Fr B0 w w2) := (Fr.of_below HB0.out).trans F2
  clear r0 r1 r2 r3 r4 rf p0 p1 p2 p3 p4 p5 p6 pf o0 o1 o2 o3 o4 of F2 N2
  obtain ⟨r0, r1, r2, r3, r4, rf⟩ := cells5 r1'
  obtain ⟨p0, p1, p2, p3, p4, p5, p6, pf⟩ := cells7 a1'
  obtain ⟨o0, o1, o2, o3, o4, of⟩ := cells5 o1'
  clear r1' a1' o1'
  have hk0 : k < Qs.length := (List.getElem?_eq_some_iff.1 HQ.out).1
  obtain ⟨rr, rc, hv, hrc, hrm, hrl, hrB, hrt, _, key⟩ := own_row HW2.out.own (by omega)
  cases hv
  have k0 : w2.cell? ⟨rr, k * 3, none⟩ = some (.int .i64 q.f) := key _ _ (flat_at Qs k _ HQ.out 0 (by omega))
  have k1 : w2.cell? ⟨rr, k * 3 + 1, none⟩ = some (.int .i64 q.t) := key _ _ (flat_at Qs k _ HQ.out 1 (by omega))
  have k2 : w2.cell? ⟨rr, k * 3 + 2, none⟩ = some (.slice q.A q.n q.c) := key _ _ (flat_at Qs k _ HQ.out 2 (by omega))
  have g4 : (k : Int) < (Qs.length : Int) := by omega
  have hd : decide (M ≤ (Qs.length : Int)) = false := by have := HRM.out; have := HKL.out; simp; omega
  clear key hrt
  unfold maxLen at hrm
  clear o0 o1 o2 o3 o4 of p1 p2 p3 p5 p6 pf
  go_wp2_with fail
  clear p0 rf
  go_region_held3 (fun w' => w'.cell? ⟨w.heap.size, 0, none⟩ = some (.int .i64 M) ∧ w'.cell? ⟨w.heap.size, 1, none⟩ = some (.slice (some ⟨rr, 0, none⟩) Qs.length RC) ∧ w'.cell? ⟨w.heap.size, 2, none⟩ = some (.int .i64 s) ∧ w'.cell? ⟨w.heap.size, 3, none⟩ = some (.int .i64 c) ∧ w'.cell? ⟨w.heap.size, 4, none⟩ = some (.int .i64 l) ∧ w'.cell? ⟨w.heap.size + 1, 4, none⟩ = some (.int .i64 k) ∧ w'.cell? ⟨rr, k * 3, none⟩ = some (.int .i64 q.f) ∧ w'.cell? ⟨rr, k * 3 + 1, none⟩ = some (.int .i64 q.t) ∧ w'.cell? ⟨rr, k * 3 + 2, none⟩ = some (.slice q.A q.n q.c)) (exact ⟨(Below.cell (B := w2.heap.size) (w := w2) (p := ⟨w.heap.size, 0, none⟩) (by (repeat' (first | (with_reducible exact Below.refl _ _) | (with_reducible assumption) | (with_reducible refine Below.alloc ?_ ?_ _) | (with_reducible refine bel_drewN ?_ _) | (with_reducible refine Below.drew ?_) | (with_reducible refine Below.setCell ?_ ?_ _) | (with_reducible refine bel_call ‹_› ?_ ?_) | go_size))) (by simp; omega)).trans r0, (Below.cell (B := w2.heap.size) (w := w2) (p := ⟨w.heap.size, 1, none⟩) (by (repeat' (first | (with_reducible exact Below.refl _ _) | (with_reducible assumption) | (with_reducible refine Below.alloc ?_ ?_ _) | (with_reducible refine bel_drewN ?_ _) | (with_reducible refine Below.drew ?_) | (with_reducible refine Below.setCell ?_ ?_ _) | (with_reducible refine bel_call ‹_› ?_ ?_) | go_size))) (by simp; omega)).trans r1, (Below.cell (B := w2.heap.size) (w := w2) (p := ⟨w.heap.size, 2, none⟩) (by (repeat' (first | (with_reducible exact Below.refl _ _) | (with_reducible assumption) | (with_reducible refine Below.alloc ?_ ?_ _) | (with_reducible refine bel_drewN ?_ _) | (with_reducible refine Below.drew ?_) | (with_reducible refine Below.setCell ?_ ?_ _) | (with_reducible refine bel_call ‹_› ?_ ?_) | go_size))) (by simp; omega)).trans r2, (Below.cell (B := w2.heap.size) (w := w2) (p := ⟨w.heap.size, 3, none⟩) (by (repeat' (first | (with_reducible exact Below.refl _ _) | (with_reducible assumption) | (with_reducible refine Below.alloc ?_ ?_ _) | (with_reducible refine bel_drewN ?_ _) | (with_reducible refine Below.drew ?_) | (with_reducible refine Below.setCell ?_ ?_ _) | (with_reducible refine bel_call ‹_› ?_ ?_) | go_size))) (by simp; omega)).trans r3, (Below.cell (B := w2.heap.size) (w := w2) (p := ⟨w.heap.size, 4, none⟩) (by (repeat' (first | (with_reducible exact Below.refl _ _) | (with_reducible assumption) | (with_reducible refine Below.alloc ?_ ?_ _) | (with_reducible refine bel_drewN ?_ _) | (with_reducible refine Below.drew ?_) | (with_reducible refine Below.setCell ?_ ?_ _) | (with_reducible refine bel_call ‹_› ?_ ?_) | go_size))) (by simp; omega)).trans r4, (Below.cell (B := w2.heap.size) (w := w2) (p := ⟨w.heap.size + 1, 4, none⟩) (by (repeat' (first | (with_reducible exact Below.refl _ _) | (with_reducible assumption) | (with_reducible refine Below.alloc ?_ ?_ _) | (with_reducible refine bel_drewN ?_ _) | (with_reducible refine Below.drew ?_) | (with_reducible refine Below.setCell ?_ ?_ _) | (with_reducible refine bel_call ‹_› ?_ ?_) | go_size))) (by simp; omega)).trans p4, (Below.cell (B := w2.heap.size) (w := w2) (p := ⟨rr, k * 3, none⟩) (by (repeat' (first | (with_reducible exact Below.refl _ _) | (with_reducible assumption) | (with_reducible refine Below.alloc ?_ ?_ _) | (with_reducible refine bel_drewN ?_ _) | (with_reducible refine Below.drew ?_) | (with_reducible refine Below.setCell ?_ ?_ _) | (with_reducible refine bel_call ‹_› ?_ ?_) | go_size))) (hrl)).trans k0, (Below.cell (B := w2.heap.size) (w := w2) (p := ⟨rr, k * 3 + 1, none⟩) (by (repeat' (first | (with_reducible exact Below.refl _ _) | (with_reducible assumption) | (with_reducible refine Below.alloc ?_ ?_ _) | (with_reducible refine bel_drewN ?_ _) | (with_reducible refine Below.drew ?_) | (with_reducible refine Below.setCell ?_ ?_ _) | (with_reducible refine bel_call ‹_› ?_ ?_) | go_size))) (hrl)).trans k1, (Below.cell (B := w2.heap.size) (w := w2) (p := ⟨rr, k * 3 + 2, none⟩) (by (repeat' (first | (with_reducible exact Below.refl _ _) | (with_reducible assumption) | (with_reducible refine Below.alloc ?_ ?_ _) | (with_reducible refine bel_drewN ?_ _) | (with_reducible refine Below.drew ?_) | (with_reducible refine Below.setCell ?_ ?_ _) | (with_reducible refine bel_call ‹_› ?_ ?_) | go_size))) (hrl)).trans k2⟩) ((go_at_call 23; refine (ref_ok B0 M s c l (.slice (some ⟨rr, 0, none⟩) Qs.length RC) Qs q (by have := HRM.out; have := HKL.out; omega) (by have := HKL.out; omega) hs0 (by omega) _ (by go_size) (HW2.out.below (by (repeat' (first | (with_reducible exact Below.refl _ _) | (with_reducible assumption) | (with_reducible refine Below.alloc ?_ ?_ _) | (with_reducible refine bel_drewN ?_ _) | (with_reducible refine Below.drew ?_) | (with_reducible refine Below.setCell ?_ ?_ _) | (with_reducible refine bel_call ‹_› ?_ ?_) | go_size)))) ((HQK.out.fr HFW.out).fr (.of_below (by (repeat' (first | (with_reducible exact Below.refl _ _) | (with_reducible assumption) | (with_reducible refine Below.alloc ?_ ?_ _) | (with_reducible refine bel_drewN ?_ _) | (with_reducible refine Below.drew ?_) | (with_reducible refine Below.setCell ?_ ?_ _) | (with_reducible refine bel_call ‹_› ?_ ?_) | go_size)))))).mono ?_; rintro e w4 ⟨A4, n4, cap4, rfl, W4, hb4⟩; have hb24 : Below w2.heap.size w2 w4 := (by (repeat' (first | (with_reducible exact Below.refl _ _) | (with_reducible assumption) | (with_reducible refine Below.alloc ?_ ?_ _) | (with_reducible refine bel_drewN ?_ _) | (with_reducible refine Below.drew ?_) | (with_reducible refine Below.setCell ?_ ?_ _) | (with_reducible refine bel_call ‹_› ?_ ?_) | go_size))); have hz4 := hb24.size; have HB24 := Lib.hid hb24; have HW4 := Lib.hid W4; have y0 := (hb24.cell (p := ⟨w.heap.size, 0, none⟩) (by simp; omega)).trans r0; have y1 := (hb24.cell (p := ⟨w.heap.size, 1, none⟩) (by simp; omega)).trans r1; have y2 := (hb24.cell (p := ⟨w.heap.size, 2, none⟩) (by simp; omega)).trans r2; have y3 := (hb24.cell (p := ⟨w.heap.size, 3, none⟩) (by simp; omega)).trans r3; have y4 := (hb24.cell (p := ⟨w.heap.size, 4, none⟩) (by simp; omega)).trans r4; have y5 := (hb24.cell (p := ⟨w.heap.size + 1, 4, none⟩) (by simp; omega)).trans p4; have y6 := (hb24.cell (p := ⟨rr, k * 3, none⟩) hrl).trans k0; have y7 := (hb24.cell (p := ⟨rr, k * 3 + 1, none⟩) hrl).trans k1; have y8 := (hb24.cell (p := ⟨rr, k * 3 + 2, none⟩) hrl).trans k2; (first | ((with_reducible have z14 := be_box hb4 (box_drew w2 (.cells #[.int .i64 0, .slice none 0 0, .int .i64 0, .int .i64 0, .int .i64 0] 44))); have HZ14 := Lib.hid z14; obtain ⟨u0, u1, u2, u3, u4, uf⟩ := cells5 z14; clear z14) | skip); clear hb4 W4))
  · have z := be_box HB24.out HO2.out
    have HZ := Lib.hid z
    obtain ⟨z0, z1, z2, z3, z4, zf⟩ := cells5 z
    have hzz := tyAt_lt (tyAt_cells z)
    have HKQ : Hid ((Ps ++ [q2]).map Pk.key = (Qs ++ [q]).map Pk.key) := key_snoc HK.out (by obtain ⟨a1, a2, a3⟩ := HQ2.out; obtain ⟨c1, c2, c3⟩ := key_parts HKY.out; unfold Pk.key; rw [a1, a2, a3, c1, c2, c3])
    have HLN : Hid (((Ps ++ [q2]).length : Int) ≤ M) := by have := HRM.out; unfold Hid; simp; omega
    clear z y0 y1 y2 y3 y4 y5 y6 y7 y8 r0 r1 r2 r3 r4 p4 k0 k1 k2 hb24 hd g4
    clear HK HKL HL HN HR HP HQ hrc hrm hrl hrB
    go_wp2_with fail
    exact bodyPost_ret (v := .tuple #[.agg #[.int .i64 M, .slice A4 n4 cap4, .int .i64 (s + 1), .int .i64 c, .int .i64 l], .bool true]) (by simp [results, Try.results15, go_sem, z0, z1, z2, z3, z4]) rfl (retd_below (does_close (b := w.heap.size + 1 + 1) HW4.out (HN2.out.below HB24.out) (HFW.out.trans (.of_below HB24.out)) (tyAt_cells HZ.out) (by omega) hB HKQ.out HLN.out (by omega) (by omega) (by omega) (by omega) (by omega) (by omega)) ((Below.refl _ _).alloc (Nat.le_refl _) _))
  · have z := be_box HB24.out HO2.out
    have HZ := Lib.hid z
    obtain ⟨z0, z1, z2, z3, z4, zf⟩ := cells5 z
    have hzz := tyAt_lt (tyAt_cells z)
    have HKQ : Hid ((Ps ++ [q2]).map Pk.key = (Qs ++ [q]).map Pk.key) := key_snoc HK.out (by obtain ⟨a1, a2, a3⟩ := HQ2.out; obtain ⟨c1, c2, c3⟩ := key_parts HKY.out; unfold Pk.key; rw [a1, a2, a3, c1, c2, c3])
    have HLN : Hid (((Ps ++ [q2]).length : Int) ≤ M) := by have := HRM.out; unfold Hid; simp; omega
    clear z y0 y1 y2 y3 y4 y5 y6 y7 y8 r0 r1 r2 r3 r4 p4 k0 k1 k2 hb24 hd g4
    clear HK HKL HL HN HR HP HQ hrc hrm hrl hrB
    have ty14 := tyAt_cells HZ14.out
    have HW5 := Lib.hid (HW4.out.five (b := w2.heap.size) (by omega) ty14 (.int .i64 M) (.slice A4 n4 cap4) (.int .i64 (s + 1)) (.int .i64 c) (.int .i64 l))
    have HN5 := Lib.hid ((HN2.out.below HB24.out).five (b := w2.heap.size) (by omega) ty14 (.int .i64 M) (.slice A4 n4 cap4) (.int .i64 (s + 1)) (.int .i64 c) (.int .i64 l))
    have HF5 := Lib.hid ((HFW.out.trans (.of_below HB24.out)).five (b := w2.heap.size) (by omega) (.int .i64 M) (.slice A4 n4 cap4) (.int .i64 (s + 1)) (.int .i64 c) (.int .i64 l))
    have ho5 : tyAt _ (w.heap.size + 1 + 1) = some tRN := (five_ty w4 w2.heap.size (.int .i64 M) (.slice A4 n4 cap4) (.int .i64 (s + 1)) (.int .i64 c) (.int .i64 l) (w.heap.size + 1 + 1)).trans (tyAt_cells HZ.out)
    have HO5 := Lib.hid ho5
    have hb5 := five_cells HZ14.out (.int .i64 M) (.slice A4 n4 cap4) (.int .i64 (s + 1)) (.int .i64 c) (.int .i64 l)
    have ho6 := (five_other w4 w2.heap.size (.int .i64 M) (.slice A4 n4 cap4) (.int .i64 (s + 1)) (.int .i64 c) (.int .i64 l) (w.heap.size + 1 + 1) (by omega)).trans HZ.out
    generalize (((((w4.setCell ⟨w2.heap.size, 0, none⟩ (.int .i64 M)).setCell ⟨w2.heap.size, 1, none⟩ (.slice A4 n4 cap4)).setCell ⟨w2.heap.size, 2, none⟩ (.int .i64 (s + 1))).setCell ⟨w2.heap.size, 3, none⟩ (.int .i64 c)).setCell ⟨w2.heap.size, 4, none⟩ (.int .i64 l)) = W5 at HW5 HN5 HF5 HO5 hb5 ho6 ⊢
    clear ty14 ho5 u0 u1 u2 u3 u4 uf z0 z1 z2 z3 z4 zf HZ14
    obtain ⟨u0, u1, u2, u3, u4, uf⟩ := cells5 hb5
    obtain ⟨z0, z1, z2, z3, z4, zf⟩ := cells5 ho6
    clear hb5 ho6
    go_wp2_with fail
    exact bodyPost_ret (v := .tuple #[.agg #[.int .i64 M, .slice A4 n4 cap4, .int .i64 (s + 1), .int .i64 c, .int .i64 l], .bool true]) (by simp [results, Try.results15, go_sem, z0, z1, z2, z3, z4, u0, u1, u2, u3, u4]) rfl (does_close (b := w.heap.size + 1 + 1) HW5.out HN5.out HF5.out HO5.out (by omega) hB HKQ.out HLN.out (by omega) (by omega) (by omega) (by omega) (by omega) (by omega))
end Go.Proofs.Ytoeenaionamhiaa
