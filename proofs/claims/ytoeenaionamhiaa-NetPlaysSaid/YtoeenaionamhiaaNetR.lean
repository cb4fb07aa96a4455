/- Contracts of the reference's Cut and Send. -/
import Derived.Test.YtoeenaionamhiaaNetQ
set_option linter.unusedSimpArgs false
set_option linter.unusedVariables false
namespace Go.Proofs.Ytoeenaionamhiaa
open Go.RowKit

/-- What a call of the reference hands back: a net of these numbers and packets, in new memory. -/
def RetR (B0 : Nat) (M s c l : Int) (Qs : List Pk) (W : World) (e : Ending) (w' : World) : Prop := ∃ A n cap, e = .returned (.agg #[.int .i64 M, .slice A n cap, .int .i64 s, .int .i64 c, .int .i64 l]) ∧ RefW B0 w' (.slice A n cap) Qs ∧ Below W.heap.size W w'

theorem src_of {w : World} {r n c : Nat} {xs : List Value} (h : RdC w ⟨r, n, none⟩ c xs) (hr : r < w.heap.size) (cap : Nat) : Src w (some ⟨r, n, none⟩) c cap xs := ⟨h.1, h.2.2, .inr ⟨_, rfl, hr, h.2.1⟩⟩

theorem heap3 (w : World) (a b c : Obj) : (((w.alloc a).alloc b).alloc c).heap[w.heap.size]? = some a ∧ (((w.alloc a).alloc b).alloc c).heap[w.heap.size + 1]? = some b ∧ (((w.alloc a).alloc b).alloc c).heap[w.heap.size + 1 + 1]? = some c := by
  refine ⟨?_, ?_, ?_⟩
  · rw [Below.heap_alloc _ _ _ (by simp; omega), Below.heap_alloc _ _ _ (by simp)]
    exact heap_alloc_new w a
  · rw [Below.heap_alloc _ _ _ (by simp)]
    simpa using heap_alloc_new (w.alloc a) b
  · simpa using heap_alloc_new ((w.alloc a).alloc b) c
theorem own_empty {w : World} {base b : Nat} {e : TypeId} (h : w.heap[b]? = some (.cells #[] e (0, 0))) (hb : base ≤ b) : w.ownsRow base e 3 (.slice (some ⟨b, 0, none⟩) 0 0) 0 [] :=
  ⟨rfl, .inr ⟨b, 0, #[], rfl, hb, h, Nat.le_refl _, Nat.zero_le _, rfl, rfl⟩⟩
theorem size3 (w : World) (a b c : Obj) : (((w.alloc a).alloc b).alloc c).heap.size = w.heap.size + 1 + 1 + 1 := by simp
abbrev tRN : TypeId := 44
/-- A block of another type is kept by an append. -/
theorem box_kept {w w' : World} {base : Nat} {e : TypeId} {v : Value} {n : Nat} {xs : List Value} {b : Nat} {cs : Array Value} {t : TypeId} (hb : w.heap[b]? = some (.cells cs t (0, 0))) (ho : w.ownsRow base e 3 v n xs) (hg : w.grownBy w' v.ownBlock) (hne : e ≠ t) : w'.heap[b]? = some (.cells cs t (0, 0)) :=
  (hg.block b (tyAt_lt (tyAt_cells hb)) (by
    intro he
    have h1 := (own_ty ho b he.symm).2
    rw [tyAt_cells hb] at h1
    exact hne (Option.some.inj h1).symm)).trans hb
theorem own_new {w : World} {base B : Nat} {e : TypeId} {v : Value} {n : Nat} {xs : List Value} (ho : w.ownsRow base e 3 v n xs) (hB : B ≤ base) : ∀ k, v.ownBlock = some k → B ≤ k := fun k hk => Nat.le_trans hB (own_ty ho k hk).1
theorem RdB.setO {B0 : Nat} {w : World} {p : Option Addr} {n c : Nat} {L : List UInt8} (h : RdB B0 w p n c L) {q : Addr} {t : TypeId} (hq : B0 ≤ q.block) (ht : tyAt w q.block = some t) (hne : t ≠ tU8) (u : Value) : RdB B0 (w.setCell q u) p n c L := by
  obtain ⟨h1, h2, h3, h4⟩ := h
  refine ⟨h1, h2, h3, ?_⟩
  rcases h4 with h4 | ⟨x, h5, h7, h8⟩
  · exact .inl h4
  · refine .inr ⟨x, h5, fun hn => by rw [tyAt_set]; exact h7 hn, fun j hj => ?_⟩
    refine (World.cell?_of_block (a := x.add j) (Below.heap_setCell w q u _ ?_)).trans (h8 j hj)
    rw [block_add]
    rintro e
    rcases h7 (by omega) with h7 | h7
    · omega
    · rw [e, ht] at h7
      exact hne (Option.some.inj h7)
theorem RefW.setO {B0 : Nat} {w : World} {v : Value} {Qs : List Pk} (h : RefW B0 w v Qs) {q : Addr} {t : TypeId} (hq : B0 ≤ q.block) (ht : tyAt w q.block = some t) (hne : t ≠ tU8) (hne2 : t ≠ tRP) (u : Value) : RefW B0 (w.setCell q u) v Qs :=
  ⟨own_same h.own (fun k hk => Below.heap_setCell w q u k (by
    rintro rfl
    have h1 := (own_ty h.own _ hk).2
    rw [ht] at h1
    exact hne2 (Option.some.inj h1))), fun p hp => ⟨(h.pk p hp).1.setO hq ht hne u, (h.pk p hp).2⟩⟩
/-- The five cells of a net of the reference are stored in a box. -/
theorem RefW.box {B0 : Nat} {w : World} {v : Value} {Qs : List Pk} (h : RefW B0 w v Qs) {b1 b2 : Nat} (h1 : B0 ≤ b1) (h2 : B0 ≤ b2) (t1 : tyAt w b1 = some tRN) (t2 : tyAt w b2 = some tRN) (u a0 a1 a2 a3 a4 : Value) :
    RefW B0 ((((((w.setCell ⟨b1, 1, none⟩ u).setCell ⟨b2, 0, none⟩ a0).setCell ⟨b2, 1, none⟩ a1).setCell ⟨b2, 2, none⟩ a2).setCell ⟨b2, 3, none⟩ a3).setCell ⟨b2, 4, none⟩ a4) v Qs := by
  have d1 : tRN ≠ tU8 := by decide
  have d2 : tRN ≠ tRP := by decide
  refine (((((h.setO (q := ⟨b1, 1, none⟩) h1 t1 d1 d2 u).setO (q := ⟨b2, 0, none⟩) h2 (ty_set t2 _ _) d1 d2 a0).setO (q := ⟨b2, 1, none⟩) h2 ?_ d1 d2 a1).setO (q := ⟨b2, 2, none⟩) h2 ?_ d1 d2 a2).setO (q := ⟨b2, 3, none⟩) h2 ?_ d1 d2 a3).setO (q := ⟨b2, 4, none⟩) h2 ?_ d1 d2 a4
  all_goals (simp only [tyAt_set]; exact t2)

set_option maxRecDepth 100000 in
set_option maxHeartbeats 2000000 in
theorem ref_cut (B0 : Nat) (M s c l : Int) (v : Value) (Qs : List Pk) (i : Nat) (hi0 : i < Qs.length) (hlen : Qs.length ≤ 1000) (w : World) (hB : B0 ≤ w.heap.size) (hN : RefW B0 w v Qs) :
    Calls Try.prog 22 #[.agg #[.int .i64 M, v, .int .i64 s, .int .i64 c, .int .i64 l], .int .i64 i] w (RetR B0 M s c l (Qs.eraseIdx i) w) := by
  obtain ⟨i0, hi, hz0, hz1, hz2⟩ := info_parts info_r
  obtain ⟨r, cap, rfl, hnc, hcm, hrl, hr, hty, _, key⟩ := own_row hN.own (by omega)
  have HO : Hid (∀ q ∈ Qs.eraseIdx i, q.ok B0 w) := fun q hq => hN.pk q (List.mem_of_mem_eraseIdx hq)
  obtain ⟨n, hn⟩ : ∃ n, n = Qs.length := ⟨_, rfl⟩
  have HL := Lib.hid hn
  rw [← hn] at hi0 hnc hlen
  clear hN hty hr
  rw [← hn]
  clear hn
  unfold maxLen at hcm
  have hx1 : (((Qs.flatMap Pk.cells).drop (0 * 3)).take (i * 3)).length = i * 3 := by have := HL.out; simp only [List.length_take, List.length_drop, flat_len]; omega
  have hx2 : (((Qs.flatMap Pk.cells).drop ((i + 1) * 3)).take ((n - (i + 1)) * 3)).length = (n - (i + 1)) * 3 := by have := HL.out; simp only [List.length_take, List.length_drop, flat_len]; omega
  have T1 := rdc_of key (flat_one Qs) 0 i hx1
  have T2 := rdc_of key (flat_one Qs) (i + 1) (n - (i + 1)) hx2
  have R1 : Hid (Src w (some ⟨r, 0, none⟩) i cap ((Qs.take i).flatMap Pk.cells)) := by
    rw [flat_take]
    exact src_of (by simpa using T1) hrl cap
  have R2 : Hid (Src w (some ⟨r, (i + 1) * 3, none⟩) (n - (i + 1)) (cap - (i + 1)) ((Qs.drop (i + 1)).flatMap Pk.cells)) := by
    have e : ((Qs.flatMap Pk.cells).drop ((i + 1) * 3)).take ((n - (i + 1)) * 3) = (Qs.drop (i + 1)).flatMap Pk.cells := by
      rw [flat_drop, List.take_of_length_le]
      have := HL.out; simp only [List.length_drop, flat_len]; omega
    rw [e] at T2
    exact src_of T2 hrl _
  have R0 : Hid (Src w (some ⟨r, 0, none⟩) 0 0 []) := ⟨rfl, by simp, .inr ⟨_, rfl, hrl, fun j u hu => by simp at hu⟩⟩
  have HE : Hid ((Qs.take i).flatMap Pk.cells ++ (Qs.drop (i + 1)).flatMap Pk.cells = (Qs.eraseIdx i).flatMap Pk.cells) := by
    unfold Hid
    rw [List.eraseIdx_eq_take_drop_succ, List.flatMap_append]
  have HQ : Hid ((Qs.eraseIdx i).length = i + (n - (i + 1))) := by
    unfold Hid
    have := HL.out
    rw [List.length_eraseIdx, if_pos (by omega)]
    omega
  clear hx1 hx2 T1 T2 key
  have g1 : i ≤ cap := by omega
  have g2 : i + 1 ≤ n := by omega
  have g3 : i + 1 ≤ cap := by omega
  by_cases hcap : cap = i + 1
  · have hni : n = i + 1 := by omega
    subst hcap
    subst hni
    have HE1 : Hid ((Qs.take i).flatMap Pk.cells ++ [] = (Qs.eraseIdx i).flatMap Pk.cells) := by
      have h := HE.out
      have e : Qs.drop (i + 1) = [] := List.drop_of_length_le (by have := HL.out; omega)
      rw [e] at h
      exact h
    have HQ1 : Hid ((Qs.eraseIdx i).length = i + 0) := by
      have h := HQ.out
      unfold Hid
      omega
    go_enter Try.func22, Try.ntmps22
    go_wp2_with fail
    have g6 : (i : Int) ≤ (i : Int) + 1 := by omega
    have g4 : (i : Int) + 1 ≤ ((i + 1 : Nat) : Int) := by omega
    have e2 : (0 : Int) ≤ (i : Int) + 1 := by omega
    have e3 : ((i : Int) + 1).toNat = i + 1 := by omega
    have e1 : IntKind.i64.wrap ((i : Int) + 1) = (i : Int) + 1 := IntWalk.i64_in _ (by omega)
    go_region_law (first
      | (refine step_append_r (by rfl) (.tmp 5) (.tmp 9) _ (by rfl) w.heap.size tRP i0 _ Try.underlying42 hi hz0 hz1 hz2 rfl _ 0 [] (by rfl) ?_ (some ⟨r, 0, none⟩) i (i + 1) _ (by rfl) (R1.out.below ?_) (by omega) ?_ ?_
         · exact own_empty (heap3 w _ _ _).2.2 (by omega)
         · (repeat' (first | (with_reducible exact Below.refl _ _) | (with_reducible assumption) | (with_reducible refine Below.alloc ?_ ?_ _) | (with_reducible refine bel_drewN ?_ _) | (with_reducible refine Below.drew ?_) | (with_reducible refine Below.setCell ?_ ?_ _) | (with_reducible refine bel_call ‹_› ?_ ?_) | go_size))
         · go_size
         intro A1 c1 w2 hown1 hgr1
         simp only [Nat.zero_add, List.nil_append] at hown1
         have b0 : w2.heap[w.heap.size]? = some (.cells #[.int .i64 M, .slice (some ⟨r, 0, none⟩) (i + 1) (i + 1), .int .i64 s, .int .i64 c, .int .i64 l] tRN (0, 0)) := (hgr1.block w.heap.size (by go_size) (by intro e; have e : some w.heap.size = some (w.heap.size + 1 + 1) := e; injection e with e; omega)).trans (heap3 w _ _ _).1
         have b1 : w2.heap[w.heap.size + 1]? = some (.cells #[.int .i64 0, .slice none 0 0, .int .i64 0, .int .i64 0, .int .i64 0] tRN (0, 0)) := (hgr1.block (w.heap.size + 1) (by go_size) (by intro e; have e : some (w.heap.size + 1) = some (w.heap.size + 1 + 1) := e; injection e with e; omega)).trans (heap3 w _ _ _).2.1
         have HB2 : Hid (Below w.heap.size w w2) := Below.grown (by (repeat' (first | (with_reducible exact Below.refl _ _) | (with_reducible assumption) | (with_reducible refine Below.alloc ?_ ?_ _) | (with_reducible refine bel_drewN ?_ _) | (with_reducible refine Below.drew ?_) | (with_reducible refine Below.setCell ?_ ?_ _) | (with_reducible refine bel_call ‹_› ?_ ?_) | go_size))) hgr1 (by go_size) (fun k hk => by have hk : some (w.heap.size + 1 + 1) = some k := hk; injection hk with hk; omega)
         have HX0 := Lib.hid b0
         have HX1 := Lib.hid b1
         have HO1 := Lib.hid hown1
         have x1 : w2.cell? ⟨w.heap.size, 1, none⟩ = some (.slice (some ⟨r, 0, none⟩) (i + 1) (i + 1)) := by simp [World.cell?, b0]
         clear hown1 hgr1 b0 b1
         simp only [Nat.zero_add])
      | (refine step_append_r (by rfl) (.tmp 10) (.tmp 15) _ (by rfl) w.heap.size tRP i0 _ Try.underlying42 hi hz0 hz1 hz2 rfl _ i _ (by rfl) HO1.out _ 0 0 _ (by rfl) (R0.out.below HB2.out) (by omega) HB2.out.size ?_
         intro A2 c2 w3 hown2 hgr2
         have b0 := box_kept HX0.out HO1.out hgr2 (by decide)
         have b1 := box_kept HX1.out HO1.out hgr2 (by decide)
         have HB3 : Hid (Below w.heap.size w w3) := HB2.out.grown hgr2 HB2.out.size (own_new HO1.out (Nat.le_refl _))
         have HX2 := Lib.hid b0
         have HX3 := Lib.hid b1
         have HO2 := Lib.hid hown2
         have x0 : w3.cell? ⟨w.heap.size, 0, none⟩ = some (.int .i64 M) := by simp [World.cell?, b0]
         have x1 : w3.cell? ⟨w.heap.size, 1, none⟩ = some (.slice (some ⟨r, 0, none⟩) (i + 1) (i + 1)) := by simp [World.cell?, b0]
         have x2 : w3.cell? ⟨w.heap.size, 2, none⟩ = some (.int .i64 s) := by simp [World.cell?, b0]
         have x3 : w3.cell? ⟨w.heap.size, 3, none⟩ = some (.int .i64 c) := by simp [World.cell?, b0]
         have x4 : w3.cell? ⟨w.heap.size, 4, none⟩ = some (.int .i64 l) := by simp [World.cell?, b0]
         have xf : ∀ k, w3.frozen? ⟨w.heap.size, k, none⟩ = false := fun k => by simp [World.frozen?, b0]
         have z0 : w3.cell? ⟨w.heap.size + 1, 0, none⟩ = some (.int .i64 0) := by simp [World.cell?, b1]
         have z1 : w3.cell? ⟨w.heap.size + 1, 1, none⟩ = some (.slice none 0 0) := by simp [World.cell?, b1]
         have z2 : w3.cell? ⟨w.heap.size + 1, 2, none⟩ = some (.int .i64 0) := by simp [World.cell?, b1]
         have z3 : w3.cell? ⟨w.heap.size + 1, 3, none⟩ = some (.int .i64 0) := by simp [World.cell?, b1]
         have z4 : w3.cell? ⟨w.heap.size + 1, 4, none⟩ = some (.int .i64 0) := by simp [World.cell?, b1]
         have zf : ∀ k, w3.frozen? ⟨w.heap.size + 1, k, none⟩ = false := fun k => by simp [World.frozen?, b1]
         clear hown2 hgr2 b0 b1))
    all_goals
      go_wp2_with fail
      refine bodyPost_ret (v := .agg #[.int .i64 M, .slice A2 i c2, .int .i64 s, .int .i64 c, .int .i64 l]) (by simp [results, Try.results22, go_sem, x0, x1, x2, x3, x4, z0, z1, z2, z3, z4]) rfl ?_
      refine ⟨A2, _, c2, rfl, RefW.box ⟨?_, fun q hq => (HO.out q hq).fr (.of_below HB3.out)⟩ hB (by omega) (tyAt_cells HX2.out) (tyAt_cells HX3.out) _ _ _ _ _ _, ?_⟩
      · have h := own_mono HO2.out hB
        rw [HE1.out] at h
        rw [HQ1.out]
        exact h
      · have hb3 := HB3.out
        (repeat' (first | (with_reducible exact Below.refl _ _) | (with_reducible assumption) | (with_reducible refine Below.alloc ?_ ?_ _) | (with_reducible refine bel_drewN ?_ _) | (with_reducible refine Below.drew ?_) | (with_reducible refine Below.setCell ?_ ?_ _) | (with_reducible refine bel_call ‹_› ?_ ?_) | go_size))
  · go_enter Try.func22, Try.ntmps22
    go_wp2_with fail
    have g4 : (i : Int) + 1 ≤ (n : Int) := by omega
    have e2 : (0 : Int) ≤ (i : Int) + 1 := by omega
    have e3 : ((i : Int) + 1).toNat = i + 1 := by omega
    have e1 : IntKind.i64.wrap ((i : Int) + 1) = (i : Int) + 1 := IntWalk.i64_in _ (by omega)
    go_region_law (first
      | (refine step_append_r (by rfl) (.tmp 5) (.tmp 9) _ (by rfl) w.heap.size tRP i0 _ Try.underlying42 hi hz0 hz1 hz2 rfl _ 0 [] (by rfl) ?_ (some ⟨r, 0, none⟩) i cap _ (by rfl) (R1.out.below ?_) (by omega) ?_ ?_
         · exact own_empty (heap3 w _ _ _).2.2 (by omega)
         · (repeat' (first | (with_reducible exact Below.refl _ _) | (with_reducible assumption) | (with_reducible refine Below.alloc ?_ ?_ _) | (with_reducible refine bel_drewN ?_ _) | (with_reducible refine Below.drew ?_) | (with_reducible refine Below.setCell ?_ ?_ _) | (with_reducible refine bel_call ‹_› ?_ ?_) | go_size))
         · go_size
         intro A1 c1 w2 hown1 hgr1
         simp only [Nat.zero_add, List.nil_append] at hown1
         have b0 : w2.heap[w.heap.size]? = some (.cells #[.int .i64 M, .slice (some ⟨r, 0, none⟩) n cap, .int .i64 s, .int .i64 c, .int .i64 l] tRN (0, 0)) := (hgr1.block w.heap.size (by go_size) (by intro e; have e : some w.heap.size = some (w.heap.size + 1 + 1) := e; injection e with e; omega)).trans (heap3 w _ _ _).1
         have b1 : w2.heap[w.heap.size + 1]? = some (.cells #[.int .i64 0, .slice none 0 0, .int .i64 0, .int .i64 0, .int .i64 0] tRN (0, 0)) := (hgr1.block (w.heap.size + 1) (by go_size) (by intro e; have e : some (w.heap.size + 1) = some (w.heap.size + 1 + 1) := e; injection e with e; omega)).trans (heap3 w _ _ _).2.1
         have HB2 : Hid (Below w.heap.size w w2) := Below.grown (by (repeat' (first | (with_reducible exact Below.refl _ _) | (with_reducible assumption) | (with_reducible refine Below.alloc ?_ ?_ _) | (with_reducible refine bel_drewN ?_ _) | (with_reducible refine Below.drew ?_) | (with_reducible refine Below.setCell ?_ ?_ _) | (with_reducible refine bel_call ‹_› ?_ ?_) | go_size))) hgr1 (by go_size) (fun k hk => by have hk : some (w.heap.size + 1 + 1) = some k := hk; injection hk with hk; omega)
         have HX0 := Lib.hid b0
         have HX1 := Lib.hid b1
         have HO1 := Lib.hid hown1
         have x1 : w2.cell? ⟨w.heap.size, 1, none⟩ = some (.slice (some ⟨r, 0, none⟩) n cap) := by simp [World.cell?, b0]
         clear hown1 hgr1 b0 b1
         simp only [Nat.zero_add])
      | (refine step_append_r (by rfl) (.tmp 10) (.tmp 15) _ (by rfl) w.heap.size tRP i0 _ Try.underlying42 hi hz0 hz1 hz2 rfl _ i _ (by rfl) HO1.out _ (n - (i + 1)) (cap - (i + 1)) _ (by rfl) (R2.out.below HB2.out) (by omega) HB2.out.size ?_
         intro A2 c2 w3 hown2 hgr2
         have b0 := box_kept HX0.out HO1.out hgr2 (by decide)
         have b1 := box_kept HX1.out HO1.out hgr2 (by decide)
         have HB3 : Hid (Below w.heap.size w w3) := HB2.out.grown hgr2 HB2.out.size (own_new HO1.out (Nat.le_refl _))
         have HX2 := Lib.hid b0
         have HX3 := Lib.hid b1
         have HO2 := Lib.hid hown2
         have x0 : w3.cell? ⟨w.heap.size, 0, none⟩ = some (.int .i64 M) := by simp [World.cell?, b0]
         have x1 : w3.cell? ⟨w.heap.size, 1, none⟩ = some (.slice (some ⟨r, 0, none⟩) n cap) := by simp [World.cell?, b0]
         have x2 : w3.cell? ⟨w.heap.size, 2, none⟩ = some (.int .i64 s) := by simp [World.cell?, b0]
         have x3 : w3.cell? ⟨w.heap.size, 3, none⟩ = some (.int .i64 c) := by simp [World.cell?, b0]
         have x4 : w3.cell? ⟨w.heap.size, 4, none⟩ = some (.int .i64 l) := by simp [World.cell?, b0]
         have xf : ∀ k, w3.frozen? ⟨w.heap.size, k, none⟩ = false := fun k => by simp [World.frozen?, b0]
         have z0 : w3.cell? ⟨w.heap.size + 1, 0, none⟩ = some (.int .i64 0) := by simp [World.cell?, b1]
         have z1 : w3.cell? ⟨w.heap.size + 1, 1, none⟩ = some (.slice none 0 0) := by simp [World.cell?, b1]
         have z2 : w3.cell? ⟨w.heap.size + 1, 2, none⟩ = some (.int .i64 0) := by simp [World.cell?, b1]
         have z3 : w3.cell? ⟨w.heap.size + 1, 3, none⟩ = some (.int .i64 0) := by simp [World.cell?, b1]
         have z4 : w3.cell? ⟨w.heap.size + 1, 4, none⟩ = some (.int .i64 0) := by simp [World.cell?, b1]
         have zf : ∀ k, w3.frozen? ⟨w.heap.size + 1, k, none⟩ = false := fun k => by simp [World.frozen?, b1]
         clear hown2 hgr2 b0 b1))
    all_goals
      go_wp2_with fail
      refine bodyPost_ret (v := .agg #[.int .i64 M, .slice A2 (i + (n - (i + 1))) c2, .int .i64 s, .int .i64 c, .int .i64 l]) (by simp [results, Try.results22, go_sem, x0, x1, x2, x3, x4, z0, z1, z2, z3, z4]) rfl ?_
      refine ⟨A2, _, c2, rfl, RefW.box ⟨?_, fun q hq => (HO.out q hq).fr (.of_below HB3.out)⟩ hB (by omega) (tyAt_cells HX2.out) (tyAt_cells HX3.out) _ _ _ _ _ _, ?_⟩
      · have h := own_mono HO2.out hB
        rw [HE.out] at h
        rw [HQ.out]
        exact h
      · have hb3 := HB3.out
        (repeat' (first | (with_reducible exact Below.refl _ _) | (with_reducible assumption) | (with_reducible refine Below.alloc ?_ ?_ _) | (with_reducible refine bel_drewN ?_ _) | (with_reducible refine Below.drew ?_) | (with_reducible refine Below.setCell ?_ ?_ _) | (with_reducible refine bel_call ‹_› ?_ ?_) | go_size))
end Go.Proofs.Ytoeenaionamhiaa
