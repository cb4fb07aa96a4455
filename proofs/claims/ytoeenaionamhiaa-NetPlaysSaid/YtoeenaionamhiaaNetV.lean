/- Contract of the reference's Send. -/
import Derived.Test.YtoeenaionamhiaaNetR
set_option linter.unusedSimpArgs false
set_option linter.unusedVariables false
namespace Go.Proofs.Ytoeenaionamhiaa
open Go.RowKit

theorem cells5 {w : World} {b : Nat} {a0 a1 a2 a3 a4 : Value} {t : TypeId} (h : w.heap[b]? = some (.cells #[a0, a1, a2, a3, a4] t (0, 0))) : w.cell? ⟨b, 0, none⟩ = some a0 ∧ w.cell? ⟨b, 1, none⟩ = some a1 ∧ w.cell? ⟨b, 2, none⟩ = some a2 ∧ w.cell? ⟨b, 3, none⟩ = some a3 ∧ w.cell? ⟨b, 4, none⟩ = some a4 ∧ ∀ k, w.frozen? ⟨b, k, none⟩ = false := by
  refine ⟨?_, ?_, ?_, ?_, ?_, fun k => ?_⟩
  all_goals simp [World.cell?, World.frozen?, h]
theorem cells3 {w : World} {b : Nat} {a0 a1 a2 : Value} {t : TypeId} (h : w.heap[b]? = some (.cells #[a0, a1, a2] t (0, 0))) : w.cell? ⟨b, 0, none⟩ = some a0 ∧ w.cell? ⟨b, 1, none⟩ = some a1 ∧ w.cell? ⟨b, 2, none⟩ = some a2 := by
  refine ⟨?_, ?_, ?_⟩
  all_goals simp [World.cell?, h]
theorem heap2 (w : World) (a b : Obj) : ((w.alloc a).alloc b).heap[w.heap.size]? = some a ∧ ((w.alloc a).alloc b).heap[w.heap.size + 1]? = some b := by
  refine ⟨?_, ?_⟩
  · rw [Below.heap_alloc _ _ _ (by simp)]
    exact heap_alloc_new w a
  · simpa using heap_alloc_new (w.alloc a) b
theorem src_blk {w : World} {b : Nat} {f t : Int} {A : Option Addr} {n c : Nat} {e : TypeId} (h : w.heap[b]? = some (.cells #[.int .i64 f, .int .i64 t, .slice A n c] e (0, 0))) : Src w (some ⟨b, 0, none⟩) 1 1 [.int .i64 f, .int .i64 t, .slice A n c] := by
  refine ⟨rfl, ?_, .inr ⟨_, rfl, tyAt_lt (tyAt_cells h), ?_⟩⟩
  · intro u hu
    simp only [List.mem_cons, List.not_mem_nil, or_false] at hu
    rcases hu with rfl | rfl | rfl
    all_goals rfl
  · intro j u hj
    rw [add_plain]
    match j, hj with
    | 0, hj => simp at hj; subst hj; simp [World.cell?, h]
    | 1, hj => simp at hj; subst hj; simp [World.cell?, h]
    | 2, hj => simp at hj; subst hj; simp [World.cell?, h]

set_option maxRecDepth 100000 in
set_option maxHeartbeats 2000000 in
theorem ref_full (M s c l : Int) (A : Option Addr) (n cap : Nat) (f t : Int) (A' : Option Addr) (k cp : Nat) (hfull : M ≤ (n : Int)) (hn : n ≤ 1000) (hs0 : 0 ≤ s) (hs1 : s ≤ 1000000) (hl0 : 0 ≤ l) (hl1 : l ≤ 1000000) (w : World) :
    Calls Try.prog 23 #[.agg #[.int .i64 M, .slice A n cap, .int .i64 s, .int .i64 c, .int .i64 l], .agg #[.int .i64 f, .int .i64 t, .slice A' k cp]] w fun e w' => e = .returned (.tuple #[.agg #[.int .i64 M, .slice A n cap, .int .i64 (s + 1), .int .i64 c, .int .i64 (l + 1)], .bool false]) ∧ Below w.heap.size w w' := by
  have hd : decide (M ≤ (n : Int)) = true := by simpa using hfull
  go_enter Try.func23, Try.ntmps23
  go_wp2_with fail
  refine bodyPost_ret (v := .tuple #[.agg #[.int .i64 M, .slice A n cap, .int .i64 (s + 1), .int .i64 c, .int .i64 (l + 1)], .bool false]) (by simp [results, Try.results23, go_sem]) rfl ⟨rfl, by (repeat' (first | (with_reducible exact Below.refl _ _) | (with_reducible assumption) | (with_reducible refine Below.alloc ?_ ?_ _) | (with_reducible refine bel_drewN ?_ _) | (with_reducible refine Below.drew ?_) | (with_reducible refine Below.setCell ?_ ?_ _) | (with_reducible refine bel_call ‹_› ?_ ?_) | go_size))⟩

set_option maxRecDepth 100000 in
set_option maxHeartbeats 2000000 in
theorem ref_ok (B0 : Nat) (M s c l : Int) (v : Value) (Qs : List Pk) (q : Pk) (hroom : (Qs.length : Int) < M) (hlen : Qs.length ≤ 1000) (hs0 : 0 ≤ s) (hs1 : s ≤ 1000000) (w : World) (hB : B0 ≤ w.heap.size) (hN : RefW B0 w v Qs) (hq : q.ok B0 w) :
    Calls Try.prog 23 #[.agg #[.int .i64 M, v, .int .i64 s, .int .i64 c, .int .i64 l], .agg #[.int .i64 q.f, .int .i64 q.t, .slice q.A q.n q.c]] w fun e w' => ∃ A n cap, e = .returned (.tuple #[.agg #[.int .i64 M, .slice A n cap, .int .i64 (s + 1), .int .i64 c, .int .i64 l], .bool true]) ∧ RefW B0 w' (.slice A n cap) (Qs ++ [q]) ∧ Below w.heap.size w w' := by
  obtain ⟨i0, hi, hz0, hz1, hz2⟩ := info_parts info_r
  obtain ⟨A, cap, rfl⟩ := hN.slice
  have HN := Lib.hid hN
  have HQK := Lib.hid hq
  clear hN hq
  have hd : decide (M ≤ (Qs.length : Int)) = false := by simpa using hroom
  go_enter Try.func23, Try.ntmps23
  go_wp2_with fail
  have HB0 : Hid (Below w.heap.size w (((w.alloc (.cells #[.int .i64 M, .slice A Qs.length cap, .int .i64 (s + 1), .int .i64 c, .int .i64 l] tRN)).alloc (.cells #[.int .i64 q.f, .int .i64 q.t, .slice q.A q.n q.c] tRP)).alloc (.cells #[.int .i64 0, .slice none 0 0, .int .i64 0, .int .i64 0, .int .i64 0] tRN))) := by unfold Hid; (repeat' (first | (with_reducible exact Below.refl _ _) | (with_reducible assumption) | (with_reducible refine Below.alloc ?_ ?_ _) | (with_reducible refine bel_drewN ?_ _) | (with_reducible refine Below.drew ?_) | (with_reducible refine Below.setCell ?_ ?_ _) | (with_reducible refine bel_call ‹_› ?_ ?_) | go_size))
  obtain ⟨b0, b1, b2⟩ := heap3 w (.cells #[.int .i64 M, .slice A Qs.length cap, .int .i64 (s + 1), .int .i64 c, .int .i64 l] tRN) (.cells #[.int .i64 q.f, .int .i64 q.t, .slice q.A q.n q.c] tRP) (.cells #[.int .i64 0, .slice none 0 0, .int .i64 0, .int .i64 0, .int .i64 0] tRN)
  have hsz := size3 w (.cells #[.int .i64 M, .slice A Qs.length cap, .int .i64 (s + 1), .int .i64 c, .int .i64 l] tRN) (.cells #[.int .i64 q.f, .int .i64 q.t, .slice q.A q.n q.c] tRP) (.cells #[.int .i64 0, .slice none 0 0, .int .i64 0, .int .i64 0, .int .i64 0] tRN)
  generalize (((w.alloc (.cells #[.int .i64 M, .slice A Qs.length cap, .int .i64 (s + 1), .int .i64 c, .int .i64 l] tRN)).alloc (.cells #[.int .i64 q.f, .int .i64 q.t, .slice q.A q.n q.c] tRP)).alloc (.cells #[.int .i64 0, .slice none 0 0, .int .i64 0, .int .i64 0, .int .i64 0] tRN)) = W0 at HB0 b0 b1 b2 hsz ⊢
  have hsz0 : w.heap.size + 1 + 1 < W0.heap.size := by omega
  clear hsz
  have HX0 := Lib.hid b0
  have HX2 := Lib.hid b2
  obtain ⟨x0, x1, x2, x3, x4, xf⟩ := cells5 b0
  obtain ⟨y0, y1, y2⟩ := cells3 b1
  clear b0 b1 b2
  have HSRC : Hid (Src W0 A Qs.length cap (Qs.flatMap Pk.cells)) := HN.out.src.below HB0.out
  go_region_law (first
    | (refine step_append_r (by rfl) (.tmp 21) (.tmp 23) _ (by rfl) W0.heap.size tRP i0 _ Try.underlying42 hi hz0 hz1 hz2 rfl _ 0 [] (by rfl) ?_ A Qs.length cap _ (by rfl) (HSRC.out.below ?_) (by omega) ?_ ?_
       · first
         | exact own_empty (heap_alloc_new W0 _) (Nat.le_refl _)
         | exact own_empty (heap2 W0 _ _).1 (Nat.le_refl _)
         | exact own_empty (heap2 W0 _ _).2 (by omega)
       · (repeat' (first | (with_reducible exact Below.refl _ _) | (with_reducible assumption) | (with_reducible refine Below.alloc ?_ ?_ _) | (with_reducible refine bel_drewN ?_ _) | (with_reducible refine Below.drew ?_) | (with_reducible refine Below.setCell ?_ ?_ _) | (with_reducible refine bel_call ‹_› ?_ ?_) | go_size))
       · go_size
       intro A1 c1 w2 hown1 hgr1
       simp only [Nat.zero_add, List.nil_append] at hown1
       have hb2 : Below W0.heap.size W0 w2 := Below.grown (by (repeat' (first | (with_reducible exact Below.refl _ _) | (with_reducible assumption) | (with_reducible refine Below.alloc ?_ ?_ _) | (with_reducible refine bel_drewN ?_ _) | (with_reducible refine Below.drew ?_) | (with_reducible refine Below.setCell ?_ ?_ _) | (with_reducible refine bel_call ‹_› ?_ ?_) | go_size))) hgr1 (by go_size) (fun k hk => by have hk := Option.some.inj (show some _ = some _ from hk); simp only at hk; omega)
       have b0 := (hb2.block w.heap.size (by omega)).trans HX0.out
       have b2 := (hb2.block (w.heap.size + 1 + 1) (by omega)).trans HX2.out
       first
       | have P5 : Hid (w2.heap[W0.heap.size + 1]? = some (.cells #[.int .i64 q.f, .int .i64 q.t, .slice q.A q.n q.c] tRP (0, 0))) := (hgr1.block (W0.heap.size + 1) (by go_size) (by intro e; have e := Option.some.inj (show some _ = some _ from e); simp only at e; omega)).trans (heap2 W0 _ _).2
       | have P5 : Hid (w2.heap[W0.heap.size]? = some (.cells #[.int .i64 q.f, .int .i64 q.t, .slice q.A q.n q.c] tRP (0, 0))) := (hgr1.block W0.heap.size (by go_size) (by intro e; have e := Option.some.inj (show some _ = some _ from e); simp only at e; omega)).trans (heap2 W0 _ _).1
       | have P5 : Hid True := trivial
       have HB2 := Lib.hid hb2
       have HX3 := Lib.hid b0
       have HX4 := Lib.hid b2
       have HO1 := Lib.hid hown1
       obtain ⟨u0, u1, u2, u3, u4, uf⟩ := cells5 b0
       have d0 := (World.cell?_of_block (a := ⟨w.heap.size + 1, 0, none⟩) (hb2.block (w.heap.size + 1) (by omega))).trans y0
       have d1 := (World.cell?_of_block (a := ⟨w.heap.size + 1, 1, none⟩) (hb2.block (w.heap.size + 1) (by omega))).trans y1
       have d2 := (World.cell?_of_block (a := ⟨w.heap.size + 1, 2, none⟩) (hb2.block (w.heap.size + 1) (by omega))).trans y2
       have hz2' := hb2.size
       clear hown1 hgr1 b0 b2 hb2
       simp only [Nat.zero_add])
    | (refine step_append_r (by rfl) (.tmp 24) (.tmp 26) _ (by rfl) W0.heap.size tRP i0 _ Try.underlying42 hi hz0 hz1 hz2 rfl _ Qs.length (Qs.flatMap Pk.cells) (by rfl) ?_ _ 1 1 [.int .i64 q.f, .int .i64 q.t, .slice q.A q.n q.c] (by rfl) ?_ (by omega) ?_ ?_
       · first
         | exact HO1.out
         | exact HO1.out.alloc _
       · first
         | exact src_blk P5.out
         | exact src_blk (heap_alloc_new w2 (.cells #[.int .i64 q.f, .int .i64 q.t, .slice q.A q.n q.c] tRP))
       · first
         | exact HB2.out.size
         | (have := HB2.out.size; go_size)
       intro A2 c2 w3 hown2 hgr2
       have hb2 := HB2.out
       have hb3 : Below W0.heap.size W0 w3 := Below.grown (by (repeat' (first | (with_reducible exact Below.refl _ _) | (with_reducible assumption) | (with_reducible refine Below.alloc ?_ ?_ _) | (with_reducible refine bel_drewN ?_ _) | (with_reducible refine Below.drew ?_) | (with_reducible refine Below.setCell ?_ ?_ _) | (with_reducible refine bel_call ‹_› ?_ ?_) | go_size))) hgr2 (by first | exact hb2.size | (have := hb2.size; go_size)) (own_new HO1.out (Nat.le_refl _))
       have b0 := (hb3.block w.heap.size (by omega)).trans HX0.out
       have b2 := (hb3.block (w.heap.size + 1 + 1) (by omega)).trans HX2.out
       have HB3 := Lib.hid hb3
       have HX5 := Lib.hid b0
       have HX6 := Lib.hid b2
       have HO2 := Lib.hid hown2
       obtain ⟨o0, o1, o2, o3, o4, of⟩ := cells5 b0
       obtain ⟨z0, z1, z2, z3, z4, zf⟩ := cells5 b2
       clear hown2 hgr2 b0 b2 hb2 hb3))
  all_goals
    go_wp2_with fail
    refine bodyPost_ret (v := .tuple #[.agg #[.int .i64 M, .slice A2 (Qs.length + 1) c2, .int .i64 (s + 1), .int .i64 c, .int .i64 l], .bool true]) (by simp [results, Try.results23, go_sem, o0, o1, o2, o3, o4, z0, z1, z2, z3, z4]) rfl ?_
    refine ⟨A2, _, c2, rfl, RefW.box ⟨?_, ?_⟩ hB (by omega) (tyAt_cells HX5.out) (tyAt_cells HX6.out) _ _ _ _ _ _, ?_⟩
    · rw [flat_snoc, List.length_append]
      exact own_mono HO2.out (by omega)
    · intro p hp
      have F : Fr B0 w w3 := .of_below (HB0.out.trans (HB3.out.mono (by omega)))
      rcases List.mem_append.1 hp with hp | hp
      · exact (HN.out.pk p hp).fr F
      · rw [List.mem_singleton.1 hp]
        exact HQK.out.fr F
    · have hb0 := HB0.out
      have hb3 := HB0.out.trans (HB3.out.mono (by omega))
      (repeat' (first | (with_reducible exact Below.refl _ _) | (with_reducible assumption) | (with_reducible refine Below.alloc ?_ ?_ _) | (with_reducible refine bel_drewN ?_ _) | (with_reducible refine Below.drew ?_) | (with_reducible refine Below.setCell ?_ ?_ _) | (with_reducible refine bel_call ‹_› ?_ ?_) | go_size))
end Go.Proofs.Ytoeenaionamhiaa
