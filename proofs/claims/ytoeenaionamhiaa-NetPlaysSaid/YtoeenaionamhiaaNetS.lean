/- Contracts of the reference's Send, and of At. -/
import Derived.Test.YtoeenaionamhiaaNetQ
set_option linter.unusedSimpArgs false
set_option linter.unusedVariables false
namespace Go.Proofs.Ytoeenaionamhiaa
open Go.RowKit

set_option maxRecDepth 100000 in
set_option maxHeartbeats 2000000 in
theorem at_hit (B0 g : Nat) (m s l c : Int) (v : Value) (Ps : List Pk) (i : Nat) (p : Pk) (hp : Ps[i]? = some p) (hlen : Ps.length ≤ 1000) (w : World) (hB : B0 ≤ w.heap.size) (hN : NetW B0 w g m s l c v Ps) :
    Calls Try.prog 16 #[.pointer (some ⟨g, 0, none⟩), .int .i64 i] w fun e w' => ∃ q : Pk, e = .returned (.tuple #[q.val, .bool true]) ∧ q.key = p.key ∧ q.ok B0 w' ∧ Below w.heap.size w w' := by
  have hi0 : i < Ps.length := (List.getElem?_eq_some_iff.1 hp).1
  obtain ⟨r, cap, rfl, hr, hnc, hcm, hrl, hty, hfr, key⟩ := hN.row (by omega)
  obtain ⟨q0, q1, q2, q3, q4, q5⟩ := hN.cell
  have HP : Hid (p.ok B0 w) := hN.pk p (List.mem_of_getElem? hp)
  have hkp : p.n ≤ 300 := HP.out.2
  have k0 : w.cell? ⟨r, i * 3, none⟩ = some (.int .i64 p.f) := key _ _ (flat_at Ps i p hp 0 (by omega))
  have k1 : w.cell? ⟨r, i * 3 + 1, none⟩ = some (.int .i64 p.t) := key _ _ (flat_at Ps i p hp 1 (by omega))
  have k2 : w.cell? ⟨r, i * 3 + 2, none⟩ = some (.slice p.A p.n p.c) := key _ _ (flat_at Ps i p hp 2 (by omega))
  have hgl := hN.lt
  clear hN hp hfr key hty q0 q2 q3 q4
  unfold maxLen at hcm
  have g4 : (i : Int) < (Ps.length : Int) := by omega
  go_enter Try.func16, Try.ntmps16
  go_wp2_with fail
  refine (is_yes g i (.bool true) ⟨r, 0, none⟩ Ps.length cap hlen hi0 _ (by go_simp)).mono ?_
  rintro e w1 ⟨rfl, rfl⟩
  go_wp2_with fail
  refine (copied_any B0 p.f p.t p.A p.n p.c p.bs hkp _ (by go_size) (HP.out.1.below (by (repeat' (first | (with_reducible exact Below.refl _ _) | (with_reducible assumption) | (with_reducible refine Below.alloc ?_ ?_ _) | (with_reducible refine bel_drewN ?_ _) | (with_reducible refine Below.drew ?_) | (with_reducible refine Below.setCell ?_ ?_ _) | (with_reducible refine bel_call ‹_› ?_ ?_) | go_size))))).mono ?_
  rintro e w1 ⟨q, rfl, hqf, hqt, hqb, hqo, hb, hqz⟩
  obtain ⟨hc, hf, hz⟩ := bcell hb (by first | (simp only [World.size_alloc, World.size_setCell, World.size_drew]; rfl) | rfl)
  obtain ⟨qf, qt, qA, qn, qc, qb⟩ := q
  have HQ : Hid (Pk.ok B0 w1 ⟨qf, qt, qA, qn, qc, qb⟩ ∧ qf = p.f ∧ qt = p.t ∧ qb = p.bs) := ⟨hqo, hqf, hqt, hqb⟩
  have hx : tyAt w1 w.heap.size = some tPk := ty_call hb (ty_new rfl)
  have HX := Lib.hid hx
  clear hqf hqt hqb hqo hqz hx
  unfold Pk.val
  go_wp2_with fail
  refine bodyPost_ret (v := .tuple #[.agg #[.int .i64 qf, .int .i64 qt, .slice qA qn qc], .bool true]) (by simp [results, Try.results16, go_sem, hc, hz]) rfl ⟨⟨qf, qt, qA, qn, qc, qb⟩, rfl, ?_, ?_, by (repeat' (first | (with_reducible exact Below.refl _ _) | (with_reducible assumption) | (with_reducible refine Below.alloc ?_ ?_ _) | (with_reducible refine bel_drewN ?_ _) | (with_reducible refine Below.drew ?_) | (with_reducible refine Below.setCell ?_ ?_ _) | (with_reducible refine bel_call ‹_› ?_ ?_) | go_size))⟩
  · obtain ⟨_, h1, h2, h3⟩ := HQ.out
    unfold Pk.key
    simp only [h1, h2, h3]
  · exact HQ.out.1.fr (((fr_set (p := ⟨w.heap.size, 0, none⟩) hB (.inr HX.out) _).set (p := ⟨w.heap.size, 1, none⟩) hB (.inr (ty_set HX.out _ _)) _).set (p := ⟨w.heap.size, 2, none⟩) hB (.inr (ty_set (ty_set HX.out _ _) _ _)) _)

set_option maxRecDepth 100000 in
set_option maxHeartbeats 2000000 in
theorem at_miss (B0 g : Nat) (m s l c : Int) (v : Value) (Ps : List Pk) (i : Int) (hi : i < 0 ∨ (Ps.length : Int) ≤ i) (hlen : Ps.length ≤ 1000) (w : World) (hB : B0 ≤ w.heap.size) (hN : NetW B0 w g m s l c v Ps) :
    Calls Try.prog 16 #[.pointer (some ⟨g, 0, none⟩), .int .i64 i] w fun e w' => e = .returned (.tuple #[.agg #[.int .i64 0, .int .i64 0, .slice none 0 0], .bool false]) ∧ Below w.heap.size w w' := by
  obtain ⟨A, cap, rfl⟩ := hN.slice
  obtain ⟨q0, q1, q2, q3, q4, q5⟩ := hN.cell
  have hgl := hN.lt
  have Q1 := Lib.hid q1
  have HI := Lib.hid hi
  clear hi q1 hN
  go_enter Try.func16, Try.ntmps16
  go_wp2_with fail
  refine (is_miss g i A Ps.length cap hlen HI.out _ (by have := Q1.out; go_simp)).mono ?_
  rintro e w1 ⟨rfl, rfl⟩
  go_wp2_with fail
  refine bodyPost_ret (v := .tuple #[.agg #[.int .i64 0, .int .i64 0, .slice none 0 0], .bool false]) (by simp [results, Try.results16, go_sem]) rfl ⟨rfl, by (repeat' (first | (with_reducible exact Below.refl _ _) | (with_reducible assumption) | (with_reducible refine Below.alloc ?_ ?_ _) | (with_reducible refine bel_drewN ?_ _) | (with_reducible refine Below.drew ?_) | (with_reducible refine Below.setCell ?_ ?_ _) | (with_reducible refine bel_call ‹_› ?_ ?_) | go_size))⟩

/-! Calls on no net. -/
theorem at_none (i : Int) (w : World) : Calls Try.prog 16 #[.pointer none, .int .i64 i] w fun e w' => e = .returned (.tuple #[.agg #[.int .i64 0, .int .i64 0, .slice none 0 0], .bool false]) ∧ Below w.heap.size w w' := by
  go_enter Try.func16, Try.ntmps16
  go_wp2_with fail
  refine (is_none i _).mono ?_
  rintro e w1 ⟨rfl, rfl⟩
  go_wp2_with fail
  refine bodyPost_ret (v := .tuple #[.agg #[.int .i64 0, .int .i64 0, .slice none 0 0], .bool false]) (by simp [results, Try.results16, go_sem]) rfl ⟨rfl, by (repeat' (first | (with_reducible exact Below.refl _ _) | (with_reducible assumption) | (with_reducible refine Below.alloc ?_ ?_ _) | (with_reducible refine bel_drewN ?_ _) | (with_reducible refine Below.drew ?_) | (with_reducible refine Below.setCell ?_ ?_ _) | (with_reducible refine bel_call ‹_› ?_ ?_) | go_size))⟩
theorem take_none (i : Int) (w : World) : Calls Try.prog 7 #[.pointer none, .int .i64 i] w fun e w' => e = .returned (.tuple #[.agg #[.int .i64 0, .int .i64 0, .slice none 0 0], .bool false]) ∧ Below w.heap.size w w' := by
  go_enter Try.func7, Try.ntmps7
  go_wp2_with fail
  refine (is_none i _).mono ?_
  rintro e w1 ⟨rfl, rfl⟩
  go_wp2_with fail
  refine bodyPost_ret (v := .tuple #[.agg #[.int .i64 0, .int .i64 0, .slice none 0 0], .bool false]) (by simp [results, Try.results7, go_sem]) rfl ⟨rfl, by (repeat' (first | (with_reducible exact Below.refl _ _) | (with_reducible assumption) | (with_reducible refine Below.alloc ?_ ?_ _) | (with_reducible refine bel_drewN ?_ _) | (with_reducible refine Below.drew ?_) | (with_reducible refine Below.setCell ?_ ?_ _) | (with_reducible refine bel_call ‹_› ?_ ?_) | go_size))⟩
theorem drop_none (i : Int) (w : World) : Calls Try.prog 8 #[.pointer none, .int .i64 i] w fun e w' => e = .returned (.bool false) ∧ w = w' := by
  go_enter Try.func8, Try.ntmps8
  go_wp2_with fail
  refine (is_none i _).mono ?_
  rintro e w1 ⟨rfl, rfl⟩
  go_wp2_with fail
  go_ret
  exact ⟨rfl, rfl⟩
theorem twice_none (i : Int) (w : World) : Calls Try.prog 9 #[.pointer none, .int .i64 i] w fun e w' => e = .returned (.bool false) ∧ Below w.heap.size w w' := by
  go_enter Try.func9, Try.ntmps9
  go_wp2_with fail
  go_quiet ((go_at_call 18; exact quiet_same (is_none i _)))
  go_wp2_with fail
  go_ret
  exact ⟨rfl, bel_drewN (Below.refl _ _) _⟩
theorem spoil_none (i a b : Int) (w : World) : Calls Try.prog 10 #[.pointer none, .int .i64 i, .int .i64 a, .int .u8 b] w fun e w' => e = .returned (.bool false) ∧ w = w' := by
  go_enter Try.func10, Try.ntmps10
  go_wp2_with fail
  refine (is_none i _).mono ?_
  rintro e w1 ⟨rfl, rfl⟩
  go_wp2_with fail
  go_ret
  exact ⟨rfl, rfl⟩
theorem len_none (w : World) : Calls Try.prog 14 #[.pointer none] w fun e w' => e = .returned (.int .i64 0) ∧ w = w' := by
  go_enter Try.func14, Try.ntmps14
  go_wp2_with fail
  go_ret
  exact ⟨rfl, rfl⟩
end Go.Proofs.Ytoeenaionamhiaa
