/- Contracts of the net's Take and Drop. -/
import Derived.Test.YtoeenaionamhiaaNetD
set_option linter.unusedSimpArgs false
set_option linter.unusedVariables false
namespace Go.Proofs.Ytoeenaionamhiaa
open Go.RowKit

/-- What a call leaves of the net, when its numbers and its packets are these. -/
def Left (B0 g : Nat) (m s l c : Int) (Ps : List Pk) (W w' : World) : Prop := (∃ v', NetW B0 w' g m s l c v' Ps) ∧ Fr B0 W w'

theorem NetW.slice {B0 : Nat} {w : World} {g : Nat} {m s l c : Int} {v : Value} {Ps : List Pk} (h : NetW B0 w g m s l c v Ps) : ∃ A cap, v = .slice A Ps.length cap := by
  obtain ⟨_, ⟨rfl, h0⟩ | ⟨g, cap, cur, rfl, _⟩⟩ := h.own
  · rw [h0]; exact ⟨_, _, rfl⟩
  · exact ⟨_, _, rfl⟩

theorem is_miss (g : Nat) (i : Int) (A : Option Addr) (n cap : Nat) (hn : n ≤ 1000) (hi : i < 0 ∨ (n : Int) ≤ i) (w : World) (h : w.cell? ⟨g, 1, none⟩ = some (.slice A n cap)) :
    Calls Try.prog 18 #[.pointer (some ⟨g, 0, none⟩), .int .i64 i] w fun e w' => e = .returned (.bool false) ∧ w = w' := by
  by_cases h0 : i < 0
  · exact is_low g i h0 w
  · exact is_high g i A n cap hn (by omega) (by omega) w h

set_option maxRecDepth 100000 in
set_option maxHeartbeats 2000000 in
theorem take_hit (B0 g : Nat) (m s l c : Int) (v : Value) (Ps : List Pk) (i : Nat) (p : Pk) (hp : Ps[i]? = some p) (hlen : Ps.length ≤ 1000) (hc0 : 0 ≤ c) (hc1 : c ≤ 1000000) (w : World) (hB : B0 ≤ w.heap.size) (hN : NetW B0 w g m s l c v Ps) :
    Calls Try.prog 7 #[.pointer (some ⟨g, 0, none⟩), .int .i64 i] w fun e w' => e = .returned (.tuple #[p.val, .bool true]) ∧ Left B0 g m s l (c + 1) (Ps.eraseIdx i) w w' := by
  have hi : i < Ps.length := (List.getElem?_eq_some_iff.1 hp).1
  obtain ⟨r, cap, hv, _⟩ := hN.row (by omega)
  obtain ⟨q0, q1, q2, q3, q4, q5⟩ := hN.cell
  have hgl := hN.lt
  have HN := Lib.hid hN
  have HP := Lib.hid hp
  rw [hv] at q1
  clear hN hp hv
  obtain ⟨n, hn⟩ : ∃ n, n = Ps.length := ⟨_, rfl⟩
  have HL := Lib.hid hn
  rw [← hn] at hi hlen q1
  clear hn
  go_enter Try.func7, Try.ntmps7
  go_wp2_with fail
  refine (is_yes g i v ⟨r, 0, none⟩ n cap hlen hi _ (by go_simp)).mono ?_
  rintro e w1 ⟨rfl, rfl⟩
  go_wp2_with fail
  have N1 : Hid (NetW B0 ((w.setCell ⟨g, 4, none⟩ (.int .i64 (c + 1))).alloc (.cells #[.int .i64 0, .int .i64 0, .slice none 0 0] tPk)) g m s l (c + 1) v Ps) := (HN.out.set 4 (.int .i64 (c + 1)) rfl).below ((Below.refl _ _).alloc (Nat.le_refl _) _)
  refine (cut_any B0 g m s l (c + 1) v Ps i p HP.out (by have := HL.out; omega) _ (by simp; omega) N1.out).mono ?_
  rintro e w1 ⟨rfl, ⟨v', net, hfr⟩, gb⟩
  have hx : w1.heap[w.heap.size]? = some (.cells #[.int .i64 0, .int .i64 0, .slice none 0 0] tPk (0, 0)) := (gb.block w.heap.size (by simp) (by intro e; injection e with e; omega)).trans (by simpa using heap_alloc_new (w.setCell ⟨g, 4, none⟩ (.int .i64 (c + 1))) (.cells #[.int .i64 0, .int .i64 0, .slice none 0 0] tPk))
  have x0 : w1.cell? ⟨w.heap.size, 0, none⟩ = some (.int .i64 0) := by simp [World.cell?, hx]
  have x1 : w1.cell? ⟨w.heap.size, 1, none⟩ = some (.int .i64 0) := by simp [World.cell?, hx]
  have x2 : w1.cell? ⟨w.heap.size, 2, none⟩ = some (.slice none 0 0) := by simp [World.cell?, hx]
  have xf : ∀ k, w1.frozen? ⟨w.heap.size, k, none⟩ = false := fun k => by simp [World.frozen?, hx]
  have hne : v'.ownBlock ≠ some w.heap.size := by
    intro he
    have h := hfr _ he
    simp at h
    omega
  have tyb := tyAt_cells hx
  have NET := Lib.hid net
  have TYB := Lib.hid tyb
  clear net tyb hx hfr
  have HF : Hid (w.grownBy w1 (some g)) := gb_trans (gb_call (gb_set (gb_below (Below.refl _ _) (some g)) (p := ⟨g, 4, none⟩) (.inr rfl) (.int .i64 (c + 1))) ((Below.refl _ _).alloc (Nat.le_refl _) _)) gb
  have HT : Hid (tyAt w g = some tNet) := HN.out.ty
  have HG : Hid (B0 ≤ g) := HN.out.hg
  clear gb
  unfold Pk.val
  go_wp2_with fail
  refine bodyPost_ret (v := .tuple #[p.val, .bool true]) (by simp [results, Try.results7, go_sem, x0, x1, x2, Pk.val]) rfl ⟨rfl, ⟨_, ((NET.out.far (p := ⟨w.heap.size, 0, none⟩) hB TYB.out hne (.int .i64 p.f)).far (p := ⟨w.heap.size, 1, none⟩) hB (ty_set TYB.out _ _) hne (.int .i64 p.t)).far (p := ⟨w.heap.size, 2, none⟩) hB (ty_set (ty_set TYB.out _ _) _ _) hne (.slice p.A p.n p.c)⟩, ?_⟩
  exact fr_gb (gb_set (gb_set (gb_set HF.out (.inl (Nat.le_refl _)) _) (.inl (Nat.le_refl _)) _) (.inl (Nat.le_refl _)) _) HG.out HT.out

set_option maxRecDepth 100000 in
set_option maxHeartbeats 2000000 in
theorem take_miss (B0 g : Nat) (m s l c : Int) (v : Value) (Ps : List Pk) (i : Int) (hi : i < 0 ∨ (Ps.length : Int) ≤ i) (hlen : Ps.length ≤ 1000) (w : World) (hB : B0 ≤ w.heap.size) (hN : NetW B0 w g m s l c v Ps) :
    Calls Try.prog 7 #[.pointer (some ⟨g, 0, none⟩), .int .i64 i] w fun e w' => e = .returned (.tuple #[.agg #[.int .i64 0, .int .i64 0, .slice none 0 0], .bool false]) ∧ Left B0 g m s l c Ps w w' := by
  obtain ⟨A, cap, hv⟩ := hN.slice
  obtain ⟨q0, q1, q2, q3, q4, q5⟩ := hN.cell
  have hgl := hN.lt
  have HN := Lib.hid hN
  rw [hv] at q1
  clear hN hv
  have Q1 := Lib.hid q1
  have HI := Lib.hid hi
  clear hi q1
  go_enter Try.func7, Try.ntmps7
  go_wp2_with fail
  refine (is_miss g i A Ps.length cap hlen HI.out _ (by have := Q1.out; go_simp)).mono ?_
  rintro e w1 ⟨rfl, rfl⟩
  go_wp2_with fail
  refine bodyPost_ret (v := .tuple #[.agg #[.int .i64 0, .int .i64 0, .slice none 0 0], .bool false]) (by simp [results, Try.results7, go_sem]) rfl ⟨rfl, ⟨_, HN.out.below (by (repeat' (first | (with_reducible exact Below.refl _ _) | (with_reducible assumption) | (with_reducible refine Below.alloc ?_ ?_ _) | (with_reducible refine bel_drewN ?_ _) | (with_reducible refine Below.drew ?_) | (with_reducible refine Below.setCell ?_ ?_ _) | (with_reducible refine bel_call ‹_› ?_ ?_) | go_size)))⟩, Fr.of_below (by (repeat' (first | (with_reducible exact Below.refl _ _) | (with_reducible assumption) | (with_reducible refine Below.alloc ?_ ?_ _) | (with_reducible refine bel_drewN ?_ _) | (with_reducible refine Below.drew ?_) | (with_reducible refine Below.setCell ?_ ?_ _) | (with_reducible refine bel_call ‹_› ?_ ?_) | go_size)))⟩

set_option maxRecDepth 100000 in
set_option maxHeartbeats 2000000 in
theorem drop_hit (B0 g : Nat) (m s l c : Int) (v : Value) (Ps : List Pk) (i : Nat) (p : Pk) (hp : Ps[i]? = some p) (hlen : Ps.length ≤ 1000) (hc0 : 0 ≤ l) (hc1 : l ≤ 1000000) (w : World) (hB : B0 ≤ w.heap.size) (hN : NetW B0 w g m s l c v Ps) :
    Calls Try.prog 8 #[.pointer (some ⟨g, 0, none⟩), .int .i64 i] w fun e w' => e = .returned (.bool true) ∧ Left B0 g m s (l + 1) c (Ps.eraseIdx i) w w' := by
  have hi : i < Ps.length := (List.getElem?_eq_some_iff.1 hp).1
  obtain ⟨r, cap, hv, _⟩ := hN.row (by omega)
  obtain ⟨q0, q1, q2, q3, q4, q5⟩ := hN.cell
  have hgl := hN.lt
  have HN := Lib.hid hN
  have HP := Lib.hid hp
  rw [hv] at q1
  clear hN hp hv
  obtain ⟨n, hn⟩ : ∃ n, n = Ps.length := ⟨_, rfl⟩
  have HL := Lib.hid hn
  rw [← hn] at hi hlen q1
  clear hn
  go_enter Try.func8, Try.ntmps8
  go_wp2_with fail
  refine (is_yes g i v ⟨r, 0, none⟩ n cap hlen hi _ (by go_simp)).mono ?_
  rintro e w1 ⟨rfl, rfl⟩
  go_wp2_with fail
  have N1 : Hid (NetW B0 (w.setCell ⟨g, 3, none⟩ (.int .i64 (l + 1))) g m s (l + 1) c v Ps) := HN.out.set 3 (.int .i64 (l + 1)) rfl
  refine (cut_any B0 g m s (l + 1) c v Ps i p HP.out (by have := HL.out; omega) _ (by simp; omega) N1.out).mono ?_
  rintro e w1 ⟨rfl, ⟨v', net, hfr⟩, gb⟩
  have NET := Lib.hid net
  have HF : Hid (w.grownBy w1 (some g)) := gb_trans (gb_set (gb_below (Below.refl _ _) (some g)) (p := ⟨g, 3, none⟩) (.inr rfl) (.int .i64 (l + 1))) gb
  have HT : Hid (tyAt w g = some tNet) := HN.out.ty
  have HG : Hid (B0 ≤ g) := HN.out.hg
  clear gb net hfr
  go_wp2_with fail
  go_ret
  exact ⟨rfl, ⟨_, NET.out⟩, fr_gb HF.out HG.out HT.out⟩

set_option maxRecDepth 100000 in
set_option maxHeartbeats 2000000 in
theorem drop_miss (B0 g : Nat) (m s l c : Int) (v : Value) (Ps : List Pk) (i : Int) (hi : i < 0 ∨ (Ps.length : Int) ≤ i) (hlen : Ps.length ≤ 1000) (w : World) (hB : B0 ≤ w.heap.size) (hN : NetW B0 w g m s l c v Ps) :
    Calls Try.prog 8 #[.pointer (some ⟨g, 0, none⟩), .int .i64 i] w fun e w' => e = .returned (.bool false) ∧ Left B0 g m s l c Ps w w' := by
  obtain ⟨A, cap, hv⟩ := hN.slice
  obtain ⟨q0, q1, q2, q3, q4, q5⟩ := hN.cell
  have HN := Lib.hid hN
  rw [hv] at q1
  clear hN hv
  have Q1 := Lib.hid q1
  have HI := Lib.hid hi
  clear hi q1
  go_enter Try.func8, Try.ntmps8
  go_wp2_with fail
  refine (is_miss g i A Ps.length cap hlen HI.out _ (by have := Q1.out; go_simp)).mono ?_
  rintro e w1 ⟨rfl, rfl⟩
  go_wp2_with fail
  go_ret
  exact ⟨rfl, ⟨_, HN.out⟩, Fr.refl _ _⟩
end Go.Proofs.Ytoeenaionamhiaa
