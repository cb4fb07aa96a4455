/- Contract of the net's Twice. -/
import Derived.Test.YtoeenaionamhiaaNetF
set_option linter.unusedSimpArgs false
set_option linter.unusedVariables false
namespace Go.Proofs.Ytoeenaionamhiaa
open Go.RowKit

theorem quiet_same {P : Program} {f : FuncId} {args : Array Value} {w : World} {n : Nat} {v : Value} (h : Calls P f args (w.drewN n) fun e w' => e = .returned v ∧ w.drewN n = w') : Calls P f args (w.drewN n) fun e w'' => e = .returned v ∧ ∃ m, w'' = w.drewN m :=
  Calls.quiet_of_same (h.mono fun _ _ ⟨he, hm⟩ => ⟨he, hm.symm⟩)

set_option maxRecDepth 100000 in
set_option maxHeartbeats 2000000 in
theorem twice_miss (B0 g : Nat) (m s l c : Int) (v : Value) (Ps : List Pk) (i : Int) (hi : i < 0 ∨ (Ps.length : Int) ≤ i) (hlen : Ps.length ≤ 1000) (w : World) (hB : B0 ≤ w.heap.size) (hN : NetW B0 w g m s l c v Ps) :
    Calls Try.prog 9 #[.pointer (some ⟨g, 0, none⟩), .int .i64 i] w fun e w' => e = .returned (.bool false) ∧ Left B0 g m s l c Ps w w' := by
  obtain ⟨A, cap, rfl⟩ := hN.slice
  obtain ⟨q0, q1, q2, q3, q4, q5⟩ := hN.cell
  have HN := Lib.hid hN
  clear hN
  have Q1 := Lib.hid q1
  have HI := Lib.hid hi
  clear hi
  go_enter Try.func9, Try.ntmps9
  go_wp2_with fail
  go_quiet ((go_at_call 18; exact quiet_same (is_miss g i A Ps.length cap hlen HI.out _ Q1.out)))
  go_wp2_with fail
  go_ret
  exact ⟨rfl, ⟨_, HN.out.drewN _⟩, (Fr.refl _ _).drewN _⟩

set_option maxRecDepth 100000 in
set_option maxHeartbeats 2000000 in
theorem twice_full (B0 g : Nat) (m s l c : Int) (v : Value) (Ps : List Pk) (i : Nat) (hi : i < Ps.length) (hfull : m ≤ (Ps.length : Int)) (hlen : Ps.length ≤ 1000) (w : World) (hB : B0 ≤ w.heap.size) (hN : NetW B0 w g m s l c v Ps) :
    Calls Try.prog 9 #[.pointer (some ⟨g, 0, none⟩), .int .i64 i] w fun e w' => e = .returned (.bool false) ∧ Left B0 g m s l c Ps w w' := by
  obtain ⟨r, cap, rfl, _⟩ := hN.row (by omega)
  obtain ⟨q0, q1, q2, q3, q4, q5⟩ := hN.cell
  have HN := Lib.hid hN
  clear hN
  have Q1 := Lib.hid q1
  have hd : decide (m ≤ (Ps.length : Int)) = true := by simpa using hfull
  go_enter Try.func9, Try.ntmps9
  go_wp2_with fail
  go_quiet ((go_at_call 18; exact quiet_same (is_yes g i (.bool true) ⟨r, 0, none⟩ Ps.length cap hlen hi _ Q1.out)))
  go_wp2_with fail
  go_ret
  exact ⟨rfl, ⟨_, HN.out.drewN _⟩, (Fr.refl _ _).drewN _⟩

set_option maxRecDepth 100000 in
set_option maxHeartbeats 2000000 in
theorem twice_ok (B0 g : Nat) (m s l c : Int) (v : Value) (Ps : List Pk) (i : Nat) (p : Pk) (hp : Ps[i]? = some p) (hroom : (Ps.length : Int) < m) (hlen : Ps.length ≤ 1000) (hs0 : 0 ≤ s) (hs1 : s ≤ 1000000) (w : World) (hB : B0 ≤ w.heap.size) (hN : NetW B0 w g m s l c v Ps) :
    Calls Try.prog 9 #[.pointer (some ⟨g, 0, none⟩), .int .i64 i] w fun e w' => e = .returned (.bool true) ∧ ∃ q : Pk, q.f = p.f ∧ q.t = p.t ∧ q.bs = p.bs ∧ Left B0 g m (s + 1) l c (Ps ++ [q]) w w' := by
  have hi0 : i < Ps.length := (List.getElem?_eq_some_iff.1 hp).1
  obtain ⟨r, cap, rfl, hr, hnc, hcm, hrl, hty, hfr, key⟩ := hN.row (by omega)
  obtain ⟨i0, hi, hz0, hz1, hz2⟩ := info_parts info_p
  obtain ⟨q0, q1, q2, q3, q4, q5⟩ := hN.cell
  have hgl := hN.lt
  have HN := Lib.hid hN
  have HP : Hid (p.ok B0 w) := hN.pk p (List.mem_of_getElem? hp)
  have hkp : p.n ≤ 300 := HP.out.2
  have k0 : w.cell? ⟨r, i * 3, none⟩ = some (.int .i64 p.f) := key _ _ (flat_at Ps i p hp 0 (by omega))
  have k1 : w.cell? ⟨r, i * 3 + 1, none⟩ = some (.int .i64 p.t) := key _ _ (flat_at Ps i p hp 1 (by omega))
  have k2 : w.cell? ⟨r, i * 3 + 2, none⟩ = some (.slice p.A p.n p.c) := key _ _ (flat_at Ps i p hp 2 (by omega))
  have HRG : Hid (r ≠ g) := by
    intro e
    subst e
    rw [hN.ty] at hty
    exact absurd hty (by decide)
  have HTR := Lib.hid hty
  clear hN hp hfr key hty
  unfold maxLen at hcm
  have Q1 := Lib.hid q1
  have hd : decide (m ≤ (Ps.length : Int)) = false := by simpa using hroom
  go_enter Try.func9, Try.ntmps9
  go_wp2_with fail
  go_quiet ((go_at_call 18; exact quiet_same (is_yes g i (.bool true) ⟨r, 0, none⟩ Ps.length cap hlen hi0 _ Q1.out)))
  go_wp2_with fail
  have N1 := (HN.out.drewN nq).set 2 (.int .i64 (s + 1)) rfl
  have F1 : Fr B0 w _ := fr_gb (gb_set (gb_drewN (gb_below (Below.refl w.heap.size w) (some g)) nq) (p := ⟨g, 2, none⟩) (.inr rfl) (.int .i64 (s + 1))) HN.out.hg HN.out.ty
  have hx : ((w.drewN nq).setCell ⟨g, 2, none⟩ (.int .i64 (s + 1))).heap[r]? = w.heap[r]? := Below.heap_setCell (w.drewN nq) ⟨g, 2, none⟩ _ r HRG.out
  have y0 : ((w.drewN nq).setCell ⟨g, 2, none⟩ (.int .i64 (s + 1))).cell? ⟨r, i * 3, none⟩ = some (.int .i64 p.f) := (World.cell?_of_block (a := ⟨r, i * 3, none⟩) hx).trans k0
  have y1 : ((w.drewN nq).setCell ⟨g, 2, none⟩ (.int .i64 (s + 1))).cell? ⟨r, i * 3 + 1, none⟩ = some (.int .i64 p.t) := (World.cell?_of_block (a := ⟨r, i * 3 + 1, none⟩) hx).trans k1
  have y2 : ((w.drewN nq).setCell ⟨g, 2, none⟩ (.int .i64 (s + 1))).cell? ⟨r, i * 3 + 2, none⟩ = some (.slice p.A p.n p.c) := (World.cell?_of_block (a := ⟨r, i * 3 + 2, none⟩) hx).trans k2
  have hrl0 : r < ((w.drewN nq).setCell ⟨g, 2, none⟩ (.int .i64 (s + 1))).heap.size := by simpa using hrl
  generalize (w.drewN nq).setCell ⟨g, 2, none⟩ (.int .i64 (s + 1)) = W0 at N1 F1 y0 y1 y2 hrl0 ⊢
  clear hx k0 k1 k2 q0 q1 q2 q3 q4 q5
  obtain ⟨q0, q1, q2, q3, q4, q5⟩ := N1.cell
  have hgl0 := N1.lt
  have HN1 := Lib.hid N1
  have HF1 := Lib.hid F1
  have HP1 : Hid (p.ok B0 W0) := HP.out.fr F1
  have hB0 : B0 ≤ W0.heap.size := Nat.le_trans hB F1.size
  have g4 : (i : Int) < (Ps.length : Int) := by omega
  clear N1 F1
  go_region_law (first
    | (go_simp
       go_at_call 20
       refine (copied_any B0 p.f p.t p.A p.n p.c p.bs hkp _ ?_ (HP1.out.1.below ?_)).mono ?_
       · go_size
       · (repeat' (first | (with_reducible exact Below.refl _ _) | (with_reducible assumption) | (with_reducible refine Below.alloc ?_ ?_ _) | (with_reducible refine bel_drewN ?_ _) | (with_reducible refine Below.drew ?_) | (with_reducible refine Below.setCell ?_ ?_ _) | (with_reducible refine bel_call ‹_› ?_ ?_) | go_size))
       rintro e w1 ⟨q, rfl, hqf, hqt, hqb, hqo, hb, _⟩
       obtain ⟨hc, hf, hz⟩ := bcell hb (by first | (simp only [World.size_alloc, World.size_setCell, World.size_drew]; rfl) | rfl)
       obtain ⟨qf, qt, qA, qn, qc, qb⟩ := q
       have HQ : Hid (Pk.ok B0 w1 ⟨qf, qt, qA, qn, qc, qb⟩ ∧ qf = p.f ∧ qt = p.t ∧ qb = p.bs) := ⟨hqo, hqf, hqt, hqb⟩
       clear hqf hqt hqb hqo
       unfold Pk.val
       go_simp)
    | (refine step_append_lies _ (by rfl) _ _ _ (by rfl) B0 tPk i0 (.agg #[.int .i64 0, .int .i64 0, .slice none 0 0]) 3 40 Try.underlying48 hi hz0 hz1 hz2 rfl (by decide) _ Ps.length (Ps.flatMap Pk.cells) (by rfl) (HN1.out.below (by (repeat' (first | (with_reducible exact Below.refl _ _) | (with_reducible assumption) | (with_reducible refine Below.alloc ?_ ?_ _) | (with_reducible refine bel_drewN ?_ _) | (with_reducible refine Below.drew ?_) | (with_reducible refine Below.setCell ?_ ?_ _) | (with_reducible refine bel_call ‹_› ?_ ?_) | go_size)))).own _ 1 1 _ (by rfl) (by rfl) (news3 w1 _ _ _ _) ?_ (by decide) ?_ ?_ ?_ _ (by rfl) ?_
       · intro u hu
         simp only [List.mem_cons, List.not_mem_nil, or_false] at hu
         rcases hu with rfl | rfl | rfl
         all_goals rfl
       · unfold maxLen; omega
       · omega
       · go_size
       intro gg cap' w3 hown3 hgr3 hlies hlt3
       have hblk : w3.heap[g]? = some (.cells #[.int .i64 m, .slice (some ⟨r, 0, none⟩) Ps.length cap, .int .i64 (s + 1), .int .i64 l, .int .i64 c] tNet (0, 0)) := NetW.kept_blk (HN1.out.below (by (repeat' (first | (with_reducible exact Below.refl _ _) | (with_reducible assumption) | (with_reducible refine Below.alloc ?_ ?_ _) | (with_reducible refine bel_drewN ?_ _) | (with_reducible refine Below.drew ?_) | (with_reducible refine Below.setCell ?_ ?_ _) | (with_reducible refine bel_call ‹_› ?_ ?_) | go_size)))) hgr3
       have HPU : Hid (NetW B0 (w3.setCell ⟨g, 1, none⟩ (.slice (some ⟨gg, 0, none⟩) (Ps.length + 1) cap')) g m (s + 1) l c (.slice (some ⟨gg, 0, none⟩) (Ps.length + 1) cap') (Ps ++ [⟨qf, qt, qA, qn, qc, qb⟩])) := NetW.pushed (HN1.out.below (by (repeat' (first | (with_reducible exact Below.refl _ _) | (with_reducible assumption) | (with_reducible refine Below.alloc ?_ ?_ _) | (with_reducible refine bel_drewN ?_ _) | (with_reducible refine Below.drew ?_) | (with_reducible refine Below.setCell ?_ ?_ _) | (with_reducible refine bel_call ‹_› ?_ ?_) | go_size)))) hgr3 rfl hown3 (HQ.out.1.fr (.of_below ((Below.refl _ _).alloc (Nat.le_refl _) _)))
       have HFR : Hid (Fr B0 w w3) := HF1.out.trans ((Fr.of_below (w' := w1.alloc _) (by (repeat' (first | (with_reducible exact Below.refl _ _) | (with_reducible assumption) | (with_reducible refine Below.alloc ?_ ?_ _) | (with_reducible refine bel_drewN ?_ _) | (with_reducible refine Below.drew ?_) | (with_reducible refine Below.setCell ?_ ?_ _) | (with_reducible refine bel_call ‹_› ?_ ?_) | go_size)))).trans (NetW.kept_fr (HN1.out.below (by (repeat' (first | (with_reducible exact Below.refl _ _) | (with_reducible assumption) | (with_reducible refine Below.alloc ?_ ?_ _) | (with_reducible refine bel_drewN ?_ _) | (with_reducible refine Below.drew ?_) | (with_reducible refine Below.setCell ?_ ?_ _) | (with_reducible refine bel_call ‹_› ?_ ?_) | go_size)))) hgr3))
       have c1 : w3.cell? ⟨g, 1, none⟩ = some (.slice (some ⟨r, 0, none⟩) Ps.length cap) := by simp [World.cell?, hblk]
       have f1 : ∀ k, w3.frozen? ⟨g, k, none⟩ = false := fun k => by simp [World.frozen?, hblk]
       have HTY : Hid (tyAt w3 g = some tNet) := tyAt_cells hblk
       clear hown3 hgr3 hlies hblk))
  all_goals
    go_wp2_with fail
    go_ret
    exact ⟨rfl, _, HQ.out.2.1, HQ.out.2.2.1, HQ.out.2.2.2, ⟨_, HPU.out⟩, HFR.out.set HN1.out.hg (.inl HTY.out) _⟩
end Go.Proofs.Ytoeenaionamhiaa
