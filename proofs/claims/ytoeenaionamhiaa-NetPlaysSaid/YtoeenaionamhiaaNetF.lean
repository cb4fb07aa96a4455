/- Contract of the net's Send. -/
import Derived.Test.YtoeenaionamhiaaNetE
set_option linter.unusedSimpArgs false
set_option linter.unusedVariables false
namespace Go.Proofs.Ytoeenaionamhiaa
open Go.RowKit

theorem gb_drewN {w w' : World} {row : Option Nat} (h : w.grownBy w' row) (n : Nat) : w.grownBy (w'.drewN n) row := ⟨h.os, h.tape, h.output, h.size, h.block⟩
theorem NetW.kept_blk {B0 : Nat} {w w' : World} {g : Nat} {m s l c : Int} {v : Value} {Ps : List Pk} (h : NetW B0 w g m s l c v Ps) (hg : w.grownBy w' v.ownBlock) : w'.heap[g]? = some (.cells #[.int .i64 m, v, .int .i64 s, .int .i64 l, .int .i64 c] tNet (0, 0)) :=
  (hg.block g h.lt (by
    intro e
    have := (own_ty h.own g e.symm).2
    rw [h.ty] at this
    exact absurd this (by decide))).trans h.blk
theorem NetW.kept_fr {B0 : Nat} {w w' : World} {g : Nat} {m s l c : Int} {v : Value} {Ps : List Pk} (h : NetW B0 w g m s l c v Ps) (hg : w.grownBy w' v.ownBlock) : Fr B0 w w' := (Fr.refl B0 w).grown hg (own_ty h.own)
theorem news3 (w : World) (a b c : Value) (t : TypeId) : ∀ j u, [a, b, c][j]? = some u → (w.alloc (.cells #[a, b, c] t)).cell? ((⟨w.heap.size, 0, none⟩ : Addr).add j) = some u := by
  intro j u hj
  match j, hj with
  | 0, hj => simp at hj; subst hj; simp [Addr.add]
  | 1, hj => simp at hj; subst hj; simp [Addr.add]
  | 2, hj => simp at hj; subst hj; simp [Addr.add]
theorem flat_snoc (Ps : List Pk) (q : Pk) : (Ps ++ [q]).flatMap Pk.cells = Ps.flatMap Pk.cells ++ q.cells := by rw [List.flatMap_append]; simp [List.flatMap_cons]
/-- A packet is stored behind the others. -/
theorem NetW.pushed {B0 : Nat} {w w' : World} {g : Nat} {m s l c : Int} {v v' : Value} {Ps : List Pk} {q : Pk} {n : Nat} (h : NetW B0 w g m s l c v Ps) (hg : w.grownBy w' v.ownBlock) (hn : n = Ps.length + 1)
    (hown : w'.ownsRow B0 tPk 3 v' n (Ps.flatMap Pk.cells ++ q.cells)) (hq : q.ok B0 w) : NetW B0 (w'.setCell ⟨g, 1, none⟩ v') g m s l c v' (Ps ++ [q]) := by
  subst hn
  refine NetW.setL (h.kept_blk hg) h.hg ?_ (fun p hp => ?_)
  · rw [flat_snoc, List.length_append]
    exact hown
  · rcases List.mem_append.1 hp with hp | hp
    · exact (h.pk p hp).fr (h.kept_fr hg)
    · rw [List.mem_singleton.1 hp]
      exact hq.fr (h.kept_fr hg)

theorem send_none (f t : Int) (A : Option Addr) (n c : Nat) (w : World) :
    Calls Try.prog 11 #[.pointer none, .agg #[.int .i64 f, .int .i64 t, .slice A n c]] w fun e w' => e = .returned (.bool false) ∧ Below w.heap.size w w' := by
  go_enter Try.func11, Try.ntmps11
  go_wp2_with fail
  go_ret
  exact ⟨rfl, by (repeat' (first | (with_reducible exact Below.refl _ _) | (with_reducible assumption) | (with_reducible refine Below.alloc ?_ ?_ _) | (with_reducible refine bel_drewN ?_ _) | (with_reducible refine Below.drew ?_) | (with_reducible refine Below.setCell ?_ ?_ _) | (with_reducible refine bel_call ‹_› ?_ ?_) | go_size))⟩

set_option maxRecDepth 100000 in
set_option maxHeartbeats 2000000 in
theorem send_full (B0 g : Nat) (m s l c : Int) (v : Value) (Ps : List Pk) (f t : Int) (A : Option Addr) (k cp : Nat) (hfull : m ≤ (Ps.length : Int)) (hlen : Ps.length ≤ 1000) (hs0 : 0 ≤ s) (hs1 : s ≤ 1000000) (hl0 : 0 ≤ l) (hl1 : l ≤ 1000000) (w : World) (hB : B0 ≤ w.heap.size) (hN : NetW B0 w g m s l c v Ps) :
    Calls Try.prog 11 #[.pointer (some ⟨g, 0, none⟩), .agg #[.int .i64 f, .int .i64 t, .slice A k cp]] w fun e w' => e = .returned (.bool false) ∧ Left B0 g m (s + 1) (l + 1) c Ps w w' := by
  obtain ⟨A0, cap, hv⟩ := hN.slice
  obtain ⟨q0, q1, q2, q3, q4, q5⟩ := hN.cell
  have hgl := hN.lt
  have HN := Lib.hid hN
  rw [hv] at q1
  clear hN hv
  have hd : decide (m ≤ (Ps.length : Int)) = true := by simpa using hfull
  go_enter Try.func11, Try.ntmps11
  go_wp2_with fail
  go_quiet (fail)
  go_wp2_with fail
  go_ret
  have B1 : Below (w.setCell ⟨g, 2, none⟩ (.int .i64 (s + 1))).heap.size _ _ := (Below.refl _ (w.setCell ⟨g, 2, none⟩ (.int .i64 (s + 1)))).alloc (Nat.le_refl _) (.cells #[.int .i64 f, .int .i64 t, .slice A k cp] tPk)
  have N1 := (((HN.out.set 2 (.int .i64 (s + 1)) rfl).below B1).drewN nq).set 3 (.int .i64 (l + 1)) rfl
  exact ⟨rfl, ⟨_, N1⟩, fr_gb (gb_set (gb_drewN (gb_call (gb_set (gb_below (Below.refl _ _) (some g)) (.inr rfl) _) B1) nq) (.inr rfl) _) HN.out.hg HN.out.ty⟩

set_option maxRecDepth 100000 in
set_option maxHeartbeats 2000000 in
theorem send_ok (B0 g : Nat) (m s l c : Int) (v : Value) (Ps : List Pk) (f t : Int) (A : Option Addr) (k cp : Nat) (L : List UInt8) (hroom : (Ps.length : Int) < m) (hlen : Ps.length ≤ 1000) (hs0 : 0 ≤ s) (hs1 : s ≤ 1000000) (hk : k ≤ 300) (w : World) (hB : B0 ≤ w.heap.size) (hN : NetW B0 w g m s l c v Ps) (hL : RdB B0 w A k cp L) :
    Calls Try.prog 11 #[.pointer (some ⟨g, 0, none⟩), .agg #[.int .i64 f, .int .i64 t, .slice A k cp]] w fun e w' => e = .returned (.bool true) ∧ ∃ q : Pk, q.f = f ∧ q.t = t ∧ q.bs = L ∧ Left B0 g m (s + 1) l c (Ps ++ [q]) w w' := by
  obtain ⟨A0, cap, rfl⟩ := hN.slice
  obtain ⟨i0, hi, hz0, hz1, hz2⟩ := info_parts info_p
  obtain ⟨q0, q1, q2, q3, q4, q5⟩ := hN.cell
  have hgl := hN.lt
  have HN := Lib.hid hN
  have HL := Lib.hid hL
  clear hN hL
  have hd : decide (m ≤ (Ps.length : Int)) = false := by simpa using hroom
  go_enter Try.func11, Try.ntmps11
  go_wp2_with fail
  go_quiet (fail)
  go_wp2_with fail
  have B1 : Below (w.setCell ⟨g, 2, none⟩ (.int .i64 (s + 1))).heap.size _ _ := (Below.refl _ (w.setCell ⟨g, 2, none⟩ (.int .i64 (s + 1)))).alloc (Nat.le_refl _) (.cells #[.int .i64 f, .int .i64 t, .slice A k cp] tPk)
  have N1 := ((HN.out.set 2 (.int .i64 (s + 1)) rfl).below B1).drewN nq
  have F1 : Fr B0 w _ := fr_gb (gb_drewN (gb_call (gb_set (gb_below (Below.refl w.heap.size w) (some g)) (p := ⟨g, 2, none⟩) (.inr rfl) (.int .i64 (s + 1))) B1) nq) HN.out.hg HN.out.ty
  have hx : (((w.setCell ⟨g, 2, none⟩ (.int .i64 (s + 1))).alloc (.cells #[.int .i64 f, .int .i64 t, .slice A k cp] tPk)).drewN nq).heap[w.heap.size]? = some (.cells #[.int .i64 f, .int .i64 t, .slice A k cp] tPk (0, 0)) := by
    simpa using heap_alloc_new (w.setCell ⟨g, 2, none⟩ (.int .i64 (s + 1))) (.cells #[.int .i64 f, .int .i64 t, .slice A k cp] tPk)
  generalize ((w.setCell ⟨g, 2, none⟩ (.int .i64 (s + 1))).alloc (.cells #[.int .i64 f, .int .i64 t, .slice A k cp] tPk)).drewN nq = W0 at N1 F1 hx ⊢
  clear B1 q0 q1 q2 q3 q4 q5
  obtain ⟨q0, q1, q2, q3, q4, q5⟩ := N1.cell
  have x0 : W0.cell? ⟨w.heap.size, 0, none⟩ = some (.int .i64 f) := by simp [World.cell?, hx]
  have x1 : W0.cell? ⟨w.heap.size, 1, none⟩ = some (.int .i64 t) := by simp [World.cell?, hx]
  have x2 : W0.cell? ⟨w.heap.size, 2, none⟩ = some (.slice A k cp) := by simp [World.cell?, hx]
  have hxl : w.heap.size < W0.heap.size := tyAt_lt (tyAt_cells hx)
  have hgl0 := N1.lt
  have HN1 := Lib.hid N1
  have HF1 := Lib.hid F1
  have HL1 : Hid (RdB B0 W0 A k cp L) := HL.out.fr F1
  clear N1 F1 hx
  go_region_law (first
    | (go_simp
       go_at_call 20
       refine (copied_any B0 f t A k cp L hk _ ?_ (HL1.out.below ?_)).mono ?_
       · go_size
       · (repeat' (first | (with_reducible exact Below.refl _ _) | (with_reducible assumption) | (with_reducible refine Below.alloc ?_ ?_ _) | (with_reducible refine bel_drewN ?_ _) | (with_reducible refine Below.drew ?_) | (with_reducible refine Below.setCell ?_ ?_ _) | (with_reducible refine bel_call ‹_› ?_ ?_) | go_size))
       rintro e w1 ⟨q, rfl, hqf, hqt, hqb, hqo, hb, _⟩
       obtain ⟨hc, hf, hz⟩ := bcell hb (by first | (simp only [World.size_alloc, World.size_setCell, World.size_drew]; rfl) | rfl)
       obtain ⟨qf, qt, qA, qn, qc, qb⟩ := q
       have HQ : Hid (Pk.ok B0 w1 ⟨qf, qt, qA, qn, qc, qb⟩ ∧ qf = f ∧ qt = t ∧ qb = L) := ⟨hqo, hqf, hqt, hqb⟩
       clear hqf hqt hqb hqo
       unfold Pk.val
       go_simp)
    | (refine step_append_lies _ (by rfl) _ _ _ (by rfl) B0 tPk i0 (.agg #[.int .i64 0, .int .i64 0, .slice none 0 0]) 3 40 Try.underlying48 hi hz0 hz1 hz2 rfl (by decide) _ Ps.length (Ps.flatMap Pk.cells) (by rfl) (HN1.out.below (by (repeat' (first | (with_reducible exact Below.refl _ _) | (with_reducible assumption) | (with_reducible refine Below.alloc ?_ ?_ _) | (with_reducible refine bel_drewN ?_ _) | (with_reducible refine Below.drew ?_) | (with_reducible refine Below.setCell ?_ ?_ _) | (with_reducible refine bel_call ‹_› ?_ ?_) | go_size)))).own _ 1 1 _ (by rfl) (by rfl) (news3 w1 _ _ _ _) ?_ (by decide) ?_ ?_ ?_ _ (by rfl) ?_
       · intro u hu
         simp only [List.mem_cons, List.not_mem_nil, or_false] at hu
         rcases hu with rfl | rfl | rfl
         all_goals rfl
       · unfold maxLen; omega
       · omega
       · go_size
       intro gg cap' w3 hown3 hgr3 hlies hlt3
       have hblk : w3.heap[g]? = some (.cells #[.int .i64 m, .slice A0 Ps.length cap, .int .i64 (s + 1), .int .i64 l, .int .i64 c] tNet (0, 0)) := NetW.kept_blk (HN1.out.below (by (repeat' (first | (with_reducible exact Below.refl _ _) | (with_reducible assumption) | (with_reducible refine Below.alloc ?_ ?_ _) | (with_reducible refine bel_drewN ?_ _) | (with_reducible refine Below.drew ?_) | (with_reducible refine Below.setCell ?_ ?_ _) | (with_reducible refine bel_call ‹_› ?_ ?_) | go_size)))) hgr3
       have HPU : Hid (NetW B0 (w3.setCell ⟨g, 1, none⟩ (.slice (some ⟨gg, 0, none⟩) (Ps.length + 1) cap')) g m (s + 1) l c (.slice (some ⟨gg, 0, none⟩) (Ps.length + 1) cap') (Ps ++ [⟨qf, qt, qA, qn, qc, qb⟩])) := NetW.pushed (HN1.out.below (by (repeat' (first | (with_reducible exact Below.refl _ _) | (with_reducible assumption) | (with_reducible refine Below.alloc ?_ ?_ _) | (with_reducible refine bel_drewN ?_ _) | (with_reducible refine Below.drew ?_) | (with_reducible refine Below.setCell ?_ ?_ _) | (with_reducible refine bel_call ‹_› ?_ ?_) | go_size)))) hgr3 rfl hown3 (HQ.out.1.fr (.of_below ((Below.refl _ _).alloc (Nat.le_refl _) _)))
       have HFR : Hid (Fr B0 w w3) := HF1.out.trans ((Fr.of_below (w' := w1.alloc _) (by (repeat' (first | (with_reducible exact Below.refl _ _) | (with_reducible assumption) | (with_reducible refine Below.alloc ?_ ?_ _) | (with_reducible refine bel_drewN ?_ _) | (with_reducible refine Below.drew ?_) | (with_reducible refine Below.setCell ?_ ?_ _) | (with_reducible refine bel_call ‹_› ?_ ?_) | go_size)))).trans (NetW.kept_fr (HN1.out.below (by (repeat' (first | (with_reducible exact Below.refl _ _) | (with_reducible assumption) | (with_reducible refine Below.alloc ?_ ?_ _) | (with_reducible refine bel_drewN ?_ _) | (with_reducible refine Below.drew ?_) | (with_reducible refine Below.setCell ?_ ?_ _) | (with_reducible refine bel_call ‹_› ?_ ?_) | go_size)))) hgr3))
       have c1 : w3.cell? ⟨g, 1, none⟩ = some (.slice A0 Ps.length cap) := by simp [World.cell?, hblk]
       have f1 : ∀ k, w3.frozen? ⟨g, k, none⟩ = false := fun k => by simp [World.frozen?, hblk]
       have HTY : Hid (tyAt w3 g = some tNet) := tyAt_cells hblk
       clear hown3 hgr3 hlies hblk))
  all_goals
    go_wp2_with fail
    go_ret
    exact ⟨rfl, _, HQ.out.2.1, HQ.out.2.2.1, HQ.out.2.2.2, ⟨_, HPU.out⟩, HFR.out.set HN1.out.hg (.inl HTY.out) _⟩
end Go.Proofs.Ytoeenaionamhiaa
