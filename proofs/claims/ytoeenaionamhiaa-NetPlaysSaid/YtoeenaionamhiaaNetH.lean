/- Contract of the net's Spoil. -/
import Derived.Test.YtoeenaionamhiaaNetE
import Derived.Laws.BitsAllLaws
set_option linter.unusedSimpArgs false
set_option linter.unusedVariables false
namespace Go.Proofs.Ytoeenaionamhiaa
open Go.RowKit

theorem flat_set (Ps : List Pk) (q : Pk) : ∀ i, i < Ps.length → (((Ps.flatMap Pk.cells).set (i * 3) (.int .i64 q.f)).set (i * 3 + 1) (.int .i64 q.t)).set (i * 3 + 2) (.slice q.A q.n q.c) = (Ps.set i q).flatMap Pk.cells := by
  induction Ps with
  | nil => intro i hi; simp at hi
  | cons p Ps ih =>
    intro i hi
    cases i with
    | zero => simp [List.flatMap_cons, Pk.cells]
    | succ i =>
      have h := ih i (by simpa using hi)
      have e1 : (i + 1) * 3 = i * 3 + 1 + 1 + 1 := by omega
      rw [List.set_cons_succ, List.flatMap_cons, List.flatMap_cons, ← h, e1]
      simp [Pk.cells]

/-- A byte of a slice is stored. -/
theorem RdB.put {B0 : Nat} {w : World} {b off n c : Nat} {L : List UInt8} (h : RdB B0 w (some ⟨b, off, none⟩) n c L) (hb : B0 ≤ b) (j : Nat) (hj : j < n) (u : UInt8) : RdB B0 (w.setCell ⟨b, off + j, none⟩ (U8 u)) (some ⟨b, off, none⟩) n c (L.set j u) := by
  obtain ⟨h1, h2, h3, h4⟩ := h
  rcases h4 with ⟨h4, _⟩ | ⟨x, h5, h7, h8⟩
  · cases h4
  · cases h5
    refine ⟨by rw [List.length_set]; exact h1, h2, h3, .inr ⟨⟨b, off, none⟩, rfl, fun hn => by rw [tyAt_set]; exact h7 hn, fun k hk => ?_⟩⟩
    have h8 := fun k hk => (add_plain b off k) ▸ h8 k hk
    rw [add_plain]
    by_cases e : j = k
    · subst e
      rw [World.cell?_setCell_same _ _ _ (by rw [h8 j hj])]
      simp [List.getD, List.getElem?_set, h1, hj]
    · rw [World.cell?_setCell_other _ _ _ _ (by intro he; simp at he), h8 k hk]
      simp [List.getD, List.getElem?_set, e]

/-- A packet is stored in another's place. -/
theorem NetW.putPk {B0 : Nat} {w : World} {g r : Nat} {m s l c : Int} {n cap : Nat} {Ps : List Pk} {q : Pk} {i : Nat} (h : NetW B0 w g m s l c (.slice (some ⟨r, 0, none⟩) n cap) Ps) (hq : q.ok B0 w) (hi : i < Ps.length) :
    NetW B0 (((w.setCell ⟨r, i * 3, none⟩ (.int .i64 q.f)).setCell ⟨r, i * 3 + 1, none⟩ (.int .i64 q.t)).setCell ⟨r, i * 3 + 2, none⟩ (.slice q.A q.n q.c)) g m s l c (.slice (some ⟨r, 0, none⟩) n cap) (Ps.set i q) ∧
    w.grownBy (((w.setCell ⟨r, i * 3, none⟩ (.int .i64 q.f)).setCell ⟨r, i * 3 + 1, none⟩ (.int .i64 q.t)).setCell ⟨r, i * 3 + 2, none⟩ (.slice q.A q.n q.c)) (some r) := by
  have hn : n = Ps.length := by
    obtain ⟨hl, ⟨h', h0⟩ | ⟨g', cap', cur, h', _, _, _, _, _, _⟩⟩ := h.own
    · cases h'
    · cases h'; rfl
  have ht := (own_ty h.own r rfl)
  have hgr : g ≠ r := by
    rintro rfl
    have h1 := ht.2
    rw [h.ty] at h1
    exact absurd h1 (by decide)
  obtain ⟨o1, _⟩ := World.ownsRow.stored (hn ▸ h.own) (i * 3) (.int .i64 q.f)
  obtain ⟨o2, _⟩ := World.ownsRow.stored o1 (i * 3 + 1) (.int .i64 q.t)
  obtain ⟨o3, _⟩ := World.ownsRow.stored o2 (i * 3 + 2) (.slice q.A q.n q.c)
  rw [flat_set Ps q i hi] at o3
  have gb : w.grownBy (((w.setCell ⟨r, i * 3, none⟩ (.int .i64 q.f)).setCell ⟨r, i * 3 + 1, none⟩ (.int .i64 q.t)).setCell ⟨r, i * 3 + 2, none⟩ (.slice q.A q.n q.c)) (some r) :=
    gb_set (gb_set (gb_set (gb_below (Below.refl _ _) (some r)) (.inr rfl) _) (.inr rfl) _) (.inr rfl) _
  have fr : Fr B0 w _ := (Fr.refl B0 w).grown gb (fun k hk => by cases hk; exact ht)
  refine ⟨⟨(gb.block g h.lt (by intro e; injection e with e; exact hgr e)).trans h.blk, by rw [List.length_set, hn]; exact o3, h.hg, fun p hp => ?_⟩, gb⟩
  rcases List.mem_or_eq_of_mem_set hp with hp | rfl
  · exact (h.pk p hp).fr fr
  · exact hq.fr fr

set_option maxRecDepth 100000 in
set_option maxHeartbeats 2000000 in
theorem spoil_miss (B0 g : Nat) (m s l c : Int) (v : Value) (Ps : List Pk) (i at_ : Int) (bt : Int) (hi : i < 0 ∨ (Ps.length : Int) ≤ i) (hlen : Ps.length ≤ 1000) (w : World) (hB : B0 ≤ w.heap.size) (hN : NetW B0 w g m s l c v Ps) :
    Calls Try.prog 10 #[.pointer (some ⟨g, 0, none⟩), .int .i64 i, .int .i64 at_, .int .u8 bt] w fun e w' => e = .returned (.bool false) ∧ Left B0 g m s l c Ps w w' := by
  obtain ⟨A, cap, rfl⟩ := hN.slice
  obtain ⟨q0, q1, q2, q3, q4, q5⟩ := hN.cell
  have HN := Lib.hid hN
  clear hN
  have Q1 := Lib.hid q1
  have HI := Lib.hid hi
  clear hi
  go_enter Try.func10, Try.ntmps10
  go_wp2_with fail
  refine (is_miss g i A Ps.length cap hlen HI.out _ Q1.out).mono ?_
  rintro e w1 ⟨rfl, rfl⟩
  go_wp2_with fail
  go_ret
  exact ⟨rfl, ⟨_, HN.out⟩, Fr.refl _ _⟩

set_option maxRecDepth 100000 in
set_option maxHeartbeats 2000000 in
theorem spoil_empty (B0 g : Nat) (m s l c : Int) (v : Value) (Ps : List Pk) (i : Nat) (at_ : Int) (bt : Int) (p : Pk) (hp : Ps[i]? = some p) (hpn : p.n = 0) (hlen : Ps.length ≤ 1000) (w : World) (hB : B0 ≤ w.heap.size) (hN : NetW B0 w g m s l c v Ps) :
    Calls Try.prog 10 #[.pointer (some ⟨g, 0, none⟩), .int .i64 i, .int .i64 at_, .int .u8 bt] w fun e w' => e = .returned (.bool false) ∧ Left B0 g m s l c Ps w w' := by
  have hi0 : i < Ps.length := (List.getElem?_eq_some_iff.1 hp).1
  obtain ⟨r, cap, rfl, hr, hnc, hcm, hrl, hty, hfr, key⟩ := hN.row (by omega)
  obtain ⟨q0, q1, q2, q3, q4, q5⟩ := hN.cell
  have HN := Lib.hid hN
  have k2 : w.cell? ⟨r, i * 3 + 2, none⟩ = some (.slice p.A p.n p.c) := key _ _ (flat_at Ps i p hp 2 (by omega))
  rw [hpn] at k2
  clear hN hp hpn hfr key hty
  unfold maxLen at hcm
  have Q1 := Lib.hid q1
  have g4 : (i : Int) < (Ps.length : Int) := by omega
  go_enter Try.func10, Try.ntmps10
  go_wp2_with fail
  refine (is_yes g i (.bool true) ⟨r, 0, none⟩ Ps.length cap hlen hi0 _ Q1.out).mono ?_
  rintro e w1 ⟨rfl, rfl⟩
  go_wp2_with fail
  go_ret
  exact ⟨rfl, ⟨_, HN.out⟩, Fr.refl _ _⟩

set_option maxRecDepth 100000 in
set_option maxHeartbeats 2000000 in
theorem spoil_ok (B0 g : Nat) (m s l c : Int) (v : Value) (Ps : List Pk) (i : Nat) (a : Nat) (bt : UInt8) (p : Pk) (hp : Ps[i]? = some p) (hpn : 0 < p.n) (ha : a ≤ 9223372036854775807) (hlen : Ps.length ≤ 1000) (w : World) (hB : B0 ≤ w.heap.size) (hN : NetW B0 w g m s l c v Ps) :
    Calls Try.prog 10 #[.pointer (some ⟨g, 0, none⟩), .int .i64 i, .int .i64 a, .int .u8 (bt.toNat : Int)] w fun e w' => e = .returned (.bool true) ∧ ∃ q : Pk, q.f = p.f ∧ q.t = p.t ∧ q.bs = p.bs.set (a % p.n) (p.bs.getD (a % p.n) 0 ^^^ bt) ∧ Left B0 g m s l c (Ps.set i q) w w' := by
  have hi0 : i < Ps.length := (List.getElem?_eq_some_iff.1 hp).1
  obtain ⟨r, cap, rfl, hr, hnc, hcm, hrl, hty, hfr, key⟩ := hN.row (by omega)
  obtain ⟨q0, q1, q2, q3, q4, q5⟩ := hN.cell
  have hgl := hN.lt
  have HN := Lib.hid hN
  have HP : Hid (p.ok B0 w) := hN.pk p (List.mem_of_getElem? hp)
  have hkp : p.n ≤ 300 := HP.out.2
  have k0 : w.cell? ⟨r, i * 3, none⟩ = some (.int .i64 p.f) := key _ _ (flat_at Ps i p hp 0 (by omega))
  have k1 : w.cell? ⟨r, i * 3 + 1, none⟩ = some (.int .i64 p.t) := key _ _ (flat_at Ps i p hp 1 (by omega))
  have k2 : w.cell? ⟨r, i * 3 + 2, none⟩ = some (.slice p.A p.n p.c) := key _ _ (flat_at Ps i p hp 2 (by omega))
  have HTR := Lib.hid hty
  have HFZ := Lib.hid hfr
  clear hN hp hfr key hty
  unfold maxLen at hcm
  have Q1 := Lib.hid q1
  have g4 : (i : Int) < (Ps.length : Int) := by omega
  have g5 : (0 : Int) < (p.n : Int) := by omega
  have g6 : ((p.n : Int) == 0) = false := by simp; omega
  go_enter Try.func10, Try.ntmps10
  go_wp2_with fail
  refine (is_yes g i (.bool true) ⟨r, 0, none⟩ Ps.length cap hlen hi0 _ Q1.out).mono ?_
  rintro e w1 ⟨rfl, rfl⟩
  go_wp2_with fail
  refine (copied_any B0 p.f p.t p.A p.n p.c p.bs hkp _ hB HP.out.1).mono ?_
  rintro e w1 ⟨q, rfl, hqf, hqt, hqb, hqo, hb, hqz⟩
  obtain ⟨hc, hf, hz⟩ := bcell hb (by first | (simp only [World.size_alloc, World.size_setCell, World.size_drew]; rfl) | rfl)
  obtain ⟨qf, qt, qA, qn, qc, qb⟩ := q
  simp only at hqf hqt hqb hqz
  subst hqf hqt hqb
  have hqn : qn = p.n := by have := hqo.1.1; have := HP.out.1.1; simp at *; omega
  subst hqn
  obtain ⟨b, off, hA, hbl, hbt, hcell⟩ := hqo.1.addr hpn
  obtain ⟨h1, h2, h3, _⟩ := hqo.1
  simp only at hA hcell h1 h2 h3
  subst hA
  have HZ := Lib.hid hqz
  have HQ := Lib.hid hqo
  have HC := Lib.hid hcell
  clear hqz hqo hcell hbt h1
  unfold Pk.val
  go_wp2_with fail
  have N0 : NetW B0 (w1.alloc (.cells #[.int .i64 p.f, .int .i64 p.t, .slice (some ⟨b, off, none⟩) p.n qc] tPk)) g m s l c (.slice (some ⟨r, 0, none⟩) Ps.length cap) Ps := (HN.out.below hb).below ((Below.refl _ _).alloc (Nat.le_refl _) _)
  have HB0 : Hid (Below w.heap.size w (w1.alloc (.cells #[.int .i64 p.f, .int .i64 p.t, .slice (some ⟨b, off, none⟩) p.n qc] tPk))) := by unfold Hid; (repeat' (first | (with_reducible exact Below.refl _ _) | (with_reducible assumption) | (with_reducible refine Below.alloc ?_ ?_ _) | (with_reducible refine bel_drewN ?_ _) | (with_reducible refine Below.drew ?_) | (with_reducible refine Below.setCell ?_ ?_ _) | (with_reducible refine bel_call ‹_› ?_ ?_) | go_size))
  have HQ0 : Hid (Pk.ok B0 (w1.alloc (.cells #[.int .i64 p.f, .int .i64 p.t, .slice (some ⟨b, off, none⟩) p.n qc] tPk)) ⟨p.f, p.t, some ⟨b, off, none⟩, p.n, qc, p.bs⟩) := HQ.out.fr (.of_below ((Below.refl _ _).alloc (Nat.le_refl _) _))
  have hx : (w1.alloc (.cells #[.int .i64 p.f, .int .i64 p.t, .slice (some ⟨b, off, none⟩) p.n qc] tPk)).heap[w1.heap.size]? = some (.cells #[.int .i64 p.f, .int .i64 p.t, .slice (some ⟨b, off, none⟩) p.n qc] tPk (0, 0)) := heap_alloc_new w1 _
  have hzf : ∀ k, (w1.alloc (.cells #[.int .i64 p.f, .int .i64 p.t, .slice (some ⟨b, off, none⟩) p.n qc] tPk)).frozen? ⟨b, k, none⟩ = false := fun k => (World.frozen?_of_block (a := ⟨b, k, none⟩) (Below.heap_alloc w1 _ b hbl)).trans ((HZ.out _ rfl).2 k)
  have hbig : w.heap.size ≤ b := (HZ.out _ rfl).1
  obtain ⟨J, hJ⟩ : ∃ J, J = a % p.n := ⟨_, rfl⟩
  have hJn : J < p.n := by rw [hJ]; exact Nat.mod_lt _ hpn
  obtain ⟨X, hX⟩ : ∃ X, X = p.bs.getD J 0 := ⟨_, rfl⟩
  have hy : (w1.alloc (.cells #[.int .i64 p.f, .int .i64 p.t, .slice (some ⟨b, off, none⟩) p.n qc] tPk)).cell? ⟨b, off + J, none⟩ = some (.int .u8 (X.toNat : Int)) := by
    rw [hX]
    exact (World.cell?_of_block (a := ⟨b, off + J, none⟩) (Below.heap_alloc w1 _ b hbl)).trans (HC.out J hJn)
  have e1 : (a : Int) % (p.n : Int) = (J : Int) := by rw [hJ]; exact (Int.natCast_emod a p.n).symm
  have e2 : Int.tmod (a : Int) (p.n : Int) = (J : Int) := by rw [Int.tmod_eq_emod_of_nonneg (by omega)]; exact e1
  have hw0 : w1.heap.size < (w1.alloc (.cells #[.int .i64 p.f, .int .i64 p.t, .slice (some ⟨b, off, none⟩) p.n qc] tPk)).heap.size := by simp
  have hbl0 : b < w1.heap.size := hbl
  generalize w1.alloc (.cells #[.int .i64 p.f, .int .i64 p.t, .slice (some ⟨b, off, none⟩) p.n qc] tPk) = W0 at N0 HB0 HQ0 hx hzf hy hw0 ⊢
  have HJ := Lib.hid hJ
  have HX := Lib.hid hX
  have x0 : W0.cell? ⟨w1.heap.size, 0, none⟩ = some (.int .i64 p.f) := by simp [World.cell?, hx]
  have x1 : W0.cell? ⟨w1.heap.size, 1, none⟩ = some (.int .i64 p.t) := by simp [World.cell?, hx]
  have x2 : W0.cell? ⟨w1.heap.size, 2, none⟩ = some (.slice (some ⟨b, off, none⟩) p.n qc) := by simp [World.cell?, hx]
  clear hX hJ hb hc hf q0 q1 q2 q3 q4 q5 k0 k1 k2 hx hbl
  obtain ⟨q0, q1, q2, q3, q4, q5⟩ := N0.cell
  have HN0 := Lib.hid N0
  clear N0
  have j1 : (0 : Int) ≤ (J : Int) := by omega
  have j2 : (J : Int) < (p.n : Int) := by omega
  have hbx : bits BinOp.xor IntKind.u8 (X.toNat : Int) (bt.toNat : Int) = ((X ^^^ bt).toNat : Int) := by rw [u8_xor_nat _ _ X.toNat_lt bt.toNat_lt, UInt8.toNat_xor]
  have HBX := Lib.hid hbx
  clear hbx
  go_region
  rw [HBX.out]
  have HB1 : Below w.heap.size w (W0.setCell ⟨b, off + J, none⟩ (.int .u8 ((X ^^^ bt).toNat : Int))).drew := (HB0.out.setCell (p := ⟨b, off + J, none⟩) hbig _).drew
  have N1 : NetW B0 (W0.setCell ⟨b, off + J, none⟩ (.int .u8 ((X ^^^ bt).toNat : Int))).drew g m s l c (.slice (some ⟨r, 0, none⟩) Ps.length cap) Ps := HN.out.below HB1
  have HQ1 : Hid (Pk.ok B0 (W0.setCell ⟨b, off + J, none⟩ (.int .u8 ((X ^^^ bt).toNat : Int))).drew ⟨p.f, p.t, some ⟨b, off, none⟩, p.n, qc, p.bs.set J (X ^^^ bt)⟩) := ⟨HQ0.out.1.put (by omega) J hJn (X ^^^ bt), hkp⟩
  have z0 : (W0.setCell ⟨b, off + J, none⟩ (.int .u8 ((X ^^^ bt).toNat : Int))).drew.cell? ⟨w1.heap.size, 0, none⟩ = some (.int .i64 p.f) := (World.cell?_of_block (a := ⟨w1.heap.size, 0, none⟩) (Below.heap_setCell W0 _ _ _ (by simp; omega))).trans x0
  have z1 : (W0.setCell ⟨b, off + J, none⟩ (.int .u8 ((X ^^^ bt).toNat : Int))).drew.cell? ⟨w1.heap.size, 1, none⟩ = some (.int .i64 p.t) := (World.cell?_of_block (a := ⟨w1.heap.size, 1, none⟩) (Below.heap_setCell W0 _ _ _ (by simp; omega))).trans x1
  have z2 : (W0.setCell ⟨b, off + J, none⟩ (.int .u8 ((X ^^^ bt).toNat : Int))).drew.cell? ⟨w1.heap.size, 2, none⟩ = some (.slice (some ⟨b, off, none⟩) p.n qc) := (World.cell?_of_block (a := ⟨w1.heap.size, 2, none⟩) (Below.heap_setCell W0 _ _ _ (by simp; omega))).trans x2
  generalize (W0.setCell ⟨b, off + J, none⟩ (.int .u8 ((X ^^^ bt).toNat : Int))).drew = W1 at HB1 N1 HQ1 z0 z1 z2 ⊢
  clear q0 q1 q2 q3 q4 q5 x0 x1 x2 hy hzf hw0
  obtain ⟨q0, q1, q2, q3, q4, q5⟩ := N1.cell
  obtain ⟨r', cap', hv', _, _, _, hrl1, _, hfr1, key1⟩ := N1.row (by omega)
  obtain ⟨rfl, rfl⟩ : r' = r ∧ cap' = cap := by cases hv'; exact ⟨rfl, rfl⟩
  obtain ⟨p1, hp1⟩ : ∃ p1, Ps[i]? = some p1 := ⟨Ps[i], List.getElem?_eq_getElem hi0⟩
  have y0 : W1.cell? ⟨r', i * 3, none⟩ = some (.int .i64 p1.f) := key1 _ _ (flat_at Ps i p1 hp1 0 (by omega))
  have y1 : W1.cell? ⟨r', i * 3 + 1, none⟩ = some (.int .i64 p1.t) := key1 _ _ (flat_at Ps i p1 hp1 1 (by omega))
  have y2 : W1.cell? ⟨r', i * 3 + 2, none⟩ = some (.slice p1.A p1.n p1.c) := key1 _ _ (flat_at Ps i p1 hp1 2 (by omega))
  have v0 : W1.frozen? ⟨r', i * 3, none⟩ = false := hfr1 _ (by omega)
  have v1 : W1.frozen? ⟨r', i * 3 + 1, none⟩ = false := hfr1 _ (by omega)
  have v2 : W1.frozen? ⟨r', i * 3 + 2, none⟩ = false := hfr1 _ (by omega)
  have HP1 := Lib.hid hp1
  have HN1 := Lib.hid N1
  have HF1 := Lib.hid HB1
  have hs1 := HB1.size
  clear hv' key1 hfr1 hp1 N1 HB1
  go_wp2_with fail
  go_region
  go_wp2_with fail
  go_ret
  have put := NetW.putPk (q := ⟨p.f, p.t, some ⟨b, off, none⟩, p.n, qc, p.bs.set J (X ^^^ bt)⟩) HN1.out HQ1.out hi0
  exact ⟨rfl, ⟨p.f, p.t, some ⟨b, off, none⟩, p.n, qc, p.bs.set J (X ^^^ bt)⟩, rfl, rfl, by rw [← HJ.out, ← HX.out], ⟨_, put.1.same rfl rfl rfl rfl⟩, ((Fr.of_below (B0 := B0) HF1.out).grown put.2 (fun k hk => by cases hk; exact own_ty HN1.out.own _ rfl)).drew⟩
end Go.Proofs.Ytoeenaionamhiaa
