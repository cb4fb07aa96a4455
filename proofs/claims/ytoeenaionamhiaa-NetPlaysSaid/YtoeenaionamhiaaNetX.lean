/- Contract of the reference's Spoil. -/
import Derived.Test.YtoeenaionamhiaaNetR
import Derived.Test.YtoeenaionamhiaaNetH
import Derived.Laws.BitsAllLaws
set_option linter.unusedSimpArgs false
set_option linter.unusedVariables false
namespace Go.Proofs.Ytoeenaionamhiaa
open Go.RowKit

/-- append(v, src...) in a plain region: v the call's own row of the reference's packets, the source nil, empty or not. -/
theorem wpList_append_r {P : Program} {ops : Array Oper} {rest : List Oper} {o : Oper} {a : Act} {w : World} {Q : Exit → Act → World → Prop}
    (hgd : o.guard = none) (s x : Operand) (t : TypeId) (ho : o.op = .call { callee := .builtin .append, args := #[s, x], argTypes := #[t, t] })
    (base : Nat) (e : TypeId) (i : TypeInfo) (z : Value) (ht : P.underlying t = some (.slice e)) (hi : P.info? e = some i) (hz : i.zero = some z)
    (hsize : i.size = 3) (hby : i.bytes = 40) (hzs : z.cells.size = 3)
    (v : Value) (n : Nat) (xs : List Value) (hs : a.eval s = v) (hown : w.ownsRow base e 3 v n xs)
    (A : Option Addr) (m c : Nat) (news : List Value) (hx : a.eval x = .slice A m c) (hsrc : Src w A m c news)
    (h63 : n + m ≤ 100000) (hbase : base ≤ w.heap.size)
    (h : ∀ A' c' w', w'.ownsRow base e 3 (.slice A' (n + m) c') (n + m) (xs ++ news) → w.grownBy w' v.ownBlock → wpList P ops Q rest (a.put o.dst (.slice A' (n + m) c')) w') : wpList P ops Q (o :: rest) a w := by
  have back : ∀ v' w', w'.ownsRow base e 3 v' (n + m) (xs ++ news) → w.grownBy w' v.ownBlock → wpList P ops Q rest (a.put o.dst v') w' := fun v' w' h1 h2 => by
    obtain ⟨A', c', rfl⟩ := own_slice h1
    exact h A' c' w' h1 h2
  obtain ⟨h1, h2, ⟨rfl, rfl, rfl⟩ | ⟨ad, rfl, _, h3⟩⟩ := hsrc
  · have : news = [] := List.eq_nil_of_length_eq_zero (by simpa using h1)
    subst this
    exact wpList_append_own_none hgd s x t ho base e i 3 ht hi v n xs hs hown hx (back v w (by simpa using hown) (World.grownBy.refl w _))
  · exact wpList_append_own w hgd s x t ho base e i z 3 40 ht hi hz hsize hby hzs (by decide) v n xs hs hown ad m c news hx h1 h3 h2 (by unfold maxLen; omega) (by omega) hbase (fun v' w' r1 r2 _ => back v' w' r1 r2)

theorem cells5' {w : World} {b : Nat} {a0 a1 a2 a3 a4 : Value} {t : TypeId} (h : w.heap[b]? = some (.cells #[a0, a1, a2, a3, a4] t (0, 0))) : w.cell? ⟨b, 0, none⟩ = some a0 ∧ w.cell? ⟨b, 1, none⟩ = some a1 ∧ w.cell? ⟨b, 2, none⟩ = some a2 ∧ w.cell? ⟨b, 3, none⟩ = some a3 ∧ w.cell? ⟨b, 4, none⟩ = some a4 ∧ ∀ k, w.frozen? ⟨b, k, none⟩ = false := by
  refine ⟨?_, ?_, ?_, ?_, ?_, fun k => ?_⟩
  all_goals simp [World.cell?, World.frozen?, h]
theorem own_empty1 {w : World} {base b : Nat} {e : TypeId} (h : w.heap[b]? = some (.cells #[] e (0, 0))) (hb : base ≤ b) : w.ownsRow base e 1 (.slice (some ⟨b, 0, none⟩) 0 0) 0 [] :=
  ⟨rfl, .inr ⟨b, 0, #[], rfl, hb, h, Nat.le_refl _, Nat.zero_le _, rfl, rfl⟩⟩
/-- A byte of a slice is stored, wherever it lies apart from B0's old blocks. -/
theorem RdB.put' {B0 : Nat} {w : World} {b off n c : Nat} {L : List UInt8} (h : RdB B0 w (some ⟨b, off, none⟩) n c L) (j : Nat) (hj : j < n) (u : UInt8) : RdB B0 (w.setCell ⟨b, off + j, none⟩ (U8 u)) (some ⟨b, off, none⟩) n c (L.set j u) := by
  obtain ⟨h1, h2, h3, h4⟩ := h
  rcases h4 with ⟨h4, _⟩ | ⟨x, h5, h7, h8⟩
  · cases h4
  · cases h5
    refine ⟨by rw [List.length_set]; exact h1, h2, h3, .inr ⟨⟨b, off, none⟩, rfl, fun hn => by rw [tyAt_set]; exact h7 hn, fun k hk => ?_⟩⟩
    have h8 := fun k hk => (add_plain b off k) ▸ h8 k hk
    rw [add_plain]
    by_cases e : j = k
    · subst e
      rw [World.cell?_setCell_same _ _ _ (by rw [h8 j hj])]
      simp [List.getD, List.getElem?_set, h1, hj]
    · rw [World.cell?_setCell_other _ _ _ _ (by intro he; simp at he), h8 k hk]
      simp [List.getD, List.getElem?_set, e]
/-- A packet is stored in another's place. -/
theorem RefW.putPk {B0 : Nat} {w : World} {r n cap : Nat} {Qs : List Pk} {q : Pk} {i : Nat} (h : RefW B0 w (.slice (some ⟨r, 0, none⟩) n cap) Qs) (hq : q.ok B0 w) (hi : i < Qs.length) :
    RefW B0 (((w.setCell ⟨r, i * 3, none⟩ (.int .i64 q.f)).setCell ⟨r, i * 3 + 1, none⟩ (.int .i64 q.t)).setCell ⟨r, i * 3 + 2, none⟩ (.slice q.A q.n q.c)) (.slice (some ⟨r, 0, none⟩) n cap) (Qs.set i q) := by
  have hn : n = Qs.length := by
    obtain ⟨hl, ⟨h', h0⟩ | ⟨g', cap', cur, h', _, _, _, _, _, _⟩⟩ := h.own
    · cases h'
    · cases h'; rfl
  have ht := (own_ty h.own r rfl)
  obtain ⟨o1, _⟩ := World.ownsRow.stored (hn ▸ h.own) (i * 3) (.int .i64 q.f)
  obtain ⟨o2, _⟩ := World.ownsRow.stored o1 (i * 3 + 1) (.int .i64 q.t)
  obtain ⟨o3, _⟩ := World.ownsRow.stored o2 (i * 3 + 2) (.slice q.A q.n q.c)
  rw [flat_set Qs q i hi] at o3
  have keep : ∀ p : Pk, p.ok B0 w → p.ok B0 (((w.setCell ⟨r, i * 3, none⟩ (.int .i64 q.f)).setCell ⟨r, i * 3 + 1, none⟩ (.int .i64 q.t)).setCell ⟨r, i * 3 + 2, none⟩ (.slice q.A q.n q.c)) := fun p hp =>
    ⟨((hp.1.setO (q := ⟨r, i * 3, none⟩) ht.1 ht.2 (by decide) _).setO (q := ⟨r, i * 3 + 1, none⟩) ht.1 (by rw [tyAt_set]; exact ht.2) (by decide) _).setO (q := ⟨r, i * 3 + 2, none⟩) ht.1 (by rw [tyAt_set, tyAt_set]; exact ht.2) (by decide) _, hp.2⟩
  refine ⟨by rw [List.length_set, hn]; exact o3, fun p hp => ?_⟩
  rcases List.mem_or_eq_of_mem_set hp with hp | rfl
  · exact keep _ (h.pk p hp)
  · exact keep _ hq

set_option maxRecDepth 100000 in
set_option maxHeartbeats 2000000 in
theorem ref_spoil (B0 : Nat) (M s c l : Int) (v : Value) (Qs : List Pk) (i a : Nat) (bt : UInt8) (q : Pk) (hq : Qs[i]? = some q) (hqn : 0 < q.n) (ha : a ≤ 9223372036854775807) (hlen : Qs.length ≤ 1000) (w : World) (hB : B0 ≤ w.heap.size) (hN : RefW B0 w v Qs) :
    Calls Try.prog 24 #[.agg #[.int .i64 M, v, .int .i64 s, .int .i64 c, .int .i64 l], .int .i64 i, .int .i64 a, .int .u8 (bt.toNat : Int)] w fun e w' => ∃ q' : Pk, q'.f = q.f ∧ q'.t = q.t ∧ q'.bs = q.bs.set (a % q.n) (q.bs.getD (a % q.n) 0 ^^^ bt) ∧ RetR B0 M s c l (Qs.set i q') w e w' := by
  obtain ⟨i0, hi, hz0, hz1, hz2⟩ := info_parts info_r
  obtain ⟨j0, hj, hy0, hy1, hy2⟩ := info_parts info_b
  have hi0 : i < Qs.length := (List.getElem?_eq_some_iff.1 hq).1
  obtain ⟨r, cap, rfl, hnc, hcm, hrl, hr, hty, _, key⟩ := own_row hN.own (by omega)
  have HN := Lib.hid hN
  have HQK : Hid (q.ok B0 w) := hN.pk q (List.mem_of_getElem? hq)
  have hkp : q.n ≤ 300 := HQK.out.2
  have k2 : w.cell? ⟨r, i * 3 + 2, none⟩ = some (.slice q.A q.n q.c) := key _ _ (flat_at Qs i q hq 2 (by omega))
  have HG := Lib.hid hq
  clear hN hq key hty
  unfold maxLen at hcm
  have g4 : (i : Int) < (Qs.length : Int) := by omega
  obtain ⟨J, hJ⟩ : ∃ J, J = a % q.n := ⟨_, rfl⟩
  have hJn : J < q.n := by rw [hJ]; exact Nat.mod_lt _ hqn
  obtain ⟨X, hX⟩ : ∃ X, X = q.bs.getD J 0 := ⟨_, rfl⟩
  have e1 : (a : Int) % (q.n : Int) = (J : Int) := by rw [hJ]; exact (Int.natCast_emod a q.n).symm
  have e2 : Int.tmod (a : Int) (q.n : Int) = (J : Int) := by rw [Int.tmod_eq_emod_of_nonneg (by omega)]; exact e1
  have E1 := Lib.hid e1
  have E2 := Lib.hid e2
  have HJ := Lib.hid hJ
  have HX := Lib.hid hX
  clear hJ hX e1 e2
  go_enter Try.func24, Try.ntmps24
  go_wp2_with (at_builtin; refine wpList_append_b _ (by rfl) (.tmp 11) (.tmp 17) 26 (by rfl) w.heap.size B0 5 j0 Try.underlying26 hj hy0 hy1 hy2 _ 0 [] (by rfl) ?_ q.A q.n q.c q.bs (by rfl) (HQK.out.1.below ?_) (by omega) ?_ ?_)
  · exact own_empty1 (heap3 w _ _ _).2.2 (by omega)
  · (repeat' (first | (with_reducible exact Below.refl _ _) | (with_reducible assumption) | (with_reducible refine Below.alloc ?_ ?_ _) | (with_reducible refine bel_drewN ?_ _) | (with_reducible refine Below.drew ?_) | (with_reducible refine Below.setCell ?_ ?_ _) | (with_reducible refine bel_call ‹_› ?_ ?_) | go_size))
  · go_size
  intro v' w2 hown hgr
  obtain ⟨p', c', rfl, hr2, hfz⟩ := RdB.of_own (B0 := B0) hown
  try simp only [Nat.zero_add, List.nil_append] at hr2
  obtain ⟨bb, off, rfl, hbl, _, hcell⟩ := hr2.addr hqn
  obtain ⟨hbig, hfz⟩ := hfz _ rfl
  try simp only at hbig hfz
  have hb2 : Below w.heap.size w w2 := Below.grown (by (repeat' (first | (with_reducible exact Below.refl _ _) | (with_reducible assumption) | (with_reducible refine Below.alloc ?_ ?_ _) | (with_reducible refine bel_drewN ?_ _) | (with_reducible refine Below.drew ?_) | (with_reducible refine Below.setCell ?_ ?_ _) | (with_reducible refine bel_call ‹_› ?_ ?_) | go_size))) hgr (by go_size) (fun k hk => by have hk := Option.some.inj (show some _ = some _ from hk); simp only at hk; omega)
  have b0 : w2.heap[w.heap.size]? = some (.cells #[.int .i64 M, .slice (some ⟨r, 0, none⟩) Qs.length cap, .int .i64 s, .int .i64 c, .int .i64 l] tRN (0, 0)) := (hgr.block w.heap.size (by go_size) (by intro e; have e := Option.some.inj (show some _ = some _ from e); simp only at e; omega)).trans (heap3 w _ _ _).1
  have b1 : w2.heap[w.heap.size + 1]? = some (.cells #[.int .i64 0, .slice none 0 0, .int .i64 0, .int .i64 0, .int .i64 0] tRN (0, 0)) := (hgr.block (w.heap.size + 1) (by go_size) (by intro e; have e := Option.some.inj (show some _ = some _ from e); simp only at e; omega)).trans (heap3 w _ _ _).2.1
  have hne0 : bb ≠ w.heap.size := by
    rintro rfl
    have h := (own_ty hown _ rfl).2
    rw [tyAt_cells b0] at h
    exact absurd h (by decide)
  have hne1 : bb ≠ w.heap.size + 1 := by
    rintro rfl
    have h := (own_ty hown _ rfl).2
    rw [tyAt_cells b1] at h
    exact absurd h (by decide)
  have hy : w2.cell? ⟨bb, off + J, none⟩ = some (.int .u8 (X.toNat : Int)) := by rw [hcell J hJn, ← HX.out]; rfl
  have HB2 := Lib.hid hb2
  have HX0 := Lib.hid b0
  have HX1 := Lib.hid b1
  have HR2 := Lib.hid hr2
  have hs2 := hb2.size
  have e1 := E1.out
  have e2 := E2.out
  have j1 : (0 : Int) ≤ (J : Int) := by omega
  have j2 : (J : Int) < (q.n : Int) := by omega
  have g5 : (0 : Int) < (q.n : Int) := by omega
  have g6 : ((q.n : Int) == 0) = false := by simp; omega
  have HBX : Hid (bits BinOp.xor IntKind.u8 (X.toNat : Int) (bt.toNat : Int) = ((X ^^^ bt).toNat : Int)) := by unfold Hid; rw [u8_xor_nat _ _ X.toNat_lt bt.toNat_lt, UInt8.toNat_xor]
  clear hown hgr hr2 hcell hb2 b0 b1 k2
  go_wp2_with fail
  go_region
  all_goals rw [HBX.out]
  have HB3 : Hid (Below w.heap.size w (w2.setCell ⟨bb, off + J, none⟩ (.int .u8 ((X ^^^ bt).toNat : Int))).drew) := (HB2.out.setCell (p := ⟨bb, off + J, none⟩) hbig _).drew
  have HR3 : Hid (RdB B0 (w2.setCell ⟨bb, off + J, none⟩ (.int .u8 ((X ^^^ bt).toNat : Int))).drew (some ⟨bb, off, none⟩) q.n c' (q.bs.set J (X ^^^ bt))) := HR2.out.put' J hJn (X ^^^ bt)
  have b0 : (w2.setCell ⟨bb, off + J, none⟩ (.int .u8 ((X ^^^ bt).toNat : Int))).drew.heap[w.heap.size]? = some (.cells #[.int .i64 M, .slice (some ⟨r, 0, none⟩) Qs.length cap, .int .i64 s, .int .i64 c, .int .i64 l] tRN (0, 0)) := (Below.heap_setCell w2 ⟨bb, off + J, none⟩ _ w.heap.size (by simp; omega)).trans HX0.out
  have b1 : (w2.setCell ⟨bb, off + J, none⟩ (.int .u8 ((X ^^^ bt).toNat : Int))).drew.heap[w.heap.size + 1]? = some (.cells #[.int .i64 0, .slice none 0 0, .int .i64 0, .int .i64 0, .int .i64 0] tRN (0, 0)) := (Below.heap_setCell w2 ⟨bb, off + J, none⟩ _ (w.heap.size + 1) (by simp; omega)).trans HX1.out
  generalize (w2.setCell ⟨bb, off + J, none⟩ (.int .u8 ((X ^^^ bt).toNat : Int))).drew = W3 at HB3 HR3 b0 b1 ⊢
  have HY0 := Lib.hid b0
  have HY1 := Lib.hid b1
  obtain ⟨x0, x1, x2, x3, x4, xf⟩ := cells5' b0
  have hl1 : w.heap.size + 1 < W3.heap.size := tyAt_lt (tyAt_cells b1)
  clear hy hfz b0 b1 x0 x2 x3 x4 xf
  go_wp2_with (at_builtin; refine wpList_append_r (by rfl) (.tmp 34) (.tmp 36) 42 (by rfl) W3.heap.size tRP i0 _ Try.underlying42 hi hz0 hz1 hz2 rfl _ 0 [] (by rfl) ?_ (some ⟨r, 0, none⟩) Qs.length cap (Qs.flatMap Pk.cells) (by rfl) ((HN.out.src.below HB3.out).below ?_) (by omega) ?_ ?_)
  · exact own_empty (heap_alloc_new W3 _) (Nat.le_refl _)
  · (repeat' (first | (with_reducible exact Below.refl _ _) | (with_reducible assumption) | (with_reducible refine Below.alloc ?_ ?_ _) | (with_reducible refine bel_drewN ?_ _) | (with_reducible refine Below.drew ?_) | (with_reducible refine Below.setCell ?_ ?_ _) | (with_reducible refine bel_call ‹_› ?_ ?_) | go_size))
  · go_size
  intro A4 c4 w4 hown4 hgr4
  try simp only [Nat.zero_add, List.nil_append] at hown4
  obtain ⟨r4, cap4, hv4, _, hcm4, hrl4, hr4, ht4, hf4, key4⟩ := own_row hown4 (by omega)
  cases hv4
  have hb4 : Below W3.heap.size W3 w4 := Below.grown (by (repeat' (first | (with_reducible exact Below.refl _ _) | (with_reducible assumption) | (with_reducible refine Below.alloc ?_ ?_ _) | (with_reducible refine bel_drewN ?_ _) | (with_reducible refine Below.drew ?_) | (with_reducible refine Below.setCell ?_ ?_ _) | (with_reducible refine bel_call ‹_› ?_ ?_) | go_size))) hgr4 (by go_size) (fun k hk => by have hk := Option.some.inj (show some _ = some _ from hk); simp only at hk; omega)
  have b0 := (hb4.block w.heap.size (by omega)).trans HY0.out
  have b1 := (hb4.block (w.heap.size + 1) (by omega)).trans HY1.out
  have y0 : w4.cell? ⟨r4, i * 3, none⟩ = some (.int .i64 q.f) := key4 _ _ (flat_at Qs i q HG.out 0 (by omega))
  have y1 : w4.cell? ⟨r4, i * 3 + 1, none⟩ = some (.int .i64 q.t) := key4 _ _ (flat_at Qs i q HG.out 1 (by omega))
  have y2 : w4.cell? ⟨r4, i * 3 + 2, none⟩ = some (.slice q.A q.n q.c) := key4 _ _ (flat_at Qs i q HG.out 2 (by omega))
  have HB4 : Hid (Below w.heap.size w w4) := HB3.out.trans (hb4.mono (by omega))
  have HW4 : Hid (RefW B0 w4 (.slice (some ⟨r4, 0, none⟩) Qs.length c4) Qs) := ⟨own_mono hown4 (by omega), fun p hp => (HN.out.pk p hp).fr (.of_below HB4.out)⟩
  have HR4 := Lib.hid (HR3.out.below hb4)
  have HZ0 := Lib.hid b0
  have HZ1 := Lib.hid b1
  have hr4w : w.heap.size + 1 < r4 := by omega
  clear hown4 hgr4 key4 hb4 b0 b1 ht4 x1
  unfold maxLen at hcm4
  try simp only [Nat.zero_add]
  go_wp2_with fail
  go_region
  have put := (HW4.out.putPk (q := ⟨q.f, q.t, some ⟨bb, off, none⟩, q.n, c', q.bs.set J (X ^^^ bt)⟩) ⟨HR4.out, hkp⟩ hi0)
  have W5P : Hid (RefW B0 (((w4.setCell ⟨r4, i * 3, none⟩ (.int .i64 q.f)).setCell ⟨r4, i * 3 + 1, none⟩ (.int .i64 q.t)).setCell ⟨r4, i * 3 + 2, none⟩ (.slice (some ⟨bb, off, none⟩) q.n c')).drew (.slice (some ⟨r4, 0, none⟩) Qs.length c4) (Qs.set i ⟨q.f, q.t, some ⟨bb, off, none⟩, q.n, c', q.bs.set J (X ^^^ bt)⟩)) := put.below (Below.refl _ _).drew
  have HB5 : Hid (Below w.heap.size w (((w4.setCell ⟨r4, i * 3, none⟩ (.int .i64 q.f)).setCell ⟨r4, i * 3 + 1, none⟩ (.int .i64 q.t)).setCell ⟨r4, i * 3 + 2, none⟩ (.slice (some ⟨bb, off, none⟩) q.n c')).drew) :=
    (((HB4.out.setCell (p := ⟨r4, i * 3, none⟩) (by simp; omega) _).setCell (p := ⟨r4, i * 3 + 1, none⟩) (by simp; omega) _).setCell (p := ⟨r4, i * 3 + 2, none⟩) (by simp; omega) _).drew
  have same5 : ∀ k, k ≠ r4 → (((w4.setCell ⟨r4, i * 3, none⟩ (.int .i64 q.f)).setCell ⟨r4, i * 3 + 1, none⟩ (.int .i64 q.t)).setCell ⟨r4, i * 3 + 2, none⟩ (.slice (some ⟨bb, off, none⟩) q.n c')).drew.heap[k]? = w4.heap[k]? := fun k hk =>
    ((Below.heap_setCell _ ⟨r4, i * 3 + 2, none⟩ _ k hk).trans (Below.heap_setCell _ ⟨r4, i * 3 + 1, none⟩ _ k hk)).trans (Below.heap_setCell _ ⟨r4, i * 3, none⟩ _ k hk)
  have b0 := (same5 w.heap.size (by omega)).trans HZ0.out
  have b1 := (same5 (w.heap.size + 1) (by omega)).trans HZ1.out
  generalize (((w4.setCell ⟨r4, i * 3, none⟩ (.int .i64 q.f)).setCell ⟨r4, i * 3 + 1, none⟩ (.int .i64 q.t)).setCell ⟨r4, i * 3 + 2, none⟩ (.slice (some ⟨bb, off, none⟩) q.n c')).drew = W5 at W5P HB5 b0 b1 ⊢
  have HV0 := Lib.hid b0
  have HV1 := Lib.hid b1
  obtain ⟨x0, x1, x2, x3, x4, xf⟩ := cells5' b0
  obtain ⟨z0, z1, z2, z3, z4, zf⟩ := cells5' b1
  clear put same5 b0 b1 y0 y1 y2
  go_wp2_with fail
  refine bodyPost_ret (v := .agg #[.int .i64 M, .slice (some ⟨r4, 0, none⟩) Qs.length c4, .int .i64 s, .int .i64 c, .int .i64 l]) (by simp [results, Try.results24, go_sem, x0, x1, x2, x3, x4, z0, z1, z2, z3, z4]) rfl ?_
  refine ⟨⟨q.f, q.t, some ⟨bb, off, none⟩, q.n, c', q.bs.set J (X ^^^ bt)⟩, rfl, rfl, by rw [← HJ.out, ← HX.out], some ⟨r4, 0, none⟩, _, c4, rfl, RefW.box W5P.out hB (by omega) (tyAt_cells HV0.out) (tyAt_cells HV1.out) _ _ _ _ _ _, ?_⟩
  have hb5 := HB5.out
  (repeat' (first | (with_reducible exact Below.refl _ _) | (with_reducible assumption) | (with_reducible refine Below.alloc ?_ ?_ _) | (with_reducible refine bel_drewN ?_ _) | (with_reducible refine Below.drew ?_) | (with_reducible refine Below.setCell ?_ ?_ _) | (with_reducible refine bel_call ‹_› ?_ ?_) | go_size))
end Go.Proofs.Ytoeenaionamhiaa
