/- Bind: the document's bytes of two stamps, as a row of the call's own. A region that draws its order, walked in one order of the prover's choice, with lengths among the reads (see Sched). No function of the program. Bind: the document's bytes of a tree over stamps: the walk. Printed by gen_bkh.py. A region that draws its order, walked in one order of the prover's choice, with lengths and values made into interfaces among the reads (see Sched); what is kept may grow behind each operation that is alone. No function of the program. A region that draws its order, walked in one order of the prover's choice, with values made into interfaces among the reads (see Sched). No function of the program. -/
import Derived.Test.YtjklbbmgjjdalaaGreatDoorBbAm
import Derived.Test.YtjklbbmgjjdalaaGreatDoorBbA
import Derived.Test.YtjklbbmgjjdalaaGreatDoorBbD
import Derived.Test.YtjklbbmgjjdalaaGreatDoorBbAk
set_option linter.unusedSimpArgs false
set_option linter.unusedVariables false
namespace Go.Proofs.YtjklbbmgjjdalaaGreatDoor.Bd
open Go.RowKit Go.Joins
def StO (N : Nat) (w1 : World) (v : Value) (L : List UInt8) (wr : World) : Prop := N ≤ w1.heap.size ∧ wr.ownsRow N 5 1 v L.length (L.map u8V) ∧ Below N w1 wr
theorem StO.nil {N : Nat} {w1 : World} (h : N ≤ w1.heap.size) : StO N w1 (.slice none 0 0) [] w1 := ⟨h, World.ownsRow_nil _ _ _ _, Below.refl _ _⟩
theorem StO.size {N : Nat} {w1 w : World} {v : Value} {L : List UInt8} (h : StO N w1 v L w) : N ≤ w.heap.size := Nat.le_trans h.1 h.2.2.size
theorem StO.call {N : Nat} {w1 w w' : World} {v : Value} {L : List UInt8} (h : StO N w1 v L w) (hb : Below w.heap.size w w') : StO N w1 v L w' :=
  ⟨h.1, row_carry h.2.1 (fun k hk => hb.block k (h.2.1.lt k hk).2), h.2.2.trans (hb.mono h.size)⟩
theorem StO.drew {N : Nat} {w1 w : World} {v : Value} {L : List UInt8} (h : StO N w1 v L w) : StO N w1 v L w.drew := h.call (Below.drew (Below.refl _ _))
theorem StO.cell {N : Nat} {w1 w : World} {v : Value} {L : List UInt8} (h : StO N w1 v L w) {b o : Nat} {u : Value} (hc : w1.cell? ⟨b, o, none⟩ = some u) (hb : b < N) : w.cell? ⟨b, o, none⟩ = some u := (h.2.2.cell (p := ⟨b, o, none⟩) hb).trans hc
theorem own_mono {w : World} {base base' : Nat} {e : TypeId} {size : Nat} {v : Value} {n : Nat} {xs : List Value} (h : w.ownsRow base e size v n xs) (hb : base' ≤ base) : w.ownsRow base' e size v n xs := by
  obtain ⟨h1, h2⟩ := h
  refine ⟨h1, ?_⟩
  rcases h2 with h2 | ⟨g, cap, cur, k1, k2, k3⟩
  · exact .inl h2
  · exact .inr ⟨g, cap, cur, k1, Nat.le_trans hb k2, k3⟩
theorem StO.ret {N : Nat} {w w1 wr : World} {v : Value} {L : List UInt8} (h : StO N w1 v L wr) (hb : Below w.heap.size w w1) (hN : w.heap.size ≤ N) : RetO L w (.returned v) wr :=
  ⟨v, rfl, own_mono h.2.1 hN, hb.trans (h.2.2.mono hN)⟩
theorem StO.of {w wr : World} {N : Nat} {w1 : World} {v : Value} {L : List UInt8} (hN : N ≤ w1.heap.size) (h1 : Below N w1 w) (ho : wr.ownsRow w.heap.size 5 1 v L.length (L.map u8V)) (hb : Below w.heap.size w wr) : StO N w1 v L wr :=
  ⟨hN, own_mono ho (Nat.le_trans hN h1.size), h1.trans (hb.mono (Nat.le_trans hN h1.size))⟩
theorem wpList_append_oo {N : Nat} {w1 w : World} {ops : Array Oper} {rest : List Oper} {o : Oper} {a : Act} {Q : Exit → Act → World → Prop} (s x : Operand) {v : Value} {L : List UInt8} (h : StO N w1 v L w) {N2 : Nat} {u : Value} {T : List UInt8} (hT : w.ownsRow N2 5 1 u T.length (T.map u8V)) (hl : L.length + T.length ≤ 100000)
    (hgd : o.guard = none) (ho : o.op = .call { callee := .builtin .append, args := #[s, x], argTypes := #[65, 65] }) (hs : a.eval s = v) (hx : a.eval x = u)
    (hK : ∀ v' w', StO N w1 v' (L ++ T) w' → wpList Tryz.prog ops Q rest (a.put o.dst v') w') : wpList Tryz.prog ops Q (o :: rest) a w := by
  obtain ⟨i0, hi, hz0, hz1, hz2⟩ := info_parts infou8
  obtain ⟨q, cap, rfl, hr, _⟩ := RdU.of_own rfl hT
  refine wpList_append_u_at w hgd s x 65 ho N w.heap.size 5 i0 Tryz.underlying65 hi hz0 hz1 hz2 v L.length L hs h.2.1 q T.length cap T hx hr (by omega) h.size (fun v' w' r1 r2 r3 => hK v' w' ⟨h.1, ?_, ?_⟩)
  · rw [List.length_append]; exact r1
  · exact h.2.2.grown r2 h.size (fun k hk => (h.2.1.lt k hk).1)
set_option maxRecDepth 100000 in
set_option maxHeartbeats 4000000 in
theorem stamps_s (a b c d : Nat) (ha : a < 18446744073709551616) (hb : b < 1000) (hc : c < 18446744073709551616) (hd : d < 1000) (w : World) : Calls Tryz.prog 47 #[.agg #[.int .u64 a, .int .i64 b, .int .u64 c, .int .i64 d]] w (RetO ((numE a ++ numE b) ++ (numE c ++ numE d)) w) := by
  go_enter Tryz.func47, Tryz.ntmps47
  go_wp2_with fail
  obtain ⟨w1, hw1⟩ : ∃ w1, Hid (w.alloc (.cells #[.int .u64 a, .int .i64 b, .int .u64 c, .int .i64 d] tPr) = w1) := ⟨_, rfl⟩
  have hB : Hid (Below w.heap.size w w1) := by unfold Hid; rw [← hw1.out]; (repeat' (first | (with_reducible exact Below.refl _ _) | (with_reducible assumption) | (with_reducible refine Below.alloc ?_ ?_ _) | (with_reducible refine bel_drewN ?_ _) | (with_reducible refine Below.drew ?_) | (with_reducible refine Below.setCell ?_ ?_ _) | (with_reducible refine bel_call ‹_› ?_ ?_) | go_size))
  have hBk : BlkC w1 w.heap.size #[.int .u64 a, .int .i64 b, .int .u64 c, .int .i64 d] tPr := by rw [← hw1.out]; exact heap_alloc_new w _
  have hN : Hid (w.heap.size + 1 ≤ w1.heap.size) := by unfold Hid; rw [← hw1.out, World.size_alloc]; omega
  have a0 : w1.cell? ⟨w.heap.size, 0, none⟩ = some (.int .u64 a) := hBk.cell 0 _ rfl
  have a1 : w1.cell? ⟨w.heap.size, 1, none⟩ = some (.int .i64 b) := hBk.cell 1 _ rfl
  have a2 : w1.cell? ⟨w.heap.size, 2, none⟩ = some (.int .u64 c) := hBk.cell 2 _ rfl
  have a3 : w1.cell? ⟨w.heap.size, 3, none⟩ = some (.int .i64 d) := hBk.cell 3 _ rfl
  rw [hw1.out]
  clear hw1 hBk
  go_loopg [3, 4] 2 (fun gm v3 v4 wr => (v4 = .int .i64 0 ∧ gm = 2 ∧ StO (w.heap.size + 1) w1 v3 [] wr) ∨ (v4 = .int .i64 1 ∧ gm = 1 ∧ StO (w.heap.size + 1) w1 v3 (numE a ++ numE b) wr) ∨ (v4 = .int .i64 2 ∧ gm = 0 ∧ StO (w.heap.size + 1) w1 v3 ((numE a ++ numE b) ++ (numE c ++ numE d)) wr))
  case atStart => exact .inl ⟨rfl, rfl, StO.nil hN.out⟩
  case round =>
    rcases hrel with ⟨rfl, hg, hst⟩ | ⟨rfl, hg, hst⟩ | ⟨rfl, hg, hst⟩
    · have hlt : (0 : Int) < 2 := by decide
      have P0 := Kept.cell (N := w.heap.size + 1) (w := w1) (b := w.heap.size) (o := 0) a0 (by omega)
      have P1 := Kept.cell (N := w.heap.size + 1) (w := w1) (b := w.heap.size) (o := 1) a1 (by omega)
      have hq : IntKind.u64.wrap (b : Int) = (b : Int) := IntWalk.u64_in _ (by omega)
      have HST := Lib.hid hst
      have HC1 := Lib.hid (rnum_own a (by omega) wr.drew)
      go_upto_region 5 with fail
      refine wp_region_sched (fun wx => ∃ x : Kept (w.heap.size + 1) w1, wx = x.v) [([0, 1, 2, 3, 4, 7, 8, 9, 10, 11], 5), ([], 6), ([], 12), ([], 13)] [14] (by kernel_rfl) (by kernel_rfl) (by kernel_rfl) rfl ⟨⟨wr.drew, HST.out.drew.2.2⟩, rfl⟩ ?_
      (unfold wpSeg; simp only [pick_nil, pick_cons, nthO_zero, nthO_succ, List.append])
      repeat (go_big_quiet_step (fail))
      refine wpQuiet_nil ?_
      go_wp2_with fail
      refine HC1.out.mono ?_
      rintro e w2 ⟨u, rfl, hown, hb⟩
      have HS2 := Lib.hid (HST.out.drew.call hb)
      have HO2 := Lib.hid hown
      clear hown hb HC1 HST hst
      go_wp2_with fail
      refine ⟨rfl, ⟨⟨w2, HS2.out.2.2⟩, rfl⟩, ?_⟩
      (unfold wpSeg; simp only [pick_nil, pick_cons, nthO_zero, nthO_succ, List.append])
      refine wpQuiet_nil ?_
      refine wpList_append_oo _ _ HS2.out HO2.out (by have := numEF_len 10 a; have := numEF_len 10 b; have := numEF_len 10 c; unfold numE; simp only [List.length_append, List.length_nil]; omega) rfl rfl rfl rfl (fun v' w3 hs3 => ?_)
      have HS3 := Lib.hid hs3
      have HC2 := Lib.hid (rnum_own b (by omega) w3)
      clear hs3 HS2 HO2
      go_wp2_with fail
      refine ⟨rfl, ⟨⟨w3, HS3.out.2.2⟩, rfl⟩, ?_⟩
      (unfold wpSeg; simp only [pick_nil, pick_cons, nthO_zero, nthO_succ, List.append])
      refine wpQuiet_nil ?_
      go_wp2_with fail
      refine HC2.out.mono ?_
      rintro e w4 ⟨u2, rfl, hown, hb⟩
      have HS4 := Lib.hid (HS3.out.call hb)
      have HO4 := Lib.hid hown
      clear hown hb HC2 HS3
      go_wp2_with fail
      refine ⟨rfl, ⟨⟨w4, HS4.out.2.2⟩, rfl⟩, ?_⟩
      (unfold wpSeg; simp only [pick_nil, pick_cons, nthO_zero, nthO_succ, List.append])
      refine wpQuiet_nil ?_
      refine wpList_append_oo _ _ HS4.out HO4.out (by have := numEF_len 10 a; have := numEF_len 10 b; have := numEF_len 10 c; have := numEF_len 10 d; unfold numE; simp only [List.length_append, List.length_nil]; omega) rfl rfl rfl rfl (fun v5 w5 hs5 => ?_)
      have HS5 := Lib.hid hs5
      clear hs5 HS4 HO4
      go_wp2_with fail
      refine ⟨rfl, ⟨⟨w5, HS5.out.2.2⟩, rfl⟩, ?_⟩
      (unfold wpSeg; simp only [pick_nil, pick_cons, nthO_zero, nthO_succ, List.append])
      repeat (go_big_quiet_step (fail))
      refine wpQuiet_nil ?_
      go_wp2_with fail
      go_roundg 1
      case measure => omega
      case rel => exact .inr (.inl ⟨rfl, rfl, HS5.out⟩)
    · have hlt : (1 : Int) < 2 := by decide
      have P0 := Kept.cell (N := w.heap.size + 1) (w := w1) (b := w.heap.size) (o := 2) a2 (by omega)
      have P1 := Kept.cell (N := w.heap.size + 1) (w := w1) (b := w.heap.size) (o := 3) a3 (by omega)
      have hq : IntKind.u64.wrap (d : Int) = (d : Int) := IntWalk.u64_in _ (by omega)
      have HST := Lib.hid hst
      have HC1 := Lib.hid (rnum_own c (by omega) wr.drew)
      go_upto_region 5 with fail
      refine wp_region_sched (fun wx => ∃ x : Kept (w.heap.size + 1) w1, wx = x.v) [([0, 1, 2, 3, 4, 7, 8, 9, 10, 11], 5), ([], 6), ([], 12), ([], 13)] [14] (by kernel_rfl) (by kernel_rfl) (by kernel_rfl) rfl ⟨⟨wr.drew, HST.out.drew.2.2⟩, rfl⟩ ?_
      (unfold wpSeg; simp only [pick_nil, pick_cons, nthO_zero, nthO_succ, List.append])
      repeat (go_big_quiet_step (fail))
      refine wpQuiet_nil ?_
      go_wp2_with fail
      refine HC1.out.mono ?_
      rintro e w2 ⟨u, rfl, hown, hb⟩
      have HS2 := Lib.hid (HST.out.drew.call hb)
      have HO2 := Lib.hid hown
      clear hown hb HC1 HST hst
      go_wp2_with fail
      refine ⟨rfl, ⟨⟨w2, HS2.out.2.2⟩, rfl⟩, ?_⟩
      (unfold wpSeg; simp only [pick_nil, pick_cons, nthO_zero, nthO_succ, List.append])
      refine wpQuiet_nil ?_
      refine wpList_append_oo _ _ HS2.out HO2.out (by have := numEF_len 10 a; have := numEF_len 10 b; have := numEF_len 10 c; unfold numE; simp only [List.length_append, List.length_nil]; omega) rfl rfl rfl rfl (fun v' w3 hs3 => ?_)
      have HS3 := Lib.hid hs3
      have HC2 := Lib.hid (rnum_own d (by omega) w3)
      clear hs3 HS2 HO2
      go_wp2_with fail
      refine ⟨rfl, ⟨⟨w3, HS3.out.2.2⟩, rfl⟩, ?_⟩
      (unfold wpSeg; simp only [pick_nil, pick_cons, nthO_zero, nthO_succ, List.append])
      refine wpQuiet_nil ?_
      go_wp2_with fail
      refine HC2.out.mono ?_
      rintro e w4 ⟨u2, rfl, hown, hb⟩
      have HS4 := Lib.hid (HS3.out.call hb)
      have HO4 := Lib.hid hown
      clear hown hb HC2 HS3
      go_wp2_with fail
      refine ⟨rfl, ⟨⟨w4, HS4.out.2.2⟩, rfl⟩, ?_⟩
      (unfold wpSeg; simp only [pick_nil, pick_cons, nthO_zero, nthO_succ, List.append])
      refine wpQuiet_nil ?_
      refine wpList_append_oo _ _ HS4.out HO4.out (by have := numEF_len 10 a; have := numEF_len 10 b; have := numEF_len 10 c; have := numEF_len 10 d; unfold numE; simp only [List.length_append, List.length_nil]; omega) rfl rfl rfl rfl (fun v5 w5 hs5 => ?_)
      have HS5 := Lib.hid hs5
      clear hs5 HS4 HO4
      go_wp2_with fail
      refine ⟨rfl, ⟨⟨w5, HS5.out.2.2⟩, rfl⟩, ?_⟩
      (unfold wpSeg; simp only [pick_nil, pick_cons, nthO_zero, nthO_succ, List.append])
      repeat (go_big_quiet_step (fail))
      refine wpQuiet_nil ?_
      go_wp2_with fail
      go_roundg 0
      case measure => omega
      case rel => exact .inr (.inr ⟨rfl, rfl, by have h := HS5.out; rwa [List.append_assoc (numE a ++ numE b)] at h⟩)
    · have hlt : ¬ (2 : Int) < 2 := by decide
      have HST := Lib.hid hst
      clear hst
      go_wp2_with fail
      go_ret
      have h := HST.out.ret hB.out (by omega)
      rw [List.append_assoc (numE a)] at h
      exact h
theorem stamps_own (f : Rfp) (h1 : okI f.1) (h2 : okI f.2) (w : World) : Calls Tryz.prog 47 #[.agg #[.int .u64 f.1.1, .int .i64 f.1.2, .int .u64 f.2.1, .int .i64 f.2.2]] w (RetO (prE f) w) := by
  obtain ⟨⟨a, b⟩, ⟨c, d⟩⟩ := f
  obtain ⟨p1, p2, p3⟩ := rtI_of h1.2
  obtain ⟨q1, q2, q3⟩ := rtI_of h2.2
  have p0 := h1.1
  have q0 := h2.1
  simp only at p0 p1 p2 p3 q0 q1 q2 q3
  obtain ⟨a, rfl⟩ := Int.eq_ofNat_of_zero_le p0
  obtain ⟨b, rfl⟩ := Int.eq_ofNat_of_zero_le p2
  obtain ⟨c, rfl⟩ := Int.eq_ofNat_of_zero_le q0
  obtain ⟨d, rfl⟩ := Int.eq_ofNat_of_zero_le q2
  have h := stamps_s a b c d (by omega) (by omega) (by omega) (by omega) w
  exact h
end Go.Proofs.YtjklbbmgjjdalaaGreatDoor.Bd
namespace Go.Proofs.YtjklbbmgjjdalaaGreatDoor.Sl
open Go.RowKit
def readB (o : Oper) : Bool := match o.op with
  | .move _ | .assign _ | .pick _ _ _ | .load _ _ | .binOp _ _ _ _ _ | .unOp _ _ _ | .convert _ _ _ | .fieldAddr _ _ _ | .field _ _ _ | .indexAddr _ _ _ | .index _ _ _ | .extract _ _ | .build _ _  => true
  | .call c => match c.callee with
    | .builtin .len => true
    | _ => false
  | _ => false
theorem read_value {P : Program} {o : Oper} {e : Operand → Value} {w w' : World} {n : Next} (h : readB o = true) (hr : (execOp e o).run P w = .ok n w') : ∃ v, n = .value v := by
  by_cases hc : ∃ c, o.op = .call c
  · obtain ⟨c, hc⟩ := hc
    unfold readB at h
    rw [hc] at h
    unfold execOp at hr
    rw [hc] at hr
    obtain ⟨cal, ars, ts⟩ := c
    simp only at h
    split at h
    · rename_i hcal
      simp only [resolve, pure_bind, invoke, builtin] at hr
      exact val_bind (f := id) hr
    · cases h
  · unfold readB at h
    unfold execOp at hr
    cases hop : o.op <;> rw [hop] at h hr <;> simp only [Bool.false_eq_true] at h
    all_goals first
      | exact val_bind (f := id) hr
      | exact val_bind (f := fun b => if b = true then _ else _) hr
      | (simp at hr; exact ⟨_, hr.1.symm⟩)
      | (simp only [Sem.run_pure] at hr; injection hr with h1 h2; exact ⟨_, h1.symm⟩)
      | exact absurd ⟨_, hop⟩ hc
      | exact absurd ⟨_, rfl⟩ hc
section
variable {P : Program} {ops : Array Oper} {md : Region.Mode} {S : World → Prop} {QQ : Act → World → Prop}
theorem read_yields {o : Oper} {a : Act} {K : Act → Prop} (hrd : readB o = true) (hw : Region.wanted o (yielded ops a.tmps) = true) (hS : ∃ w, S w) (h : o.quiet P a S K) : ∃ v, YieldsIf P ops S o v a ∧ K (a.put o.dst v) := by
  obtain ⟨v, h1, h2⟩ := h
  refine ⟨v, .inl ⟨hw, fun w hw' => ?_⟩, h2⟩
  have h3 := h1 w hw'
  unfold Oper.quietAt at h3
  cases hr : (execOp a.eval o).run P w with
  | ok n w1 =>
    rw [hr] at h3
    obtain ⟨u, rfl⟩ := read_value hrd hr
    obtain ⟨rfl, rfl⟩ := h3
    rfl
  | _ => rw [hr] at h3; exact h3.elim
theorem take_read {i : Nat} {o : Oper} {fuel : Nat} {listed : Array Bool} {a : Act} {w : World} {rest : List Oper} {K : Act → Prop} (hi : ops[i]? = some o) (hns : Region.noSelect ops = true) (hrd : readB o = true)
    (hf : Region.free md ops listed i = true) (hr : (Region.ready md ops listed).contains i = true) (hS : S w) (h : wpQuiet P ops S K (o :: rest) a)
    (hK : ∀ a', wpQuiet P ops S K rest a' → wpAnyH P md ops (OnlyOn QQ) S fuel (listed.setIfInBounds i true) a' w) : wpAnyH P md ops (OnlyOn QQ) S (fuel + 1) listed a w := by
  have key : ∃ v, YieldsIf P ops S o v a ∧ wpQuiet P ops S K rest (a.put o.dst v) := by
    unfold wpQuiet at h
    by_cases hw : Region.wanted o (yielded ops a.tmps) = true
    · rw [if_pos hw] at h
      exact read_yields hrd hw ⟨w, hS⟩ h
    · rw [if_neg hw] at h
      exact ⟨undef, .inr ⟨by simpa using hw, rfl⟩, h⟩
  obtain ⟨v, hy, hk⟩ := key
  exact wpAnyH_first hi (Region.noSelect_spec hns) (fun c a w h => by cases h.1) fuel listed a w (Region.free_spec hi hf) (by simpa using hr) hy hS (hK _ hk)
end
def readsOK (md : Region.Mode) (ops : Array Oper) : List Nat → Array Bool → Bool
  | [], _ => true
  | i :: r, listed => (match ops[i]? with | some o => readB o | none => false) && (Region.free md ops listed i && ((Region.ready md ops listed).contains i && readsOK md ops r (listed.setIfInBounds i true)))
def segsOK (md : Region.Mode) (ops : Array Oper) : List (List Nat × Nat) → List Nat → Array Bool → Bool
  | [], last, listed => readsOK md ops last listed && (Region.ready md ops (marked listed last)).isEmpty
  | (rs, k) :: more, last, listed => readsOK md ops rs listed && ((ops[k]?).isSome && (Region.ready md ops (marked listed rs) == [k] && segsOK md ops more last ((marked listed rs).setIfInBounds k true)))
section
variable {P : Program} {l : List Oper} {md : Region.Mode} {S : World → Prop} {QQ : Act → World → Prop}
theorem reads_go {K : Act → Prop} {fuel : Nat} {w : World} (hns : Region.noSelect l.toArray = true) (hS : S w) : ∀ (rs : List Nat) (listed : Array Bool) (a : Act), readsOK md l.toArray rs listed = true →
    wpQuiet P l.toArray S K (pick l rs) a → (∀ a', K a' → wpAnyH P md l.toArray (OnlyOn QQ) S fuel (marked listed rs) a' w) → wpAnyH P md l.toArray (OnlyOn QQ) S (rs.length + fuel) listed a w
  | [], listed, a, _, h, hK => by
    rw [List.length_nil, Nat.zero_add]
    exact hK a h
  | i :: r, listed, a, hB, h, hK => by
    unfold readsOK at hB
    simp only [Bool.and_eq_true] at hB
    obtain ⟨h1, h2, h3, h4⟩ := hB
    cases ho : l.toArray[i]? with
    | none => rw [ho] at h1; cases h1
    | some o =>
      rw [ho] at h1
      have hl : l[i]? = some o := by simpa using ho
      have hp : pick l (i :: r) = o :: pick l r := by unfold pick; rw [List.filterMap_cons, hl]
      rw [hp] at h
      rw [List.length_cons, Nat.add_right_comm]
      exact take_read ho hns h1 h2 h3 hS h (fun a' h' => reads_go hns hS r _ a' h4 h' hK)
theorem segs_go (hns : Region.noSelect l.toArray = true) : ∀ (sch : List (List Nat × Nat)) (last : List Nat) (listed : Array Bool) (a : Act) (w : World), S w → segsOK md l.toArray sch last listed = true →
    wpSeg P l S QQ sch last a w → wpAnyH P md l.toArray (OnlyOn QQ) S (segCount sch last) listed a w
  | [], last, listed, a, w, hS, hB, h => by
    unfold segsOK at hB
    simp only [Bool.and_eq_true] at hB
    obtain ⟨h1, h2⟩ := hB
    unfold wpSeg at h
    unfold segCount
    rw [← Nat.add_zero last.length]
    exact reads_go (fuel := 0) hns hS last listed a h1 h (fun a' h' => ⟨by simpa using h2, rfl, h'⟩)
  | (rs, k) :: more, last, listed, a, w, hS, hB, h => by
    unfold segsOK at hB
    simp only [Bool.and_eq_true] at hB
    obtain ⟨h1, h2, h3, h4⟩ := hB
    obtain ⟨o, ho⟩ := Option.isSome_iff_exists.1 h2
    have hl : l[k]? = some o := by simpa using ho
    have hp : pick l [k] = [o] := by unfold pick; rw [List.filterMap_cons, hl]; rfl
    unfold wpSeg at h
    unfold segCount
    refine reads_go hns hS rs listed a h1 h (fun a' h' => ?_)
    rw [hp] at h'
    exact take_loud ho (by simpa using h3) h' (fun a'' w'' hS' hk => segs_go hns more last _ a'' w'' hS' h4 hk)
theorem wp_region_sched {id : Nat} {Q : Exit → Act → World → Prop} {a : Act} {w : World} (S : World → Prop) (sch : List (List Nat × Nat)) (last : List Nat) (hm : P.follows .mixedOrders = true) (hns : Region.noSelect l.toArray = true)
    (hB : segsOK .any l.toArray sch last (Array.replicate l.toArray.size false) = true) (hc : segCount sch last = l.toArray.size) (hS : S w.drew)
    (h : wpSeg P l S (Q .normal) sch last a w.drew) : (Code.region id l.toArray true).wp P Q a w := by
  have h1 := segs_go (md := .any) hns sch last _ a w.drew hS hB h
  rw [hc] at h1
  have h2 := wpAny_of_held _ _ _ _ h1
  refine Code.wp_mono (fun e a' w' h' => ?_) (wp_region_any hm h2)
  obtain ⟨rfl, h'⟩ := h'
  exact h'
end
end Go.Proofs.YtjklbbmgjjdalaaGreatDoor.Sl
namespace Go.Proofs.YtjklbbmgjjdalaaGreatDoor.Bd
open Go.RowKit Go.Joins
theorem rnum_int (z : Int) (h0 : 0 ≤ z) (h1 : z < 18446744073709551616) (w : World) : Calls Tryz.prog 45 #[.int .u64 z] w (RetO (numE z.toNat) w) := by
  obtain ⟨m, rfl⟩ : ∃ m : Nat, z = m := ⟨z.toNat, by omega⟩
  exact rnum_own m (by omega) w
def RPutC (d : Nat) : Prop := ∀ (n : Bn) (p : Option Addr) (len cap : Nat) (w : World), RdQ rfE 12 w okA d n p len → Cn n → (putN n).length ≤ 100000 → Calls Tryz.prog 23 #[.agg (bnA n p len cap)] w (RetO (putN n) w)
theorem conv_text (T : List UInt8) (hn : T.length ≤ 100000) (w : World) : ∃ (w' : World) (cp : Nat), (convert 9 65 (.string ⟨T.toArray⟩)).run Tryz.prog w = .ok (.slice (some ⟨w.heap.size, 0, none⟩) T.length cp) w' ∧ Below w.heap.size w w' ∧ RdU w' (w.heap.size + 1) (some ⟨w.heap.size, 0, none⟩) T.length cp T := by
  have hconv := Lib.run_convert_string_bytes (P := Tryz.prog) w 9 65 5 ⟨T.toArray⟩ Tryz.underlying9 Tryz.underlying65 Tryz.underlying5
  have hsz : (⟨T.toArray⟩ : ByteArray).size = T.length := by simp [ByteArray.size]
  rw [hsz] at hconv
  exact ⟨_, _, hconv, bytesW_below w ⟨T.toArray⟩, bytesW_rd w T hn⟩
def hdM (n : Bn) : List UInt8 := hdN n ++ (if n.kind = 7 then numE n.args.length else [])
set_option maxRecDepth 100000 in
set_option maxHeartbeats 16000000 in
theorem rput2_s (d : Nat) (IH : ∀ d', d = d' + 1 → RPutC d') : RPutC d := by
  intro n p len cap w hR hC hL
  have HIH := Lib.hid IH
  have HPN : Hid (putN n = (numE n.kind.toNat ++ hdM n) ++ putNL n.args) := by unfold Hid hdM; rw [putN_is hC]; simp only [List.append_assoc]
  obtain ⟨⟨hk1, hk8⟩, hf⟩ := hC.facts
  have HF : Hid ((n.kind = 1 → 0 ≤ n.num ∧ n.num ≤ 9223372036854775807) ∧ n.text.length ≤ 65536 ∧ (n.kind = 3 → okI n.frm.1 ∧ okI n.frm.2) ∧ (n.kind = 4 → (okI n.frm.1 ∧ okI n.frm.2) ∧ okI n.tor.1 ∧ okI n.tor.2)) := hf
  have HCN := Lib.hid hC
  have HLL : Hid ((numE n.kind.toNat).length + (hdM n).length + (putNL n.args).length ≤ 100000) := by
    unfold Hid
    rw [HPN.out] at hL
    simp only [List.length_append] at hL
    omega
  have HAL : Hid (n.args.length = len) := hR.len
  have HRD : Hid (RdQ rfE 12 w okA d n p len) := hR
  have hA0 : Hid (BlkC (w.alloc (.cells (bnA n p len cap) tN2)) w.heap.size (bnA n p len cap) tN2) := heap_alloc_new w _
  have HB1 : Hid (Below w.heap.size w (w.alloc (.cells (bnA n p len cap) tN2))) := by unfold Hid; (repeat' (first | (with_reducible exact Below.refl _ _) | (with_reducible assumption) | (with_reducible refine Below.alloc ?_ ?_ _) | (with_reducible refine bel_drewN ?_ _) | (with_reducible refine Below.drew ?_) | (with_reducible refine Below.setCell ?_ ?_ _) | (with_reducible refine bel_call ‹_› ?_ ?_) | go_size))
  have hq : IntKind.u64.wrap n.kind = n.kind := IntWalk.u64_in _ (by omega)
  have HN1 := Lib.hid (rnum_int n.kind (by omega) (by omega) (w.alloc (.cells (bnA n p len cap) tN2)))
  have HZ : Hid (w.heap.size + 1 ≤ (w.alloc (.cells (bnA n p len cap) tN2)).heap.size) := by unfold Hid; rw [World.size_alloc]; omega
  have HZL : Hid (len ≤ 16) := by unfold Hid; rw [← HAL.out]; exact hC.len
  have hzi : (len : Int) ≤ 9223372036854775807 := by have := HZL.out; omega
  clear hf hC hL hR IH hk1 hk8
  go_enter Tryz.func23, Tryz.ntmps23
  go_upto_region 1 with fail
  have e1 : w.alloc (.cells #[.int .i64 n.kind, .int .i64 n.num, .string ⟨n.text.toArray⟩, .int .u64 n.frm.1.1, .int .i64 n.frm.1.2, .int .u64 n.frm.2.1, .int .i64 n.frm.2.2, .int .u64 n.tor.1.1, .int .i64 n.tor.1.2, .int .u64 n.tor.2.1, .int .i64 n.tor.2.2, .slice p len cap] tN2) = w.alloc (.cells (bnA n p len cap) tN2) := rfl
  try rw [e1]
  clear e1
  generalize w.alloc (.cells (bnA n p len cap) tN2) = w1 at hA0 HN1 HB1 HZ ⊢
  have a0 : w1.cell? ⟨w.heap.size, 0, none⟩ = some (.int .i64 n.kind) := hA0.out.cell 0 _ rfl
  have a1 : w1.cell? ⟨w.heap.size, 1, none⟩ = some (.int .i64 n.num) := hA0.out.cell 1 _ rfl
  have a2 : w1.cell? ⟨w.heap.size, 2, none⟩ = some (.string ⟨n.text.toArray⟩) := hA0.out.cell 2 _ rfl
  have a3 : w1.cell? ⟨w.heap.size, 3, none⟩ = some (.int .u64 n.frm.1.1) := hA0.out.cell 3 _ rfl
  have a4 : w1.cell? ⟨w.heap.size, 4, none⟩ = some (.int .i64 n.frm.1.2) := hA0.out.cell 4 _ rfl
  have a5 : w1.cell? ⟨w.heap.size, 5, none⟩ = some (.int .u64 n.frm.2.1) := hA0.out.cell 5 _ rfl
  have a6 : w1.cell? ⟨w.heap.size, 6, none⟩ = some (.int .i64 n.frm.2.2) := hA0.out.cell 6 _ rfl
  have a7 : w1.cell? ⟨w.heap.size, 7, none⟩ = some (.int .u64 n.tor.1.1) := hA0.out.cell 7 _ rfl
  have a8 : w1.cell? ⟨w.heap.size, 8, none⟩ = some (.int .i64 n.tor.1.2) := hA0.out.cell 8 _ rfl
  have a9 : w1.cell? ⟨w.heap.size, 9, none⟩ = some (.int .u64 n.tor.2.1) := hA0.out.cell 9 _ rfl
  have a10 : w1.cell? ⟨w.heap.size, 10, none⟩ = some (.int .i64 n.tor.2.2) := hA0.out.cell 10 _ rfl
  have a11 : w1.cell? ⟨w.heap.size, 11, none⟩ = some (.slice p len cap) := hA0.out.cell 11 _ rfl
  go_upto_region 2 with fail
  refine HN1.out.mono ?_
  rintro e w2 ⟨u, rfl, hown, hb⟩
  have HS : Hid (StO (w.heap.size + 1) w1 u (numE n.kind.toNat) w2) := StO.of HZ.out (Below.refl _ _) hown hb
  clear hown hb HN1 hq
  obtain ⟨L1, hL1⟩ : ∃ L1, numE n.kind.toNat = L1 := ⟨_, rfl⟩
  rw [hL1] at HS HPN HLL
  have HLN : Hid (L1.length + (hdM n).length + (putNL n.args).length ≤ 100000) := HLL.out
  clear hL1 HLL
  have c0 := HS.out.cell a0 (by omega)
  go_upto_block 0 with fail
  clear c0
  go_cut [3] (fun v3 wx => StO (w.heap.size + 1) w1 v3 (L1 ++ hdM n) wx)
  case first =>
    clear HIH HRD HPN hA0
    by_cases k1 : n.kind = 1
    · skip
      have b1 : (n.kind == 1) = true := by simpa using k1
      have HD : Hid (hdM n = numE n.num.toNat) := by unfold Hid hdM hdN; rw [if_pos k1, if_neg (by omega), List.append_nil]
      have HDL : Hid ((hdM n).length = (numE n.num.toNat).length) := by unfold Hid; rw [HD.out]
      have HX := Lib.hid (HF.out.1 k1)
      have hqn : IntKind.u64.wrap n.num = n.num := IntWalk.u64_in _ (by have := HX.out; omega)
      have HC1 := Lib.hid (rnum_int n.num (by have := HX.out; omega) (by have := HX.out; omega) w2)
      have c0 := HS.out.cell a0 (by omega)
      have c1 := HS.out.cell a1 (by omega)
      clear a0 a1 a2 a3 a4 a5 a6 a7 a8 a9 a10 a11 k1
      go_wp2_with fail
      refine HC1.out.mono ?_
      rintro e w3 ⟨u, rfl, hown, hb⟩
      have HS2 := Lib.hid (HS.out.call hb)
      have HO2 := Lib.hid hown
      clear hown hb HC1 HS c0 c1
      go_wp2_with (at_builtin; refine wpList_append_oo _ _ HS2.out HO2.out ?cl rfl rfl rfl rfl ?_)
      case cl => have := HLN.out; have := HDL.out; omega
      intro v5 w5 hs5
      have HS5 := Lib.hid hs5
      clear hs5 HS2 HO2
      go_wp2_with fail
      go_meet
      rw [HD.out]
      exact HS5.out
    · skip
      by_cases k2 : n.kind = 2
      · skip
        have b1 : (n.kind == 1) = false := by simpa using k1
        have b2 : (n.kind == 2) = true := by simpa using k2
        have HD : Hid (hdM n = numE n.text.length ++ n.text) := by unfold Hid hdM hdN; rw [if_neg k1, if_pos (by omega), if_neg (by omega), List.append_nil]
        have HDL : Hid ((hdM n).length = (numE n.text.length ++ n.text).length) := by unfold Hid; rw [HD.out]
        obtain ⟨wb, cp, hconv, hbl, hrd⟩ := conv_text n.text (by have := HF.out.2.1; omega) w2
        have HC1 := Lib.hid (rbytes_own (some ⟨w2.heap.size, 0, none⟩) n.text.length cp _ n.text (by have := HF.out.2.1; omega) wb hrd)
        have HSB := Lib.hid (HS.out.call hbl)
        have c0 := HS.out.cell a0 (by omega)
        have c2 := HS.out.cell a2 (by omega)
        clear a0 a1 a2 a3 a4 a5 a6 a7 a8 a9 a10 a11 k1 k2 hrd hbl
        go_wp2_with fail
        refine HC1.out.mono ?_
        rintro e w3 ⟨u, rfl, hown, hb⟩
        have HS2 := Lib.hid (HSB.out.call hb)
        have HO2 := Lib.hid hown
        clear hown hb HC1 HS HSB hconv c0 c2
        go_wp2_with (at_builtin; refine wpList_append_oo _ _ HS2.out HO2.out ?cl rfl rfl rfl rfl ?_)
        case cl => have := HLN.out; have := HDL.out; omega
        intro v5 w5 hs5
        have HS5 := Lib.hid hs5
        clear hs5 HS2 HO2
        go_wp2_with fail
        go_meet
        rw [HD.out]
        exact HS5.out
      · skip
        by_cases k6 : n.kind = 6
        · skip
          have b1 : (n.kind == 1) = false := by simpa using k1
          have b2 : (n.kind == 2) = false := by simpa using k2
          have b6 : (n.kind == 6) = true := by simpa using k6
          have HD : Hid (hdM n = numE n.text.length ++ n.text) := by unfold Hid hdM hdN; rw [if_neg k1, if_pos (by omega), if_neg (by omega), List.append_nil]
          have HDL : Hid ((hdM n).length = (numE n.text.length ++ n.text).length) := by unfold Hid; rw [HD.out]
          obtain ⟨wb, cp, hconv, hbl, hrd⟩ := conv_text n.text (by have := HF.out.2.1; omega) w2
          have HC1 := Lib.hid (rbytes_own (some ⟨w2.heap.size, 0, none⟩) n.text.length cp _ n.text (by have := HF.out.2.1; omega) wb hrd)
          have HSB := Lib.hid (HS.out.call hbl)
          have c0 := HS.out.cell a0 (by omega)
          have c2 := HS.out.cell a2 (by omega)
          clear a0 a1 a2 a3 a4 a5 a6 a7 a8 a9 a10 a11 k1 k2 k6 hrd hbl
          go_wp2_with fail
          refine HC1.out.mono ?_
          rintro e w3 ⟨u, rfl, hown, hb⟩
          have HS2 := Lib.hid (HSB.out.call hb)
          have HO2 := Lib.hid hown
          clear hown hb HC1 HS HSB hconv c0 c2
          go_wp2_with (at_builtin; refine wpList_append_oo _ _ HS2.out HO2.out ?cl rfl rfl rfl rfl ?_)
          case cl => have := HLN.out; have := HDL.out; omega
          intro v5 w5 hs5
          have HS5 := Lib.hid hs5
          clear hs5 HS2 HO2
          go_wp2_with fail
          go_meet
          rw [HD.out]
          exact HS5.out
        · skip
          by_cases k3 : n.kind = 3
          · skip
            have b1 : (n.kind == 1) = false := by simpa using k1
            have b2 : (n.kind == 2) = false := by simpa using k2
            have b6 : (n.kind == 6) = false := by simpa using k6
            have b3 : (n.kind == 3) = true := by simpa using k3
            have HD : Hid (hdM n = prE n.frm) := by unfold Hid hdM hdN; rw [if_neg k1, if_neg (by omega), if_pos k3, if_neg (by omega), List.append_nil]
            have HDL : Hid ((hdM n).length = (prE n.frm).length) := by unfold Hid; rw [HD.out]
            have HX := Lib.hid (HF.out.2.2.1 k3)
            have HC1 := Lib.hid (stamps_own n.frm HX.out.1 HX.out.2 w2)
            have c0 := HS.out.cell a0 (by omega)
            have c3 := HS.out.cell a3 (by omega)
            have c4 := HS.out.cell a4 (by omega)
            have c5 := HS.out.cell a5 (by omega)
            have c6 := HS.out.cell a6 (by omega)
            clear a0 a1 a2 a3 a4 a5 a6 a7 a8 a9 a10 a11 k1 k2 k6 k3
            go_wp2_with fail
            refine HC1.out.mono ?_
            rintro e w3 ⟨u, rfl, hown, hb⟩
            have HS2 := Lib.hid (HS.out.call hb)
            have HO2 := Lib.hid hown
            clear hown hb HC1 HS c0 c3 c4 c5 c6
            go_wp2_with (at_builtin; refine wpList_append_oo _ _ HS2.out HO2.out ?cl rfl rfl rfl rfl ?_)
            case cl => have := HLN.out; have := HDL.out; omega
            intro v5 w5 hs5
            have HS5 := Lib.hid hs5
            clear hs5 HS2 HO2
            go_wp2_with fail
            go_meet
            rw [HD.out]
            exact HS5.out
          · skip
            by_cases k4 : n.kind = 4
            · skip
              have b1 : (n.kind == 1) = false := by simpa using k1
              have b2 : (n.kind == 2) = false := by simpa using k2
              have b6 : (n.kind == 6) = false := by simpa using k6
              have b3 : (n.kind == 3) = false := by simpa using k3
              have b4 : (n.kind == 4) = true := by simpa using k4
              have HD : Hid (hdM n = prE n.frm ++ prE n.tor) := by unfold Hid hdM hdN; rw [if_neg k1, if_neg (by omega), if_neg k3, if_pos k4, if_neg (by omega), List.append_nil]
              have HDL : Hid ((hdM n).length = (prE n.frm ++ prE n.tor).length) := by unfold Hid; rw [HD.out]
              have HX := Lib.hid (HF.out.2.2.2 k4)
              have HC1 := Lib.hid (stamps_own n.frm HX.out.1.1 HX.out.1.2 w2.drew)
              have c0 := HS.out.cell a0 (by omega)
              have P3 := Kept.cell (N := (w.heap.size + 1)) (w := w1) (b := w.heap.size) (o := 3) a3 (by omega)
              have P4 := Kept.cell (N := (w.heap.size + 1)) (w := w1) (b := w.heap.size) (o := 4) a4 (by omega)
              have P5 := Kept.cell (N := (w.heap.size + 1)) (w := w1) (b := w.heap.size) (o := 5) a5 (by omega)
              have P6 := Kept.cell (N := (w.heap.size + 1)) (w := w1) (b := w.heap.size) (o := 6) a6 (by omega)
              have P7 := Kept.cell (N := (w.heap.size + 1)) (w := w1) (b := w.heap.size) (o := 7) a7 (by omega)
              have P8 := Kept.cell (N := (w.heap.size + 1)) (w := w1) (b := w.heap.size) (o := 8) a8 (by omega)
              have P9 := Kept.cell (N := (w.heap.size + 1)) (w := w1) (b := w.heap.size) (o := 9) a9 (by omega)
              have P10 := Kept.cell (N := (w.heap.size + 1)) (w := w1) (b := w.heap.size) (o := 10) a10 (by omega)
              clear a0 a1 a2 a3 a4 a5 a6 a7 a8 a9 a10 a11 k1 k2 k6 k3 k4
              go_upto_region 11 with fail
              refine wp_region_sched (fun wx => ∃ x : Kept (w.heap.size + 1) w1, wx = x.v) [([0, 1, 2, 5, 6], 3), ([], 4), ([], 7), ([], 8)] [9] (by kernel_rfl) (by kernel_rfl) (by kernel_rfl) rfl ⟨⟨w2.drew, HS.out.drew.2.2⟩, rfl⟩ ?_
              (unfold wpSeg; simp only [pick_nil, pick_cons, nthO_zero, nthO_succ, List.append])
              repeat (go_big_quiet_step (fail))
              refine wpQuiet_nil ?_
              clear P3 P4 P5 P6 P7 P8 P9 P10 c0
              go_wp2_with fail
              refine HC1.out.mono ?_
              rintro e w3 ⟨u, rfl, hown, hb⟩
              have HS2 := Lib.hid (HS.out.drew.call hb)
              have HO2 := Lib.hid hown
              clear hown hb HC1 HS
              go_wp2_with fail
              refine ⟨rfl, ⟨⟨w3, HS2.out.2.2⟩, rfl⟩, ?_⟩
              (unfold wpSeg; simp only [pick_nil, pick_cons, nthO_zero, nthO_succ, List.append])
              refine wpQuiet_nil ?_
              refine wpList_append_oo _ _ HS2.out HO2.out ?cl rfl rfl rfl rfl (fun v5 w5 hs5 => ?_)
              case cl => have := HLN.out; have := HDL.out; simp only [List.length_append] at this ⊢; omega
              have HS5 := Lib.hid hs5
              have HC2 := Lib.hid (stamps_own n.tor HX.out.2.1 HX.out.2.2 w5)
              clear hs5 HS2 HO2
              go_wp2_with fail
              refine ⟨rfl, ⟨⟨w5, HS5.out.2.2⟩, rfl⟩, ?_⟩
              (unfold wpSeg; simp only [pick_nil, pick_cons, nthO_zero, nthO_succ, List.append])
              refine wpQuiet_nil ?_
              go_wp2_with fail
              refine HC2.out.mono ?_
              rintro e w6 ⟨u2, rfl, hown, hb⟩
              have HS6 := Lib.hid (HS5.out.call hb)
              have HO6 := Lib.hid hown
              clear hown hb HC2 HS5
              go_wp2_with fail
              refine ⟨rfl, ⟨⟨w6, HS6.out.2.2⟩, rfl⟩, ?_⟩
              (unfold wpSeg; simp only [pick_nil, pick_cons, nthO_zero, nthO_succ, List.append])
              refine wpQuiet_nil ?_
              refine wpList_append_oo _ _ HS6.out HO6.out ?cl rfl rfl rfl rfl (fun v7 w7 hs7 => ?_)
              case cl => have := HLN.out; have := HDL.out; simp only [List.length_append] at this ⊢; omega
              have HS7 := Lib.hid hs7
              clear hs7 HS6 HO6
              go_wp2_with fail
              refine ⟨rfl, ⟨⟨w7, HS7.out.2.2⟩, rfl⟩, ?_⟩
              (unfold wpSeg; simp only [pick_nil, pick_cons, nthO_zero, nthO_succ, List.append])
              repeat (go_big_quiet_step (fail))
              refine wpQuiet_nil ?_
              go_wp2_with fail
              go_meet
              rw [HD.out, ← List.append_assoc]
              exact HS7.out
            · skip
              by_cases k7 : n.kind = 7
              · skip
                have b1 : (n.kind == 1) = false := by simpa using k1
                have b2 : (n.kind == 2) = false := by simpa using k2
                have b6 : (n.kind == 6) = false := by simpa using k6
                have b3 : (n.kind == 3) = false := by simpa using k3
                have b4 : (n.kind == 4) = false := by simpa using k4
                have b7 : (n.kind == 7) = true := by simpa using k7
                have HD : Hid (hdM n = (numE n.text.length ++ n.text) ++ numE len) := by unfold Hid hdM hdN; rw [if_neg k1, if_pos (by omega), if_pos k7, HAL.out]
                have HDL : Hid ((hdM n).length = ((numE n.text.length ++ n.text) ++ numE len).length) := by unfold Hid; rw [HD.out]
                obtain ⟨wb, cp, hconv, hbl, hrd⟩ := conv_text n.text (by have := HF.out.2.1; omega) w2.drew
                have HC1 := Lib.hid (rbytes_own (some ⟨w2.drew.heap.size, 0, none⟩) n.text.length cp _ n.text (by have := HF.out.2.1; omega) wb hrd)
                have HSB := Lib.hid (HS.out.drew.call hbl)
                have hql : IntKind.u64.wrap (len : Int) = (len : Int) := IntWalk.u64_in _ (by have := HZL.out; omega)
                have c0 := HS.out.cell a0 (by omega)
                have P2 := Kept.cell (N := (w.heap.size + 1)) (w := w1) (b := w.heap.size) (o := 2) a2 (by omega)
                have P11 := Kept.cell (N := (w.heap.size + 1)) (w := w1) (b := w.heap.size) (o := 11) a11 (by omega)
                clear a0 a1 a2 a3 a4 a5 a6 a7 a8 a9 a10 a11 k1 k2 k6 k3 k4 k7 hrd hbl
                go_upto_region 13 with fail
                refine Sl.wp_region_sched (fun wx => ∃ x : Kept (w.heap.size + 1) w1, wx = x.v) [([0, 1, 2, 6, 7, 8, 9], 3), ([], 4), ([], 5), ([], 10), ([], 11)] [12] (by kernel_rfl) (by kernel_rfl) (by kernel_rfl) rfl ⟨⟨w2.drew, HS.out.drew.2.2⟩, rfl⟩ ?_
                (unfold wpSeg; simp only [pick_nil, pick_cons, nthO_zero, nthO_succ, List.append])
                repeat (go_big_quiet_step (fail))
                refine wpQuiet_nil ?_
                clear P2 P11 c0
                go_wp2_with fail
                refine ⟨rfl, ⟨⟨wb, HSB.out.2.2⟩, rfl⟩, ?_⟩
                (unfold wpSeg; simp only [pick_nil, pick_cons, nthO_zero, nthO_succ, List.append])
                refine wpQuiet_nil ?_
                go_wp2_with fail
                refine HC1.out.mono ?_
                rintro e w3 ⟨u, rfl, hown, hb⟩
                have HS2 := Lib.hid (HSB.out.call hb)
                have HO2 := Lib.hid hown
                clear hown hb HC1 HS HSB hconv
                go_wp2_with fail
                refine ⟨rfl, ⟨⟨w3, HS2.out.2.2⟩, rfl⟩, ?_⟩
                (unfold wpSeg; simp only [pick_nil, pick_cons, nthO_zero, nthO_succ, List.append])
                refine wpQuiet_nil ?_
                refine wpList_append_oo _ _ HS2.out HO2.out ?cl rfl rfl rfl rfl (fun v5 w5 hs5 => ?_)
                case cl => have := HLN.out; have := HDL.out; simp only [List.length_append] at this ⊢; omega
                have HS5 := Lib.hid hs5
                have HC2 := Lib.hid (rnum_own len (by have := HZL.out; omega) w5)
                clear hs5 HS2 HO2
                go_wp2_with fail
                refine ⟨rfl, ⟨⟨w5, HS5.out.2.2⟩, rfl⟩, ?_⟩
                (unfold wpSeg; simp only [pick_nil, pick_cons, nthO_zero, nthO_succ, List.append])
                refine wpQuiet_nil ?_
                go_wp2_with fail
                refine HC2.out.mono ?_
                rintro e w6 ⟨u2, rfl, hown, hb⟩
                have HS6 := Lib.hid (HS5.out.call hb)
                have HO6 := Lib.hid hown
                clear hown hb HC2 HS5
                go_wp2_with fail
                refine ⟨rfl, ⟨⟨w6, HS6.out.2.2⟩, rfl⟩, ?_⟩
                (unfold wpSeg; simp only [pick_nil, pick_cons, nthO_zero, nthO_succ, List.append])
                refine wpQuiet_nil ?_
                refine wpList_append_oo _ _ HS6.out HO6.out ?cl rfl rfl rfl rfl (fun v7 w7 hs7 => ?_)
                case cl => have := HLN.out; have := HDL.out; simp only [List.length_append] at this ⊢; omega
                have HS7 := Lib.hid hs7
                clear hs7 HS6 HO6
                go_wp2_with fail
                refine ⟨rfl, ⟨⟨w7, HS7.out.2.2⟩, rfl⟩, ?_⟩
                (unfold wpSeg; simp only [pick_nil, pick_cons, nthO_zero, nthO_succ, List.append])
                repeat (go_big_quiet_step (fail))
                refine wpQuiet_nil ?_
                go_wp2_with fail
                go_meet
                rw [HD.out, ← List.append_assoc]
                exact HS7.out
              · skip
                have b1 : (n.kind == 1) = false := by simpa using k1
                have b2 : (n.kind == 2) = false := by simpa using k2
                have b6 : (n.kind == 6) = false := by simpa using k6
                have b3 : (n.kind == 3) = false := by simpa using k3
                have b4 : (n.kind == 4) = false := by simpa using k4
                have b7 : (n.kind == 7) = false := by simpa using k7
                have HD : Hid (hdM n = []) := by unfold Hid hdM hdN; rw [if_neg k1, if_neg (by omega), if_neg k3, if_neg k4, if_neg k7]; rfl
                have c0 := HS.out.cell a0 (by omega)
                clear a0 a1 a2 a3 a4 a5 a6 a7 a8 a9 a10 a11 k1 k2 k6 k3 k4 k7
                go_wp2_with fail
                go_meet
                rw [HD.out, List.append_nil]
                exact HS.out
  case rest =>
  clear HS
  have HS := Lib.hid hcut
  clear hcut
  obtain ⟨L2, hL2⟩ : ∃ L2, L1 ++ hdM n = L2 := ⟨_, rfl⟩
  have HLM : Hid (L2.length + (putNL n.args).length ≤ 100000) := by
    unfold Hid
    rw [← hL2, List.length_append]
    have := HLN.out
    omega
  have HPU : Hid (putN n = L2 ++ putNL n.args) := by unfold Hid; rw [HPN.out, hL2]
  rw [hL2] at HS
  clear hL2 HLN HPN
  have c11 := HS.out.cell a11 (by omega)
  have HA11 := Lib.hid a11
  clear a0 a1 a2 a3 a4 a5 a6 a7 a8 a9 a10 a11
  go_wp2_with fail
  clear c11
  go_loopg [3, 4] len (fun gm v3 v4 wr => ∃ i : Nat, i + gm = len ∧ v4 = .int .i64 i ∧ StO (w.heap.size + 1) w1 v3 (L2 ++ putNL (n.args.take i)) wr)
  case atStart => exact ⟨0, by omega, rfl, by rw [List.take_zero, putNL, List.append_nil]; exact HS.out⟩
  case round =>
    obtain ⟨i, hig, rfl, hst⟩ := hrel
    have HST := Lib.hid hst
    have c11 := hst.cell HA11.out (by omega)
    have HBW : Hid (Below w.heap.size w wr) := HB1.out.trans (hst.2.2.mono (by omega))
    clear hst HS
    by_cases hlt : i < len
    · have hli : (i : Int) < (len : Int) := by omega
      obtain ⟨d', bb, off, c, p', l', c', hd, rfl, _, hbz, hc, hrc, hrg⟩ := (HRD.out.below HBW.out).at hlt
      have HC : Hid (RPutC d') := HIH.out d' hd
      have HCO := Lib.hid (HCN.out.child (mem_of_at hc))
      have HLE : Hid ((L2 ++ putNL (n.args.take i)).length + (putN c).length ≤ 100000) := by
        unfold Hid
        rw [List.length_append]
        have := putNL_le hc
        have := HLM.out
        omega
      have HTA : Hid (putNL (n.args.take (i + 1)) = putNL (n.args.take i) ++ putN c) := putNL_take hc
      have HCC := Lib.hid (HC.out c p' l' c' wr hrc HCO.out (by have := HLE.out; omega))
      rw [bnA_eq] at HCC
      have HRG := Lib.hid hrg
      clear hc hrc hd hrg HC
      generalize putNL (n.args.take i) = T0 at HST HLE HTA
      go_upto_region 17 with fail
      refine wp_region_lit ?_
      refine wpList_plain rfl fun K hK => ?_
      go_simp
      refine hK _ _ ?_
      clear hK K
      refine wpList_plain rfl fun K hK => ?_
      go_simp
      refine hK _ _ ?_
      clear hK K
      refine wpList_plain rfl fun K hK => ?_
      go_simp
      refine hK _ _ ?_
      clear hK K
      refine wpList_plain rfl fun K hK => ?_
      go_simp
      refine hK _ _ ?_
      clear hK K
      refine wpList_plain rfl fun K hK => ?_
      go_simp
      refine hK _ _ ?_
      clear hK K
      refine wpList_load_mid (by rfl) _ _ (by rfl) bb (off + i * 12) (by rfl) [.int .i64 c.kind, .int .i64 c.num, .string ⟨c.text.toArray⟩, .int .u64 c.frm.1.1, .int .i64 c.frm.1.2, .int .u64 c.frm.2.1, .int .i64 c.frm.2.2, .int .u64 c.tor.1.1, .int .i64 c.tor.1.2, .int .u64 c.tor.2.1, .int .i64 c.tor.2.2, .slice p' l' c'] _ HRG.out Tryz.underlying53 rfl (by kernel_rfl) ?_
      go_simp
      go_wp2_with fail
      refine HCC.out.mono ?_
      rintro e w3 ⟨u, rfl, hown, hb⟩
      have HS2 := Lib.hid (HST.out.call hb)
      have HO2 := Lib.hid hown
      clear hown hb HCC HST HRG c11
      go_wp2_with (at_builtin; refine wpList_append_oo _ _ HS2.out HO2.out ?cl rfl rfl rfl rfl ?_)
      case cl => exact HLE.out
      intro v5 w5 hs5
      have HS5 := Lib.hid hs5
      clear hs5 HS2 HO2
      go_wp2_with fail
      go_roundg (gk - 1)
      case measure => omega
      case rel => exact ⟨i + 1, by omega, by go_num, by rw [HTA.out]; first | exact HS5.out | (rw [← List.append_assoc]; exact HS5.out)⟩
    · obtain rfl : i = len := by omega
      have hli : ¬ (i : Int) < (i : Int) := by omega
      have HDE : Hid (putN n = L2 ++ putNL (n.args.take i)) := by
        unfold Hid
        rw [HPU.out, List.take_of_length_le (by rw [HAL.out]; exact Nat.le_refl _)]
      go_wp2_with fail
      go_ret
      rw [HDE.out]
      exact HST.out.ret HB1.out (by omega)
theorem rput2_any : ∀ d, RPutC d
  | 0 => rput2_s 0 (fun d' h => by omega)
  | d + 1 => rput2_s (d + 1) (fun d' h => (show d = d' from by omega) ▸ rput2_any d)
end Go.Proofs.YtjklbbmgjjdalaaGreatDoor.Bd
namespace Go.Proofs.YtjklbbmgjjdalaaGreatDoor.Sx
open Go.RowKit
def readB (o : Oper) : Bool := match o.op with
  | .move _ | .assign _ | .pick _ _ _ | .load _ _ | .binOp _ _ _ _ _ | .unOp _ _ _ | .convert _ _ _ | .fieldAddr _ _ _ | .field _ _ _ | .indexAddr _ _ _ | .index _ _ _ | .extract _ _ | .build _ _ | .makeInterface _ _ => true
  | .call c => match c.callee with
    | .builtin .len => true
    | _ => false
  | _ => false
theorem read_value {P : Program} {o : Oper} {e : Operand → Value} {w w' : World} {n : Next} (h : readB o = true) (hr : (execOp e o).run P w = .ok n w') : ∃ v, n = .value v := by
  by_cases hc : ∃ c, o.op = .call c
  · obtain ⟨c, hc⟩ := hc
    unfold readB at h
    rw [hc] at h
    unfold execOp at hr
    rw [hc] at hr
    obtain ⟨cal, ars, ts⟩ := c
    simp only at h
    split at h
    · rename_i hcal
      simp only [resolve, pure_bind, invoke, builtin] at hr
      exact val_bind (f := id) hr
    · cases h
  · unfold readB at h
    unfold execOp at hr
    cases hop : o.op <;> rw [hop] at h hr <;> simp only [Bool.false_eq_true] at h
    all_goals first
      | exact val_bind (f := id) hr
      | exact val_bind (f := fun b => if b = true then _ else _) hr
      | (simp at hr; exact ⟨_, hr.1.symm⟩)
      | (simp only [Sem.run_pure] at hr; injection hr with h1 h2; exact ⟨_, h1.symm⟩)
      | exact absurd ⟨_, hop⟩ hc
      | exact absurd ⟨_, rfl⟩ hc
section
variable {P : Program} {ops : Array Oper} {md : Region.Mode} {S : World → Prop} {QQ : Act → World → Prop}
theorem read_yields {o : Oper} {a : Act} {K : Act → Prop} (hrd : readB o = true) (hw : Region.wanted o (yielded ops a.tmps) = true) (hS : ∃ w, S w) (h : o.quiet P a S K) : ∃ v, YieldsIf P ops S o v a ∧ K (a.put o.dst v) := by
  obtain ⟨v, h1, h2⟩ := h
  refine ⟨v, .inl ⟨hw, fun w hw' => ?_⟩, h2⟩
  have h3 := h1 w hw'
  unfold Oper.quietAt at h3
  cases hr : (execOp a.eval o).run P w with
  | ok n w1 =>
    rw [hr] at h3
    obtain ⟨u, rfl⟩ := read_value hrd hr
    obtain ⟨rfl, rfl⟩ := h3
    rfl
  | _ => rw [hr] at h3; exact h3.elim
theorem take_read {i : Nat} {o : Oper} {fuel : Nat} {listed : Array Bool} {a : Act} {w : World} {rest : List Oper} {K : Act → Prop} (hi : ops[i]? = some o) (hns : Region.noSelect ops = true) (hrd : readB o = true)
    (hf : Region.free md ops listed i = true) (hr : (Region.ready md ops listed).contains i = true) (hS : S w) (h : wpQuiet P ops S K (o :: rest) a)
    (hK : ∀ a', wpQuiet P ops S K rest a' → wpAnyH P md ops (OnlyOn QQ) S fuel (listed.setIfInBounds i true) a' w) : wpAnyH P md ops (OnlyOn QQ) S (fuel + 1) listed a w := by
  have key : ∃ v, YieldsIf P ops S o v a ∧ wpQuiet P ops S K rest (a.put o.dst v) := by
    unfold wpQuiet at h
    by_cases hw : Region.wanted o (yielded ops a.tmps) = true
    · rw [if_pos hw] at h
      exact read_yields hrd hw ⟨w, hS⟩ h
    · rw [if_neg hw] at h
      exact ⟨undef, .inr ⟨by simpa using hw, rfl⟩, h⟩
  obtain ⟨v, hy, hk⟩ := key
  exact wpAnyH_first hi (Region.noSelect_spec hns) (fun c a w h => by cases h.1) fuel listed a w (Region.free_spec hi hf) (by simpa using hr) hy hS (hK _ hk)
end
def readsOK (md : Region.Mode) (ops : Array Oper) : List Nat → Array Bool → Bool
  | [], _ => true
  | i :: r, listed => (match ops[i]? with | some o => readB o | none => false) && (Region.free md ops listed i && ((Region.ready md ops listed).contains i && readsOK md ops r (listed.setIfInBounds i true)))
def segsOK (md : Region.Mode) (ops : Array Oper) : List (List Nat × Nat) → List Nat → Array Bool → Bool
  | [], last, listed => readsOK md ops last listed && (Region.ready md ops (marked listed last)).isEmpty
  | (rs, k) :: more, last, listed => readsOK md ops rs listed && ((ops[k]?).isSome && (Region.ready md ops (marked listed rs) == [k] && segsOK md ops more last ((marked listed rs).setIfInBounds k true)))
section
variable {P : Program} {l : List Oper} {md : Region.Mode} {S : World → Prop} {QQ : Act → World → Prop}
theorem reads_go {K : Act → Prop} {fuel : Nat} {w : World} (hns : Region.noSelect l.toArray = true) (hS : S w) : ∀ (rs : List Nat) (listed : Array Bool) (a : Act), readsOK md l.toArray rs listed = true →
    wpQuiet P l.toArray S K (pick l rs) a → (∀ a', K a' → wpAnyH P md l.toArray (OnlyOn QQ) S fuel (marked listed rs) a' w) → wpAnyH P md l.toArray (OnlyOn QQ) S (rs.length + fuel) listed a w
  | [], listed, a, _, h, hK => by
    rw [List.length_nil, Nat.zero_add]
    exact hK a h
  | i :: r, listed, a, hB, h, hK => by
    unfold readsOK at hB
    simp only [Bool.and_eq_true] at hB
    obtain ⟨h1, h2, h3, h4⟩ := hB
    cases ho : l.toArray[i]? with
    | none => rw [ho] at h1; cases h1
    | some o =>
      rw [ho] at h1
      have hl : l[i]? = some o := by simpa using ho
      have hp : pick l (i :: r) = o :: pick l r := by unfold pick; rw [List.filterMap_cons, hl]
      rw [hp] at h
      rw [List.length_cons, Nat.add_right_comm]
      exact take_read ho hns h1 h2 h3 hS h (fun a' h' => reads_go hns hS r _ a' h4 h' hK)
theorem held_mono {Q : Exit → Act → World → Prop} {S1 S2 : World → Prop} {ops : Array Oper} (h : ∀ x, S2 x → S1 x) : ∀ (fuel : Nat) (listed : Array Bool) (a : Act) (w : World), wpAnyH P md ops Q S2 fuel listed a w → wpAnyH P md ops Q S1 fuel listed a w
  | 0, _, _, _, k => k
  | fuel + 1, _, _, _, k => ⟨k.1, fun i hi => wpOp_mono (fun a' w' h' => ⟨h _ h'.1, held_mono h fuel _ a' w' h'.2⟩) (k.2 i hi)⟩
def wpSeg (P : Program) (l : List Oper) (QQ : Act → World → Prop) : List (List Nat × Nat) → List Nat → (World → Prop) → Act → World → Prop
  | [], last, S, a, w => wpQuiet P l.toArray S (fun a' => QQ a' w) (pick l last) a
  | (rs, k) :: more, last, S, a, w => wpQuiet P l.toArray S (fun a' => wpList P l.toArray (OnlyOn fun a'' w'' => S w'' ∧ ∃ S2 : World → Prop, (∀ x, S2 x → S x) ∧ S2 w'' ∧ wpSeg P l QQ more last S2 a'' w'') (pick l [k]) a' w) (pick l rs) a
theorem segs_go (hns : Region.noSelect l.toArray = true) : ∀ (sch : List (List Nat × Nat)) (last : List Nat) (S : World → Prop) (listed : Array Bool) (a : Act) (w : World), S w → segsOK md l.toArray sch last listed = true →
    wpSeg P l QQ sch last S a w → wpAnyH P md l.toArray (OnlyOn QQ) S (segCount sch last) listed a w
  | [], last, S, listed, a, w, hS, hB, h => by
    unfold segsOK at hB
    simp only [Bool.and_eq_true] at hB
    obtain ⟨h1, h2⟩ := hB
    unfold wpSeg at h
    unfold segCount
    rw [← Nat.add_zero last.length]
    exact reads_go (fuel := 0) hns hS last listed a h1 h (fun a' h' => ⟨by simpa using h2, rfl, h'⟩)
  | (rs, k) :: more, last, S, listed, a, w, hS, hB, h => by
    unfold segsOK at hB
    simp only [Bool.and_eq_true] at hB
    obtain ⟨h1, h2, h3, h4⟩ := hB
    obtain ⟨o, ho⟩ := Option.isSome_iff_exists.1 h2
    have hl : l[k]? = some o := by simpa using ho
    have hp : pick l [k] = [o] := by unfold pick; rw [List.filterMap_cons, hl]; rfl
    unfold wpSeg at h
    unfold segCount
    refine reads_go hns hS rs listed a h1 h (fun a' h' => ?_)
    rw [hp] at h'
    refine take_loud ho (by simpa using h3) h' (fun a'' w'' hS' hk => ?_)
    obtain ⟨S2, hs, h5, h6⟩ := hk
    exact held_mono hs _ _ _ _ (segs_go hns more last S2 _ a'' w'' h5 h4 h6)
theorem wp_region_sched {id : Nat} {Q : Exit → Act → World → Prop} {a : Act} {w : World} (S : World → Prop) (sch : List (List Nat × Nat)) (last : List Nat) (hm : P.follows .mixedOrders = true) (hns : Region.noSelect l.toArray = true)
    (hB : segsOK .any l.toArray sch last (Array.replicate l.toArray.size false) = true) (hc : segCount sch last = l.toArray.size) (hS : S w.drew)
    (h : wpSeg P l (Q .normal) sch last S a w.drew) : (Code.region id l.toArray true).wp P Q a w := by
  have h1 := segs_go (md := .any) hns sch last S _ a w.drew hS hB h
  rw [hc] at h1
  have h2 := wpAny_of_held _ _ _ _ h1
  refine Code.wp_mono (fun e a' w' h' => ?_) (wp_region_any hm h2)
  obtain ⟨rfl, h'⟩ := h'
  exact h'
end
end Go.Proofs.YtjklbbmgjjdalaaGreatDoor.Sx
namespace Go.Proofs.YtjklbbmgjjdalaaGreatDoor.Si
open Go.RowKit
def readB (o : Oper) : Bool := match o.op with
  | .move _ | .assign _ | .pick _ _ _ | .load _ _ | .binOp _ _ _ _ _ | .unOp _ _ _ | .convert _ _ _ | .fieldAddr _ _ _ | .field _ _ _ | .indexAddr _ _ _ | .index _ _ _ | .extract _ _ | .build _ _ | .makeInterface _ _ => true
  | _ => false
theorem read_value {P : Program} {o : Oper} {e : Operand → Value} {w w' : World} {n : Next} (h : readB o = true) (hr : (execOp e o).run P w = .ok n w') : ∃ v, n = .value v := by
  unfold readB at h
  unfold execOp at hr
  cases hop : o.op <;> rw [hop] at h hr <;> simp only [Bool.false_eq_true] at h
  all_goals first
    | exact val_bind (f := id) hr
    | exact val_bind (f := fun b => if b = true then _ else _) hr
    | (simp at hr; exact ⟨_, hr.1.symm⟩)
    | (simp only [Sem.run_pure] at hr; injection hr with h1 h2; exact ⟨_, h1.symm⟩)
section
variable {P : Program} {ops : Array Oper} {md : Region.Mode} {S : World → Prop} {QQ : Act → World → Prop}
theorem read_yields {o : Oper} {a : Act} {K : Act → Prop} (hrd : readB o = true) (hw : Region.wanted o (yielded ops a.tmps) = true) (hS : ∃ w, S w) (h : o.quiet P a S K) : ∃ v, YieldsIf P ops S o v a ∧ K (a.put o.dst v) := by
  obtain ⟨v, h1, h2⟩ := h
  refine ⟨v, .inl ⟨hw, fun w hw' => ?_⟩, h2⟩
  have h3 := h1 w hw'
  unfold Oper.quietAt at h3
  cases hr : (execOp a.eval o).run P w with
  | ok n w1 =>
    rw [hr] at h3
    obtain ⟨u, rfl⟩ := read_value hrd hr
    obtain ⟨rfl, rfl⟩ := h3
    rfl
  | _ => rw [hr] at h3; exact h3.elim
theorem take_read {i : Nat} {o : Oper} {fuel : Nat} {listed : Array Bool} {a : Act} {w : World} {rest : List Oper} {K : Act → Prop} (hi : ops[i]? = some o) (hns : Region.noSelect ops = true) (hrd : readB o = true)
    (hf : Region.free md ops listed i = true) (hr : (Region.ready md ops listed).contains i = true) (hS : S w) (h : wpQuiet P ops S K (o :: rest) a)
    (hK : ∀ a', wpQuiet P ops S K rest a' → wpAnyH P md ops (OnlyOn QQ) S fuel (listed.setIfInBounds i true) a' w) : wpAnyH P md ops (OnlyOn QQ) S (fuel + 1) listed a w := by
  have key : ∃ v, YieldsIf P ops S o v a ∧ wpQuiet P ops S K rest (a.put o.dst v) := by
    unfold wpQuiet at h
    by_cases hw : Region.wanted o (yielded ops a.tmps) = true
    · rw [if_pos hw] at h
      exact read_yields hrd hw ⟨w, hS⟩ h
    · rw [if_neg hw] at h
      exact ⟨undef, .inr ⟨by simpa using hw, rfl⟩, h⟩
  obtain ⟨v, hy, hk⟩ := key
  exact wpAnyH_first hi (Region.noSelect_spec hns) (fun c a w h => by cases h.1) fuel listed a w (Region.free_spec hi hf) (by simpa using hr) hy hS (hK _ hk)
end
def readsOK (md : Region.Mode) (ops : Array Oper) : List Nat → Array Bool → Bool
  | [], _ => true
  | i :: r, listed => (match ops[i]? with | some o => readB o | none => false) && (Region.free md ops listed i && ((Region.ready md ops listed).contains i && readsOK md ops r (listed.setIfInBounds i true)))
def segsOK (md : Region.Mode) (ops : Array Oper) : List (List Nat × Nat) → List Nat → Array Bool → Bool
  | [], last, listed => readsOK md ops last listed && (Region.ready md ops (marked listed last)).isEmpty
  | (rs, k) :: more, last, listed => readsOK md ops rs listed && ((ops[k]?).isSome && (Region.ready md ops (marked listed rs) == [k] && segsOK md ops more last ((marked listed rs).setIfInBounds k true)))
section
variable {P : Program} {l : List Oper} {md : Region.Mode} {S : World → Prop} {QQ : Act → World → Prop}
theorem reads_go {K : Act → Prop} {fuel : Nat} {w : World} (hns : Region.noSelect l.toArray = true) (hS : S w) : ∀ (rs : List Nat) (listed : Array Bool) (a : Act), readsOK md l.toArray rs listed = true →
    wpQuiet P l.toArray S K (pick l rs) a → (∀ a', K a' → wpAnyH P md l.toArray (OnlyOn QQ) S fuel (marked listed rs) a' w) → wpAnyH P md l.toArray (OnlyOn QQ) S (rs.length + fuel) listed a w
  | [], listed, a, _, h, hK => by
    rw [List.length_nil, Nat.zero_add]
    exact hK a h
  | i :: r, listed, a, hB, h, hK => by
    unfold readsOK at hB
    simp only [Bool.and_eq_true] at hB
    obtain ⟨h1, h2, h3, h4⟩ := hB
    cases ho : l.toArray[i]? with
    | none => rw [ho] at h1; cases h1
    | some o =>
      rw [ho] at h1
      have hl : l[i]? = some o := by simpa using ho
      have hp : pick l (i :: r) = o :: pick l r := by unfold pick; rw [List.filterMap_cons, hl]
      rw [hp] at h
      rw [List.length_cons, Nat.add_right_comm]
      exact take_read ho hns h1 h2 h3 hS h (fun a' h' => reads_go hns hS r _ a' h4 h' hK)
theorem segs_go (hns : Region.noSelect l.toArray = true) : ∀ (sch : List (List Nat × Nat)) (last : List Nat) (listed : Array Bool) (a : Act) (w : World), S w → segsOK md l.toArray sch last listed = true →
    wpSeg P l S QQ sch last a w → wpAnyH P md l.toArray (OnlyOn QQ) S (segCount sch last) listed a w
  | [], last, listed, a, w, hS, hB, h => by
    unfold segsOK at hB
    simp only [Bool.and_eq_true] at hB
    obtain ⟨h1, h2⟩ := hB
    unfold wpSeg at h
    unfold segCount
    rw [← Nat.add_zero last.length]
    exact reads_go (fuel := 0) hns hS last listed a h1 h (fun a' h' => ⟨by simpa using h2, rfl, h'⟩)
  | (rs, k) :: more, last, listed, a, w, hS, hB, h => by
    unfold segsOK at hB
    simp only [Bool.and_eq_true] at hB
    obtain ⟨h1, h2, h3, h4⟩ := hB
    obtain ⟨o, ho⟩ := Option.isSome_iff_exists.1 h2
    have hl : l[k]? = some o := by simpa using ho
    have hp : pick l [k] = [o] := by unfold pick; rw [List.filterMap_cons, hl]; rfl
    unfold wpSeg at h
    unfold segCount
    refine reads_go hns hS rs listed a h1 h (fun a' h' => ?_)
    rw [hp] at h'
    exact take_loud ho (by simpa using h3) h' (fun a'' w'' hS' hk => segs_go hns more last _ a'' w'' hS' h4 hk)
theorem wp_region_sched {id : Nat} {Q : Exit → Act → World → Prop} {a : Act} {w : World} (S : World → Prop) (sch : List (List Nat × Nat)) (last : List Nat) (hm : P.follows .mixedOrders = true) (hns : Region.noSelect l.toArray = true)
    (hB : segsOK .any l.toArray sch last (Array.replicate l.toArray.size false) = true) (hc : segCount sch last = l.toArray.size) (hS : S w.drew)
    (h : wpSeg P l S (Q .normal) sch last a w.drew) : (Code.region id l.toArray true).wp P Q a w := by
  have h1 := segs_go (md := .any) hns sch last _ a w.drew hS hB h
  rw [hc] at h1
  have h2 := wpAny_of_held _ _ _ _ h1
  refine Code.wp_mono (fun e a' w' h' => ?_) (wp_region_any hm h2)
  obtain ⟨rfl, h'⟩ := h'
  exact h'
end
end Go.Proofs.YtjklbbmgjjdalaaGreatDoor.Si
