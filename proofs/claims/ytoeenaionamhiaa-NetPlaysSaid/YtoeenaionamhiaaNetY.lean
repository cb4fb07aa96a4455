/- Words for 'does'. -/
import Derived.Test.YtoeenaionamhiaaNetX
import Derived.Test.YtoeenaionamhiaaNetS
set_option linter.unusedSimpArgs false
set_option linter.unusedVariables false
namespace Go.Proofs.Ytoeenaionamhiaa
open Go.RowKit

abbrev tAct : TypeId := 30
theorem cells5 {w : World} {b : Nat} {a0 a1 a2 a3 a4 : Value} {t : TypeId} (h : w.heap[b]? = some (.cells #[a0, a1, a2, a3, a4] t (0, 0))) : w.cell? ⟨b, 0, none⟩ = some a0 ∧ w.cell? ⟨b, 1, none⟩ = some a1 ∧ w.cell? ⟨b, 2, none⟩ = some a2 ∧ w.cell? ⟨b, 3, none⟩ = some a3 ∧ w.cell? ⟨b, 4, none⟩ = some a4 ∧ ∀ k, w.frozen? ⟨b, k, none⟩ = false := cells5' h
theorem cells7 {w : World} {b : Nat} {a0 a1 a2 a3 a4 a5 a6 : Value} {t : TypeId} (h : w.heap[b]? = some (.cells #[a0, a1, a2, a3, a4, a5, a6] t (0, 0))) : w.cell? ⟨b, 0, none⟩ = some a0 ∧ w.cell? ⟨b, 1, none⟩ = some a1 ∧ w.cell? ⟨b, 2, none⟩ = some a2 ∧ w.cell? ⟨b, 3, none⟩ = some a3 ∧ w.cell? ⟨b, 4, none⟩ = some a4 ∧ w.cell? ⟨b, 5, none⟩ = some a5 ∧ w.cell? ⟨b, 6, none⟩ = some a6 ∧ ∀ k, w.frozen? ⟨b, k, none⟩ = false := by
  refine ⟨?_, ?_, ?_, ?_, ?_, ?_, ?_, fun k => ?_⟩
  all_goals simp [World.cell?, World.frozen?, h]
theorem cells3' {w : World} {b : Nat} {a0 a1 a2 : Value} {t : TypeId} (h : w.heap[b]? = some (.cells #[a0, a1, a2] t (0, 0))) : w.cell? ⟨b, 0, none⟩ = some a0 ∧ w.cell? ⟨b, 1, none⟩ = some a1 ∧ w.cell? ⟨b, 2, none⟩ = some a2 := by
  refine ⟨?_, ?_, ?_⟩
  all_goals simp [World.cell?, h]
theorem heap2' (w : World) (a b : Obj) : ((w.alloc a).alloc b).heap[w.heap.size]? = some a ∧ ((w.alloc a).alloc b).heap[w.heap.size + 1]? = some b := by
  refine ⟨?_, ?_⟩
  · rw [Below.heap_alloc _ _ _ (by simp)]
    exact heap_alloc_new w a
  · simpa using heap_alloc_new (w.alloc a) b
theorem be_box {W W' : World} {b : Nat} {cs : Array Value} {t : TypeId} (hb : Below W.heap.size W W') (h : W.heap[b]? = some (.cells cs t (0, 0))) : W'.heap[b]? = some (.cells cs t (0, 0)) := (hb.block b (tyAt_lt (tyAt_cells h))).trans h
theorem fr_box {B0 : Nat} {W W' : World} {b : Nat} {cs : Array Value} {t : TypeId} (F : Fr B0 W W') (h : W.heap[b]? = some (.cells cs t (0, 0))) (h1 : t ≠ tNet) (h2 : t ≠ tPk) : W'.heap[b]? = some (.cells cs t (0, 0)) :=
  (F.block b (tyAt_lt (tyAt_cells h)) (.inr ⟨by rw [tyAt_cells h]; intro e; exact h1 (Option.some.inj e), by rw [tyAt_cells h]; intro e; exact h2 (Option.some.inj e)⟩)).trans h
theorem Fr.new {B0 : Nat} {w w' : World} (h : Fr B0 w w') {p : Addr} (hp : w.heap.size ≤ p.block) (u : Value) : Fr B0 w (w'.setCell p u) :=
  ⟨h.os, h.tape, h.output, by simpa [World.setCell] using h.size, fun b hb hy => (Below.heap_setCell w' p u b (by rintro rfl; omega)).trans (h.block b hb hy)⟩
theorem NetW.setO {B0 : Nat} {w : World} {g : Nat} {m s l c : Int} {v : Value} {Ps : List Pk} (h : NetW B0 w g m s l c v Ps) {q : Addr} {t : TypeId} (hq : B0 ≤ q.block) (ht : tyAt w q.block = some t) (hne : t ≠ tU8) (hne2 : t ≠ tPk) (hne3 : t ≠ tNet) (u : Value) : NetW B0 (w.setCell q u) g m s l c v Ps :=
  ⟨(Below.heap_setCell w q u g (by
    rintro rfl
    have h1 := h.ty
    rw [ht] at h1
    exact hne3 (Option.some.inj h1))).trans h.blk, own_same h.own (fun k hk => Below.heap_setCell w q u k (by
    rintro rfl
    have h1 := (own_ty h.own _ hk).2
    rw [ht] at h1
    exact hne2 (Option.some.inj h1))), h.hg, fun p hp => ⟨(h.pk p hp).1.setO hq ht hne u, (h.pk p hp).2⟩⟩

/-- What 'does' hands back: the two nets agree. -/
def RetD (B0 g : Nat) (M s c l : Int) (W : World) (e : Ending) (w' : World) : Prop := ∃ (A : Option Addr) (n cap : Nat) (s' c' l' : Int) (Ps' Qs' : List Pk), e = .returned (.tuple #[.agg #[.int .i64 M, .slice A n cap, .int .i64 s', .int .i64 c', .int .i64 l'], .bool true]) ∧ RefW B0 w' (.slice A n cap) Qs' ∧ Ps'.map Pk.key = Qs'.map Pk.key ∧
  (∃ v', NetW B0 w' g M s' l' c' v' Ps') ∧ Fr B0 W w' ∧ (Ps'.length : Int) ≤ M ∧ s ≤ s' ∧ s' ≤ s + 1 ∧ l ≤ l' ∧ l' ≤ l + 1 ∧ c ≤ c' ∧ c' ≤ c + 1

theorem does_close {B0 g b : Nat} {M s c l s' c' l' : Int} {w w5 : World} {A : Option Addr} {n cap : Nat} {Ps' Qs' : List Pk} {v' : Value} (hR : RefW B0 w5 (.slice A n cap) Qs') (hN : NetW B0 w5 g M s' l' c' v' Ps') (hF : Fr B0 w w5) (hO : tyAt w5 b = some tRN) (hb : w.heap.size ≤ b) (hB : B0 ≤ w.heap.size)
    (hK : Ps'.map Pk.key = Qs'.map Pk.key) (hM : (Ps'.length : Int) ≤ M) (h1 : s ≤ s') (h2 : s' ≤ s + 1) (h3 : l ≤ l') (h4 : l' ≤ l + 1) (h5 : c ≤ c') (h6 : c' ≤ c + 1) :
    RetD B0 g M s c l w (.returned (.tuple #[.agg #[.int .i64 M, .slice A n cap, .int .i64 s', .int .i64 c', .int .i64 l'], .bool true])) (((((w5.setCell ⟨b, 0, none⟩ (.int .i64 M)).setCell ⟨b, 1, none⟩ (.slice A n cap)).setCell ⟨b, 2, none⟩ (.int .i64 s')).setCell ⟨b, 3, none⟩ (.int .i64 c')).setCell ⟨b, 4, none⟩ (.int .i64 l')) := by
  have hb0 : B0 ≤ b := by omega
  have d1 : tRN ≠ tU8 := by decide
  have d2 : tRN ≠ tRP := by decide
  have d3 : tRN ≠ tPk := by decide
  have d4 : tRN ≠ tNet := by decide
  refine ⟨A, n, cap, s', c', l', Ps', Qs', rfl, ((((hR.setO (q := ⟨b, 0, none⟩) hb0 hO d1 d2 _).setO (q := ⟨b, 1, none⟩) hb0 (by simp only [tyAt_set]; exact hO) d1 d2 _).setO (q := ⟨b, 2, none⟩) hb0 (by simp only [tyAt_set]; exact hO) d1 d2 _).setO (q := ⟨b, 3, none⟩) hb0 (by simp only [tyAt_set]; exact hO) d1 d2 _).setO (q := ⟨b, 4, none⟩) hb0 (by simp only [tyAt_set]; exact hO) d1 d2 _, hK,
    ⟨v', ((((hN.setO (q := ⟨b, 0, none⟩) hb0 hO d1 d3 d4 _).setO (q := ⟨b, 1, none⟩) hb0 (by simp only [tyAt_set]; exact hO) d1 d3 d4 _).setO (q := ⟨b, 2, none⟩) hb0 (by simp only [tyAt_set]; exact hO) d1 d3 d4 _).setO (q := ⟨b, 3, none⟩) hb0 (by simp only [tyAt_set]; exact hO) d1 d3 d4 _).setO (q := ⟨b, 4, none⟩) hb0 (by simp only [tyAt_set]; exact hO) d1 d3 d4 _⟩,
    ((((hF.new (p := ⟨b, 0, none⟩) hb _).new (p := ⟨b, 1, none⟩) hb _).new (p := ⟨b, 2, none⟩) hb _).new (p := ⟨b, 3, none⟩) hb _).new (p := ⟨b, 4, none⟩) hb _, hM, h1, h2, h3, h4, h5, h6⟩
theorem key_erase {Ps Qs : List Pk} (h : Ps.map Pk.key = Qs.map Pk.key) (k : Nat) : (Ps.eraseIdx k).map Pk.key = (Qs.eraseIdx k).map Pk.key := by
  rw [List.eraseIdx_eq_take_drop_succ, List.eraseIdx_eq_take_drop_succ, List.map_append, List.map_append, List.map_take, List.map_take, List.map_drop, List.map_drop, h]
theorem key_snoc {Ps Qs : List Pk} (h : Ps.map Pk.key = Qs.map Pk.key) {p q : Pk} (hpq : p.key = q.key) : (Ps ++ [p]).map Pk.key = (Qs ++ [q]).map Pk.key := by
  rw [List.map_append, List.map_append, h]
  simp [hpq]
theorem key_set {Ps Qs : List Pk} (h : Ps.map Pk.key = Qs.map Pk.key) {p q : Pk} (hpq : p.key = q.key) (k : Nat) : (Ps.set k p).map Pk.key = (Qs.set k q).map Pk.key := by
  rw [List.map_set, List.map_set, h, hpq]
theorem key_at {Ps Qs : List Pk} (h : Ps.map Pk.key = Qs.map Pk.key) {k : Nat} {p q : Pk} (hp : Ps[k]? = some p) (hq : Qs[k]? = some q) : p.key = q.key := by
  have e := congrArg (fun l => l[k]?) h
  simp only [List.getElem?_map, hp, hq, Option.map_some, Option.some.injEq] at e
  exact e
theorem key_parts {p q : Pk} (h : p.key = q.key) : p.f = q.f ∧ p.t = q.t ∧ p.bs = q.bs := by
  unfold Pk.key at h
  simp only [Prod.mk.injEq] at h
  exact h
end Go.Proofs.Ytoeenaionamhiaa
