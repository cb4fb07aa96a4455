/- Words for the net's memory: which blocks a call of the net may change, and what a packet's bytes read as. -/
import Derived.Test.YtoeenaionamhiaaBase
import Derived.OwnWalk
import Derived.Laws.AppendOwnNone
import Derived.Laws.OwnMore
import Derived.Laws.MakeOwn
set_option linter.unusedSimpArgs false
set_option linter.unusedVariables false
namespace Go.Proofs.Ytoeenaionamhiaa
open Go.RowKit

/-- 'x is 0', asked in a form that the walk's simproc meets only when x has been reckoned: so it holds over any number of new blocks. -/
def lowF (x : Nat) : Bool := decide ((⟨x, 0, none⟩ : Addr) = ⟨0, 0, none⟩)
@[go_sem] theorem lowF_eq (x : Nat) : lowF x = decide ((⟨x, 0, none⟩ : Addr) = ⟨0, 0, none⟩) := rfl
theorem lowF_lt {a b : Nat} (h : lowF (a + 1 - b) = true) : a < b := lo_lt (of_decide_eq_true h)
@[go_sem] theorem cell_past_f (w : World) (o : Obj) (n i : Nat) (h : lowF (n + 1 - w.heap.size) = true) : (w.alloc o).cell? ⟨n, i, none⟩ = w.cell? ⟨n, i, none⟩ := World.cell?_alloc_past (w := w) o n i (lowF_lt h)
@[go_sem] theorem frozen_past_f (w : World) (o : Obj) (n i : Nat) (h : lowF (n + 1 - w.heap.size) = true) : (w.alloc o).frozen? ⟨n, i, none⟩ = w.frozen? ⟨n, i, none⟩ := World.frozen?_alloc_past (w := w) o n i (lowF_lt h)

/-- The type of a block's cells. -/
def tyAt (w : World) (b : Nat) : Option TypeId := match w.heap[b]? with | some (.cells _ t _) => some t | _ => none
theorem tyAt_of {w w' : World} {b : Nat} (h : w'.heap[b]? = w.heap[b]?) : tyAt w' b = tyAt w b := by unfold tyAt; rw [h]
theorem tyAt_cells {w : World} {b : Nat} {cs : Array Value} {t : TypeId} {cur : Nat × Nat} (h : w.heap[b]? = some (.cells cs t cur)) : tyAt w b = some t := by unfold tyAt; rw [h]
theorem tyAt_lt {w : World} {b : Nat} {t : TypeId} (h : tyAt w b = some t) : b < w.heap.size := by
  rcases Nat.lt_or_ge b w.heap.size with h' | h'
  · exact h'
  · unfold tyAt at h; rw [Array.getElem?_eq_none h'] at h; cases h

abbrev tNet : TypeId := 50
abbrev tPk : TypeId := 31
abbrev tU8 : TypeId := 5

/-- What a call of the net may change: nothing below B0, and of what lies above it only blocks of the net's own two kinds. -/
structure Fr (B0 : Nat) (w w' : World) : Prop where
  os : w'.os = w.os
  tape : w'.tape = w.tape
  output : w'.output = w.output
  size : w.heap.size ≤ w'.heap.size
  block : ∀ b, b < w.heap.size → (b < B0 ∨ (tyAt w b ≠ some tNet ∧ tyAt w b ≠ some tPk)) → w'.heap[b]? = w.heap[b]?

theorem Fr.refl (B0 : Nat) (w : World) : Fr B0 w w := ⟨rfl, rfl, rfl, Nat.le_refl _, fun _ _ _ => rfl⟩
theorem Fr.trans {B0 : Nat} {a b c : World} (h : Fr B0 a b) (k : Fr B0 b c) : Fr B0 a c :=
  ⟨k.os.trans h.os, k.tape.trans h.tape, k.output.trans h.output, Nat.le_trans h.size k.size, fun x hx hy => by
    have e := h.block x hx hy
    rw [k.block x (Nat.lt_of_lt_of_le hx h.size) (by rw [tyAt_of e]; exact hy), e]⟩
theorem Fr.of_below {B0 : Nat} {w w' : World} (h : Below w.heap.size w w') : Fr B0 w w' := ⟨h.os, h.tape, h.output, h.size, fun b hb _ => h.block b hb⟩
theorem Fr.below {B0 : Nat} {w w' : World} (h : Fr B0 w w') (hB : B0 ≤ w.heap.size) : Below B0 w w' := ⟨h.os, h.tape, h.output, h.size, fun b hb => h.block b (Nat.lt_of_lt_of_le hb hB) (.inl hb)⟩
theorem Fr.drewN {B0 : Nat} {a w : World} (h : Fr B0 a w) (n : Nat) : Fr B0 a (w.drewN n) := ⟨h.os, h.tape, h.output, h.size, h.block⟩
theorem Fr.drew {B0 : Nat} {a w : World} (h : Fr B0 a w) : Fr B0 a w.drew := ⟨h.os, h.tape, h.output, h.size, h.block⟩
theorem Fr.alloc {B0 : Nat} {a w : World} (h : Fr B0 a w) (o : Obj) : Fr B0 a (w.alloc o) := h.trans (.of_below ((Below.refl _ _).alloc (Nat.le_refl _) o))
theorem fr_set {B0 : Nat} {w : World} {p : Addr} (hp : B0 ≤ p.block) (ht : tyAt w p.block = some tNet ∨ tyAt w p.block = some tPk) (u : Value) : Fr B0 w (w.setCell p u) :=
  ⟨rfl, rfl, rfl, by simp [World.setCell], fun b hb hy => Below.heap_setCell w p u b (by
    rintro rfl
    rcases hy with hy | ⟨h1, h2⟩
    · omega
    · rcases ht with ht | ht
      · exact h1 ht
      · exact h2 ht)⟩
theorem Fr.set {B0 : Nat} {a w : World} (h : Fr B0 a w) {p : Addr} (hp : B0 ≤ p.block) (ht : tyAt w p.block = some tNet ∨ tyAt w p.block = some tPk) (u : Value) : Fr B0 a (w.setCell p u) := h.trans (fr_set hp ht u)
theorem tyAt_set (w : World) (p : Addr) (u : Value) (b : Nat) : tyAt (w.setCell p u) b = tyAt w b := by
  by_cases h : b = p.block
  · subst h
    unfold tyAt World.setCell
    simp only [Array.getElem?_modify]
    cases hh : w.heap[p.block]? with
    | none => simp [hh]
    | some o => cases o <;> simp [hh]
  · exact tyAt_of (Below.heap_setCell w p u b h)
theorem tyAt_alloc {w : World} {b : Nat} (h : b < w.heap.size) (o : Obj) : tyAt (w.alloc o) b = tyAt w b := tyAt_of (Below.heap_alloc w o b h)
theorem ty_new {w : World} {cs : Array Value} {t : TypeId} {b : Nat} (h : b = w.heap.size) : tyAt (w.alloc (.cells cs t)) b = some t := by subst h; exact tyAt_cells (heap_alloc_new w _)
theorem ty_old {w : World} {t : TypeId} {b : Nat} (h : tyAt w b = some t) (o : Obj) : tyAt (w.alloc o) b = some t := (tyAt_alloc (tyAt_lt h) o).trans h
theorem ty_set {w : World} {t : TypeId} {b : Nat} (h : tyAt w b = some t) (p : Addr) (u : Value) : tyAt (w.setCell p u) b = some t := (tyAt_set w p u b).trans h
theorem ty_drew {w : World} {t : TypeId} {b : Nat} (h : tyAt w b = some t) : tyAt w.drew b = some t := h
theorem ty_drewN {w : World} {t : TypeId} {b : Nat} (h : tyAt w b = some t) (n : Nat) : tyAt (w.drewN n) b = some t := h
theorem ty_call {w w' : World} {t : TypeId} {b : Nat} (hb : Below w.heap.size w w') (h : tyAt w b = some t) : tyAt w' b = some t := (tyAt_of (hb.block b (tyAt_lt h))).trans h
theorem Fr.grown {B0 : Nat} {a w w' : World} {row : Option Nat} (h : Fr B0 a w) (hg : w.grownBy w' row) (hr : ∀ k, row = some k → B0 ≤ k ∧ tyAt w k = some tPk) : Fr B0 a w' :=
  h.trans ⟨hg.os, hg.tape, hg.output, hg.size, fun b hb hy => hg.block b hb (by
    rintro e
    have := hr b e.symm
    rcases hy with hy | ⟨h1, h2⟩
    · omega
    · exact h2 this.2)⟩

/-- The finer frame: of the old blocks only one has changed. -/
theorem gb_below {w w' : World} (h : Below w.heap.size w w') (row : Option Nat) : w.grownBy w' row := ⟨h.os, h.tape, h.output, h.size, fun k hk _ => h.block k hk⟩
theorem gb_set {w w' : World} {row : Option Nat} (h : w.grownBy w' row) {p : Addr} (hp : w.heap.size ≤ p.block ∨ row = some p.block) (u : Value) : w.grownBy (w'.setCell p u) row :=
  ⟨h.os, h.tape, h.output, by simpa [World.setCell] using h.size, fun k hk hr => (Below.heap_setCell w' p u k (by
    rintro rfl
    rcases hp with hp | hp
    · omega
    · exact hr hp.symm)).trans (h.block k hk hr)⟩
theorem gb_call {w w' w2 : World} {row : Option Nat} (h : w.grownBy w' row) (hb : Below w'.heap.size w' w2) : w.grownBy w2 row :=
  ⟨hb.os.trans h.os, hb.tape.trans h.tape, hb.output.trans h.output, Nat.le_trans h.size hb.size, fun k hk hr => (hb.block k (Nat.lt_of_lt_of_le hk h.size)).trans (h.block k hk hr)⟩
theorem gb_trans {w w' w2 : World} {row : Option Nat} (h : w.grownBy w' row) (hb : w'.grownBy w2 row) : w.grownBy w2 row :=
  ⟨hb.os.trans h.os, hb.tape.trans h.tape, hb.output.trans h.output, Nat.le_trans h.size hb.size, fun k hk hr => (hb.block k (Nat.lt_of_lt_of_le hk h.size) hr).trans (h.block k hk hr)⟩
theorem gb_mono {w w' w2 : World} {row : Option Nat} (h : Below w.heap.size w w') (hb : w'.grownBy w2 row) : w.grownBy w2 row := gb_trans (gb_below h row) hb
theorem fr_gb {B0 g : Nat} {w w' : World} (h : w.grownBy w' (some g)) (hg : B0 ≤ g) (ht : tyAt w g = some tNet) : Fr B0 w w' :=
  ⟨h.os, h.tape, h.output, h.size, fun b hb hy => h.block b hb (by
    intro e
    injection e with e
    subst e
    rcases hy with hy | ⟨h1, _⟩
    · omega
    · exact h1 ht)⟩
theorem gb_ty {w w' : World} {g b : Nat} {t : TypeId} (h : w.grownBy w' (some g)) (hb : tyAt w b = some t) (hne : b ≠ g) : tyAt w' b = some t :=
  (tyAt_of (h.block b (tyAt_lt hb) (by intro e; injection e with e; exact hne e))).trans hb

theorem block_add (a : Addr) (n : Nat) : (a.add n).block = a.block := by unfold Addr.add; split <;> rfl
theorem add_plain (b off j : Nat) : (⟨b, off, none⟩ : Addr).add j = ⟨b, off + j, none⟩ := by
  unfold Addr.add
  split
  · rename_i h0; subst h0; rfl
  · rfl

/-- A byte's cell. -/
def U8 (x : UInt8) : Value := .int .u8 (x.toNat : Int)

/-- The slice's parts p, n, c read as the bytes L; what lies above B0 is a block of bytes. -/
def RdB (B0 : Nat) (w : World) (p : Option Addr) (n c : Nat) (L : List UInt8) : Prop :=
  L.length = n ∧ n ≤ c ∧ c ≤ maxLen ∧
  ((p = none ∧ n = 0 ∧ c = 0) ∨ ∃ x : Addr, p = some x ∧ (0 < n → x.block < B0 ∨ tyAt w x.block = some tU8) ∧ ∀ j, j < n → w.cell? (x.add j) = some (U8 (L.getD j 0)))

theorem RdB.fr {B0 : Nat} {w w' : World} {p : Option Addr} {n c : Nat} {L : List UInt8} (h : RdB B0 w p n c L) (hf : Fr B0 w w') : RdB B0 w' p n c L := by
  obtain ⟨h1, h2, h3, h4⟩ := h
  refine ⟨h1, h2, h3, ?_⟩
  rcases h4 with h4 | ⟨x, h5, h7, h8⟩
  · exact .inl h4
  · have key : 0 < n → w'.heap[x.block]? = w.heap[x.block]? := fun hn => by
      have hx := World.block_lt_of_cell? w _ (h8 0 hn)
      rw [block_add] at hx
      exact hf.block x.block hx (by
        rcases h7 hn with h7 | h7
        · exact .inl h7
        · exact .inr ⟨by rw [h7]; decide, by rw [h7]; decide⟩)
    refine .inr ⟨x, h5, fun hn => ?_, fun j hj => ?_⟩
    · rw [tyAt_of (key hn)]; exact h7 hn
    · exact (World.cell?_of_block (a := x.add j) (by rw [block_add]; exact key (by omega))).trans (h8 j hj)
theorem RdB.below {B0 : Nat} {w w' : World} {p : Option Addr} {n c : Nat} {L : List UInt8} (h : RdB B0 w p n c L) (hb : Below w.heap.size w w') : RdB B0 w' p n c L := h.fr (.of_below hb)
theorem RdB.nil (B0 : Nat) (w : World) : RdB B0 w none 0 0 [] := ⟨rfl, Nat.le_refl _, Nat.zero_le _, .inl ⟨rfl, rfl, rfl⟩⟩

theorem RdB.of_own {B0 : Nat} {w : World} {base : Nat} {v : Value} {n : Nat} {L : List UInt8} (h : w.ownsRow base tU8 1 v n (L.map U8)) : ∃ p c, v = .slice p n c ∧ RdB B0 w p n c L ∧ ∀ x, p = some x → base ≤ x.block ∧ ∀ k, w.frozen? ⟨x.block, k, none⟩ = false := by
  obtain ⟨hl, h⟩ := h
  have hl' : L.length = n := by simpa using hl
  rcases h with ⟨rfl, rfl⟩ | ⟨g, cap, cur, rfl, hg, hh, hn, hm, hs, ht⟩
  · exact ⟨none, 0, rfl, by have : L = [] := List.eq_nil_of_length_eq_zero hl'; subst this; exact RdB.nil B0 w, fun x hx => by cases hx⟩
  · refine ⟨some ⟨g, 0, none⟩, cap, rfl, ⟨hl', hn, hm, .inr ⟨⟨g, 0, none⟩, rfl, fun _ => .inr (tyAt_cells hh), fun j hj => ?_⟩⟩, fun x hx => by cases hx; exact ⟨hg, fun k => by simp [World.frozen?, hh]⟩⟩
    have hj' : j < L.length := by omega
    have e1 : (cur.toList.take (n * 1))[j]? = some (U8 L[j]) := by rw [ht]; simp [hj']
    have e2 : cur[j]? = some (U8 L[j]) := by
      rw [List.getElem?_take, if_pos (by omega)] at e1
      simpa using e1
    rw [add_plain]
    simp only [World.cell?, hh, Nat.zero_add]
    simp [e2, List.getD, hj']

/-- What reads as at least one byte lies at a plain address. -/
theorem RdB.addr {B0 : Nat} {w : World} {p : Option Addr} {n c : Nat} {L : List UInt8} (h : RdB B0 w p n c L) (hn : 0 < n) : ∃ b off, p = some ⟨b, off, none⟩ ∧ b < w.heap.size ∧ (b < B0 ∨ tyAt w b = some tU8) ∧ ∀ j, j < n → w.cell? ⟨b, off + j, none⟩ = some (U8 (L.getD j 0)) := by
  obtain ⟨_, _, _, ⟨_, h0, _⟩ | ⟨⟨b, off, sp⟩, rfl, h7, h8⟩⟩ := h
  · omega
  · have h0 := h8 0 hn
    have hs : sp = none := by
      cases sp with
      | none => rfl
      | some k =>
        unfold Addr.add World.cell? at h0
        simp at h0
        split at h0 <;> cases h0
    subst hs
    have hx := World.block_lt_of_cell? w _ (h8 0 hn)
    rw [block_add] at hx
    exact ⟨b, off, rfl, hx, h7 hn, fun j hj => by rw [← add_plain]; exact h8 j hj⟩

/-- append(v, src...), v the call's own bytes, src whatever reads as bytes. -/
theorem wpList_append_b {P : Program} (w : World) {ops : Array Oper} {rest : List Oper} {o : Oper} {a : Act} {Q : Exit → Act → World → Prop} (hgd : o.guard = none) (s x : Operand) (t : TypeId)
    (ho : o.op = .call { callee := .builtin .append, args := #[s, x], argTypes := #[t, t] })
    (base B0 : Nat) (e : TypeId) (i : TypeInfo) (ht : P.underlying t = some (.slice e)) (hi : P.info? e = some i) (hz : i.zero = some (.int .u8 0))
    (hsize : i.size = 1) (hby : i.bytes = 1) (v : Value) (n : Nat) (L : List UInt8) (hs : a.eval s = v) (hown : w.ownsRow base e 1 v n (L.map U8))
    (q : Option Addr) (m cap : Nat) (B : List UInt8) (hx : a.eval x = .slice q m cap) (hB : RdB B0 w q m cap B) (h63 : n + m ≤ 1000000) (hbase : base ≤ w.heap.size)
    (h : ∀ v' w', w'.ownsRow base e 1 v' (n + m) ((L ++ B).map U8) → w.grownBy w' v.ownBlock → wpList P ops Q rest (a.put o.dst v') w') : wpList P ops Q (o :: rest) a w := by
  obtain ⟨h1, h2, h3, h5⟩ := hB
  rcases h5 with ⟨rfl, rfl, rfl⟩ | ⟨ad, rfl, h7', h8⟩
  · have : B = [] := List.eq_nil_of_length_eq_zero h1
    subst this
    exact wpList_append_own_none hgd s x t ho base e i 1 ht hi v n (L.map U8) hs hown hx (h v w (by simpa using hown) ⟨rfl, rfl, rfl, Nat.le_refl _, fun _ _ _ => rfl⟩)
  · refine wpList_append_own w hgd s x t ho base e i (.int .u8 0) 1 1 ht hi hz hsize hby rfl (by decide) v n (L.map U8) hs hown ad m cap (B.map U8) hx (by simp [h1]) ?_ ?_ (by unfold maxLen; omega) (by omega) hbase (fun v' w' r1 r2 _ => h v' w' (by simpa using r1) r2)
    · intro j u hj
      have hjl : j < B.length := by
        rcases Nat.lt_or_ge j B.length with h' | h'
        · exact h'
        · simp [h'] at hj
      have hj2 : some (U8 (B.getD j 0)) = some u := by rw [← hj]; simp [List.getD, hjl]
      rw [← hj2]
      exact h8 j (by omega)
    · intro u hu
      simp only [List.mem_map] at hu
      obtain ⟨d, _, rfl⟩ := hu
      rfl

/-- A packet: whence, whither, its slice of bytes and what that reads as. -/
structure Pk where
  f : Int
  t : Int
  A : Option Addr
  n : Nat
  c : Nat
  bs : List UInt8
def Pk.cells (p : Pk) : List Value := [.int .i64 p.f, .int .i64 p.t, .slice p.A p.n p.c]
def Pk.val (p : Pk) : Value := .agg #[.int .i64 p.f, .int .i64 p.t, .slice p.A p.n p.c]
def Pk.ok (B0 : Nat) (w : World) (p : Pk) : Prop := RdB B0 w p.A p.n p.c p.bs ∧ p.n ≤ 300
theorem Pk.ok.fr {B0 : Nat} {w w' : World} {p : Pk} (h : p.ok B0 w) (hf : Fr B0 w w') : p.ok B0 w' := ⟨h.1.fr hf, h.2⟩

/-- The net behind a pointer to block g. -/
structure NetW (B0 : Nat) (w : World) (g : Nat) (m s l c : Int) (v : Value) (Ps : List Pk) : Prop where
  blk : w.heap[g]? = some (.cells #[.int .i64 m, v, .int .i64 s, .int .i64 l, .int .i64 c] tNet (0, 0))
  own : w.ownsRow B0 tPk 3 v Ps.length (Ps.flatMap Pk.cells)
  hg : B0 ≤ g
  pk : ∀ p ∈ Ps, p.ok B0 w

theorem own_ty {w : World} {base : Nat} {e : TypeId} {size : Nat} {v : Value} {n : Nat} {xs : List Value} (h : w.ownsRow base e size v n xs) : ∀ k, v.ownBlock = some k → base ≤ k ∧ tyAt w k = some e := by
  intro k hk
  obtain ⟨_, ⟨rfl, _⟩ | ⟨g, cap, cur, rfl, hg, hh, _⟩⟩ := h
  · cases hk
  · cases hk
    exact ⟨hg, tyAt_cells hh⟩
theorem own_same {w w' : World} {base : Nat} {e : TypeId} {size : Nat} {v : Value} {n : Nat} {xs : List Value} (h : w.ownsRow base e size v n xs) (hs : ∀ k, v.ownBlock = some k → w'.heap[k]? = w.heap[k]?) : w'.ownsRow base e size v n xs := by
  obtain ⟨h1, h2⟩ := h
  refine ⟨h1, ?_⟩
  rcases h2 with h2 | ⟨g, cap, cur, rfl, hg, hh, r⟩
  · exact .inl h2
  · exact .inr ⟨g, cap, cur, rfl, hg, by rw [hs g rfl]; exact hh, r⟩

theorem NetW.lt {B0 : Nat} {w : World} {g : Nat} {m s l c : Int} {v : Value} {Ps : List Pk} (h : NetW B0 w g m s l c v Ps) : g < w.heap.size := tyAt_lt (tyAt_cells h.blk)
theorem NetW.ty {B0 : Nat} {w : World} {g : Nat} {m s l c : Int} {v : Value} {Ps : List Pk} (h : NetW B0 w g m s l c v Ps) : tyAt w g = some tNet := tyAt_cells h.blk
theorem NetW.below {B0 : Nat} {w w' : World} {g : Nat} {m s l c : Int} {v : Value} {Ps : List Pk} (h : NetW B0 w g m s l c v Ps) (hb : Below w.heap.size w w') : NetW B0 w' g m s l c v Ps :=
  ⟨(hb.block g h.lt).trans h.blk, own_same h.own (fun k hk => hb.block k (tyAt_lt (own_ty h.own k hk).2)), h.hg, fun p hp => (h.pk p hp).fr (.of_below hb)⟩
theorem NetW.same {B0 : Nat} {w w' : World} {g : Nat} {m s l c : Int} {v : Value} {Ps : List Pk} (h : NetW B0 w g m s l c v Ps) (hs : w'.heap = w.heap) (ho : w'.os = w.os) (ht : w'.tape = w.tape) (hu : w'.output = w.output) : NetW B0 w' g m s l c v Ps :=
  h.below ⟨ho, ht, hu, by rw [hs]; exact Nat.le_refl _, fun b _ => by rw [hs]⟩
theorem NetW.drewN {B0 : Nat} {w : World} {g : Nat} {m s l c : Int} {v : Value} {Ps : List Pk} (h : NetW B0 w g m s l c v Ps) (n : Nat) : NetW B0 (w.drewN n) g m s l c v Ps := h.same rfl rfl rfl rfl
theorem NetW.cell {B0 : Nat} {w : World} {g : Nat} {m s l c : Int} {v : Value} {Ps : List Pk} (h : NetW B0 w g m s l c v Ps) :
    w.cell? ⟨g, 0, none⟩ = some (.int .i64 m) ∧ w.cell? ⟨g, 1, none⟩ = some v ∧ w.cell? ⟨g, 2, none⟩ = some (.int .i64 s) ∧ w.cell? ⟨g, 3, none⟩ = some (.int .i64 l) ∧ w.cell? ⟨g, 4, none⟩ = some (.int .i64 c) ∧ ∀ i, w.frozen? ⟨g, i, none⟩ = false := by
  have hb := h.blk
  refine ⟨?_, ?_, ?_, ?_, ?_, fun i => ?_⟩
  all_goals simp [World.cell?, World.frozen?, hb]
/-- One of the net's numbers is stored anew. -/
theorem NetW.set {B0 : Nat} {w : World} {g : Nat} {m s l c m' s' l' c' : Int} {v : Value} {Ps : List Pk} (h : NetW B0 w g m s l c v Ps) (i : Nat) (u : Value)
    (he : #[.int .i64 m, v, .int .i64 s, .int .i64 l, .int .i64 c].setIfInBounds i u = #[.int .i64 m', v, .int .i64 s', .int .i64 l', .int .i64 c']) : NetW B0 (w.setCell ⟨g, i, none⟩ u) g m' s' l' c' v Ps := by
  have hf : Fr B0 w (w.setCell ⟨g, i, none⟩ u) := fr_set h.hg (.inl h.ty) u
  refine ⟨?_, own_same h.own (fun k hk => Below.heap_setCell w _ u k ?_), h.hg, fun p hp => (h.pk p hp).fr hf⟩
  · have hb := h.blk
    simp [World.setCell, Array.getElem?_modify, hb]
    simpa using he
  · rintro rfl
    have := (own_ty h.own _ hk).2
    rw [h.ty] at this
    exact absurd this (by decide)
/-- The net's slice is stored anew. -/
theorem NetW.setL {B0 : Nat} {w : World} {g : Nat} {m s l c : Int} {v v' : Value} {Ps' : List Pk} (hb : w.heap[g]? = some (.cells #[.int .i64 m, v, .int .i64 s, .int .i64 l, .int .i64 c] tNet (0, 0))) (hg : B0 ≤ g)
    (hown : w.ownsRow B0 tPk 3 v' Ps'.length (Ps'.flatMap Pk.cells)) (hp : ∀ p ∈ Ps', p.ok B0 w) : NetW B0 (w.setCell ⟨g, 1, none⟩ v') g m s l c v' Ps' := by
  have ht : tyAt w g = some tNet := tyAt_cells hb
  have hf : Fr B0 w (w.setCell ⟨g, 1, none⟩ v') := fr_set hg (.inl ht) v'
  refine ⟨?_, own_same hown (fun k hk => Below.heap_setCell w _ _ k ?_), hg, fun p hq => (hp p hq).fr hf⟩
  · simp [World.setCell, Array.getElem?_modify, hb]
  · rintro rfl
    have := (own_ty hown _ hk).2
    rw [ht] at this
    exact absurd this (by decide)
theorem flat_len (Ps : List Pk) : (Ps.flatMap Pk.cells).length = Ps.length * 3 := by
  induction Ps with
  | nil => rfl
  | cons q Ps ih => rw [List.flatMap_cons, List.length_append, ih, List.length_cons]; show 3 + _ = _; omega
theorem flat_take (Ps : List Pk) : ∀ k, (Ps.take k).flatMap Pk.cells = (Ps.flatMap Pk.cells).take (k * 3) := by
  induction Ps with
  | nil => intro k; simp
  | cons q Ps ih =>
    intro k
    cases k with
    | zero => simp
    | succ k =>
      have hc : q.cells.length = 3 := rfl
      rw [List.take_succ_cons, List.flatMap_cons, List.flatMap_cons, ih, List.take_append, hc, List.take_of_length_le (l := q.cells) (by rw [hc]; omega), show (k + 1) * 3 - 3 = k * 3 by omega]
theorem flat_drop (Ps : List Pk) : ∀ k, (Ps.drop k).flatMap Pk.cells = (Ps.flatMap Pk.cells).drop (k * 3) := by
  induction Ps with
  | nil => intro k; simp
  | cons q Ps ih =>
    intro k
    cases k with
    | zero => simp
    | succ k =>
      have hc : q.cells.length = 3 := rfl
      rw [List.drop_succ_cons, List.flatMap_cons, ih, List.drop_append, hc, List.drop_of_length_le (l := q.cells) (by rw [hc]; omega), show (k + 1) * 3 - 3 = k * 3 by omega, List.nil_append]
theorem flat_one (Ps : List Pk) : ∀ u ∈ Ps.flatMap Pk.cells, u.oneCell' = true := by
  intro u hu
  obtain ⟨p, _, hp⟩ := List.mem_flatMap.1 hu
  simp only [Pk.cells, List.mem_cons, List.not_mem_nil, or_false] at hp
  rcases hp with rfl | rfl | rfl
  all_goals rfl
theorem flat_at (Ps : List Pk) : ∀ (i : Nat) (p : Pk), Ps[i]? = some p → ∀ k, k < 3 → (Ps.flatMap Pk.cells)[i * 3 + k]? = p.cells[k]? := by
  induction Ps with
  | nil => intro i p hp; simp at hp
  | cons q Ps ih =>
    intro i p hp k hk
    have hc : q.cells.length = 3 := rfl
    cases i with
    | zero =>
      simp only [List.getElem?_cons_zero, Option.some.injEq] at hp
      subst hp
      rw [List.flatMap_cons, List.getElem?_append_left (by rw [hc]; omega)]
      congr 1
      omega
    | succ i =>
      rw [List.getElem?_cons_succ] at hp
      rw [List.flatMap_cons, List.getElem?_append_right (by rw [hc]; omega), hc]
      have := ih i p hp k hk
      rw [← this]
      congr 1
      omega
/-- Where the packets' cells lie. -/
theorem NetW.row {B0 : Nat} {w : World} {g : Nat} {m s l c : Int} {v : Value} {Ps : List Pk} (h : NetW B0 w g m s l c v Ps) (hn : 0 < Ps.length) :
    ∃ r cap, v = .slice (some ⟨r, 0, none⟩) Ps.length cap ∧ B0 ≤ r ∧ Ps.length ≤ cap ∧ cap ≤ maxLen ∧ r < w.heap.size ∧ tyAt w r = some tPk ∧ (∀ i, i < cap * 3 → w.frozen? ⟨r, i, none⟩ = false) ∧ ∀ j u, (Ps.flatMap Pk.cells)[j]? = some u → w.cell? ⟨r, j, none⟩ = some u := by
  obtain ⟨hl, ⟨_, h0⟩ | ⟨r, cap, cur, rfl, hg, hh, hn', hm, hs, ht⟩⟩ := h.own
  · omega
  · refine ⟨r, cap, rfl, hg, hn', hm, tyAt_lt (tyAt_cells hh), tyAt_cells hh, fun i _ => by simp [World.frozen?, hh], fun j u hu => ?_⟩
    have hj : j < (Ps.flatMap Pk.cells).length := by
      rcases Nat.lt_or_ge j (Ps.flatMap Pk.cells).length with h' | h'
      · exact h'
      · rw [List.getElem?_eq_none h'] at hu; cases hu
    rw [← ht, List.getElem?_take, if_pos (by omega)] at hu
    simp only [World.cell?, hh]
    simpa using hu
theorem own_mono {w : World} {base base' : Nat} {e : TypeId} {size : Nat} {v : Value} {n : Nat} {xs : List Value} (h : w.ownsRow base' e size v n xs) (hb : base ≤ base') : w.ownsRow base e size v n xs := by
  obtain ⟨h1, h2⟩ := h
  refine ⟨h1, ?_⟩
  rcases h2 with h2 | ⟨g, cap, cur, hv, hg, r⟩
  · exact .inl h2
  · exact .inr ⟨g, cap, cur, hv, by omega, r⟩
/-- A cell of another block of packets is stored. -/
theorem NetW.far {B0 : Nat} {w : World} {g : Nat} {m s l c : Int} {v : Value} {Ps : List Pk} (h : NetW B0 w g m s l c v Ps) {p : Addr} (hp : B0 ≤ p.block) (ht : tyAt w p.block = some tPk) (hne : v.ownBlock ≠ some p.block) (u : Value) : NetW B0 (w.setCell p u) g m s l c v Ps := by
  have hf : Fr B0 w (w.setCell p u) := fr_set hp (.inr ht) u
  refine ⟨?_, own_same h.own (fun k hk => Below.heap_setCell w _ u k ?_), h.hg, fun q hq => (h.pk q hq).fr hf⟩
  · rw [Below.heap_setCell w _ u g (by rintro rfl; rw [h.ty] at ht; exact absurd ht (by decide))]
    exact h.blk
  · rintro rfl
    exact hne hk
end Go.Proofs.Ytoeenaionamhiaa
