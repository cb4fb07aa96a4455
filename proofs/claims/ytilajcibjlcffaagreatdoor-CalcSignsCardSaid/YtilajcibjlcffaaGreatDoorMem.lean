/- Slices of digits in memory: what is read, what is owned, what a call hands back. -/
import Derived.Test.YtilajcibjlcffaaGreatDoorBase
import Derived.Test.YtilajcibjlcffaaGreatDoorDig
import Derived.OwnWalk
import Derived.Laws.AppendOwnNone
import Derived.Laws.OwnMore
import Derived.Laws.MakeOwn
set_option linter.unusedSimpArgs false
set_option linter.unusedVariables false

namespace Go.Proofs.YtilajcibjlcffaaGreatDoor
open Go.RowKit

/-- A slice's length, for a loop's measure. -/
def lenOf : Value → Nat | .slice _ n _ => n | _ => 0

/-- A digit's cell. -/
def U8 (d : Nat) : Value := .int .u8 (d : Int)

/-- The slice's parts p, n, cap read as the digits L. -/
def RdN (w : World) (p : Option Addr) (n cap : Nat) (L : List Nat) : Prop :=
  L.length = n ∧ n ≤ cap ∧ cap ≤ maxLen ∧ (∀ d ∈ L, d < 10) ∧
  ((p = none ∧ n = 0 ∧ cap = 0) ∨ ∃ b off, p = some ⟨b, off, none⟩ ∧ b < w.heap.size ∧ ∀ j, j < n → w.cell? ⟨b, off + j, none⟩ = some (.int .u8 (nth L j : Int)))

theorem RdN.len {w : World} {p : Option Addr} {n cap : Nat} {L : List Nat} (h : RdN w p n cap L) : L.length = n := h.1
theorem RdN.dig {w : World} {p : Option Addr} {n cap : Nat} {L : List Nat} (h : RdN w p n cap L) : ∀ d ∈ L, d < 10 := h.2.2.2.1
theorem RdN.le {w : World} {p : Option Addr} {n cap : Nat} {L : List Nat} (h : RdN w p n cap L) : n ≤ cap := h.2.1
theorem RdN.max {w : World} {p : Option Addr} {n cap : Nat} {L : List Nat} (h : RdN w p n cap L) : cap ≤ maxLen := h.2.2.1

theorem RdN.below {w w' : World} {p : Option Addr} {n cap : Nat} {L : List Nat} (h : RdN w p n cap L) (hb : Below w.heap.size w w') : RdN w' p n cap L := by
  obtain ⟨h1, h2, h3, h4, h5⟩ := h
  refine ⟨h1, h2, h3, h4, ?_⟩
  rcases h5 with h5 | ⟨b, off, h6, h7, h8⟩
  · exact .inl h5
  · exact .inr ⟨b, off, h6, Nat.lt_of_lt_of_le h7 hb.size, fun j hj => (hb.cell (p := ⟨b, off + j, none⟩) h7).trans (h8 j hj)⟩

theorem RdN.nil (w : World) : RdN w none 0 0 [] := ⟨rfl, Nat.le_refl _, Nat.zero_le _, by simp, .inl ⟨rfl, rfl, rfl⟩⟩

/-- The front of what reads. -/
theorem RdN.front {w : World} {p : Option Addr} {n cap : Nat} {L : List Nat} (h : RdN w p n cap L) {k : Nat} (hk : k ≤ n) : RdN w p k cap (L.take k) := by
  obtain ⟨h1, h2, h3, h4, h5⟩ := h
  refine ⟨by simp; omega, by omega, h3, fun d hd => h4 d (List.mem_of_mem_take hd), ?_⟩
  rcases h5 with ⟨h5, h6, h7⟩ | ⟨b, off, h6, h7, h8⟩
  · exact .inl ⟨h5, by omega, h7⟩
  · refine .inr ⟨b, off, h6, h7, fun j hj => ?_⟩
    rw [h8 j (by omega)]
    simp [nth, List.getD, List.getElem?_take, hj]

theorem own_cells {w : World} {base e : Nat} {v : Value} {n : Nat} {L : List Nat} (h : w.ownsRow base e 1 v n (L.map U8)) (hd : ∀ d ∈ L, d < 10) :
    ∃ p cap, v = .slice p n cap ∧ RdN w p n cap L ∧ ∀ x, p = some x → base ≤ x.block := by
  obtain ⟨hl, h⟩ := h
  have hl' : L.length = n := by simpa using hl
  rcases h with ⟨rfl, rfl⟩ | ⟨g, cap, cur, rfl, hg, hh, hn, hm, hs, ht⟩
  · exact ⟨none, 0, rfl, by have : L = [] := List.eq_nil_of_length_eq_zero hl'; subst this; exact RdN.nil w, fun x hx => by cases hx⟩
  · refine ⟨some ⟨g, 0, none⟩, cap, rfl, ⟨hl', hn, hm, hd, .inr ⟨g, 0, rfl, ?_, fun j hj => ?_⟩⟩, fun x hx => by cases hx; exact hg⟩
    · rcases Nat.lt_or_ge g w.heap.size with h' | h'
      · exact h'
      · rw [Array.getElem?_eq_none h'] at hh; cases hh
    · have hj' : j < L.length := by omega
      have e1 : (cur.toList.take (n * 1))[j]? = some (U8 L[j]) := by rw [ht]; simp [hj']
      have e2 : cur[j]? = some (U8 L[j]) := by
        rw [List.getElem?_take, if_pos (by omega)] at e1
        simpa using e1
      simp only [World.cell?, hh, Nat.zero_add]
      simp [e2, U8, nth, List.getD, hj']

theorem news1 (w : World) (v : Value) (t : TypeId) : ∀ j u, [v][j]? = some u → (w.alloc (.cells #[v] t)).cell? ((⟨w.heap.size, 0, none⟩ : Addr).add j) = some u := by
  intro j u hj
  match j, hj with
  | 0, hj => simp at hj; subst hj; simp [Addr.add]
theorem one1 (d : Nat) : ∀ u ∈ [U8 d], u.oneCell' = true := by
  intro u hu
  simp at hu
  subst hu
  rfl

/-- What a call that makes digits hands back: in new memory. -/
def RetN (L : List Nat) (W : World) (e : Ending) (w' : World) : Prop := ∃ p n cap, e = .returned (.slice p n cap) ∧ RdN w' p n cap L ∧ Below W.heap.size W w' ∧ ∀ x, p = some x → W.heap.size ≤ x.block
theorem RetN.of_own {L : List Nat} {W w' : World} {e : Nat} {v : Value} (h : w'.ownsRow W.heap.size e 1 v L.length (L.map U8)) (hd : ∀ d ∈ L, d < 10) (hb : Below W.heap.size W w') : RetN L W (.returned v) w' := by
  obtain ⟨p, cap, rfl, hr, hf⟩ := own_cells h hd
  exact ⟨p, _, cap, rfl, hr, hb, hf⟩
theorem RetN.mk {L : List Nat} {W w' : World} {p : Option Addr} {n cap : Nat} (hr : RdN w' p n cap L) (hb : Below W.heap.size W w') (hf : ∀ x, p = some x → W.heap.size ≤ x.block) : RetN L W (.returned (.slice p n cap)) w' := ⟨p, n, cap, rfl, hr, hb, hf⟩

/-- What Cut hands back: a front of what it was given. -/
def RetC (p : Option Addr) (cap : Nat) (L : List Nat) (W : World) (e : Ending) (w' : World) : Prop := ∃ n, e = .returned (.slice p n cap) ∧ RdN w' p n cap L ∧ W = w'

/-- What the call owns stays owned behind a callee. -/
theorem own_below {w w' : World} {base e size n : Nat} {v : Value} {xs : List Value} (h : w.ownsRow base e size v n xs) (hb : Below w.heap.size w w') : w'.ownsRow base e size v n xs := by
  obtain ⟨h1, h2⟩ := h
  refine ⟨h1, ?_⟩
  rcases h2 with h2 | ⟨g, cap, cur, hv, hg, hh, r⟩
  · exact .inl h2
  · refine .inr ⟨g, cap, cur, hv, hg, ?_, r⟩
    rw [hb.block g (by
      rcases Nat.lt_or_ge g w.heap.size with h' | h'
      · exact h'
      · rw [Array.getElem?_eq_none h'] at hh; cases hh)]
    exact hh

/-- Another block is written: what reads stays. -/
theorem RdN.grown {w w' : World} {row : Option Nat} {p : Option Addr} {n cap : Nat} {L : List Nat} (h : RdN w p n cap L) (hg : w.grownBy w' row) (hne : ∀ x, p = some x → some x.block ≠ row) : RdN w' p n cap L := by
  obtain ⟨h1, h2, h3, h4, h5⟩ := h
  refine ⟨h1, h2, h3, h4, ?_⟩
  rcases h5 with h5 | ⟨b, off, rfl, h7, h8⟩
  · exact .inl h5
  · exact .inr ⟨b, off, rfl, Nat.lt_of_lt_of_le h7 hg.size, fun j hj => by
      exact (World.cell?_of_block (a := ⟨b, off + j, none⟩) (hg.block b h7 (hne _ rfl))).trans (h8 j hj)⟩
theorem RdN.stored {w : World} {p : Option Addr} {n cap : Nat} {L : List Nat} (h : RdN w p n cap L) (a : Addr) (u : Value) (hne : ∀ x, p = some x → x.block ≠ a.block) : RdN (w.setCell a u) p n cap L := by
  obtain ⟨h1, h2, h3, h4, h5⟩ := h
  refine ⟨h1, h2, h3, h4, ?_⟩
  rcases h5 with h5 | ⟨b, off, rfl, h7, h8⟩
  · exact .inl h5
  · exact .inr ⟨b, off, rfl, by simpa [World.setCell] using h7, fun j hj => by
      exact (World.cell?_of_block (a := ⟨b, off + j, none⟩) (Below.heap_setCell w a u b (hne _ rfl))).trans (h8 j hj)⟩
theorem RdN.alloc {w : World} {p : Option Addr} {n cap : Nat} {L : List Nat} (h : RdN w p n cap L) (o : Obj) : RdN (w.alloc o) p n cap L := h.below ((Below.refl _ _).alloc (Nat.le_refl _) o)

theorem made_zeros (n : Nat) : (madeCells #[Value.int .u8 0] (n * 1)).toList = (List.replicate n 0).map U8 := by
  apply List.ext_getElem
  · simp [madeCells]
  · intro i h1 h2
    simp [madeCells, U8, Nat.mod_one]

theorem nth_cell {L : List Nat} {j : Nat} (h : j < L.length) : (L.map U8)[j]? = some (.int .u8 (nth L j : Int)) := by simp [nth, List.getD, h, U8]

/-- append(v, src...), v the call's own, src whatever reads as digits. -/
theorem wpList_append_dig {P : Program} (w : World) {ops : Array Oper} {rest : List Oper} {o : Oper} {a : Act} {Q : Exit → Act → World → Prop} (hgd : o.guard = none) (s x : Operand) (t : TypeId)
    (ho : o.op = .call { callee := .builtin .append, args := #[s, x], argTypes := #[t, t] })
    (base : Nat) (e : TypeId) (i : TypeInfo) (ht : P.underlying t = some (.slice e)) (hi : P.info? e = some i) (hz : i.zero = some (.int .u8 0))
    (hsize : i.size = 1) (hby : i.bytes = 1) (v : Value) (n : Nat) (L : List Nat) (hs : a.eval s = v) (hown : w.ownsRow base e 1 v n (L.map U8))
    (q : Option Addr) (m cap : Nat) (B : List Nat) (hx : a.eval x = .slice q m cap) (hB : RdN w q m cap B) (h63 : n + m ≤ 1000000) (hbase : base ≤ w.heap.size)
    (h : ∀ v' w', w'.ownsRow base e 1 v' (n + m) ((L ++ B).map U8) → w.grownBy w' v.ownBlock → wpList P ops Q rest (a.put o.dst v') w') : wpList P ops Q (o :: rest) a w := by
  obtain ⟨h1, h2, h3, h4, h5⟩ := hB
  rcases h5 with ⟨rfl, rfl, rfl⟩ | ⟨b, off, rfl, h7, h8⟩
  · have : B = [] := List.eq_nil_of_length_eq_zero h1
    subst this
    exact wpList_append_own_none hgd s x t ho base e i 1 ht hi v n (L.map U8) hs hown hx (h v w (by simpa using hown) ⟨rfl, rfl, rfl, Nat.le_refl _, fun _ _ _ => rfl⟩)
  · refine wpList_append_own w hgd s x t ho base e i (.int .u8 0) 1 1 ht hi hz hsize hby rfl (by decide) v n (L.map U8) hs hown ⟨b, off, none⟩ m cap (B.map U8) hx (by simp [h1]) ?_ ?_ (by unfold maxLen; omega) (by omega) hbase (fun v' w' r1 r2 _ => h v' w' (by simpa using r1) r2)
    · intro j u hj
      have hjl : j < B.length := by
        rcases Nat.lt_or_ge j B.length with h' | h'
        · exact h'
        · simp [h'] at hj
      have hj2 : some (Value.int .u8 (nth B j : Int)) = some u := by rw [← hj, nth_cell hjl]
      rw [← hj2]
      have e : (⟨b, off, none⟩ : Addr).add j = ⟨b, off + j, none⟩ := by
        unfold Addr.add
        split
        · rename_i h0; subst h0; rfl
        · rfl
      rw [e]
      exact h8 j (by omega)
    · intro u hu
      simp only [List.mem_map] at hu
      obtain ⟨d, _, rfl⟩ := hu
      rfl
end Go.Proofs.YtilajcibjlcffaaGreatDoor
