/- Blocks of a struct, and calls that change one block alone. No function of the program. Plain laws on decimal digits, the least one first: no program in sight. Slices of digits in memory: what is read, what is owned, what a call hands back. Contracts of strings.Builder's WriteString, WriteByte and String at a builder of the call's own. -/
import Derived.Test.YtjklbbmgjjdalaaGreatDoorBbB
import Derived.Test.YtjklbbmgjjdalaaGreatDoorBbA
import Derived.Lib.SmallJoins
import Derived.WalkKit
import Derived.Test.YtjklbbmgjjdalaaGreatDoorBase
import Derived.OwnWalk
import Derived.Laws.AppendOwnNone
import Derived.Laws.OwnMore
import Derived.Laws.MakeOwn
import Derived.Lib.Builder
set_option linter.unusedSimpArgs false
set_option linter.unusedVariables false
namespace Go.Proofs.YtjklbbmgjjdalaaGreatDoor
open Go.RowKit Go.Joins
def BlkC (w : World) (b : Nat) (cs : Array Value) (t : TypeId) : Prop := w.heap[b]? = some (.cells cs t (0, 0))
theorem BlkC.below {w w' : World} {b : Nat} {cs : Array Value} {t : TypeId} (h : BlkC w b cs t) (hb : Below w.heap.size w w') : BlkC w' b cs t := (hb.block b (lt_some h)).trans h
theorem BlkC.alloc {w : World} {b : Nat} {cs : Array Value} {t : TypeId} (h : BlkC w b cs t) (o : Obj) : BlkC (w.alloc o) b cs t := (Lib.alloc_old w o b (lt_some h)).trans h
theorem BlkC.cell {w : World} {b : Nat} {cs : Array Value} {t : TypeId} (h : BlkC w b cs t) (j : Nat) (u : Value) (hj : cs[j]? = some u) : w.cell? ⟨b, j, none⟩ = some u := by rw [cell_of_block h]; exact hj
theorem BlkC.fz {w : World} {b : Nat} {cs : Array Value} {t : TypeId} (h : BlkC w b cs t) (j : Nat) : w.frozen? ⟨b, j, none⟩ = false := unfrozen_of_block h j
theorem blk_new (w : World) (cs : Array Value) (t : TypeId) : BlkC (w.alloc (.cells cs t)) w.heap.size cs t := heap_alloc_new w _
structure Off (b : Nat) (w w' : World) : Prop where
  os : w'.os = w.os
  tape : w'.tape = w.tape
  output : w'.output = w.output
  size : w.heap.size ≤ w'.heap.size
  block : ∀ k, k < w.heap.size → k ≠ b → w'.heap[k]? = w.heap[k]?
theorem Off.refl (b : Nat) (w : World) : Off b w w := ⟨rfl, rfl, rfl, Nat.le_refl _, fun _ _ _ => rfl⟩
theorem Off.trans {b : Nat} {w w1 w2 : World} (h : Off b w w1) (h' : Off b w1 w2) : Off b w w2 :=
  ⟨h'.os.trans h.os, h'.tape.trans h.tape, h'.output.trans h.output, Nat.le_trans h.size h'.size, fun k hk hn => (h'.block k (Nat.lt_of_lt_of_le hk h.size) hn).trans (h.block k hk hn)⟩
theorem Off.of_below {b : Nat} {w w' : World} (h : Below w.heap.size w w') : Off b w w' := ⟨h.os, h.tape, h.output, h.size, fun k hk _ => h.block k hk⟩
theorem Off.call {b : Nat} {w w1 w2 : World} (h : Off b w w1) (h' : Below w1.heap.size w1 w2) : Off b w w2 := h.trans (Off.of_below h')
theorem Off.set {b : Nat} {w w' : World} (h : Off b w w') (j : Nat) (u : Value) : Off b w (w'.setCell ⟨b, j, none⟩ u) :=
  h.trans ⟨rfl, rfl, rfl, by simp [World.setCell], fun k _ hn => Below.heap_setCell w' _ u k (fun e => hn e)⟩
theorem Off.drewN {b : Nat} {w w' : World} (h : Off b w w') (n : Nat) : Off b w (w'.drewN n) := ⟨h.os, h.tape, h.output, h.size, h.block⟩
theorem Off.alloc {b : Nat} {w w' : World} (h : Off b w w') (o : Obj) : Off b w (w'.alloc o) := h.call ((Below.refl _ _).alloc (Nat.le_refl _) o)
theorem Off.below {b : Nat} {w w' : World} (h : Off b w w') {B : Nat} (hb : B ≤ b) (hB : B ≤ w.heap.size) : Below B w w' :=
  ⟨h.os, h.tape, h.output, h.size, fun k hk => h.block k (by omega) (by omega)⟩
theorem Off.blk {b k : Nat} {w w' : World} (h : Off b w w') {o : Obj} (hk : k ≠ b) (hc : w.heap[k]? = some o) : w'.heap[k]? = some o := (h.block k (lt_some hc) hk).trans hc
theorem Off.set_new {b k : Nat} {w w' : World} (h : Off b w w') (hk : w.heap.size ≤ k) (j : Nat) (u : Value) : Off b w (w'.setCell ⟨k, j, none⟩ u) :=
  ⟨h.os, h.tape, h.output, by simpa [World.setCell] using h.size, fun c hc hn => (Below.heap_setCell w' ⟨k, j, none⟩ u c (by show c ≠ k; omega)).trans (h.block c hc hn)⟩
theorem Off.set_cells {b k : Nat} {w w' : World} (h : Off b w w') (hk : w.heap.size ≤ k) (j : Nat) (vs : List Value) : Off b w (w'.setCells k j vs) :=
  have hb := store_below (B := w.heap.size) (b := k) hk vs j w' (Below.refl _ _)
  ⟨hb.os.trans h.os, hb.tape.trans h.tape, hb.output.trans h.output, Nat.le_trans h.size hb.size, fun c hc hn => (hb.block c hc).trans (h.block c hc hn)⟩
structure KeptO (b : Nat) (w : World) where
  v : World
  h : Off b w v
instance (b : Nat) (w : World) : Nonempty (KeptO b w) := ⟨⟨w, Off.refl _ _⟩⟩
theorem Off.cell {b : Nat} {w w' : World} (h : Off b w w') {k o : Nat} {u : Value} (hk : k ≠ b) (hc : w.cell? ⟨k, o, none⟩ = some u) : w'.cell? ⟨k, o, none⟩ = some u := by
  rw [← hc]
  unfold World.cell?
  rw [h.block k (lt_of_cell hc) hk]
theorem KeptO.cell {b : Nat} {w : World} {k o : Nat} {u : Value} (hk : k ≠ b) (hc : w.cell? ⟨k, o, none⟩ = some u) : ∀ x : KeptO b w, x.v.cell? ⟨k, o, none⟩ = some u := fun x => x.h.cell hk hc
theorem keptO_drew (b : Nat) (w : World) : ∃ x : KeptO b w, w.drew = x.v := ⟨⟨w.drew, Off.of_below (Below.drew (Below.refl _ _))⟩, rfl⟩
end Go.Proofs.YtjklbbmgjjdalaaGreatDoor
namespace Go.Proofs.YtjklbbmgjjdalaaGreatDoor
def dval : List Nat → Nat
  | [] => 0
  | d :: r => d + 10 * dval r
def digsF : Nat → Nat → List Nat
  | 0, _ => []
  | f + 1, n => if n = 0 then [] else n % 10 :: digsF f (n / 10)
def digs (n : Nat) : List Nat := digsF (n + 1) n
theorem digsF_any : ∀ (f g n : Nat), n < f → n < g → digsF f n = digsF g n
  | 0, _, _, h, _ => by omega
  | _, 0, _, _, h => by omega
  | f + 1, g + 1, n, hf, hg => by
    simp only [digsF]
    by_cases h : n = 0
    · simp [h]
    · simp only [h, if_false]
      rw [digsF_any f g (n / 10) (by omega) (by omega)]
theorem digs_zero : digs 0 = [] := rfl
theorem digs_pos {n : Nat} (h : n ≠ 0) : digs n = n % 10 :: digs (n / 10) := by
  show digsF (n + 1) n = _ :: digsF (n / 10 + 1) (n / 10)
  rw [digsF, if_neg h, digsF_any n (n / 10 + 1) (n / 10) (by omega) (by omega)]
theorem digs_cons (d n : Nat) (hd : d < 10) (h : d + 10 * n ≠ 0) : digs (d + 10 * n) = d :: digs n := by
  rw [digs_pos h]
  have e1 : (d + 10 * n) % 10 = d := by omega
  have e2 : (d + 10 * n) / 10 = n := by omega
  rw [e1, e2]
theorem dval_digsF : ∀ (f n : Nat), n < f → dval (digsF f n) = n
  | 0, _, h => by omega
  | f + 1, n, h => by
    simp only [digsF]
    by_cases h0 : n = 0
    · simp [h0, dval]
    · simp only [h0, if_false, dval]
      rw [dval_digsF f (n / 10) (by omega)]
      omega
theorem dval_digs (n : Nat) : dval (digs n) = n := dval_digsF _ _ (by omega)
theorem digsF_lt : ∀ (f n : Nat), ∀ d ∈ digsF f n, d < 10
  | 0, _, d, h => by simp [digsF] at h
  | f + 1, n, d, h => by
    simp only [digsF] at h
    split at h
    · simp at h
    · rcases List.mem_cons.1 h with rfl | h
      · omega
      · exact digsF_lt f _ d h
theorem digs_lt (n : Nat) : ∀ d ∈ digs n, d < 10 := digsF_lt _ _
theorem digs_dval : ∀ (L : List Nat), (∀ d ∈ L, d < 10) → L.getLast? ≠ some 0 → digs (dval L) = L
  | [], _, _ => rfl
  | d :: r, h, hl => by
    have hd := h d (by simp)
    have hr : ∀ x ∈ r, x < 10 := fun x hx => h x (by simp [hx])
    cases r with
    | nil =>
      have h0 : d ≠ 0 := by intro e; simp [e] at hl
      have := digs_cons d 0 hd (by omega)
      simpa [dval, digs_zero] using this
    | cons y t =>
      have hl' : (y :: t).getLast? ≠ some 0 := by simpa [List.getLast?_cons_cons] using hl
      have ih := digs_dval (y :: t) hr hl'
      have hne : dval (y :: t) ≠ 0 := by
        intro e
        rw [e] at ih
        simp [digs_zero] at ih
      show digs (d + 10 * dval (y :: t)) = _
      rw [digs_cons d _ hd (by omega), ih]
theorem digsF_last : ∀ (f n : Nat), n < f → (digsF f n).getLast? ≠ some 0
  | 0, _, h => by omega
  | f + 1, n, h => by
    simp only [digsF]
    by_cases h0 : n = 0
    · simp [h0]
    · simp only [h0, if_false]
      by_cases h1 : n / 10 = 0
      · have : digsF f (n / 10) = [] := by cases f <;> simp [digsF, h1]
        rw [this]
        simp
        omega
      · have ih := digsF_last f (n / 10) (by omega)
        have hne : digsF f (n / 10) ≠ [] := by
          intro e
          have := dval_digsF f (n / 10) (by omega)
          rw [e] at this
          simp [dval] at this
          omega
        cases he : digsF f (n / 10) with
        | nil => exact (hne he).elim
        | cons y t => rw [List.getLast?_cons_cons, ← he]; exact ih
theorem digs_last (n : Nat) : (digs n).getLast? ≠ some 0 := digsF_last _ _ (by omega)
theorem dval_append : ∀ (a b : List Nat), dval (a ++ b) = dval a + 10 ^ a.length * dval b
  | [], b => by simp [dval]
  | d :: r, b => by
    simp only [List.cons_append, dval, dval_append r b, List.length_cons, Nat.pow_succ]
    rw [Nat.mul_add, Nat.mul_comm (10 ^ r.length) 10, Nat.mul_assoc]
    omega
theorem dval_concat (a : List Nat) (d : Nat) : dval (a ++ [d]) = dval a + 10 ^ a.length * d := by
  rw [dval_append]; simp [dval]
theorem dval_lt : ∀ (L : List Nat), (∀ d ∈ L, d < 10) → dval L < 10 ^ L.length
  | [], _ => by simp [dval]
  | d :: r, h => by
    have hd := h d (by simp)
    have ih := dval_lt r (fun x hx => h x (by simp [hx]))
    simp only [dval, List.length_cons, Nat.pow_succ]
    omega
theorem dval_take (L : List Nat) (i : Nat) : dval (L.take (i + 1)) = dval (L.take i) + 10 ^ i * L.getD i 0 := by
  by_cases h : i < L.length
  · rw [List.take_succ_eq_append_getElem h, dval_concat]
    simp [List.length_take, Nat.min_eq_left (Nat.le_of_lt h), List.getD, List.getElem?_eq_getElem h]
  · rw [List.take_of_length_le (by omega), List.take_of_length_le (by omega)]
    simp [List.getD, List.getElem?_eq_none (by omega : L.length ≤ i)]
theorem dval_drop (L : List Nat) (i : Nat) (h : i < L.length) : dval (L.drop i) = L.getD i 0 + 10 * dval (L.drop (i + 1)) := by
  rw [List.drop_eq_getElem_cons h]
  simp [dval, List.getD, List.getElem?_eq_getElem h]
theorem getD_lt {L : List Nat} (h : ∀ d ∈ L, d < 10) (i : Nat) : L.getD i 0 < 10 := by
  by_cases hi : i < L.length
  · simp only [List.getD, List.getElem?_eq_getElem hi, Option.getD_some]
    exact h _ (List.getElem_mem hi)
  · simp [List.getD, List.getElem?_eq_none (by omega : L.length ≤ i)]
theorem digs_front (L : List Nat) (n : Nat) (hL : ∀ d ∈ L, d < 10) (hn : n ≤ L.length) (hz : ∀ j, n ≤ j → L.getD j 0 = 0) (hl : n = 0 ∨ L.getD (n - 1) 0 ≠ 0) : L.take n = digs (dval L) := by
  have hd : dval L = dval (L.take n) := by
    have key : ∀ k, dval (L.take (n + k)) = dval (L.take n) := by
      intro k
      induction k with
      | zero => rfl
      | succ k ih => rw [← Nat.add_assoc, dval_take, hz (n + k) (by omega), ih]; simp
    have := key (L.length - n)
    rw [show n + (L.length - n) = L.length from by omega, List.take_length] at this
    exact this
  rw [hd, digs_dval _ (fun d h => hL d (List.mem_of_mem_take h))]
  rcases hl with rfl | hl
  · simp
  · by_cases h0 : n = 0
    · subst h0; simp
    · have hlt : n - 1 < L.length := by omega
      have e : L.take n = L.take (n - 1) ++ [L[n - 1]] := by
        conv => lhs; rw [show n = n - 1 + 1 from by omega]
        rw [List.take_succ_eq_append_getElem hlt]
      rw [e, List.getLast?_concat]
      simp only [List.getD, List.getElem?_eq_getElem hlt, Option.getD_some] at hl
      intro h
      exact hl (Option.some.inj h)
theorem digs_length_le {n k : Nat} (h : n < 10 ^ k) : (digs n).length ≤ k := by
  rcases Nat.lt_or_ge k (digs n).length with hlt | hge
  · exfalso
    have hne : digs n ≠ [] := by intro e; rw [e] at hlt; simp at hlt
    have h1 := dval_append (digs n).dropLast [(digs n).getLast hne]
    rw [List.dropLast_concat_getLast hne, dval_digs] at h1
    have h2 : (digs n).getLast hne ≠ 0 := by
      intro e
      exact digs_last n (by rw [List.getLast?_eq_some_getLast hne, e])
    have h3 : 10 ^ k ≤ 10 ^ (digs n).dropLast.length := Nat.pow_le_pow_right (by omega) (by simp; omega)
    simp only [dval] at h1
    have h4 : 10 ^ (digs n).dropLast.length ≤ 10 ^ (digs n).dropLast.length * ((digs n).getLast hne + 10 * 0) := Nat.le_mul_of_pos_right _ (by omega)
    omega
  · exact hge
theorem digs_nil {n : Nat} : digs n = [] ↔ n = 0 := by
  constructor
  · intro h
    have := dval_digs n
    rw [h] at this
    simpa [dval] using this.symm
  · rintro rfl; rfl
theorem digs_len_lt {a b : Nat} (h : (digs a).length < (digs b).length) : a < b := by
  rcases Nat.lt_or_ge a b with h1 | h1
  · exact h1
  · exfalso
    have h2 := dval_lt (digs a) (digs_lt a)
    rw [dval_digs] at h2
    have := digs_length_le (n := b) (k := (digs a).length) (by omega)
    omega
theorem dval_less : ∀ (A B : List Nat) (i : Nat), (∀ d ∈ A, d < 10) → (∀ d ∈ B, d < 10) → A.length = B.length → A.drop (i + 1) = B.drop (i + 1) → A.getD i 0 < B.getD i 0 → dval A < dval B
  | [], B, i, _, _, hl, _, h => by
    have : B = [] := List.eq_nil_of_length_eq_zero (by simpa using hl.symm)
    subst this
    simp at h
  | a :: A, [], i, _, _, hl, _, h => by simp at hl
  | a :: A, b :: B, 0, hA, hB, hl, hd, h => by
    simp at hd h
    subst hd
    simp only [dval]
    omega
  | a :: A, b :: B, i + 1, hA, hB, hl, hd, h => by
    have ha := hA a (by simp)
    have ih := dval_less A B i (fun d h => hA d (by simp [h])) (fun d h => hB d (by simp [h])) (by simpa using hl) (by simpa using hd) (by simpa using h)
    simp only [dval]
    omega
def nth (L : List Nat) (j : Nat) : Nat := L.getD j 0
theorem nth_lt {L : List Nat} (h : ∀ d ∈ L, d < 10) (i : Nat) : nth L i < 10 := getD_lt h i
end Go.Proofs.YtjklbbmgjjdalaaGreatDoor
namespace Go.Proofs.YtjklbbmgjjdalaaGreatDoor
open Go.RowKit
def lenOf : Value → Nat | .slice _ n _ => n | _ => 0
def U8 (d : Nat) : Value := .int .u8 (d : Int)
def RdN (w : World) (p : Option Addr) (n cap : Nat) (L : List Nat) : Prop :=
  L.length = n ∧ n ≤ cap ∧ cap ≤ maxLen ∧ (∀ d ∈ L, d < 10) ∧
  ((p = none ∧ n = 0 ∧ cap = 0) ∨ ∃ b off, p = some ⟨b, off, none⟩ ∧ b < w.heap.size ∧ ∀ j, j < n → w.cell? ⟨b, off + j, none⟩ = some (.int .u8 (nth L j : Int)))
theorem RdN.len {w : World} {p : Option Addr} {n cap : Nat} {L : List Nat} (h : RdN w p n cap L) : L.length = n := h.1
theorem RdN.dig {w : World} {p : Option Addr} {n cap : Nat} {L : List Nat} (h : RdN w p n cap L) : ∀ d ∈ L, d < 10 := h.2.2.2.1
theorem RdN.le {w : World} {p : Option Addr} {n cap : Nat} {L : List Nat} (h : RdN w p n cap L) : n ≤ cap := h.2.1
theorem RdN.max {w : World} {p : Option Addr} {n cap : Nat} {L : List Nat} (h : RdN w p n cap L) : cap ≤ maxLen := h.2.2.1
theorem RdN.below {w w' : World} {p : Option Addr} {n cap : Nat} {L : List Nat} (h : RdN w p n cap L) (hb : Below w.heap.size w w') : RdN w' p n cap L := by
  obtain ⟨h1, h2, h3, h4, h5⟩ := h
  refine ⟨h1, h2, h3, h4, ?_⟩
  rcases h5 with h5 | ⟨b, off, h6, h7, h8⟩
  · exact .inl h5
  · exact .inr ⟨b, off, h6, Nat.lt_of_lt_of_le h7 hb.size, fun j hj => (hb.cell (p := ⟨b, off + j, none⟩) h7).trans (h8 j hj)⟩
theorem RdN.nil (w : World) : RdN w none 0 0 [] := ⟨rfl, Nat.le_refl _, Nat.zero_le _, by simp, .inl ⟨rfl, rfl, rfl⟩⟩
theorem RdN.front {w : World} {p : Option Addr} {n cap : Nat} {L : List Nat} (h : RdN w p n cap L) {k : Nat} (hk : k ≤ n) : RdN w p k cap (L.take k) := by
  obtain ⟨h1, h2, h3, h4, h5⟩ := h
  refine ⟨by simp; omega, by omega, h3, fun d hd => h4 d (List.mem_of_mem_take hd), ?_⟩
  rcases h5 with ⟨h5, h6, h7⟩ | ⟨b, off, h6, h7, h8⟩
  · exact .inl ⟨h5, by omega, h7⟩
  · refine .inr ⟨b, off, h6, h7, fun j hj => ?_⟩
    rw [h8 j (by omega)]
    simp [nth, List.getD, List.getElem?_take, hj]
theorem own_cells {w : World} {base e : Nat} {v : Value} {n : Nat} {L : List Nat} (h : w.ownsRow base e 1 v n (L.map U8)) (hd : ∀ d ∈ L, d < 10) :
    ∃ p cap, v = .slice p n cap ∧ RdN w p n cap L ∧ ∀ x, p = some x → base ≤ x.block := by
  obtain ⟨hl, h⟩ := h
  have hl' : L.length = n := by simpa using hl
  rcases h with ⟨rfl, rfl⟩ | ⟨g, cap, cur, rfl, hg, hh, hn, hm, hs, ht⟩
  · exact ⟨none, 0, rfl, by have : L = [] := List.eq_nil_of_length_eq_zero hl'; subst this; exact RdN.nil w, fun x hx => by cases hx⟩
  · refine ⟨some ⟨g, 0, none⟩, cap, rfl, ⟨hl', hn, hm, hd, .inr ⟨g, 0, rfl, ?_, fun j hj => ?_⟩⟩, fun x hx => by cases hx; exact hg⟩
    · rcases Nat.lt_or_ge g w.heap.size with h' | h'
      · exact h'
      · rw [Array.getElem?_eq_none h'] at hh; cases hh
    · have hj' : j < L.length := by omega
      have e1 : (cur.toList.take (n * 1))[j]? = some (U8 L[j]) := by rw [ht]; simp [hj']
      have e2 : cur[j]? = some (U8 L[j]) := by
        rw [List.getElem?_take, if_pos (by omega)] at e1
        simpa using e1
      simp only [World.cell?, hh, Nat.zero_add]
      simp [e2, U8, nth, List.getD, hj']
theorem news1 (w : World) (v : Value) (t : TypeId) : ∀ j u, [v][j]? = some u → (w.alloc (.cells #[v] t)).cell? ((⟨w.heap.size, 0, none⟩ : Addr).add j) = some u := by
  intro j u hj
  match j, hj with
  | 0, hj => simp at hj; subst hj; simp [Addr.add]
theorem one1 (d : Nat) : ∀ u ∈ [U8 d], u.oneCell' = true := by
  intro u hu
  simp at hu
  subst hu
  rfl
def RetN (L : List Nat) (W : World) (e : Ending) (w' : World) : Prop := ∃ p n cap, e = .returned (.slice p n cap) ∧ RdN w' p n cap L ∧ Below W.heap.size W w' ∧ ∀ x, p = some x → W.heap.size ≤ x.block
theorem RetN.of_own {L : List Nat} {W w' : World} {e : Nat} {v : Value} (h : w'.ownsRow W.heap.size e 1 v L.length (L.map U8)) (hd : ∀ d ∈ L, d < 10) (hb : Below W.heap.size W w') : RetN L W (.returned v) w' := by
  obtain ⟨p, cap, rfl, hr, hf⟩ := own_cells h hd
  exact ⟨p, _, cap, rfl, hr, hb, hf⟩
theorem RetN.mk {L : List Nat} {W w' : World} {p : Option Addr} {n cap : Nat} (hr : RdN w' p n cap L) (hb : Below W.heap.size W w') (hf : ∀ x, p = some x → W.heap.size ≤ x.block) : RetN L W (.returned (.slice p n cap)) w' := ⟨p, n, cap, rfl, hr, hb, hf⟩
def RetC (p : Option Addr) (cap : Nat) (L : List Nat) (W : World) (e : Ending) (w' : World) : Prop := ∃ n, e = .returned (.slice p n cap) ∧ RdN w' p n cap L ∧ W = w'
theorem own_below {w w' : World} {base e size n : Nat} {v : Value} {xs : List Value} (h : w.ownsRow base e size v n xs) (hb : Below w.heap.size w w') : w'.ownsRow base e size v n xs := by
  obtain ⟨h1, h2⟩ := h
  refine ⟨h1, ?_⟩
  rcases h2 with h2 | ⟨g, cap, cur, hv, hg, hh, r⟩
  · exact .inl h2
  · refine .inr ⟨g, cap, cur, hv, hg, ?_, r⟩
    rw [hb.block g (by
      rcases Nat.lt_or_ge g w.heap.size with h' | h'
      · exact h'
      · rw [Array.getElem?_eq_none h'] at hh; cases hh)]
    exact hh
theorem RdN.grown {w w' : World} {row : Option Nat} {p : Option Addr} {n cap : Nat} {L : List Nat} (h : RdN w p n cap L) (hg : w.grownBy w' row) (hne : ∀ x, p = some x → some x.block ≠ row) : RdN w' p n cap L := by
  obtain ⟨h1, h2, h3, h4, h5⟩ := h
  refine ⟨h1, h2, h3, h4, ?_⟩
  rcases h5 with h5 | ⟨b, off, rfl, h7, h8⟩
  · exact .inl h5
  · exact .inr ⟨b, off, rfl, Nat.lt_of_lt_of_le h7 hg.size, fun j hj => by
      exact (World.cell?_of_block (a := ⟨b, off + j, none⟩) (hg.block b h7 (hne _ rfl))).trans (h8 j hj)⟩
theorem RdN.stored {w : World} {p : Option Addr} {n cap : Nat} {L : List Nat} (h : RdN w p n cap L) (a : Addr) (u : Value) (hne : ∀ x, p = some x → x.block ≠ a.block) : RdN (w.setCell a u) p n cap L := by
  obtain ⟨h1, h2, h3, h4, h5⟩ := h
  refine ⟨h1, h2, h3, h4, ?_⟩
  rcases h5 with h5 | ⟨b, off, rfl, h7, h8⟩
  · exact .inl h5
  · exact .inr ⟨b, off, rfl, by simpa [World.setCell] using h7, fun j hj => by
      exact (World.cell?_of_block (a := ⟨b, off + j, none⟩) (Below.heap_setCell w a u b (hne _ rfl))).trans (h8 j hj)⟩
theorem RdN.alloc {w : World} {p : Option Addr} {n cap : Nat} {L : List Nat} (h : RdN w p n cap L) (o : Obj) : RdN (w.alloc o) p n cap L := h.below ((Below.refl _ _).alloc (Nat.le_refl _) o)
theorem nth_cell {L : List Nat} {j : Nat} (h : j < L.length) : (L.map U8)[j]? = some (.int .u8 (nth L j : Int)) := by simp [nth, List.getD, h, U8]
theorem wpList_append_dig {P : Program} (w : World) {ops : Array Oper} {rest : List Oper} {o : Oper} {a : Act} {Q : Exit → Act → World → Prop} (hgd : o.guard = none) (s x : Operand) (t : TypeId)
    (ho : o.op = .call { callee := .builtin .append, args := #[s, x], argTypes := #[t, t] })
    (base : Nat) (e : TypeId) (i : TypeInfo) (ht : P.underlying t = some (.slice e)) (hi : P.info? e = some i) (hz : i.zero = some (.int .u8 0))
    (hsize : i.size = 1) (hby : i.bytes = 1) (v : Value) (n : Nat) (L : List Nat) (hs : a.eval s = v) (hown : w.ownsRow base e 1 v n (L.map U8))
    (q : Option Addr) (m cap : Nat) (B : List Nat) (hx : a.eval x = .slice q m cap) (hB : RdN w q m cap B) (h63 : n + m ≤ 1000000) (hbase : base ≤ w.heap.size)
    (h : ∀ v' w', w'.ownsRow base e 1 v' (n + m) ((L ++ B).map U8) → w.grownBy w' v.ownBlock → wpList P ops Q rest (a.put o.dst v') w') : wpList P ops Q (o :: rest) a w := by
  obtain ⟨h1, h2, h3, h4, h5⟩ := hB
  rcases h5 with ⟨rfl, rfl, rfl⟩ | ⟨b, off, rfl, h7, h8⟩
  · have : B = [] := List.eq_nil_of_length_eq_zero h1
    subst this
    exact wpList_append_own_none hgd s x t ho base e i 1 ht hi v n (L.map U8) hs hown hx (h v w (by simpa using hown) ⟨rfl, rfl, rfl, Nat.le_refl _, fun _ _ _ => rfl⟩)
  · refine wpList_append_own w hgd s x t ho base e i (.int .u8 0) 1 1 ht hi hz hsize hby rfl (by decide) v n (L.map U8) hs hown ⟨b, off, none⟩ m cap (B.map U8) hx (by simp [h1]) ?_ ?_ (by unfold maxLen; omega) (by omega) hbase (fun v' w' r1 r2 _ => h v' w' (by simpa using r1) r2)
    · intro j u hj
      have hjl : j < B.length := by
        rcases Nat.lt_or_ge j B.length with h' | h'
        · exact h'
        · simp [h'] at hj
      have hj2 : some (Value.int .u8 (nth B j : Int)) = some u := by rw [← hj, nth_cell hjl]
      rw [← hj2]
      have e : (⟨b, off, none⟩ : Addr).add j = ⟨b, off + j, none⟩ := by
        unfold Addr.add
        split
        · rename_i h0; subst h0; rfl
        · rfl
      rw [e]
      exact h8 j (by omega)
    · intro u hu
      simp only [List.mem_map] at hu
      obtain ⟨d, _, rfl⟩ := hu
      rfl
end Go.Proofs.YtjklbbmgjjdalaaGreatDoor
namespace Go.Proofs.YtjklbbmgjjdalaaGreatDoor
open Go.RowKit
abbrev tBd : TypeId := 145
theorem info_bd : (Tryz.prog.info? 145).map (fun i => i.size) = some 2 := by kernel_rfl
theorem lies_bd : liesAt Tryz.prog Tryz.prog.depth 145 (2 / Tryz.prog.cellsOf 145) 0 145 1 = true := by kernel_rfl
theorem info_u8b : (Tryz.prog.info? 5).map (fun i => (i.zero, i.size, i.bytes)) = some (some (.int .u8 0), 1, 1) := by kernel_rfl
set_option maxHeartbeats 1000000 in
set_option maxRecDepth 100000 in
theorem copyCheck_used (b : Nat) (w : World) (h0 : w.cell? ⟨b, 0, none⟩ = some (.pointer (some ⟨b, 0, none⟩))) :
    Calls Tryz.prog 115 #[.pointer (some ⟨b, 0, none⟩)] w fun e w' => e = .returned (.tuple #[]) ∧ w' = w := by
  obtain ⟨j, hj, _⟩ := Option.map_eq_some_iff.1 info_bd
  go_enter Tryz.func115, Tryz.ntmps115
  go_wp2
  rw [Lib.run_neq_ptr_same w _ Tryz.underlying143 hj]
  go_wp2
  go_end0
  exact ⟨rfl, rfl⟩
set_option maxHeartbeats 1000000 in
set_option maxRecDepth 100000 in
theorem copyCheck_fresh (b : Nat) (w : World) (h0 : w.cell? ⟨b, 0, none⟩ = some (.pointer none)) (hsh : w.shape? b = some (tBd, 2)) (hfz : w.frozen? ⟨b, 0, none⟩ = false) :
    Calls Tryz.prog 115 #[.pointer (some ⟨b, 0, none⟩)] w fun e w' => e = .returned (.tuple #[]) ∧ w' = w.setCell ⟨b, 0, none⟩ (.pointer (some ⟨b, 0, none⟩)) := by
  obtain ⟨j, hj, hjs⟩ := Option.map_eq_some_iff.1 info_bd
  go_enter Tryz.func115, Tryz.ntmps115
  go_wp2
  rw [Lib.run_to_unsafe w ⟨b, 0, none⟩ Tryz.underlying143 Tryz.underlying192 hj (by rw [hjs]; decide) hsh (Nat.zero_lt_succ 1)]
  simp only [Result.andThen]
  rw [Oper.upon_value]
  go_wp2
  rw [run_callFunc_extern Tryz.func125 (by kernel_rfl) (by kernel_rfl) (by kernel_rfl) (e := Extern.AbiNoEscape.same) (by kernel_rfl)]
  rw [Lib.run_noEscape]
  simp only [Result.andThen]
  rw [Oper.upon_value]
  go_wp2
  rw [Lib.run_from_unsafe w ⟨b, 0, none⟩ Tryz.underlying192 Tryz.underlying143 hj hsh lies_bd]
  simp only [Result.andThen]
  rw [Oper.upon_value]
  go_wp2
  go_end0
  exact ⟨rfl, rfl⟩
theorem copyCheck_any (B b : Nat) (bs : List Value) (w : World) (h : Lib.IsBuilder tBd 5 B b bs w) :
    Calls Tryz.prog 115 #[.pointer (some ⟨b, 0, none⟩)] w fun e w' => e = .returned (.tuple #[]) ∧ Lib.BuilderAt tBd 5 B b (.pointer (some ⟨b, 0, none⟩)) bs w' ∧ Below B w w' := by
  rcases h with h | h
  · refine (copyCheck_fresh b w h.cell0 h.shape h.frozen0).mono ?_
    rintro e w' ⟨rfl, rfl⟩
    exact ⟨rfl, h.used _, (Below.refl B w).setCell (p := ⟨b, 0, none⟩) h.1 _⟩
  · refine (copyCheck_used b w h.cell0).mono ?_
    rintro e w' ⟨rfl, rfl⟩
    exact ⟨rfl, h, Below.refl B _⟩
set_option maxHeartbeats 2000000 in
set_option maxRecDepth 100000 in
theorem writeString_any (B b : Nat) (bs : List Value) (s : ByteArray) (w : World) (h : Lib.IsBuilder tBd 5 B b bs w) (hlen : bs.length + s.size ≤ 10000000) (hBw : B ≤ w.heap.size) :
    Calls Tryz.prog 97 #[.pointer (some ⟨b, 0, none⟩), .string s] w fun e w' => e = .returned (.tuple #[.int .i64 s.size, .nilIface]) ∧ Lib.BuilderAt tBd 5 B b (.pointer (some ⟨b, 0, none⟩)) (bs ++ Lib.strCells s) w' ∧ Below B w w' := by
  obtain ⟨i0, hi, hz0, hz1, hz2⟩ := info_parts info_u8b
  go_enter Tryz.func97, Tryz.ntmps97
  go_wp2_with (go_at_call 115; refine (copyCheck_any B b bs _ h).mono ?_)
  rintro e w1 ⟨rfl, h1, hb1⟩
  obtain ⟨hB, v, hbk, hown, hne⟩ := h1
  have c0 : w1.cell? ⟨b, 0, none⟩ = some (.pointer (some ⟨b, 0, none⟩)) := by rw [Lib.cell_of_heap hbk]; rfl
  have c1 : w1.cell? ⟨b, 1, none⟩ = some v := by rw [Lib.cell_of_heap hbk]; rfl
  go_wp2_with (at_builtin; refine Lib.wpList_append_own_string _ rfl _ _ 65 9 rfl B 5 i0 Tryz.underlying65 Tryz.underlying9 hi hz0 hz1 hz2 _ _ _ rfl hown s rfl ?c3 ?c4 ?c5 ?_)
  case c3 => unfold maxLen; omega
  case c4 => omega
  case c5 => have := hb1.size; omega
  intro v' w2 hown' hgrow _
  have hlt : b < w1.heap.size := by
    rcases Nat.lt_or_ge b w1.heap.size with h' | h'
    · exact h'
    · simp [Array.getElem?_eq_none h'] at hbk
  have hb2 : w2.heap[b]? = some (.cells #[.pointer (some ⟨b, 0, none⟩), v] tBd (0, 0)) := by
    rw [hgrow.block b hlt (fun e => hne e.symm)]
    exact hbk
  have d0 : w2.cell? ⟨b, 0, none⟩ = some (.pointer (some ⟨b, 0, none⟩)) := by rw [Lib.cell_of_heap hb2]; rfl
  have d1 : w2.cell? ⟨b, 1, none⟩ = some v := by rw [Lib.cell_of_heap hb2]; rfl
  have f1 : w2.frozen? ⟨b, 1, none⟩ = false := Lib.frozen_of_heap hb2 1
  obtain ⟨ao, n', cap, rfl⟩ : ∃ ao n' cap, v' = .slice ao n' cap := by
    rcases hown'.2 with ⟨hv, _⟩ | ⟨g, cap, cur, hv, _⟩
    · exact ⟨_, _, _, hv⟩
    · exact ⟨_, _, _, hv⟩
  go_wp2
  go_ret2
  refine ⟨rfl, ?_, ?_⟩
  · exact Lib.BuilderAt.put (T := tBd) (e := 5) hB hb2 (bs' := bs ++ Lib.strCells s) (by simpa [Lib.strCells_length] using hown') (by decide)
  · exact (hb1.grown hgrow (by have := hb1.size; omega) (fun k hk => (hown.lt k hk).1)).setCell (p := ⟨b, 1, none⟩) hB _
theorem write_at (B b : Nat) (l : List UInt8) (s : ByteArray) (w : World) (h : Lib.IsBuilder tBd 5 B b (Lib.byteCells l) w) (hlen : l.length + s.size ≤ 10000000) (hBw : B ≤ w.heap.size) :
    Calls Tryz.prog 97 #[.pointer (some ⟨b, 0, none⟩), .string s] w fun e w' => e = .returned (.tuple #[.int .i64 s.size, .nilIface]) ∧ Lib.IsBuilder tBd 5 B b (Lib.byteCells (l ++ s.data.toList)) w' ∧ Below B w w' :=
  (writeString_any B b _ s w h (by simpa [Lib.byteCells] using hlen) hBw).mono fun e w' ⟨h1, h2, h3⟩ => ⟨h1, .inr (by
    have e : Lib.byteCells (l ++ s.data.toList) = Lib.byteCells l ++ Lib.strCells s := by simp [Lib.byteCells, Lib.strCells]
    rw [e]; exact h2), h3⟩
theorem bd_fresh (B : Nat) (w : World) (hB : B ≤ w.heap.size) : Lib.IsBuilder tBd 5 B w.heap.size [] (w.alloc (.cells #[.pointer none, .slice none 0 0] tBd)) :=
  .inl ⟨hB, .slice none 0 0, heap_alloc_new w _, World.ownsRow_nil _ _ _ _, by intro h; cases h⟩
theorem bd_string (B b : Nat) (l : List UInt8) (w : World) (h : Lib.IsBuilder tBd 5 B b (Lib.byteCells l) w) (hBw : B ≤ w.heap.size) :
    Calls Tryz.prog 74 #[.pointer (some ⟨b, 0, none⟩)] w fun e w' => e = .returned (.string ⟨l.toArray⟩) ∧ Below B w w' := Tryz.Builder_String_any B b l w h hBw
end Go.Proofs.YtjklbbmgjjdalaaGreatDoor
