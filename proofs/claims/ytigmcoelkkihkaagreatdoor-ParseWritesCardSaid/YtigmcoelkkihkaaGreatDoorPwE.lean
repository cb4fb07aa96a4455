/- Plain laws on decimal digits, the least one first: no program in sight. Slices of digits in memory: what is read, what is owned, what a call hands back. Contracts of quadrilleref01's digits: Of, digit, Cut, Plus. Contract of quadrilleref01.Plus. -/
import Derived.WalkKit
import Derived.Test.YtigmcoelkkihkaaGreatDoorBase
import Derived.OwnWalk
import Derived.Laws.AppendOwnNone
import Derived.Laws.OwnMore
import Derived.Laws.MakeOwn
set_option linter.unusedSimpArgs false
set_option linter.unusedVariables false
namespace Go.Proofs.YtigmcoelkkihkaaGreatDoor

/-- What digits come to. -/
def dval : List Nat → Nat
  | [] => 0
  | d :: r => d + 10 * dval r

/-- A number's digits, no noughts behind. -/
def digsF : Nat → Nat → List Nat
  | 0, _ => []
  | f + 1, n => if n = 0 then [] else n % 10 :: digsF f (n / 10)
def digs (n : Nat) : List Nat := digsF (n + 1) n

theorem digsF_any : ∀ (f g n : Nat), n < f → n < g → digsF f n = digsF g n
  | 0, _, _, h, _ => by omega
  | _, 0, _, _, h => by omega
  | f + 1, g + 1, n, hf, hg => by
    simp only [digsF]
    by_cases h : n = 0
    · simp [h]
    · simp only [h, if_false]
      rw [digsF_any f g (n / 10) (by omega) (by omega)]

theorem digs_zero : digs 0 = [] := rfl
theorem digs_pos {n : Nat} (h : n ≠ 0) : digs n = n % 10 :: digs (n / 10) := by
  show digsF (n + 1) n = _ :: digsF (n / 10 + 1) (n / 10)
  rw [digsF, if_neg h, digsF_any n (n / 10 + 1) (n / 10) (by omega) (by omega)]

theorem digs_cons (d n : Nat) (hd : d < 10) (h : d + 10 * n ≠ 0) : digs (d + 10 * n) = d :: digs n := by
  rw [digs_pos h]
  have e1 : (d + 10 * n) % 10 = d := by omega
  have e2 : (d + 10 * n) / 10 = n := by omega
  rw [e1, e2]

theorem dval_digsF : ∀ (f n : Nat), n < f → dval (digsF f n) = n
  | 0, _, h => by omega
  | f + 1, n, h => by
    simp only [digsF]
    by_cases h0 : n = 0
    · simp [h0, dval]
    · simp only [h0, if_false, dval]
      rw [dval_digsF f (n / 10) (by omega)]
      omega
theorem dval_digs (n : Nat) : dval (digs n) = n := dval_digsF _ _ (by omega)

theorem digsF_lt : ∀ (f n : Nat), ∀ d ∈ digsF f n, d < 10
  | 0, _, d, h => by simp [digsF] at h
  | f + 1, n, d, h => by
    simp only [digsF] at h
    split at h
    · simp at h
    · rcases List.mem_cons.1 h with rfl | h
      · omega
      · exact digsF_lt f _ d h
theorem digs_lt (n : Nat) : ∀ d ∈ digs n, d < 10 := digsF_lt _ _

/-- Digits with no nought behind are a number's own. -/
theorem digs_dval : ∀ (L : List Nat), (∀ d ∈ L, d < 10) → L.getLast? ≠ some 0 → digs (dval L) = L
  | [], _, _ => rfl
  | d :: r, h, hl => by
    have hd := h d (by simp)
    have hr : ∀ x ∈ r, x < 10 := fun x hx => h x (by simp [hx])
    cases r with
    | nil =>
      have h0 : d ≠ 0 := by intro e; simp [e] at hl
      have := digs_cons d 0 hd (by omega)
      simpa [dval, digs_zero] using this
    | cons y t =>
      have hl' : (y :: t).getLast? ≠ some 0 := by simpa [List.getLast?_cons_cons] using hl
      have ih := digs_dval (y :: t) hr hl'
      have hne : dval (y :: t) ≠ 0 := by
        intro e
        rw [e] at ih
        simp [digs_zero] at ih
      show digs (d + 10 * dval (y :: t)) = _
      rw [digs_cons d _ hd (by omega), ih]

theorem digsF_last : ∀ (f n : Nat), n < f → (digsF f n).getLast? ≠ some 0
  | 0, _, h => by omega
  | f + 1, n, h => by
    simp only [digsF]
    by_cases h0 : n = 0
    · simp [h0]
    · simp only [h0, if_false]
      by_cases h1 : n / 10 = 0
      · have : digsF f (n / 10) = [] := by cases f <;> simp [digsF, h1]
        rw [this]
        simp
        omega
      · have ih := digsF_last f (n / 10) (by omega)
        have hne : digsF f (n / 10) ≠ [] := by
          intro e
          have := dval_digsF f (n / 10) (by omega)
          rw [e] at this
          simp [dval] at this
          omega
        cases he : digsF f (n / 10) with
        | nil => exact (hne he).elim
        | cons y t => rw [List.getLast?_cons_cons, ← he]; exact ih
theorem digs_last (n : Nat) : (digs n).getLast? ≠ some 0 := digsF_last _ _ (by omega)

theorem dval_append : ∀ (a b : List Nat), dval (a ++ b) = dval a + 10 ^ a.length * dval b
  | [], b => by simp [dval]
  | d :: r, b => by
    simp only [List.cons_append, dval, dval_append r b, List.length_cons, Nat.pow_succ]
    rw [Nat.mul_add, Nat.mul_comm (10 ^ r.length) 10, Nat.mul_assoc]
    omega

theorem dval_concat (a : List Nat) (d : Nat) : dval (a ++ [d]) = dval a + 10 ^ a.length * d := by
  rw [dval_append]; simp [dval]

theorem dval_zeros : ∀ (n : Nat) (b : List Nat), dval (List.replicate n 0 ++ b) = 10 ^ n * dval b
  | 0, b => by simp
  | n + 1, b => by
    simp only [List.replicate_succ, List.cons_append, dval, dval_zeros n b, Nat.pow_succ]
    rw [Nat.mul_comm (10 ^ n) 10, Nat.mul_assoc]
    omega

theorem dval_lt : ∀ (L : List Nat), (∀ d ∈ L, d < 10) → dval L < 10 ^ L.length
  | [], _ => by simp [dval]
  | d :: r, h => by
    have hd := h d (by simp)
    have ih := dval_lt r (fun x hx => h x (by simp [hx]))
    simp only [dval, List.length_cons, Nat.pow_succ]
    omega

/-- One digit more of the front. -/
theorem dval_take (L : List Nat) (i : Nat) : dval (L.take (i + 1)) = dval (L.take i) + 10 ^ i * L.getD i 0 := by
  by_cases h : i < L.length
  · rw [List.take_succ_eq_append_getElem h, dval_concat]
    simp [List.length_take, Nat.min_eq_left (Nat.le_of_lt h), List.getD, List.getElem?_eq_getElem h]
  · rw [List.take_of_length_le (by omega), List.take_of_length_le (by omega)]
    simp [List.getD, List.getElem?_eq_none (by omega : L.length ≤ i)]

theorem dval_drop (L : List Nat) (i : Nat) (h : i < L.length) : dval (L.drop i) = L.getD i 0 + 10 * dval (L.drop (i + 1)) := by
  rw [List.drop_eq_getElem_cons h]
  simp [dval, List.getD, List.getElem?_eq_getElem h]

theorem getD_lt {L : List Nat} (h : ∀ d ∈ L, d < 10) (i : Nat) : L.getD i 0 < 10 := by
  by_cases hi : i < L.length
  · simp only [List.getD, List.getElem?_eq_getElem hi, Option.getD_some]
    exact h _ (List.getElem_mem hi)
  · simp [List.getD, List.getElem?_eq_none (by omega : L.length ≤ i)]

/-- A front of noughts behind it is the number's own digits. -/
theorem digs_front (L : List Nat) (n : Nat) (hL : ∀ d ∈ L, d < 10) (hn : n ≤ L.length) (hz : ∀ j, n ≤ j → L.getD j 0 = 0) (hl : n = 0 ∨ L.getD (n - 1) 0 ≠ 0) : L.take n = digs (dval L) := by
  have hd : dval L = dval (L.take n) := by
    have key : ∀ k, dval (L.take (n + k)) = dval (L.take n) := by
      intro k
      induction k with
      | zero => rfl
      | succ k ih => rw [← Nat.add_assoc, dval_take, hz (n + k) (by omega), ih]; simp
    have := key (L.length - n)
    rw [show n + (L.length - n) = L.length from by omega, List.take_length] at this
    exact this
  rw [hd, digs_dval _ (fun d h => hL d (List.mem_of_mem_take h))]
  rcases hl with rfl | hl
  · simp
  · by_cases h0 : n = 0
    · subst h0; simp
    · have hlt : n - 1 < L.length := by omega
      have e : L.take n = L.take (n - 1) ++ [L[n - 1]] := by
        conv => lhs; rw [show n = n - 1 + 1 from by omega]
        rw [List.take_succ_eq_append_getElem hlt]
      rw [e, List.getLast?_concat]
      simp only [List.getD, List.getElem?_eq_getElem hlt, Option.getD_some] at hl
      intro h
      exact hl (Option.some.inj h)

theorem digs_length_le {n k : Nat} (h : n < 10 ^ k) : (digs n).length ≤ k := by
  rcases Nat.lt_or_ge k (digs n).length with hlt | hge
  · exfalso
    -- the last digit is not 0, so the number is at least 10 ^ (length - 1)
    have hne : digs n ≠ [] := by intro e; rw [e] at hlt; simp at hlt
    have h1 := dval_append (digs n).dropLast [(digs n).getLast hne]
    rw [List.dropLast_concat_getLast hne, dval_digs] at h1
    have h2 : (digs n).getLast hne ≠ 0 := by
      intro e
      exact digs_last n (by rw [List.getLast?_eq_some_getLast hne, e])
    have h3 : 10 ^ k ≤ 10 ^ (digs n).dropLast.length := Nat.pow_le_pow_right (by omega) (by simp; omega)
    simp only [dval] at h1
    have h4 : 10 ^ (digs n).dropLast.length ≤ 10 ^ (digs n).dropLast.length * ((digs n).getLast hne + 10 * 0) := Nat.le_mul_of_pos_right _ (by omega)
    omega
  · exact hge

theorem digs_nil {n : Nat} : digs n = [] ↔ n = 0 := by
  constructor
  · intro h
    have := dval_digs n
    rw [h] at this
    simpa [dval] using this.symm
  · rintro rfl; rfl

/-- The longer number is the greater one. -/
theorem digs_len_lt {a b : Nat} (h : (digs a).length < (digs b).length) : a < b := by
  rcases Nat.lt_or_ge a b with h1 | h1
  · exact h1
  · exfalso
    have h2 := dval_lt (digs a) (digs_lt a)
    rw [dval_digs] at h2
    have := digs_length_le (n := b) (k := (digs a).length) (by omega)
    omega

/-- Alike above a place, less there: less. -/
theorem dval_less : ∀ (A B : List Nat) (i : Nat), (∀ d ∈ A, d < 10) → (∀ d ∈ B, d < 10) → A.length = B.length → A.drop (i + 1) = B.drop (i + 1) → A.getD i 0 < B.getD i 0 → dval A < dval B
  | [], B, i, _, _, hl, _, h => by
    have : B = [] := List.eq_nil_of_length_eq_zero (by simpa using hl.symm)
    subst this
    simp at h
  | a :: A, [], i, _, _, hl, _, h => by simp at hl
  | a :: A, b :: B, 0, hA, hB, hl, hd, h => by
    simp at hd h
    subst hd
    simp only [dval]
    omega
  | a :: A, b :: B, i + 1, hA, hB, hl, hd, h => by
    have ha := hA a (by simp)
    have ih := dval_less A B i (fun d h => hA d (by simp [h])) (fun d h => hB d (by simp [h])) (by simpa using hl) (by simpa using hd) (by simpa using h)
    simp only [dval]
    omega

/-- A digit, by its place; 0 behind the end. -/
def nth (L : List Nat) (j : Nat) : Nat := L.getD j 0
theorem nth_lt {L : List Nat} (h : ∀ d ∈ L, d < 10) (i : Nat) : nth L i < 10 := getD_lt h i
end Go.Proofs.YtigmcoelkkihkaaGreatDoor
namespace Go.Proofs.YtigmcoelkkihkaaGreatDoor
open Go.RowKit

/-- A slice's length, for a loop's measure. -/
def lenOf : Value → Nat | .slice _ n _ => n | _ => 0

/-- A digit's cell. -/
def U8 (d : Nat) : Value := .int .u8 (d : Int)

/-- The slice's parts p, n, cap read as the digits L. -/
def RdN (w : World) (p : Option Addr) (n cap : Nat) (L : List Nat) : Prop :=
  L.length = n ∧ n ≤ cap ∧ cap ≤ maxLen ∧ (∀ d ∈ L, d < 10) ∧
  ((p = none ∧ n = 0 ∧ cap = 0) ∨ ∃ b off, p = some ⟨b, off, none⟩ ∧ b < w.heap.size ∧ ∀ j, j < n → w.cell? ⟨b, off + j, none⟩ = some (.int .u8 (nth L j : Int)))

theorem RdN.len {w : World} {p : Option Addr} {n cap : Nat} {L : List Nat} (h : RdN w p n cap L) : L.length = n := h.1
theorem RdN.dig {w : World} {p : Option Addr} {n cap : Nat} {L : List Nat} (h : RdN w p n cap L) : ∀ d ∈ L, d < 10 := h.2.2.2.1
theorem RdN.le {w : World} {p : Option Addr} {n cap : Nat} {L : List Nat} (h : RdN w p n cap L) : n ≤ cap := h.2.1
theorem RdN.max {w : World} {p : Option Addr} {n cap : Nat} {L : List Nat} (h : RdN w p n cap L) : cap ≤ maxLen := h.2.2.1

theorem RdN.below {w w' : World} {p : Option Addr} {n cap : Nat} {L : List Nat} (h : RdN w p n cap L) (hb : Below w.heap.size w w') : RdN w' p n cap L := by
  obtain ⟨h1, h2, h3, h4, h5⟩ := h
  refine ⟨h1, h2, h3, h4, ?_⟩
  rcases h5 with h5 | ⟨b, off, h6, h7, h8⟩
  · exact .inl h5
  · exact .inr ⟨b, off, h6, Nat.lt_of_lt_of_le h7 hb.size, fun j hj => (hb.cell (p := ⟨b, off + j, none⟩) h7).trans (h8 j hj)⟩

theorem RdN.nil (w : World) : RdN w none 0 0 [] := ⟨rfl, Nat.le_refl _, Nat.zero_le _, by simp, .inl ⟨rfl, rfl, rfl⟩⟩

/-- The front of what reads. -/
theorem RdN.front {w : World} {p : Option Addr} {n cap : Nat} {L : List Nat} (h : RdN w p n cap L) {k : Nat} (hk : k ≤ n) : RdN w p k cap (L.take k) := by
  obtain ⟨h1, h2, h3, h4, h5⟩ := h
  refine ⟨by simp; omega, by omega, h3, fun d hd => h4 d (List.mem_of_mem_take hd), ?_⟩
  rcases h5 with ⟨h5, h6, h7⟩ | ⟨b, off, h6, h7, h8⟩
  · exact .inl ⟨h5, by omega, h7⟩
  · refine .inr ⟨b, off, h6, h7, fun j hj => ?_⟩
    rw [h8 j (by omega)]
    simp [nth, List.getD, List.getElem?_take, hj]

theorem own_cells {w : World} {base e : Nat} {v : Value} {n : Nat} {L : List Nat} (h : w.ownsRow base e 1 v n (L.map U8)) (hd : ∀ d ∈ L, d < 10) :
    ∃ p cap, v = .slice p n cap ∧ RdN w p n cap L ∧ ∀ x, p = some x → base ≤ x.block := by
  obtain ⟨hl, h⟩ := h
  have hl' : L.length = n := by simpa using hl
  rcases h with ⟨rfl, rfl⟩ | ⟨g, cap, cur, rfl, hg, hh, hn, hm, hs, ht⟩
  · exact ⟨none, 0, rfl, by have : L = [] := List.eq_nil_of_length_eq_zero hl'; subst this; exact RdN.nil w, fun x hx => by cases hx⟩
  · refine ⟨some ⟨g, 0, none⟩, cap, rfl, ⟨hl', hn, hm, hd, .inr ⟨g, 0, rfl, ?_, fun j hj => ?_⟩⟩, fun x hx => by cases hx; exact hg⟩
    · rcases Nat.lt_or_ge g w.heap.size with h' | h'
      · exact h'
      · rw [Array.getElem?_eq_none h'] at hh; cases hh
    · have hj' : j < L.length := by omega
      have e1 : (cur.toList.take (n * 1))[j]? = some (U8 L[j]) := by rw [ht]; simp [hj']
      have e2 : cur[j]? = some (U8 L[j]) := by
        rw [List.getElem?_take, if_pos (by omega)] at e1
        simpa using e1
      simp only [World.cell?, hh, Nat.zero_add]
      simp [e2, U8, nth, List.getD, hj']

theorem news1 (w : World) (v : Value) (t : TypeId) : ∀ j u, [v][j]? = some u → (w.alloc (.cells #[v] t)).cell? ((⟨w.heap.size, 0, none⟩ : Addr).add j) = some u := by
  intro j u hj
  match j, hj with
  | 0, hj => simp at hj; subst hj; simp [Addr.add]
theorem one1 (d : Nat) : ∀ u ∈ [U8 d], u.oneCell' = true := by
  intro u hu
  simp at hu
  subst hu
  rfl

/-- What a call that makes digits hands back: in new memory. -/
def RetN (L : List Nat) (W : World) (e : Ending) (w' : World) : Prop := ∃ p n cap, e = .returned (.slice p n cap) ∧ RdN w' p n cap L ∧ Below W.heap.size W w' ∧ ∀ x, p = some x → W.heap.size ≤ x.block
theorem RetN.of_own {L : List Nat} {W w' : World} {e : Nat} {v : Value} (h : w'.ownsRow W.heap.size e 1 v L.length (L.map U8)) (hd : ∀ d ∈ L, d < 10) (hb : Below W.heap.size W w') : RetN L W (.returned v) w' := by
  obtain ⟨p, cap, rfl, hr, hf⟩ := own_cells h hd
  exact ⟨p, _, cap, rfl, hr, hb, hf⟩
theorem RetN.mk {L : List Nat} {W w' : World} {p : Option Addr} {n cap : Nat} (hr : RdN w' p n cap L) (hb : Below W.heap.size W w') (hf : ∀ x, p = some x → W.heap.size ≤ x.block) : RetN L W (.returned (.slice p n cap)) w' := ⟨p, n, cap, rfl, hr, hb, hf⟩

/-- What Cut hands back: a front of what it was given. -/
def RetC (p : Option Addr) (cap : Nat) (L : List Nat) (W : World) (e : Ending) (w' : World) : Prop := ∃ n, e = .returned (.slice p n cap) ∧ RdN w' p n cap L ∧ W = w'

/-- What the call owns stays owned behind a callee. -/
theorem own_below {w w' : World} {base e size n : Nat} {v : Value} {xs : List Value} (h : w.ownsRow base e size v n xs) (hb : Below w.heap.size w w') : w'.ownsRow base e size v n xs := by
  obtain ⟨h1, h2⟩ := h
  refine ⟨h1, ?_⟩
  rcases h2 with h2 | ⟨g, cap, cur, hv, hg, hh, r⟩
  · exact .inl h2
  · refine .inr ⟨g, cap, cur, hv, hg, ?_, r⟩
    rw [hb.block g (by
      rcases Nat.lt_or_ge g w.heap.size with h' | h'
      · exact h'
      · rw [Array.getElem?_eq_none h'] at hh; cases hh)]
    exact hh

/-- Another block is written: what reads stays. -/
theorem RdN.grown {w w' : World} {row : Option Nat} {p : Option Addr} {n cap : Nat} {L : List Nat} (h : RdN w p n cap L) (hg : w.grownBy w' row) (hne : ∀ x, p = some x → some x.block ≠ row) : RdN w' p n cap L := by
  obtain ⟨h1, h2, h3, h4, h5⟩ := h
  refine ⟨h1, h2, h3, h4, ?_⟩
  rcases h5 with h5 | ⟨b, off, rfl, h7, h8⟩
  · exact .inl h5
  · exact .inr ⟨b, off, rfl, Nat.lt_of_lt_of_le h7 hg.size, fun j hj => by
      exact (World.cell?_of_block (a := ⟨b, off + j, none⟩) (hg.block b h7 (hne _ rfl))).trans (h8 j hj)⟩
theorem RdN.stored {w : World} {p : Option Addr} {n cap : Nat} {L : List Nat} (h : RdN w p n cap L) (a : Addr) (u : Value) (hne : ∀ x, p = some x → x.block ≠ a.block) : RdN (w.setCell a u) p n cap L := by
  obtain ⟨h1, h2, h3, h4, h5⟩ := h
  refine ⟨h1, h2, h3, h4, ?_⟩
  rcases h5 with h5 | ⟨b, off, rfl, h7, h8⟩
  · exact .inl h5
  · exact .inr ⟨b, off, rfl, by simpa [World.setCell] using h7, fun j hj => by
      exact (World.cell?_of_block (a := ⟨b, off + j, none⟩) (Below.heap_setCell w a u b (hne _ rfl))).trans (h8 j hj)⟩
theorem RdN.alloc {w : World} {p : Option Addr} {n cap : Nat} {L : List Nat} (h : RdN w p n cap L) (o : Obj) : RdN (w.alloc o) p n cap L := h.below ((Below.refl _ _).alloc (Nat.le_refl _) o)

theorem made_zeros (n : Nat) : (madeCells #[Value.int .u8 0] (n * 1)).toList = (List.replicate n 0).map U8 := by
  apply List.ext_getElem
  · simp [madeCells]
  · intro i h1 h2
    simp [madeCells, U8, Nat.mod_one]

theorem nth_cell {L : List Nat} {j : Nat} (h : j < L.length) : (L.map U8)[j]? = some (.int .u8 (nth L j : Int)) := by simp [nth, List.getD, h, U8]

/-- append(v, src...), v the call's own, src whatever reads as digits. -/
theorem wpList_append_dig {P : Program} (w : World) {ops : Array Oper} {rest : List Oper} {o : Oper} {a : Act} {Q : Exit → Act → World → Prop} (hgd : o.guard = none) (s x : Operand) (t : TypeId)
    (ho : o.op = .call { callee := .builtin .append, args := #[s, x], argTypes := #[t, t] })
    (base : Nat) (e : TypeId) (i : TypeInfo) (ht : P.underlying t = some (.slice e)) (hi : P.info? e = some i) (hz : i.zero = some (.int .u8 0))
    (hsize : i.size = 1) (hby : i.bytes = 1) (v : Value) (n : Nat) (L : List Nat) (hs : a.eval s = v) (hown : w.ownsRow base e 1 v n (L.map U8))
    (q : Option Addr) (m cap : Nat) (B : List Nat) (hx : a.eval x = .slice q m cap) (hB : RdN w q m cap B) (h63 : n + m ≤ 1000000) (hbase : base ≤ w.heap.size)
    (h : ∀ v' w', w'.ownsRow base e 1 v' (n + m) ((L ++ B).map U8) → w.grownBy w' v.ownBlock → wpList P ops Q rest (a.put o.dst v') w') : wpList P ops Q (o :: rest) a w := by
  obtain ⟨h1, h2, h3, h4, h5⟩ := hB
  rcases h5 with ⟨rfl, rfl, rfl⟩ | ⟨b, off, rfl, h7, h8⟩
  · have : B = [] := List.eq_nil_of_length_eq_zero h1
    subst this
    exact wpList_append_own_none hgd s x t ho base e i 1 ht hi v n (L.map U8) hs hown hx (h v w (by simpa using hown) ⟨rfl, rfl, rfl, Nat.le_refl _, fun _ _ _ => rfl⟩)
  · refine wpList_append_own w hgd s x t ho base e i (.int .u8 0) 1 1 ht hi hz hsize hby rfl (by decide) v n (L.map U8) hs hown ⟨b, off, none⟩ m cap (B.map U8) hx (by simp [h1]) ?_ ?_ (by unfold maxLen; omega) (by omega) hbase (fun v' w' r1 r2 _ => h v' w' (by simpa using r1) r2)
    · intro j u hj
      have hjl : j < B.length := by
        rcases Nat.lt_or_ge j B.length with h' | h'
        · exact h'
        · simp [h'] at hj
      have hj2 : some (Value.int .u8 (nth B j : Int)) = some u := by rw [← hj, nth_cell hjl]
      rw [← hj2]
      have e : (⟨b, off, none⟩ : Addr).add j = ⟨b, off + j, none⟩ := by
        unfold Addr.add
        split
        · rename_i h0; subst h0; rfl
        · rfl
      rw [e]
      exact h8 j (by omega)
    · intro u hu
      simp only [List.mem_map] at hu
      obtain ⟨d, _, rfl⟩ := hu
      rfl
end Go.Proofs.YtigmcoelkkihkaaGreatDoor
namespace Go.Proofs.YtigmcoelkkihkaaGreatDoor
open Go.RowKit

theorem info_u8 : (Tryz.prog.info? 5).map (fun i => (i.zero, i.size, i.bytes)) = some (some (.int .u8 0), 1, 1) := by kernel_rfl

set_option maxHeartbeats 400000 in
theorem digit_any (p : Option Addr) (n cap : Nat) (L : List Nat) (i : Nat) (hi : i ≤ 100000) (w : World) (h : RdN w p n cap L) :
    Calls Tryz.prog 99 #[.slice p n cap, .int .i64 i] w fun e w' => e = .returned (.int .u8 (nth L i : Int)) ∧ w = w' := by
  obtain ⟨h1, h2, h3, h4, h5⟩ := h
  unfold maxLen at h3
  by_cases hlt : i < n
  · rcases h5 with ⟨_, h5, _⟩ | ⟨b, off, rfl, h6, h7⟩
    · omega
    · go_enter Tryz.func99, Tryz.ntmps99
      go_wp2
      go_ret
      exact ⟨rfl, rfl⟩
  · have hz : Hid (nth L i = 0) := by simp [Hid, nth, List.getD, List.getElem?_eq_none (by omega : L.length ≤ i)]
    clear h5
    go_enter Tryz.func99, Tryz.ntmps99
    go_wp2
    go_ret
    exact ⟨by rw [hz.out]; rfl, rfl⟩

set_option maxRecDepth 100000 in
set_option maxHeartbeats 1000000 in
theorem of_digs (n : Nat) (hn : n ≤ 18446744073709551615) (w : World) :
    Calls Tryz.prog 80 #[.int .u64 n] w (RetN (digs n) w) := by
  obtain ⟨i0, hi, hz0, hz1, hz2⟩ := info_parts info_u8
  have HN := Lib.hid hn
  clear hn
  go_enter Tryz.func80, Tryz.ntmps80
  go_wp2
  go_loopw [0, 3] (fun v0 v3 wr => ∃ (m : Nat) (L : List Nat), m ≤ 18446744073709551615 ∧ v0 = .int .u64 m ∧ wr.ownsRow w.heap.size 5 1 v3 L.length (L.map U8) ∧ Below w.heap.size w wr ∧ L ++ digs m = digs n) (fun v0 _ _ => (intOf v0).toNat)
  case atStart => exact ⟨n, [], HN.out, rfl, World.ownsRow_nil _ _ _ _, Below.refl _ _, by simp⟩
  case round =>
    obtain ⟨m, L, hm, rfl, hown, hb, hL⟩ := hrel
    have HL := Lib.hid hL
    have HM := Lib.hid hm
    clear hL hm
    have hlen : L.length ≤ 20 := by
      have h1 := congrArg List.length HL.out
      have h2 := digs_length_le (n := n) (k := 20) (by have := HN.out; omega)
      simp at h1
      omega
    have hsz := hb.size
    by_cases hm0 : m = 0
    · subst hm0
      go_wp2
      go_ret
      have e : L = digs n := by simpa [digs_zero] using HL.out
      rw [← e]
      exact RetN.of_own hown (by rw [e]; exact digs_lt n) hb
    · have hq : IntKind.u64.wrap ((m : Int) / 10) = (m : Int) / 10 := IntWalk.u64_in _ (by have := HM.out; omega)
      go_wp2_with (at_builtin; refine wpList_append_own _ rfl (.tmp 6) (.tmp 10) _ rfl w.heap.size 5 i0 (.int .u8 0) 1 1 Tryz.underlying113 hi hz0 hz1 hz2 rfl (by decide) _ L.length (L.map U8) rfl (hown.alloc _) ⟨wr.heap.size, 0, none⟩ 1 1 [U8 (m % 10)] rfl rfl ?c1 ?c2 ?c3 ?c4 ?c5 ?_)
      case c1 => exact news1 wr (U8 (m % 10)) _
      case c2 => exact one1 _
      case c3 => unfold maxLen; omega
      case c4 => omega
      case c5 => simp; omega
      intro v' w1 hown1 hgrow1 _
      go_wp2
      go_roundw
      case rel => exact ⟨m / 10, L ++ [m % 10], by have := HM.out; omega, by go_num, by simpa using hown1, (hb.alloc hsz _).grown hgrow1 (by simp; omega) (fun k hk => (hown.lt k hk).1), by rw [← HL.out, digs_pos hm0]; simp⟩
      case measure => simp [intOf]; omega

set_option maxRecDepth 100000 in
set_option maxHeartbeats 1000000 in
/-- Cut: no noughts behind. -/
theorem cut_any (p : Option Addr) (n cap : Nat) (L : List Nat) (hn : n ≤ 100000) (w : World) (h : RdN w p n cap L) :
    Calls Tryz.prog 83 #[.slice p n cap] w (RetC p cap (digs (dval L)) w) := by
  have hR := Lib.hid h
  obtain ⟨h1, h2, h3, h4, h5⟩ := h
  unfold maxLen at h3
  rcases h5 with ⟨rfl, rfl, rfl⟩ | ⟨b, off, rfl, h6, h7⟩
  · have e : L = [] := List.eq_nil_of_length_eq_zero h1
    subst e
    go_enter Tryz.func83, Tryz.ntmps83
    go_wp2
    refine wp_loop_rounds 1 ?_
    rw [rounds_succ]
    go_wp2
    go_ret
    exact ⟨0, rfl, RdN.nil w, rfl⟩
  · have hL := Lib.hid h1
    clear h1
    have h4 := Lib.hid h4
    go_enter Tryz.func83, Tryz.ntmps83
    go_wp2
    go_loop [0] (fun v0 => ∃ k : Nat, k ≤ n ∧ v0 = .slice (some ⟨b, off, none⟩) k cap ∧ ∀ j, k ≤ j → nth L j = 0) (fun v0 => lenOf v0)
    case atStart => exact ⟨n, Nat.le_refl _, rfl, fun j hj => by have := hL.out; simp [nth, List.getD, List.getElem?_eq_none (by omega : L.length ≤ j)]⟩
    case round =>
      obtain ⟨k, hk, rfl, hz⟩ := hrel
      have HZ := Lib.hid hz
      clear hz
      by_cases hk0 : k = 0
      · subst hk0
        go_wp2
        go_ret
        have e := digs_front L 0 h4.out (by omega) HZ.out (.inl rfl)
        rw [← e]
        exact ⟨0, rfl, hR.out.front (Nat.zero_le _), rfl⟩
      · have hc := h7 (k - 1) (by omega)
        have hk1 : (1 : Int) ≤ (k : Int) := by omega
        by_cases hd : nth L (k - 1) = 0
        · have HD := Lib.hid hd
          have hd' : (((nth L (k - 1) : Nat) : Int) == 0) = true := by simp [hd]
          clear hd
          go_wp2
          go_round
          case rel => exact ⟨k - 1, by omega, rfl, fun j hj => by rcases Nat.lt_or_ge j k with h | h; · rw [show j = k - 1 from by omega]; exact HD.out
                                                                  · exact HZ.out j h⟩
          case measure => simp [lenOf]; omega
        · have hd' : (((nth L (k - 1) : Nat) : Int) == 0) = false := by simp; exact hd
          have HD := Lib.hid hd
          clear hd
          go_wp2
          go_ret
          have e := digs_front L k h4.out (by have := hL.out; omega) HZ.out (.inr HD.out)
          rw [← e]
          exact ⟨k, rfl, hR.out.front hk, rfl⟩
theorem of_mill (w : World) : Calls Tryz.prog 80 #[.int .u64 1000000] w (RetN (digs 1000000) w) := of_digs 1000000 (by omega) w
end Go.Proofs.YtigmcoelkkihkaaGreatDoor
namespace Go.Proofs.YtigmcoelkkihkaaGreatDoor
open Go.RowKit

theorem plus_step (a b c x y p : Nat) (h : x + p * c = y) : x + p * ((a + b + c) % 10) + p * 10 * ((a + b + c) / 10) = y + p * a + p * b := by
  have e : (a + b + c) % 10 + 10 * ((a + b + c) / 10) = a + b + c := by omega
  have e2 : p * ((a + b + c) % 10) + p * 10 * ((a + b + c) / 10) = p * a + p * b + p * c := by
    rw [Nat.mul_assoc, ← Nat.mul_add, e, Nat.mul_add, Nat.mul_add]
  omega

set_option maxRecDepth 100000 in
set_option maxHeartbeats 2000000 in
theorem plus_any (p : Option Addr) (n cap : Nat) (A : List Nat) (q : Option Addr) (m cap2 : Nat) (B : List Nat) (hn : n ≤ 1000) (hm : m ≤ 1000) (w : World) (hA : RdN w p n cap A) (hB : RdN w q m cap2 B) :
    Calls Tryz.prog 96 #[.slice p n cap, .slice q m cap2] w (RetN (digs (dval A + dval B)) w) := by
  obtain ⟨i0, hi, hz0, hz1, hz2⟩ := info_parts info_u8
  have HA := Lib.hid hA
  have HB := Lib.hid hB
  have hcA := hA.max
  have hcB := hB.max
  have hlA := hA.le
  have hlB := hB.le
  unfold maxLen at hcA hcB
  clear hA hB
  obtain ⟨M, hM⟩ : ∃ M, M = Nat.max n m := ⟨_, rfl⟩
  have hM1 : n ≤ M := by rw [hM]; exact Nat.le_max_left _ _
  have hM2 : m ≤ M := by rw [hM]; exact Nat.le_max_right _ _
  have hM3 : M ≤ 1000 := by rw [hM]; exact Nat.max_le.2 ⟨hn, hm⟩
  have hM4 : M ≤ n ∨ M ≤ m := by rw [hM]; rcases Nat.le_total n m with h | h; · right; exact Nat.max_le.2 ⟨h, Nat.le_refl _⟩
                                 · left; exact Nat.max_le.2 ⟨Nat.le_refl _, h⟩
  clear hM
  go_enter Tryz.func96, Tryz.ntmps96
  go_wp2
  go_loopw [5, 6, 7] (fun v5 v6 v7 wr => ∃ (i c : Nat) (L : List Nat), L.length = i ∧ c ≤ 1 ∧ i ≤ M + 1 ∧ (c = 0 ∨ i ≤ M) ∧ v6 = .int .u8 c ∧ v7 = .int .i64 i ∧ wr.ownsRow w.heap.size 5 1 v5 i (L.map U8) ∧ (∀ d ∈ L, d < 10) ∧ Below w.heap.size w wr ∧ dval L + 10 ^ i * c = dval (A.take i) + dval (B.take i)) (fun _ _ v7 _ => M + 1 - (intOf v7).toNat)
  case atStart => exact ⟨0, 0, [], rfl, by omega, by omega, .inl rfl, rfl, rfl, World.ownsRow_nil _ _ _ _, by simp, Below.refl _ _, by simp [dval]⟩
  case round =>
    obtain ⟨i, c, L, hL, hc, hiM, hci, rfl, rfl, hown, hdig, hb, hval⟩ := hrel
    have HL := Lib.hid hL
    have HD := Lib.hid hdig
    have HV := Lib.hid hval
    clear hL hdig hval
    have hsz := hb.size
    have ha10 := nth_lt HA.out.dig i
    have hb10 := nth_lt HB.out.dig i
    by_cases hgo : i < n ∨ i < m ∨ 0 < c
    · have hiM' : i ≤ M := by omega
      have hcar : Hid ((nth A i + nth B i + c) / 10 = 0 ∨ i + 1 ≤ M) := by
        unfold Hid
        by_cases him : i = M
        · left
          have za : nth A i = 0 := by simp [nth, List.getD, List.getElem?_eq_none (by have := HA.out.len; omega : A.length ≤ i)]
          have zb : nth B i = 0 := by simp [nth, List.getD, List.getElem?_eq_none (by have := HB.out.len; omega : B.length ≤ i)]
          omega
        · right; omega
      have HV2 : Hid (dval (L ++ [(nth A i + nth B i + c) % 10]) + 10 ^ (i + 1) * ((nth A i + nth B i + c) / 10) = dval (A.take (i + 1)) + dval (B.take (i + 1))) := by
        unfold Hid
        have hL' := HL.out
        rw [dval_concat, dval_take, dval_take, hL', Nat.pow_succ]
        have := plus_step (nth A i) (nth B i) c (dval L) (dval (A.take i) + dval (B.take i)) (10 ^ i) HV.out
        simp only [nth] at this ⊢
        omega
      by_cases g1 : i < n
      all_goals by_cases g2 : i < m
      all_goals by_cases g3 : 0 < c
      all_goals try omega
      all_goals clear hgo hci
      all_goals (go_wp2_with fail; refine (digit_any p n cap A i (by omega) _ (HA.out.below hb)).mono ?_; rintro e w1 ⟨rfl, rfl⟩)
      all_goals (go_wp2_with fail; refine (digit_any q m cap2 B i (by omega) _ (HB.out.below hb)).mono ?_; rintro e w1 ⟨rfl, rfl⟩)
      all_goals go_wp2_with (at_builtin; refine wpList_append_own _ rfl (.tmp 34) (.tmp 37) _ rfl w.heap.size 5 i0 (.int .u8 0) 1 1 Tryz.underlying113 hi hz0 hz1 hz2 rfl (by decide) _ i (L.map U8) rfl (hown.alloc _) ⟨wr.heap.size, 0, none⟩ 1 1 [U8 ((nth A i + nth B i + c) % 10)] rfl rfl (news1 wr (U8 ((nth A i + nth B i + c) % 10)) _) (one1 _) (by unfold maxLen; omega) (by omega) (by simp; omega) ?_; intro v' w1 hown1 hgrow1 _)
      all_goals
        go_roundw
        case rel => exact ⟨i + 1, (nth A i + nth B i + c) / 10, L ++ [(nth A i + nth B i + c) % 10], by simp [HL.out], by omega, by omega, hcar.out, by go_num, by go_num, by simpa using hown1, fun d hd => by rcases List.mem_append.1 hd with h | h; exact HD.out d h; simp at h; omega, (hb.alloc hsz _).grown hgrow1 (by simp; omega) (fun k hk => (hown.lt k hk).1), HV2.out⟩
        case measure => simp [intOf]; omega
    · have hc0 : c = 0 := by omega
      subst hc0
      obtain ⟨p', cap', rfl, hr, hfr⟩ := own_cells (L := L) hown HD.out
      have HF := Lib.hid hfr
      clear hfr
      have e : dval L = dval A + dval B := by
        have := HV.out
        rw [List.take_of_length_le (by have := HA.out.len; omega), List.take_of_length_le (by have := HB.out.len; omega)] at this
        omega
      have hR := Lib.hid hr
      clear hr hci
      go_wp2_with fail
      refine (cut_any _ _ _ L (by omega) _ hR.out).mono ?_
      rintro e' w1 ⟨n2, rfl, hr2, rfl⟩
      rw [e] at hr2
      have hR2 := Lib.hid hr2
      clear hr2 e
      go_wp2_with fail
      go_ret
      exact RetN.mk hR2.out hb HF.out
end Go.Proofs.YtigmcoelkkihkaaGreatDoor
