/- Rows of whatever elements in memory: a slice reads as a list; rows of the call's own. No function of the program. Plain laws on decimal digits, the least one first: no program in sight. Slices of digits in memory: what is read, what is owned, what a call hands back. The worlds in which the blocks below N are as they were, as a type: for walks by the quick rules. No function of the program. A whole struct stored into a block that is known, or loaded out of it: laws for the walk. -/
import Derived.Test.YtjklbbmgjjdalaaGreatDoorBase
import Derived.OwnWalk
import Derived.Laws.AppendOwnNone
import Derived.Laws.OwnMore
import Derived.Laws.MakeOwn
import Derived.WalkKit
import Derived.Test.YtjklbbmgjjdalaaGreatDoorBqD
import Derived.Deep.MidRow
import Derived.Lib.SmallJoins
set_option linter.unusedSimpArgs false
set_option linter.unusedVariables false
namespace Go.Proofs.YtjklbbmgjjdalaaGreatDoor
open Go.RowKit
theorem info_of {t : TypeId} {z : Value} {s b : Nat} (h : (Tryz.prog.info? t).map (fun i => (i.zero, i.size, i.bytes)) = some (some z, s, b)) : ∃ i, Tryz.prog.info? t = some i ∧ i.zero = some z ∧ i.size = s ∧ i.bytes = b := by
  cases hi : Tryz.prog.info? t with
  | none => rw [hi] at h; cases h
  | some i =>
    rw [hi] at h
    simp only [Option.map_some, Option.some.injEq, Prod.mk.injEq] at h
    exact ⟨i, rfl, h.1, h.2.1, h.2.2⟩
theorem row_below {w w' : World} {base e size n : Nat} {v : Value} {xs : List Value} (h : w.ownsRow base e size v n xs) (hb : Below w.heap.size w w') : w'.ownsRow base e size v n xs := by
  obtain ⟨h1, h2⟩ := h
  refine ⟨h1, ?_⟩
  rcases h2 with h2 | ⟨g, cap, cur, hv, hg, hh, r⟩
  · exact .inl h2
  · refine .inr ⟨g, cap, cur, hv, hg, ?_, r⟩
    rw [hb.block g (by
      rcases Nat.lt_or_ge g w.heap.size with h' | h'
      · exact h'
      · rw [Array.getElem?_eq_none h'] at hh; cases hh)]
    exact hh
theorem new2 (w : World) (a b : Value) (t : TypeId) : ∀ j u, [a, b][j]? = some u → (w.alloc (.cells #[a, b] t)).cell? ((⟨w.heap.size, 0, none⟩ : Addr).add j) = some u := by
  intro j u hj
  match j, hj with
  | 0, hj => simp at hj; subst hj; simp [Addr.add]
  | 1, hj => simp at hj; subst hj; simp [Addr.add]
section
variable {α : Type} {enc : α → List Value} {sz : Nat}
theorem flat_at (hz : ∀ x, (enc x).length = sz) (L : List α) : ∀ (i : Nat) (x : α), L[i]? = some x → ∀ k, k < sz → (L.flatMap enc)[i * sz + k]? = (enc x)[k]? := by
  induction L with
  | nil => intro i x hx; simp at hx
  | cons q L ih =>
    intro i x hx k hk
    cases i with
    | zero =>
      simp only [List.getElem?_cons_zero, Option.some.injEq] at hx
      subst hx
      rw [List.flatMap_cons, List.getElem?_append_left (by rw [hz]; omega)]
      congr 1
      omega
    | succ i =>
      rw [List.getElem?_cons_succ] at hx
      rw [List.flatMap_cons, Nat.succ_mul, List.getElem?_append_right (by rw [hz]; omega), hz]
      have := ih i x hx k hk
      rw [← this]
      congr 1
      omega
def RdG (enc : α → List Value) (sz : Nat) (w : World) (p : Option Addr) (n : Nat) (L : List α) : Prop :=
  L.length = n ∧ (n = 0 ∨ ∃ b off, p = some ⟨b, off, none⟩ ∧ b < w.heap.size ∧ ∀ (j : Nat) (x : α), L[j]? = some x → ∀ k u, (enc x)[k]? = some u → w.cell? ⟨b, off + j * sz + k, none⟩ = some u)
theorem RdG.nil (enc : α → List Value) (sz : Nat) (w : World) (p : Option Addr) : RdG enc sz w p 0 [] := ⟨rfl, .inl rfl⟩
theorem RdG.below {w w' : World} {p : Option Addr} {n : Nat} {L : List α} (h : RdG enc sz w p n L) (hb : Below w.heap.size w w') : RdG enc sz w' p n L := by
  obtain ⟨h1, h4⟩ := h
  refine ⟨h1, ?_⟩
  rcases h4 with h4 | ⟨b, off, h5, h6, h7⟩
  · exact .inl h4
  · exact .inr ⟨b, off, h5, Nat.lt_of_lt_of_le h6 hb.size, fun j x hx k u hu => (hb.cell (p := ⟨b, off + j * sz + k, none⟩) h6).trans (h7 j x hx k u hu)⟩
theorem RdG.some {w : World} {p : Option Addr} {n : Nat} {L : List α} (h : RdG enc sz w p n L) {j : Nat} (hj : j < n) : ∃ b off, p = some ⟨b, off, none⟩ ∧ b < w.heap.size ∧ ∀ (j : Nat) (x : α), L[j]? = some x → ∀ k u, (enc x)[k]? = some u → w.cell? ⟨b, off + j * sz + k, none⟩ = some u := by
  rcases h.2 with h | h
  · omega
  · exact h
theorem RdG.of_own (hz : ∀ x, (enc x).length = sz) {w : World} {base : Nat} {e : TypeId} {v : Value} {n : Nat} {L : List α} (hn : L.length = n) (h : w.ownsRow base e sz v n (L.flatMap enc)) : ∃ p cap, v = .slice p n cap ∧ n ≤ cap ∧ cap ≤ maxLen ∧ RdG enc sz w p n L ∧ (v = .slice none 0 0 ∨ ∃ r, p = Option.some ⟨r, 0, none⟩ ∧ base ≤ r ∧ r < w.heap.size) := by
  obtain ⟨hl, ⟨hv, h0⟩ | ⟨r, cap, cur, rfl, hg, hh, hn', hm, hs, ht⟩⟩ := h
  · have : L = [] := List.eq_nil_of_length_eq_zero (by omega)
    subst this
    subst h0
    exact ⟨none, 0, hv, Nat.le_refl _, Nat.zero_le _, ⟨rfl, .inl rfl⟩, .inl hv⟩
  · have hr : r < w.heap.size := by
      rcases Nat.lt_or_ge r w.heap.size with h' | h'
      · exact h'
      · rw [Array.getElem?_eq_none h'] at hh; cases hh
    refine ⟨_, cap, rfl, hn', hm, ⟨hn, .inr ⟨r, 0, rfl, hr, fun j x hx k u hu => ?_⟩⟩, .inr ⟨r, rfl, hg, hr⟩⟩
    have hj := (List.getElem?_eq_some_iff.1 hx).1
    have hk : k < sz := by
      rw [← hz x]
      exact (List.getElem?_eq_some_iff.1 hu).1
    have hlt : j * sz + k < n * sz := by
      have : (j + 1) * sz ≤ n * sz := Nat.mul_le_mul_right _ (by omega)
      rw [Nat.succ_mul] at this
      omega
    rw [← flat_at hz L j x hx k hk, ← ht, List.getElem?_take, if_pos hlt] at hu
    simp only [World.cell?, hh, Nat.zero_add]
    simpa using hu
theorem RdG.at1 {enc : α → List Value} {w : World} {p : Option Addr} {n : Nat} {L : List α} {b off : Nat} (h : ∀ (j : Nat) (x : α), L[j]? = Option.some x → ∀ k u, (enc x)[k]? = Option.some u → w.cell? ⟨b, off + j * 1 + k, none⟩ = Option.some u) {j : Nat} {x : α} {u : Value} (hx : L[j]? = Option.some x) (hu : enc x = [u]) : w.cell? ⟨b, off + j, none⟩ = Option.some u := by
  have := h j x hx 0 u (by rw [hu]; rfl)
  rw [Nat.mul_one, Nat.add_zero] at this
  exact this
end
theorem flat_snoc {α : Type} (enc : α → List Value) (L : List α) (x : α) : (L ++ [x]).flatMap enc = L.flatMap enc ++ enc x := by simp
end Go.Proofs.YtjklbbmgjjdalaaGreatDoor
namespace Go.Proofs.YtjklbbmgjjdalaaGreatDoor
def dval : List Nat → Nat
  | [] => 0
  | d :: r => d + 10 * dval r
def digsF : Nat → Nat → List Nat
  | 0, _ => []
  | f + 1, n => if n = 0 then [] else n % 10 :: digsF f (n / 10)
def digs (n : Nat) : List Nat := digsF (n + 1) n
theorem digsF_any : ∀ (f g n : Nat), n < f → n < g → digsF f n = digsF g n
  | 0, _, _, h, _ => by omega
  | _, 0, _, _, h => by omega
  | f + 1, g + 1, n, hf, hg => by
    simp only [digsF]
    by_cases h : n = 0
    · simp [h]
    · simp only [h, if_false]
      rw [digsF_any f g (n / 10) (by omega) (by omega)]
theorem digs_zero : digs 0 = [] := rfl
theorem digs_pos {n : Nat} (h : n ≠ 0) : digs n = n % 10 :: digs (n / 10) := by
  show digsF (n + 1) n = _ :: digsF (n / 10 + 1) (n / 10)
  rw [digsF, if_neg h, digsF_any n (n / 10 + 1) (n / 10) (by omega) (by omega)]
theorem digs_cons (d n : Nat) (hd : d < 10) (h : d + 10 * n ≠ 0) : digs (d + 10 * n) = d :: digs n := by
  rw [digs_pos h]
  have e1 : (d + 10 * n) % 10 = d := by omega
  have e2 : (d + 10 * n) / 10 = n := by omega
  rw [e1, e2]
theorem dval_digsF : ∀ (f n : Nat), n < f → dval (digsF f n) = n
  | 0, _, h => by omega
  | f + 1, n, h => by
    simp only [digsF]
    by_cases h0 : n = 0
    · simp [h0, dval]
    · simp only [h0, if_false, dval]
      rw [dval_digsF f (n / 10) (by omega)]
      omega
theorem dval_digs (n : Nat) : dval (digs n) = n := dval_digsF _ _ (by omega)
theorem digsF_lt : ∀ (f n : Nat), ∀ d ∈ digsF f n, d < 10
  | 0, _, d, h => by simp [digsF] at h
  | f + 1, n, d, h => by
    simp only [digsF] at h
    split at h
    · simp at h
    · rcases List.mem_cons.1 h with rfl | h
      · omega
      · exact digsF_lt f _ d h
theorem digs_lt (n : Nat) : ∀ d ∈ digs n, d < 10 := digsF_lt _ _
theorem digs_dval : ∀ (L : List Nat), (∀ d ∈ L, d < 10) → L.getLast? ≠ some 0 → digs (dval L) = L
  | [], _, _ => rfl
  | d :: r, h, hl => by
    have hd := h d (by simp)
    have hr : ∀ x ∈ r, x < 10 := fun x hx => h x (by simp [hx])
    cases r with
    | nil =>
      have h0 : d ≠ 0 := by intro e; simp [e] at hl
      have := digs_cons d 0 hd (by omega)
      simpa [dval, digs_zero] using this
    | cons y t =>
      have hl' : (y :: t).getLast? ≠ some 0 := by simpa [List.getLast?_cons_cons] using hl
      have ih := digs_dval (y :: t) hr hl'
      have hne : dval (y :: t) ≠ 0 := by
        intro e
        rw [e] at ih
        simp [digs_zero] at ih
      show digs (d + 10 * dval (y :: t)) = _
      rw [digs_cons d _ hd (by omega), ih]
theorem digsF_last : ∀ (f n : Nat), n < f → (digsF f n).getLast? ≠ some 0
  | 0, _, h => by omega
  | f + 1, n, h => by
    simp only [digsF]
    by_cases h0 : n = 0
    · simp [h0]
    · simp only [h0, if_false]
      by_cases h1 : n / 10 = 0
      · have : digsF f (n / 10) = [] := by cases f <;> simp [digsF, h1]
        rw [this]
        simp
        omega
      · have ih := digsF_last f (n / 10) (by omega)
        have hne : digsF f (n / 10) ≠ [] := by
          intro e
          have := dval_digsF f (n / 10) (by omega)
          rw [e] at this
          simp [dval] at this
          omega
        cases he : digsF f (n / 10) with
        | nil => exact (hne he).elim
        | cons y t => rw [List.getLast?_cons_cons, ← he]; exact ih
theorem digs_last (n : Nat) : (digs n).getLast? ≠ some 0 := digsF_last _ _ (by omega)
theorem dval_append : ∀ (a b : List Nat), dval (a ++ b) = dval a + 10 ^ a.length * dval b
  | [], b => by simp [dval]
  | d :: r, b => by
    simp only [List.cons_append, dval, dval_append r b, List.length_cons, Nat.pow_succ]
    rw [Nat.mul_add, Nat.mul_comm (10 ^ r.length) 10, Nat.mul_assoc]
    omega
theorem dval_concat (a : List Nat) (d : Nat) : dval (a ++ [d]) = dval a + 10 ^ a.length * d := by
  rw [dval_append]; simp [dval]
theorem dval_lt : ∀ (L : List Nat), (∀ d ∈ L, d < 10) → dval L < 10 ^ L.length
  | [], _ => by simp [dval]
  | d :: r, h => by
    have hd := h d (by simp)
    have ih := dval_lt r (fun x hx => h x (by simp [hx]))
    simp only [dval, List.length_cons, Nat.pow_succ]
    omega
theorem dval_take (L : List Nat) (i : Nat) : dval (L.take (i + 1)) = dval (L.take i) + 10 ^ i * L.getD i 0 := by
  by_cases h : i < L.length
  · rw [List.take_succ_eq_append_getElem h, dval_concat]
    simp [List.length_take, Nat.min_eq_left (Nat.le_of_lt h), List.getD, List.getElem?_eq_getElem h]
  · rw [List.take_of_length_le (by omega), List.take_of_length_le (by omega)]
    simp [List.getD, List.getElem?_eq_none (by omega : L.length ≤ i)]
theorem dval_drop (L : List Nat) (i : Nat) (h : i < L.length) : dval (L.drop i) = L.getD i 0 + 10 * dval (L.drop (i + 1)) := by
  rw [List.drop_eq_getElem_cons h]
  simp [dval, List.getD, List.getElem?_eq_getElem h]
theorem getD_lt {L : List Nat} (h : ∀ d ∈ L, d < 10) (i : Nat) : L.getD i 0 < 10 := by
  by_cases hi : i < L.length
  · simp only [List.getD, List.getElem?_eq_getElem hi, Option.getD_some]
    exact h _ (List.getElem_mem hi)
  · simp [List.getD, List.getElem?_eq_none (by omega : L.length ≤ i)]
theorem digs_front (L : List Nat) (n : Nat) (hL : ∀ d ∈ L, d < 10) (hn : n ≤ L.length) (hz : ∀ j, n ≤ j → L.getD j 0 = 0) (hl : n = 0 ∨ L.getD (n - 1) 0 ≠ 0) : L.take n = digs (dval L) := by
  have hd : dval L = dval (L.take n) := by
    have key : ∀ k, dval (L.take (n + k)) = dval (L.take n) := by
      intro k
      induction k with
      | zero => rfl
      | succ k ih => rw [← Nat.add_assoc, dval_take, hz (n + k) (by omega), ih]; simp
    have := key (L.length - n)
    rw [show n + (L.length - n) = L.length from by omega, List.take_length] at this
    exact this
  rw [hd, digs_dval _ (fun d h => hL d (List.mem_of_mem_take h))]
  rcases hl with rfl | hl
  · simp
  · by_cases h0 : n = 0
    · subst h0; simp
    · have hlt : n - 1 < L.length := by omega
      have e : L.take n = L.take (n - 1) ++ [L[n - 1]] := by
        conv => lhs; rw [show n = n - 1 + 1 from by omega]
        rw [List.take_succ_eq_append_getElem hlt]
      rw [e, List.getLast?_concat]
      simp only [List.getD, List.getElem?_eq_getElem hlt, Option.getD_some] at hl
      intro h
      exact hl (Option.some.inj h)
theorem digs_length_le {n k : Nat} (h : n < 10 ^ k) : (digs n).length ≤ k := by
  rcases Nat.lt_or_ge k (digs n).length with hlt | hge
  · exfalso
    have hne : digs n ≠ [] := by intro e; rw [e] at hlt; simp at hlt
    have h1 := dval_append (digs n).dropLast [(digs n).getLast hne]
    rw [List.dropLast_concat_getLast hne, dval_digs] at h1
    have h2 : (digs n).getLast hne ≠ 0 := by
      intro e
      exact digs_last n (by rw [List.getLast?_eq_some_getLast hne, e])
    have h3 : 10 ^ k ≤ 10 ^ (digs n).dropLast.length := Nat.pow_le_pow_right (by omega) (by simp; omega)
    simp only [dval] at h1
    have h4 : 10 ^ (digs n).dropLast.length ≤ 10 ^ (digs n).dropLast.length * ((digs n).getLast hne + 10 * 0) := Nat.le_mul_of_pos_right _ (by omega)
    omega
  · exact hge
theorem digs_nil {n : Nat} : digs n = [] ↔ n = 0 := by
  constructor
  · intro h
    have := dval_digs n
    rw [h] at this
    simpa [dval] using this.symm
  · rintro rfl; rfl
theorem digs_len_lt {a b : Nat} (h : (digs a).length < (digs b).length) : a < b := by
  rcases Nat.lt_or_ge a b with h1 | h1
  · exact h1
  · exfalso
    have h2 := dval_lt (digs a) (digs_lt a)
    rw [dval_digs] at h2
    have := digs_length_le (n := b) (k := (digs a).length) (by omega)
    omega
theorem dval_less : ∀ (A B : List Nat) (i : Nat), (∀ d ∈ A, d < 10) → (∀ d ∈ B, d < 10) → A.length = B.length → A.drop (i + 1) = B.drop (i + 1) → A.getD i 0 < B.getD i 0 → dval A < dval B
  | [], B, i, _, _, hl, _, h => by
    have : B = [] := List.eq_nil_of_length_eq_zero (by simpa using hl.symm)
    subst this
    simp at h
  | a :: A, [], i, _, _, hl, _, h => by simp at hl
  | a :: A, b :: B, 0, hA, hB, hl, hd, h => by
    simp at hd h
    subst hd
    simp only [dval]
    omega
  | a :: A, b :: B, i + 1, hA, hB, hl, hd, h => by
    have ha := hA a (by simp)
    have ih := dval_less A B i (fun d h => hA d (by simp [h])) (fun d h => hB d (by simp [h])) (by simpa using hl) (by simpa using hd) (by simpa using h)
    simp only [dval]
    omega
def nth (L : List Nat) (j : Nat) : Nat := L.getD j 0
theorem nth_lt {L : List Nat} (h : ∀ d ∈ L, d < 10) (i : Nat) : nth L i < 10 := getD_lt h i
end Go.Proofs.YtjklbbmgjjdalaaGreatDoor
namespace Go.Proofs.YtjklbbmgjjdalaaGreatDoor
open Go.RowKit
def lenOf : Value → Nat | .slice _ n _ => n | _ => 0
def U8 (d : Nat) : Value := .int .u8 (d : Int)
def RdN (w : World) (p : Option Addr) (n cap : Nat) (L : List Nat) : Prop :=
  L.length = n ∧ n ≤ cap ∧ cap ≤ maxLen ∧ (∀ d ∈ L, d < 10) ∧
  ((p = none ∧ n = 0 ∧ cap = 0) ∨ ∃ b off, p = some ⟨b, off, none⟩ ∧ b < w.heap.size ∧ ∀ j, j < n → w.cell? ⟨b, off + j, none⟩ = some (.int .u8 (nth L j : Int)))
theorem RdN.len {w : World} {p : Option Addr} {n cap : Nat} {L : List Nat} (h : RdN w p n cap L) : L.length = n := h.1
theorem RdN.dig {w : World} {p : Option Addr} {n cap : Nat} {L : List Nat} (h : RdN w p n cap L) : ∀ d ∈ L, d < 10 := h.2.2.2.1
theorem RdN.le {w : World} {p : Option Addr} {n cap : Nat} {L : List Nat} (h : RdN w p n cap L) : n ≤ cap := h.2.1
theorem RdN.max {w : World} {p : Option Addr} {n cap : Nat} {L : List Nat} (h : RdN w p n cap L) : cap ≤ maxLen := h.2.2.1
theorem RdN.below {w w' : World} {p : Option Addr} {n cap : Nat} {L : List Nat} (h : RdN w p n cap L) (hb : Below w.heap.size w w') : RdN w' p n cap L := by
  obtain ⟨h1, h2, h3, h4, h5⟩ := h
  refine ⟨h1, h2, h3, h4, ?_⟩
  rcases h5 with h5 | ⟨b, off, h6, h7, h8⟩
  · exact .inl h5
  · exact .inr ⟨b, off, h6, Nat.lt_of_lt_of_le h7 hb.size, fun j hj => (hb.cell (p := ⟨b, off + j, none⟩) h7).trans (h8 j hj)⟩
theorem RdN.nil (w : World) : RdN w none 0 0 [] := ⟨rfl, Nat.le_refl _, Nat.zero_le _, by simp, .inl ⟨rfl, rfl, rfl⟩⟩
theorem RdN.front {w : World} {p : Option Addr} {n cap : Nat} {L : List Nat} (h : RdN w p n cap L) {k : Nat} (hk : k ≤ n) : RdN w p k cap (L.take k) := by
  obtain ⟨h1, h2, h3, h4, h5⟩ := h
  refine ⟨by simp; omega, by omega, h3, fun d hd => h4 d (List.mem_of_mem_take hd), ?_⟩
  rcases h5 with ⟨h5, h6, h7⟩ | ⟨b, off, h6, h7, h8⟩
  · exact .inl ⟨h5, by omega, h7⟩
  · refine .inr ⟨b, off, h6, h7, fun j hj => ?_⟩
    rw [h8 j (by omega)]
    simp [nth, List.getD, List.getElem?_take, hj]
theorem own_cells {w : World} {base e : Nat} {v : Value} {n : Nat} {L : List Nat} (h : w.ownsRow base e 1 v n (L.map U8)) (hd : ∀ d ∈ L, d < 10) :
    ∃ p cap, v = .slice p n cap ∧ RdN w p n cap L ∧ ∀ x, p = some x → base ≤ x.block := by
  obtain ⟨hl, h⟩ := h
  have hl' : L.length = n := by simpa using hl
  rcases h with ⟨rfl, rfl⟩ | ⟨g, cap, cur, rfl, hg, hh, hn, hm, hs, ht⟩
  · exact ⟨none, 0, rfl, by have : L = [] := List.eq_nil_of_length_eq_zero hl'; subst this; exact RdN.nil w, fun x hx => by cases hx⟩
  · refine ⟨some ⟨g, 0, none⟩, cap, rfl, ⟨hl', hn, hm, hd, .inr ⟨g, 0, rfl, ?_, fun j hj => ?_⟩⟩, fun x hx => by cases hx; exact hg⟩
    · rcases Nat.lt_or_ge g w.heap.size with h' | h'
      · exact h'
      · rw [Array.getElem?_eq_none h'] at hh; cases hh
    · have hj' : j < L.length := by omega
      have e1 : (cur.toList.take (n * 1))[j]? = some (U8 L[j]) := by rw [ht]; simp [hj']
      have e2 : cur[j]? = some (U8 L[j]) := by
        rw [List.getElem?_take, if_pos (by omega)] at e1
        simpa using e1
      simp only [World.cell?, hh, Nat.zero_add]
      simp [e2, U8, nth, List.getD, hj']
theorem news1 (w : World) (v : Value) (t : TypeId) : ∀ j u, [v][j]? = some u → (w.alloc (.cells #[v] t)).cell? ((⟨w.heap.size, 0, none⟩ : Addr).add j) = some u := by
  intro j u hj
  match j, hj with
  | 0, hj => simp at hj; subst hj; simp [Addr.add]
theorem one1 (d : Nat) : ∀ u ∈ [U8 d], u.oneCell' = true := by
  intro u hu
  simp at hu
  subst hu
  rfl
def RetN (L : List Nat) (W : World) (e : Ending) (w' : World) : Prop := ∃ p n cap, e = .returned (.slice p n cap) ∧ RdN w' p n cap L ∧ Below W.heap.size W w' ∧ ∀ x, p = some x → W.heap.size ≤ x.block
theorem RetN.of_own {L : List Nat} {W w' : World} {e : Nat} {v : Value} (h : w'.ownsRow W.heap.size e 1 v L.length (L.map U8)) (hd : ∀ d ∈ L, d < 10) (hb : Below W.heap.size W w') : RetN L W (.returned v) w' := by
  obtain ⟨p, cap, rfl, hr, hf⟩ := own_cells h hd
  exact ⟨p, _, cap, rfl, hr, hb, hf⟩
theorem RetN.mk {L : List Nat} {W w' : World} {p : Option Addr} {n cap : Nat} (hr : RdN w' p n cap L) (hb : Below W.heap.size W w') (hf : ∀ x, p = some x → W.heap.size ≤ x.block) : RetN L W (.returned (.slice p n cap)) w' := ⟨p, n, cap, rfl, hr, hb, hf⟩
def RetC (p : Option Addr) (cap : Nat) (L : List Nat) (W : World) (e : Ending) (w' : World) : Prop := ∃ n, e = .returned (.slice p n cap) ∧ RdN w' p n cap L ∧ W = w'
theorem own_below {w w' : World} {base e size n : Nat} {v : Value} {xs : List Value} (h : w.ownsRow base e size v n xs) (hb : Below w.heap.size w w') : w'.ownsRow base e size v n xs := by
  obtain ⟨h1, h2⟩ := h
  refine ⟨h1, ?_⟩
  rcases h2 with h2 | ⟨g, cap, cur, hv, hg, hh, r⟩
  · exact .inl h2
  · refine .inr ⟨g, cap, cur, hv, hg, ?_, r⟩
    rw [hb.block g (by
      rcases Nat.lt_or_ge g w.heap.size with h' | h'
      · exact h'
      · rw [Array.getElem?_eq_none h'] at hh; cases hh)]
    exact hh
theorem RdN.grown {w w' : World} {row : Option Nat} {p : Option Addr} {n cap : Nat} {L : List Nat} (h : RdN w p n cap L) (hg : w.grownBy w' row) (hne : ∀ x, p = some x → some x.block ≠ row) : RdN w' p n cap L := by
  obtain ⟨h1, h2, h3, h4, h5⟩ := h
  refine ⟨h1, h2, h3, h4, ?_⟩
  rcases h5 with h5 | ⟨b, off, rfl, h7, h8⟩
  · exact .inl h5
  · exact .inr ⟨b, off, rfl, Nat.lt_of_lt_of_le h7 hg.size, fun j hj => by
      exact (World.cell?_of_block (a := ⟨b, off + j, none⟩) (hg.block b h7 (hne _ rfl))).trans (h8 j hj)⟩
theorem RdN.stored {w : World} {p : Option Addr} {n cap : Nat} {L : List Nat} (h : RdN w p n cap L) (a : Addr) (u : Value) (hne : ∀ x, p = some x → x.block ≠ a.block) : RdN (w.setCell a u) p n cap L := by
  obtain ⟨h1, h2, h3, h4, h5⟩ := h
  refine ⟨h1, h2, h3, h4, ?_⟩
  rcases h5 with h5 | ⟨b, off, rfl, h7, h8⟩
  · exact .inl h5
  · exact .inr ⟨b, off, rfl, by simpa [World.setCell] using h7, fun j hj => by
      exact (World.cell?_of_block (a := ⟨b, off + j, none⟩) (Below.heap_setCell w a u b (hne _ rfl))).trans (h8 j hj)⟩
theorem RdN.alloc {w : World} {p : Option Addr} {n cap : Nat} {L : List Nat} (h : RdN w p n cap L) (o : Obj) : RdN (w.alloc o) p n cap L := h.below ((Below.refl _ _).alloc (Nat.le_refl _) o)
theorem made_zeros (n : Nat) : (madeCells #[Value.int .u8 0] (n * 1)).toList = (List.replicate n 0).map U8 := by
  apply List.ext_getElem
  · simp [madeCells]
  · intro i h1 h2
    simp [madeCells, U8, Nat.mod_one]
theorem nth_cell {L : List Nat} {j : Nat} (h : j < L.length) : (L.map U8)[j]? = some (.int .u8 (nth L j : Int)) := by simp [nth, List.getD, h, U8]
theorem wpList_append_dig {P : Program} (w : World) {ops : Array Oper} {rest : List Oper} {o : Oper} {a : Act} {Q : Exit → Act → World → Prop} (hgd : o.guard = none) (s x : Operand) (t : TypeId)
    (ho : o.op = .call { callee := .builtin .append, args := #[s, x], argTypes := #[t, t] })
    (base : Nat) (e : TypeId) (i : TypeInfo) (ht : P.underlying t = some (.slice e)) (hi : P.info? e = some i) (hz : i.zero = some (.int .u8 0))
    (hsize : i.size = 1) (hby : i.bytes = 1) (v : Value) (n : Nat) (L : List Nat) (hs : a.eval s = v) (hown : w.ownsRow base e 1 v n (L.map U8))
    (q : Option Addr) (m cap : Nat) (B : List Nat) (hx : a.eval x = .slice q m cap) (hB : RdN w q m cap B) (h63 : n + m ≤ 1000000) (hbase : base ≤ w.heap.size)
    (h : ∀ v' w', w'.ownsRow base e 1 v' (n + m) ((L ++ B).map U8) → w.grownBy w' v.ownBlock → wpList P ops Q rest (a.put o.dst v') w') : wpList P ops Q (o :: rest) a w := by
  obtain ⟨h1, h2, h3, h4, h5⟩ := hB
  rcases h5 with ⟨rfl, rfl, rfl⟩ | ⟨b, off, rfl, h7, h8⟩
  · have : B = [] := List.eq_nil_of_length_eq_zero h1
    subst this
    exact wpList_append_own_none hgd s x t ho base e i 1 ht hi v n (L.map U8) hs hown hx (h v w (by simpa using hown) ⟨rfl, rfl, rfl, Nat.le_refl _, fun _ _ _ => rfl⟩)
  · refine wpList_append_own w hgd s x t ho base e i (.int .u8 0) 1 1 ht hi hz hsize hby rfl (by decide) v n (L.map U8) hs hown ⟨b, off, none⟩ m cap (B.map U8) hx (by simp [h1]) ?_ ?_ (by unfold maxLen; omega) (by omega) hbase (fun v' w' r1 r2 _ => h v' w' (by simpa using r1) r2)
    · intro j u hj
      have hjl : j < B.length := by
        rcases Nat.lt_or_ge j B.length with h' | h'
        · exact h'
        · simp [h'] at hj
      have hj2 : some (Value.int .u8 (nth B j : Int)) = some u := by rw [← hj, nth_cell hjl]
      rw [← hj2]
      have e : (⟨b, off, none⟩ : Addr).add j = ⟨b, off + j, none⟩ := by
        unfold Addr.add
        split
        · rename_i h0; subst h0; rfl
        · rfl
      rw [e]
      exact h8 j (by omega)
    · intro u hu
      simp only [List.mem_map] at hu
      obtain ⟨d, _, rfl⟩ := hu
      rfl
end Go.Proofs.YtjklbbmgjjdalaaGreatDoor
namespace Go.Proofs.YtjklbbmgjjdalaaGreatDoor
open Go.RowKit
structure Kept (N : Nat) (w : World) where
  v : World
  h : Below N w v
instance (N : Nat) (w : World) : Nonempty (Kept N w) := ⟨⟨w, Below.refl _ _⟩⟩
theorem Kept.cell {N : Nat} {w : World} {b o : Nat} {u : Value} (h : w.cell? ⟨b, o, none⟩ = some u) (hb : b < N) : ∀ x : Kept N w, x.v.cell? ⟨b, o, none⟩ = some u := fun x => (x.h.cell (p := ⟨b, o, none⟩) hb).trans h
theorem lt_of_cell {w : World} {b o : Nat} {u : Value} (h : w.cell? ⟨b, o, none⟩ = some u) : b < w.heap.size := by
  rcases Nat.lt_or_ge b w.heap.size with h' | h'
  · exact h'
  · simp [World.cell?, Array.getElem?_eq_none h'] at h
theorem Kept.at {w : World} {b o : Nat} {u : Value} (h : w.cell? ⟨b, o, none⟩ = some u) : ∀ x : Kept w.heap.size w, x.v.cell? ⟨b, o, none⟩ = some u := Kept.cell h (lt_of_cell h)
theorem kept_drew (N : Nat) (w : World) (hN : N ≤ w.heap.size) : ∃ x : Kept N w, w.drew = x.v := ⟨⟨w.drew, Below.drew (Below.refl _ _)⟩, rfl⟩
theorem six_heap {w : World} {g : Nat} {t : TypeId} {c0 c1 c2 c3 c4 c5 : Value} (v0 v1 v2 v3 v4 v5 : Value) (h : w.heap[g]? = some (.cells #[c0, c1, c2, c3, c4, c5] t (0, 0))) :
    ((((((w.setCell ⟨g, 0, none⟩ v0).setCell ⟨g, 1, none⟩ v1).setCell ⟨g, 2, none⟩ v2).setCell ⟨g, 3, none⟩ v3).setCell ⟨g, 4, none⟩ v4).setCell ⟨g, 5, none⟩ v5).heap[g]? = some (.cells #[v0, v1, v2, v3, v4, v5] t (0, 0)) ∧
    ((∀ b, b ≠ g → ((((((w.setCell ⟨g, 0, none⟩ v0).setCell ⟨g, 1, none⟩ v1).setCell ⟨g, 2, none⟩ v2).setCell ⟨g, 3, none⟩ v3).setCell ⟨g, 4, none⟩ v4).setCell ⟨g, 5, none⟩ v5).heap[b]? = w.heap[b]?) ∧
    (∀ N, N ≤ g → Below N w ((((((w.setCell ⟨g, 0, none⟩ v0).setCell ⟨g, 1, none⟩ v1).setCell ⟨g, 2, none⟩ v2).setCell ⟨g, 3, none⟩ v3).setCell ⟨g, 4, none⟩ v4).setCell ⟨g, 5, none⟩ v5))) := by
  refine ⟨?_, fun b hb => ?_, fun N hN => ?_⟩
  · have h0 := heap_setCell_same w g 0 _ _ v0 h
    have h1 := heap_setCell_same _ g 1 _ _ v1 h0
    have h2 := heap_setCell_same _ g 2 _ _ v2 h1
    have h3 := heap_setCell_same _ g 3 _ _ v3 h2
    have h4 := heap_setCell_same _ g 4 _ _ v4 h3
    have h5 := heap_setCell_same _ g 5 _ _ v5 h4
    rw [h5]
    simp
  · rw [heap_setCell_other _ _ _ _ hb, heap_setCell_other _ _ _ _ hb, heap_setCell_other _ _ _ _ hb, heap_setCell_other _ _ _ _ hb, heap_setCell_other _ _ _ _ hb, heap_setCell_other _ _ _ _ hb]
  · exact Below.setCell (Below.setCell (Below.setCell (Below.setCell (Below.setCell (Below.setCell (Below.refl _ _) hN _) hN _) hN _) hN _) hN _) hN _
def nthO : List Oper → Nat → List Oper
  | [], _ => []
  | o :: _, 0 => [o]
  | _ :: r, n + 1 => nthO r n
theorem nthO_zero (o : Oper) (r : List Oper) : nthO (o :: r) 0 = [o] := rfl
theorem nthO_succ (o : Oper) (r : List Oper) (n : Nat) : nthO (o :: r) (n + 1) = nthO r n := rfl
theorem nthO_get : ∀ (l : List Oper) (i : Nat), nthO l i = l[i]?.toList
  | [], i => by simp [nthO]
  | o :: r, 0 => by simp [nthO]
  | o :: r, n + 1 => by rw [nthO_succ, nthO_get r n]; simp
theorem pick_nil (l : List Oper) : pick l [] = [] := rfl
theorem pick_cons (l : List Oper) (i : Nat) (r : List Nat) : pick l (i :: r) = List.append (nthO l i) (pick l r) := by
  rw [nthO_get]
  unfold pick
  rw [List.filterMap_cons]
  cases l[i]? <;> rfl
end Go.Proofs.YtjklbbmgjjdalaaGreatDoor
namespace Go.Proofs.YtjklbbmgjjdalaaGreatDoor
open Go.RowKit Go.Joins
theorem setCells_block (b : Nat) (T : TypeId) (fr : Nat × Nat) : ∀ (vs X A : List Value) (w : World), X.length = vs.length → w.heap[b]? = some (.cells (A ++ X).toArray T fr) → (w.setCells b A.length vs).heap[b]? = some (.cells (A ++ vs).toArray T fr)
  | [], X, A, w, hl, h => by
    have : X = [] := List.eq_nil_of_length_eq_zero hl
    subst this
    exact h
  | v :: vs, X, A, w, hl, h => by
    cases X with
    | nil => cases hl
    | cons x X =>
      have h1 : (w.setCell ⟨b, A.length, none⟩ v).heap[b]? = some (.cells ((A ++ [v]) ++ X).toArray T fr) := by
        rw [block_setCell h v]
        congr 2
        apply Array.ext'
        simp
      have h2 := setCells_block b T fr vs X (A ++ [v]) _ (by simpa using hl) h1
      rw [List.length_append, List.append_assoc] at h2
      exact h2
theorem store_block {w : World} {b : Nat} {C : Array Value} {T : TypeId} {fr : Nat × Nat} (h : w.heap[b]? = some (.cells C T fr)) (vs : List Value) (hl : vs.length = C.size) : (w.setCells b 0 vs).heap[b]? = some (.cells vs.toArray T fr) := by
  have := setCells_block b T fr vs C.toList [] w (by simpa using hl.symm) (by simpa using h)
  simpa using this
theorem store_below {B b : Nat} {a : World} (hb : B ≤ b) : ∀ (vs : List Value) (o : Nat) (w : World), Below B a w → Below B a (w.setCells b o vs)
  | [], _, _, h => h
  | v :: vs, o, w, h => store_below hb vs (o + 1) _ (h.setCell (by show B ≤ b; exact hb) v)
theorem store_other {b c : Nat} (hne : c ≠ b) : ∀ (vs : List Value) (o : Nat) (w : World), (w.setCells b o vs).heap[c]? = w.heap[c]?
  | [], _, _ => rfl
  | v :: vs, o, w => (store_other hne vs (o + 1) _).trans (heap_setCell_other _ _ _ _ hne)
theorem block_there {w : World} {b : Nat} {C : Array Value} {T : TypeId} (h : w.heap[b]? = some (.cells C T (0, 0))) (n : Nat) (hn : n ≤ C.size) : w.there b 0 n := fun j hj => by
  rw [Nat.zero_add]
  refine ⟨?_, unfrozen_of_block h j⟩
  rw [cell_of_block h, Array.getElem?_eq_getElem (by omega)]
  rfl
theorem block_range {w : World} {b : Nat} {C : Array Value} {T : TypeId} {fr : Nat × Nat} (h : w.heap[b]? = some (.cells C T fr)) (cs : List Value) (hc : C = cs.toArray) : w.rangeAt b 0 cs := fun j v hv => by
  rw [Nat.zero_add, cell_of_block h, hc]
  simpa using hv
end Go.Proofs.YtjklbbmgjjdalaaGreatDoor
