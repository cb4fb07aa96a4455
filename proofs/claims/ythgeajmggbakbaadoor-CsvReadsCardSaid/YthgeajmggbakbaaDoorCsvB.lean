/- CSV: the plain law: what is written is read. No function of the program. -/
import Derived.Test.YthgeajmggbakbaaDoorCsvA
set_option linter.unusedSimpArgs false
set_option linter.unusedVariables false
namespace Go.Proofs.YthgeajmggbakbaaDoor
open Go.RowKit

theorem pP_plain (L rest : Bs) (h : hasQ L = false) (he : endsB rest = true) : pP (L ++ rest) = some (L, rest) := by
  induction L with
  | nil =>
    cases rest with
    | nil => rfl
    | cons c r => rw [List.nil_append, pP, if_pos he]
  | cons c L ih =>
    unfold hasQ at h
    rw [List.any_cons, Bool.or_eq_false_iff] at h
    obtain ⟨h1, h2⟩ := h
    simp only [Bool.or_eq_false_iff, beq_eq_false_iff_ne] at h1
    obtain ⟨⟨⟨a1, a2⟩, a3⟩, a4⟩ := h1
    have hn : endsB (c :: (L ++ rest)) = false := by
      unfold endsB
      have : nlN (c :: (L ++ rest)) = 0 := by
        unfold nlN
        split
        · rename_i e; injection e with e1 _; exact absurd e1 a3
        · rename_i e; injection e with e1 _; exact absurd e1 a4
        · rfl
      simp [this, a1]
    rw [List.cons_append, pP, hn]
    simp only [Bool.false_eq_true, ↓reduceIte]
    rw [if_neg (by simp [a2, a3]), ih h2]
    rfl
theorem ends_no34 {r : Bs} (h : endsB (34 :: r) = true) : False := by
  rcases ends_cases h with h | ⟨_, h⟩ | ⟨_, h⟩ | ⟨_, h⟩ <;> cases h
theorem pQ_end (rest : Bs) (he : endsB rest = true) : pQ (34 :: rest) = some ([], rest) := by
  rw [pQ]
  · simp [he]
  · rintro r _ rfl
    exact ends_no34 he
theorem dblL_q (L : Bs) : dblL (34 :: L) = 34 :: 34 :: dblL L := by simp [dblL]
theorem dblL_n {c : UInt8} (L : Bs) (h : c ≠ 34) : dblL (c :: L) = c :: dblL L := by simp [dblL, h]
theorem pQ_dbl (L rest : Bs) (he : endsB rest = true) : pQ (dblL L ++ 34 :: rest) = some (L, rest) := by
  induction L with
  | nil => exact pQ_end rest he
  | cons c L ih =>
    by_cases hc : c = 34
    · subst hc
      rw [dblL_q, List.cons_append, List.cons_append, pQ, ih]
      rfl
    · rw [dblL_n L hc, List.cons_append, pQ]
      · rw [if_neg hc, ih]
        rfl
      · intro r h
        exact absurd h hc
theorem pCell_cell (L rest : Bs) (he : endsB rest = true) : pCell (cellL L ++ rest) = some (L, rest) := by
  unfold cellL
  by_cases h : hasQ L = true
  · rw [if_pos h]
    have := pQ_dbl L rest he
    rw [show (34 :: (dblL L ++ [34])) ++ rest = 34 :: (dblL L ++ 34 :: rest) from by simp]
    exact this
  · have h : hasQ L = false := by simpa using h
    rw [h]
    simp only [Bool.false_eq_true, ↓reduceIte]
    rw [pCell_p, pP_plain L rest h he]
    intro r e
    cases L with
    | nil =>
      rw [List.nil_append] at e
      subst e
      exact ends_no34 he
    | cons c L =>
      cases e
      simp [hasQ] at h
theorem pRow_com (rest : Bs) : ∀ (R : List Bs) (f : Nat), R ≠ [] → R.length ≤ f → pRow f (comL (R.map cellL) ++ 13 :: 10 :: rest) = some (R, rest)
  | [], f, h, _ => absurd rfl h
  | [c], 0, _, hf => by simp at hf
  | [c], f + 1, _, _ => by
    unfold pRow
    rw [List.map_cons, List.map_nil, comL, pCell_cell c _ (by simp [endsB, nlN])]
    rfl
  | c :: d :: r, 0, _, hf => by simp at hf
  | c :: d :: r, f + 1, _, hf => by
    unfold pRow
    have e : comL ((c :: d :: r).map cellL) ++ 13 :: 10 :: rest = cellL c ++ 44 :: (comL ((d :: r).map cellL) ++ 13 :: 10 :: rest) := by
      simp [comL]
    rw [e, pCell_cell c _ (by simp [endsB])]
    simp only
    rw [pRow_com rest (d :: r) f (by simp) (by simp at hf ⊢; omega)]
    rfl
theorem pRow_row (R : List Bs) (rest : Bs) (f : Nat) (hne : R ≠ []) (hf : R.length ≤ f) : pRow f (rowL R ++ 13 :: 10 :: rest) = some (R, rest) := by
  unfold rowL
  by_cases h : R = [[]]
  · subst h
    rw [if_pos rfl]
    cases f with
    | zero => simp at hf
    | succ f =>
      unfold pRow
      rw [show pCell ([34, 34] ++ 13 :: 10 :: rest) = pQ (34 :: 13 :: 10 :: rest) from rfl, pQ_end _ (by simp [endsB, nlN])]
      rfl
  · rw [if_neg h]
    exact pRow_com rest R f hne hf
theorem comL_len : ∀ (R : List Bs), R.length ≤ (comL R).length + 1
  | [] => by simp
  | [c] => by simp
  | c :: d :: r => by
    have := comL_len (d :: r)
    rw [comL]
    · simp only [List.length_append, List.length_cons] at this ⊢
      omega
    · simp
theorem rowL_len (R : List Bs) : R.length ≤ (rowL R).length + 1 := by
  unfold rowL
  split
  · rename_i h; subst h; simp
  · have := comL_len (R.map cellL)
    simpa using this
theorem wr_read : ∀ (rows : List (List Bs)) (f : Nat) (acc : List (List Bs)), (∀ R ∈ rows, R ≠ []) → rows.length < f → pRead f acc (wrL rows) = (acc ++ rows, 0, true)
  | [], 0, acc, _, h => by simp at h
  | [], f + 1, acc, _, _ => by simp [pRead, wrL]
  | R :: rows, 0, acc, _, h => by simp at h
  | R :: rows, f + 1, acc, hne, hf => by
    have e : wrL (R :: rows) = rowL R ++ 13 :: 10 :: wrL rows := by simp [wrL]
    unfold pRead
    rw [e, if_neg (by simp)]
    rw [pRow_row R (wrL rows) _ (hne R (by simp)) (by have := rowL_len R; simp; omega)]
    simp only
    rw [wr_read rows f _ (fun R h => hne R (by simp [h])) (by simp at hf; omega)]
    simp
theorem wrL_len (rows : List (List Bs)) : rows.length ≤ (wrL rows).length := by
  induction rows with
  | nil => simp
  | cons R rows ih =>
    have e : wrL (R :: rows) = rowL R ++ 13 :: 10 :: wrL rows := by simp [wrL]
    rw [e]
    simp
    omega
theorem read_wr (rows : List (List Bs)) (hne : ∀ R ∈ rows, R ≠ []) : rRead (wrL rows) = (rows, 0, true) := by
  rw [read_is, wr_read rows _ [] hne (by have := wrL_len rows; omega)]
  rfl
/-! How long the texts are. -/
theorem dblL_len (L : Bs) : (dblL L).length ≤ 2 * L.length := by
  induction L with
  | nil => simp [dblL]
  | cons c L ih =>
    by_cases hc : c = 34
    · subst hc; rw [dblL_q]; simp only [List.length_cons]; omega
    · rw [dblL_n L hc]; simp only [List.length_cons]; omega
theorem cellL_len (L : Bs) : (cellL L).length ≤ 2 * L.length + 2 := by
  unfold cellL
  split
  · have := dblL_len L
    simp
    omega
  · omega
/-- A row's bytes. -/
def szR (R : List Bs) : Nat := (R.map List.length).sum
theorem comL_up : ∀ (R : List Bs), (comL R).length ≤ szR R + R.length
  | [] => by simp [comL, szR]
  | [c] => by simp [comL, szR]
  | c :: d :: r => by
    have := comL_up (d :: r)
    rw [comL]
    · simp only [szR, List.map_cons, List.sum_cons, List.length_append, List.length_cons] at this ⊢
      omega
    · simp
theorem szR_cells (R : List Bs) : szR (R.map cellL) ≤ 2 * szR R + 2 * R.length := by
  induction R with
  | nil => simp [szR]
  | cons c R ih =>
    have := cellL_len c
    simp only [szR, List.map_cons, List.sum_cons, List.length_cons] at ih ⊢
    omega
theorem rowL_up (R : List Bs) : (rowL R).length ≤ 2 * szR R + 3 * R.length + 2 := by
  unfold rowL
  split
  · simp
  · have h1 := comL_up (R.map cellL)
    have h2 := szR_cells R
    simp only [List.length_map] at h1
    omega
end Go.Proofs.YthgeajmggbakbaaDoor
