/- CSV: the plain law: cells, rows and texts; what is read. No function of the program. -/
import Derived.Test.YthgeajmggbakbaaDoorRow
set_option linter.unusedSimpArgs false
set_option linter.unusedVariables false
namespace Go.Proofs.YthgeajmggbakbaaDoor
open Go.RowKit

abbrev Bs := List UInt8
/-- Does a text need quotes? -/
def hasQ (L : Bs) : Bool := L.any fun c => c == 44 || c == 34 || c == 13 || c == 10
def dblL (L : Bs) : Bs := L.flatMap fun c => if c = 34 then [34, 34] else [c]
/-- A cell, a row, and rows, as texts. -/
def cellL (L : Bs) : Bs := if hasQ L then 34 :: (dblL L ++ [34]) else L
def comL : List Bs → Bs
  | [] => []
  | [c] => c
  | c :: r => c ++ 44 :: comL r
def rowL (R : List Bs) : Bs := if R = [[]] then [34, 34] else comL (R.map cellL)
def wrL (rows : List (List Bs)) : Bs := rows.flatMap fun r => rowL r ++ [13, 10]

/-- How long the end of a row is that stands here. -/
def nlN : Bs → Nat
  | 13 :: 10 :: _ => 2
  | 10 :: _ => 1
  | _ => 0
/-- May a cell end here? -/
def endsB (L : Bs) : Bool := L.isEmpty || L.head? == some 44 || decide (0 < nlN L)
/-- A cell between quotes, behind the first one: the cell, and what stands behind it. -/
def pQ : Bs → Option (Bs × Bs)
  | [] => none
  | 34 :: 34 :: r => (pQ r).map fun x => (34 :: x.1, x.2)
  | c :: r => if c = 34 then (if endsB r then some ([], r) else none) else (pQ r).map fun x => (c :: x.1, x.2)
/-- A plain cell. -/
def pP : Bs → Option (Bs × Bs)
  | [] => some ([], [])
  | c :: r => if endsB (c :: r) then some ([], c :: r) else if c = 34 ∨ c = 13 then none else (pP r).map fun x => (c :: x.1, x.2)
def pCell : Bs → Option (Bs × Bs)
  | 34 :: r => pQ r
  | L => pP L
/-- A row: its cells, and what stands behind it. -/
def pRow : Nat → Bs → Option (List Bs × Bs)
  | 0, _ => none
  | f + 1, L => match pCell L with
    | none => none
    | some (c, 44 :: r) => (pRow f r).map fun x => (c :: x.1, x.2)
    | some (c, r) => some ([c], r.drop (nlN r))
/-- All rows; or at which row there is none. -/
def pRead : Nat → List (List Bs) → Bs → List (List Bs) × Nat × Bool
  | 0, rows, _ => (rows, 0, true)
  | f + 1, rows, L => if L = [] then (rows, 0, true) else match pRow (L.length + 1) L with
    | none => ([], rows.length + 1, false)
    | some (r, rest) => pRead f (rows ++ [r]) rest

/-- The document's states: 0 a cell begins, 1 within a plain one, 2 within quotes, 3 behind a quote there, 4 behind a CR. -/
structure St where
  pt : Nat
  cell : Bs
  row : List Bs
  rows : List (List Bs)
def rEnd (x : St) (row : Bool) : St := if row then ⟨0, [], [], x.rows ++ [x.row ++ [x.cell]]⟩ else ⟨0, [], x.row ++ [x.cell], x.rows⟩
def rStep (x : St) (c : UInt8) : Option St :=
  if x.pt = 4 then (if c = 10 then some (rEnd x true) else none)
  else if x.pt = 2 then (if c = 34 then some { x with pt := 3 } else some { x with cell := x.cell ++ [c] })
  else if c = 44 then some (rEnd x false)
  else if c = 10 then some (rEnd x true)
  else if c = 13 then some { x with pt := 4 }
  else if c = 34 ∧ x.pt = 0 then some { x with pt := 2 }
  else if c = 34 ∧ x.pt = 3 then some { x with cell := x.cell ++ [34], pt := 2 }
  else if c = 34 ∨ x.pt = 3 then none
  else some { x with cell := x.cell ++ [c], pt := 1 }
def rFin (x : St) : List (List Bs) × Nat × Bool :=
  if x.pt = 2 ∨ x.pt = 4 then ([], x.rows.length + 1, false)
  else if x.pt ≠ 0 ∨ 0 < x.row.length then ((rEnd x true).rows, 0, true) else (x.rows, 0, true)
def rRun (x : St) : Bs → List (List Bs) × Nat × Bool
  | [] => rFin x
  | c :: L => match rStep x c with
    | none => ([], x.rows.length + 1, false)
    | some y => rRun y L
def rRead (L : Bs) : List (List Bs) × Nat × Bool := rRun ⟨0, [], [], []⟩ L

/-! The two readings agree. -/
theorem ends_cases {L : Bs} (h : endsB L = true) : L = [] ∨ (∃ r, L = 44 :: r) ∨ (∃ r, L = 10 :: r) ∨ (∃ r, L = 13 :: 10 :: r) := by
  match L, h with
  | [], _ => exact .inl rfl
  | c :: r, h =>
    by_cases h1 : c = 44
    · subst h1; exact .inr (.inl ⟨r, rfl⟩)
    · by_cases h2 : c = 10
      · subst h2; exact .inr (.inr (.inl ⟨r, rfl⟩))
      · unfold endsB at h
        simp [h1] at h
        unfold nlN at h
        split at h
        · rename_i r' e; cases e; exact .inr (.inr (.inr ⟨_, rfl⟩))
        · rename_i e; cases e; exact absurd rfl h2
        · omega
theorem not_ends {c : UInt8} {r : Bs} (h : endsB (c :: r) = false) : c ≠ 44 ∧ c ≠ 10 ∧ (c = 13 → ∀ r', r ≠ 10 :: r') := by
  refine ⟨?_, ?_, ?_⟩
  · rintro rfl; simp [endsB] at h
  · rintro rfl; simp [endsB, nlN] at h
  · rintro rfl r' rfl; simp [endsB, nlN] at h
/-- A CR alone is no end. -/
theorem run_cr (x : St) (hx : x.pt ≠ 4) (hx2 : x.pt ≠ 2) (r : Bs) (h : ∀ r', r ≠ 10 :: r') : rRun x (13 :: r) = ([], x.rows.length + 1, false) := by
  have e : rStep x 13 = some { x with pt := 4 } := by unfold rStep; simp [hx, hx2]
  rw [rRun, e]
  cases r with
  | nil => simp [rRun, rFin]
  | cons d r' =>
    have hd : d ≠ 10 := fun e => h r' (by rw [e])
    have e2 : rStep { x with pt := 4 } d = none := by unfold rStep; simp [hd]
    simp only [rRun, e2]
theorem run_q (L : Bs) : ∀ (cell : Bs) (row : List Bs) (rows : List (List Bs)), rRun ⟨2, cell, row, rows⟩ L = match pQ L with
    | none => ([], rows.length + 1, false)
    | some (c, rest) => rRun ⟨3, cell ++ c, row, rows⟩ rest := by
  induction L using pQ.induct with
  | case1 => intro cell row rows; simp [rRun, rFin, pQ]
  | case2 r ih =>
    intro cell row rows
    have e1 : rStep ⟨2, cell, row, rows⟩ 34 = some ⟨3, cell, row, rows⟩ := by simp [rStep]
    have e2 : rStep ⟨3, cell, row, rows⟩ 34 = some ⟨2, cell ++ [34], row, rows⟩ := by simp [rStep]
    rw [rRun, e1]
    simp only
    rw [rRun, e2]
    simp only
    rw [ih, pQ]
    cases pQ r with
    | none => rfl
    | some x => simp
  | case3 r hends hne =>
    intro cell row rows
    have e1 : rStep ⟨2, cell, row, rows⟩ 34 = some ⟨3, cell, row, rows⟩ := by simp [rStep]
    rw [rRun, e1, pQ]
    · simp [hends]
    · exact hne
  | case4 r hends hne =>
    intro cell row rows
    have e1 : rStep ⟨2, cell, row, rows⟩ 34 = some ⟨3, cell, row, rows⟩ := by simp [rStep]
    rw [rRun, e1, pQ]
    · have hends : endsB r = false := by simpa using hends
      simp only [hends, Bool.false_eq_true, ↓reduceIte]
      cases r with
      | nil => simp [endsB] at hends
      | cons d r' =>
        obtain ⟨h1, h2, h3⟩ := not_ends hends
        by_cases h13 : d = 13
        · subst h13
          exact run_cr _ (by simp) (by simp) r' (h3 rfl)
        · have h34 : d ≠ 34 := fun e => hne r' rfl (by rw [e])
          have e2 : rStep ⟨3, cell, row, rows⟩ d = none := by simp [rStep, h1, h2, h13, h34]
          simp only [rRun, e2]
    · exact hne
  | case5 c r hne hc ih =>
    intro cell row rows
    have e1 : rStep ⟨2, cell, row, rows⟩ c = some ⟨2, cell ++ [c], row, rows⟩ := by simp [rStep, hc]
    rw [rRun, e1]
    simp only
    rw [ih, pQ]
    · rw [if_neg hc]
      cases pQ r with
      | none => rfl
      | some x => simp
    · exact hne
theorem run_p (L : Bs) : ∀ (a : Nat) (_ : a = 1 ∨ a = 0) (cell : Bs) (row : List Bs) (rows : List (List Bs)), (a = 0 → L.head? ≠ some 34) → match pP L with
    | none => rRun ⟨a, cell, row, rows⟩ L = ([], rows.length + 1, false)
    | some (c, rest) => ∃ b, (b = 1 ∨ b = 0) ∧ (b = 0 → a = 0 ∧ rest = L) ∧ rRun ⟨a, cell, row, rows⟩ L = rRun ⟨b, cell ++ c, row, rows⟩ rest := by
  induction L with
  | nil => intro a ha cell row rows _; exact ⟨a, ha, fun h => ⟨h, rfl⟩, by simp⟩
  | cons d r ih =>
    intro a ha cell row rows hq
    unfold pP
    by_cases he : endsB (d :: r) = true
    · rw [if_pos he]
      exact ⟨a, ha, fun h => ⟨h, rfl⟩, by simp⟩
    · have he : endsB (d :: r) = false := by simpa using he
      rw [he]
      simp only [Bool.false_eq_true, ↓reduceIte]
      obtain ⟨h1, h2, h3⟩ := not_ends he
      by_cases h34 : d = 34
      · subst h34
        have ha1 : a = 1 := by
          rcases ha with h | h
          · exact h
          · exact absurd rfl (hq h)
        subst ha1
        have e2 : rStep ⟨1, cell, row, rows⟩ 34 = none := by simp [rStep]
        simp only [true_or, ↓reduceIte]
        rw [rRun, e2]
      · by_cases h13 : d = 13
        · subst h13
          simp only [or_true, ↓reduceIte]
          exact run_cr _ (by rcases ha with rfl | rfl <;> simp) (by rcases ha with rfl | rfl <;> simp) r (h3 rfl)
        · rw [if_neg (by simp [h34, h13])]
          have e2 : rStep ⟨a, cell, row, rows⟩ d = some ⟨1, cell ++ [d], row, rows⟩ := by
            rcases ha with rfl | rfl <;> simp [rStep, h1, h2, h13, h34]
          have := ih 1 (.inl rfl) (cell ++ [d]) row rows (fun h => by cases h)
          cases hp : pP r with
          | none =>
            rw [hp] at this
            simp only [Option.map_none]
            rw [rRun, e2]
            exact this
          | some x =>
            rw [hp] at this
            obtain ⟨b, hb, hb0, hr⟩ := this
            simp only [Option.map_some]
            refine ⟨b, hb, fun h => ?_, ?_⟩
            · have := (hb0 h).1
              cases this
            · rw [rRun, e2]
              simp only
              rw [hr]
              simp
theorem pQ_ends : ∀ (L : Bs) (c rest : Bs), pQ L = some (c, rest) → endsB rest = true ∧ rest.length < L.length := by
  intro L
  induction L using pQ.induct with
  | case1 => intro c rest h; simp [pQ] at h
  | case2 r ih =>
    intro c rest h
    rw [pQ] at h
    obtain ⟨x, hx, he⟩ := Option.map_eq_some_iff.1 h
    cases he
    have := ih x.1 x.2 hx
    exact ⟨this.1, by simp only [List.length_cons]; omega⟩
  | case3 r hends hne =>
    intro c rest h
    rw [pQ] at h
    · simp [hends] at h
      obtain ⟨_, rfl⟩ := h
      exact ⟨hends, by simp⟩
    · exact hne
  | case4 r hends hne =>
    intro c rest h
    rw [pQ] at h
    · simp [hends] at h
    · exact hne
  | case5 c r hne hc ih =>
    intro c' rest h
    rw [pQ] at h
    · rw [if_neg hc] at h
      obtain ⟨x, hx, he⟩ := Option.map_eq_some_iff.1 h
      cases he
      have := ih x.1 x.2 hx
      exact ⟨this.1, by simp only [List.length_cons]; omega⟩
    · exact hne
theorem pP_ends : ∀ (L : Bs) (c rest : Bs), pP L = some (c, rest) → endsB rest = true ∧ rest.length ≤ L.length := by
  intro L
  induction L with
  | nil => intro c rest h; simp [pP] at h; obtain ⟨rfl, rfl⟩ := h; exact ⟨rfl, Nat.le_refl _⟩
  | cons d r ih =>
    intro c rest h
    unfold pP at h
    by_cases he : endsB (d :: r) = true
    · rw [if_pos he] at h
      simp at h
      obtain ⟨_, rfl⟩ := h
      exact ⟨he, Nat.le_refl _⟩
    · rw [if_neg he] at h
      split at h
      · cases h
      · obtain ⟨x, hx, hx'⟩ := Option.map_eq_some_iff.1 h
        cases hx'
        have := ih x.1 x.2 hx
        exact ⟨this.1, by simp only [List.length_cons]; omega⟩
theorem pCell_ends (L : Bs) (c rest : Bs) (h : pCell L = some (c, rest)) : endsB rest = true ∧ rest.length ≤ L.length := by
  unfold pCell at h
  split at h
  · have := pQ_ends _ _ _ h
    exact ⟨this.1, by simp only [List.length_cons]; omega⟩
  · exact pP_ends _ _ _ h
theorem pCell_p {L : Bs} (h : ∀ r, L ≠ 34 :: r) : pCell L = pP L := by
  unfold pCell
  split
  · exact absurd rfl (h _)
  · rfl
/-- A cell: either there is none, or the states stand at its end. -/
theorem run_cell (L : Bs) (row : List Bs) (rows : List (List Bs)) : match pCell L with
    | none => rRun ⟨0, [], row, rows⟩ L = ([], rows.length + 1, false)
    | some (c, rest) => ∃ b, (b = 0 ∨ b = 1 ∨ b = 3) ∧ (b = 0 → rest = L) ∧ rRun ⟨0, [], row, rows⟩ L = rRun ⟨b, c, row, rows⟩ rest := by
  by_cases hL : ∃ r, L = 34 :: r
  · obtain ⟨r, rfl⟩ := hL
    rw [show pCell (34 :: r) = pQ r from rfl]
    have e1 : rStep ⟨0, [], row, rows⟩ 34 = some ⟨2, [], row, rows⟩ := by simp [rStep]
    have h := run_q r [] row rows
    cases hq : pQ r with
    | none => rw [hq] at h; simp only; rw [rRun, e1]; exact h
    | some x =>
      rw [hq] at h
      refine ⟨3, .inr (.inr rfl), fun h => (by cases h), ?_⟩
      rw [rRun, e1]
      simpa using h
  · have hne : ∀ r, L ≠ 34 :: r := fun r e => hL ⟨r, e⟩
    rw [pCell_p hne]
    have h := run_p L 0 (.inr rfl) [] row rows (fun _ e => by
      cases L with
      | nil => simp at e
      | cons d r => simp at e; exact hne r (by rw [e]))
    cases hq : pP L with
    | none => rw [hq] at h; exact h
    | some x =>
      rw [hq] at h
      obtain ⟨b, hb, hb0, hr⟩ := h
      exact ⟨b, by rcases hb with h | h <;> simp [h], fun h => (hb0 h).2, by simpa using hr⟩
/-- At a cell's end. -/
theorem run_end (b : Nat) (hb : b = 0 ∨ b = 1 ∨ b = 3) (c : Bs) (row : List Bs) (rows : List (List Bs)) (rest : Bs) (he : endsB rest = true) (h0 : b ≠ 0 ∨ rest ≠ [] ∨ row ≠ []) :
    (∃ r, rest = 44 :: r ∧ rRun ⟨b, c, row, rows⟩ rest = rRun ⟨0, [], row ++ [c], rows⟩ r) ∨ ((∀ r, rest ≠ 44 :: r) ∧ rRun ⟨b, c, row, rows⟩ rest = rRun ⟨0, [], [], rows ++ [row ++ [c]]⟩ (rest.drop (nlN rest))) := by
  have hb2 : b ≠ 2 := by rcases hb with rfl | rfl | rfl <;> decide
  have hb4 : b ≠ 4 := by rcases hb with rfl | rfl | rfl <;> decide
  rcases ends_cases he with rfl | ⟨r, rfl⟩ | ⟨r, rfl⟩ | ⟨r, rfl⟩
  · right
    refine ⟨fun r h => (by cases h), ?_⟩
    have : b ≠ 0 ∨ 0 < row.length := by
      rcases h0 with h | h | h
      · exact .inl h
      · exact absurd rfl h
      · exact .inr (List.length_pos_iff.2 h)
    simp [rRun, rFin, hb2, hb4, this, rEnd, nlN]
  · left
    refine ⟨r, rfl, ?_⟩
    have e : rStep ⟨b, c, row, rows⟩ 44 = some ⟨0, [], row ++ [c], rows⟩ := by simp [rStep, hb2, hb4, rEnd]
    rw [rRun, e]
  · right
    refine ⟨fun r h => (by cases h), ?_⟩
    have e : rStep ⟨b, c, row, rows⟩ 10 = some ⟨0, [], [], rows ++ [row ++ [c]]⟩ := by simp [rStep, hb2, hb4, rEnd]
    rw [rRun, e]
    simp [nlN]
  · right
    refine ⟨fun r h => (by cases h), ?_⟩
    have e : rStep ⟨b, c, row, rows⟩ 13 = some ⟨4, c, row, rows⟩ := by simp [rStep, hb2, hb4]
    have e2 : rStep ⟨4, c, row, rows⟩ 10 = some ⟨0, [], [], rows ++ [row ++ [c]]⟩ := by simp [rStep, rEnd]
    rw [rRun, e]
    simp only
    rw [rRun, e2]
    simp [nlN]
theorem run_row : ∀ (f : Nat) (L : Bs) (row : List Bs) (rows : List (List Bs)), L.length < f → (L ≠ [] ∨ row ≠ []) → match pRow f L with
    | none => rRun ⟨0, [], row, rows⟩ L = ([], rows.length + 1, false)
    | some (cs, rest) => rRun ⟨0, [], row, rows⟩ L = rRun ⟨0, [], [], rows ++ [row ++ cs]⟩ rest
  | 0, L, row, rows, h, _ => by omega
  | f + 1, L, row, rows, hf, hne => by
    unfold pRow
    have h := run_cell L row rows
    cases hc : pCell L with
    | none => rw [hc] at h; exact h
    | some x =>
      obtain ⟨c, rest⟩ := x
      rw [hc] at h
      obtain ⟨b, hb, hb0, hr⟩ := h
      obtain ⟨he, hl⟩ := pCell_ends L c rest hc
      have h0 : b ≠ 0 ∨ rest ≠ [] ∨ row ≠ [] := by
        by_cases hb' : b = 0
        · rw [hb0 hb']
          rcases hne with h | h
          · exact .inr (.inl h)
          · exact .inr (.inr h)
        · exact .inl hb'
      rcases run_end b hb c row rows rest he h0 with ⟨r, rfl, hr2⟩ | ⟨hn, hr2⟩
      · simp only
        have ih := run_row f r (row ++ [c]) rows (by simp at hl; omega) (.inr (by simp))
        cases hp : pRow f r with
        | none => rw [hp] at ih; simp only [Option.map_none]; rw [hr, hr2]; exact ih
        | some y =>
          rw [hp] at ih
          simp only [Option.map_some]
          rw [hr, hr2, ih]
          simp
      · have : (match some (c, rest) with
          | none => none
          | some (c, 44 :: r) => (pRow f r).map fun x => (c :: x.1, x.2)
          | some (c, r) => some ([c], r.drop (nlN r))) = some ([c], rest.drop (nlN rest)) := by
          cases rest with
          | nil => rfl
          | cons d r =>
            split
            · rename_i h; cases h
            · rename_i h; cases h; exact absurd rfl (hn _)
            · rename_i h; cases h; rfl
        rw [this]
        simp only
        rw [hr, hr2]
theorem nlN_le (L : Bs) : nlN L ≤ L.length := by
  unfold nlN
  split <;> simp
theorem pRow_less : ∀ (f : Nat) (L : Bs) (cs : List Bs) (rest : Bs), pRow f L = some (cs, rest) → L ≠ [] → rest.length < L.length
  | 0, L, cs, rest, h, _ => by simp [pRow] at h
  | f + 1, L, cs, rest, h, hne => by
    have hall : ∀ (f : Nat) (L : Bs) (cs : List Bs) (rest : Bs), pRow f L = some (cs, rest) → rest.length ≤ L.length := by
      intro f
      induction f with
      | zero => intro L cs rest h; simp [pRow] at h
      | succ f ih =>
        intro L cs rest h
        unfold pRow at h
        cases hc : pCell L with
        | none => rw [hc] at h; simp at h
        | some x =>
          obtain ⟨c, r0⟩ := x
          rw [hc] at h
          obtain ⟨he, hl⟩ := pCell_ends L c r0 hc
          split at h
          · cases h
          · rename_i h'; cases h'
            obtain ⟨y, hy, hy'⟩ := Option.map_eq_some_iff.1 h
            cases hy'
            have := ih _ _ _ hy
            simp at hl
            omega
          · rename_i h'; cases h'
            cases h
            simp
            omega
    unfold pRow at h
    cases hc : pCell L with
    | none => rw [hc] at h; simp at h
    | some x =>
      obtain ⟨c, r0⟩ := x
      rw [hc] at h
      obtain ⟨he, hl⟩ := pCell_ends L c r0 hc
      split at h
      · cases h
      · rename_i h'; cases h'
        obtain ⟨y, hy, hy'⟩ := Option.map_eq_some_iff.1 h
        cases hy'
        have := hall _ _ _ _ hy
        simp at hl
        omega
      · rename_i hn h'; cases h'
        cases h
        simp only [List.length_drop]
        rcases ends_cases he with rfl | ⟨r, rfl⟩ | ⟨r, rfl⟩ | ⟨r, rfl⟩
        · have : 0 < L.length := List.length_pos_iff.2 hne
          simp
          omega
        · exact (hn r rfl).elim
        · simp [nlN] at hl ⊢; omega
        · simp [nlN] at hl ⊢; omega
theorem run_read : ∀ (f : Nat) (rows : List (List Bs)) (L : Bs), L.length < f → rRun ⟨0, [], [], rows⟩ L = pRead f rows L
  | 0, rows, L, h => by omega
  | f + 1, rows, L, h => by
    unfold pRead
    by_cases hn : L = []
    · subst hn; simp [rRun, rFin]
    · rw [if_neg hn]
      have hr := run_row (L.length + 1) L [] rows (by omega) (.inl hn)
      cases hp : pRow (L.length + 1) L with
      | none => rw [hp] at hr; exact hr
      | some x =>
        rw [hp] at hr
        simp only
        rw [hr]
        have hl := pRow_less _ _ _ _ hp hn
        exact run_read f _ _ (by omega)
theorem read_is (L : Bs) : rRead L = pRead (L.length + 1) [] L := run_read _ _ _ (by omega)
end Go.Proofs.YthgeajmggbakbaaDoor
