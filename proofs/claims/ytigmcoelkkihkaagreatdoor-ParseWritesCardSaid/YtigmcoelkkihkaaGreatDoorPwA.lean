/- Tokens of a text, in plain lists of bytes: what the program and the document's answer both compute. Rows of whatever elements in memory: a slice reads as a list; rows of the call's own. No function of the program. Trees: formulas over numbers, as plain trees and as they lie in memory. A region that draws its order, reads, calls callees that leave the world alone, and ends in a forced tail (a store, an append): walked by the quick rules of a quiet region. No function of the program. -/
import Derived.Test.YtigmcoelkkihkaaGreatDoorBase
import Derived.Test.YtigmcoelkkihkaaGreatDoorShelf
import Derived.OwnWalk
import Derived.Laws.AppendOwnNone
import Derived.Laws.OwnMore
import Derived.Laws.MakeOwn
import Derived.Laws.BytesArg
import Derived.Deep.DeepCutAuto
import Derived.Deep.LoopGhost
import Derived.Lib.Hide
import Derived.StillTailTactics
import Derived.Deep.QuietTactic
import Derived.BigQuiet
set_option linter.unusedSimpArgs false
set_option linter.unusedVariables false
namespace Go.Proofs.YtigmcoelkkihkaaGreatDoor.Tks
open Go.RowKit

/-- The byte at a place; 0 behind the end. -/
def nx (L : List UInt8) (i : Nat) : Nat := (L.getD i 0).toNat
def dgB (c : Nat) : Bool := decide (48 ≤ c) && decide (c ≤ 57)
def upB (c : Nat) : Bool := decide (65 ≤ c) && decide (c ≤ 90)
def nmB (c : Nat) : Bool := upB c || dgB c
/-- How many bytes from a place on are of a kind. -/
def runN (p : Nat → Bool) (L : List UInt8) (i : Nat) : Nat := ((L.drop i).takeWhile fun c => p c.toNat).length

theorem nx_lt (L : List UInt8) (i : Nat) : nx L i < 256 := (L.getD i 0).toNat_lt
theorem nx_get {L : List UInt8} {i : Nat} (h : i < L.length) : nx L i = L[i].toNat := by simp [nx, List.getD, h]
theorem nx_end {L : List UInt8} {i : Nat} (h : L.length ≤ i) : nx L i = 0 := by simp [nx, List.getD, List.getElem?_eq_none h]
theorem nx_drop (L : List UInt8) (i j : Nat) : nx (L.drop i) j = nx L (i + j) := by simp [nx, List.getD, List.getElem?_drop]
theorem lt_of_nx {L : List UInt8} {i : Nat} (h : nx L i ≠ 0) : i < L.length := by
  rcases Nat.lt_or_ge i L.length with h' | h'
  · exact h'
  · exact absurd (nx_end h') h

theorem run_step {p : Nat → Bool} (h0 : p 0 = false) (L : List UInt8) (i : Nat) : runN p L i = if p (nx L i) then runN p L (i + 1) + 1 else 0 := by
  unfold runN
  rcases Nat.lt_or_ge i L.length with h | h
  · rw [List.drop_eq_getElem_cons h, List.takeWhile_cons, nx_get h]
    split <;> simp
  · rw [List.drop_of_length_le h, nx_end h, h0]
    simp
theorem run_le (p : Nat → Bool) (L : List UInt8) (i : Nat) : runN p L i ≤ L.length - i := by
  have := (List.takeWhile_sublist (fun c : UInt8 => p c.toNat) (l := L.drop i)).length_le
  simpa [runN] using this
theorem run_stop {p : Nat → Bool} (h0 : p 0 = false) (L : List UInt8) : ∀ (n i : Nat), n = L.length - i → p (nx L (i + runN p L i)) = false := by
  intro n
  induction n with
  | zero =>
    intro i hn
    rw [nx_end (by omega), h0]
  | succ n ih =>
    intro i hn
    by_cases hp : p (nx L i) = true
    · have := ih (i + 1) (by omega)
      rw [run_step h0 L i, if_pos hp]
      rw [show i + (runN p L (i + 1) + 1) = i + 1 + runN p L (i + 1) by omega]
      exact this
    · rw [run_step h0 L i, if_neg hp]
      simpa using hp
theorem run_end {p : Nat → Bool} (h0 : p 0 = false) (L : List UInt8) (i : Nat) : p (nx L (i + runN p L i)) = false := run_stop h0 L _ i rfl

/-- A number's length; 0: a point ends it. -/
def numN (L : List UInt8) (i : Nat) : Nat := if nx L (i + runN dgB L i) = 46 then (if runN dgB L (i + runN dgB L i + 1) = 0 then 0 else runN dgB L i + 1 + runN dgB L (i + runN dgB L i + 1)) else runN dgB L i

/-- The text behind a quote, and how many bytes it has with the quote at its end. -/
def quo : List UInt8 → Option (List UInt8 × Nat)
  | [] => none
  | [c] => if c.toNat = 34 then some ([], 1) else none
  | c :: d :: r => if c.toNat = 34 then (if d.toNat = 34 then (match quo r with | some (t, n) => some (c :: t, n + 2) | none => none) else some ([], 1)) else (match quo (d :: r) with | some (t, n) => some (c :: t, n + 1) | none => none)

def sREF : List UInt8 := [35, 82, 69, 70, 33]
def sgs : List (List UInt8) := [[60, 62], [60, 61], [62, 61], [60], [62], [61], [43], [45], [42], [47], [38], [40], [41], [44], [58]]
/-- The sign at a text's beginning; empty: there is none. -/
def sgn (l : List UInt8) : List UInt8 := (sgs.find? fun x => Lib.hasPrefix l x).getD []

/-- A token: kind, text, place. -/
abbrev Tk := Int × List UInt8 × Nat
/-- The token at a place, and how many bytes it has. -/
def tok (L : List UInt8) (i : Nat) : Option (Int × List UInt8 × Nat) :=
  if dgB (nx L i) then (if numN L i = 0 then none else some (1, (L.drop i).take (numN L i), numN L i))
  else if upB (nx L i) then some (3, (L.drop i).take (runN nmB L i), runN nmB L i)
  else if nx L i = 34 then (match quo (L.drop (i + 1)) with | some (t, n) => some (2, t, n + 1) | none => none)
  else if Lib.hasPrefix (L.drop i) sREF then some (5, sREF, 5)
  else if sgn (L.drop i) = [] then none else some (4, sgn (L.drop i), (sgn (L.drop i)).length)

def splF (L : List UInt8) : Nat → Nat → Option (List Tk) × Nat
  | 0, _ => (some [], 0)
  | f + 1, i =>
    if L.length ≤ i then (some [], 0)
    else if nx L i = 32 then splF L f (i + 1)
    else match tok L i with
      | none => (none, i)
      | some (k, t, n) => match splF L f (i + n) with
        | (some r, x) => (some ((k, t, i) :: r), x)
        | (none, x) => (none, x)
/-- The tokens from a place on, or where there is none. -/
def spl (L : List UInt8) (i : Nat) : Option (List Tk) × Nat := splF L (L.length + 1 - i) i

theorem quo_pos : ∀ (l : List UInt8) (t : List UInt8) (n : Nat), quo l = some (t, n) → 1 ≤ n ∧ n ≤ l.length ∧ t.length + 1 ≤ n
  | [], t, n, h => by simp [quo] at h
  | [c], t, n, h => by
    simp only [quo] at h
    split at h
    · cases h; simp
    · cases h
  | c :: d :: r, t, n, h => by
    have i1 := quo_pos r
    have i2 := quo_pos (d :: r)
    simp only [quo] at h
    split at h
    · split at h
      · split at h
        · rename_i t' n' e
          cases h
          have := i1 t' n' e
          simp
          omega
        · cases h
      · cases h
        simp
    · split at h
      · rename_i t' n' e
        cases h
        have := i2 t' n' e
        simp at this ⊢
        omega
      · cases h
theorem hasPrefix_len {l p : List UInt8} (h : Lib.hasPrefix l p = true) : p.length ≤ l.length := by
  unfold Lib.hasPrefix at h
  exact (List.isPrefixOf_iff_prefix.1 h).length_le
theorem sgn_prefix (l : List UInt8) (h : sgn l ≠ []) : Lib.hasPrefix l (sgn l) = true := by
  unfold sgn at h ⊢
  cases e : sgs.find? fun x => Lib.hasPrefix l x with
  | none => rw [e] at h; exact absurd rfl h
  | some x => have := List.find?_some e; simpa using this
theorem sgn_len (l : List UInt8) : (sgn l).length ≤ 2 := by
  unfold sgn
  cases e : sgs.find? fun x => Lib.hasPrefix l x with
  | none => simp
  | some x =>
    have := List.mem_of_find?_eq_some e
    simp only [sgs, List.mem_cons, List.not_mem_nil, or_false] at this
    rcases this with rfl | rfl | rfl | rfl | rfl | rfl | rfl | rfl | rfl | rfl | rfl | rfl | rfl | rfl | rfl
    all_goals simp
theorem tok_pos {L : List UInt8} {i : Nat} (hi : i < L.length) {k : Int} {t : List UInt8} {n : Nat} (h : tok L i = some (k, t, n)) : 1 ≤ n ∧ i + n ≤ L.length ∧ t.length ≤ n := by
  unfold tok at h
  split at h
  · split at h
    · cases h
    · rename_i h0
      cases h
      refine ⟨by omega, ?_, by simp; omega⟩
      unfold numN at h0 ⊢
      have r1 := run_le dgB L i
      have r2 := run_le dgB L (i + runN dgB L i + 1)
      split
      · rename_i e
        have := lt_of_nx (L := L) (i := i + runN dgB L i) (by omega)
        split <;> omega
      · omega
  · split at h
    · rename_i h0
      cases h
      have r1 := run_le nmB L i
      have r2 := run_step (p := nmB) (by decide) L i
      rw [if_pos (by simp [nmB, h0])] at r2
      exact ⟨by omega, by omega, by simp; omega⟩
    · split at h
      · split at h
        · rename_i t' n' e
          cases h
          have := quo_pos _ _ _ e
          simp at this
          omega
        · cases h
      · split at h
        · rename_i h0
          cases h
          have := hasPrefix_len h0
          simp [sREF] at this ⊢
          omega
        · split at h
          · cases h
          · rename_i h0
            cases h
            have := hasPrefix_len (sgn_prefix _ h0)
            have h1 : 1 ≤ (sgn (L.drop i)).length := by
              cases hs : sgn (L.drop i) with
              | nil => exact absurd hs h0
              | cons => simp
            simp at this
            omega
theorem splF_more (L : List UInt8) : ∀ (f g i : Nat), L.length + 1 - i ≤ f → L.length + 1 - i ≤ g → splF L f i = splF L g i := by
  intro f
  induction f with
  | zero =>
    intro g i hf hg
    cases g with
    | zero => rfl
    | succ g => rw [splF, splF, if_pos (by omega)]
  | succ f ih =>
    intro g i hf hg
    cases g with
    | zero => rw [splF, splF, if_pos (by omega)]
    | succ g =>
      rw [splF, splF]
      split
      · rfl
      · rename_i hl
        rw [ih g (i + 1) (by omega) (by omega)]
        split
        · rfl
        · cases ht : tok L i with
          | none => rfl
          | some x =>
            obtain ⟨k, t, n⟩ := x
            have := (tok_pos (by omega) ht).1
            simp only []
            rw [ih g (i + n) (by omega) (by omega)]
theorem spl_step (L : List UInt8) (i : Nat) (h : i < L.length) : spl L i = if nx L i = 32 then spl L (i + 1)
    else match tok L i with
      | none => (none, i)
      | some (k, t, n) => match spl L (i + n) with
        | (some r, x) => (some ((k, t, i) :: r), x)
        | (none, x) => (none, x) := by
  conv => lhs; unfold spl
  rw [show L.length + 1 - i = (L.length - i) + 1 by omega, splF, if_neg (by omega)]
  unfold spl
  rw [splF_more L (L.length - i) (L.length + 1 - (i + 1)) (i + 1) (by omega) (by omega)]
  split
  · rfl
  · cases ht : tok L i with
    | none => rfl
    | some x =>
      obtain ⟨k, t, n⟩ := x
      have := (tok_pos h ht).1
      simp only []
      rw [splF_more L (L.length - i) (L.length + 1 - (i + n)) (i + n) (by omega) (by omega)]
theorem spl_end (L : List UInt8) (i : Nat) (h : L.length ≤ i) : spl L i = (some [], 0) := by
  unfold spl
  cases e : L.length + 1 - i with
  | zero => rfl
  | succ f => rw [splF, if_pos h]
end Go.Proofs.YtigmcoelkkihkaaGreatDoor.Tks
namespace Go.Proofs.YtigmcoelkkihkaaGreatDoor
open Go.RowKit

theorem info_of {t : TypeId} {z : Value} {s b : Nat} (h : (Tryz.prog.info? t).map (fun i => (i.zero, i.size, i.bytes)) = some (some z, s, b)) : ∃ i, Tryz.prog.info? t = some i ∧ i.zero = some z ∧ i.size = s ∧ i.bytes = b := by
  cases hi : Tryz.prog.info? t with
  | none => rw [hi] at h; cases h
  | some i =>
    rw [hi] at h
    simp only [Option.map_some, Option.some.injEq, Prod.mk.injEq] at h
    exact ⟨i, rfl, h.1, h.2.1, h.2.2⟩
/-- Rows of different element types are different blocks. -/
theorem row_ne {w : World} {b1 b2 : Nat} {e1 e2 : TypeId} {s1 s2 : Nat} {v u : Value} {n m : Nat} {xs ys : List Value} (h1 : w.ownsRow b1 e1 s1 v n xs) (h2 : w.ownsRow b2 e2 s2 u m ys) (hne : e1 ≠ e2) : v.ownBlock = none ∨ v.ownBlock ≠ u.ownBlock := by
  obtain ⟨_, ⟨rfl, _⟩ | ⟨g, c, cur, rfl, _, hh, _⟩⟩ := h1
  · exact .inl rfl
  · obtain ⟨_, ⟨rfl, _⟩ | ⟨g', c', cur', rfl, _, hh', _⟩⟩ := h2
    · exact .inr (by simp [Value.ownBlock])
    · refine .inr fun e => ?_
      have e' : g = g' := by simpa [Value.ownBlock] using e
      subst e'
      rw [hh] at hh'
      simp only [Option.some.injEq, Obj.cells.injEq] at hh'
      exact hne hh'.2.1
theorem row_below {w w' : World} {base e size n : Nat} {v : Value} {xs : List Value} (h : w.ownsRow base e size v n xs) (hb : Below w.heap.size w w') : w'.ownsRow base e size v n xs := by
  obtain ⟨h1, h2⟩ := h
  refine ⟨h1, ?_⟩
  rcases h2 with h2 | ⟨g, cap, cur, hv, hg, hh, r⟩
  · exact .inl h2
  · refine .inr ⟨g, cap, cur, hv, hg, ?_, r⟩
    rw [hb.block g (by
      rcases Nat.lt_or_ge g w.heap.size with h' | h'
      · exact h'
      · rw [Array.getElem?_eq_none h'] at hh; cases hh)]
    exact hh
theorem row_drew {w : World} {base e size n : Nat} {v : Value} {xs : List Value} (h : w.ownsRow base e size v n xs) : w.drew.ownsRow base e size v n xs := row_below h (Below.drew (Below.refl _ _))
theorem row_drewN {w : World} {base e size n : Nat} {v : Value} {xs : List Value} (h : w.ownsRow base e size v n xs) (k : Nat) : (w.drewN k).ownsRow base e size v n xs := row_below h (bel_drewN (Below.refl _ _) k)
theorem new1 (w : World) (a : Value) (t : TypeId) : ∀ j u, [a][j]? = some u → (w.alloc (.cells #[a] t)).cell? ((⟨w.heap.size, 0, none⟩ : Addr).add j) = some u := by
  intro j u hj
  match j, hj with
  | 0, hj => simp at hj; subst hj; simp [Addr.add]
theorem new2 (w : World) (a b : Value) (t : TypeId) : ∀ j u, [a, b][j]? = some u → (w.alloc (.cells #[a, b] t)).cell? ((⟨w.heap.size, 0, none⟩ : Addr).add j) = some u := by
  intro j u hj
  match j, hj with
  | 0, hj => simp at hj; subst hj; simp [Addr.add]
  | 1, hj => simp at hj; subst hj; simp [Addr.add]
theorem new3 (w : World) (a b c : Value) (t : TypeId) : ∀ j u, [a, b, c][j]? = some u → (w.alloc (.cells #[a, b, c] t)).cell? ((⟨w.heap.size, 0, none⟩ : Addr).add j) = some u := by
  intro j u hj
  match j, hj with
  | 0, hj => simp at hj; subst hj; simp [Addr.add]
  | 1, hj => simp at hj; subst hj; simp [Addr.add]
  | 2, hj => simp at hj; subst hj; simp [Addr.add]
theorem new4 (w : World) (a b c d : Value) (t : TypeId) : ∀ j u, [a, b, c, d][j]? = some u → (w.alloc (.cells #[a, b, c, d] t)).cell? ((⟨w.heap.size, 0, none⟩ : Addr).add j) = some u := by
  intro j u hj
  match j, hj with
  | 0, hj => simp at hj; subst hj; simp [Addr.add]
  | 1, hj => simp at hj; subst hj; simp [Addr.add]
  | 2, hj => simp at hj; subst hj; simp [Addr.add]
  | 3, hj => simp at hj; subst hj; simp [Addr.add]
theorem new5 (w : World) (a b c d e : Value) (t : TypeId) : ∀ j u, [a, b, c, d, e][j]? = some u → (w.alloc (.cells #[a, b, c, d, e] t)).cell? ((⟨w.heap.size, 0, none⟩ : Addr).add j) = some u := by
  intro j u hj
  match j, hj with
  | 0, hj => simp at hj; subst hj; simp [Addr.add]
  | 1, hj => simp at hj; subst hj; simp [Addr.add]
  | 2, hj => simp at hj; subst hj; simp [Addr.add]
  | 3, hj => simp at hj; subst hj; simp [Addr.add]
  | 4, hj => simp at hj; subst hj; simp [Addr.add]

section
variable {α : Type} {enc : α → List Value} {sz : Nat}
theorem flat_len (hz : ∀ x, (enc x).length = sz) (L : List α) : (L.flatMap enc).length = L.length * sz := by
  induction L with
  | nil => simp
  | cons q L ih => rw [List.flatMap_cons, List.length_append, ih, hz, List.length_cons, Nat.succ_mul]; omega
theorem flat_at (hz : ∀ x, (enc x).length = sz) (L : List α) : ∀ (i : Nat) (x : α), L[i]? = some x → ∀ k, k < sz → (L.flatMap enc)[i * sz + k]? = (enc x)[k]? := by
  induction L with
  | nil => intro i x hx; simp at hx
  | cons q L ih =>
    intro i x hx k hk
    cases i with
    | zero =>
      simp only [List.getElem?_cons_zero, Option.some.injEq] at hx
      subst hx
      rw [List.flatMap_cons, List.getElem?_append_left (by rw [hz]; omega)]
      congr 1
      omega
    | succ i =>
      rw [List.getElem?_cons_succ] at hx
      rw [List.flatMap_cons, Nat.succ_mul, List.getElem?_append_right (by rw [hz]; omega), hz]
      have := ih i x hx k hk
      rw [← this]
      congr 1
      omega

/-- The slice's parts read as the list: its elements' cells. -/
def RdG (enc : α → List Value) (sz : Nat) (w : World) (p : Option Addr) (n : Nat) (L : List α) : Prop :=
  L.length = n ∧ (n = 0 ∨ ∃ b off, p = some ⟨b, off, none⟩ ∧ b < w.heap.size ∧ ∀ (j : Nat) (x : α), L[j]? = some x → ∀ k u, (enc x)[k]? = some u → w.cell? ⟨b, off + j * sz + k, none⟩ = some u)
theorem RdG.nil (enc : α → List Value) (sz : Nat) (w : World) (p : Option Addr) : RdG enc sz w p 0 [] := ⟨rfl, .inl rfl⟩
theorem RdG.below {w w' : World} {p : Option Addr} {n : Nat} {L : List α} (h : RdG enc sz w p n L) (hb : Below w.heap.size w w') : RdG enc sz w' p n L := by
  obtain ⟨h1, h4⟩ := h
  refine ⟨h1, ?_⟩
  rcases h4 with h4 | ⟨b, off, h5, h6, h7⟩
  · exact .inl h4
  · exact .inr ⟨b, off, h5, Nat.lt_of_lt_of_le h6 hb.size, fun j x hx k u hu => (hb.cell (p := ⟨b, off + j * sz + k, none⟩) h6).trans (h7 j x hx k u hu)⟩
theorem RdG.some {w : World} {p : Option Addr} {n : Nat} {L : List α} (h : RdG enc sz w p n L) {j : Nat} (hj : j < n) : ∃ b off, p = some ⟨b, off, none⟩ ∧ b < w.heap.size ∧ ∀ (j : Nat) (x : α), L[j]? = some x → ∀ k u, (enc x)[k]? = some u → w.cell? ⟨b, off + j * sz + k, none⟩ = some u := by
  rcases h.2 with h | h
  · omega
  · exact h
theorem RdG.of_own (hz : ∀ x, (enc x).length = sz) {w : World} {base : Nat} {e : TypeId} {v : Value} {n : Nat} {L : List α} (hn : L.length = n) (h : w.ownsRow base e sz v n (L.flatMap enc)) : ∃ p cap, v = .slice p n cap ∧ n ≤ cap ∧ cap ≤ maxLen ∧ RdG enc sz w p n L ∧ (v = .slice none 0 0 ∨ ∃ r, p = Option.some ⟨r, 0, none⟩ ∧ base ≤ r ∧ r < w.heap.size) := by
  obtain ⟨hl, ⟨hv, h0⟩ | ⟨r, cap, cur, rfl, hg, hh, hn', hm, hs, ht⟩⟩ := h
  · have : L = [] := List.eq_nil_of_length_eq_zero (by omega)
    subst this
    subst h0
    exact ⟨none, 0, hv, Nat.le_refl _, Nat.zero_le _, ⟨rfl, .inl rfl⟩, .inl hv⟩
  · have hr : r < w.heap.size := by
      rcases Nat.lt_or_ge r w.heap.size with h' | h'
      · exact h'
      · rw [Array.getElem?_eq_none h'] at hh; cases hh
    refine ⟨_, cap, rfl, hn', hm, ⟨hn, .inr ⟨r, 0, rfl, hr, fun j x hx k u hu => ?_⟩⟩, .inr ⟨r, rfl, hg, hr⟩⟩
    have hj := (List.getElem?_eq_some_iff.1 hx).1
    have hk : k < sz := by
      rw [← hz x]
      exact (List.getElem?_eq_some_iff.1 hu).1
    have hlt : j * sz + k < n * sz := by
      have : (j + 1) * sz ≤ n * sz := Nat.mul_le_mul_right _ (by omega)
      rw [Nat.succ_mul] at this
      omega
    rw [← flat_at hz L j x hx k hk, ← ht, List.getElem?_take, if_pos hlt] at hu
    simp only [World.cell?, hh, Nat.zero_add]
    simpa using hu
/-- The elements' cells by fact: one cell an element. -/
theorem RdG.at1 {enc : α → List Value} {w : World} {p : Option Addr} {n : Nat} {L : List α} {b off : Nat} (h : ∀ (j : Nat) (x : α), L[j]? = Option.some x → ∀ k u, (enc x)[k]? = Option.some u → w.cell? ⟨b, off + j * 1 + k, none⟩ = Option.some u) {j : Nat} {x : α} {u : Value} (hx : L[j]? = Option.some x) (hu : enc x = [u]) : w.cell? ⟨b, off + j, none⟩ = Option.some u := by
  have := h j x hx 0 u (by rw [hu]; rfl)
  rw [Nat.mul_one, Nat.add_zero] at this
  exact this
end
/-- Appending elements' cells. -/
theorem flat_snoc {α : Type} (enc : α → List Value) (L : List α) (x : α) : (L ++ [x]).flatMap enc = L.flatMap enc ++ enc x := by simp
end Go.Proofs.YtigmcoelkkihkaaGreatDoor
namespace Go.Proofs.YtigmcoelkkihkaaGreatDoor
open Go.RowKit

abbrev Bs := List UInt8
/-- A formula over numbers. -/
inductive Nd where
  | mk (kind num : Int) (text : Bs) (frm tor : Int) (args : List Nd)
def Nd.kind : Nd → Int | .mk k _ _ _ _ _ => k
def Nd.num : Nd → Int | .mk _ m _ _ _ _ => m
def Nd.text : Nd → Bs | .mk _ _ t _ _ _ => t
def Nd.frm : Nd → Int | .mk _ _ _ f _ _ => f
def Nd.tor : Nd → Int | .mk _ _ _ _ o _ => o
def Nd.args : Nd → List Nd | .mk _ _ _ _ _ a => a
mutual
def szN : Nd → Int → Int
  | .mk _ _ _ _ _ a, most => szL a 1 most
def szL : List Nd → Int → Int → Int
  | [], k, _ => k
  | c :: r, k, most => if k ≤ most then szL r (k + szN c (most - k)) most else k
end
mutual
def dpN : Nd → Nat
  | .mk _ _ _ _ _ a => dpL a 0 + 1
def dpL : List Nd → Nat → Nat
  | [], d => d
  | c :: r, d => dpL r (max d (dpN c))
end
theorem szN_eq (n : Nd) (m : Int) : szN n m = szL n.args 1 m := by cases n; rw [szN]; rfl
theorem dpN_eq (n : Nd) : dpN n = dpL n.args 0 + 1 := by cases n; rw [dpN]; rfl
/-- A node's cells. -/
def ndC (n : Nd) (p : Option Addr) (len cap : Nat) : List Value := [.int .i64 n.kind, .int .i64 n.num, .string ⟨n.text.toArray⟩, .int .i64 n.frm, .int .i64 n.tor, .slice p len cap]
/-- A node whose parts lie in blocks below N, as far as so deep. -/
def RdT (w : World) (N : Nat) : Nat → Nd → Option Addr → Nat → Prop
  | 0, n, p, len => n.args = [] ∧ len = 0
  | d + 1, n, p, len => n.args.length = len ∧ (len = 0 ∨ ∃ b off, p = some ⟨b, off, none⟩ ∧ b < N ∧ ∀ j c, n.args[j]? = some c → ∃ p' l' c', (∀ k u, (ndC c p' l' c')[k]? = some u → w.cell? ⟨b, off + j * 6 + k, none⟩ = some u) ∧ RdT w N d c p' l')
theorem RdT.below {w w' : World} {N : Nat} (hb : Below N w w') : ∀ {d : Nat} {n : Nd} {p : Option Addr} {len : Nat}, RdT w N d n p len → RdT w' N d n p len
  | 0, _, _, _, h => h
  | d + 1, n, p, len, h => by
    obtain ⟨h1, h2⟩ := h
    refine ⟨h1, ?_⟩
    rcases h2 with h2 | ⟨b, off, h3, h4, h5⟩
    · exact .inl h2
    · refine .inr ⟨b, off, h3, h4, fun j c hc => ?_⟩
      obtain ⟨p', l', c', h6, h7⟩ := h5 j c hc
      exact ⟨p', l', c', fun k u hu => (hb.cell (p := ⟨b, off + j * 6 + k, none⟩) h4).trans (h6 k u hu), RdT.below hb h7⟩
theorem RdT.mono {w : World} {N N' : Nat} (hN : N ≤ N') : ∀ {d : Nat} {n : Nd} {p : Option Addr} {len : Nat}, RdT w N d n p len → RdT w N' d n p len
  | 0, _, _, _, h => h
  | d + 1, n, p, len, h => by
    obtain ⟨h1, h2⟩ := h
    refine ⟨h1, ?_⟩
    rcases h2 with h2 | ⟨b, off, h3, h4, h5⟩
    · exact .inl h2
    · refine .inr ⟨b, off, h3, Nat.lt_of_lt_of_le h4 hN, fun j c hc => ?_⟩
      obtain ⟨p', l', c', h6, h7⟩ := h5 j c hc
      exact ⟨p', l', c', h6, RdT.mono hN h7⟩
theorem RdT.len {w : World} {N d : Nat} {n : Nd} {p : Option Addr} {len : Nat} (h : RdT w N d n p len) : n.args.length = len := by
  cases d with
  | zero => rw [h.1, h.2]; rfl
  | succ d => exact h.1
/-- A part's cells. -/
theorem RdT.at {w : World} {N d : Nat} {n : Nd} {p : Option Addr} {len : Nat} (h : RdT w N d n p len) {j : Nat} (hj : j < len) : ∃ d' b off c p' l' c', d = d' + 1 ∧ p = some ⟨b, off, none⟩ ∧ b < N ∧ n.args[j]? = some c ∧ RdT w N d' c p' l' ∧ w.cell? ⟨b, off + j * 6, none⟩ = some (.int .i64 c.kind) ∧ w.cell? ⟨b, off + j * 6 + 1, none⟩ = some (.int .i64 c.num) ∧ w.cell? ⟨b, off + j * 6 + 2, none⟩ = some (.string ⟨c.text.toArray⟩) ∧ w.cell? ⟨b, off + j * 6 + 3, none⟩ = some (.int .i64 c.frm) ∧ w.cell? ⟨b, off + j * 6 + 4, none⟩ = some (.int .i64 c.tor) ∧ w.cell? ⟨b, off + j * 6 + 5, none⟩ = some (.slice p' l' c') := by
  cases d with
  | zero => rw [h.2] at hj; omega
  | succ d =>
    obtain ⟨h1, h2⟩ := h
    rcases h2 with h2 | ⟨b, off, h3, h4, h5⟩
    · omega
    · obtain ⟨c, hc⟩ : ∃ c, n.args[j]? = some c := ⟨_, List.getElem?_eq_getElem (by omega)⟩
      obtain ⟨p', l', c', h6, h7⟩ := h5 j c hc
      exact ⟨d, b, off, c, p', l', c', rfl, h3, h4, hc, h7, h6 0 _ rfl, h6 1 _ rfl, h6 2 _ rfl, h6 3 _ rfl, h6 4 _ rfl, h6 5 _ rfl⟩
mutual
theorem szN_le (n : Nd) (m : Int) : 1 ≤ szN n m ∧ szN n m ≤ max m 0 + 1 := by
  cases n with
  | mk k u t f o a =>
    rw [szN]
    have h := szL_le a 1 m (by omega) (by omega)
    exact h
theorem szL_le (a : List Nd) (k m : Int) (h1 : 1 ≤ k) (h2 : k ≤ max m 0 + 1) : 1 ≤ szL a k m ∧ szL a k m ≤ max m 0 + 1 := by
  cases a with
  | nil => rw [szL]; exact ⟨h1, h2⟩
  | cons c r =>
    rw [szL]
    split
    · have hc := szN_le c (m - k)
      exact szL_le r _ m (by omega) (by omega)
    · exact ⟨h1, h2⟩
end
end Go.Proofs.YtigmcoelkkihkaaGreatDoor
namespace Go.Proofs.YtigmcoelkkihkaaGreatDoor
open Go.RowKit

/-- A quiet walk in one world alone is a still one. -/
theorem still_of_quiet {P : Program} {ops : Array Oper} {w : World} {Q : Act → Prop} : ∀ (l : List Oper) (a : Act), wpQuiet P ops (fun w' => w' = w) Q l a → wpStill P ops w Q l a
  | [], a, h => h
  | o :: rest, a, h => by
    unfold wpQuiet at h
    unfold wpStill
    by_cases hw : Region.wanted o (yielded ops a.tmps) = true
    · rw [if_pos hw] at h ⊢
      obtain ⟨v, h1, h2⟩ := h
      have h1 := h1 w rfl
      have h2 := still_of_quiet rest _ h2
      unfold Oper.quietAt at h1
      unfold Oper.still
      generalize (execOp a.eval o).run P w = r at *
      cases r with
      | ok n w1 =>
        cases n with
        | value u =>
          obtain ⟨rfl, rfl⟩ := h1
          exact ⟨rfl, h2⟩
        | skip =>
          obtain ⟨rfl, rfl⟩ := h1
          exact ⟨rfl, h2⟩
        | enter f args =>
          obtain ⟨rfl, hc⟩ := h1
          exact ⟨rfl, v, hc, h2⟩
        | _ => exact h1.elim
      | _ => exact h1.elim
    · rw [if_neg hw] at h ⊢
      exact still_of_quiet rest _ h
end Go.Proofs.YtigmcoelkkihkaaGreatDoor
