/- Slices of tokens in memory, and what Split hands back. -/
import Derived.Test.YtipnedgmmpdpjaaDoorTokH
import Derived.WalkMore
import Derived.OwnWalk
import Derived.Laws.AppendOwnNone
import Derived.Laws.OwnMore
import Derived.Laws.MakeOwn
set_option linter.unusedSimpArgs false
set_option linter.unusedVariables false
namespace Go.Proofs.YtipnedgmmpdpjaaDoor
open Go.RowKit

abbrev tTk : TypeId := 35
abbrev tRk : TypeId := 30
def tkc (x : Tk) : List Value := [.int .i64 x.1, .string ⟨x.2.1.toArray⟩, .int .i64 (x.2.2 : Int)]
theorem info_tk : (Tryd.prog.info? 35).map (fun i => (i.zero, i.size, i.bytes)) = some (some (.agg #[.int .i64 0, .string ⟨#[]⟩, .int .i64 0]), 3, 32) := by kernel_rfl
theorem info_rk : (Tryd.prog.info? 30).map (fun i => (i.zero, i.size, i.bytes)) = some (some (.agg #[.int .i64 0, .string ⟨#[]⟩, .int .i64 0]), 3, 32) := by kernel_rfl
theorem news3 (w : World) (a b c : Value) (t : TypeId) : ∀ j u, [a, b, c][j]? = some u → (w.alloc (.cells #[a, b, c] t)).cell? ((⟨w.heap.size, 0, none⟩ : Addr).add j) = some u := by
  intro j u hj
  match j, hj with
  | 0, hj => simp at hj; subst hj; simp [Addr.add]
  | 1, hj => simp at hj; subst hj; simp [Addr.add]
  | 2, hj => simp at hj; subst hj; simp [Addr.add]
theorem one3 (x : Tk) : ∀ u ∈ tkc x, u.oneCell' = true := by
  intro u hu
  simp only [tkc, List.mem_cons, List.not_mem_nil, or_false] at hu
  rcases hu with rfl | rfl | rfl
  all_goals rfl
theorem tk_snoc (Ts : List Tk) (q : Tk) : (Ts ++ [q]).flatMap tkc = Ts.flatMap tkc ++ tkc q := by rw [List.flatMap_append]; simp [List.flatMap_cons]
theorem tk_len (Ts : List Tk) : (Ts.flatMap tkc).length = Ts.length * 3 := by
  induction Ts with
  | nil => rfl
  | cons q Ts ih => rw [List.flatMap_cons, List.length_append, ih, List.length_cons]; show 3 + _ = _; omega
theorem tk_at (Ts : List Tk) : ∀ (i : Nat) (x : Tk), Ts[i]? = some x → ∀ k, k < 3 → (Ts.flatMap tkc)[i * 3 + k]? = (tkc x)[k]? := by
  induction Ts with
  | nil => intro i x hx; simp at hx
  | cons q Ts ih =>
    intro i x hx k hk
    have hc : (tkc q).length = 3 := rfl
    cases i with
    | zero =>
      simp only [List.getElem?_cons_zero, Option.some.injEq] at hx
      subst hx
      rw [List.flatMap_cons, List.getElem?_append_left (by rw [hc]; omega)]
      congr 1
      omega
    | succ i =>
      rw [List.getElem?_cons_succ] at hx
      rw [List.flatMap_cons, List.getElem?_append_right (by rw [hc]; omega), hc]
      have := ih i x hx k hk
      rw [← this]
      congr 1
      omega

/-- The slice's parts read as the tokens. -/
def RdT (w : World) (p : Option Addr) (n cap : Nat) (Ts : List Tk) : Prop :=
  Ts.length = n ∧ n ≤ cap ∧ cap ≤ maxLen ∧
  ((p = none ∧ n = 0 ∧ cap = 0) ∨ ∃ b, p = some ⟨b, 0, none⟩ ∧ b < w.heap.size ∧ ∀ (j : Nat) (x : Tk), Ts[j]? = some x → w.cell? ⟨b, j * 3, none⟩ = some (.int .i64 x.1) ∧ w.cell? ⟨b, j * 3 + 1, none⟩ = some (.string ⟨x.2.1.toArray⟩) ∧ w.cell? ⟨b, j * 3 + 2, none⟩ = some (.int .i64 (x.2.2 : Int)))
theorem RdT.nil (w : World) : RdT w none 0 0 [] := ⟨rfl, Nat.le_refl _, Nat.zero_le _, .inl ⟨rfl, rfl, rfl⟩⟩
theorem RdT.below {w w' : World} {p : Option Addr} {n cap : Nat} {Ts : List Tk} (h : RdT w p n cap Ts) (hb : Below w.heap.size w w') : RdT w' p n cap Ts := by
  obtain ⟨h1, h2, h3, h4⟩ := h
  refine ⟨h1, h2, h3, ?_⟩
  rcases h4 with h4 | ⟨b, h5, h6, h7⟩
  · exact .inl h4
  · refine .inr ⟨b, h5, Nat.lt_of_lt_of_le h6 hb.size, fun j x hx => ?_⟩
    obtain ⟨k1, k2, k3⟩ := h7 j x hx
    exact ⟨(hb.cell (p := ⟨b, j * 3, none⟩) h6).trans k1, (hb.cell (p := ⟨b, j * 3 + 1, none⟩) h6).trans k2, (hb.cell (p := ⟨b, j * 3 + 2, none⟩) h6).trans k3⟩
theorem RdT.of_own {w : World} {base : Nat} {e : TypeId} {v : Value} {Ts : List Tk} (h : w.ownsRow base e 3 v Ts.length (Ts.flatMap tkc)) : ∃ p cap, v = .slice p Ts.length cap ∧ RdT w p Ts.length cap Ts := by
  obtain ⟨hl, ⟨hv, h0⟩ | ⟨r, cap, cur, rfl, hg, hh, hn', hm, hs, ht⟩⟩ := h
  · have : Ts = [] := List.eq_nil_of_length_eq_zero h0
    subst this
    exact ⟨none, 0, hv, RdT.nil w⟩
  · refine ⟨some ⟨r, 0, none⟩, cap, rfl, rfl, hn', hm, .inr ⟨r, rfl, ?_, fun j x hx => ?_⟩⟩
    · rcases Nat.lt_or_ge r w.heap.size with h' | h'
      · exact h'
      · rw [Array.getElem?_eq_none h'] at hh; cases hh
    · have hj := (List.getElem?_eq_some_iff.1 hx).1
      have key : ∀ k u, k < 3 → (tkc x)[k]? = some u → w.cell? ⟨r, j * 3 + k, none⟩ = some u := by
        intro k u hk hu
        rw [← tk_at Ts j x hx k hk, ← ht, List.getElem?_take, if_pos (by omega)] at hu
        simp only [World.cell?, hh]
        simpa using hu
      exact ⟨key 0 _ (by omega) rfl, key 1 _ (by omega) rfl, key 2 _ (by omega) rfl⟩
theorem own_below {w w' : World} {base e size n : Nat} {v : Value} {xs : List Value} (h : w.ownsRow base e size v n xs) (hb : Below w.heap.size w w') : w'.ownsRow base e size v n xs := by
  obtain ⟨h1, h2⟩ := h
  refine ⟨h1, ?_⟩
  rcases h2 with h2 | ⟨g, cap, cur, hv, hg, hh, r⟩
  · exact .inl h2
  · refine .inr ⟨g, cap, cur, hv, hg, ?_, r⟩
    rw [hb.block g (by
      rcases Nat.lt_or_ge g w.heap.size with h' | h'
      · exact h'
      · rw [Array.getElem?_eq_none h'] at hh; cases hh)]
    exact hh

/-- Tokens ahead of what is still to be read. -/
def sm (p : List Tk) : Option (List Tk) × Nat → Option (List Tk) × Nat
  | (some r, x) => (some (p ++ r), x)
  | (none, x) => (none, x)
theorem sm_nil (x : Option (List Tk) × Nat) : sm [] x = x := by
  obtain ⟨o, y⟩ := x
  cases o <;> rfl
theorem sm_sm (p q : List Tk) (x : Option (List Tk) × Nat) : sm p (sm q x) = sm (p ++ q) x := by
  obtain ⟨o, y⟩ := x
  cases o <;> simp [sm]
theorem spl_blank (L : List UInt8) (i : Nat) (h : nx L i = 32) : spl L i = spl L (i + 1) := by
  rw [spl_step L i (lt_of_nx (by omega)), if_pos h]
theorem spl_none (L : List UInt8) (i : Nat) (hi : i < L.length) (h : nx L i ≠ 32) (ht : tok L i = none) : spl L i = (none, i) := by
  rw [spl_step L i hi, if_neg h, ht]
theorem spl_some (L : List UInt8) (i : Nat) (hi : i < L.length) (h : nx L i ≠ 32) {k : Int} {t : List UInt8} {n : Nat} (ht : tok L i = some (k, t, n)) : spl L i = sm [(k, t, i)] (spl L (i + n)) := by
  rw [spl_step L i hi, if_neg h, ht]
  simp only []
  cases hs : spl L (i + n) with
  | mk o y => cases o <;> rfl

/-- What Split hands back; ok, er: its third answer. -/
def RetS (ok er : Value) (R : Option (List Tk) × Nat) (W : World) (e : Ending) (w' : World) : Prop := Below W.heap.size W w' ∧ match R with
  | (some Ts, _) => ∃ p cap, e = .returned (.tuple #[.slice p Ts.length cap, .int .i64 0, ok]) ∧ RdT w' p Ts.length cap Ts
  | (none, x) => e = .returned (.tuple #[.slice none 0 0, .int .i64 (x : Int), er])
theorem rets_some {ok er : Value} {R : Option (List Tk) × Nat} {W w' : World} {Ts : List Tk} {x : Nat} {v : Value} {e : TypeId} {base : Nat} (h : R = (some Ts, x)) (hown : w'.ownsRow base e 3 v Ts.length (Ts.flatMap tkc)) (hb : Below W.heap.size W w') : RetS ok er R W (.returned (.tuple #[v, .int .i64 0, ok])) w' := by
  subst h
  obtain ⟨p, cap, rfl, hr⟩ := RdT.of_own hown
  exact ⟨hb, p, cap, rfl, hr⟩
theorem rets_none {ok er : Value} {R : Option (List Tk) × Nat} {W w' : World} {x : Nat} (h : R = (none, x)) (hb : Below W.heap.size W w') : RetS ok er R W (.returned (.tuple #[.slice none 0 0, .int .i64 (x : Int), er])) w' := by
  subst h
  exact ⟨hb, rfl⟩
end Go.Proofs.YtipnedgmmpdpjaaDoor
