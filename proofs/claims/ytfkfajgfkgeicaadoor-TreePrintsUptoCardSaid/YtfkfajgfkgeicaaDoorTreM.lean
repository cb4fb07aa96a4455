/- Trees: 'To' builds the program's tree: plain part. -/
import Derived.Test.YtfkfajgfkgeicaaDoorTreL
import Derived.Test.YtfkfajgfkgeicaaDoorSchedT
import Derived.Maps.AppendAt
set_option linter.unusedSimpArgs false
set_option linter.unusedVariables false
namespace Go.Proofs.YtfkfajgfkgeicaaDoor
open Go.RowKit Go.Joins

/-- As RdT; the blocks that are read meet 'ok'. -/
def RdP (w : World) (ok : Nat → Prop) : Nat → Nd → Option Addr → Nat → Prop
  | 0, n, p, len => n.args = [] ∧ len = 0
  | d + 1, n, p, len => n.args.length = len ∧ (len = 0 ∨ ∃ b off, p = some ⟨b, off, none⟩ ∧ ok b ∧ ∀ j c, n.args[j]? = some c → ∃ p' l' c', (∀ k u, (ndC c p' l' c')[k]? = some u → w.cell? ⟨b, off + j * 6 + k, none⟩ = some u) ∧ RdP w ok d c p' l')
theorem RdP.carry {w w' : World} {ok ok' : Nat → Prop} (hb : ∀ b, ok b → ok' b ∧ w'.heap[b]? = w.heap[b]?) : ∀ {d : Nat} {n : Nd} {p : Option Addr} {len : Nat}, RdP w ok d n p len → RdP w' ok' d n p len
  | 0, _, _, _, h => h
  | d + 1, n, p, len, h => by
    obtain ⟨h1, h2⟩ := h
    refine ⟨h1, ?_⟩
    rcases h2 with h2 | ⟨b, off, h3, h4, h5⟩
    · exact .inl h2
    · refine .inr ⟨b, off, h3, (hb b h4).1, fun j c hc => ?_⟩
      obtain ⟨p', l', c', h6, h7⟩ := h5 j c hc
      refine ⟨p', l', c', fun k u hu => ?_, RdP.carry hb h7⟩
      have := h6 k u hu
      simp only [World.cell?, (hb b h4).2] at this ⊢
      exact this
theorem RdP.rdT {w : World} {ok : Nat → Prop} {N : Nat} (hb : ∀ b, ok b → b < N) : ∀ {d : Nat} {n : Nd} {p : Option Addr} {len : Nat}, RdP w ok d n p len → RdT w N d n p len
  | 0, _, _, _, h => h
  | d + 1, n, p, len, h => by
    obtain ⟨h1, h2⟩ := h
    refine ⟨h1, ?_⟩
    rcases h2 with h2 | ⟨b, off, h3, h4, h5⟩
    · exact .inl h2
    · refine .inr ⟨b, off, h3, hb b h4, fun j c hc => ?_⟩
      obtain ⟨p', l', c', h6, h7⟩ := h5 j c hc
      exact ⟨p', l', c', h6, RdP.rdT hb h7⟩
/-- A part that is built, and where its parts lie. -/
abbrev Kid := Nd × Option Addr × Nat × Nat
def kidC (q : Kid) : List Value := ndC q.1 q.2.1 q.2.2.1 q.2.2.2
theorem kidC_len (q : Kid) : (kidC q).length = 6 := rfl
theorem kidC_one (q : Kid) : ∀ u ∈ kidC q, u.oneCell' = true := by
  intro u hu
  simp only [kidC, ndC, List.mem_cons, List.not_mem_nil, or_false] at hu
  rcases hu with rfl | rfl | rfl | rfl | rfl | rfl <;> rfl
theorem RdP.of_row {w : World} {base d : Nat} {v : Value} {L : List Kid} {n : Nd} {ok : Nat → Prop} (h : w.ownsRow base tPn 6 v L.length (L.flatMap kidC)) (hL : L.map Prod.fst = n.args) (hq : ∀ q ∈ L, RdP w ok d q.1 q.2.1 q.2.2.1) (hown : ∀ b, v.ownBlock = some b → ok b) :
    ∃ p cap, v = .slice p L.length cap ∧ RdP w ok (d + 1) n p L.length := by
  obtain ⟨p, cap, hv, _, _, ⟨_, hr⟩, _⟩ := RdG.of_own kidC_len rfl h
  refine ⟨p, cap, hv, by rw [← hL, List.length_map], ?_⟩
  rcases hr with hr | ⟨b, off, h1, h2, h3⟩
  · exact .inl hr
  · refine .inr ⟨b, off, h1, hown b (by rw [hv, h1]; rfl), fun j c hc => ?_⟩
    rw [← hL, List.getElem?_map] at hc
    cases hj : L[j]? with
    | none => rw [hj] at hc; cases hc
    | some q =>
      rw [hj] at hc
      obtain rfl : q.1 = c := by simpa using hc
      exact ⟨q.2.1, q.2.2.1, q.2.2.2, fun k u hu => h3 j q hj k u hu, hq q (List.mem_of_getElem? hj)⟩
/-- A tree that is not too great: its rows are short, and its parts are so too. -/
theorem szL_kids : ∀ (a : List Nd) (k m : Int), 1 ≤ k → szL a k m ≤ m → k + a.length ≤ m ∧ ∀ c ∈ a, ∃ m', m' ≤ m ∧ szN c m' ≤ m'
  | [], k, m, h1, h => by
    rw [szL] at h
    exact ⟨by simpa using h, fun c hc => by cases hc⟩
  | c :: r, k, m, h1, h => by
    rw [szL] at h
    split at h
    · rename_i hk
      have hc := szN_le c (m - k)
      obtain ⟨h2, h3⟩ := szL_kids r _ m (by omega) h
      refine ⟨by rw [List.length_cons]; omega, fun x hx => ?_⟩
      rcases List.mem_cons.1 hx with rfl | hx
      · exact ⟨m - k, by omega, by omega⟩
      · exact h3 x hx
    · omega
/-- Few enough nodes. -/
def FewN (n : Nd) : Prop := ∃ m : Int, m ≤ 200 ∧ szN n m ≤ m
theorem FewN.len {n : Nd} (h : FewN n) : n.args.length ≤ 200 := by
  obtain ⟨m, h1, h2⟩ := h
  rw [szN_eq] at h2
  have := (szL_kids _ _ _ (by omega) h2).1
  omega
theorem FewN.child {n c : Nd} (h : FewN n) (hc : c ∈ n.args) : FewN c := by
  obtain ⟨m, h1, h2⟩ := h
  rw [szN_eq] at h2
  obtain ⟨m', h3, h4⟩ := (szL_kids _ _ _ (by omega) h2).2 c hc
  exact ⟨m', by omega, h4⟩
mutual
theorem dpN_sz : ∀ (n : Nd) (m : Int), szN n m ≤ m → (dpN n : Int) ≤ szN n m
  | .mk k u t f o a, m, h => by
    rw [szN] at h ⊢
    rw [dpN]
    have := dpL_sz a 1 m 0 (by omega) (by omega) h
    omega
theorem dpL_sz : ∀ (a : List Nd) (k m : Int) (d : Nat), 1 ≤ k → (d : Int) + 1 ≤ k → szL a k m ≤ m → (dpL a d : Int) + 1 ≤ szL a k m
  | [], k, m, d, h1, h2, h => by rw [szL, dpL]; exact h2
  | c :: r, k, m, d, h1, h2, h => by
    rw [szL] at h ⊢
    rw [dpL]
    split at h
    · rename_i hk
      rw [if_pos hk]
      have hc := szN_le c (m - k)
      have h3 := (szL_kids r _ m (by omega) h).1
      have h4 := dpN_sz c (m - k) (by omega)
      refine dpL_sz r _ m _ (by omega) ?_ h
      omega
    · omega
end
theorem FewN.depth {n : Nd} (h : FewN n) : dpN n ≤ 200 := by
  obtain ⟨m, h1, h2⟩ := h
  have := dpN_sz n m h2
  omega
/-- The blocks of a row's parts. -/
def okK (lo : Nat) (w : World) (v : Value) (b : Nat) : Prop := lo ≤ b ∧ b < w.heap.size ∧ v.ownBlock ≠ some b
def ToC (d : Nat) : Prop := ∀ (n : Nd) (p : Option Addr) (len cap : Nat) (w : World), RdT w w.heap.size d n p len → OkN n → FewN n → Calls Tryd.prog 16 #[.agg (ndA n p len cap)] w fun e w' => (∃ p' cap', e = .returned (.agg (ndA n p' len cap')) ∧ RdP w' (fun b => w.heap.size ≤ b ∧ b < w'.heap.size) d n p' len) ∧ Below w.heap.size w w'
end Go.Proofs.YtfkfajgfkgeicaaDoor
