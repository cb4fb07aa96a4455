/- Trees: the document's Right. Trees: which ones are the same: EqualFunc, Same, the document's Same. Trees: the document's Same; light. Trees: 'To' builds the program's tree: plain part. Trees: as texts: plain part. -/
import Derived.Test.YtbdgdhjhgcpidaaGreatDoorScC
import Derived.Test.YtbdgdhjhgcpidaaGreatDoorScF
import Derived.Maps.AppendAt
import Derived.Test.YtbdgdhjhgcpidaaGreatDoorScI
set_option linter.unusedSimpArgs false
set_option linter.unusedVariables false
namespace Go.Proofs.YtbdgdhjhgcpidaaGreatDoor
open Go.RowKit Go.Joins

end Go.Proofs.YtbdgdhjhgcpidaaGreatDoor
namespace Go.Proofs.YtbdgdhjhgcpidaaGreatDoor
open Go.RowKit Go.Joins

mutual
def smN : Nd → Nd → Bool
  | .mk k u t f o a, .mk k' u' t' f' o' a' => (k == k') && ((u == u') && ((t == t') && ((f == f') && ((o == o') && smL a a'))))
def smL : List Nd → List Nd → Bool
  | [], [] => true
  | x :: r, y :: s => smN x y && smL r s
  | [], _ :: _ => false
  | _ :: _, [] => false
end
theorem smN_eq (n m : Nd) : smN n m = ((n.kind == m.kind) && ((n.num == m.num) && ((n.text == m.text) && ((n.frm == m.frm) && ((n.tor == m.tor) && smL n.args m.args))))) := by
  cases n; cases m; rw [smN]; rfl
theorem smL_len : ∀ (a b : List Nd), a.length ≠ b.length → smL a b = false
  | [], [], h => absurd rfl h
  | x :: r, y :: s, h => by rw [smL, smL_len r s (fun e => h (by simp [e])), Bool.and_false]
  | [], _ :: _, _ => by rw [smL]
  | _ :: _, [], _ => by rw [smL]
theorem smL_at {a b : List Nd} {i : Nat} {x y : Nd} (hx : a[i]? = some x) (hy : b[i]? = some y) : smL (a.drop i) (b.drop i) = (smN x y && smL (a.drop (i + 1)) (b.drop (i + 1))) := by
  obtain ⟨hi, e⟩ := List.getElem?_eq_some_iff.1 hx
  obtain ⟨hj, e2⟩ := List.getElem?_eq_some_iff.1 hy
  rw [List.drop_eq_getElem_cons hi, List.drop_eq_getElem_cons hj, smL, e, e2]

end Go.Proofs.YtbdgdhjhgcpidaaGreatDoor
namespace Go.Proofs.YtbdgdhjhgcpidaaGreatDoor
open Go.RowKit Go.Joins

/-- Is a tree not too great, nor too deep? -/
def lightB (n : Nd) : Bool := decide (szN n 200 ≤ 200) && (decide (dpN n ≤ 100) && decide (n.text.length ≤ 400))
end Go.Proofs.YtbdgdhjhgcpidaaGreatDoor
namespace Go.Proofs.YtbdgdhjhgcpidaaGreatDoor
open Go.RowKit Go.Joins

/-- As RdT; the blocks that are read meet 'ok'. -/
def RdP (w : World) (ok : Nat → Prop) : Nat → Nd → Option Addr → Nat → Prop
  | 0, n, p, len => n.args = [] ∧ len = 0
  | d + 1, n, p, len => n.args.length = len ∧ (len = 0 ∨ ∃ b off, p = some ⟨b, off, none⟩ ∧ ok b ∧ ∀ j c, n.args[j]? = some c → ∃ p' l' c', (∀ k u, (ndC c p' l' c')[k]? = some u → w.cell? ⟨b, off + j * 6 + k, none⟩ = some u) ∧ RdP w ok d c p' l')
theorem RdP.carry {w w' : World} {ok ok' : Nat → Prop} (hb : ∀ b, ok b → ok' b ∧ w'.heap[b]? = w.heap[b]?) : ∀ {d : Nat} {n : Nd} {p : Option Addr} {len : Nat}, RdP w ok d n p len → RdP w' ok' d n p len
  | 0, _, _, _, h => h
  | d + 1, n, p, len, h => by
    obtain ⟨h1, h2⟩ := h
    refine ⟨h1, ?_⟩
    rcases h2 with h2 | ⟨b, off, h3, h4, h5⟩
    · exact .inl h2
    · refine .inr ⟨b, off, h3, (hb b h4).1, fun j c hc => ?_⟩
      obtain ⟨p', l', c', h6, h7⟩ := h5 j c hc
      refine ⟨p', l', c', fun k u hu => ?_, RdP.carry hb h7⟩
      have := h6 k u hu
      simp only [World.cell?, (hb b h4).2] at this ⊢
      exact this
theorem RdP.rdT {w : World} {ok : Nat → Prop} {N : Nat} (hb : ∀ b, ok b → b < N) : ∀ {d : Nat} {n : Nd} {p : Option Addr} {len : Nat}, RdP w ok d n p len → RdT w N d n p len
  | 0, _, _, _, h => h
  | d + 1, n, p, len, h => by
    obtain ⟨h1, h2⟩ := h
    refine ⟨h1, ?_⟩
    rcases h2 with h2 | ⟨b, off, h3, h4, h5⟩
    · exact .inl h2
    · refine .inr ⟨b, off, h3, hb b h4, fun j c hc => ?_⟩
      obtain ⟨p', l', c', h6, h7⟩ := h5 j c hc
      exact ⟨p', l', c', h6, RdP.rdT hb h7⟩
/-- A part that is built, and where its parts lie. -/
abbrev Kid := Nd × Option Addr × Nat × Nat
def kidC (q : Kid) : List Value := ndC q.1 q.2.1 q.2.2.1 q.2.2.2
theorem kidC_len (q : Kid) : (kidC q).length = 6 := rfl
theorem kidC_one (q : Kid) : ∀ u ∈ kidC q, u.oneCell' = true := by
  intro u hu
  simp only [kidC, ndC, List.mem_cons, List.not_mem_nil, or_false] at hu
  rcases hu with rfl | rfl | rfl | rfl | rfl | rfl <;> rfl
/-- A tree that is not too great: its rows are short, and its parts are so too. -/
theorem szL_kids : ∀ (a : List Nd) (k m : Int), 1 ≤ k → szL a k m ≤ m → k + a.length ≤ m ∧ ∀ c ∈ a, ∃ m', m' ≤ m ∧ szN c m' ≤ m'
  | [], k, m, h1, h => by
    rw [szL] at h
    exact ⟨by simpa using h, fun c hc => by cases hc⟩
  | c :: r, k, m, h1, h => by
    rw [szL] at h
    split at h
    · rename_i hk
      have hc := szN_le c (m - k)
      obtain ⟨h2, h3⟩ := szL_kids r _ m (by omega) h
      refine ⟨by rw [List.length_cons]; omega, fun x hx => ?_⟩
      rcases List.mem_cons.1 hx with rfl | hx
      · exact ⟨m - k, by omega, by omega⟩
      · exact h3 x hx
    · omega
/-- Few enough nodes. -/
def FewN (n : Nd) : Prop := ∃ m : Int, m ≤ 1000 ∧ szN n m ≤ m
theorem FewN.len {n : Nd} (h : FewN n) : n.args.length ≤ 1000 := by
  obtain ⟨m, h1, h2⟩ := h
  rw [szN_eq] at h2
  have := (szL_kids _ _ _ (by omega) h2).1
  omega
theorem FewN.child {n c : Nd} (h : FewN n) (hc : c ∈ n.args) : FewN c := by
  obtain ⟨m, h1, h2⟩ := h
  rw [szN_eq] at h2
  obtain ⟨m', h3, h4⟩ := (szL_kids _ _ _ (by omega) h2).2 c hc
  exact ⟨m', by omega, h4⟩
mutual
theorem dpN_sz : ∀ (n : Nd) (m : Int), szN n m ≤ m → (dpN n : Int) ≤ szN n m
  | .mk k u t f o a, m, h => by
    rw [szN] at h ⊢
    rw [dpN]
    have := dpL_sz a 1 m 0 (by omega) (by omega) h
    omega
theorem dpL_sz : ∀ (a : List Nd) (k m : Int) (d : Nat), 1 ≤ k → (d : Int) + 1 ≤ k → szL a k m ≤ m → (dpL a d : Int) + 1 ≤ szL a k m
  | [], k, m, d, h1, h2, h => by rw [szL, dpL]; exact h2
  | c :: r, k, m, d, h1, h2, h => by
    rw [szL] at h ⊢
    rw [dpL]
    split at h
    · rename_i hk
      rw [if_pos hk]
      have hc := szN_le c (m - k)
      have h3 := (szL_kids r _ m (by omega) h).1
      have h4 := dpN_sz c (m - k) (by omega)
      refine dpL_sz r _ m _ (by omega) ?_ h
      omega
    · omega
end
theorem FewN.depth {n : Nd} (h : FewN n) : dpN n ≤ 1000 := by
  obtain ⟨m, h1, h2⟩ := h
  have := dpN_sz n m h2
  omega
/-- The blocks of a row's parts. -/
def okK (lo : Nat) (w : World) (v : Value) (b : Nat) : Prop := lo ≤ b ∧ b < w.heap.size ∧ v.ownBlock ≠ some b
end Go.Proofs.YtbdgdhjhgcpidaaGreatDoor
namespace Go.Proofs.YtbdgdhjhgcpidaaGreatDoor
open Go.RowKit Go.Joins

def dblT : Bs → Bs
  | [] => []
  | c :: r => if c = 34 then 34 :: 34 :: dblT r else c :: dblT r
theorem dblT_len : ∀ l : Bs, (dblT l).length ≤ 2 * l.length
  | [] => by simp [dblT]
  | c :: r => by
    have := dblT_len r
    unfold dblT
    split <;> simp <;> omega
def quoT (l : Bs) : Bs := 34 :: (dblT l ++ [34])
/-- How tightly a node holds. -/
def hdS (k : Int) (t : Bs) : Int := if k = 6 then lvS t else if k = 5 then 5 else 6
def refBs : Bs := [35, 82, 69, 70, 33]
mutual
/-- A tree as a text: references by their names, with brackets where a part holds less tightly than must be. -/
def prN (nm : Int → Bs) : Nd → Int → Bs
  | .mk k u t f o a, least =>
    if hdS k t < least then 40 :: (prB nm k u t f o (prAt nm a 0 5) (prAt nm a 0 (lvS t)) (prAt nm a 1 (lvS t + 1)) (prT nm a) ++ [41])
    else prB nm k u t f o (prAt nm a 0 5) (prAt nm a 0 (lvS t)) (prAt nm a 1 (lvS t + 1)) (prT nm a)
def prAt (nm : Int → Bs) : List Nd → Nat → Int → Bs
  | [], _, _ => []
  | c :: r, i, l => if i = 0 then prN nm c l else prAt nm r (i - 1) l
def prT (nm : Int → Bs) : List Nd → Bs
  | [] => []
  | c :: r => 44 :: (prN nm c 1 ++ prT nm r)
/-- What stands within the brackets. -/
def prB (nm : Int → Bs) (k u : Int) (t : Bs) (f o : Int) (m5 l6 r6 al : Bs) : Bs :=
  if k = 1 then txt u else if k = 2 then quoT t else if k = 3 then nm f else if k = 4 then nm f ++ 58 :: nm o
  else if k = 5 then 45 :: m5 else if k = 6 then l6 ++ t ++ r6 else if k = 7 then t ++ 40 :: (al.drop 1 ++ [41]) else refBs
end
mutual
def wtN : Nd → Nat
  | .mk _ _ t _ _ a => 400 + 2 * t.length + wtL a
def wtL : List Nd → Nat
  | [] => 0
  | c :: r => wtN c + 1 + wtL r
end
theorem prB_len {nm : Int → Bs} (hn : ∀ k, (nm k).length ≤ 20) (k u : Int) (ht : (txt u).length ≤ 300) (t : Bs) (f o : Int) (m5 l6 r6 al : Bs) (W : Nat) (h5 : m5.length ≤ W) (h6 : l6.length + r6.length ≤ W) (h7 : al.length ≤ W) :
    (prB nm k u t f o m5 l6 r6 al).length ≤ 310 + 2 * t.length + W := by
  have h1 := hn f
  have h2 := hn o
  have h4 := dblT_len t
  unfold prB quoT refBs
  repeat' split
  all_goals first | (simp; omega) | (simp at *; omega)
theorem wtL_mem {a : List Nd} {c : Nd} (h : c ∈ a) : wtN c < wtL a := by
  induction a with
  | nil => cases h
  | cons x r ih =>
    rw [wtL]
    rcases List.mem_cons.1 h with rfl | h
    · omega
    · have := ih h
      omega
mutual
theorem prN_len {nm : Int → Bs} (hn : ∀ k, (nm k).length ≤ 20) (ht : ∀ u, -9223372036854775808 ≤ u → u ≤ 9223372036854775807 → (txt u).length ≤ 300) : ∀ (n : Nd), OkN n → ∀ least, (prN nm n least).length ≤ wtN n
  | .mk k u t f o a, h, least => by
    have ha : ∀ c ∈ a, OkN c := fun c hc => h.child hc
    have h0 := ht u h.num.1 h.num.2
    have hB := prB_len hn k u h0 t f o (prAt nm a 0 5) (prAt nm a 0 (lvS t)) (prAt nm a 1 (lvS t + 1)) (prT nm a) (wtL a) (prAt_len hn ht a ha 0 5) (prAt2_len hn ht a ha _ _) (prT_len hn ht a ha)
    rw [prN, wtN]
    split
    · simp; omega
    · omega
theorem prAt_len {nm : Int → Bs} (hn : ∀ k, (nm k).length ≤ 20) (ht : ∀ u, -9223372036854775808 ≤ u → u ≤ 9223372036854775807 → (txt u).length ≤ 300) : ∀ (a : List Nd), (∀ c ∈ a, OkN c) → ∀ i l, (prAt nm a i l).length ≤ wtL a
  | [], _, i, l => by rw [prAt]; simp
  | c :: r, h, i, l => by
    rw [prAt, wtL]
    split
    · have := prN_len hn ht c (h c (by simp)) l
      omega
    · have := prAt_len hn ht r (fun x hx => h x (by simp [hx])) (i - 1) l
      omega
theorem prAt2_len {nm : Int → Bs} (hn : ∀ k, (nm k).length ≤ 20) (ht : ∀ u, -9223372036854775808 ≤ u → u ≤ 9223372036854775807 → (txt u).length ≤ 300) : ∀ (a : List Nd), (∀ c ∈ a, OkN c) → ∀ l l', (prAt nm a 0 l).length + (prAt nm a 1 l').length ≤ wtL a
  | [], _, l, l' => by rw [prAt, prAt]; simp
  | c :: r, h, l, l' => by
    rw [prAt, prAt, wtL, if_pos rfl, if_neg (by omega)]
    have h1 := prN_len hn ht c (h c (by simp)) l
    have h2 := prAt_len hn ht r (fun x hx => h x (by simp [hx])) (1 - 1) l'
    omega
theorem prT_len {nm : Int → Bs} (hn : ∀ k, (nm k).length ≤ 20) (ht : ∀ u, -9223372036854775808 ≤ u → u ≤ 9223372036854775807 → (txt u).length ≤ 300) : ∀ (a : List Nd), (∀ c ∈ a, OkN c) → (prT nm a).length ≤ wtL a
  | [], _ => by rw [prT]; simp
  | c :: r, h => by
    rw [prT, wtL]
    have h1 := prN_len hn ht c (h c (by simp)) 1
    have h2 := prT_len hn ht r (fun x hx => h x (by simp [hx]))
    simp
    omega
end
mutual
/-- What 'named' makes of a tree. -/
def nmN (nm : Int → Bs) : Nd → Nd
  | .mk k u t f o a => .mk k u (if k = 3 then nm f else if k = 4 then nm f ++ 58 :: nm o else t) 0 0 (nmL nm a)
def nmL (nm : Int → Bs) : List Nd → List Nd
  | [] => []
  | c :: r => nmN nm c :: nmL nm r
end
end Go.Proofs.YtbdgdhjhgcpidaaGreatDoor
