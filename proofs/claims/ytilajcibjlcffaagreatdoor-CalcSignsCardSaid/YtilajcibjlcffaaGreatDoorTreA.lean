/- Trees: formulas over numbers, as plain trees and as they lie in memory. -/
import Derived.Test.YtilajcibjlcffaaGreatDoorRow
import Derived.Test.YtilajcibjlcffaaGreatDoorShelf
import Derived.Laws.BytesArg
import Derived.Deep.DeepCutAuto
import Derived.Deep.LoopGhost
import Derived.Lib.Hide
set_option linter.unusedSimpArgs false
set_option linter.unusedVariables false

namespace Go.Proofs.YtilajcibjlcffaaGreatDoor
open Go.RowKit

abbrev Bs := List UInt8
/-- A formula over numbers. -/
inductive Nd where
  | mk (kind num : Int) (text : Bs) (frm tor : Int) (args : List Nd)
def Nd.kind : Nd → Int | .mk k _ _ _ _ _ => k
def Nd.num : Nd → Int | .mk _ m _ _ _ _ => m
def Nd.text : Nd → Bs | .mk _ _ t _ _ _ => t
def Nd.frm : Nd → Int | .mk _ _ _ f _ _ => f
def Nd.tor : Nd → Int | .mk _ _ _ _ o _ => o
def Nd.args : Nd → List Nd | .mk _ _ _ _ _ a => a
mutual
def szN : Nd → Int → Int
  | .mk _ _ _ _ _ a, most => szL a 1 most
def szL : List Nd → Int → Int → Int
  | [], k, _ => k
  | c :: r, k, most => if k ≤ most then szL r (k + szN c (most - k)) most else k
end
mutual
def dpN : Nd → Nat
  | .mk _ _ _ _ _ a => dpL a 0 + 1
def dpL : List Nd → Nat → Nat
  | [], d => d
  | c :: r, d => dpL r (max d (dpN c))
end
theorem szN_eq (n : Nd) (m : Int) : szN n m = szL n.args 1 m := by cases n; rw [szN]; rfl
theorem dpN_eq (n : Nd) : dpN n = dpL n.args 0 + 1 := by cases n; rw [dpN]; rfl
/-- A node's cells. -/
def ndC (n : Nd) (p : Option Addr) (len cap : Nat) : List Value := [.int .i64 n.kind, .int .i64 n.num, .string ⟨n.text.toArray⟩, .int .i64 n.frm, .int .i64 n.tor, .slice p len cap]
/-- A node whose parts lie in blocks below N, as far as so deep. -/
def RdT (w : World) (N : Nat) : Nat → Nd → Option Addr → Nat → Prop
  | 0, n, p, len => n.args = [] ∧ len = 0
  | d + 1, n, p, len => n.args.length = len ∧ (len = 0 ∨ ∃ b off, p = some ⟨b, off, none⟩ ∧ b < N ∧ ∀ j c, n.args[j]? = some c → ∃ p' l' c', (∀ k u, (ndC c p' l' c')[k]? = some u → w.cell? ⟨b, off + j * 6 + k, none⟩ = some u) ∧ RdT w N d c p' l')
theorem RdT.below {w w' : World} {N : Nat} (hb : Below N w w') : ∀ {d : Nat} {n : Nd} {p : Option Addr} {len : Nat}, RdT w N d n p len → RdT w' N d n p len
  | 0, _, _, _, h => h
  | d + 1, n, p, len, h => by
    obtain ⟨h1, h2⟩ := h
    refine ⟨h1, ?_⟩
    rcases h2 with h2 | ⟨b, off, h3, h4, h5⟩
    · exact .inl h2
    · refine .inr ⟨b, off, h3, h4, fun j c hc => ?_⟩
      obtain ⟨p', l', c', h6, h7⟩ := h5 j c hc
      exact ⟨p', l', c', fun k u hu => (hb.cell (p := ⟨b, off + j * 6 + k, none⟩) h4).trans (h6 k u hu), RdT.below hb h7⟩
theorem RdT.mono {w : World} {N N' : Nat} (hN : N ≤ N') : ∀ {d : Nat} {n : Nd} {p : Option Addr} {len : Nat}, RdT w N d n p len → RdT w N' d n p len
  | 0, _, _, _, h => h
  | d + 1, n, p, len, h => by
    obtain ⟨h1, h2⟩ := h
    refine ⟨h1, ?_⟩
    rcases h2 with h2 | ⟨b, off, h3, h4, h5⟩
    · exact .inl h2
    · refine .inr ⟨b, off, h3, Nat.lt_of_lt_of_le h4 hN, fun j c hc => ?_⟩
      obtain ⟨p', l', c', h6, h7⟩ := h5 j c hc
      exact ⟨p', l', c', h6, RdT.mono hN h7⟩
theorem RdT.len {w : World} {N d : Nat} {n : Nd} {p : Option Addr} {len : Nat} (h : RdT w N d n p len) : n.args.length = len := by
  cases d with
  | zero => rw [h.1, h.2]; rfl
  | succ d => exact h.1
/-- A part's cells. -/
theorem RdT.at {w : World} {N d : Nat} {n : Nd} {p : Option Addr} {len : Nat} (h : RdT w N d n p len) {j : Nat} (hj : j < len) : ∃ d' b off c p' l' c', d = d' + 1 ∧ p = some ⟨b, off, none⟩ ∧ b < N ∧ n.args[j]? = some c ∧ RdT w N d' c p' l' ∧ w.cell? ⟨b, off + j * 6, none⟩ = some (.int .i64 c.kind) ∧ w.cell? ⟨b, off + j * 6 + 1, none⟩ = some (.int .i64 c.num) ∧ w.cell? ⟨b, off + j * 6 + 2, none⟩ = some (.string ⟨c.text.toArray⟩) ∧ w.cell? ⟨b, off + j * 6 + 3, none⟩ = some (.int .i64 c.frm) ∧ w.cell? ⟨b, off + j * 6 + 4, none⟩ = some (.int .i64 c.tor) ∧ w.cell? ⟨b, off + j * 6 + 5, none⟩ = some (.slice p' l' c') := by
  cases d with
  | zero => rw [h.2] at hj; omega
  | succ d =>
    obtain ⟨h1, h2⟩ := h
    rcases h2 with h2 | ⟨b, off, h3, h4, h5⟩
    · omega
    · obtain ⟨c, hc⟩ : ∃ c, n.args[j]? = some c := ⟨_, List.getElem?_eq_getElem (by omega)⟩
      obtain ⟨p', l', c', h6, h7⟩ := h5 j c hc
      exact ⟨d, b, off, c, p', l', c', rfl, h3, h4, hc, h7, h6 0 _ rfl, h6 1 _ rfl, h6 2 _ rfl, h6 3 _ rfl, h6 4 _ rfl, h6 5 _ rfl⟩
mutual
theorem szN_le (n : Nd) (m : Int) : 1 ≤ szN n m ∧ szN n m ≤ max m 0 + 1 := by
  cases n with
  | mk k u t f o a =>
    rw [szN]
    have h := szL_le a 1 m (by omega) (by omega)
    exact h
theorem szL_le (a : List Nd) (k m : Int) (h1 : 1 ≤ k) (h2 : k ≤ max m 0 + 1) : 1 ≤ szL a k m ∧ szL a k m ≤ max m 0 + 1 := by
  cases a with
  | nil => rw [szL]; exact ⟨h1, h2⟩
  | cons c r =>
    rw [szL]
    split
    · have hc := szN_le c (m - k)
      exact szL_le r _ m (by omega) (by omega)
    · exact ⟨h1, h2⟩
end
end Go.Proofs.YtilajcibjlcffaaGreatDoor
