/- Tokens of printed trees: plain part: a text of tokens is cut into them. Tokens of printed trees: plain part: a printed tree is cut into its tokens. The parser in memory: its block, its tokens; 'is'. The parser: its contracts; chains of signs of one level: plain part. Which trees 'placed' and 'plain' make: plain part. -/
import Derived.Test.YtjklbbmgjjdalaaGreatDoorBbP
import Derived.Test.YtjklbbmgjjdalaaGreatDoorBbJ
import Derived.Test.YtjklbbmgjjdalaaGreatDoorBbE
import Derived.Test.YtjklbbmgjjdalaaGreatDoorBbR
import Derived.Test.YtjklbbmgjjdalaaGreatDoorBbS
import Derived.Test.YtjklbbmgjjdalaaGreatDoorBbT
import Derived.Deep.CutBlock
import Derived.Test.YtjklbbmgjjdalaaGreatDoorBbU
set_option linter.unusedSimpArgs false
set_option linter.unusedVariables false
namespace Go.Proofs.YtjklbbmgjjdalaaGreatDoor
open Go.RowKit Go.Joins
abbrev Tw := Int × Bs
def tw (x : Tks.Tk) : Tw := (x.1, x.2.1)
def Sep (r : Bs) : Prop := Tks.dgB (Tks.nx r 0) = false ∧ Tks.upB (Tks.nx r 0) = false ∧ Tks.nx r 0 ≠ 46 ∧ Tks.nx r 0 ≠ 34
theorem Sep.nil : Sep [] := ⟨rfl, rfl, by decide, by decide⟩
end Go.Proofs.YtjklbbmgjjdalaaGreatDoor
namespace Go.Proofs.YtjklbbmgjjdalaaGreatDoor
open Go.RowKit Go.Joins
def OkC (k : Int) : Prop := rtC (cC k) (cR k) = true
inductive Fm : Nd → Prop
  | num (u : Int) (h1 : 0 ≤ u) (h2 : u ≤ 9223372036854775807) : Fm (.mk 1 u [] 0 0 [])
  | txt (t : Bs) : Fm (.mk 2 0 t 0 0 [])
  | ref (f : Int) (h : OkC f) : Fm (.mk 3 0 [] f 0 [])
  | rng (f o : Int) (h1 : OkC f) (h2 : OkC o) : Fm (.mk 4 0 [] f o [])
  | neg (a : Nd) (h : Fm a) : Fm (.mk 5 0 [] 0 0 [a])
  | bin (t : Bs) (a b : Nd) (ht : 1 ≤ lvS t) (h1 : Fm a) (h2 : Fm b) : Fm (.mk 6 0 t 0 0 [a, b])
  | cal (t : Bs) (ar : List Nd) (ht : nameB t = true) (hl : ar.length ≤ 16) (h : ∀ c ∈ ar, Fm c) : Fm (.mk 7 0 t 0 0 ar)
  | flt : Fm (.mk 8 0 [] 0 0 [])
section
variable (nm : Int → Bs)
end
end Go.Proofs.YtjklbbmgjjdalaaGreatDoor
namespace Go.Proofs.YtjklbbmgjjdalaaGreatDoor
open Go.RowKit Go.Joins
def TkR (w : World) (b : Nat) (q : Option Addr) (Ts : List Tks.Tk) : Prop := Ts = [] ∨ ∃ g, q = some ⟨g, 0, none⟩ ∧ g ≠ b ∧ g < w.heap.size ∧ ∀ (j : Nat) (x : Tks.Tk), Ts[j]? = some x → w.cell? ⟨g, j * 3, none⟩ = some (.int .i64 x.1) ∧ w.cell? ⟨g, j * 3 + 1, none⟩ = some (.string ⟨x.2.1.toArray⟩) ∧ w.cell? ⟨g, j * 3 + 2, none⟩ = some (.int .i64 (x.2.2 : Int))
theorem TkR.off {w w' : World} {b : Nat} {q : Option Addr} {Ts : List Tks.Tk} (h : TkR w b q Ts) (ho : Off b w w') : TkR w' b q Ts := by
  rcases h with h | ⟨g, h1, h2, h3, h4⟩
  · exact .inl h
  · refine .inr ⟨g, h1, h2, Nat.lt_of_lt_of_le h3 ho.size, fun j x hx => ?_⟩
    obtain ⟨k1, k2, k3⟩ := h4 j x hx
    exact ⟨ho.cell h2 k1, ho.cell h2 k2, ho.cell h2 k3⟩
theorem TkR.at {w : World} {b : Nat} {q : Option Addr} {Ts : List Tks.Tk} (h : TkR w b q Ts) {j : Nat} {x : Tks.Tk} (hx : Ts[j]? = some x) : ∃ g, q = some ⟨g, 0, none⟩ ∧ g ≠ b ∧ g < w.heap.size ∧ w.cell? ⟨g, j * 3, none⟩ = some (.int .i64 x.1) ∧ w.cell? ⟨g, j * 3 + 1, none⟩ = some (.string ⟨x.2.1.toArray⟩) ∧ w.cell? ⟨g, j * 3 + 2, none⟩ = some (.int .i64 (x.2.2 : Int)) := by
  rcases h with h | ⟨g, h1, h2, h3, h4⟩
  · rw [h] at hx; cases hx
  · exact ⟨g, h1, h2, h3, h4 j x hx⟩
def isB (Ts : List Tks.Tk) (i : Nat) (s : Bs) : Bool := match Ts[i]? with
  | some x => decide (x.1 = 4) && decide (x.2.1 = s)
  | none => false
end Go.Proofs.YtjklbbmgjjdalaaGreatDoor
namespace Go.Proofs.YtjklbbmgjjdalaaGreatDoor
open Go.RowKit Go.Joins
def RestOk (lv : Int) : List Tw → Prop
  | [] => True
  | x :: _ => x.1 = 4 ∧ x.2 ≠ [40] ∧ x.2 ≠ [58] ∧ ∀ l, lv ≤ l → x.2 ∉ sgS l
theorem RestOk.up {lv lv' : Int} (h : lv ≤ lv') : ∀ {r : List Tw}, RestOk lv r → RestOk lv' r
  | [], _ => trivial
  | x :: _, ⟨h1, h2, h3, h4⟩ => ⟨h1, h2, h3, fun l hl => h4 l (by omega)⟩
def At (Ts : List Tks.Tk) (i : Nat) (l : List Tw) : Prop := (Ts.drop i).map tw = l
theorem At.get {Ts : List Tks.Tk} {i : Nat} {x : Tw} {l : List Tw} (h : At Ts i (x :: l)) : ∃ y, Ts[i]? = some y ∧ tw y = x ∧ At Ts (i + 1) l := by
  unfold At at h ⊢
  have hlt : i < Ts.length := by
    have := congrArg List.length h
    simp at this
    omega
  rw [List.drop_eq_getElem_cons hlt, List.map_cons] at h
  simp only [List.cons.injEq] at h
  exact ⟨Ts[i], List.getElem?_eq_getElem hlt, h.1, h.2⟩
theorem At.nil {Ts : List Tks.Tk} {i : Nat} (h : At Ts i []) : Ts[i]? = none := by
  unfold At at h
  have := congrArg List.length h
  simp at this
  rw [List.getElem?_eq_none_iff]
  omega
theorem At.lt {Ts : List Tks.Tk} {i : Nat} {l : List Tw} (h : At Ts i l) (hi : i ≤ Ts.length) : i + l.length = Ts.length := by
  unfold At at h
  have := congrArg List.length h
  simp at this
  omega
theorem At.le {Ts : List Tks.Tk} {i : Nat} {x : Tw} {l : List Tw} (h : At Ts i (x :: l)) : i + 1 ≤ Ts.length := by
  obtain ⟨y, h1, _⟩ := h.get
  have := (List.getElem?_eq_some_iff.1 h1).1
  omega
theorem sgS_lv {t : Bs} {l : Int} (h : t ∈ sgS l) : lvS t = l ∧ 1 ≤ l ∧ l ≤ 4 := by
  unfold sgS at h
  split at h
  · rename_i e
    simp only [sg1, List.mem_cons, List.not_mem_nil, or_false] at h
    subst e
    rcases h with rfl | rfl | rfl | rfl | rfl | rfl <;> decide
  · split at h
    · rename_i e
      simp only [sg2, List.mem_cons, List.not_mem_nil, or_false] at h
      subst e
      subst h
      decide
    · split at h
      · rename_i e
        simp only [sg3, List.mem_cons, List.not_mem_nil, or_false] at h
        subst e
        rcases h with rfl | rfl <;> decide
      · split at h
        · rename_i e
          simp only [sg4, List.mem_cons, List.not_mem_nil, or_false] at h
          subst e
          rcases h with rfl | rfl <;> decide
        · cases h
theorem dpN_bin (t : Bs) (a b : Nd) : dpN (.mk 6 0 t 0 0 [a, b]) = max (dpN a) (dpN b) + 1 := by
  rw [dpN, dpL, dpL, dpL]
  omega
theorem dpN_one (k : Int) (t : Bs) (a : Nd) : dpN (.mk k 0 t 0 0 [a]) = dpN a + 1 := by
  rw [dpN, dpL, dpL]
  omega
theorem rdp_leaf (W : World) (ok : Nat → Prop) {n : Nd} (hn : n.args = []) (p : Option Addr) : ∀ d, Cel.RdP W ok d n p 0
  | 0 => ⟨hn, rfl⟩
  | d + 1 => ⟨by rw [hn]; rfl, .inl rfl⟩
theorem Off.bc {b k : Nat} {w w' : World} {cs : Array Value} {t : TypeId} (h : Off b w w') (hk : k ≠ b) (hc : BlkC w k cs t) : BlkC w' k cs t := h.blk hk hc
end Go.Proofs.YtjklbbmgjjdalaaGreatDoor
namespace Go.Proofs.YtjklbbmgjjdalaaGreatDoor
open Go.RowKit Go.Joins
theorem rtL_of : ∀ {a : List Nd} {lv : Int}, (∀ c ∈ a, rtN c lv = true) → rtL a lv = true
  | [], lv, _ => by rw [rtL]
  | c :: r, lv, h => by rw [rtL, h c (by simp), rtL_of (fun x hx => h x (by simp [hx]))]; rfl
theorem dpL_memO : ∀ {a : List Nd} {c : Nd} {m : Nat}, c ∈ a → dpN c ≤ dpL a m
  | [], _, _, h => by cases h
  | x :: r, c, m, h => by
    rw [dpL]
    rcases List.mem_cons.1 h with rfl | h
    · exact Nat.le_trans (Nat.le_max_right _ _) (dpL_ge r _)
    · exact dpL_memO h
theorem dpN_memO {ar : List Nd} {c : Nd} (h : c ∈ ar) {k : Int} {t : Bs} : dpN c + 1 ≤ dpN (.mk k 0 t 0 0 ar) := by
  have := dpL_memO (m := 0) h
  rw [dpN]
  omega
theorem rt_fm {n : Nd} (h : Fm n) : ∀ lv : Int, (dpN n : Int) ≤ lv → rtN n lv = true := by
  have hd1 : ∀ c : Nd, 1 ≤ dpN c := fun c => by cases c; rw [dpN]; omega
  induction h with
  | num u h1 h2 =>
    intro lv hlv
    have := hd1 (.mk 1 u [] 0 0 [])
    rw [rtN, rtL]
    simp [headB, tagB, arB, loK, hiK, Nd.kind, Nd.args, Nd.num, h1]
    omega
  | txt t =>
    intro lv hlv
    have := hd1 (.mk 2 0 t 0 0 [])
    rw [rtN, rtL]
    simp [headB, tagB, arB, loK, hiK, Nd.kind, Nd.args, Nd.num]
    omega
  | ref f h =>
    intro lv hlv
    have := hd1 (.mk 3 0 [] f 0 [])
    rw [rtN, rtL]
    simp [headB, tagB, arB, loK, hiK, Nd.kind, Nd.args, Nd.num]
    omega
  | rng f o h1 h2 =>
    intro lv hlv
    have := hd1 (.mk 4 0 [] f o [])
    rw [rtN, rtL]
    simp [headB, tagB, arB, loK, hiK, Nd.kind, Nd.args, Nd.num]
    omega
  | neg a h ih =>
    intro lv hlv
    rw [dpN_one] at hlv
    have h1 := ih (lv - 1) (by omega)
    have := hd1 a
    rw [rtN, rtL, rtL, h1]
    simp [headB, tagB, arB, loK, hiK, Nd.kind, Nd.args, Nd.num]
    omega
  | bin t a b ht h1 h2 i1 i2 =>
    intro lv hlv
    rw [dpN_bin] at hlv
    have e1 := i1 (lv - 1) (by omega)
    have e2 := i2 (lv - 1) (by omega)
    have := hd1 a
    rw [rtN, rtL, rtL, rtL, e1, e2]
    have hl1 : 1 ≤ lv := by omega
    have hn0 : lvS t ≠ 0 := by omega
    simp [headB, tagB, arB, loK, hiK, Nd.kind, Nd.args, Nd.num, Nd.text, hl1, hn0]
  | cal t ar ht hl h ih =>
    intro lv hlv
    have hk : ∀ c ∈ ar, rtN c (lv - 1) = true := fun c hc => ih c hc (lv - 1) (by have := dpN_memO hc (k := 7) (t := t); omega)
    have := hd1 (.mk 7 0 t 0 0 ar)
    rw [rtN, rtL_of hk]
    simp [headB, tagB, arB, loK, hiK, Nd.kind, Nd.args, Nd.num, Nd.text, ht]
    omega
  | flt =>
    intro lv hlv
    have := hd1 (.mk 8 0 [] 0 0 [])
    rw [rtN, rtL]
    simp [headB, tagB, arB, loK, hiK, Nd.kind, Nd.args, Nd.num]
    omega
end Go.Proofs.YtjklbbmgjjdalaaGreatDoor
