/- The parser: its contracts; chains of signs of one level: plain part. Which trees 'placed' and 'plain' make: plain part. The parser: 'unary', and 'binary' behind the last level. Printed by gen_par.py. -/
import Derived.Test.YtbdgdhjhgcpidaaGreatDoorScM
import Derived.Test.YtbdgdhjhgcpidaaGreatDoorScP
import Derived.Test.YtbdgdhjhgcpidaaGreatDoorScT
import Derived.Test.YtbdgdhjhgcpidaaGreatDoorScV
set_option linter.unusedSimpArgs false
set_option linter.unusedVariables false
namespace Go.Proofs.YtbdgdhjhgcpidaaGreatDoor
open Go.RowKit Go.Joins

/-- All that is known of the parser in memory. -/
structure PSt (ws w : World) (b : Nat) (q : Option Addr) (Ts : List Tks.Tk) (cT i : Nat) : Prop where
  psr : Psr w b q Ts.length cT i
  tks : TkR w b q Ts
  len : Ts.length ≤ 1000
  sh : ws.ShapedOpen Tryz.prog
  bel : Below ws.heap.size ws w
  hb : ws.heap.size ≤ b
theorem PSt.off {ws w w' : World} {b : Nat} {q : Option Addr} {Ts : List Tks.Tk} {cT i j : Nat} (h : PSt ws w b q Ts cT i) (ho : Off b w w') (hp : Psr w' b q Ts.length cT j) : PSt ws w' b q Ts cT j :=
  ⟨hp, h.tks.off ho, h.len, h.sh, h.bel.trans (ho.below h.hb h.bel.size), h.hb⟩
theorem Off.psr {w w' : World} {b : Nat} {q : Option Addr} {n cT i : Nat} (h : Psr w b q n cT i) (hb : Below w.heap.size w w') : Psr w' b q n cT i := h.below hb
theorem PSt.below {ws w w' : World} {b : Nat} {q : Option Addr} {Ts : List Tks.Tk} {cT i : Nat} (h : PSt ws w b q Ts cT i) (hb : Below w.heap.size w w') : PSt ws w' b q Ts cT i := h.off (Off.of_below hb) (h.psr.below hb)
theorem PSt.shaped {ws w : World} {b : Nat} {q : Option Addr} {Ts : List Tks.Tk} {cT i : Nat} (h : PSt ws w b q Ts cT i) : w.ShapedOpen Tryz.prog := shaped_below h.sh h.bel
theorem PSt.lt {ws w : World} {b : Nat} {q : Option Addr} {Ts : List Tks.Tk} {cT i : Nat} (h : PSt ws w b q Ts cT i) : b < w.heap.size := lt_some h.psr
/-- What may come behind a part of a level. -/
def RestOk (lv : Int) : List Tw → Prop
  | [] => True
  | x :: _ => x.1 = 4 ∧ x.2 ≠ [40] ∧ x.2 ≠ [58] ∧ ∀ l, lv ≤ l → x.2 ∉ sgS l
theorem RestOk.up {lv lv' : Int} (h : lv ≤ lv') : ∀ {r : List Tw}, RestOk lv r → RestOk lv' r
  | [], _ => trivial
  | x :: _, ⟨h1, h2, h3, h4⟩ => ⟨h1, h2, h3, fun l hl => h4 l (by omega)⟩
/-- A tree that is handed back: its parts lie in new blocks. -/
def ResN (w : World) (n : Nd) (e : Ending) (w' : World) : Prop := ∃ p cap, e = .returned (.agg (Cel.ndA n p n.args.length cap)) ∧ ∀ d, dpN n ≤ d + 1 → Cel.RdP w' (fun k => w.heap.size ≤ k ∧ k < w'.heap.size) d n p n.args.length
def PaP (b : Nat) (q : Option Addr) (nT cT i k : Nat) (n : Nd) (w : World) (e : Ending) (w' : World) : Prop := ResN w n e w' ∧ Psr w' b q nT cT (i + k) ∧ Off b w w'
/-- The tokens from a place on. -/
def At (Ts : List Tks.Tk) (i : Nat) (l : List Tw) : Prop := (Ts.drop i).map tw = l
theorem At.get {Ts : List Tks.Tk} {i : Nat} {x : Tw} {l : List Tw} (h : At Ts i (x :: l)) : ∃ y, Ts[i]? = some y ∧ tw y = x ∧ At Ts (i + 1) l := by
  unfold At at h ⊢
  have hlt : i < Ts.length := by
    have := congrArg List.length h
    simp at this
    omega
  rw [List.drop_eq_getElem_cons hlt, List.map_cons] at h
  simp only [List.cons.injEq] at h
  exact ⟨Ts[i], List.getElem?_eq_getElem hlt, h.1, h.2⟩
theorem At.nil {Ts : List Tks.Tk} {i : Nat} (h : At Ts i []) : Ts[i]? = none := by
  unfold At at h
  have := congrArg List.length h
  simp at this
  rw [List.getElem?_eq_none_iff]
  omega
theorem At.app {Ts : List Tks.Tk} : ∀ {l r : List Tw} {i : Nat}, At Ts i (l ++ r) → At Ts (i + l.length) r
  | [], r, i, h => h
  | x :: l, r, i, h => by
    obtain ⟨_, _, _, h2⟩ := At.get (l := l ++ r) h
    have := At.app h2
    rw [List.length_cons, show i + (l.length + 1) = i + 1 + l.length from by omega]
    exact this
theorem At.lt {Ts : List Tks.Tk} {i : Nat} {l : List Tw} (h : At Ts i l) (hi : i ≤ Ts.length) : i + l.length = Ts.length := by
  unfold At at h
  have := congrArg List.length h
  simp at this
  omega
theorem At.le {Ts : List Tks.Tk} {i : Nat} {x : Tw} {l : List Tw} (h : At Ts i (x :: l)) : i + 1 ≤ Ts.length := by
  obtain ⟨y, h1, _⟩ := h.get
  have := (List.getElem?_eq_some_iff.1 h1).1
  omega
theorem isB_head {Ts : List Tks.Tk} {i : Nat} {x : Tw} {l : List Tw} (h : At Ts i (x :: l)) (s : Bs) : isB Ts i s = (decide (x.1 = 4) && decide (x.2 = s)) := by
  obtain ⟨y, h1, h2, _⟩ := h.get
  unfold isB
  rw [h1, ← h2]
  rfl
theorem isB_nil {Ts : List Tks.Tk} {i : Nat} (h : At Ts i []) (s : Bs) : isB Ts i s = false := by
  unfold isB
  rw [h.nil]
theorem isB_rest {Ts : List Tks.Tk} {i : Nat} {lv : Int} : ∀ {r : List Tw}, At Ts i r → RestOk lv r → isB Ts i [40] = false ∧ isB Ts i [58] = false ∧ ∀ l, lv ≤ l → sgO Ts i l = []
  | [], h, _ => ⟨isB_nil h _, isB_nil h _, fun l _ => by unfold sgO; rw [h.nil]⟩
  | x :: r, h, ⟨h1, h2, h3, h4⟩ => by
    refine ⟨by rw [isB_head h, decide_eq_false h2, Bool.and_false], by rw [isB_head h, decide_eq_false h3, Bool.and_false], fun l hl => ?_⟩
    refine sgO_no (fun s hs => ?_)
    have hne : decide (x.2 = s) = false := decide_eq_false (fun e => h4 l hl (by rw [e]; exact hs))
    rw [isB_head h, hne, Bool.and_false]
theorem sgO_head {Ts : List Tks.Tk} {i : Nat} {t : Bs} {l : List Tw} {lv : Int} (h : At Ts i ((4, t) :: l)) (ht : t ∈ sgS lv) : sgO Ts i lv = t := by
  refine sgO_yes ?_ ht
  rw [isB_head h]
  simp
theorem lvS_in {t : Bs} (h : 1 ≤ lvS t) : t ∈ sgS (lvS t) := by
  unfold lvS at h ⊢
  split
  · assumption
  · rename_i h1
    rw [if_neg h1] at h
    split
    · assumption
    · rename_i h2
      rw [if_neg h2] at h
      split
      · assumption
      · rename_i h3
        rw [if_neg h3] at h
        split
        · assumption
        · rename_i h4
          rw [if_neg h4] at h
          omega
theorem sgS_lv {t : Bs} {l : Int} (h : t ∈ sgS l) : lvS t = l ∧ 1 ≤ l ∧ l ≤ 4 := by
  unfold sgS at h
  split at h
  · rename_i e
    simp only [sg1, List.mem_cons, List.not_mem_nil, or_false] at h
    subst e
    rcases h with rfl | rfl | rfl | rfl | rfl | rfl <;> decide
  · split at h
    · rename_i e
      simp only [sg2, List.mem_cons, List.not_mem_nil, or_false] at h
      subst e
      subst h
      decide
    · split at h
      · rename_i e
        simp only [sg3, List.mem_cons, List.not_mem_nil, or_false] at h
        subst e
        rcases h with rfl | rfl <;> decide
      · split at h
        · rename_i e
          simp only [sg4, List.mem_cons, List.not_mem_nil, or_false] at h
          subst e
          rcases h with rfl | rfl <;> decide
        · cases h
theorem rest_sign {t : Bs} (ht : 1 ≤ lvS t) (r : List Tw) : RestOk (lvS t + 1) ((4, t) :: r) := by
  refine ⟨rfl, ?_, ?_, fun l hl hm => ?_⟩
  · rintro rfl
    exact absurd ht (by decide)
  · rintro rfl
    exact absurd ht (by decide)
  · have : lvS t = l := (sgS_lv hm).1
    omega
theorem rest_shut (lv : Int) (r : List Tw) : RestOk lv ((4, [41]) :: r) := by
  refine ⟨rfl, by decide, by decide, fun l hl hm => ?_⟩
  have := (sgS_lv hm).2.1
  have h2 := (sgS_lv hm).1
  rw [← h2] at this
  exact absurd this (by decide)
theorem rest_comma (lv : Int) (r : List Tw) : RestOk lv ((4, [44]) :: r) := by
  refine ⟨rfl, by decide, by decide, fun l hl hm => ?_⟩
  have := (sgS_lv hm).2.1
  have h2 := (sgS_lv hm).1
  rw [← h2] at this
  exact absurd this (by decide)
/-- A chain of parts with signs between. -/
def foldS (x : Nd) (l : List (Bs × Nd)) : Nd := l.foldl (fun a y => .mk 6 0 y.1 0 0 [a, y.2]) x
theorem foldS_snoc (x : Nd) (l : List (Bs × Nd)) (t : Bs) (b : Nd) : foldS x (l ++ [(t, b)]) = .mk 6 0 t 0 0 [foldS x l, b] := by unfold foldS; rw [List.foldl_append]; rfl
def tkS (lv : Int) : List (Bs × Nd) → List Tw
  | [] => []
  | y :: r => (4, y.1) :: (tkN nmS y.2 (lv + 1) ++ tkS lv r)
theorem tkS_app (lv : Int) : ∀ a b : List (Bs × Nd), tkS lv (a ++ b) = tkS lv a ++ tkS lv b
  | [], b => rfl
  | y :: r, b => by rw [List.cons_append, tkS, tkS, tkS_app lv r b]; simp
theorem dpN_bin (t : Bs) (a b : Nd) : dpN (.mk 6 0 t 0 0 [a, b]) = max (dpN a) (dpN b) + 1 := by
  rw [dpN, dpL, dpL, dpL]
  omega
theorem dpN_one (k : Int) (t : Bs) (a : Nd) : dpN (.mk k 0 t 0 0 [a]) = dpN a + 1 := by
  rw [dpN, dpL, dpL]
  omega
theorem wtN_bin (t : Bs) (a b : Nd) : wtN a < wtN (.mk 6 0 t 0 0 [a, b]) ∧ wtN b < wtN (.mk 6 0 t 0 0 [a, b]) := by
  rw [wtN, wtL, wtL, wtL]
  omega
/-- A tree as a chain of one level. -/
theorem spine (lv : Int) (hlv : lv ≤ 4) {n : Nd} (h : Fm n) : ∃ (x : Nd) (l : List (Bs × Nd)), n = foldS x l ∧ Fm x ∧ hdS x.kind x.text ≠ lv ∧ (∀ y ∈ l, lvS y.1 = lv ∧ 1 ≤ lvS y.1 ∧ Fm y.2 ∧ wtN y.2 < wtN n) ∧ ((l = [] ∧ x = n) ∨ wtN x < wtN n) ∧ tkN nmS n lv = tkN nmS x (lv + 1) ++ tkS lv l := by
  have key : ∀ m : Nd, hdS m.kind m.text ≠ lv → tkN nmS m lv = tkN nmS m (lv + 1) := fun m hm => by
    rw [tkN_split, tkN_split nmS m (lv + 1)]
    by_cases h : hdS m.kind m.text < lv
    · rw [if_pos h, if_pos (by omega)]
    · rw [if_neg h, if_neg (by omega)]
  have self : ∀ m : Nd, Fm m → hdS m.kind m.text ≠ lv → ∃ (x : Nd) (l : List (Bs × Nd)), m = foldS x l ∧ Fm x ∧ hdS x.kind x.text ≠ lv ∧ (∀ y ∈ l, lvS y.1 = lv ∧ 1 ≤ lvS y.1 ∧ Fm y.2 ∧ wtN y.2 < wtN m) ∧ ((l = [] ∧ x = m) ∨ wtN x < wtN m) ∧ tkN nmS m lv = tkN nmS x (lv + 1) ++ tkS lv l := fun m h hm =>
    ⟨m, [], rfl, h, hm, (fun y hy => by cases hy), .inl ⟨rfl, rfl⟩, by rw [key m hm]; simp [tkS]⟩
  induction h with
  | bin t a b ht h1 h2 i1 i2 =>
    by_cases hh : lvS t = lv
    · have hw := wtN_bin t a b
      have e : tkN nmS (.mk 6 0 t 0 0 [a, b]) lv = tkN nmS a lv ++ (4, t) :: tkN nmS b (lv + 1) := by
        rw [tkN_split, if_neg (by show ¬ lvS t < lv; omega), tk_bin', hh]
      obtain ⟨x, l, e1, hx, hxl, hl, hlx, hlt2⟩ := i1
      refine ⟨x, l ++ [(t, b)], by rw [foldS_snoc, ← e1], hx, hxl, fun y hy => ?_, .inr ?_, ?_⟩
      · rcases List.mem_append.1 hy with hy | hy
        · obtain ⟨k1, k2, k3, k4⟩ := hl y hy
          exact ⟨k1, k2, k3, by omega⟩
        · obtain rfl := List.mem_singleton.1 hy
          exact ⟨hh, ht, h2, hw.2⟩
      · rcases hlx with ⟨_, rfl⟩ | hlx <;> omega
      · rw [e, hlt2, tkS_app]
        simp [tkS]
    · exact self _ (.bin t a b ht h1 h2) hh
  | num u h1 h2 => exact self _ (.num u h1 h2) (by show (6 : Int) ≠ lv; omega)
  | txt t => exact self _ (.txt t) (by show (6 : Int) ≠ lv; omega)
  | ref f h => exact self _ (.ref f h) (by show (6 : Int) ≠ lv; omega)
  | rng f o h1 h2 => exact self _ (.rng f o h1 h2) (by show (6 : Int) ≠ lv; omega)
  | neg a h ih => exact self _ (.neg a h) (by show (5 : Int) ≠ lv; omega)
  | cal t ar ht hl h ih => exact self _ (.cal t ar ht hl h) (by show (6 : Int) ≠ lv; omega)
  | flt => exact self _ .flt (by show (6 : Int) ≠ lv; omega)
/-- Contracts of the parser's functions at the tokens of a tree. -/
def BinC (n : Nd) (lv : Int) : Prop := ∀ (ws w : World) (b : Nat) (q : Option Addr) (cT i : Nat) (Ts : List Tks.Tk) (rest : List Tw), PSt ws w b q Ts cT i → At Ts i (tkN nmS n lv ++ rest) → RestOk lv rest →
  Calls Tryz.prog 60 #[.pointer (some ⟨b, 0, none⟩), .int .i64 lv] w (PaP b q Ts.length cT i (tkN nmS n lv).length n w)
def UnC (n : Nd) : Prop := ∀ (ws w : World) (b : Nat) (q : Option Addr) (cT i : Nat) (Ts : List Tks.Tk) (rest : List Tw), PSt ws w b q Ts cT i → At Ts i (tkN nmS n 5 ++ rest) → RestOk 5 rest →
  Calls Tryz.prog 78 #[.pointer (some ⟨b, 0, none⟩)] w (PaP b q Ts.length cT i (tkN nmS n 5).length n w)
def PrC (n : Nd) : Prop := ∀ (ws w : World) (b : Nat) (q : Option Addr) (cT i : Nat) (Ts : List Tks.Tk) (rest : List Tw), PSt ws w b q Ts cT i → At Ts i (tkN nmS n 5 ++ rest) → RestOk 5 rest →
  Calls Tryz.prog 105 #[.pointer (some ⟨b, 0, none⟩)] w (PaP b q Ts.length cT i (tkN nmS n 5).length n w)
/-- A node of one part that is laid in a block. -/
theorem rdp_one {W : World} {n c : Nd} {g : Nat} {p : Option Addr} {l cp : Nat} {T : TypeId} (hn : n.args = [c]) (hg : BlkC W g (Cel.ndA c p l cp) T) {N : Nat} (h1 : N ≤ g) (h2 : g < W.heap.size) (hd : dpN n = dpN c + 1)
    (hc : ∀ d, dpN c ≤ d + 1 → Cel.RdP W (fun k => N ≤ k ∧ k < W.heap.size) d c p l) : ∀ d, dpN n ≤ d + 1 → Cel.RdP W (fun k => N ≤ k ∧ k < W.heap.size) d n (some ⟨g, 0, none⟩) 1 := by
  intro d hdd
  have hd0 : 1 ≤ dpN c := by cases c; rw [dpN]; omega
  cases d with
  | zero => omega
  | succ d =>
    refine ⟨by rw [hn]; rfl, .inr ⟨g, 0, rfl, ⟨h1, h2⟩, fun j x hx => ?_⟩⟩
    rw [hn] at hx
    match j, hx with
    | 0, hx =>
      simp only [List.getElem?_cons_zero, Option.some.injEq] at hx
      subst hx
      refine ⟨p, l, cp, fun k u hu => ?_, hc d (by omega)⟩
      have := BlkC.cell hg k u (by show (Cel.ndC c p l cp).toArray[k]? = some u; rw [List.getElem?_toArray]; exact hu)
      rw [show 0 + 0 * 8 + k = k from by omega]
      exact this
    | j + 1, hx => simp at hx
theorem rdp_two {W : World} {n a c : Nd} {g : Nat} {p p' : Option Addr} {l l' cp cp' : Nat} {T : TypeId} (hn : n.args = [a, c]) (hg : BlkC W g (Cel.ndC a p l cp ++ Cel.ndC c p' l' cp').toArray T) {N : Nat} (h1 : N ≤ g) (h2 : g < W.heap.size) (hd : dpN n = max (dpN a) (dpN c) + 1)
    (ha : ∀ d, dpN a ≤ d + 1 → Cel.RdP W (fun k => N ≤ k ∧ k < W.heap.size) d a p l) (hc : ∀ d, dpN c ≤ d + 1 → Cel.RdP W (fun k => N ≤ k ∧ k < W.heap.size) d c p' l') : ∀ d, dpN n ≤ d + 1 → Cel.RdP W (fun k => N ≤ k ∧ k < W.heap.size) d n (some ⟨g, 0, none⟩) 2 := by
  intro d hdd
  have hd0 : 1 ≤ dpN c := by cases c; rw [dpN]; omega
  cases d with
  | zero => omega
  | succ d =>
    refine ⟨by rw [hn]; rfl, .inr ⟨g, 0, rfl, ⟨h1, h2⟩, fun j x hx => ?_⟩⟩
    rw [hn] at hx
    match j, hx with
    | 0, hx =>
      simp only [List.getElem?_cons_zero, Option.some.injEq] at hx
      subst hx
      refine ⟨p, l, cp, fun k u hu => ?_, ha d (by omega)⟩
      have hk : k < (Cel.ndC a p l cp).length := (List.getElem?_eq_some_iff.1 hu).1
      have := BlkC.cell hg k u (by rw [List.getElem?_toArray, List.getElem?_append_left hk]; exact hu)
      rw [show 0 + 0 * 8 + k = k from by omega]
      exact this
    | 1, hx =>
      simp only [List.getElem?_cons_succ, List.getElem?_cons_zero, Option.some.injEq] at hx
      subst hx
      refine ⟨p', l', cp', fun k u hu => ?_, hc d (by omega)⟩
      have := BlkC.cell hg (8 + k) u (by rw [List.getElem?_toArray, List.getElem?_append_right (by show 8 ≤ 8 + k; omega)]; rw [← hu]; congr 1; show 8 + k - 8 = k; omega)
      rw [show 0 + 1 * 8 + k = 8 + k from by omega]
      exact this
    | j + 2, hx => simp at hx
theorem rdp_two' {ok : Nat → Prop} {W : World} {n a c : Nd} {g : Nat} {p p' : Option Addr} {l l' cp cp' : Nat} {T : TypeId} (hn : n.args = [a, c]) (hg : BlkC W g (Cel.ndC a p l cp ++ Cel.ndC c p' l' cp').toArray T) (h1 : ok g) (hd : dpN n = max (dpN a) (dpN c) + 1)
    (ha : ∀ d, dpN a ≤ d + 1 → Cel.RdP W ok d a p l) (hc : ∀ d, dpN c ≤ d + 1 → Cel.RdP W ok d c p' l') : ∀ d, dpN n ≤ d + 1 → Cel.RdP W ok d n (some ⟨g, 0, none⟩) 2 := by
  intro d hdd
  have hd0 : 1 ≤ dpN c := by cases c; rw [dpN]; omega
  cases d with
  | zero => omega
  | succ d =>
    refine ⟨by rw [hn]; rfl, .inr ⟨g, 0, rfl, h1, fun j x hx => ?_⟩⟩
    rw [hn] at hx
    match j, hx with
    | 0, hx =>
      simp only [List.getElem?_cons_zero, Option.some.injEq] at hx
      subst hx
      refine ⟨p, l, cp, fun k u hu => ?_, ha d (by omega)⟩
      have hk : k < (Cel.ndC a p l cp).length := (List.getElem?_eq_some_iff.1 hu).1
      have := BlkC.cell hg k u (by rw [List.getElem?_toArray, List.getElem?_append_left hk]; exact hu)
      rw [show 0 + 0 * 8 + k = k from by omega]
      exact this
    | 1, hx =>
      simp only [List.getElem?_cons_succ, List.getElem?_cons_zero, Option.some.injEq] at hx
      subst hx
      refine ⟨p', l', cp', fun k u hu => ?_, hc d (by omega)⟩
      have := BlkC.cell hg (8 + k) u (by rw [List.getElem?_toArray, List.getElem?_append_right (by show 8 ≤ 8 + k; omega)]; rw [← hu]; congr 1; show 8 + k - 8 = k; omega)
      rw [show 0 + 1 * 8 + k = 8 + k from by omega]
      exact this
    | j + 2, hx => simp at hx
theorem rdp_leaf (W : World) (ok : Nat → Prop) {n : Nd} (hn : n.args = []) (p : Option Addr) : ∀ d, Cel.RdP W ok d n p 0
  | 0 => ⟨hn, rfl⟩
  | d + 1 => ⟨by rw [hn]; rfl, .inl rfl⟩
theorem Off.bc {b k : Nat} {w w' : World} {cs : Array Value} {t : TypeId} (h : Off b w w') (hk : k ≠ b) (hc : BlkC w k cs t) : BlkC w' k cs t := h.blk hk hc
/-- The answer stored into the block of the result. -/
theorem res_store {b : Nat} {q : Option Addr} {nT cT i k : Nat} {w W : World} {n : Nd} {p : Option Addr} {l cp : Nat} {C : Array Value} (h1 : BlkC W w.heap.size C Cel.tPn) (hC : C.size = 8) (hp : Psr W b q nT cT (i + k)) (ho : Off b w W) (hb : b < w.heap.size) (hl : n.args.length = l)
    (hk : ∀ d, dpN n ≤ d + 1 → Cel.RdP W (fun k => w.heap.size < k ∧ k < W.heap.size) d n p l) :
    BlkC (W.setCells w.heap.size 0 (Cel.ndA n p l cp).toList) w.heap.size (Cel.ndA n p l cp) Cel.tPn ∧ PaP b q nT cT i k n w (.returned (.agg (Cel.ndA n p l cp))) (W.setCells w.heap.size 0 (Cel.ndA n p l cp).toList) := by
  have hz := (store_below (Nat.zero_le w.heap.size) (Cel.ndA n p l cp).toList 0 W (Below.refl 0 W)).size
  refine ⟨store_block h1 _ (by rw [hC]; rfl), ⟨p, cp, by rw [hl], fun d hd => ?_⟩, (store_other (by omega) _ _ _).trans hp, ho.set_cells (Nat.le_refl _) _ _⟩
  rw [hl]
  exact (hk d hd).carry (fun k hk' => ⟨⟨by omega, by omega⟩, store_other (by omega) _ _ _⟩)
theorem prim_head {n : Nd} (h : Fm n) (hk : n.kind ≠ 5) {Ts : List Tks.Tk} {i : Nat} {rest : List Tw} (hat : At Ts i (tkN nmS n 5 ++ rest)) : isB Ts i [45] = false := by
  have key : ∀ x l, At Ts i (x :: l) → (x.1 ≠ 4 ∨ x.2 ≠ [45]) → isB Ts i [45] = false := fun x l h1 h2 => by
    rw [isB_head h1]
    rcases h2 with h2 | h2
    · rw [decide_eq_false h2]; rfl
    · rw [decide_eq_false h2, Bool.and_false]
  rw [tkN_split] at hat
  cases h with
  | num u h1 h2 => exact key _ _ hat (.inl (by show (1 : Int) ≠ 4; omega))
  | txt t => exact key _ _ hat (.inl (by show (2 : Int) ≠ 4; omega))
  | ref f h => exact key _ _ hat (.inl (by show (3 : Int) ≠ 4; omega))
  | rng f o h1 h2 => exact key _ _ hat (.inl (by show (3 : Int) ≠ 4; omega))
  | neg a h => exact absurd rfl hk
  | bin t a c ht h1 h2 =>
    rw [if_pos (by have := lvS_pos t; show lvS t < 5; omega)] at hat
    exact key _ _ hat (.inr (by decide))
  | cal t ar ht hl h =>
    rw [if_neg (by show ¬ (6 : Int) < 5; omega), tk_cal'] at hat
    exact key _ _ hat (.inl (by show (3 : Int) ≠ 4; omega))
  | flt => exact key _ _ hat (.inl (by show (5 : Int) ≠ 4; omega))
theorem rest_tkS {lv : Int} {l : List (Bs × Nd)} (hl : ∀ y ∈ l, lvS y.1 = lv ∧ 1 ≤ lvS y.1) {rest : List Tw} (hr : RestOk lv rest) : RestOk (lv + 1) (tkS lv l ++ rest) := by
  cases l with
  | nil => exact hr.up (by omega)
  | cons y l =>
    obtain ⟨h1, h2⟩ := hl y (by simp)
    have := rest_sign h2 (tkN nmS y.2 (lv + 1) ++ tkS lv l ++ rest)
    rw [h1] at this
    exact this
end Go.Proofs.YtbdgdhjhgcpidaaGreatDoor
namespace Go.Proofs.YtbdgdhjhgcpidaaGreatDoor
open Go.RowKit Go.Joins

/-- What the law makes of a tree. -/
abbrev xN (n : Nd) : Nd := pcN (plN n)
mutual
theorem x_dp : ∀ n : Nd, dpN (pcN (plN n)) = dpN n
  | .mk k u t f o a => by rw [plN, pcN, dpN, dpN, x_dpL a]
theorem x_dpL : ∀ (a : List Nd) (m : Nat), dpL (pcNL (plNL a)) m = dpL a m
  | [], m => by rw [plNL, pcNL]
  | c :: r, m => by rw [plNL, pcNL, dpL, dpL, x_dp c, x_dpL r]
end
mutual
theorem x_sz : ∀ (n : Nd) (m : Int), szN (pcN (plN n)) m = szN n m
  | .mk k u t f o a, m => by rw [plN, pcN, szN, szN, x_szL a]
theorem x_szL : ∀ (a : List Nd) (k m : Int), szL (pcNL (plNL a)) k m = szL a k m
  | [], k, m => by rw [plNL, pcNL]
  | c :: r, k, m => by rw [plNL, pcNL, szL, szL, x_sz c, x_szL r]
end
mutual
theorem x_wt : ∀ n : Nd, wtN (pcN (plN n)) ≤ wtN n
  | .mk k u t f o a => by
    rw [plN, pcN, wtN, wtN]
    have := x_wtL a
    split
    · omega
    · simp; omega
theorem x_wtL : ∀ a : List Nd, wtL (pcNL (plNL a)) ≤ wtL a
  | [] => by rw [plNL, pcNL]; exact Nat.le_refl _
  | c :: r => by
    rw [plNL, pcNL, wtL, wtL]
    have h1 := x_wt c
    have h2 := x_wtL r
    omega
end
theorem onK_in (k : Int) : 0 ≤ onK k ∧ onK k ≤ 10000000 := by
  unfold onK
  have h1 := Nat.mod_lt (IntKind.u64.wrap k).toNat (show 0 < 702 by omega)
  have h2 := Nat.mod_lt ((IntKind.u64.wrap k).toNat / 702) (show 0 < 9999 by omega)
  omega
theorem onK_ok (k : Int) : OkC (onK k) := by
  unfold onK OkC cC cR
  have h1 := Nat.mod_lt (IntKind.u64.wrap k).toNat (show 0 < 702 by omega)
  have h2 := Nat.mod_lt ((IntKind.u64.wrap k).toNat / 702) (show 0 < 9999 by omega)
  obtain ⟨a, ha⟩ : ∃ a, (IntKind.u64.wrap k).toNat % 702 = a := ⟨_, rfl⟩
  obtain ⟨b, hb⟩ : ∃ b, (IntKind.u64.wrap k).toNat / 702 % 9999 = b := ⟨_, rfl⟩
  rw [ha] at h1 ⊢
  rw [hb] at h2 ⊢
  rw [Int.tdiv_eq_ediv_of_nonneg (by omega), Int.tmod_eq_emod_of_nonneg (by omega)]
  have e1 : ((1 + (a : Int)) * 10000 + (1 + (b : Int))) / 10000 = 1 + (a : Int) := by omega
  have e2 : ((1 + (a : Int)) * 10000 + (1 + (b : Int))) % 10000 = 1 + (b : Int) := by omega
  rw [e1, e2]
  unfold rtC
  simp
  omega
theorem x_ok : ∀ {n : Nd}, OkN n → OkN (xN n)
  | _, .mk k u t f o a h1 h2 h3 h4 h5 h6 => by
    unfold xN
    rw [plN, pcN]
    refine .mk _ _ _ _ _ _ ?_ ?_ ?_ ?_ ?_ (fun c hc => ?_)
    · split
      · exact h1
      · simp
    · rw [plNL_map, pcNL_map, List.length_map, List.length_map]; exact h2
    · split <;> omega
    · have h := onK_in (if k = 3 ∨ k = 4 then f else 0)
      generalize onK (if k = 3 ∨ k = 4 then f else 0) = z at h ⊢
      split <;> omega
    · have h := onK_in (if k = 3 ∨ k = 4 then o else 0)
      generalize onK (if k = 3 ∨ k = 4 then o else 0) = z at h ⊢
      split <;> omega
    · rw [plNL_map, pcNL_map, List.map_map] at hc
      obtain ⟨y, hy, rfl⟩ := List.mem_map.1 hc
      exact x_ok (h6 y hy)
mutual
theorem dp_rt : ∀ (n : Nd) (lv : Int), rtN n lv = true → (dpN n : Int) ≤ lv
  | .mk k u t f o a, lv, h => by
    rw [rtN, Bool.and_eq_true, Bool.and_eq_true] at h
    have h1 : 1 ≤ lv := by
      have := h.1.1
      unfold headB at this
      simp only [Bool.and_eq_true, decide_eq_true_eq] at this
      exact this.1
    rw [dpN]
    have := dpL_rt a (lv - 1) 0 h.2 (by omega)
    omega
theorem dpL_rt : ∀ (a : List Nd) (lv : Int) (m : Nat), rtL a lv = true → (m : Int) ≤ lv → (dpL a m : Int) ≤ lv
  | [], lv, m, _, hm => by rw [dpL]; exact hm
  | c :: r, lv, m, h, hm => by
    rw [rtL, Bool.and_eq_true] at h
    rw [dpL]
    have := dp_rt c lv h.1
    exact dpL_rt r lv _ h.2 (by omega)
end
theorem rtL_of : ∀ {a : List Nd} {lv : Int}, (∀ c ∈ a, rtN c lv = true) → rtL a lv = true
  | [], lv, _ => by rw [rtL]
  | c :: r, lv, h => by rw [rtL, h c (by simp), rtL_of (fun x hx => h x (by simp [hx]))]; rfl
theorem dpL_memO : ∀ {a : List Nd} {c : Nd} {m : Nat}, c ∈ a → dpN c ≤ dpL a m
  | [], _, _, h => by cases h
  | x :: r, c, m, h => by
    rw [dpL]
    rcases List.mem_cons.1 h with rfl | h
    · exact Nat.le_trans (Nat.le_max_right _ _) (dpL_ge r _)
    · exact dpL_memO h
theorem dpN_memO {ar : List Nd} {c : Nd} (h : c ∈ ar) {k : Int} {t : Bs} : dpN c + 1 ≤ dpN (.mk k 0 t 0 0 ar) := by
  have := dpL_memO (m := 0) h
  rw [dpN]
  omega
/-- A formula that may be read, of few enough levels, is right. -/
theorem rt_fm {n : Nd} (h : Fm n) : ∀ lv : Int, (dpN n : Int) ≤ lv → rtN n lv = true := by
  have hd1 : ∀ c : Nd, 1 ≤ dpN c := fun c => by cases c; rw [dpN]; omega
  induction h with
  | num u h1 h2 =>
    intro lv hlv
    have := hd1 (.mk 1 u [] 0 0 [])
    rw [rtN, rtL]
    simp [headB, tagB, arB, loK, hiK, Nd.kind, Nd.args, Nd.num, h1]
    omega
  | txt t =>
    intro lv hlv
    have := hd1 (.mk 2 0 t 0 0 [])
    rw [rtN, rtL]
    simp [headB, tagB, arB, loK, hiK, Nd.kind, Nd.args, Nd.num]
    omega
  | ref f h =>
    intro lv hlv
    have := hd1 (.mk 3 0 [] f 0 [])
    rw [rtN, rtL]
    simp [headB, tagB, arB, loK, hiK, Nd.kind, Nd.args, Nd.num]
    omega
  | rng f o h1 h2 =>
    intro lv hlv
    have := hd1 (.mk 4 0 [] f o [])
    rw [rtN, rtL]
    simp [headB, tagB, arB, loK, hiK, Nd.kind, Nd.args, Nd.num]
    omega
  | neg a h ih =>
    intro lv hlv
    rw [dpN_one] at hlv
    have h1 := ih (lv - 1) (by omega)
    have := hd1 a
    rw [rtN, rtL, rtL, h1]
    simp [headB, tagB, arB, loK, hiK, Nd.kind, Nd.args, Nd.num]
    omega
  | bin t a b ht h1 h2 i1 i2 =>
    intro lv hlv
    rw [dpN_bin] at hlv
    have e1 := i1 (lv - 1) (by omega)
    have e2 := i2 (lv - 1) (by omega)
    have := hd1 a
    rw [rtN, rtL, rtL, rtL, e1, e2]
    have hl1 : 1 ≤ lv := by omega
    have hn0 : lvS t ≠ 0 := by omega
    simp [headB, tagB, arB, loK, hiK, Nd.kind, Nd.args, Nd.num, Nd.text, hl1, hn0]
  | cal t ar ht hl h ih =>
    intro lv hlv
    have hk : ∀ c ∈ ar, rtN c (lv - 1) = true := fun c hc => ih c hc (lv - 1) (by have := dpN_memO hc (k := 7) (t := t); omega)
    have := hd1 (.mk 7 0 t 0 0 ar)
    rw [rtN, rtL_of hk]
    simp [headB, tagB, arB, loK, hiK, Nd.kind, Nd.args, Nd.num, Nd.text, ht]
    omega
  | flt =>
    intro lv hlv
    have := hd1 (.mk 8 0 [] 0 0 [])
    rw [rtN, rtL]
    simp [headB, tagB, arB, loK, hiK, Nd.kind, Nd.args, Nd.num]
    omega
/-- What the law makes of a right tree may be read. -/
theorem x_fm : ∀ {n : Nd}, OkN n → ∀ lv : Int, rtN n lv = true → Fm (xN n)
  | _, .mk k u t f o a h1 h2 h3 h4 h5 h6, lv, hrt => by
    obtain ⟨k1, k8, hlo, hhi⟩ := rtN_arity hrt
    have hkids := rtN_kids hrt
    have hF : ∀ c ∈ a, Fm (xN c) := fun c hc => x_fm (h6 c hc) (lv - 1) (hkids c hc)
    have htag := hrt
    rw [rtN_eq, Bool.and_eq_true, Bool.and_eq_true] at htag
    have htag := htag.1.2
    simp only [Nd.kind, Nd.args] at k1 k8 hlo hhi
    have hk : k = 1 ∨ k = 2 ∨ k = 3 ∨ k = 4 ∨ k = 5 ∨ k = 6 ∨ k = 7 ∨ k = 8 := by omega
    unfold xN
    rw [plN, pcN]
    rcases hk with rfl | rfl | rfl | rfl | rfl | rfl | rfl | rfl
    · have ha : a = [] := List.eq_nil_of_length_eq_zero (by simp [hiK] at hhi; simpa using hhi)
      subst ha
      simp [tagB, Nd.kind, Nd.num] at htag
      rw [plNL, pcNL]
      exact .num u (of_decide_eq_true htag) (by omega)
    · have ha : a = [] := List.eq_nil_of_length_eq_zero (by simp [hiK] at hhi; simpa using hhi)
      subst ha
      rw [plNL, pcNL]
      exact .txt t
    · have ha : a = [] := List.eq_nil_of_length_eq_zero (by simp [hiK] at hhi; simpa using hhi)
      subst ha
      rw [plNL, pcNL]
      exact .ref _ (onK_ok _)
    · have ha : a = [] := List.eq_nil_of_length_eq_zero (by simp [hiK] at hhi; simpa using hhi)
      subst ha
      rw [plNL, pcNL]
      exact .rng _ _ (onK_ok _) (onK_ok _)
    · obtain ⟨x, hx⟩ := args_one hrt rfl
      have hx' : a = [x] := hx
      subst hx'
      rw [plNL, plNL, pcNL, pcNL]
      exact .neg _ (hF x (by simp))
    · obtain ⟨x, y, hx⟩ := args_two hrt rfl
      have hx' : a = [x, y] := hx
      subst hx'
      rw [plNL, plNL, plNL, pcNL, pcNL, pcNL]
      exact .bin t _ _ (rtN_tag6 hrt rfl) (hF x (by simp)) (hF y (by simp))
    · simp [tagB, Nd.kind, Nd.text] at htag
      refine .cal t _ htag ?_ (fun c hc => ?_)
      · rw [plNL_map, pcNL_map, List.length_map, List.length_map]
        simp [hiK] at hhi
        omega
      · rw [plNL_map, pcNL_map, List.map_map] at hc
        obtain ⟨y, hy, rfl⟩ := List.mem_map.1 hc
        exact hF y hy
    · have ha : a = [] := List.eq_nil_of_length_eq_zero (by simp [hiK] at hhi; simpa using hhi)
      subst ha
      rw [plNL, pcNL]
      exact .flt
end Go.Proofs.YtbdgdhjhgcpidaaGreatDoor
namespace Go.Proofs.YtbdgdhjhgcpidaaGreatDoor
open Go.RowKit Go.Joins

theorem hd5 (a : Nd) : tkN nmS (.mk 5 0 [] 0 0 [a]) 5 = (4, [45]) :: tkN nmS a 5 := by
  rw [tkN_split, if_neg (by show ¬ (5 : Int) < 5; omega), tk_neg']
set_option maxRecDepth 100000 in
set_option maxHeartbeats 8000000 in
theorem un_neg (a : Nd) (IH : UnC a) : UnC (.mk 5 0 [] 0 0 [a]) := by
  intro ws w b q cT i Ts rest hst hat hrs
  rw [hd5] at hat ⊢
  have hat' : At Ts i ((4, [45]) :: (tkN nmS a 5 ++ rest)) := hat
  obtain ⟨y, hy1, hy2, hat1⟩ := hat'.get
  have hib : isB Ts i [45] = true := by rw [isB_head hat']; rfl
  have hA0 : Hid (BlkC (w.alloc (.cells (Cel.ndA nodeZ none 0 0) Cel.tPn)) w.heap.size (Cel.ndA nodeZ none 0 0) Cel.tPn) := heap_alloc_new w _
  have hAB : Below w.heap.size w (w.alloc (.cells (Cel.ndA nodeZ none 0 0) Cel.tPn)) := by (repeat' (first | (with_reducible exact Below.refl _ _) | (with_reducible assumption) | (with_reducible refine Below.alloc ?_ ?_ _) | (with_reducible refine bel_drewN ?_ _) | (with_reducible refine Below.drew ?_) | (with_reducible refine Below.setCell ?_ ?_ _) | (with_reducible refine bel_call ‹_› ?_ ?_) | go_size))
  have HS0 := Lib.hid (hst.below hAB)
  have HO0 := Lib.hid (Off.of_below (b := b) hAB)
  have hbw := hst.lt
  have HIS := Lib.hid (fun W (h : PSt ws W b q Ts cT i) => is_any b q cT i Ts [45] W h.psr h.tks h.len)
  have HUN := Lib.hid (fun W (h : PSt ws W b q Ts cT (i + 1)) => IH ws W b q cT (i + 1) Ts rest h hat1 hrs)
  rw [hib] at HIS
  have HK := Lib.hid (show i + 1 + (tkN nmS a 5).length = i + ((4, [45]) :: tkN nmS a 5).length from by rw [List.length_cons]; omega)
  generalize ((4, [45]) :: tkN nmS a 5).length = kk at HK ⊢
  generalize (tkN nmS a 5).length = k at HK HUN
  obtain ⟨nT, hnT⟩ : ∃ n, Ts.length = n := ⟨_, rfl⟩
  have HNT := Lib.hid hnT
  rw [hnT] at HUN HIS ⊢
  clear hnT
  clear hat hat' hy1 hy2 hat1 hib hrs IH
  clear hst hAB
  go_enter Tryz.func78, Tryz.ntmps78
  go_upto_region 1 with fail
  have e0 : w.alloc (.cells #[.int .i64 0, .int .i64 0, .string ⟨#[]⟩, .int .i64 0, .int .i64 0, .int .i64 0, .int .i64 0, .slice none 0 0] Cel.tPn) = w.alloc (.cells (Cel.ndA nodeZ none 0 0) Cel.tPn) := rfl
  rw [e0]
  clear e0
  generalize w.alloc (.cells (Cel.ndA nodeZ none 0 0) Cel.tPn) = w0 at hA0 HS0 HO0 ⊢
  go_wp2_with fail
  refine (HIS.out w0 HS0.out).mono ?_
  rintro e w1 ⟨rfl, hp1, ho1⟩
  rw [if_pos rfl] at hp1
  have hA1 := Lib.hid (ho1.bc (by omega) hA0.out)
  have HS1 := Lib.hid (HS0.out.off ho1 (by rw [HNT.out]; exact hp1))
  have HO1 := Lib.hid (HO0.out.trans ho1)
  clear hp1 ho1 hA0 HS0 HO0 HIS
  go_wp2_with fail
  refine (HUN.out w1 HS1.out).mono ?_
  rintro e w2 ⟨⟨p, cap, rfl, hk⟩, hp2, ho2⟩
  rename_i KK aK
  go_simp
  refine aK _ _ ?_
  clear aK
  obtain ⟨l, hl⟩ : ∃ l, a.args.length = l := ⟨_, rfl⟩
  rw [hl] at hk ⊢
  have HP2 : Hid (Psr w2 b q nT cT (i + kk)) := by unfold Hid; rw [← HK.out]; exact hp2
  have HA2 := Lib.hid (ho2.bc (by omega) hA1.out)
  have HO2 := Lib.hid (HO1.out.trans ho2)
  have HKD := Lib.hid hk
  have hs1 := HO1.out.size
  have hs2 := ho2.size
  have hs0 : w.heap.size < w1.heap.size := lt_some hA1.out
  clear hp2 ho2 hk hA1 HS1 HO1 HUN
  rw [show Value.agg (Cel.ndA a p l cap) = .agg #[.int .i64 a.kind, .int .i64 a.num, .string ⟨a.text.toArray⟩, .int .i64 (cC a.frm), .int .i64 (cR a.frm), .int .i64 (cC a.tor), .int .i64 (cR a.tor), .slice p l cap] from rfl]
  iterate 3 (first | go_values | go_step)
  have e2 : w2.alloc (.cells #[.int .i64 a.kind, .int .i64 a.num, .string ⟨a.text.toArray⟩, .int .i64 (cC a.frm), .int .i64 (cR a.frm), .int .i64 (cC a.tor), .int .i64 (cR a.tor), .slice p l cap] Cel.tPn) = w2.alloc (.cells (Cel.ndA a p l cap) Cel.tPn) := rfl
  rw [e2]
  clear e2
  have HG3 : Hid (BlkC (w2.alloc (.cells (Cel.ndA a p l cap) Cel.tPn)) w2.heap.size (Cel.ndA a p l cap) Cel.tPn) := heap_alloc_new w2 _
  have hAB3 : Below w2.heap.size w2 (w2.alloc (.cells (Cel.ndA a p l cap) Cel.tPn)) := by (repeat' (first | (with_reducible exact Below.refl _ _) | (with_reducible assumption) | (with_reducible refine Below.alloc ?_ ?_ _) | (with_reducible refine bel_drewN ?_ _) | (with_reducible refine Below.drew ?_) | (with_reducible refine Below.setCell ?_ ?_ _) | (with_reducible refine bel_call ‹_› ?_ ?_) | go_size))
  have HA3 := Lib.hid (HA2.out.below hAB3)
  have HP3 := Lib.hid (HP2.out.below hAB3)
  have HO3 := Lib.hid (HO2.out.call hAB3)
  have hs3 : (w2.alloc (.cells (Cel.ndA a p l cap) Cel.tPn)).heap.size = w2.heap.size + 1 := World.size_alloc _ _
  have HK3 : Hid (∀ d, dpN a ≤ d + 1 → Cel.RdP (w2.alloc (.cells (Cel.ndA a p l cap) Cel.tPn)) (fun k => w1.heap.size ≤ k ∧ k < w2.heap.size) d a p l) := fun d hd => (HKD.out d hd).carry (fun k hk => ⟨hk, hAB3.block k hk.2⟩)
  clear hAB3 HA2 HP2 HO2 HKD
  generalize w2.alloc (.cells (Cel.ndA a p l cap) Cel.tPn) = w3 at HG3 HA3 HP3 HO3 HK3 hs3 ⊢
  generalize w2.heap.size = g at HG3 HK3 hs2 hs3 ⊢
  refine wpList_plain rfl fun K hK => ?_
  go_simp
  refine hK _ _ ?_
  clear hK K
  refine wpList_store_mid (by rfl) _ _ _ (by rfl) w.heap.size 0 #[.int .i64 5, .int .i64 0, .string ⟨#[]⟩, .int .i64 0, .int .i64 0, .int .i64 0, .int .i64 0, .slice (some ⟨g, 0, none⟩) 1 1] (by rfl) (by rfl) (block_there HA3.out 8 (Nat.le_refl _)) (by kernel_rfl) (by simp [Value.oneCell']) ?_
  obtain ⟨hs8, hf8⟩ := res_store (n := .mk 5 0 [] 0 0 [a]) (p := some ⟨g, 0, none⟩) (l := 1) (cp := 1) HA3.out rfl HP3.out HO3.out hbw rfl (by
    refine fun d hd => (rdp_one (N := w.heap.size + 1) (c := a) rfl HG3.out (by omega) (by omega) (dpN_one 5 [] a) (fun d hd => (HK3.out d hd).carry (fun k hk => ⟨⟨by omega, by omega⟩, rfl⟩)) d hd).carry (fun k hk => ⟨⟨by omega, by omega⟩, rfl⟩))
  have HS8 := Lib.hid hs8
  have HF8 := Lib.hid hf8
  clear hs8 hf8
  have e8 : w3.setCells w.heap.size 0 (#[.int .i64 5, .int .i64 0, .string ⟨#[]⟩, .int .i64 0, .int .i64 0, .int .i64 0, .int .i64 0, .slice (some ⟨g, 0, none⟩) 1 1]).toList = w3.setCells w.heap.size 0 (Cel.ndA (.mk 5 0 [] 0 0 [a]) (some ⟨g, 0, none⟩) 1 1).toList := rfl
  rw [e8]
  clear e8
  generalize w3.setCells w.heap.size 0 (Cel.ndA (.mk 5 0 [] 0 0 [a]) (some ⟨g, 0, none⟩) 1 1).toList = w9 at HS8 HF8 ⊢
  go_simp
  iterate 3 (first | go_values | go_skip | go_guarded | go_step | go_upon)
  apply wp_ret
  try simp only [Exit.inBlock, Exit.then]
  exact bodyPost_ret (results_cell_row rfl _ _ w.heap.size Cel.tPn (Cel.ndA (.mk 5 0 [] 0 0 [a]) (some ⟨g, 0, none⟩) 1 1) (0, 0) _ rfl HS8.out Tryz.underlying44 rfl (by kernel_rfl)) rfl HF8.out
set_option maxRecDepth 100000 in
set_option maxHeartbeats 8000000 in
theorem un_prim (n : Nd) (hf : Fm n) (hk5 : n.kind ≠ 5) (IH : PrC n) : UnC n := by
  intro ws w b q cT i Ts rest hst hat hrs
  have hA0 : Hid (BlkC (w.alloc (.cells (Cel.ndA nodeZ none 0 0) Cel.tPn)) w.heap.size (Cel.ndA nodeZ none 0 0) Cel.tPn) := heap_alloc_new w _
  have hAB : Below w.heap.size w (w.alloc (.cells (Cel.ndA nodeZ none 0 0) Cel.tPn)) := by (repeat' (first | (with_reducible exact Below.refl _ _) | (with_reducible assumption) | (with_reducible refine Below.alloc ?_ ?_ _) | (with_reducible refine bel_drewN ?_ _) | (with_reducible refine Below.drew ?_) | (with_reducible refine Below.setCell ?_ ?_ _) | (with_reducible refine bel_call ‹_› ?_ ?_) | go_size))
  have HS0 := Lib.hid (hst.below hAB)
  have HO0 := Lib.hid (Off.of_below (b := b) hAB)
  have hbw := hst.lt
  have hib := prim_head hf hk5 hat
  have HIS := Lib.hid (fun W (h : PSt ws W b q Ts cT i) => is_any b q cT i Ts [45] W h.psr h.tks h.len)
  have HUN := Lib.hid (fun W (h : PSt ws W b q Ts cT i) => IH ws W b q cT i Ts rest h hat hrs)
  rw [hib] at HIS
  generalize (tkN nmS n 5).length = k at HUN ⊢
  obtain ⟨nT, hnT⟩ : ∃ n, Ts.length = n := ⟨_, rfl⟩
  have HNT := Lib.hid hnT
  rw [hnT] at HUN HIS ⊢
  clear hnT
  clear hat hib hrs IH hf hk5
  clear hst hAB
  go_enter Tryz.func78, Tryz.ntmps78
  go_upto_region 1 with fail
  have e0 : w.alloc (.cells #[.int .i64 0, .int .i64 0, .string ⟨#[]⟩, .int .i64 0, .int .i64 0, .int .i64 0, .int .i64 0, .slice none 0 0] Cel.tPn) = w.alloc (.cells (Cel.ndA nodeZ none 0 0) Cel.tPn) := rfl
  rw [e0]
  clear e0
  generalize w.alloc (.cells (Cel.ndA nodeZ none 0 0) Cel.tPn) = w0 at hA0 HS0 HO0 ⊢
  go_wp2_with fail
  refine (HIS.out w0 HS0.out).mono ?_
  rintro e w1 ⟨rfl, hp1, ho1⟩
  rw [if_neg (by simp)] at hp1
  have hA1 := Lib.hid (ho1.bc (by omega) hA0.out)
  have HS1 := Lib.hid (HS0.out.off ho1 (by rw [HNT.out]; exact hp1))
  have HO1 := Lib.hid (HO0.out.trans ho1)
  clear hp1 ho1 hA0 HS0 HO0 HIS
  go_wp2_with fail
  refine (HUN.out w1 HS1.out).mono ?_
  rintro e w2 ⟨⟨p, cap, rfl, hk⟩, hp2, ho2⟩
  rename_i KK aK
  go_simp
  refine aK _ _ ?_
  clear aK
  obtain ⟨l, hl⟩ : ∃ l, n.args.length = l := ⟨_, rfl⟩
  rw [hl] at hk ⊢
  have HP2 := Lib.hid hp2
  have HA2 := Lib.hid (ho2.bc (by omega) hA1.out)
  have HO2 := Lib.hid (HO1.out.trans ho2)
  have HKD := Lib.hid hk
  have HL := Lib.hid hl
  have hs2 := ho2.size
  have hs0 : w.heap.size < w1.heap.size := lt_some hA1.out
  clear hp2 ho2 hk hl HS1 hA1 HO1 HUN
  rw [show Value.agg (Cel.ndA n p l cap) = .agg #[.int .i64 n.kind, .int .i64 n.num, .string ⟨n.text.toArray⟩, .int .i64 (cC n.frm), .int .i64 (cR n.frm), .int .i64 (cC n.tor), .int .i64 (cR n.tor), .slice p l cap] from rfl]
  refine wpList_store_mid (by rfl) _ _ _ (by rfl) w.heap.size 0 #[.int .i64 n.kind, .int .i64 n.num, .string ⟨n.text.toArray⟩, .int .i64 (cC n.frm), .int .i64 (cR n.frm), .int .i64 (cC n.tor), .int .i64 (cR n.tor), .slice p l cap] (by rfl) (by rfl) (block_there HA2.out 8 (Nat.le_refl _)) (by kernel_rfl) (by simp [Value.oneCell']) ?_
  obtain ⟨hs8, hf8⟩ := res_store (n := n) (p := p) (l := l) (cp := cap) HA2.out rfl HP2.out HO2.out hbw HL.out (fun d hd => (HKD.out d hd).carry (fun k hk => ⟨⟨by omega, by omega⟩, rfl⟩))
  have HS8 := Lib.hid hs8
  have HF8 := Lib.hid hf8
  clear hs8 hf8
  have e8 : w2.setCells w.heap.size 0 (#[.int .i64 n.kind, .int .i64 n.num, .string ⟨n.text.toArray⟩, .int .i64 (cC n.frm), .int .i64 (cR n.frm), .int .i64 (cC n.tor), .int .i64 (cR n.tor), .slice p l cap]).toList = w2.setCells w.heap.size 0 (Cel.ndA n p l cap).toList := rfl
  rw [e8]
  clear e8
  generalize w2.setCells w.heap.size 0 (Cel.ndA n p l cap).toList = w9 at HS8 HF8 ⊢
  go_simp
  iterate 3 (first | go_values | go_skip | go_guarded | go_step | go_upon)
  apply wp_ret
  try simp only [Exit.inBlock, Exit.then]
  exact bodyPost_ret (results_cell_row rfl _ _ w.heap.size Cel.tPn (Cel.ndA n p l cap) (0, 0) _ rfl HS8.out Tryz.underlying44 rfl (by kernel_rfl)) rfl HF8.out
set_option maxRecDepth 100000 in
set_option maxHeartbeats 8000000 in
theorem bin_5 (n : Nd) (IH : UnC n) : BinC n 5 := by
  intro ws w b q cT i Ts rest hst hat hrs
  have hA0 : Hid (BlkC (w.alloc (.cells (Cel.ndA nodeZ none 0 0) Cel.tPn)) w.heap.size (Cel.ndA nodeZ none 0 0) Cel.tPn) := heap_alloc_new w _
  have hAB : Below w.heap.size w (w.alloc (.cells (Cel.ndA nodeZ none 0 0) Cel.tPn)) := by (repeat' (first | (with_reducible exact Below.refl _ _) | (with_reducible assumption) | (with_reducible refine Below.alloc ?_ ?_ _) | (with_reducible refine bel_drewN ?_ _) | (with_reducible refine Below.drew ?_) | (with_reducible refine Below.setCell ?_ ?_ _) | (with_reducible refine bel_call ‹_› ?_ ?_) | go_size))
  have HS0 := Lib.hid (hst.below hAB)
  have HO0 := Lib.hid (Off.of_below (b := b) hAB)
  have hbw := hst.lt
  have HUN := Lib.hid (fun W (h : PSt ws W b q Ts cT i) => IH ws W b q cT i Ts rest h hat hrs)
  generalize (tkN nmS n 5).length = k at HUN ⊢
  obtain ⟨nT, hnT⟩ : ∃ n, Ts.length = n := ⟨_, rfl⟩
  have HNT := Lib.hid hnT
  rw [hnT] at HUN ⊢
  clear hnT
  clear hat hrs IH
  clear hst hAB
  go_enter Tryz.func60, Tryz.ntmps60
  go_upto_region 1 with fail
  have e0 : w.alloc (.cells #[.int .i64 0, .int .i64 0, .string ⟨#[]⟩, .int .i64 0, .int .i64 0, .int .i64 0, .int .i64 0, .slice none 0 0] Cel.tPn) = w.alloc (.cells (Cel.ndA nodeZ none 0 0) Cel.tPn) := rfl
  rw [e0]
  clear e0
  generalize w.alloc (.cells (Cel.ndA nodeZ none 0 0) Cel.tPn) = w0 at hA0 HS0 HO0 ⊢
  go_wp2_with fail
  refine (HUN.out w0 HS0.out).mono ?_
  rintro e w2 ⟨⟨p, cap, rfl, hk⟩, hp2, ho2⟩
  rename_i KK aK
  go_simp
  refine aK _ _ ?_
  clear aK
  obtain ⟨l, hl⟩ : ∃ l, n.args.length = l := ⟨_, rfl⟩
  rw [hl] at hk ⊢
  have HP2 := Lib.hid hp2
  have HA2 := Lib.hid (ho2.bc (by omega) hA0.out)
  have HO2 := Lib.hid (HO0.out.trans ho2)
  have HKD := Lib.hid hk
  have HL := Lib.hid hl
  have hs2 := ho2.size
  have hs0 : w.heap.size < w0.heap.size := lt_some hA0.out
  clear hp2 ho2 hk hl HS0 hA0 HO0 HUN
  rw [show Value.agg (Cel.ndA n p l cap) = .agg #[.int .i64 n.kind, .int .i64 n.num, .string ⟨n.text.toArray⟩, .int .i64 (cC n.frm), .int .i64 (cR n.frm), .int .i64 (cC n.tor), .int .i64 (cR n.tor), .slice p l cap] from rfl]
  refine wpList_store_mid (by rfl) _ _ _ (by rfl) w.heap.size 0 #[.int .i64 n.kind, .int .i64 n.num, .string ⟨n.text.toArray⟩, .int .i64 (cC n.frm), .int .i64 (cR n.frm), .int .i64 (cC n.tor), .int .i64 (cR n.tor), .slice p l cap] (by rfl) (by rfl) (block_there HA2.out 8 (Nat.le_refl _)) (by kernel_rfl) (by simp [Value.oneCell']) ?_
  obtain ⟨hs8, hf8⟩ := res_store (n := n) (p := p) (l := l) (cp := cap) HA2.out rfl HP2.out HO2.out hbw HL.out (fun d hd => (HKD.out d hd).carry (fun k hk => ⟨⟨by omega, by omega⟩, rfl⟩))
  have HS8 := Lib.hid hs8
  have HF8 := Lib.hid hf8
  clear hs8 hf8
  have e8 : w2.setCells w.heap.size 0 (#[.int .i64 n.kind, .int .i64 n.num, .string ⟨n.text.toArray⟩, .int .i64 (cC n.frm), .int .i64 (cR n.frm), .int .i64 (cC n.tor), .int .i64 (cR n.tor), .slice p l cap]).toList = w2.setCells w.heap.size 0 (Cel.ndA n p l cap).toList := rfl
  rw [e8]
  clear e8
  generalize w2.setCells w.heap.size 0 (Cel.ndA n p l cap).toList = w9 at HS8 HF8 ⊢
  go_simp
  iterate 3 (first | go_values | go_skip | go_guarded | go_step | go_upon)
  apply wp_ret
  try simp only [Exit.inBlock, Exit.then]
  exact bodyPost_ret (results_cell_row rfl _ _ w.heap.size Cel.tPn (Cel.ndA n p l cap) (0, 0) _ rfl HS8.out Tryz.underlying44 rfl (by kernel_rfl)) rfl HF8.out
end Go.Proofs.YtbdgdhjhgcpidaaGreatDoor
