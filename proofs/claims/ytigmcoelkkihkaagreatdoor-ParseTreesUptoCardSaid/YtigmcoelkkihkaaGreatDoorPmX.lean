/- The parser: its contracts; chains of signs of one level: plain part. The parser: 'unary', and 'binary' behind the last level. Printed by gen_par.py. The parser: 'binary': parts with signs of a level between. Printed by gen_par.py. -/
import Derived.Test.YtigmcoelkkihkaaGreatDoorPmR
import Derived.Test.YtigmcoelkkihkaaGreatDoorPmS
import Derived.Test.YtigmcoelkkihkaaGreatDoorPmW
set_option linter.unusedSimpArgs false
set_option linter.unusedVariables false
namespace Go.Proofs.YtigmcoelkkihkaaGreatDoor
open Go.RowKit Go.Joins

/-- All that is known of the parser in memory. -/
structure PSt (ws w : World) (b : Nat) (q : Option Addr) (Ts : List Tks.Tk) (cT i : Nat) : Prop where
  psr : Psr w b q Ts.length cT i
  tks : TkR w b q Ts
  len : Ts.length ≤ 1000
  sh : ws.ShapedOpen Tryz.prog
  bel : Below ws.heap.size ws w
  hb : ws.heap.size ≤ b
theorem PSt.off {ws w w' : World} {b : Nat} {q : Option Addr} {Ts : List Tks.Tk} {cT i j : Nat} (h : PSt ws w b q Ts cT i) (ho : Off b w w') (hp : Psr w' b q Ts.length cT j) : PSt ws w' b q Ts cT j :=
  ⟨hp, h.tks.off ho, h.len, h.sh, h.bel.trans (ho.below h.hb h.bel.size), h.hb⟩
theorem Off.psr {w w' : World} {b : Nat} {q : Option Addr} {n cT i : Nat} (h : Psr w b q n cT i) (hb : Below w.heap.size w w') : Psr w' b q n cT i := h.below hb
theorem PSt.below {ws w w' : World} {b : Nat} {q : Option Addr} {Ts : List Tks.Tk} {cT i : Nat} (h : PSt ws w b q Ts cT i) (hb : Below w.heap.size w w') : PSt ws w' b q Ts cT i := h.off (Off.of_below hb) (h.psr.below hb)
theorem PSt.shaped {ws w : World} {b : Nat} {q : Option Addr} {Ts : List Tks.Tk} {cT i : Nat} (h : PSt ws w b q Ts cT i) : w.ShapedOpen Tryz.prog := shaped_below h.sh h.bel
theorem PSt.lt {ws w : World} {b : Nat} {q : Option Addr} {Ts : List Tks.Tk} {cT i : Nat} (h : PSt ws w b q Ts cT i) : b < w.heap.size := lt_some h.psr
/-- What may come behind a part of a level. -/
def RestOk (lv : Int) : List Tw → Prop
  | [] => True
  | x :: _ => x.1 = 4 ∧ x.2 ≠ [40] ∧ x.2 ≠ [58] ∧ ∀ l, lv ≤ l → x.2 ∉ sgS l
theorem RestOk.up {lv lv' : Int} (h : lv ≤ lv') : ∀ {r : List Tw}, RestOk lv r → RestOk lv' r
  | [], _ => trivial
  | x :: _, ⟨h1, h2, h3, h4⟩ => ⟨h1, h2, h3, fun l hl => h4 l (by omega)⟩
/-- A tree that is handed back: its parts lie in new blocks. -/
def ResN (w : World) (n : Nd) (e : Ending) (w' : World) : Prop := ∃ p cap, e = .returned (.agg (Cel.ndA n p n.args.length cap)) ∧ ∀ d, dpN n ≤ d + 1 → Cel.RdP w' (fun k => w.heap.size ≤ k ∧ k < w'.heap.size) d n p n.args.length
def PaP (b : Nat) (q : Option Addr) (nT cT i k : Nat) (n : Nd) (w : World) (e : Ending) (w' : World) : Prop := ResN w n e w' ∧ Psr w' b q nT cT (i + k) ∧ Off b w w'
/-- The tokens from a place on. -/
def At (Ts : List Tks.Tk) (i : Nat) (l : List Tw) : Prop := (Ts.drop i).map tw = l
theorem At.get {Ts : List Tks.Tk} {i : Nat} {x : Tw} {l : List Tw} (h : At Ts i (x :: l)) : ∃ y, Ts[i]? = some y ∧ tw y = x ∧ At Ts (i + 1) l := by
  unfold At at h ⊢
  have hlt : i < Ts.length := by
    have := congrArg List.length h
    simp at this
    omega
  rw [List.drop_eq_getElem_cons hlt, List.map_cons] at h
  simp only [List.cons.injEq] at h
  exact ⟨Ts[i], List.getElem?_eq_getElem hlt, h.1, h.2⟩
theorem At.nil {Ts : List Tks.Tk} {i : Nat} (h : At Ts i []) : Ts[i]? = none := by
  unfold At at h
  have := congrArg List.length h
  simp at this
  rw [List.getElem?_eq_none_iff]
  omega
theorem At.app {Ts : List Tks.Tk} : ∀ {l r : List Tw} {i : Nat}, At Ts i (l ++ r) → At Ts (i + l.length) r
  | [], r, i, h => h
  | x :: l, r, i, h => by
    obtain ⟨_, _, _, h2⟩ := At.get (l := l ++ r) h
    have := At.app h2
    rw [List.length_cons, show i + (l.length + 1) = i + 1 + l.length from by omega]
    exact this
theorem At.lt {Ts : List Tks.Tk} {i : Nat} {l : List Tw} (h : At Ts i l) (hi : i ≤ Ts.length) : i + l.length = Ts.length := by
  unfold At at h
  have := congrArg List.length h
  simp at this
  omega
theorem At.le {Ts : List Tks.Tk} {i : Nat} {x : Tw} {l : List Tw} (h : At Ts i (x :: l)) : i + 1 ≤ Ts.length := by
  obtain ⟨y, h1, _⟩ := h.get
  have := (List.getElem?_eq_some_iff.1 h1).1
  omega
theorem isB_head {Ts : List Tks.Tk} {i : Nat} {x : Tw} {l : List Tw} (h : At Ts i (x :: l)) (s : Bs) : isB Ts i s = (decide (x.1 = 4) && decide (x.2 = s)) := by
  obtain ⟨y, h1, h2, _⟩ := h.get
  unfold isB
  rw [h1, ← h2]
  rfl
theorem isB_nil {Ts : List Tks.Tk} {i : Nat} (h : At Ts i []) (s : Bs) : isB Ts i s = false := by
  unfold isB
  rw [h.nil]
theorem isB_rest {Ts : List Tks.Tk} {i : Nat} {lv : Int} : ∀ {r : List Tw}, At Ts i r → RestOk lv r → isB Ts i [40] = false ∧ isB Ts i [58] = false ∧ ∀ l, lv ≤ l → sgO Ts i l = []
  | [], h, _ => ⟨isB_nil h _, isB_nil h _, fun l _ => by unfold sgO; rw [h.nil]⟩
  | x :: r, h, ⟨h1, h2, h3, h4⟩ => by
    refine ⟨by rw [isB_head h, decide_eq_false h2, Bool.and_false], by rw [isB_head h, decide_eq_false h3, Bool.and_false], fun l hl => ?_⟩
    refine sgO_no (fun s hs => ?_)
    have hne : decide (x.2 = s) = false := decide_eq_false (fun e => h4 l hl (by rw [e]; exact hs))
    rw [isB_head h, hne, Bool.and_false]
theorem sgO_head {Ts : List Tks.Tk} {i : Nat} {t : Bs} {l : List Tw} {lv : Int} (h : At Ts i ((4, t) :: l)) (ht : t ∈ sgS lv) : sgO Ts i lv = t := by
  refine sgO_yes ?_ ht
  rw [isB_head h]
  simp
theorem lvS_in {t : Bs} (h : 1 ≤ lvS t) : t ∈ sgS (lvS t) := by
  unfold lvS at h ⊢
  split
  · assumption
  · rename_i h1
    rw [if_neg h1] at h
    split
    · assumption
    · rename_i h2
      rw [if_neg h2] at h
      split
      · assumption
      · rename_i h3
        rw [if_neg h3] at h
        split
        · assumption
        · rename_i h4
          rw [if_neg h4] at h
          omega
theorem sgS_lv {t : Bs} {l : Int} (h : t ∈ sgS l) : lvS t = l ∧ 1 ≤ l ∧ l ≤ 4 := by
  unfold sgS at h
  split at h
  · rename_i e
    simp only [sg1, List.mem_cons, List.not_mem_nil, or_false] at h
    subst e
    rcases h with rfl | rfl | rfl | rfl | rfl | rfl <;> decide
  · split at h
    · rename_i e
      simp only [sg2, List.mem_cons, List.not_mem_nil, or_false] at h
      subst e
      subst h
      decide
    · split at h
      · rename_i e
        simp only [sg3, List.mem_cons, List.not_mem_nil, or_false] at h
        subst e
        rcases h with rfl | rfl <;> decide
      · split at h
        · rename_i e
          simp only [sg4, List.mem_cons, List.not_mem_nil, or_false] at h
          subst e
          rcases h with rfl | rfl <;> decide
        · cases h
theorem rest_sign {t : Bs} (ht : 1 ≤ lvS t) (r : List Tw) : RestOk (lvS t + 1) ((4, t) :: r) := by
  refine ⟨rfl, ?_, ?_, fun l hl hm => ?_⟩
  · rintro rfl
    exact absurd ht (by decide)
  · rintro rfl
    exact absurd ht (by decide)
  · have : lvS t = l := (sgS_lv hm).1
    omega
theorem rest_shut (lv : Int) (r : List Tw) : RestOk lv ((4, [41]) :: r) := by
  refine ⟨rfl, by decide, by decide, fun l hl hm => ?_⟩
  have := (sgS_lv hm).2.1
  have h2 := (sgS_lv hm).1
  rw [← h2] at this
  exact absurd this (by decide)
theorem rest_comma (lv : Int) (r : List Tw) : RestOk lv ((4, [44]) :: r) := by
  refine ⟨rfl, by decide, by decide, fun l hl hm => ?_⟩
  have := (sgS_lv hm).2.1
  have h2 := (sgS_lv hm).1
  rw [← h2] at this
  exact absurd this (by decide)
/-- A chain of parts with signs between. -/
def foldS (x : Nd) (l : List (Bs × Nd)) : Nd := l.foldl (fun a y => .mk 6 0 y.1 0 0 [a, y.2]) x
theorem foldS_snoc (x : Nd) (l : List (Bs × Nd)) (t : Bs) (b : Nd) : foldS x (l ++ [(t, b)]) = .mk 6 0 t 0 0 [foldS x l, b] := by unfold foldS; rw [List.foldl_append]; rfl
def tkS (lv : Int) : List (Bs × Nd) → List Tw
  | [] => []
  | y :: r => (4, y.1) :: (tkN nmS y.2 (lv + 1) ++ tkS lv r)
theorem tkS_app (lv : Int) : ∀ a b : List (Bs × Nd), tkS lv (a ++ b) = tkS lv a ++ tkS lv b
  | [], b => rfl
  | y :: r, b => by rw [List.cons_append, tkS, tkS, tkS_app lv r b]; simp
theorem dpN_bin (t : Bs) (a b : Nd) : dpN (.mk 6 0 t 0 0 [a, b]) = max (dpN a) (dpN b) + 1 := by
  rw [dpN, dpL, dpL, dpL]
  omega
theorem dpN_one (k : Int) (t : Bs) (a : Nd) : dpN (.mk k 0 t 0 0 [a]) = dpN a + 1 := by
  rw [dpN, dpL, dpL]
  omega
theorem wtN_bin (t : Bs) (a b : Nd) : wtN a < wtN (.mk 6 0 t 0 0 [a, b]) ∧ wtN b < wtN (.mk 6 0 t 0 0 [a, b]) := by
  rw [wtN, wtL, wtL, wtL]
  omega
/-- A tree as a chain of one level. -/
theorem spine (lv : Int) (hlv : lv ≤ 4) {n : Nd} (h : Fm n) : ∃ (x : Nd) (l : List (Bs × Nd)), n = foldS x l ∧ Fm x ∧ hdS x.kind x.text ≠ lv ∧ (∀ y ∈ l, lvS y.1 = lv ∧ 1 ≤ lvS y.1 ∧ Fm y.2 ∧ wtN y.2 < wtN n) ∧ ((l = [] ∧ x = n) ∨ wtN x < wtN n) ∧ tkN nmS n lv = tkN nmS x (lv + 1) ++ tkS lv l := by
  have key : ∀ m : Nd, hdS m.kind m.text ≠ lv → tkN nmS m lv = tkN nmS m (lv + 1) := fun m hm => by
    rw [tkN_split, tkN_split nmS m (lv + 1)]
    by_cases h : hdS m.kind m.text < lv
    · rw [if_pos h, if_pos (by omega)]
    · rw [if_neg h, if_neg (by omega)]
  have self : ∀ m : Nd, Fm m → hdS m.kind m.text ≠ lv → ∃ (x : Nd) (l : List (Bs × Nd)), m = foldS x l ∧ Fm x ∧ hdS x.kind x.text ≠ lv ∧ (∀ y ∈ l, lvS y.1 = lv ∧ 1 ≤ lvS y.1 ∧ Fm y.2 ∧ wtN y.2 < wtN m) ∧ ((l = [] ∧ x = m) ∨ wtN x < wtN m) ∧ tkN nmS m lv = tkN nmS x (lv + 1) ++ tkS lv l := fun m h hm =>
    ⟨m, [], rfl, h, hm, (fun y hy => by cases hy), .inl ⟨rfl, rfl⟩, by rw [key m hm]; simp [tkS]⟩
  induction h with
  | bin t a b ht h1 h2 i1 i2 =>
    by_cases hh : lvS t = lv
    · have hw := wtN_bin t a b
      have e : tkN nmS (.mk 6 0 t 0 0 [a, b]) lv = tkN nmS a lv ++ (4, t) :: tkN nmS b (lv + 1) := by
        rw [tkN_split, if_neg (by show ¬ lvS t < lv; omega), tk_bin', hh]
      obtain ⟨x, l, e1, hx, hxl, hl, hlx, hlt2⟩ := i1
      refine ⟨x, l ++ [(t, b)], by rw [foldS_snoc, ← e1], hx, hxl, fun y hy => ?_, .inr ?_, ?_⟩
      · rcases List.mem_append.1 hy with hy | hy
        · obtain ⟨k1, k2, k3, k4⟩ := hl y hy
          exact ⟨k1, k2, k3, by omega⟩
        · obtain rfl := List.mem_singleton.1 hy
          exact ⟨hh, ht, h2, hw.2⟩
      · rcases hlx with ⟨_, rfl⟩ | hlx <;> omega
      · rw [e, hlt2, tkS_app]
        simp [tkS]
    · exact self _ (.bin t a b ht h1 h2) hh
  | num u h1 h2 => exact self _ (.num u h1 h2) (by show (6 : Int) ≠ lv; omega)
  | txt t => exact self _ (.txt t) (by show (6 : Int) ≠ lv; omega)
  | ref f h => exact self _ (.ref f h) (by show (6 : Int) ≠ lv; omega)
  | rng f o h1 h2 => exact self _ (.rng f o h1 h2) (by show (6 : Int) ≠ lv; omega)
  | neg a h ih => exact self _ (.neg a h) (by show (5 : Int) ≠ lv; omega)
  | cal t ar ht hl h ih => exact self _ (.cal t ar ht hl h) (by show (6 : Int) ≠ lv; omega)
  | flt => exact self _ .flt (by show (6 : Int) ≠ lv; omega)
/-- Contracts of the parser's functions at the tokens of a tree. -/
def BinC (n : Nd) (lv : Int) : Prop := ∀ (ws w : World) (b : Nat) (q : Option Addr) (cT i : Nat) (Ts : List Tks.Tk) (rest : List Tw), PSt ws w b q Ts cT i → At Ts i (tkN nmS n lv ++ rest) → RestOk lv rest →
  Calls Tryz.prog 24 #[.pointer (some ⟨b, 0, none⟩), .int .i64 lv] w (PaP b q Ts.length cT i (tkN nmS n lv).length n w)
def UnC (n : Nd) : Prop := ∀ (ws w : World) (b : Nat) (q : Option Addr) (cT i : Nat) (Ts : List Tks.Tk) (rest : List Tw), PSt ws w b q Ts cT i → At Ts i (tkN nmS n 5 ++ rest) → RestOk 5 rest →
  Calls Tryz.prog 46 #[.pointer (some ⟨b, 0, none⟩)] w (PaP b q Ts.length cT i (tkN nmS n 5).length n w)
def PrC (n : Nd) : Prop := ∀ (ws w : World) (b : Nat) (q : Option Addr) (cT i : Nat) (Ts : List Tks.Tk) (rest : List Tw), PSt ws w b q Ts cT i → At Ts i (tkN nmS n 5 ++ rest) → RestOk 5 rest →
  Calls Tryz.prog 76 #[.pointer (some ⟨b, 0, none⟩)] w (PaP b q Ts.length cT i (tkN nmS n 5).length n w)
/-- A node of one part that is laid in a block. -/
theorem rdp_one {W : World} {n c : Nd} {g : Nat} {p : Option Addr} {l cp : Nat} {T : TypeId} (hn : n.args = [c]) (hg : BlkC W g (Cel.ndA c p l cp) T) {N : Nat} (h1 : N ≤ g) (h2 : g < W.heap.size) (hd : dpN n = dpN c + 1)
    (hc : ∀ d, dpN c ≤ d + 1 → Cel.RdP W (fun k => N ≤ k ∧ k < W.heap.size) d c p l) : ∀ d, dpN n ≤ d + 1 → Cel.RdP W (fun k => N ≤ k ∧ k < W.heap.size) d n (some ⟨g, 0, none⟩) 1 := by
  intro d hdd
  have hd0 : 1 ≤ dpN c := by cases c; rw [dpN]; omega
  cases d with
  | zero => omega
  | succ d =>
    refine ⟨by rw [hn]; rfl, .inr ⟨g, 0, rfl, ⟨h1, h2⟩, fun j x hx => ?_⟩⟩
    rw [hn] at hx
    match j, hx with
    | 0, hx =>
      simp only [List.getElem?_cons_zero, Option.some.injEq] at hx
      subst hx
      refine ⟨p, l, cp, fun k u hu => ?_, hc d (by omega)⟩
      have := BlkC.cell hg k u (by show (Cel.ndC c p l cp).toArray[k]? = some u; rw [List.getElem?_toArray]; exact hu)
      rw [show 0 + 0 * 8 + k = k from by omega]
      exact this
    | j + 1, hx => simp at hx
theorem rdp_two {W : World} {n a c : Nd} {g : Nat} {p p' : Option Addr} {l l' cp cp' : Nat} {T : TypeId} (hn : n.args = [a, c]) (hg : BlkC W g (Cel.ndC a p l cp ++ Cel.ndC c p' l' cp').toArray T) {N : Nat} (h1 : N ≤ g) (h2 : g < W.heap.size) (hd : dpN n = max (dpN a) (dpN c) + 1)
    (ha : ∀ d, dpN a ≤ d + 1 → Cel.RdP W (fun k => N ≤ k ∧ k < W.heap.size) d a p l) (hc : ∀ d, dpN c ≤ d + 1 → Cel.RdP W (fun k => N ≤ k ∧ k < W.heap.size) d c p' l') : ∀ d, dpN n ≤ d + 1 → Cel.RdP W (fun k => N ≤ k ∧ k < W.heap.size) d n (some ⟨g, 0, none⟩) 2 := by
  intro d hdd
  have hd0 : 1 ≤ dpN c := by cases c; rw [dpN]; omega
  cases d with
  | zero => omega
  | succ d =>
    refine ⟨by rw [hn]; rfl, .inr ⟨g, 0, rfl, ⟨h1, h2⟩, fun j x hx => ?_⟩⟩
    rw [hn] at hx
    match j, hx with
    | 0, hx =>
      simp only [List.getElem?_cons_zero, Option.some.injEq] at hx
      subst hx
      refine ⟨p, l, cp, fun k u hu => ?_, ha d (by omega)⟩
      have hk : k < (Cel.ndC a p l cp).length := (List.getElem?_eq_some_iff.1 hu).1
      have := BlkC.cell hg k u (by rw [List.getElem?_toArray, List.getElem?_append_left hk]; exact hu)
      rw [show 0 + 0 * 8 + k = k from by omega]
      exact this
    | 1, hx =>
      simp only [List.getElem?_cons_succ, List.getElem?_cons_zero, Option.some.injEq] at hx
      subst hx
      refine ⟨p', l', cp', fun k u hu => ?_, hc d (by omega)⟩
      have := BlkC.cell hg (8 + k) u (by rw [List.getElem?_toArray, List.getElem?_append_right (by show 8 ≤ 8 + k; omega)]; rw [← hu]; congr 1; show 8 + k - 8 = k; omega)
      rw [show 0 + 1 * 8 + k = 8 + k from by omega]
      exact this
    | j + 2, hx => simp at hx
theorem rdp_two' {ok : Nat → Prop} {W : World} {n a c : Nd} {g : Nat} {p p' : Option Addr} {l l' cp cp' : Nat} {T : TypeId} (hn : n.args = [a, c]) (hg : BlkC W g (Cel.ndC a p l cp ++ Cel.ndC c p' l' cp').toArray T) (h1 : ok g) (hd : dpN n = max (dpN a) (dpN c) + 1)
    (ha : ∀ d, dpN a ≤ d + 1 → Cel.RdP W ok d a p l) (hc : ∀ d, dpN c ≤ d + 1 → Cel.RdP W ok d c p' l') : ∀ d, dpN n ≤ d + 1 → Cel.RdP W ok d n (some ⟨g, 0, none⟩) 2 := by
  intro d hdd
  have hd0 : 1 ≤ dpN c := by cases c; rw [dpN]; omega
  cases d with
  | zero => omega
  | succ d =>
    refine ⟨by rw [hn]; rfl, .inr ⟨g, 0, rfl, h1, fun j x hx => ?_⟩⟩
    rw [hn] at hx
    match j, hx with
    | 0, hx =>
      simp only [List.getElem?_cons_zero, Option.some.injEq] at hx
      subst hx
      refine ⟨p, l, cp, fun k u hu => ?_, ha d (by omega)⟩
      have hk : k < (Cel.ndC a p l cp).length := (List.getElem?_eq_some_iff.1 hu).1
      have := BlkC.cell hg k u (by rw [List.getElem?_toArray, List.getElem?_append_left hk]; exact hu)
      rw [show 0 + 0 * 8 + k = k from by omega]
      exact this
    | 1, hx =>
      simp only [List.getElem?_cons_succ, List.getElem?_cons_zero, Option.some.injEq] at hx
      subst hx
      refine ⟨p', l', cp', fun k u hu => ?_, hc d (by omega)⟩
      have := BlkC.cell hg (8 + k) u (by rw [List.getElem?_toArray, List.getElem?_append_right (by show 8 ≤ 8 + k; omega)]; rw [← hu]; congr 1; show 8 + k - 8 = k; omega)
      rw [show 0 + 1 * 8 + k = 8 + k from by omega]
      exact this
    | j + 2, hx => simp at hx
theorem rdp_leaf (W : World) (ok : Nat → Prop) {n : Nd} (hn : n.args = []) (p : Option Addr) : ∀ d, Cel.RdP W ok d n p 0
  | 0 => ⟨hn, rfl⟩
  | d + 1 => ⟨by rw [hn]; rfl, .inl rfl⟩
theorem Off.bc {b k : Nat} {w w' : World} {cs : Array Value} {t : TypeId} (h : Off b w w') (hk : k ≠ b) (hc : BlkC w k cs t) : BlkC w' k cs t := h.blk hk hc
/-- The answer stored into the block of the result. -/
theorem res_store {b : Nat} {q : Option Addr} {nT cT i k : Nat} {w W : World} {n : Nd} {p : Option Addr} {l cp : Nat} {C : Array Value} (h1 : BlkC W w.heap.size C Cel.tPn) (hC : C.size = 8) (hp : Psr W b q nT cT (i + k)) (ho : Off b w W) (hb : b < w.heap.size) (hl : n.args.length = l)
    (hk : ∀ d, dpN n ≤ d + 1 → Cel.RdP W (fun k => w.heap.size < k ∧ k < W.heap.size) d n p l) :
    BlkC (W.setCells w.heap.size 0 (Cel.ndA n p l cp).toList) w.heap.size (Cel.ndA n p l cp) Cel.tPn ∧ PaP b q nT cT i k n w (.returned (.agg (Cel.ndA n p l cp))) (W.setCells w.heap.size 0 (Cel.ndA n p l cp).toList) := by
  have hz := (store_below (Nat.zero_le w.heap.size) (Cel.ndA n p l cp).toList 0 W (Below.refl 0 W)).size
  refine ⟨store_block h1 _ (by rw [hC]; rfl), ⟨p, cp, by rw [hl], fun d hd => ?_⟩, (store_other (by omega) _ _ _).trans hp, ho.set_cells (Nat.le_refl _) _ _⟩
  rw [hl]
  exact (hk d hd).carry (fun k hk' => ⟨⟨by omega, by omega⟩, store_other (by omega) _ _ _⟩)
theorem prim_head {n : Nd} (h : Fm n) (hk : n.kind ≠ 5) {Ts : List Tks.Tk} {i : Nat} {rest : List Tw} (hat : At Ts i (tkN nmS n 5 ++ rest)) : isB Ts i [45] = false := by
  have key : ∀ x l, At Ts i (x :: l) → (x.1 ≠ 4 ∨ x.2 ≠ [45]) → isB Ts i [45] = false := fun x l h1 h2 => by
    rw [isB_head h1]
    rcases h2 with h2 | h2
    · rw [decide_eq_false h2]; rfl
    · rw [decide_eq_false h2, Bool.and_false]
  rw [tkN_split] at hat
  cases h with
  | num u h1 h2 => exact key _ _ hat (.inl (by show (1 : Int) ≠ 4; omega))
  | txt t => exact key _ _ hat (.inl (by show (2 : Int) ≠ 4; omega))
  | ref f h => exact key _ _ hat (.inl (by show (3 : Int) ≠ 4; omega))
  | rng f o h1 h2 => exact key _ _ hat (.inl (by show (3 : Int) ≠ 4; omega))
  | neg a h => exact absurd rfl hk
  | bin t a c ht h1 h2 =>
    rw [if_pos (by have := lvS_pos t; show lvS t < 5; omega)] at hat
    exact key _ _ hat (.inr (by decide))
  | cal t ar ht hl h =>
    rw [if_neg (by show ¬ (6 : Int) < 5; omega), tk_cal'] at hat
    exact key _ _ hat (.inl (by show (3 : Int) ≠ 4; omega))
  | flt => exact key _ _ hat (.inl (by show (5 : Int) ≠ 4; omega))
theorem rest_tkS {lv : Int} {l : List (Bs × Nd)} (hl : ∀ y ∈ l, lvS y.1 = lv ∧ 1 ≤ lvS y.1) {rest : List Tw} (hr : RestOk lv rest) : RestOk (lv + 1) (tkS lv l ++ rest) := by
  cases l with
  | nil => exact hr.up (by omega)
  | cons y l =>
    obtain ⟨h1, h2⟩ := hl y (by simp)
    have := rest_sign h2 (tkN nmS y.2 (lv + 1) ++ tkS lv l ++ rest)
    rw [h1] at this
    exact this
end Go.Proofs.YtigmcoelkkihkaaGreatDoor
namespace Go.Proofs.YtigmcoelkkihkaaGreatDoor
open Go.RowKit Go.Joins

theorem hd5 (a : Nd) : tkN nmS (.mk 5 0 [] 0 0 [a]) 5 = (4, [45]) :: tkN nmS a 5 := by
  rw [tkN_split, if_neg (by show ¬ (5 : Int) < 5; omega), tk_neg']
set_option maxRecDepth 100000 in
set_option maxHeartbeats 8000000 in
theorem un_neg (a : Nd) (IH : UnC a) : UnC (.mk 5 0 [] 0 0 [a]) := by
  intro ws w b q cT i Ts rest hst hat hrs
  rw [hd5] at hat ⊢
  have hat' : At Ts i ((4, [45]) :: (tkN nmS a 5 ++ rest)) := hat
  obtain ⟨y, hy1, hy2, hat1⟩ := hat'.get
  have hib : isB Ts i [45] = true := by rw [isB_head hat']; rfl
  have hA0 : Hid (BlkC (w.alloc (.cells (Cel.ndA nodeZ none 0 0) Cel.tPn)) w.heap.size (Cel.ndA nodeZ none 0 0) Cel.tPn) := heap_alloc_new w _
  have hAB : Below w.heap.size w (w.alloc (.cells (Cel.ndA nodeZ none 0 0) Cel.tPn)) := by (repeat' (first | (with_reducible exact Below.refl _ _) | (with_reducible assumption) | (with_reducible refine Below.alloc ?_ ?_ _) | (with_reducible refine bel_drewN ?_ _) | (with_reducible refine Below.drew ?_) | (with_reducible refine Below.setCell ?_ ?_ _) | (with_reducible refine bel_call ‹_› ?_ ?_) | go_size))
  have HS0 := Lib.hid (hst.below hAB)
  have HO0 := Lib.hid (Off.of_below (b := b) hAB)
  have hbw := hst.lt
  have HIS := Lib.hid (fun W (h : PSt ws W b q Ts cT i) => is_any b q cT i Ts [45] W h.psr h.tks h.len)
  have HUN := Lib.hid (fun W (h : PSt ws W b q Ts cT (i + 1)) => IH ws W b q cT (i + 1) Ts rest h hat1 hrs)
  rw [hib] at HIS
  have HK := Lib.hid (show i + 1 + (tkN nmS a 5).length = i + ((4, [45]) :: tkN nmS a 5).length from by rw [List.length_cons]; omega)
  generalize ((4, [45]) :: tkN nmS a 5).length = kk at HK ⊢
  generalize (tkN nmS a 5).length = k at HK HUN
  obtain ⟨nT, hnT⟩ : ∃ n, Ts.length = n := ⟨_, rfl⟩
  have HNT := Lib.hid hnT
  rw [hnT] at HUN HIS ⊢
  clear hnT
  clear hat hat' hy1 hy2 hat1 hib hrs IH
  clear hst hAB
  go_enter Tryz.func46, Tryz.ntmps46
  go_upto_region 1 with fail
  have e0 : w.alloc (.cells #[.int .i64 0, .int .i64 0, .string ⟨#[]⟩, .int .i64 0, .int .i64 0, .int .i64 0, .int .i64 0, .slice none 0 0] Cel.tPn) = w.alloc (.cells (Cel.ndA nodeZ none 0 0) Cel.tPn) := rfl
  rw [e0]
  clear e0
  generalize w.alloc (.cells (Cel.ndA nodeZ none 0 0) Cel.tPn) = w0 at hA0 HS0 HO0 ⊢
  go_wp2_with fail
  refine (HIS.out w0 HS0.out).mono ?_
  rintro e w1 ⟨rfl, hp1, ho1⟩
  rw [if_pos rfl] at hp1
  have hA1 := Lib.hid (ho1.bc (by omega) hA0.out)
  have HS1 := Lib.hid (HS0.out.off ho1 (by rw [HNT.out]; exact hp1))
  have HO1 := Lib.hid (HO0.out.trans ho1)
  clear hp1 ho1 hA0 HS0 HO0 HIS
  go_wp2_with fail
  refine (HUN.out w1 HS1.out).mono ?_
  rintro e w2 ⟨⟨p, cap, rfl, hk⟩, hp2, ho2⟩
  rename_i KK aK
  go_simp
  refine aK _ _ ?_
  clear aK
  obtain ⟨l, hl⟩ : ∃ l, a.args.length = l := ⟨_, rfl⟩
  rw [hl] at hk ⊢
  have HP2 : Hid (Psr w2 b q nT cT (i + kk)) := by unfold Hid; rw [← HK.out]; exact hp2
  have HA2 := Lib.hid (ho2.bc (by omega) hA1.out)
  have HO2 := Lib.hid (HO1.out.trans ho2)
  have HKD := Lib.hid hk
  have hs1 := HO1.out.size
  have hs2 := ho2.size
  have hs0 : w.heap.size < w1.heap.size := lt_some hA1.out
  clear hp2 ho2 hk hA1 HS1 HO1 HUN
  rw [show Value.agg (Cel.ndA a p l cap) = .agg #[.int .i64 a.kind, .int .i64 a.num, .string ⟨a.text.toArray⟩, .int .i64 (cC a.frm), .int .i64 (cR a.frm), .int .i64 (cC a.tor), .int .i64 (cR a.tor), .slice p l cap] from rfl]
  iterate 3 (first | go_values | go_step)
  have e2 : w2.alloc (.cells #[.int .i64 a.kind, .int .i64 a.num, .string ⟨a.text.toArray⟩, .int .i64 (cC a.frm), .int .i64 (cR a.frm), .int .i64 (cC a.tor), .int .i64 (cR a.tor), .slice p l cap] Cel.tPn) = w2.alloc (.cells (Cel.ndA a p l cap) Cel.tPn) := rfl
  rw [e2]
  clear e2
  have HG3 : Hid (BlkC (w2.alloc (.cells (Cel.ndA a p l cap) Cel.tPn)) w2.heap.size (Cel.ndA a p l cap) Cel.tPn) := heap_alloc_new w2 _
  have hAB3 : Below w2.heap.size w2 (w2.alloc (.cells (Cel.ndA a p l cap) Cel.tPn)) := by (repeat' (first | (with_reducible exact Below.refl _ _) | (with_reducible assumption) | (with_reducible refine Below.alloc ?_ ?_ _) | (with_reducible refine bel_drewN ?_ _) | (with_reducible refine Below.drew ?_) | (with_reducible refine Below.setCell ?_ ?_ _) | (with_reducible refine bel_call ‹_› ?_ ?_) | go_size))
  have HA3 := Lib.hid (HA2.out.below hAB3)
  have HP3 := Lib.hid (HP2.out.below hAB3)
  have HO3 := Lib.hid (HO2.out.call hAB3)
  have hs3 : (w2.alloc (.cells (Cel.ndA a p l cap) Cel.tPn)).heap.size = w2.heap.size + 1 := World.size_alloc _ _
  have HK3 : Hid (∀ d, dpN a ≤ d + 1 → Cel.RdP (w2.alloc (.cells (Cel.ndA a p l cap) Cel.tPn)) (fun k => w1.heap.size ≤ k ∧ k < w2.heap.size) d a p l) := fun d hd => (HKD.out d hd).carry (fun k hk => ⟨hk, hAB3.block k hk.2⟩)
  clear hAB3 HA2 HP2 HO2 HKD
  generalize w2.alloc (.cells (Cel.ndA a p l cap) Cel.tPn) = w3 at HG3 HA3 HP3 HO3 HK3 hs3 ⊢
  generalize w2.heap.size = g at HG3 HK3 hs2 hs3 ⊢
  refine wpList_plain rfl fun K hK => ?_
  go_simp
  refine hK _ _ ?_
  clear hK K
  refine wpList_store_mid (by rfl) _ _ _ (by rfl) w.heap.size 0 #[.int .i64 5, .int .i64 0, .string ⟨#[]⟩, .int .i64 0, .int .i64 0, .int .i64 0, .int .i64 0, .slice (some ⟨g, 0, none⟩) 1 1] (by rfl) (by rfl) (block_there HA3.out 8 (Nat.le_refl _)) (by kernel_rfl) (by simp [Value.oneCell']) ?_
  obtain ⟨hs8, hf8⟩ := res_store (n := .mk 5 0 [] 0 0 [a]) (p := some ⟨g, 0, none⟩) (l := 1) (cp := 1) HA3.out rfl HP3.out HO3.out hbw rfl (by
    refine fun d hd => (rdp_one (N := w.heap.size + 1) (c := a) rfl HG3.out (by omega) (by omega) (dpN_one 5 [] a) (fun d hd => (HK3.out d hd).carry (fun k hk => ⟨⟨by omega, by omega⟩, rfl⟩)) d hd).carry (fun k hk => ⟨⟨by omega, by omega⟩, rfl⟩))
  have HS8 := Lib.hid hs8
  have HF8 := Lib.hid hf8
  clear hs8 hf8
  have e8 : w3.setCells w.heap.size 0 (#[.int .i64 5, .int .i64 0, .string ⟨#[]⟩, .int .i64 0, .int .i64 0, .int .i64 0, .int .i64 0, .slice (some ⟨g, 0, none⟩) 1 1]).toList = w3.setCells w.heap.size 0 (Cel.ndA (.mk 5 0 [] 0 0 [a]) (some ⟨g, 0, none⟩) 1 1).toList := rfl
  rw [e8]
  clear e8
  generalize w3.setCells w.heap.size 0 (Cel.ndA (.mk 5 0 [] 0 0 [a]) (some ⟨g, 0, none⟩) 1 1).toList = w9 at HS8 HF8 ⊢
  go_simp
  iterate 3 (first | go_values | go_skip | go_guarded | go_step | go_upon)
  apply wp_ret
  try simp only [Exit.inBlock, Exit.then]
  exact bodyPost_ret (results_cell_row rfl _ _ w.heap.size Cel.tPn (Cel.ndA (.mk 5 0 [] 0 0 [a]) (some ⟨g, 0, none⟩) 1 1) (0, 0) _ rfl HS8.out Tryz.underlying34 rfl (by kernel_rfl)) rfl HF8.out
set_option maxRecDepth 100000 in
set_option maxHeartbeats 8000000 in
theorem un_prim (n : Nd) (hf : Fm n) (hk5 : n.kind ≠ 5) (IH : PrC n) : UnC n := by
  intro ws w b q cT i Ts rest hst hat hrs
  have hA0 : Hid (BlkC (w.alloc (.cells (Cel.ndA nodeZ none 0 0) Cel.tPn)) w.heap.size (Cel.ndA nodeZ none 0 0) Cel.tPn) := heap_alloc_new w _
  have hAB : Below w.heap.size w (w.alloc (.cells (Cel.ndA nodeZ none 0 0) Cel.tPn)) := by (repeat' (first | (with_reducible exact Below.refl _ _) | (with_reducible assumption) | (with_reducible refine Below.alloc ?_ ?_ _) | (with_reducible refine bel_drewN ?_ _) | (with_reducible refine Below.drew ?_) | (with_reducible refine Below.setCell ?_ ?_ _) | (with_reducible refine bel_call ‹_› ?_ ?_) | go_size))
  have HS0 := Lib.hid (hst.below hAB)
  have HO0 := Lib.hid (Off.of_below (b := b) hAB)
  have hbw := hst.lt
  have hib := prim_head hf hk5 hat
  have HIS := Lib.hid (fun W (h : PSt ws W b q Ts cT i) => is_any b q cT i Ts [45] W h.psr h.tks h.len)
  have HUN := Lib.hid (fun W (h : PSt ws W b q Ts cT i) => IH ws W b q cT i Ts rest h hat hrs)
  rw [hib] at HIS
  generalize (tkN nmS n 5).length = k at HUN ⊢
  obtain ⟨nT, hnT⟩ : ∃ n, Ts.length = n := ⟨_, rfl⟩
  have HNT := Lib.hid hnT
  rw [hnT] at HUN HIS ⊢
  clear hnT
  clear hat hib hrs IH hf hk5
  clear hst hAB
  go_enter Tryz.func46, Tryz.ntmps46
  go_upto_region 1 with fail
  have e0 : w.alloc (.cells #[.int .i64 0, .int .i64 0, .string ⟨#[]⟩, .int .i64 0, .int .i64 0, .int .i64 0, .int .i64 0, .slice none 0 0] Cel.tPn) = w.alloc (.cells (Cel.ndA nodeZ none 0 0) Cel.tPn) := rfl
  rw [e0]
  clear e0
  generalize w.alloc (.cells (Cel.ndA nodeZ none 0 0) Cel.tPn) = w0 at hA0 HS0 HO0 ⊢
  go_wp2_with fail
  refine (HIS.out w0 HS0.out).mono ?_
  rintro e w1 ⟨rfl, hp1, ho1⟩
  rw [if_neg (by simp)] at hp1
  have hA1 := Lib.hid (ho1.bc (by omega) hA0.out)
  have HS1 := Lib.hid (HS0.out.off ho1 (by rw [HNT.out]; exact hp1))
  have HO1 := Lib.hid (HO0.out.trans ho1)
  clear hp1 ho1 hA0 HS0 HO0 HIS
  go_wp2_with fail
  refine (HUN.out w1 HS1.out).mono ?_
  rintro e w2 ⟨⟨p, cap, rfl, hk⟩, hp2, ho2⟩
  rename_i KK aK
  go_simp
  refine aK _ _ ?_
  clear aK
  obtain ⟨l, hl⟩ : ∃ l, n.args.length = l := ⟨_, rfl⟩
  rw [hl] at hk ⊢
  have HP2 := Lib.hid hp2
  have HA2 := Lib.hid (ho2.bc (by omega) hA1.out)
  have HO2 := Lib.hid (HO1.out.trans ho2)
  have HKD := Lib.hid hk
  have HL := Lib.hid hl
  have hs2 := ho2.size
  have hs0 : w.heap.size < w1.heap.size := lt_some hA1.out
  clear hp2 ho2 hk hl HS1 hA1 HO1 HUN
  rw [show Value.agg (Cel.ndA n p l cap) = .agg #[.int .i64 n.kind, .int .i64 n.num, .string ⟨n.text.toArray⟩, .int .i64 (cC n.frm), .int .i64 (cR n.frm), .int .i64 (cC n.tor), .int .i64 (cR n.tor), .slice p l cap] from rfl]
  refine wpList_store_mid (by rfl) _ _ _ (by rfl) w.heap.size 0 #[.int .i64 n.kind, .int .i64 n.num, .string ⟨n.text.toArray⟩, .int .i64 (cC n.frm), .int .i64 (cR n.frm), .int .i64 (cC n.tor), .int .i64 (cR n.tor), .slice p l cap] (by rfl) (by rfl) (block_there HA2.out 8 (Nat.le_refl _)) (by kernel_rfl) (by simp [Value.oneCell']) ?_
  obtain ⟨hs8, hf8⟩ := res_store (n := n) (p := p) (l := l) (cp := cap) HA2.out rfl HP2.out HO2.out hbw HL.out (fun d hd => (HKD.out d hd).carry (fun k hk => ⟨⟨by omega, by omega⟩, rfl⟩))
  have HS8 := Lib.hid hs8
  have HF8 := Lib.hid hf8
  clear hs8 hf8
  have e8 : w2.setCells w.heap.size 0 (#[.int .i64 n.kind, .int .i64 n.num, .string ⟨n.text.toArray⟩, .int .i64 (cC n.frm), .int .i64 (cR n.frm), .int .i64 (cC n.tor), .int .i64 (cR n.tor), .slice p l cap]).toList = w2.setCells w.heap.size 0 (Cel.ndA n p l cap).toList := rfl
  rw [e8]
  clear e8
  generalize w2.setCells w.heap.size 0 (Cel.ndA n p l cap).toList = w9 at HS8 HF8 ⊢
  go_simp
  iterate 3 (first | go_values | go_skip | go_guarded | go_step | go_upon)
  apply wp_ret
  try simp only [Exit.inBlock, Exit.then]
  exact bodyPost_ret (results_cell_row rfl _ _ w.heap.size Cel.tPn (Cel.ndA n p l cap) (0, 0) _ rfl HS8.out Tryz.underlying34 rfl (by kernel_rfl)) rfl HF8.out
set_option maxRecDepth 100000 in
set_option maxHeartbeats 8000000 in
theorem bin_5 (n : Nd) (IH : UnC n) : BinC n 5 := by
  intro ws w b q cT i Ts rest hst hat hrs
  have hA0 : Hid (BlkC (w.alloc (.cells (Cel.ndA nodeZ none 0 0) Cel.tPn)) w.heap.size (Cel.ndA nodeZ none 0 0) Cel.tPn) := heap_alloc_new w _
  have hAB : Below w.heap.size w (w.alloc (.cells (Cel.ndA nodeZ none 0 0) Cel.tPn)) := by (repeat' (first | (with_reducible exact Below.refl _ _) | (with_reducible assumption) | (with_reducible refine Below.alloc ?_ ?_ _) | (with_reducible refine bel_drewN ?_ _) | (with_reducible refine Below.drew ?_) | (with_reducible refine Below.setCell ?_ ?_ _) | (with_reducible refine bel_call ‹_› ?_ ?_) | go_size))
  have HS0 := Lib.hid (hst.below hAB)
  have HO0 := Lib.hid (Off.of_below (b := b) hAB)
  have hbw := hst.lt
  have HUN := Lib.hid (fun W (h : PSt ws W b q Ts cT i) => IH ws W b q cT i Ts rest h hat hrs)
  generalize (tkN nmS n 5).length = k at HUN ⊢
  obtain ⟨nT, hnT⟩ : ∃ n, Ts.length = n := ⟨_, rfl⟩
  have HNT := Lib.hid hnT
  rw [hnT] at HUN ⊢
  clear hnT
  clear hat hrs IH
  clear hst hAB
  go_enter Tryz.func24, Tryz.ntmps24
  go_upto_region 1 with fail
  have e0 : w.alloc (.cells #[.int .i64 0, .int .i64 0, .string ⟨#[]⟩, .int .i64 0, .int .i64 0, .int .i64 0, .int .i64 0, .slice none 0 0] Cel.tPn) = w.alloc (.cells (Cel.ndA nodeZ none 0 0) Cel.tPn) := rfl
  rw [e0]
  clear e0
  generalize w.alloc (.cells (Cel.ndA nodeZ none 0 0) Cel.tPn) = w0 at hA0 HS0 HO0 ⊢
  go_wp2_with fail
  refine (HUN.out w0 HS0.out).mono ?_
  rintro e w2 ⟨⟨p, cap, rfl, hk⟩, hp2, ho2⟩
  rename_i KK aK
  go_simp
  refine aK _ _ ?_
  clear aK
  obtain ⟨l, hl⟩ : ∃ l, n.args.length = l := ⟨_, rfl⟩
  rw [hl] at hk ⊢
  have HP2 := Lib.hid hp2
  have HA2 := Lib.hid (ho2.bc (by omega) hA0.out)
  have HO2 := Lib.hid (HO0.out.trans ho2)
  have HKD := Lib.hid hk
  have HL := Lib.hid hl
  have hs2 := ho2.size
  have hs0 : w.heap.size < w0.heap.size := lt_some hA0.out
  clear hp2 ho2 hk hl HS0 hA0 HO0 HUN
  rw [show Value.agg (Cel.ndA n p l cap) = .agg #[.int .i64 n.kind, .int .i64 n.num, .string ⟨n.text.toArray⟩, .int .i64 (cC n.frm), .int .i64 (cR n.frm), .int .i64 (cC n.tor), .int .i64 (cR n.tor), .slice p l cap] from rfl]
  refine wpList_store_mid (by rfl) _ _ _ (by rfl) w.heap.size 0 #[.int .i64 n.kind, .int .i64 n.num, .string ⟨n.text.toArray⟩, .int .i64 (cC n.frm), .int .i64 (cR n.frm), .int .i64 (cC n.tor), .int .i64 (cR n.tor), .slice p l cap] (by rfl) (by rfl) (block_there HA2.out 8 (Nat.le_refl _)) (by kernel_rfl) (by simp [Value.oneCell']) ?_
  obtain ⟨hs8, hf8⟩ := res_store (n := n) (p := p) (l := l) (cp := cap) HA2.out rfl HP2.out HO2.out hbw HL.out (fun d hd => (HKD.out d hd).carry (fun k hk => ⟨⟨by omega, by omega⟩, rfl⟩))
  have HS8 := Lib.hid hs8
  have HF8 := Lib.hid hf8
  clear hs8 hf8
  have e8 : w2.setCells w.heap.size 0 (#[.int .i64 n.kind, .int .i64 n.num, .string ⟨n.text.toArray⟩, .int .i64 (cC n.frm), .int .i64 (cR n.frm), .int .i64 (cC n.tor), .int .i64 (cR n.tor), .slice p l cap]).toList = w2.setCells w.heap.size 0 (Cel.ndA n p l cap).toList := rfl
  rw [e8]
  clear e8
  generalize w2.setCells w.heap.size 0 (Cel.ndA n p l cap).toList = w9 at HS8 HF8 ⊢
  go_simp
  iterate 3 (first | go_values | go_skip | go_guarded | go_step | go_upon)
  apply wp_ret
  try simp only [Exit.inBlock, Exit.then]
  exact bodyPost_ret (results_cell_row rfl _ _ w.heap.size Cel.tPn (Cel.ndA n p l cap) (0, 0) _ rfl HS8.out Tryz.underlying34 rfl (by kernel_rfl)) rfl HF8.out
end Go.Proofs.YtigmcoelkkihkaaGreatDoor
namespace Go.Proofs.YtigmcoelkkihkaaGreatDoor
open Go.RowKit Go.Joins

set_option maxRecDepth 100000 in
set_option maxHeartbeats 8000000 in
theorem bin_s (n : Nd) (lv : Int) (h1 : 1 ≤ lv) (h4 : lv ≤ 4) (hf : Fm n) (IH : ∀ m, Fm m → (wtN m < wtN n ∨ (m = n ∧ hdS m.kind m.text ≠ lv)) → BinC m (lv + 1)) : BinC n lv := by
  intro ws w b q cT i Ts rest hst hat hrs
  obtain ⟨x, L, hn, hx, hxl, hL, hxw, htk⟩ := spine lv h4 hf
  rw [htk] at hat ⊢
  have hIx : BinC x (lv + 1) := IH x hx (by
    rcases hxw with ⟨_, e⟩ | h
    · exact .inr ⟨e, hxl⟩
    · exact .inl h)
  have hIy : ∀ y ∈ L, BinC y.2 (lv + 1) := fun y hy => IH y.2 (hL y hy).2.2.1 (.inl (hL y hy).2.2.2)
  have hLs : ∀ y ∈ L, lvS y.1 = lv ∧ 1 ≤ lvS y.1 := fun y hy => ⟨(hL y hy).1, (hL y hy).2.1⟩
  have hat0 : At Ts i (tkN nmS x (lv + 1) ++ (tkS lv L ++ rest)) := by rw [← List.append_assoc]; exact hat
  have hatS := At.app hat0
  subst hn
  have hA0 : Hid (BlkC (w.alloc (.cells (Cel.ndA nodeZ none 0 0) Cel.tPn)) w.heap.size (Cel.ndA nodeZ none 0 0) Cel.tPn) := heap_alloc_new w _
  have hAB : Below w.heap.size w (w.alloc (.cells (Cel.ndA nodeZ none 0 0) Cel.tPn)) := by (repeat' (first | (with_reducible exact Below.refl _ _) | (with_reducible assumption) | (with_reducible refine Below.alloc ?_ ?_ _) | (with_reducible refine bel_drewN ?_ _) | (with_reducible refine Below.drew ?_) | (with_reducible refine Below.setCell ?_ ?_ _) | (with_reducible refine bel_call ‹_› ?_ ?_) | go_size))
  have HS0 := Lib.hid (hst.below hAB)
  have HO0 := Lib.hid (Off.of_below (b := b) hAB)
  have hbw := hst.lt
  have HUN := Lib.hid (fun W (h : PSt ws W b q Ts cT i) => hIx ws W b q cT i Ts _ h hat0 (rest_tkS hLs hrs))
  have HSW := Lib.hid hst
  have HLS := Lib.hid hLs
  have HIY := Lib.hid hIy
  have HRS := Lib.hid hrs
  have HSG := Lib.hid (fun W j (h : PSt ws W b q Ts cT j) => psign_any b q cT j Ts lv W h.psr h.tks h.len)
  have HK := Lib.hid (show i + (tkN nmS x (lv + 1)).length + (tkS lv L).length = i + (tkN nmS x (lv + 1) ++ tkS lv L).length from by rw [List.length_append]; omega)
  have HAT := Lib.hid hatS
  generalize (tkN nmS x (lv + 1) ++ tkS lv L).length = kk at HK ⊢
  generalize (tkN nmS x (lv + 1)).length = k at HK HUN HAT
  have hle := hst.len
  obtain ⟨nT, hnT⟩ : ∃ n, Ts.length = n := ⟨_, rfl⟩
  have HNT := Lib.hid hnT
  rw [hnT] at HUN HSG hle ⊢
  clear hnT
  clear hat hat0 hatS hrs IH hf htk hx hxl hxw hL hIx hIy hLs
  have f1 : IntKind.i64.wrap (lv + 1) = lv + 1 := IntWalk.i64_in _ (by omega)
  have g4 : ¬ lv > 4 := by omega
  clear hst hAB
  go_enter Tryz.func24, Tryz.ntmps24
  go_upto_region 1 with fail
  have e0 : w.alloc (.cells #[.int .i64 0, .int .i64 0, .string ⟨#[]⟩, .int .i64 0, .int .i64 0, .int .i64 0, .int .i64 0, .slice none 0 0] Cel.tPn) = w.alloc (.cells (Cel.ndA nodeZ none 0 0) Cel.tPn) := rfl
  rw [e0]
  clear e0
  generalize w.alloc (.cells (Cel.ndA nodeZ none 0 0) Cel.tPn) = w0 at hA0 HS0 HO0 ⊢
  go_wp2_with fail
  refine (HUN.out w0 HS0.out).mono ?_
  rintro e w1 ⟨⟨p, cap, rfl, hk⟩, hp1, ho1⟩
  rename_i KK aK
  go_simp
  refine aK _ _ ?_
  clear aK
  obtain ⟨l, hl⟩ : ∃ l, x.args.length = l := ⟨_, rfl⟩
  rw [hl] at hk ⊢
  have hA1 := Lib.hid (ho1.bc (by omega) hA0.out)
  have HP1 := Lib.hid hp1
  have HO1 := Lib.hid (HO0.out.trans ho1)
  have HK1 := Lib.hid hk
  have HL := Lib.hid hl
  have hs0 : w.heap.size < w0.heap.size := lt_some hA0.out
  have hs1 := ho1.size
  clear hp1 ho1 hA0 HS0 HO0 HUN hk hl
  rw [show Value.agg (Cel.ndA x p l cap) = .agg #[.int .i64 x.kind, .int .i64 x.num, .string ⟨x.text.toArray⟩, .int .i64 (cC x.frm), .int .i64 (cR x.frm), .int .i64 (cC x.tor), .int .i64 (cR x.tor), .slice p l cap] from rfl]
  iterate 3 (first | go_values | go_step)
  have e2 : w1.alloc (.cells #[.int .i64 0, .int .i64 0, .string ⟨#[]⟩, .int .i64 0, .int .i64 0, .int .i64 0, .int .i64 0, .slice none 0 0] Cel.tPn) = w1.alloc (.cells (Cel.ndA nodeZ none 0 0) Cel.tPn) := rfl
  rw [e2]
  clear e2
  have HG2 : Hid (BlkC (w1.alloc (.cells (Cel.ndA nodeZ none 0 0) Cel.tPn)) w1.heap.size (Cel.ndA nodeZ none 0 0) Cel.tPn) := heap_alloc_new w1 _
  have hAB2 : Below w1.heap.size w1 (w1.alloc (.cells (Cel.ndA nodeZ none 0 0) Cel.tPn)) := by (repeat' (first | (with_reducible exact Below.refl _ _) | (with_reducible assumption) | (with_reducible refine Below.alloc ?_ ?_ _) | (with_reducible refine bel_drewN ?_ _) | (with_reducible refine Below.drew ?_) | (with_reducible refine Below.setCell ?_ ?_ _) | (with_reducible refine bel_call ‹_› ?_ ?_) | go_size))
  have hA2 := Lib.hid (hA1.out.below hAB2)
  have HP2 := Lib.hid (HP1.out.below hAB2)
  have HO2 := Lib.hid (HO1.out.call hAB2)
  have HK2 : Hid (∀ d, dpN x ≤ d + 1 → Cel.RdP (w1.alloc (.cells (Cel.ndA nodeZ none 0 0) Cel.tPn)) (fun k => w0.heap.size ≤ k ∧ k < w1.heap.size) d x p l) := fun d hd => (HK1.out d hd).carry (fun k hk => ⟨hk, hAB2.block k hk.2⟩)
  have hs2 : (w1.alloc (.cells (Cel.ndA nodeZ none 0 0) Cel.tPn)).heap.size = w1.heap.size + 1 := World.size_alloc _ _
  clear hAB2 hA1 HP1 HO1 HK1
  generalize w1.alloc (.cells (Cel.ndA nodeZ none 0 0) Cel.tPn) = w2 at HG2 hA2 HP2 HO2 HK2 hs2 ⊢
  generalize w1.heap.size = G at HG2 HK2 hs1 hs2 ⊢
  refine wpList_store_mid (by rfl) _ _ _ (by rfl) G 0 #[.int .i64 x.kind, .int .i64 x.num, .string ⟨x.text.toArray⟩, .int .i64 (cC x.frm), .int .i64 (cR x.frm), .int .i64 (cC x.tor), .int .i64 (cR x.tor), .slice p l cap] (by rfl) (by rfl) (block_there HG2.out 8 (Nat.le_refl _)) (by kernel_rfl) (by simp [Value.oneCell']) ?_
  have e8 : w2.setCells G 0 (#[.int .i64 x.kind, .int .i64 x.num, .string ⟨x.text.toArray⟩, .int .i64 (cC x.frm), .int .i64 (cR x.frm), .int .i64 (cC x.tor), .int .i64 (cR x.tor), .slice p l cap]).toList = w2.setCells G 0 (Cel.ndA x p l cap).toList := rfl
  rw [e8]
  clear e8
  have HG3 : Hid (BlkC (w2.setCells G 0 (Cel.ndA x p l cap).toList) G (Cel.ndA x p l cap) Cel.tPn) := store_block HG2.out _ rfl
  have HO3 : Hid (Off b w (w2.setCells G 0 (Cel.ndA x p l cap).toList)) := HO2.out.set_cells (by omega) _ _
  have hA3 : Hid (BlkC (w2.setCells G 0 (Cel.ndA x p l cap).toList) w.heap.size (Cel.ndA nodeZ none 0 0) Cel.tPn) := (store_other (by omega) _ _ _).trans hA2.out
  have HP3 : Hid (Psr (w2.setCells G 0 (Cel.ndA x p l cap).toList) b q nT cT (i + k)) := (store_other (by omega) _ _ _).trans HP2.out
  have hz3 := (store_below (Nat.zero_le G) (Cel.ndA x p l cap).toList 0 w2 (Below.refl 0 w2)).size
  have HK3 : Hid (∀ d, dpN x ≤ d + 1 → Cel.RdP (w2.setCells G 0 (Cel.ndA x p l cap).toList) (fun k => w.heap.size < k ∧ k < (w2.setCells G 0 (Cel.ndA x p l cap).toList).heap.size ∧ k ≠ G) d x p l) := fun d hd => (HK2.out d hd).carry (fun k hk => ⟨⟨by omega, by omega, by omega⟩, store_other (by omega) _ _ _⟩)
  clear HG2 hA2 HP2 HO2 HK2
  generalize w2.setCells G 0 (Cel.ndA x p l cap).toList = w3 at HG3 hA3 HP3 HO3 HK3 hz3 ⊢
  go_simp
  iterate 3 (first | go_values | go_skip | go_guarded | go_step | go_upon)
  go_wp2_with fail
  have hHG : w.heap.size < G := by omega
  have hGz : G < w3.heap.size := by omega
  have hGb : G ≠ b := by omega
  clear hs0 hs1 hs2 hz3
  go_loopg [6] L.length (fun g v6 wr => ∃ (l1 l2 : List (Bs × Nd)) (p : Option Addr) (l cap : Nat), L = l1 ++ l2 ∧ l2.length = g ∧ BlkC wr G (Cel.ndA (foldS x l1) p l cap) Cel.tPn ∧ (foldS x l1).args.length = l ∧ BlkC wr w.heap.size (Cel.ndA nodeZ none 0 0) Cel.tPn ∧ Psr wr b q nT cT (i + k + (tkS lv l1).length) ∧ Off b w wr ∧ G < wr.heap.size ∧ ∀ d, dpN (foldS x l1) ≤ d + 1 → Cel.RdP wr (fun k => w.heap.size < k ∧ k < wr.heap.size ∧ k ≠ G) d (foldS x l1) p l)
  case atStart => exact ⟨[], L, p, l, cap, rfl, rfl, HG3.out, HL.out, hA3.out, HP3.out, HO3.out, hGz, HK3.out⟩
  case round =>
    obtain ⟨l1, l2, p, l, cap, hLe, hg, hG, hl, hA, hP, hO, hGr, hKd⟩ := hrel
    have HLE := Lib.hid hLe
    have HG := Lib.hid hG
    have HLL := Lib.hid hl
    have HA := Lib.hid hA
    have HP := Lib.hid hP
    have HO := Lib.hid hO
    have HKD := Lib.hid hKd
    have HSR : Hid (PSt ws wr b q Ts cT (i + k + (tkS lv l1).length)) := HSW.out.off hO (by rw [HNT.out]; exact hP)
    obtain ⟨_, _, pf, _⟩ := hP.cells
    have HAT1 : Hid (At Ts (i + k + (tkS lv l1).length) (tkS lv l2 ++ rest)) := by
      have h := HAT.out
      rw [hLe, tkS_app, List.append_assoc] at h
      exact At.app h
    clear hLe hG hl hA hP hO hKd HG3 hA3 HP3 HO3 HK3
    cases l2 with
    | nil =>
      have HON : Hid (sgO Ts (i + k + (tkS lv l1).length) lv = []) := (isB_rest HAT1.out HRS.out).2.2 lv (Int.le_refl _)
      have HSC := Lib.hid (HSG.out wr _ HSR.out)
      rw [HON.out] at HSC
      have HE : Hid (i + k + (tkS lv l1).length = i + kk) := by
        unfold Hid
        have h := HLE.out
        rw [List.append_nil] at h
        rw [← HK.out, h]
      go_wp2_with fail
      refine HSC.out.mono ?_
      rintro e w4 ⟨rfl, hp4, ho4⟩
      rw [if_pos rfl] at hp4
      have HP4 : Hid (Psr w4 b q nT cT (i + kk)) := by unfold Hid; rw [← HE.out]; exact hp4
      have HG4 := Lib.hid (ho4.bc hGb HG.out)
      have HA4 := Lib.hid (ho4.bc (by omega) HA.out)
      have HO4 := Lib.hid (HO.out.trans ho4)
      have HLF : Hid (foldS x L = foldS x l1) := by have h := HLE.out; rw [List.append_nil] at h; unfold Hid; rw [h]
      have hs4 := ho4.size
      have HK4 : Hid (∀ d, dpN (foldS x l1) ≤ d + 1 → Cel.RdP w4 (fun k => w.heap.size < k ∧ k < w4.heap.size) d (foldS x l1) p l) := fun d hd => (HKD.out d hd).carry (fun k hk => ⟨⟨hk.1, by omega⟩, ho4.block k hk.2.1 (by omega)⟩)
      clear hp4 ho4 HSC HON HG HA HO HP HKD HSR HLE HAT1 HAT HIY
      generalize foldS x l1 = n at *
      go_upto_region 8 with fail
      refine wp_region_lit ?_
      refine wpList_load_mid (by rfl) _ _ (by rfl) G 0 (by rfl) [.int .i64 n.kind, .int .i64 n.num, .string ⟨n.text.toArray⟩, .int .i64 (cC n.frm), .int .i64 (cR n.frm), .int .i64 (cC n.tor), .int .i64 (cR n.tor), .slice p l cap] _ (block_range HG4.out [.int .i64 n.kind, .int .i64 n.num, .string ⟨n.text.toArray⟩, .int .i64 (cC n.frm), .int .i64 (cR n.frm), .int .i64 (cC n.tor), .int .i64 (cR n.tor), .slice p l cap] rfl) Tryz.underlying34 rfl (by kernel_rfl) ?_
      go_simp
      refine wpList_store_mid (by rfl) _ _ _ (by rfl) w.heap.size 0 #[.int .i64 n.kind, .int .i64 n.num, .string ⟨n.text.toArray⟩, .int .i64 (cC n.frm), .int .i64 (cR n.frm), .int .i64 (cC n.tor), .int .i64 (cR n.tor), .slice p l cap] (by rfl) (by rfl) (block_there HA4.out 8 (Nat.le_refl _)) (by kernel_rfl) (by simp [Value.oneCell']) ?_
      obtain ⟨hs8, hf8⟩ := res_store (n := n) (p := p) (l := l) (cp := cap) HA4.out rfl HP4.out HO4.out hbw HLL.out HK4.out
      have HS8 := Lib.hid hs8
      have HF8 := Lib.hid hf8
      clear hs8 hf8
      have e8 : w4.setCells w.heap.size 0 (#[.int .i64 n.kind, .int .i64 n.num, .string ⟨n.text.toArray⟩, .int .i64 (cC n.frm), .int .i64 (cR n.frm), .int .i64 (cC n.tor), .int .i64 (cR n.tor), .slice p l cap]).toList = w4.setCells w.heap.size 0 (Cel.ndA n p l cap).toList := rfl
      rw [e8]
      clear e8
      generalize w4.setCells w.heap.size 0 (Cel.ndA n p l cap).toList = w9 at HS8 HF8 ⊢
      go_simp
      iterate 3 (first | go_values | go_skip | go_guarded | go_step | go_upon)
      apply wp_ret
      try simp only [Exit.inBlock, Exit.then]
      exact bodyPost_ret (results_cell_row rfl _ _ w.heap.size Cel.tPn (Cel.ndA n p l cap) (0, 0) _ rfl HS8.out Tryz.underlying34 rfl (by kernel_rfl)) rfl (by rw [HLF.out]; exact HF8.out)
    | cons y l2 =>
      have hyL : y ∈ L := by rw [HLE.out]; simp
      obtain ⟨hy1, hy2⟩ := HLS.out y hyL
      have HAT2 : Hid (At Ts (i + k + (tkS lv l1).length) ((4, y.1) :: (tkN nmS y.2 (lv + 1) ++ (tkS lv l2 ++ rest)))) := by
        have h := HAT1.out
        unfold Hid
        rw [tkS, List.cons_append, List.append_assoc] at h
        exact h
      have HON : Hid (sgO Ts (i + k + (tkS lv l1).length) lv = y.1) := sgO_head HAT2.out (by rw [← hy1]; exact lvS_in hy2)
      have hne : y.1 ≠ [] := sgS_ne lv _ (by rw [← hy1]; exact lvS_in hy2)
      have HSC := Lib.hid (HSG.out wr _ HSR.out)
      rw [HON.out] at HSC
      obtain ⟨_, _, _, HAT3⟩ := HAT2.out.get
      have HRO : Hid (RestOk (lv + 1) (tkS lv l2 ++ rest)) := rest_tkS (fun z hz => HLS.out z (by rw [HLE.out]; simp [hz])) HRS.out
      have HUY := Lib.hid (fun W (h : PSt ws W b q Ts cT (i + k + (tkS lv l1).length + 1)) => HIY.out y hyL ws W b q cT _ Ts _ h HAT3 HRO.out)
      rw [HNT.out] at HUY
      have HKY : Hid (i + k + (tkS lv l1).length + 1 + (tkN nmS y.2 (lv + 1)).length = i + k + (tkS lv (l1 ++ [y])).length) := by
        unfold Hid
        rw [tkS_app, List.length_append, tkS, List.length_cons, List.length_append, tkS]
        simp
        omega
      have HFN : Hid (foldS x (l1 ++ [y]) = .mk 6 0 y.1 0 0 [foldS x l1, y.2]) := foldS_snoc x l1 y.1 y.2
      have HL2 : Hid (L = (l1 ++ [y]) ++ l2) := by unfold Hid; rw [HLE.out]; simp
      have hl2 : l2.length = gk - 1 := by rw [List.length_cons] at hg; omega
      have hgk : 0 < gk := by rw [List.length_cons] at hg; omega
      obtain ⟨t, ht⟩ : ∃ t, y.1 = t := ⟨_, rfl⟩
      rw [ht] at hne HSC HFN
      have hn1 : (t == []) = false := by simpa using hne
      have hn2 : t.isEmpty = false := by cases t with | nil => exact absurd rfl hne | cons => rfl
      clear hyL hy1 hy2 HAT1 HAT2 HAT3 HON HRO HLE hg ht
      go_wp2_with fail
      refine HSC.out.mono ?_
      rintro e w4 ⟨rfl, hp4, ho4⟩
      rw [if_neg hne] at hp4
      have HP4 := Lib.hid hp4
      have HG4 := Lib.hid (ho4.bc hGb HG.out)
      have HA4 := Lib.hid (ho4.bc (by omega) HA.out)
      have HO4 := Lib.hid (HO.out.trans ho4)
      have hs4 := ho4.size
      have HK4 : Hid (∀ d, dpN (foldS x l1) ≤ d + 1 → Cel.RdP w4 (fun k => w.heap.size < k ∧ k < wr.heap.size ∧ k ≠ G) d (foldS x l1) p l) := fun d hd => (HKD.out d hd).carry (fun k hk => ⟨hk, ho4.block k hk.2.1 (by omega)⟩)
      clear hp4 ho4 HSC HG HA HO HP HKD HSR pf
      obtain ⟨n, hn⟩ : ∃ n, foldS x l1 = n := ⟨_, rfl⟩
      rw [hn] at HG4 HK4 HLL HFN
      clear hn
      have Y0 := KeptO.cell (b := b) hGb (HG4.out.cell 0 (.int .i64 n.kind) rfl)
      have Y1 := KeptO.cell (b := b) hGb (HG4.out.cell 1 (.int .i64 n.num) rfl)
      have Y2 := KeptO.cell (b := b) hGb (HG4.out.cell 2 (.string ⟨n.text.toArray⟩) rfl)
      have Y3 := KeptO.cell (b := b) hGb (HG4.out.cell 3 (.int .i64 (cC n.frm)) rfl)
      have Y4 := KeptO.cell (b := b) hGb (HG4.out.cell 4 (.int .i64 (cR n.frm)) rfl)
      have Y5 := KeptO.cell (b := b) hGb (HG4.out.cell 5 (.int .i64 (cC n.tor)) rfl)
      have Y6 := KeptO.cell (b := b) hGb (HG4.out.cell 6 (.int .i64 (cR n.tor)) rfl)
      have Y7 := KeptO.cell (b := b) hGb (HG4.out.cell 7 (.slice p l cap) rfl)
      go_upto_region 7 with fail
      refine wp_region_schedT (fun wx => ∃ x : KeptO b w4, wx = x.v) 8 [([0, 1, 2, 3, 4], 5), ([], 6)] [7] (by kernel_rfl) (by kernel_rfl) (by kernel_rfl) (by kernel_rfl) (keptO_drew _ _) ?_
      (unfold wpSegK; simp only [pick_nil, pick_cons, nthO_zero, nthO_succ, List.append])
      repeat (go_big_quiet_step (fail))
      refine wpQuiet_nil ?_
      have hBd : Below w4.heap.size w4 w4.drew := Below.drew (Below.refl _ _)
      have HUY2 := Lib.hid (HUY.out w4.drew (HSW.out.off (HO4.out.call hBd) (by rw [HNT.out]; exact HP4.out.below hBd)))
      clear HUY
      go_wp2_with fail
      refine HUY2.out.mono ?_
      rintro e w5 ⟨⟨p2, cap2, rfl, hk5⟩, hp5, ho5⟩
      obtain ⟨c, hc⟩ : ∃ c, y.2 = c := ⟨_, rfl⟩
      rw [hc] at hk5 hp5 HKY HFN ⊢
      obtain ⟨l3, hl3⟩ : ∃ l3, c.args.length = l3 := ⟨_, rfl⟩
      rw [hl3] at hk5 ⊢
      have hO5 : Off b w4 w5 := (Off.of_below hBd).trans ho5
      have HO5 := Lib.hid hO5
      have HP5 : Hid (Psr w5 b q nT cT (i + k + (tkS lv (l1 ++ [y])).length)) := by unfold Hid; rw [← HKY.out]; exact hp5
      have HK5 : Hid (∀ d, dpN c ≤ d + 1 → Cel.RdP w5 (fun k => w4.heap.size ≤ k ∧ k < w5.heap.size) d c p2 l3) := hk5
      have hs5 := hO5.size
      clear ho5 hp5 hk5 HUY2 HKY hc hl3
      rw [show Value.agg (Cel.ndA c p2 l3 cap2) = .agg #[.int .i64 c.kind, .int .i64 c.num, .string ⟨c.text.toArray⟩, .int .i64 (cC c.frm), .int .i64 (cR c.frm), .int .i64 (cC c.tor), .int .i64 (cR c.tor), .slice p2 l3 cap2] from rfl]
      go_wp2_with fail
      refine ⟨rfl, ⟨⟨w5, HO5.out⟩, rfl⟩, ?_⟩
      (unfold wpSegK; simp only [pick_nil, pick_cons, nthO_zero, nthO_succ, List.append])
      refine wpQuiet_nil ?_
      go_wp2_with fail
      have e6 : w5.alloc (.cells #[.int .i64 n.kind, .int .i64 n.num, .string ⟨n.text.toArray⟩, .int .i64 (cC n.frm), .int .i64 (cR n.frm), .int .i64 (cC n.tor), .int .i64 (cR n.tor), .slice p l cap, .int .i64 c.kind, .int .i64 c.num, .string ⟨c.text.toArray⟩, .int .i64 (cC c.frm), .int .i64 (cR c.frm), .int .i64 (cC c.tor), .int .i64 (cR c.tor), .slice p2 l3 cap2] Cel.tPn) = w5.alloc (.cells (Cel.ndC n p l cap ++ Cel.ndC c p2 l3 cap2).toArray Cel.tPn) := rfl
      rw [e6]
      clear e6
      have HG6 : Hid (BlkC (w5.alloc (.cells (Cel.ndC n p l cap ++ Cel.ndC c p2 l3 cap2).toArray Cel.tPn)) w5.heap.size (Cel.ndC n p l cap ++ Cel.ndC c p2 l3 cap2).toArray Cel.tPn) := heap_alloc_new w5 _
      have hAB6 : Below w5.heap.size w5 (w5.alloc (.cells (Cel.ndC n p l cap ++ Cel.ndC c p2 l3 cap2).toArray Cel.tPn)) := by (repeat' (first | (with_reducible exact Below.refl _ _) | (with_reducible assumption) | (with_reducible refine Below.alloc ?_ ?_ _) | (with_reducible refine bel_drewN ?_ _) | (with_reducible refine Below.drew ?_) | (with_reducible refine Below.setCell ?_ ?_ _) | (with_reducible refine bel_call ‹_› ?_ ?_) | go_size))
      have HO6 := Lib.hid (HO5.out.call hAB6)
      have HX6 := Lib.hid ((HO6.out).bc hGb HG4.out)
      have HA6 := Lib.hid ((HO6.out).bc (by omega) HA4.out)
      have HP6 := Lib.hid (HP5.out.below hAB6)
      have hs6 : (w5.alloc (.cells (Cel.ndC n p l cap ++ Cel.ndC c p2 l3 cap2).toArray Cel.tPn)).heap.size = w5.heap.size + 1 := World.size_alloc _ _
      have HKN : Hid (∀ d, dpN n ≤ d + 1 → Cel.RdP (w5.alloc (.cells (Cel.ndC n p l cap ++ Cel.ndC c p2 l3 cap2).toArray Cel.tPn)) (fun k => w.heap.size < k ∧ k < w5.heap.size ∧ k ≠ G) d n p l) := fun d hd => (HK4.out d hd).carry (fun k hk => ⟨⟨by omega, by omega, by omega⟩, HO6.out.block k (by omega) (by omega)⟩)
      have HKC : Hid (∀ d, dpN c ≤ d + 1 → Cel.RdP (w5.alloc (.cells (Cel.ndC n p l cap ++ Cel.ndC c p2 l3 cap2).toArray Cel.tPn)) (fun k => w.heap.size < k ∧ k < w5.heap.size ∧ k ≠ G) d c p2 l3) := fun d hd => (HK5.out d hd).carry (fun k hk => ⟨⟨by omega, by omega, by omega⟩, hAB6.block k (by omega)⟩)
      clear hAB6 HG4 HA4 HP5 HK4 HK5 HO5 HP4
      generalize w5.alloc (.cells (Cel.ndC n p l cap ++ Cel.ndC c p2 l3 cap2).toArray Cel.tPn) = w6 at HG6 HO6 HX6 HA6 HP6 hs6 HKN HKC ⊢
      generalize w5.heap.size = g5 at HG6 HKN HKC hs5 hs6 ⊢
      refine ⟨rfl, ⟨⟨w6, HO6.out⟩, rfl⟩, ?_⟩
      (unfold wpSegK; simp only [pick_nil, pick_cons, nthO_zero, nthO_succ, List.append])
      repeat (go_big_quiet_step (fail))
      refine wpQuiet_nil ?_
      refine wpList_store_mid (by rfl) _ _ _ (by rfl) G 0 #[.int .i64 6, .int .i64 0, .string ⟨t.toArray⟩, .int .i64 0, .int .i64 0, .int .i64 0, .int .i64 0, .slice (some ⟨g5, 0, none⟩) 2 2] (by rfl) (by rfl) (block_there HX6.out 8 (Nat.le_refl _)) (by kernel_rfl) (by simp [Value.oneCell']) ?_
      have e8 : w6.setCells G 0 (#[.int .i64 6, .int .i64 0, .string ⟨t.toArray⟩, .int .i64 0, .int .i64 0, .int .i64 0, .int .i64 0, .slice (some ⟨g5, 0, none⟩) 2 2]).toList = w6.setCells G 0 (Cel.ndA (.mk 6 0 t 0 0 [n, c]) (some ⟨g5, 0, none⟩) 2 2).toList := rfl
      rw [e8]
      clear e8
      have HO7 : Hid (Off b w (w6.setCells G 0 (Cel.ndA (.mk 6 0 t 0 0 [n, c]) (some ⟨g5, 0, none⟩) 2 2).toList)) := (HO4.out.trans HO6.out).set_cells (by omega) _ _
      have HX7 : Hid (BlkC (w6.setCells G 0 (Cel.ndA (.mk 6 0 t 0 0 [n, c]) (some ⟨g5, 0, none⟩) 2 2).toList) G (Cel.ndA (.mk 6 0 t 0 0 [n, c]) (some ⟨g5, 0, none⟩) 2 2) Cel.tPn) := store_block HX6.out _ rfl
      have HA7 : Hid (BlkC (w6.setCells G 0 (Cel.ndA (.mk 6 0 t 0 0 [n, c]) (some ⟨g5, 0, none⟩) 2 2).toList) w.heap.size (Cel.ndA nodeZ none 0 0) Cel.tPn) := (store_other (by omega) _ _ _).trans HA6.out
      have HP7 : Hid (Psr (w6.setCells G 0 (Cel.ndA (.mk 6 0 t 0 0 [n, c]) (some ⟨g5, 0, none⟩) 2 2).toList) b q nT cT (i + k + (tkS lv (l1 ++ [y])).length)) := (store_other (by omega) _ _ _).trans HP6.out
      have hz7 := (store_below (Nat.zero_le G) (Cel.ndA (.mk 6 0 t 0 0 [n, c]) (some ⟨g5, 0, none⟩) 2 2).toList 0 w6 (Below.refl 0 w6)).size
      have hG7 : G < (w6.setCells G 0 (Cel.ndA (.mk 6 0 t 0 0 [n, c]) (some ⟨g5, 0, none⟩) 2 2).toList).heap.size := by omega
      have HK7 : Hid (∀ d, dpN (.mk 6 0 t 0 0 [n, c]) ≤ d + 1 → Cel.RdP (w6.setCells G 0 (Cel.ndA (.mk 6 0 t 0 0 [n, c]) (some ⟨g5, 0, none⟩) 2 2).toList) (fun k => w.heap.size < k ∧ k < (w6.setCells G 0 (Cel.ndA (.mk 6 0 t 0 0 [n, c]) (some ⟨g5, 0, none⟩) 2 2).toList).heap.size ∧ k ≠ G) d (.mk 6 0 t 0 0 [n, c]) (some ⟨g5, 0, none⟩) 2) := fun d hd =>
        (rdp_two' (ok := fun k => w.heap.size < k ∧ k < w6.heap.size ∧ k ≠ G) (a := n) (c := c) rfl HG6.out ⟨by omega, by omega, by omega⟩ (dpN_bin t n c) (fun d hd => (HKN.out d hd).carry (fun k hk => ⟨⟨by omega, by omega, by omega⟩, rfl⟩)) (fun d hd => (HKC.out d hd).carry (fun k hk => ⟨⟨by omega, by omega, by omega⟩, rfl⟩)) d hd).carry (fun k hk => ⟨⟨by omega, by omega, by omega⟩, store_other (by omega) _ _ _⟩)
      clear HG6 HO6 HX6 HA6 HP6 HKN HKC HO4 hz7
      generalize w6.setCells G 0 (Cel.ndA (.mk 6 0 t 0 0 [n, c]) (some ⟨g5, 0, none⟩) 2 2).toList = w7 at HO7 HX7 HA7 HP7 HK7 hG7 ⊢
      rw [← HFN.out] at HX7 HK7
      have HLN : Hid ((foldS x (l1 ++ [y])).args.length = 2) := by unfold Hid; rw [HFN.out]; rfl
      go_simp
      go_wp2_with fail
      refine ⟨rfl, ?_⟩
      go_wp2_with fail
      go_roundg (gk - 1)
      case measure => omega
      case rel => exact ⟨l1 ++ [y], l2, some ⟨g5, 0, none⟩, 2, 2, HL2.out, hl2, HX7.out, HLN.out, HA7.out, HP7.out, HO7.out, hG7, HK7.out⟩
end Go.Proofs.YtigmcoelkkihkaaGreatDoor
