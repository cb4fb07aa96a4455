/- Bind: trees whose cells are turned; a formula bound to lines, and told back: plain. Printed by gen_bfa.py. How parts stay, while one block holds a state. Printed by gen_bfm.py. -/
import Derived.Test.YtjklbbmgjjdalaaGreatDoorBbK
import Derived.Test.YtjklbbmgjjdalaaGreatDoorBbM
import Derived.Test.YtjklbbmgjjdalaaGreatDoorBbQ
import Derived.Test.YtjklbbmgjjdalaaGreatDoorBbV
import Derived.Test.YtjklbbmgjjdalaaGreatDoorBbY
import Derived.Test.YtjklbbmgjjdalaaGreatDoorBbS
import Derived.Test.YtjklbbmgjjdalaaGreatDoorBbT
import Derived.Test.YtjklbbmgjjdalaaGreatDoorBbZ
import Derived.Test.YtjklbbmgjjdalaaGreatDoorBbU
set_option linter.unusedSimpArgs false
set_option linter.unusedVariables false
namespace Go.Proofs.YtjklbbmgjjdalaaGreatDoor.Bd
open Go.RowKit Go.Joins
theorem cCR_mk {c r : Int} (h : rtC c r = true) : cC (c * 10000 + r) = c ∧ cR (c * 10000 + r) = r := by
  unfold rtC at h
  simp at h
  refine ⟨?_, ?_⟩
  · unfold cC
    rw [Int.tdiv_eq_ediv_of_nonneg (by omega)]
    omega
  · unfold cR
    rw [Int.tmod_eq_emod_of_nonneg (by omega)]
    omega
theorem fm_len {n : Nd} (h : Fm n) : n.args.length ≤ 16 := by
  cases h with
  | cal t ar ht hl h => exact hl
  | _ => simp [Nd.args]
theorem fm_child {n c : Nd} (h : Fm n) (hc : c ∈ n.args) : Fm c := by
  cases h with
  | cal t ar ht hl h => exact h c hc
  | neg a h => obtain rfl := List.mem_singleton.1 hc; exact h
  | bin t a b ht h1 h2 =>
    rcases List.mem_cons.1 hc with rfl | hc
    · exact h1
    · obtain rfl := List.mem_singleton.1 hc; exact h2
  | _ => cases hc
abbrev fltN : Nd := .mk 8 0 [] 0 0 []
mutual
def gvN (g : Int → Int) : Nd → Nd
  | .mk k u t f o a => if ((k = 3 ∨ k = 4) ∧ g f = 0) ∨ (k = 4 ∧ g o = 0) then .mk 8 0 [] 0 0 [] else .mk k u t (if k = 3 ∨ k = 4 then g f else 0) (if k = 4 then g o else 0) (gvNL g a)
def gvNL (g : Int → Int) : List Nd → List Nd
  | [] => []
  | c :: r => gvN g c :: gvNL g r
end
theorem gvNL_map (g : Int → Int) : ∀ a, gvNL g a = a.map (gvN g)
  | [] => rfl
  | c :: r => by rw [gvNL, gvNL_map g r]; rfl
def bdC (rows cols : List Idp) (k : Int) : Rfp × Int := celS rows cols (cC k) (cR k)
def hdE (rows cols : List Idp) (k f o : Int) : Int := if k = 3 ∨ k = 4 then (if (bdC rows cols f).2 = 0 then (if k = 4 then (bdC rows cols o).2 else 0) else (bdC rows cols f).2) else 0
mutual
def bdE (rows cols : List Idp) : Nd → Int
  | .mk k u t f o a => if hdE rows cols k f o = 0 then bdEL rows cols a else hdE rows cols k f o
def bdEL (rows cols : List Idp) : List Nd → Int
  | [] => 0
  | c :: r => if bdE rows cols c = 0 then bdEL rows cols r else bdE rows cols c
end
abbrev fltB : Bn := .mk 8 0 [] ((0, 0), (0, 0)) ((0, 0), (0, 0)) []
mutual
def bdM (rows cols : List Idp) : Nd → Bn
  | .mk k u t f o a => if hdE rows cols k f o = 0 then .mk k u t (if k = 3 ∨ k = 4 then (bdC rows cols f).1 else ((0, 0), (0, 0))) (if k = 4 then (bdC rows cols o).1 else ((0, 0), (0, 0))) (bdML rows cols a) else fltB
def bdML (rows cols : List Idp) : List Nd → List Bn
  | [] => []
  | c :: r => bdM rows cols c :: bdML rows cols r
end
theorem bdML_map (rows cols : List Idp) : ∀ a, bdML rows cols a = a.map (bdM rows cols)
  | [] => rfl
  | c :: r => by rw [bdML, bdML_map rows cols r]; rfl
theorem bdM_go {rows cols : List Idp} {n : Nd} (h : hdE rows cols n.kind n.frm n.tor = 0) : bdM rows cols n = .mk n.kind n.num n.text (if n.kind = 3 ∨ n.kind = 4 then (bdC rows cols n.frm).1 else ((0, 0), (0, 0))) (if n.kind = 4 then (bdC rows cols n.tor).1 else ((0, 0), (0, 0))) (n.args.map (bdM rows cols)) := by
  cases n
  rw [bdM, bdML_map]
  exact if_pos h
theorem bdM_flt {rows cols : List Idp} {n : Nd} (h : hdE rows cols n.kind n.frm n.tor ≠ 0) : bdM rows cols n = fltB := by
  cases n
  rw [bdM]
  exact if_neg h
theorem bdE_go {rows cols : List Idp} {n : Nd} (h : hdE rows cols n.kind n.frm n.tor = 0) : bdE rows cols n = bdEL rows cols n.args := by
  cases n
  rw [bdE]
  exact if_pos h
theorem bdE_flt {rows cols : List Idp} {n : Nd} (h : hdE rows cols n.kind n.frm n.tor ≠ 0) : bdE rows cols n = hdE rows cols n.kind n.frm n.tor := by
  cases n
  rw [bdE]
  exact if_neg h
theorem bdEL_at {rows cols : List Idp} {a : List Nd} {i : Nat} {c : Nd} (h : a[i]? = some c) : bdEL rows cols (a.drop i) = if bdE rows cols c = 0 then bdEL rows cols (a.drop (i + 1)) else bdE rows cols c := by
  obtain ⟨hi, e⟩ := List.getElem?_eq_some_iff.1 h
  rw [List.drop_eq_getElem_cons hi, bdEL, e]
def bkC (rows cols : List Idp) (r : Rfp) : Int := ((plcS rows cols r.1 r.2).1.1 : Int) * 10000 + ((plcS rows cols r.1 r.2).1.2 : Int)
mutual
def bkN (rows cols : List Idp) : Bn → Nd
  | .mk k u t f o a => if ((k = 3 ∨ k = 4) ∧ bkC rows cols f = 0) ∨ (k = 4 ∧ bkC rows cols o = 0) then .mk 8 0 [] 0 0 [] else .mk k u t (if k = 3 ∨ k = 4 then bkC rows cols f else 0) (if k = 4 then bkC rows cols o else 0) (bkNL rows cols a)
def bkNL (rows cols : List Idp) : List Bn → List Nd
  | [] => []
  | c :: r => bkN rows cols c :: bkNL rows cols r
end
theorem bkNL_map (rows cols : List Idp) : ∀ a, bkNL rows cols a = a.map (bkN rows cols)
  | [] => rfl
  | c :: r => by rw [bkNL, bkNL_map rows cols r]; rfl
theorem bkN_flt {rows cols : List Idp} {n : Bn} (h : ((n.kind = 3 ∨ n.kind = 4) ∧ bkC rows cols n.frm = 0) ∨ (n.kind = 4 ∧ bkC rows cols n.tor = 0)) : bkN rows cols n = fltN := by
  cases n
  rw [bkN]
  exact if_pos h
theorem bkN_go {rows cols : List Idp} {n : Bn} (h : ¬ (((n.kind = 3 ∨ n.kind = 4) ∧ bkC rows cols n.frm = 0) ∨ (n.kind = 4 ∧ bkC rows cols n.tor = 0))) : bkN rows cols n = .mk n.kind n.num n.text (if n.kind = 3 ∨ n.kind = 4 then bkC rows cols n.frm else 0) (if n.kind = 4 then bkC rows cols n.tor else 0) (n.args.map (bkN rows cols)) := by
  cases n
  rw [bkN, bkNL_map]
  exact if_neg h
theorem plc_le (rows cols : List Idp) (x y : Idp) : (plcS rows cols x y).1.1 ≤ cols.length ∧ (plcS rows cols x y).1.2 ≤ rows.length := by
  unfold plcS
  have := plL_le rows x
  have := plL_le cols y
  split
  · exact ⟨by omega, by omega⟩
  · exact ⟨Nat.zero_le _, Nat.zero_le _⟩
theorem plc_if (rows cols : List Idp) (x y : Idp) : ((plcS rows cols x y).2 = true ∧ 1 ≤ (plcS rows cols x y).1.1 ∧ 1 ≤ (plcS rows cols x y).1.2) ∨ ((plcS rows cols x y).2 = false ∧ (plcS rows cols x y).1.1 = 0 ∧ (plcS rows cols x y).1.2 = 0) := by
  unfold plcS
  split
  · rename_i h
    exact .inl ⟨rfl, by show 1 ≤ plL cols y; omega, by show 1 ≤ plL rows x; omega⟩
  · exact .inr ⟨rfl, rfl, rfl⟩
theorem bkC_ok {rows cols : List Idp} (hr : rows.length ≤ 60) (hc : cols.length ≤ 60) (r : Rfp) : (bkC rows cols r ≠ 0 → OkC (bkC rows cols r) ∧ 0 ≤ bkC rows cols r ∧ bkC rows cols r ≤ 10000000) ∧ cC (bkC rows cols r) = (plcS rows cols r.1 r.2).1.1 ∧ cR (bkC rows cols r) = (plcS rows cols r.1 r.2).1.2 ∧ ((plcS rows cols r.1 r.2).2 = true ↔ bkC rows cols r ≠ 0) := by
  obtain ⟨h1, h2⟩ := plc_le rows cols r.1 r.2
  rcases plc_if rows cols r.1 r.2 with ⟨h3, h4, h5⟩ | ⟨h3, h4, h5⟩
  · have hrt : rtC ((plcS rows cols r.1 r.2).1.1 : Int) ((plcS rows cols r.1 r.2).1.2 : Int) = true := by
      unfold rtC
      simp
      omega
    obtain ⟨e1, e2⟩ := cCR_mk hrt
    have hne : bkC rows cols r ≠ 0 := by unfold bkC; omega
    refine ⟨fun _ => ⟨?_, by unfold bkC; omega, by unfold bkC; omega⟩, e1, e2, fun _ => hne, fun _ => h3⟩
    unfold OkC bkC
    rw [e1, e2]
    exact hrt
  · have h0 : bkC rows cols r = 0 := by unfold bkC; omega
    rw [h0, h4, h5]
    exact ⟨fun h => absurd rfl h, rfl, rfl, ⟨fun h => (by rw [h3] at h; cases h), fun h => absurd rfl h⟩⟩
def rbC (rows cols later beside : List Idp) (k : Int) : Int := bkC later beside (bdC rows cols k).1
mutual
theorem bk_bd (rows cols later beside : List Idp) : ∀ n : Nd, bdE rows cols n = 0 → bkN later beside (bdM rows cols n) = gvN (rbC rows cols later beside) n
  | .mk k u t f o a, h => by
    have h0 : hdE rows cols k f o = 0 := by
      rw [bdE] at h
      split at h
      · assumption
      · exact h
    rw [bdE, if_pos h0] at h
    have hL := bk_bdL rows cols later beside a h
    rw [bdM, if_pos h0, bkN, gvN, hL]
    by_cases h4 : k = 4
    · simp only [h4, or_true, if_true, true_and, rbC]
    · by_cases h3 : k = 3
      · simp [h3, rbC]
      · simp [h3, h4]
theorem bk_bdL (rows cols later beside : List Idp) : ∀ a : List Nd, bdEL rows cols a = 0 → bkNL later beside (bdML rows cols a) = gvNL (rbC rows cols later beside) a
  | [], _ => by rw [bdML, bkNL, gvNL]
  | c :: r, h => by
    rw [bdEL] at h
    have hc : bdE rows cols c = 0 := by
      split at h
      · assumption
      · exact h
    rw [if_pos hc] at h
    rw [bdML, bkNL, gvNL, bk_bd rows cols later beside c hc, bk_bdL rows cols later beside r h]
end
end Go.Proofs.YtjklbbmgjjdalaaGreatDoor.Bd
namespace Go.Proofs.YtjklbbmgjjdalaaGreatDoor.Bd
open Go.RowKit Go.Joins
theorem kidsB_off {base b G d' l' c2 kk : Nat} {wr w3 w5 : World} {o : Obj} {v v' u : Value} {acc : List (KidQ Rfp)} {c : Bn} {p2 : Option Addr} (hG : G < base) (hbb : b < base) (hbs : base ≤ wr.heap.size) (hb : Off b wr w3) (hg : (w3.alloc o).grownBy w5 v.ownBlock)
    (hat : v'.ownBlock = v.ownBlock ∨ v'.ownBlock = some (w3.alloc o).heap.size) (hlt : ∀ k, v.ownBlock = some k → k < wr.heap.size) (hk : ∀ x ∈ acc, RdQ rfE 12 wr (okQ base wr v) d' x.1 x.2.1 x.2.2.1)
    (hn : RdQ rfE 12 w3 (fun k => wr.heap.size ≤ k ∧ k < w3.heap.size) d' c p2 l') :
    ∀ x ∈ acc ++ [(c, p2, l', c2)], RdQ rfE 12 (w5.setCell ⟨G, kk, none⟩ u) (okQ base (w5.setCell ⟨G, kk, none⟩ u) v') d' x.1 x.2.1 x.2.2.1 := by
  have hs := hb.size
  have hs2 := hg.size
  rw [World.size_alloc] at hs2 hat
  have hblk : ∀ k, G ≠ k → k < w3.heap.size → v.ownBlock ≠ some k → (w5.setCell ⟨G, kk, none⟩ u).heap[k]? = w3.heap[k]? := fun k h1 h2 h3 => by
    rw [heap_setCell_other _ _ _ _ (fun e => h1 e.symm), hg.block k (by rw [World.size_alloc]; omega) (fun e => h3 e.symm), heap_alloc_old _ _ h2]
  intro x hx
  rcases List.mem_append.1 hx with hx | hx
  · refine RdQ.carry (fun k hb' _ => ?_) (hk x hx)
    obtain ⟨h1, h2, h3⟩ := hb'
    refine ⟨⟨h1, by rw [World.size_setCell]; omega, ?_⟩, ?_⟩
    · rcases hat with e | e
      · rw [e]; exact h3
      · rw [e]; intro e'; have := Option.some.inj e'; omega
    · rw [hblk k (by omega) (by omega) h3, hb.block k h2 (by omega)]
  · obtain rfl := List.mem_singleton.1 hx
    refine RdQ.carry (fun k hb' _ => ?_) hn
    obtain ⟨h1, h2⟩ := hb'
    have h3 : v.ownBlock ≠ some k := fun e => by have := hlt k e; omega
    refine ⟨⟨by omega, by rw [World.size_setCell]; omega, ?_⟩, ?_⟩
    · rcases hat with e | e
      · rw [e]; exact h3
      · rw [e]; intro e'; have := Option.some.inj e'; omega
    · exact hblk k (by omega) h2 h3
theorem kidsB_off_grow {base : Nat} {w w' : World} {v : Value} {d' : Nat} {acc : List (KidQ Rfp)} (hb : Below w.heap.size w w') (h : ∀ x ∈ acc, RdQ rfE 12 w (okQ base w v) d' x.1 x.2.1 x.2.2.1) : ∀ x ∈ acc, RdQ rfE 12 w' (okQ base w' v) d' x.1 x.2.1 x.2.2.1 := fun x hx =>
  RdQ.carry (fun b hb' _ => ⟨⟨hb'.1, Nat.lt_of_lt_of_le hb'.2.1 hb.size, hb'.2.2⟩, hb.block b hb'.2.1⟩) (h x hx)
theorem kidsC_off {base b G d' l' c2 kk : Nat} {wr w3 w5 : World} {o : Obj} {v v' u : Value} {acc : List (Cel.Kid)} {c : Nd} {p2 : Option Addr} (hG : G < base) (hbb : b < base) (hbs : base ≤ wr.heap.size) (hb : Off b wr w3) (hg : (w3.alloc o).grownBy w5 v.ownBlock)
    (hat : v'.ownBlock = v.ownBlock ∨ v'.ownBlock = some (w3.alloc o).heap.size) (hlt : ∀ k, v.ownBlock = some k → k < wr.heap.size) (hk : ∀ x ∈ acc, Cel.RdP wr (okQ base wr v) d' x.1 x.2.1 x.2.2.1)
    (hn : Cel.RdP w3 (fun k => wr.heap.size ≤ k ∧ k < w3.heap.size) d' c p2 l') :
    ∀ x ∈ acc ++ [(c, p2, l', c2)], Cel.RdP (w5.setCell ⟨G, kk, none⟩ u) (okQ base (w5.setCell ⟨G, kk, none⟩ u) v') d' x.1 x.2.1 x.2.2.1 := by
  have hs := hb.size
  have hs2 := hg.size
  rw [World.size_alloc] at hs2 hat
  have hblk : ∀ k, G ≠ k → k < w3.heap.size → v.ownBlock ≠ some k → (w5.setCell ⟨G, kk, none⟩ u).heap[k]? = w3.heap[k]? := fun k h1 h2 h3 => by
    rw [heap_setCell_other _ _ _ _ (fun e => h1 e.symm), hg.block k (by rw [World.size_alloc]; omega) (fun e => h3 e.symm), heap_alloc_old _ _ h2]
  intro x hx
  rcases List.mem_append.1 hx with hx | hx
  · refine Cel.RdP.carry (fun k hb'  => ?_) (hk x hx)
    obtain ⟨h1, h2, h3⟩ := hb'
    refine ⟨⟨h1, by rw [World.size_setCell]; omega, ?_⟩, ?_⟩
    · rcases hat with e | e
      · rw [e]; exact h3
      · rw [e]; intro e'; have := Option.some.inj e'; omega
    · rw [hblk k (by omega) (by omega) h3, hb.block k h2 (by omega)]
  · obtain rfl := List.mem_singleton.1 hx
    refine Cel.RdP.carry (fun k hb'  => ?_) hn
    obtain ⟨h1, h2⟩ := hb'
    have h3 : v.ownBlock ≠ some k := fun e => by have := hlt k e; omega
    refine ⟨⟨by omega, by rw [World.size_setCell]; omega, ?_⟩, ?_⟩
    · rcases hat with e | e
      · rw [e]; exact h3
      · rw [e]; intro e'; have := Option.some.inj e'; omega
    · exact hblk k (by omega) h2 h3
theorem kidsC_off_grow {base : Nat} {w w' : World} {v : Value} {d' : Nat} {acc : List (Cel.Kid)} (hb : Below w.heap.size w w') (h : ∀ x ∈ acc, Cel.RdP w (okQ base w v) d' x.1 x.2.1 x.2.2.1) : ∀ x ∈ acc, Cel.RdP w' (okQ base w' v) d' x.1 x.2.1 x.2.2.1 := fun x hx =>
  Cel.RdP.carry (fun b hb'  => ⟨⟨hb'.1, Nat.lt_of_lt_of_le hb'.2.1 hb.size, hb'.2.2⟩, hb.block b hb'.2.1⟩) (h x hx)
structure KeptY (base b g : Nat) (w : World) where
  v : World
  h : ∀ k, (k < base ∧ k ≠ b ∨ k = g) → v.heap[k]? = w.heap[k]?
instance (base b g : Nat) (w : World) : Nonempty (KeptY base b g w) := ⟨⟨w, fun _ _ => rfl⟩⟩
theorem KeptY.cell {base b g : Nat} {w : World} {k o : Nat} {u : Value} (hk : k < base ∧ k ≠ b ∨ k = g) (hc : w.cell? ⟨k, o, none⟩ = some u) : ∀ x : KeptY base b g w, x.v.cell? ⟨k, o, none⟩ = some u := fun x => by
  rw [← hc]
  unfold World.cell?
  rw [x.h k hk]
theorem keptY_drew (base b g : Nat) (w : World) : ∃ x : KeptY base b g w, w.drew = x.v := ⟨⟨w.drew, fun _ _ => rfl⟩, rfl⟩
theorem three_ho (w : World) (a b c : Obj) : (((w.alloc a).alloc b).alloc c).heap[w.heap.size]? = some a ∧ (((w.alloc a).alloc b).alloc c).heap[w.heap.size + 1]? = some b ∧ (((w.alloc a).alloc b).alloc c).heap[w.heap.size + 2]? = some c := by
  refine ⟨?_, ?_, ?_⟩ <;> simp only [World.alloc, Array.getElem?_push, Array.size_push] <;> (repeat (first | rfl | (rw [if_neg (by omega)]) | (rw [if_pos (by omega)])))
theorem three_bo {w : World} (a b c : Obj) : Below w.heap.size w (((w.alloc a).alloc b).alloc c) := by
  (repeat' (first | (with_reducible exact Below.refl _ _) | (with_reducible assumption) | (with_reducible refine Below.alloc ?_ ?_ _) | (with_reducible refine bel_drewN ?_ _) | (with_reducible refine Below.drew ?_) | (with_reducible refine Below.setCell ?_ ?_ _) | (with_reducible refine bel_call ‹_› ?_ ?_) | go_size))
theorem bn_leaf (W : World) (ok : Nat → Prop) {n : Bn} (hn : n.args = []) (p : Option Addr) : ∀ d, RdQ rfE 12 W ok d n p 0
  | 0 => ⟨hn, rfl⟩
  | d + 1 => ⟨by rw [hn]; rfl, .inl rfl⟩
end Go.Proofs.YtjklbbmgjjdalaaGreatDoor.Bd
