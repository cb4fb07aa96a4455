/- Conditions: does a pattern stand for a text? The program's way. -/
import Derived.Test.YtpggidkcifnhjaaDoorMatB
import Derived.Deep.LoopGhost
import Derived.Deep.DeepCutAuto
import Derived.RegionTactic
import Derived.ChangeAlike
import Derived.Lib.ConvBytes
import Derived.Outline
set_option linter.unusedSimpArgs false
set_option linter.unusedVariables false

namespace Go.Proofs.YtpggidkcifnhjaaDoor
open Go.RowKit

/-- The finer frame: of the old blocks only one has changed. -/
theorem gb_below {w w' : World} (h : Below w.heap.size w w') (row : Option Nat) : w.grownBy w' row := ⟨h.os, h.tape, h.output, h.size, fun k hk _ => h.block k hk⟩
theorem gb_set {w w' : World} {row : Option Nat} (h : w.grownBy w' row) {p : Addr} (hp : w.heap.size ≤ p.block ∨ row = some p.block) (u : Value) : w.grownBy (w'.setCell p u) row :=
  ⟨h.os, h.tape, h.output, by simpa [World.setCell] using h.size, fun k hk hr => (Below.heap_setCell w' p u k (by
    rintro rfl
    rcases hp with hp | hp
    · omega
    · exact hr hp.symm)).trans (h.block k hk hr)⟩
theorem gb_call {w w' w2 : World} {row : Option Nat} (h : w.grownBy w' row) (hb : Below w'.heap.size w' w2) : w.grownBy w2 row :=
  ⟨hb.os.trans h.os, hb.tape.trans h.tape, hb.output.trans h.output, Nat.le_trans h.size hb.size, fun k hk hr => (hb.block k (Nat.lt_of_lt_of_le hk h.size)).trans (h.block k hk hr)⟩
theorem gb_trans {w w' w2 : World} {row : Option Nat} (h : w.grownBy w' row) (hb : w'.grownBy w2 row) : w.grownBy w2 row :=
  ⟨hb.os.trans h.os, hb.tape.trans h.tape, hb.output.trans h.output, Nat.le_trans h.size hb.size, fun k hk hr => (hb.block k (Nat.lt_of_lt_of_le hk h.size) hr).trans (h.block k hk hr)⟩
theorem gb_cell {w w' : World} {g b : Nat} (h : w.grownBy w' (some g)) (hb : b < w.heap.size) (hne : b ≠ g) (j : Nat) : w'.cell? ⟨b, j, none⟩ = w.cell? ⟨b, j, none⟩ :=
  World.cell?_of_block (a := ⟨b, j, none⟩) (h.block b hb (by intro e; injection e with e; exact hne e))
theorem gb_below_of {B : Nat} {w w' : World} {g : Nat} (h : w.grownBy w' (some g)) (hg : B ≤ g) (hB : B ≤ w.heap.size) : Below B w w' :=
  ⟨h.os, h.tape, h.output, h.size, fun b hb => h.block b (by omega) (by intro e; injection e with e; omega)⟩
theorem gb_drew {w w' : World} {row : Option Nat} (h : w.grownBy w' row) : w.grownBy w'.drew row := ⟨h.os, h.tape, h.output, h.size, h.block⟩

/-- Block r is a row of values of a type, f of each place below n. -/
def RowV (t : TypeId) (w : World) (r n : Nat) (f : Nat → Value) : Prop := ∃ cs : Array Value, w.heap[r]? = some (.cells cs t (0, 0)) ∧ ∀ j, j < n → cs[j]? = some (f j)
theorem RowV.lt {t : TypeId} {w : World} {r n : Nat} {f : Nat → Value} (h : RowV t w r n f) : r < w.heap.size := by
  obtain ⟨cs, h1, _⟩ := h
  rcases Nat.lt_or_ge r w.heap.size with h' | h'
  · exact h'
  · rw [Array.getElem?_eq_none h'] at h1; cases h1
theorem RowV.cell {t : TypeId} {w : World} {r n : Nat} {f : Nat → Value} (h : RowV t w r n f) {j : Nat} (hj : j < n) : w.cell? ⟨r, j, none⟩ = some (f j) := by
  obtain ⟨cs, h1, h2⟩ := h
  simp [World.cell?, h1, h2 j hj]
theorem RowV.free {t : TypeId} {w : World} {r n : Nat} {f : Nat → Value} (h : RowV t w r n f) (j : Nat) : w.frozen? ⟨r, j, none⟩ = false := by
  obtain ⟨cs, h1, h2⟩ := h
  simp [World.frozen?, h1]
theorem RowV.keep {t : TypeId} {w w' : World} {r n : Nat} {f : Nat → Value} (h : RowV t w r n f) (hb : w'.heap[r]? = w.heap[r]?) : RowV t w' r n f := by
  obtain ⟨cs, h1, h2⟩ := h
  exact ⟨cs, hb.trans h1, h2⟩
theorem RowV.below {t : TypeId} {w w' : World} {r n : Nat} {f : Nat → Value} (h : RowV t w r n f) (hb : Below w.heap.size w w') : RowV t w' r n f := h.keep (hb.block r h.lt)
theorem RowV.grown {t : TypeId} {w w' : World} {r n : Nat} {f : Nat → Value} {q : Nat} (h : RowV t w r n f) (hb : w.grownBy w' (some q)) (hq : r ≠ q) : RowV t w' r n f :=
  h.keep (hb.block r h.lt (by intro e; injection e with e; exact hq e))
theorem RowV.set {t : TypeId} {w : World} {r n : Nat} {f : Nat → Value} (h : RowV t w r n f) {j : Nat} (hj : j < n) (v : Value) {g : Nat → Value} (hg : ∀ x, x < n → g x = if x = j then v else f x) : RowV t (w.setCell ⟨r, j, none⟩ v) r n g := by
  obtain ⟨cs, h1, h2⟩ := h
  refine ⟨cs.setIfInBounds j v, ?_, fun x hx => ?_⟩
  · simp [World.setCell, Array.getElem?_modify, h1]
  · rw [hg x hx, Array.getElem?_setIfInBounds]
    have hjs : j < cs.size := (Array.getElem?_eq_some_iff.1 (h2 j hj)).1
    by_cases hxj : x = j
    · subst hxj
      simp [hjs]
    · rw [if_neg hxj, if_neg (fun e => hxj e.symm)]
      exact h2 x hx
theorem RowV.congr {t : TypeId} {w : World} {r n : Nat} {f g : Nat → Value} (h : RowV t w r n f) (hg : ∀ x, x < n → g x = f x) : RowV t w r n g := by
  obtain ⟨cs, h1, h2⟩ := h
  exact ⟨cs, h1, fun x hx => by rw [hg x hx]; exact h2 x hx⟩
theorem RowV.of_own {t : TypeId} {w : World} {base r n m cap : Nat} {xs : List Value} (h : w.ownsRow base t 1 (.slice (some ⟨r, 0, none⟩) m cap) m xs) (hn : n ≤ m) (f : Nat → Value) (hx : ∀ j, j < n → xs[j]? = some (f j)) : RowV t w r n f := by
  obtain ⟨hl, ⟨hv, _⟩ | ⟨g, cap', cur, hv, hg, hh, hn', hm, hs, ht⟩⟩ := h
  · cases hv
  · cases hv
    refine ⟨cur, hh, fun j hj => ?_⟩
    have e1 := hx j hj
    rw [← ht, List.getElem?_take, if_pos (by omega)] at e1
    simpa using e1

def sgE (x : Sg) : List Value := [.int .i64 (x.1 : Int), .int .u8 (x.2 : Int)]
theorem sgE_len (x : Sg) : (sgE x).length = 2 := rfl
/-- The signs of a list by place. -/
def sgAt (L : List Sg) (i : Nat) : Sg := L.getD i (0, 0)
theorem sgAt_get {L : List Sg} {i : Nat} (h : i < L.length) : L[i]? = some (sgAt L i) := by
  unfold sgAt
  rw [List.getD_eq_getElem?_getD, List.getElem?_eq_getElem h]
  rfl
theorem sgAt_end {L : List Sg} {i : Nat} (h : L.length ≤ i) : (sgAt L i).1 = 0 := by
  unfold sgAt
  rw [List.getD_eq_getElem?_getD, List.getElem?_eq_none h]
  rfl
/-- A row opened up to a place. -/
def OPs (p : Nat → Sg) (f : Nat → Bool) (i : Nat) : Nat → Bool := fun j => if j ≤ i then OP p f j else f j

set_option maxRecDepth 100000 in
set_option maxHeartbeats 2000000 in
theorem open_any (L : List Sg) (p : Option Addr) (cap bx r cp : Nat) (f : Nat → Bool) (hlen : L.length ≤ 10000) (w : World) (hbx : w.cell? ⟨bx, 0, none⟩ = some (.slice p L.length cap)) (hpr : 0 < L.length → ∀ a, p = some a → a.block ≠ r) (hxr : bx ≠ r)
    (hL : RdG sgE 2 w p L.length L) (hrow : RowV 4 w r (L.length + 1) (fun j => .bool (f j))) :
    Calls Tryd.prog 39 #[.slice (some ⟨r, 0, none⟩) (L.length + 1) cp, .pointer (some ⟨bx, 0, none⟩)] w fun e w' => e = .returned (.tuple #[]) ∧ RowV 4 w' r (L.length + 1) (fun j => .bool (OP (sgAt L) f j)) ∧ w.grownBy w' (some r) := by
  obtain ⟨n, hn⟩ : ∃ n, L.length = n := ⟨_, rfl⟩
  have hbxl := World.block_lt_of_cell? w _ hbx
  have hrl := hrow.lt
  have HR : Hid (RowV 4 w r (n + 1) (fun j => .bool (OPs (sgAt L) f 0 j))) := by
    unfold Hid
    rw [← hn]
    exact hrow.congr (fun x hx => by
      unfold OPs
      split
      · rename_i h
        obtain rfl : x = 0 := by omega
        rfl
      · rfl)
  rw [hn] at hbx hlen hL hpr ⊢
  have HPR := Lib.hid hpr
  have HN := Lib.hid hn
  have HL := Lib.hid hL
  clear hn hL hrow hpr
  go_enter Tryd.func39, Tryd.ntmps39
  go_wp2_with fail
  go_loopg [7] n (fun g v7 wr => ∃ i : Nat, i + g = n ∧ v7 = .int .i64 i ∧ RowV 4 wr r (n + 1) (fun j => .bool (OPs (sgAt L) f i j)) ∧ w.grownBy wr (some r))
  case atStart => exact ⟨0, by omega, rfl, HR.out, gb_below (Below.refl _ _) _⟩
  case round =>
    obtain ⟨i, hig, rfl, hrow, hgb⟩ := hrel
    have hzs := hgb.size
    have HROW := Lib.hid hrow
    have HGB := Lib.hid hgb
    by_cases hlt : i < n
    · have hli : (i : Int) < (n : Int) := by omega
      have hx := sgAt_get (L := L) (i := i) (by rw [HN.out]; exact hlt)
      obtain ⟨k, c, hkc⟩ : ∃ k c, sgAt L i = (k, c) := ⟨_, _, rfl⟩
      rw [hkc] at hx
      obtain ⟨b, off, rfl, hb, hcs⟩ := HL.out.some hlt
      have hbr : b ≠ r := HPR.out (by omega) _ rfl
      have q1 : wr.cell? ⟨b, off + i * 2, none⟩ = some (.int .i64 (k : Int)) := (gb_cell hgb hb hbr _).trans (hcs i _ hx 0 _ rfl)
      have q2 : wr.cell? ⟨b, off + i * 2 + 1, none⟩ = some (.int .u8 (c : Int)) := (gb_cell hgb hb hbr _).trans (hcs i _ hx 1 _ rfl)
      have q3 := hrow.cell (j := i) (by omega)
      have e3 : OPs (sgAt L) f i i = OP (sgAt L) f i := by unfold OPs; rw [if_pos (Nat.le_refl _)]
      rw [e3] at q3
      have f3 := hrow.free (i + 1)
      have q4 := hrow.cell (j := i + 1) (by omega)
      have hs : OPs (sgAt L) f (i + 1) (i + 1) = (f (i + 1) || (OP (sgAt L) f i && decide (k = 2))) := by
        unfold OPs
        rw [if_pos (Nat.le_refl _), OP, hkc]
      have hsame : (f (i + 1) || (OP (sgAt L) f i && decide (k = 2))) = f (i + 1) → ∀ x, x < n + 1 → (Value.bool (OPs (sgAt L) f (i + 1) x)) = .bool (OPs (sgAt L) f i x) := fun h x hx => by
        congr 1
        by_cases h1 : x = i + 1
        · subst h1
          rw [hs, h]
          unfold OPs
          rw [if_neg (by omega)]
        · unfold OPs
          by_cases h2 : x ≤ i
          · rw [if_pos (by omega), if_pos h2]
          · rw [if_neg (by omega), if_neg h2]
      have hset : (OP (sgAt L) f i && decide (k = 2)) = true → ∀ x, x < n + 1 → (Value.bool (OPs (sgAt L) f (i + 1) x)) = if x = i + 1 then .bool true else .bool (OPs (sgAt L) f i x) := fun h x hx => by
        by_cases h1 : x = i + 1
        · subst h1
          rw [hs, h, if_pos rfl]
          simp
        · rw [if_neg h1]
          congr 1
          unfold OPs
          by_cases h2 : x ≤ i
          · rw [if_pos (by omega), if_pos h2]
          · rw [if_neg (by omega), if_neg h2]
      have HSAME := Lib.hid hsame
      have HSET := Lib.hid hset
      obtain ⟨o, ho⟩ : ∃ o, OP (sgAt L) f i = o := ⟨_, rfl⟩
      rw [ho] at q3 HSAME HSET
      have ha : ∀ (o1 o2 o3 : Obj), True := fun _ _ _ => trivial
      clear hrow hgb hx hkc e3 hs hsame hset ho ha hcs
      have hi1 : (i : Int) + 1 < (n : Int) + 1 := by omega
      cases o
      · go_wp2_with fail
        go_roundg (gk - 1)
        case measure => omega
        case rel => exact ⟨i + 1, by omega, by go_num, (HROW.out.congr (HSAME.out (by simp))).below (by (repeat' (first | (with_reducible exact Below.refl _ _) | (with_reducible assumption) | (with_reducible refine Below.alloc ?_ ?_ _) | (with_reducible refine bel_drewN ?_ _) | (with_reducible refine Below.drew ?_) | (with_reducible refine Below.setCell ?_ ?_ _) | (with_reducible refine bel_call ‹_› ?_ ?_) | go_size))), gb_call HGB.out (by (repeat' (first | (with_reducible exact Below.refl _ _) | (with_reducible assumption) | (with_reducible refine Below.alloc ?_ ?_ _) | (with_reducible refine bel_drewN ?_ _) | (with_reducible refine Below.drew ?_) | (with_reducible refine Below.setCell ?_ ?_ _) | (with_reducible refine bel_call ‹_› ?_ ?_) | go_size)))⟩
      · by_cases hk : k = 2
        · subst hk
          go_wp2_with fail
          go_roundg (gk - 1)
          case measure => omega
          case rel => exact ⟨i + 1, by omega, by go_num, (HROW.out.below (by (repeat' (first | (with_reducible exact Below.refl _ _) | (with_reducible assumption) | (with_reducible refine Below.alloc ?_ ?_ _) | (with_reducible refine bel_drewN ?_ _) | (with_reducible refine Below.drew ?_) | (with_reducible refine Below.setCell ?_ ?_ _) | (with_reducible refine bel_call ‹_› ?_ ?_) | go_size)))).set (by omega) (.bool true) (HSET.out rfl), gb_set (gb_call HGB.out (by (repeat' (first | (with_reducible exact Below.refl _ _) | (with_reducible assumption) | (with_reducible refine Below.alloc ?_ ?_ _) | (with_reducible refine bel_drewN ?_ _) | (with_reducible refine Below.drew ?_) | (with_reducible refine Below.setCell ?_ ?_ _) | (with_reducible refine bel_call ‹_› ?_ ?_) | go_size)))) (.inr rfl) _⟩
        · have hk2 : ((k : Int) == 2) = false := by simp; omega
          go_wp2_with fail
          go_roundg (gk - 1)
          case measure => omega
          case rel => exact ⟨i + 1, by omega, by go_num, (HROW.out.congr (HSAME.out (by simp [hk]))).below (by (repeat' (first | (with_reducible exact Below.refl _ _) | (with_reducible assumption) | (with_reducible refine Below.alloc ?_ ?_ _) | (with_reducible refine bel_drewN ?_ _) | (with_reducible refine Below.drew ?_) | (with_reducible refine Below.setCell ?_ ?_ _) | (with_reducible refine bel_call ‹_› ?_ ?_) | go_size))), gb_call HGB.out (by (repeat' (first | (with_reducible exact Below.refl _ _) | (with_reducible assumption) | (with_reducible refine Below.alloc ?_ ?_ _) | (with_reducible refine bel_drewN ?_ _) | (with_reducible refine Below.drew ?_) | (with_reducible refine Below.setCell ?_ ?_ _) | (with_reducible refine bel_call ‹_› ?_ ?_) | go_size)))⟩
    · have hli : ¬ (i : Int) < (n : Int) := by omega
      clear hrow hgb
      go_wp2_with fail
      go_end0
      exact ⟨rfl, HROW.out.congr (fun x hx => by unfold OPs; rw [if_pos (by omega)]), HGB.out⟩
end Go.Proofs.YtpggidkcifnhjaaDoor
