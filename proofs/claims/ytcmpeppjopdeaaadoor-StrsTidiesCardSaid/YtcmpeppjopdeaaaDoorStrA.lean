/- How far two texts are from one another: the plain table, and the program's Distance. -/
import Derived.Test.YtcmpeppjopdeaaaDoorBase
import Derived.Test.YtcmpeppjopdeaaaDoorShelf
import Derived.OwnWalk
import Derived.Laws.AppendOwnNone
import Derived.Laws.OwnMore
import Derived.Laws.MakeOwn
import Derived.Deep.LoopGhost
import Derived.RegionTactic
import Derived.ChangeAlike
import Derived.Lib.UnsafeStr
import Derived.Lib.ConvBytes
set_option linter.unusedSimpArgs false
set_option linter.unusedVariables false

namespace Go.Proofs.YtcmpeppjopdeaaaDoor
open Go.RowKit

/-- The byte at a place; 0 behind the end. -/
def nx (L : List UInt8) (i : Nat) : Nat := (L.getD i 0).toNat
theorem nx_lt (L : List UInt8) (i : Nat) : nx L i < 256 := (L.getD i 0).toNat_lt
theorem nx_get {L : List UInt8} {i : Nat} (h : i < L.length) : nx L i = L[i].toNat := by simp [nx, List.getD, h]
theorem nx_end {L : List UInt8} {i : Nat} (h : L.length ≤ i) : nx L i = 0 := by simp [nx, List.getD, List.getElem?_eq_none h]
theorem nx_str (s : ByteArray) (i : Nat) (h : i < s.size) : ((s[i].toNat : Nat) : Int) = (nx s.data.toList i : Int) := by
  have hl : i < s.data.toList.length := by rw [← Lib.size_eq]; exact h
  rw [nx_get hl]
  simp [ByteArray.getElem_eq_getElem_data]
theorem ret_i64 {a b : Int} (h : a = b) : Ending.returned (.int .i64 a) = .returned (.int .i64 b) := by rw [h]

/-- One row out of the one ahead of it. -/
def levRow (p : Nat → Nat) (c : Nat) (B : List UInt8) : Nat → Nat
  | 0 => p 0 + 1
  | k + 1 => min (min (p (k + 1)) (levRow p c B k) + 1) (p k + if c = nx B k then 0 else 1)
def lev (A B : List UInt8) : Nat → Nat → Nat
  | 0 => fun k => k
  | i + 1 => levRow (lev A B i) (nx A i) B
theorem lev_0 (A B : List UInt8) (k : Nat) : lev A B 0 k = k := rfl
theorem lev_i0 (A B : List UInt8) : ∀ i, lev A B i 0 = i
  | 0 => rfl
  | i + 1 => by show lev A B i 0 + 1 = i + 1; rw [lev_i0 A B i]
theorem lev_s (A B : List UInt8) (i k : Nat) : lev A B (i + 1) (k + 1) = min (min (lev A B i (k + 1)) (lev A B (i + 1) k) + 1) (lev A B i k + if nx A i = nx B k then 0 else 1) := rfl
theorem lev_le (A B : List UInt8) : ∀ i k, lev A B i k ≤ i + k := by
  intro i
  induction i with
  | zero => intro k; simp [lev_0]
  | succ i ih =>
    intro k
    induction k with
    | zero => rw [lev_i0]; omega
    | succ k ihk =>
      rw [lev_s]
      have := ih (k + 1)
      omega
theorem lev_sym (A B : List UInt8) : ∀ n i k, i + k ≤ n → lev A B i k = lev B A k i := by
  intro n
  induction n with
  | zero =>
    intro i k h
    obtain rfl : i = 0 := by omega
    obtain rfl : k = 0 := by omega
    rfl
  | succ n ih =>
    intro i k h
    cases i with
    | zero => rw [lev_0, lev_i0]
    | succ i =>
      cases k with
      | zero => rw [lev_i0, lev_0]
      | succ k =>
        rw [lev_s, lev_s, ih i (k + 1) (by omega), ih (i + 1) k (by omega), ih i k (by omega)]
        have e : (if nx A i = nx B k then 0 else 1) = (if nx B k = nx A i then 0 else 1) := by
          by_cases h : nx A i = nx B k
          · rw [if_pos h, if_pos h.symm]
          · rw [if_neg h, if_neg (fun e => h e.symm)]
        rw [e]
        omega

abbrev tInt : TypeId := 3
/-- Block r is a row of numbers, f of each place up to n. -/
def RowF (w : World) (r n : Nat) (f : Nat → Nat) : Prop := ∃ cs : Array Value, w.heap[r]? = some (.cells cs tInt (0, 0)) ∧ ∀ j, j ≤ n → cs[j]? = some (.int .i64 (f j : Int))
theorem RowF.lt {w : World} {r n : Nat} {f : Nat → Nat} (h : RowF w r n f) : r < w.heap.size := by
  obtain ⟨cs, h1, _⟩ := h
  rcases Nat.lt_or_ge r w.heap.size with h' | h'
  · exact h'
  · rw [Array.getElem?_eq_none h'] at h1; cases h1
theorem RowF.cell {w : World} {r n : Nat} {f : Nat → Nat} (h : RowF w r n f) {j : Nat} (hj : j ≤ n) : w.cell? ⟨r, j, none⟩ = some (.int .i64 (f j : Int)) := by
  obtain ⟨cs, h1, h2⟩ := h
  simp [World.cell?, h1, h2 j hj]
theorem RowF.free {w : World} {r n : Nat} {f : Nat → Nat} (h : RowF w r n f) (j : Nat) : w.frozen? ⟨r, j, none⟩ = false := by
  obtain ⟨cs, h1, h2⟩ := h
  simp [World.frozen?, h1]
theorem RowF.below {w w' : World} {r n : Nat} {f : Nat → Nat} (h : RowF w r n f) (hb : Below w.heap.size w w') : RowF w' r n f := by
  have hl := h.lt
  obtain ⟨cs, h1, h2⟩ := h
  exact ⟨cs, (hb.block r hl).trans h1, h2⟩
theorem RowF.drew {w : World} {r n : Nat} {f : Nat → Nat} (h : RowF w r n f) : RowF w.drew r n f := h
theorem RowF.set {w : World} {r n : Nat} {f : Nat → Nat} (h : RowF w r n f) {j : Nat} (hj : j ≤ n) (v : Nat) {g : Nat → Nat} (hg : ∀ x, x ≤ n → g x = if x = j then v else f x) : RowF (w.setCell ⟨r, j, none⟩ (.int .i64 (v : Int))) r n g := by
  obtain ⟨cs, h1, h2⟩ := h
  refine ⟨cs.setIfInBounds j (.int .i64 (v : Int)), ?_, fun x hx => ?_⟩
  · simp [World.setCell, Array.getElem?_modify, h1]
  · rw [hg x hx, Array.getElem?_setIfInBounds]
    have hjs : j < cs.size := (Array.getElem?_eq_some_iff.1 (h2 j hj)).1
    by_cases hxj : x = j
    · subst hxj
      simp [hjs]
    · rw [if_neg hxj, if_neg (fun e => hxj e.symm)]
      exact h2 x hx
theorem RowF.congr {w : World} {r n : Nat} {f g : Nat → Nat} (h : RowF w r n f) (hg : ∀ x, x ≤ n → g x = f x) : RowF w r n g := by
  obtain ⟨cs, h1, h2⟩ := h
  exact ⟨cs, h1, fun x hx => by rw [hg x hx]; exact h2 x hx⟩
theorem RowF.of_own {w : World} {base r n m cap : Nat} {xs : List Value} (h : w.ownsRow base tInt 1 (.slice (some ⟨r, 0, none⟩) m cap) m xs) (hn : n < m) (f : Nat → Nat) (hx : ∀ j, j ≤ n → xs[j]? = some (.int .i64 (f j : Int))) : RowF w r n f := by
  obtain ⟨hl, ⟨hv, _⟩ | ⟨g, cap', cur, hv, hg, hh, hn', hm, hs, ht⟩⟩ := h
  · cases hv
  · cases hv
    refine ⟨cur, hh, fun j hj => ?_⟩
    have e1 := hx j hj
    rw [← ht, List.getElem?_take, if_pos (by omega)] at e1
    simpa using e1
theorem info_int : (Tryd.prog.info? 3).map (fun i => (i.zero, i.size, i.bytes)) = some (some (.int .i64 0), 1, 8) := by kernel_rfl
theorem made_ints (n : Nat) : (madeCells #[Value.int .i64 0] (n * 1)).toList = List.replicate n (.int .i64 0) := by
  apply List.ext_getElem
  · simp [madeCells]
  · intro i h1 h2
    simp [madeCells, Nat.mod_one]
theorem bytes_cell (W : World) (s : ByteArray) : ∀ j, j < s.size → (Lib.bytesWorld W 5 s).cell? ⟨W.heap.size, j, none⟩ = some (.int .u8 (nx s.data.toList j : Int)) := fun j hj => Lib.bytesWorld_cell W _ s j hj
theorem bytes_below (W : World) (s : ByteArray) : Below W.heap.size W (Lib.bytesWorld W 5 s) := ⟨rfl, rfl, rfl, by rw [Lib.bytesWorld_size]; omega, fun k hk => Lib.bytesWorld_at_old W _ s k hk⟩
/-- The finer frame: of the old blocks only one has changed. -/
theorem gb_below {w w' : World} (h : Below w.heap.size w w') (row : Option Nat) : w.grownBy w' row := ⟨h.os, h.tape, h.output, h.size, fun k hk _ => h.block k hk⟩
theorem gb_set {w w' : World} {row : Option Nat} (h : w.grownBy w' row) {p : Addr} (hp : w.heap.size ≤ p.block ∨ row = some p.block) (u : Value) : w.grownBy (w'.setCell p u) row :=
  ⟨h.os, h.tape, h.output, by simpa [World.setCell] using h.size, fun k hk hr => (Below.heap_setCell w' p u k (by
    rintro rfl
    rcases hp with hp | hp
    · omega
    · exact hr hp.symm)).trans (h.block k hk hr)⟩
theorem gb_call {w w' w2 : World} {row : Option Nat} (h : w.grownBy w' row) (hb : Below w'.heap.size w' w2) : w.grownBy w2 row :=
  ⟨hb.os.trans h.os, hb.tape.trans h.tape, hb.output.trans h.output, Nat.le_trans h.size hb.size, fun k hk hr => (hb.block k (Nat.lt_of_lt_of_le hk h.size)).trans (h.block k hk hr)⟩
theorem gb_trans {w w' w2 : World} {row : Option Nat} (h : w.grownBy w' row) (hb : w'.grownBy w2 row) : w.grownBy w2 row :=
  ⟨hb.os.trans h.os, hb.tape.trans h.tape, hb.output.trans h.output, Nat.le_trans h.size hb.size, fun k hk hr => (hb.block k (Nat.lt_of_lt_of_le hk h.size) hr).trans (h.block k hk hr)⟩
theorem gb_mono {w w' w2 : World} {row : Option Nat} (h : Below w.heap.size w w') (hb : w'.grownBy w2 row) : w.grownBy w2 row := gb_trans (gb_below h row) hb
theorem gb_cell {w w' : World} {g b : Nat} (h : w.grownBy w' (some g)) (hb : b < w.heap.size) (hne : b ≠ g) (j : Nat) : w'.cell? ⟨b, j, none⟩ = w.cell? ⟨b, j, none⟩ :=
  World.cell?_of_block (a := ⟨b, j, none⟩) (h.block b hb (by intro e; injection e with e; exact hne e))
theorem gb_below_of {B : Nat} {w w' : World} {g : Nat} (h : w.grownBy w' (some g)) (hg : B ≤ g) (hB : B ≤ w.heap.size) : Below B w w' :=
  ⟨h.os, h.tape, h.output, h.size, fun b hb => h.block b (by omega) (by intro e; injection e with e; omega)⟩
theorem gb_drew {w w' : World} {row : Option Nat} (h : w.grownBy w' row) : w.grownBy w'.drew row := ⟨h.os, h.tape, h.output, h.size, h.block⟩
end Go.Proofs.YtcmpeppjopdeaaaDoor
