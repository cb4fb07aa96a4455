/- Wire: a reader in memory: Read, spoil, Fine, Left, Num, Int. Wire: slices.Clone of bytes; a reader's Bytes, Text. Wire: stamps: taken, and which are right. Wire: the document's reader in memory: num. Wire: the document's reader: pair. -/
import Derived.Test.YtjklbbmgjjdalaaGreatDoorBqI
import Derived.WalkKit
import Derived.Test.YtjklbbmgjjdalaaGreatDoorBqA
import Derived.Test.YtjklbbmgjjdalaaGreatDoorBqM
import Derived.Deep.DeepCutAuto
import Derived.Deep.LoopGhost
import Derived.Lib.Hide
import Derived.IntWalk
import Derived.Lib.ItoaNum
import Derived.WalkSpells
import Derived.Lib.ConvBytes
import Derived.Laws.BytesArg
import Derived.Laws.IdiomStrings
import Derived.Test.YtjklbbmgjjdalaaGreatDoorBqK
import Derived.Shelf.Bits.Mul64
import Derived.Deep.CutBlock
set_option linter.unusedSimpArgs false
set_option linter.unusedVariables false
namespace Go.Proofs.YtjklbbmgjjdalaaGreatDoor.Bd
open Go.RowKit Go.Joins
abbrev tRd : TypeId := 101
def u8E (c : UInt8) : List Value := [.int .u8 (c.toNat : Nat)]
def RdU (w : World) (B : Nat) (p : Option Addr) (n cap : Nat) (L : List UInt8) : Prop :=
  L.length = n ∧ n ≤ cap ∧ cap ≤ maxLen ∧ ((p = none ∧ n = 0 ∧ cap = 0) ∨ ∃ b off, p = some ⟨b, off, none⟩ ∧ b < B ∧ b < w.heap.size ∧ ∀ j, j < n → w.cell? ⟨b, off + j, none⟩ = some (.int .u8 ((L.getD j 0).toNat : Nat)))
theorem RdU.off {w w' : World} {B : Nat} {p : Option Addr} {n cap : Nat} {L : List UInt8} (h : RdU w B p n cap L) {b : Nat} (ho : Off b w w') (hb : B ≤ b) : RdU w' B p n cap L := by
  obtain ⟨h1, h2, h3, h4⟩ := h
  refine ⟨h1, h2, h3, ?_⟩
  rcases h4 with h4 | ⟨c, off, h5, h6, h7, h8⟩
  · exact .inl h4
  · refine .inr ⟨c, off, h5, h6, Nat.lt_of_lt_of_le h7 ho.size, fun j hj => ?_⟩
    rw [← h8 j hj]
    unfold World.cell?
    rw [ho.block c h7 (by omega)]
theorem RdU.below {w w' : World} {B : Nat} {p : Option Addr} {n cap : Nat} {L : List UInt8} (h : RdU w B p n cap L) (hb : Below w.heap.size w w') : RdU w' B p n cap L := by
  obtain ⟨h1, h2, h3, h4⟩ := h
  refine ⟨h1, h2, h3, ?_⟩
  rcases h4 with h4 | ⟨c, off, h5, h6, h7, h8⟩
  · exact .inl h4
  · refine .inr ⟨c, off, h5, h6, Nat.lt_of_lt_of_le h7 hb.size, fun j hj => ?_⟩
    rw [← h8 j hj]
    unfold World.cell?
    rw [hb.block c h7]
theorem RdU.drop {w : World} {B : Nat} {b off n cap : Nat} {L : List UInt8} (h : RdU w B (some ⟨b, off, none⟩) n cap L) (k : Nat) (hk : k ≤ n) (o : Nat) (ho : o = off + k ∨ k = n) : RdU w B (some ⟨b, o, none⟩) (n - k) (cap - k) (L.drop k) := by
  obtain ⟨h1, h2, h3, h4⟩ := h
  refine ⟨by rw [List.length_drop, h1], by omega, by omega, ?_⟩
  rcases h4 with ⟨h4, _⟩ | ⟨c, off', h5, h6, h7, h8⟩
  · cases h4
  · cases h5
    refine .inr ⟨b, o, rfl, h6, h7, fun j hj => ?_⟩
    rcases ho with rfl | rfl
    · rw [Nat.add_assoc, h8 (k + j) (by omega)]
      simp [List.getD, List.getElem?_drop]
    · omega
theorem RdU.take {w : World} {B : Nat} {p : Option Addr} {n cap : Nat} {L : List UInt8} (h : RdU w B p n cap L) (k : Nat) (hk : k ≤ n) : RdU w B p k cap (L.take k) := by
  obtain ⟨h1, h2, h3, h4⟩ := h
  refine ⟨by rw [List.length_take]; omega, by omega, h3, ?_⟩
  rcases h4 with ⟨h4, h5, h6⟩ | ⟨c, off, h5, h6, h7, h8⟩
  · exact .inl ⟨h4, by omega, h6⟩
  · refine .inr ⟨c, off, h5, h6, h7, fun j hj => ?_⟩
    rw [h8 j (by omega)]
    simp [List.getD, List.getElem?_take, hj]
def Rdr (w : World) (b : Nat) (S : Option (List UInt8)) : Prop := ∃ p n cap bad, BlkC w b #[.slice p n cap, .bool bad] tRd ∧
  match S with
  | none => bad = true ∧ p = none ∧ n = 0 ∧ cap = 0
  | some L => bad = false ∧ L.length ≤ 100000 ∧ RdU w b p n cap L
theorem Rdr.below {w w' : World} {b : Nat} {S : Option (List UInt8)} (h : Rdr w b S) (hb : Below w.heap.size w w') : Rdr w' b S := by
  obtain ⟨p, n, cap, bad, h1, h2⟩ := h
  refine ⟨p, n, cap, bad, h1.below hb, ?_⟩
  cases S with
  | none => exact h2
  | some L => exact ⟨h2.1, h2.2.1, h2.2.2.below hb⟩
theorem Rdr.lt {w : World} {b : Nat} {S : Option (List UInt8)} (h : Rdr w b S) : b < w.heap.size := by
  obtain ⟨p, n, cap, bad, h1, h2⟩ := h
  exact lt_some h1
theorem Rdr.blk {w : World} {b : Nat} {S : Option (List UInt8)} (h : Rdr w b S) : ∃ v bad, BlkC w b #[v, .bool bad] tRd := by
  obtain ⟨p, n, cap, bad, h1, h2⟩ := h
  exact ⟨_, bad, h1⟩
end Go.Proofs.YtjklbbmgjjdalaaGreatDoor.Bd
namespace Go.Proofs.YtjklbbmgjjdalaaGreatDoor.Bd
open Go.RowKit Go.Joins
theorem u8_flat (L : List UInt8) : L.flatMap u8E = L.map fun c => Value.int .u8 (c.toNat : Nat) := by
  induction L with
  | nil => rfl
  | cons c L ih => rw [List.flatMap_cons, ih]; rfl
theorem RdU.of_own {w : World} {base : Nat} {e : TypeId} {v : Value} {n : Nat} {L : List UInt8} (hn : L.length = n) (h : w.ownsRow base e 1 v n (L.map fun c => Value.int .u8 (c.toNat : Nat))) : ∃ p cap, v = .slice p n cap ∧ RdU w w.heap.size p n cap L ∧ ∀ x, p = some x → base ≤ x.block := by
  rw [← u8_flat] at h
  obtain ⟨p, cap, hv, h1, h2, h3, h4⟩ := RdG.of_own (enc := u8E) (sz := 1) (fun _ => rfl) hn h
  rcases h4 with h4 | ⟨r, h4, h5, h6⟩
  · rw [hv] at h4
    injection h4 with h4 h5 h6
    subst h4
    subst h5
    subst h6
    exact ⟨none, 0, hv, ⟨hn, Nat.le_refl _, Nat.zero_le _, .inl ⟨rfl, rfl, rfl⟩⟩, fun x hx => by cases hx⟩
  · subst h4
    refine ⟨_, cap, hv, ⟨hn, h1, h2, .inr ⟨r, 0, rfl, h6, h6, fun j hj => ?_⟩⟩, fun x hx => by cases hx; exact h5⟩
    rcases h3.2 with h7 | ⟨b, off, h7, h8, h9⟩
    · omega
    · cases h7
      have hx : L[j]? = some (L.getD j 0) := by simp [List.getD, List.getElem?_eq_getElem (show j < L.length by omega)]
      have := h9 j _ hx 0 _ rfl
      rw [Nat.mul_one, Nat.add_zero] at this
      exact this
theorem RdU.mono {w : World} {B B' : Nat} {p : Option Addr} {n cap : Nat} {L : List UInt8} (h : RdU w B p n cap L) (hB : B ≤ B') : RdU w B' p n cap L := by
  obtain ⟨h1, h2, h3, h4⟩ := h
  refine ⟨h1, h2, h3, ?_⟩
  rcases h4 with h4 | ⟨c, off, h5, h6, h7, h8⟩
  · exact .inl h4
  · exact .inr ⟨c, off, h5, by omega, h7, h8⟩
theorem RdU.conv {B : Nat} {w : World} {p : Option Addr} {n c : Nat} {L : List UInt8} (h : RdU w B p n c L) : (convert 65 9 (.slice p n c)).run Tryz.prog w = .ok (.string ⟨L.toArray⟩) w := by
  obtain ⟨hl, h2, h3, ⟨rfl, rfl, rfl⟩ | ⟨b, off, rfl, h6, h7, h8⟩⟩ := h
  · have : L = [] := List.eq_nil_of_length_eq_zero hl
    subst this
    exact run_convert_bytes_nil w 65 5 Tryz.underlying65 Tryz.underlying5 0 0 9 Tryz.underlying9
  · subst hl
    exact run_convert_bytes_back w 65 9 5 ⟨b, off, none⟩ c L Tryz.underlying65 Tryz.underlying5 Tryz.underlying9 (fun j hj => by
      rw [Addr.add_mid, h8 j hj]
      simp [List.getD, hj])
end Go.Proofs.YtjklbbmgjjdalaaGreatDoor.Bd
namespace Go.Proofs.YtjklbbmgjjdalaaGreatDoor.Bd
open Go.RowKit Go.Joins
theorem Rdr.low {w w' : World} {b : Nat} {S : Option (List UInt8)} (h : Rdr w b S) (hb : Below (b + 1) w w') : Rdr w' b S := by
  obtain ⟨p, n, cap, bad, h1, h2⟩ := h
  refine ⟨p, n, cap, bad, (hb.block b (by omega)).trans h1, ?_⟩
  cases S with
  | none => exact h2
  | some L =>
    obtain ⟨h3, h4, h5, h6, h7, h8⟩ := h2
    refine ⟨h3, h4, h5, h6, h7, ?_⟩
    rcases h8 with h8 | ⟨c, off, h9, h10, h11, h12⟩
    · exact .inl h8
    · refine .inr ⟨c, off, h9, h10, Nat.lt_of_lt_of_le h11 hb.size, fun j hj => ?_⟩
      rw [← h12 j hj]
      exact hb.cell (p := ⟨c, off + j, none⟩) (by show c < b + 1; omega)
instance (b : Nat) (w : World) : Nonempty (KeptO b w) := ⟨⟨w, Off.refl _ _⟩⟩
end Go.Proofs.YtjklbbmgjjdalaaGreatDoor.Bd
namespace Go.Proofs.YtjklbbmgjjdalaaGreatDoor.Bd
open Go.RowKit Go.Joins
end Go.Proofs.YtjklbbmgjjdalaaGreatDoor.Bd
namespace Go.Proofs.YtjklbbmgjjdalaaGreatDoor.Bd
open Go.RowKit Go.Joins
abbrev tPr : TypeId := 50
end Go.Proofs.YtjklbbmgjjdalaaGreatDoor.Bd
