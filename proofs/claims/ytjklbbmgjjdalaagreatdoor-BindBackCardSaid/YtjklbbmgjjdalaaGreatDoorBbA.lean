/- Rows of whatever elements in memory: a slice reads as a list; rows of the call's own. No function of the program. DERIVED: THE SHELF's CONTRACTS AT THIS DUMP, IN PLAIN WORDS (tools/lay-plain.mjs out of 'YtjklbbmgjjdalaaGreatDoorShelf.lean', which tools/lay-shelf.mjs wrote): THE SAME DECLARATIONS UNDER THE SAME NAMES: 'import', 'namespace', 'open', 'def', 'theorem' AND NOTHING ELSE: no command of the shelf's: FOR A HAND-IN. Each laying: the table of numbers ('.._ren') and one theorem, a field a fact of the dump's own or the kernel's comparison; each contract: ONE APPLICATION. The worlds in which the blocks below N are as they were, as a type: for walks by the quick rules. No function of the program. A whole struct stored into a block that is known, or loaded out of it: laws for the walk. Results of which the first is a struct in memory. No function of the program. -/
import Derived.Test.YtjklbbmgjjdalaaGreatDoorBase
import Derived.OwnWalk
import Derived.Laws.AppendOwnNone
import Derived.Laws.OwnMore
import Derived.Laws.MakeOwn
import Derived.Shelf.Strings.Builder1
import Derived.Shelf.Strings.Builder2
import Derived.Shelf.Strings.Trim
import Derived.Shelf.Small.Utf8
import Derived.Shelf.Small.Strs
import Derived.Shelf.Strings.BuilderF
import Derived.Shelf.Strings.BuilderK
import Derived.Shelf.Strings.Search1
import Derived.Shelf.Strings.Search2
import Derived.Shelf.Strings.Search3
import Derived.Shelf.Strings.Count
import Derived.Shelf.LaysM
import Derived.Shelf.Strings.Shaped
import Derived.Shelf.Strings.Split
import Derived.Shelf.Strings.Replace
import Derived.Shelf.Strings.SplitShaped
import Derived.Shelf.Strings.Runes
import Derived.Shelf.Strings.AsciiSet
import Derived.Shelf.Unicode.DecodeSlow
import Derived.Shelf.Slices.Turned
import Derived.Test.YtjklbbmgjjdalaaGreatDoorProg
import Derived.Test.YtjklbbmgjjdalaaGreatDoorBbD
import Derived.Deep.MidRow
import Derived.Lib.SmallJoins
import Derived.Laws.ResultCell
import Derived.Laws.Rows
set_option linter.unusedSimpArgs false
set_option linter.unusedVariables false
namespace Go.Proofs.YtjklbbmgjjdalaaGreatDoor
open Go.RowKit
theorem info_of {t : TypeId} {z : Value} {s b : Nat} (h : (Tryz.prog.info? t).map (fun i => (i.zero, i.size, i.bytes)) = some (some z, s, b)) : ∃ i, Tryz.prog.info? t = some i ∧ i.zero = some z ∧ i.size = s ∧ i.bytes = b := by
  cases hi : Tryz.prog.info? t with
  | none => rw [hi] at h; cases h
  | some i =>
    rw [hi] at h
    simp only [Option.map_some, Option.some.injEq, Prod.mk.injEq] at h
    exact ⟨i, rfl, h.1, h.2.1, h.2.2⟩
theorem row_below {w w' : World} {base e size n : Nat} {v : Value} {xs : List Value} (h : w.ownsRow base e size v n xs) (hb : Below w.heap.size w w') : w'.ownsRow base e size v n xs := by
  obtain ⟨h1, h2⟩ := h
  refine ⟨h1, ?_⟩
  rcases h2 with h2 | ⟨g, cap, cur, hv, hg, hh, r⟩
  · exact .inl h2
  · refine .inr ⟨g, cap, cur, hv, hg, ?_, r⟩
    rw [hb.block g (by
      rcases Nat.lt_or_ge g w.heap.size with h' | h'
      · exact h'
      · rw [Array.getElem?_eq_none h'] at hh; cases hh)]
    exact hh
theorem new1 (w : World) (a : Value) (t : TypeId) : ∀ j u, [a][j]? = some u → (w.alloc (.cells #[a] t)).cell? ((⟨w.heap.size, 0, none⟩ : Addr).add j) = some u := by
  intro j u hj
  match j, hj with
  | 0, hj => simp at hj; subst hj; simp [Addr.add]
theorem new2 (w : World) (a b : Value) (t : TypeId) : ∀ j u, [a, b][j]? = some u → (w.alloc (.cells #[a, b] t)).cell? ((⟨w.heap.size, 0, none⟩ : Addr).add j) = some u := by
  intro j u hj
  match j, hj with
  | 0, hj => simp at hj; subst hj; simp [Addr.add]
  | 1, hj => simp at hj; subst hj; simp [Addr.add]
section
variable {α : Type} {enc : α → List Value} {sz : Nat}
theorem flat_at (hz : ∀ x, (enc x).length = sz) (L : List α) : ∀ (i : Nat) (x : α), L[i]? = some x → ∀ k, k < sz → (L.flatMap enc)[i * sz + k]? = (enc x)[k]? := by
  induction L with
  | nil => intro i x hx; simp at hx
  | cons q L ih =>
    intro i x hx k hk
    cases i with
    | zero =>
      simp only [List.getElem?_cons_zero, Option.some.injEq] at hx
      subst hx
      rw [List.flatMap_cons, List.getElem?_append_left (by rw [hz]; omega)]
      congr 1
      omega
    | succ i =>
      rw [List.getElem?_cons_succ] at hx
      rw [List.flatMap_cons, Nat.succ_mul, List.getElem?_append_right (by rw [hz]; omega), hz]
      have := ih i x hx k hk
      rw [← this]
      congr 1
      omega
def RdG (enc : α → List Value) (sz : Nat) (w : World) (p : Option Addr) (n : Nat) (L : List α) : Prop :=
  L.length = n ∧ (n = 0 ∨ ∃ b off, p = some ⟨b, off, none⟩ ∧ b < w.heap.size ∧ ∀ (j : Nat) (x : α), L[j]? = some x → ∀ k u, (enc x)[k]? = some u → w.cell? ⟨b, off + j * sz + k, none⟩ = some u)
theorem RdG.nil (enc : α → List Value) (sz : Nat) (w : World) (p : Option Addr) : RdG enc sz w p 0 [] := ⟨rfl, .inl rfl⟩
theorem RdG.below {w w' : World} {p : Option Addr} {n : Nat} {L : List α} (h : RdG enc sz w p n L) (hb : Below w.heap.size w w') : RdG enc sz w' p n L := by
  obtain ⟨h1, h4⟩ := h
  refine ⟨h1, ?_⟩
  rcases h4 with h4 | ⟨b, off, h5, h6, h7⟩
  · exact .inl h4
  · exact .inr ⟨b, off, h5, Nat.lt_of_lt_of_le h6 hb.size, fun j x hx k u hu => (hb.cell (p := ⟨b, off + j * sz + k, none⟩) h6).trans (h7 j x hx k u hu)⟩
theorem RdG.some {w : World} {p : Option Addr} {n : Nat} {L : List α} (h : RdG enc sz w p n L) {j : Nat} (hj : j < n) : ∃ b off, p = some ⟨b, off, none⟩ ∧ b < w.heap.size ∧ ∀ (j : Nat) (x : α), L[j]? = some x → ∀ k u, (enc x)[k]? = some u → w.cell? ⟨b, off + j * sz + k, none⟩ = some u := by
  rcases h.2 with h | h
  · omega
  · exact h
theorem RdG.of_own (hz : ∀ x, (enc x).length = sz) {w : World} {base : Nat} {e : TypeId} {v : Value} {n : Nat} {L : List α} (hn : L.length = n) (h : w.ownsRow base e sz v n (L.flatMap enc)) : ∃ p cap, v = .slice p n cap ∧ n ≤ cap ∧ cap ≤ maxLen ∧ RdG enc sz w p n L ∧ (v = .slice none 0 0 ∨ ∃ r, p = Option.some ⟨r, 0, none⟩ ∧ base ≤ r ∧ r < w.heap.size) := by
  obtain ⟨hl, ⟨hv, h0⟩ | ⟨r, cap, cur, rfl, hg, hh, hn', hm, hs, ht⟩⟩ := h
  · have : L = [] := List.eq_nil_of_length_eq_zero (by omega)
    subst this
    subst h0
    exact ⟨none, 0, hv, Nat.le_refl _, Nat.zero_le _, ⟨rfl, .inl rfl⟩, .inl hv⟩
  · have hr : r < w.heap.size := by
      rcases Nat.lt_or_ge r w.heap.size with h' | h'
      · exact h'
      · rw [Array.getElem?_eq_none h'] at hh; cases hh
    refine ⟨_, cap, rfl, hn', hm, ⟨hn, .inr ⟨r, 0, rfl, hr, fun j x hx k u hu => ?_⟩⟩, .inr ⟨r, rfl, hg, hr⟩⟩
    have hj := (List.getElem?_eq_some_iff.1 hx).1
    have hk : k < sz := by
      rw [← hz x]
      exact (List.getElem?_eq_some_iff.1 hu).1
    have hlt : j * sz + k < n * sz := by
      have : (j + 1) * sz ≤ n * sz := Nat.mul_le_mul_right _ (by omega)
      rw [Nat.succ_mul] at this
      omega
    rw [← flat_at hz L j x hx k hk, ← ht, List.getElem?_take, if_pos hlt] at hu
    simp only [World.cell?, hh, Nat.zero_add]
    simpa using hu
theorem RdG.at1 {enc : α → List Value} {w : World} {p : Option Addr} {n : Nat} {L : List α} {b off : Nat} (h : ∀ (j : Nat) (x : α), L[j]? = Option.some x → ∀ k u, (enc x)[k]? = Option.some u → w.cell? ⟨b, off + j * 1 + k, none⟩ = Option.some u) {j : Nat} {x : α} {u : Value} (hx : L[j]? = Option.some x) (hu : enc x = [u]) : w.cell? ⟨b, off + j, none⟩ = Option.some u := by
  have := h j x hx 0 u (by rw [hu]; rfl)
  rw [Nat.mul_one, Nat.add_zero] at this
  exact this
end
theorem flat_snoc {α : Type} (enc : α → List Value) (L : List α) (x : α) : (L ++ [x]).flatMap enc = L.flatMap enc ++ enc x := by simp
end Go.Proofs.YtjklbbmgjjdalaaGreatDoor
namespace Go.Proofs
open Go.Shelf
def Tryz.lays169_ren : Go.Shelf.Ren := ⟨fun | 169 => 74 | n => n, fun | 70 => 143 | 9 => 9 | 0 => 0 | 72 => 145 | 37 => 65 | 127 => 174 | 3 => 3 | 5 => 5 | n => n, fun | n => n⟩
theorem Tryz.lays169 : Go.Proofs.Lays.n169 Tryz.prog Tryz.lays169_ren := {
  mixed := by kernel_rfl
  f169 := Tryz.func74.trans (congrArg some (by kernel_rfl))
  t0 := Tryz.underlying0
  a0 := Tryz.isAgg0
  z0 := Tryz.sizeOf0
  v0 := Tryz.zeroValue0
  t3 := Tryz.underlying3
  a3 := Tryz.isAgg3
  z3 := Tryz.sizeOf3
  v3 := Tryz.zeroValue3
  t9 := Tryz.underlying9
  a9 := Tryz.isAgg9
  z9 := Tryz.sizeOf9
  v9 := Tryz.zeroValue9
  t37 := Tryz.underlying65
  a37 := Tryz.isAgg65
  z37 := Tryz.sizeOf65
  v37 := Tryz.zeroValue65
  t70 := Tryz.underlying143
  a70 := Tryz.isAgg143
  z70 := Tryz.sizeOf143
  v70 := Tryz.zeroValue143
  t72 := Tryz.underlying145
  a72 := Tryz.isAgg145
  z72 := Tryz.sizeOf145
  v72 := Tryz.zeroValue145
  t127 := Tryz.underlying174
  a127 := Tryz.isAgg174
  z127 := Tryz.sizeOf174
  v127 := Tryz.zeroValue174 }
theorem Tryz.Builder_Extra_169 : Builder.Extra Tryz.prog Tryz.lays169_ren := {
  sizeBuilder := by kernel_rfl
  liesBuilder := by kernel_rfl
  t5 := Tryz.underlying5
  a5 := Tryz.isAgg5
  z5 := Tryz.sizeOf5
  v5 := Tryz.zeroValue5
  infoByte := by kernel_rfl
  cellsByte := by kernel_rfl
  sizeByte := by kernel_rfl
  neB5 := by decide }
open Go.RowKit in
open Go.RowKit in
open Go.RowKit in
theorem Tryz.Builder_String_any (B b : Nat) (l : List UInt8) (w : World) (h : Lib.IsBuilder 145 5 B b (Lib.byteCells l) w) (hBw : B ≤ w.heap.size) :
    Calls Tryz.prog 74 #[.pointer (some ⟨b, 0, none⟩)] w fun e w' => e = .returned (.string ⟨l.toArray⟩) ∧ Below B w w' := Any.Builder_String_any Tryz.lays169 Tryz.Builder_Extra_169 B b l w h hBw
open Go.RowKit in
open Go.RowKit in
open Go.RowKit in
open Go.RowKit in
open Go.RowKit in
open Go.RowKit in
open Go.RowKit in
open Go.RowKit in
open Go.RowKit in
open Go.RowKit in
open Go.RowKit in
open Go.RowKit Go.Lib in
open Go.RowKit Go.Lib in
open Go.RowKit Go.Lib in
open Go.RowKit Go.Lib in
open Go.RowKit Go.Lib in
open Go.RowKit Go.Lib in
open Go.RowKit Go.Lib in
open Go.RowKit Go.Lib in
open Go.RowKit Go.Lib in
open Go.RowKit Go.Lib in
open Go.RowKit Go.Lib in
open Go.RowKit Go.Lib in
open Go.RowKit Go.Lib in
open Go.RowKit Go.Lib in
open Go.RowKit Go.Lib in
open Go.RowKit Go.Lib in
open Go.RowKit Go.Lib in
open Go.RowKit Go.Lib in
open Go.RowKit Go.Lib in
open Go.RowKit Go.Lib in
open Go.RowKit Go.Lib in
open Go.RowKit Go.Lib in
open Go.RowKit Go.Lib in
open Go.RowKit Go.Lib in
open Go.RowKit Go.Lib in
open Go.RowKit Go.Lib in
open Go.Lib in
open Go.Lib in
def Tryz.lays110_ren : Go.Shelf.Ren := ⟨fun | 110 => 110 | 109 => 121 | n => n, fun | 31 => 140 | 9 => 9 | 4 => 4 | 3 => 3 | 0 => 0 | n => n, fun | n => n⟩
theorem Tryz.lays110 : Go.Proofs.Lays.n110 Tryz.prog Tryz.lays110_ren := {
  mixed := by kernel_rfl
  f109 := Tryz.func121.trans (congrArg some (by kernel_rfl))
  f110 := Tryz.func110.trans (congrArg some (by kernel_rfl))
  t0 := Tryz.underlying0
  a0 := Tryz.isAgg0
  z0 := Tryz.sizeOf0
  v0 := Tryz.zeroValue0
  t3 := Tryz.underlying3
  a3 := Tryz.isAgg3
  z3 := Tryz.sizeOf3
  v3 := Tryz.zeroValue3
  t4 := Tryz.underlying4
  a4 := Tryz.isAgg4
  z4 := Tryz.sizeOf4
  v4 := Tryz.zeroValue4
  t9 := Tryz.underlying9
  a9 := Tryz.isAgg9
  z9 := Tryz.sizeOf9
  v9 := Tryz.zeroValue9
  t31 := Tryz.underlying140
  a31 := Tryz.isAgg140
  z31 := Tryz.sizeOf140
  v31 := Tryz.zeroValue140 }
open Go.Lib in
theorem Tryz.slices_Contains_string (b off n c : Nat) (zs : List ByteArray) (x : ByteArray) (w : World) (hz : n ≤ zs.length) (hbig : n ≤ 9223372036854775807) (hc : ∀ j, j < zs.length → w.cell? ⟨b, off + j, none⟩ = some (.string (zs.getD j ByteArray.empty))) :
    Calls Tryz.prog 110 #[.slice (some ⟨b, off, none⟩) n c, .string x] w fun e w' => e = .returned (.bool (Lib.containsS (zs.take n) x)) ∧ w' = w := Any.slices_Contains_string Tryz.lays110 b off n c zs x w hz hbig hc
open Go.Lib in
theorem Tryz.slices_Contains_string_empty (a : Option Addr) (c : Nat) (x : ByteArray) (w : World) :
    Calls Tryz.prog 110 #[.slice a 0 c, .string x] w fun e w' => e = .returned (.bool false) ∧ w' = w := Any.slices_Contains_string_empty Tryz.lays110 a c x w
end Go.Proofs
namespace Go.Proofs.YtjklbbmgjjdalaaGreatDoor
open Go.RowKit
structure Kept (N : Nat) (w : World) where
  v : World
  h : Below N w v
instance (N : Nat) (w : World) : Nonempty (Kept N w) := ⟨⟨w, Below.refl _ _⟩⟩
theorem Kept.cell {N : Nat} {w : World} {b o : Nat} {u : Value} (h : w.cell? ⟨b, o, none⟩ = some u) (hb : b < N) : ∀ x : Kept N w, x.v.cell? ⟨b, o, none⟩ = some u := fun x => (x.h.cell (p := ⟨b, o, none⟩) hb).trans h
theorem lt_of_cell {w : World} {b o : Nat} {u : Value} (h : w.cell? ⟨b, o, none⟩ = some u) : b < w.heap.size := by
  rcases Nat.lt_or_ge b w.heap.size with h' | h'
  · exact h'
  · simp [World.cell?, Array.getElem?_eq_none h'] at h
theorem Kept.at {w : World} {b o : Nat} {u : Value} (h : w.cell? ⟨b, o, none⟩ = some u) : ∀ x : Kept w.heap.size w, x.v.cell? ⟨b, o, none⟩ = some u := Kept.cell h (lt_of_cell h)
theorem kept_drew (N : Nat) (w : World) (hN : N ≤ w.heap.size) : ∃ x : Kept N w, w.drew = x.v := ⟨⟨w.drew, Below.drew (Below.refl _ _)⟩, rfl⟩
theorem six_heap {w : World} {g : Nat} {t : TypeId} {c0 c1 c2 c3 c4 c5 : Value} (v0 v1 v2 v3 v4 v5 : Value) (h : w.heap[g]? = some (.cells #[c0, c1, c2, c3, c4, c5] t (0, 0))) :
    ((((((w.setCell ⟨g, 0, none⟩ v0).setCell ⟨g, 1, none⟩ v1).setCell ⟨g, 2, none⟩ v2).setCell ⟨g, 3, none⟩ v3).setCell ⟨g, 4, none⟩ v4).setCell ⟨g, 5, none⟩ v5).heap[g]? = some (.cells #[v0, v1, v2, v3, v4, v5] t (0, 0)) ∧
    ((∀ b, b ≠ g → ((((((w.setCell ⟨g, 0, none⟩ v0).setCell ⟨g, 1, none⟩ v1).setCell ⟨g, 2, none⟩ v2).setCell ⟨g, 3, none⟩ v3).setCell ⟨g, 4, none⟩ v4).setCell ⟨g, 5, none⟩ v5).heap[b]? = w.heap[b]?) ∧
    (∀ N, N ≤ g → Below N w ((((((w.setCell ⟨g, 0, none⟩ v0).setCell ⟨g, 1, none⟩ v1).setCell ⟨g, 2, none⟩ v2).setCell ⟨g, 3, none⟩ v3).setCell ⟨g, 4, none⟩ v4).setCell ⟨g, 5, none⟩ v5))) := by
  refine ⟨?_, fun b hb => ?_, fun N hN => ?_⟩
  · have h0 := heap_setCell_same w g 0 _ _ v0 h
    have h1 := heap_setCell_same _ g 1 _ _ v1 h0
    have h2 := heap_setCell_same _ g 2 _ _ v2 h1
    have h3 := heap_setCell_same _ g 3 _ _ v3 h2
    have h4 := heap_setCell_same _ g 4 _ _ v4 h3
    have h5 := heap_setCell_same _ g 5 _ _ v5 h4
    rw [h5]
    simp
  · rw [heap_setCell_other _ _ _ _ hb, heap_setCell_other _ _ _ _ hb, heap_setCell_other _ _ _ _ hb, heap_setCell_other _ _ _ _ hb, heap_setCell_other _ _ _ _ hb, heap_setCell_other _ _ _ _ hb]
  · exact Below.setCell (Below.setCell (Below.setCell (Below.setCell (Below.setCell (Below.setCell (Below.refl _ _) hN _) hN _) hN _) hN _) hN _) hN _
def nthO : List Oper → Nat → List Oper
  | [], _ => []
  | o :: _, 0 => [o]
  | _ :: r, n + 1 => nthO r n
theorem nthO_zero (o : Oper) (r : List Oper) : nthO (o :: r) 0 = [o] := rfl
theorem nthO_succ (o : Oper) (r : List Oper) (n : Nat) : nthO (o :: r) (n + 1) = nthO r n := rfl
theorem nthO_get : ∀ (l : List Oper) (i : Nat), nthO l i = l[i]?.toList
  | [], i => by simp [nthO]
  | o :: r, 0 => by simp [nthO]
  | o :: r, n + 1 => by rw [nthO_succ, nthO_get r n]; simp
theorem pick_nil (l : List Oper) : pick l [] = [] := rfl
theorem pick_cons (l : List Oper) (i : Nat) (r : List Nat) : pick l (i :: r) = List.append (nthO l i) (pick l r) := by
  rw [nthO_get]
  unfold pick
  rw [List.filterMap_cons]
  cases l[i]? <;> rfl
end Go.Proofs.YtjklbbmgjjdalaaGreatDoor
namespace Go.Proofs.YtjklbbmgjjdalaaGreatDoor
open Go.RowKit Go.Joins
theorem setCells_block (b : Nat) (T : TypeId) (fr : Nat × Nat) : ∀ (vs X A : List Value) (w : World), X.length = vs.length → w.heap[b]? = some (.cells (A ++ X).toArray T fr) → (w.setCells b A.length vs).heap[b]? = some (.cells (A ++ vs).toArray T fr)
  | [], X, A, w, hl, h => by
    have : X = [] := List.eq_nil_of_length_eq_zero hl
    subst this
    exact h
  | v :: vs, X, A, w, hl, h => by
    cases X with
    | nil => cases hl
    | cons x X =>
      have h1 : (w.setCell ⟨b, A.length, none⟩ v).heap[b]? = some (.cells ((A ++ [v]) ++ X).toArray T fr) := by
        rw [block_setCell h v]
        congr 2
        apply Array.ext'
        simp
      have h2 := setCells_block b T fr vs X (A ++ [v]) _ (by simpa using hl) h1
      rw [List.length_append, List.append_assoc] at h2
      exact h2
theorem store_block {w : World} {b : Nat} {C : Array Value} {T : TypeId} {fr : Nat × Nat} (h : w.heap[b]? = some (.cells C T fr)) (vs : List Value) (hl : vs.length = C.size) : (w.setCells b 0 vs).heap[b]? = some (.cells vs.toArray T fr) := by
  have := setCells_block b T fr vs C.toList [] w (by simpa using hl.symm) (by simpa using h)
  simpa using this
theorem store_below {B b : Nat} {a : World} (hb : B ≤ b) : ∀ (vs : List Value) (o : Nat) (w : World), Below B a w → Below B a (w.setCells b o vs)
  | [], _, _, h => h
  | v :: vs, o, w, h => store_below hb vs (o + 1) _ (h.setCell (by show B ≤ b; exact hb) v)
theorem store_other {b c : Nat} (hne : c ≠ b) : ∀ (vs : List Value) (o : Nat) (w : World), (w.setCells b o vs).heap[c]? = w.heap[c]?
  | [], _, _ => rfl
  | v :: vs, o, w => (store_other hne vs (o + 1) _).trans (heap_setCell_other _ _ _ _ hne)
theorem block_there {w : World} {b : Nat} {C : Array Value} {T : TypeId} (h : w.heap[b]? = some (.cells C T (0, 0))) (n : Nat) (hn : n ≤ C.size) : w.there b 0 n := fun j hj => by
  rw [Nat.zero_add]
  refine ⟨?_, unfrozen_of_block h j⟩
  rw [cell_of_block h, Array.getElem?_eq_getElem (by omega)]
  rfl
theorem block_range {w : World} {b : Nat} {C : Array Value} {T : TypeId} {fr : Nat × Nat} (h : w.heap[b]? = some (.cells C T fr)) (cs : List Value) (hc : C = cs.toArray) : w.rangeAt b 0 cs := fun j v hv => by
  rw [Nat.zero_add, cell_of_block h, hc]
  simpa using hv
end Go.Proofs.YtjklbbmgjjdalaaGreatDoor
namespace Go.Proofs.YtjklbbmgjjdalaaGreatDoor
open Go.RowKit
theorem results_row_tmp {P : Program} {fn : Func} {p u : Tmp} {ty : TypeId} (h : fn.results = #[.cell p ty, .tmp u]) (tmps : Array Value) (w : World) (g : Nat) (t : TypeId) (cs : Array Value) (fr : Nat × Nat) (d : TypeDesc)
    (hp : tmps.getD p undef = .pointer (some ⟨g, 0, none⟩)) (hg : w.heap[g]? = some (.cells cs t fr))
    (hu : P.underlying ty = some d) (hd : (match d with | .struct _ | .array _ _ => true | _ => false) = true) (hi : (P.info? ty).map (·.size) = some cs.size) (y : Value) (hy : tmps.getD u undef = y) :
    (results fn tmps).run P w = .ok (.tuple #[.agg cs, y]) w := by
  have hp' : tmps[p]?.getD undef = .pointer (some ⟨g, 0, none⟩) := by simpa using hp
  have hy' : tmps[u]?.getD undef = y := by simpa using hy
  simp [results, h, hp', hy', asAddr, Sem.run_bind, Result.andThen, run_loadVar_row w g t ty cs fr d hg hu hd hi]
end Go.Proofs.YtjklbbmgjjdalaaGreatDoor
