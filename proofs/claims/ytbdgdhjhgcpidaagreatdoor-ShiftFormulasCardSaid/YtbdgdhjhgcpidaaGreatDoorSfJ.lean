/- A whole struct stored into a block that is known, or loaded out of it: laws for the walk. Results of which the first is a struct in memory. No function of the program. Blocks of a struct, and calls that change one block alone. No function of the program. Contracts of strings.Builder's WriteString, WriteByte and String at a builder of the call's own. -/
import Derived.Test.YtbdgdhjhgcpidaaGreatDoorBase
import Derived.Deep.MidRow
import Derived.Lib.SmallJoins
import Derived.Laws.ResultCell
import Derived.Laws.Rows
import Derived.Test.YtbdgdhjhgcpidaaGreatDoorSfC
import Derived.Test.YtbdgdhjhgcpidaaGreatDoorSfA
import Derived.Lib.Builder
import Derived.OwnWalk
import Derived.Laws.AppendOwnNone
import Derived.Laws.OwnMore
set_option linter.unusedSimpArgs false
set_option linter.unusedVariables false
namespace Go.Proofs.YtbdgdhjhgcpidaaGreatDoor
open Go.RowKit Go.Joins
theorem setCells_block (b : Nat) (T : TypeId) (fr : Nat × Nat) : ∀ (vs X A : List Value) (w : World), X.length = vs.length → w.heap[b]? = some (.cells (A ++ X).toArray T fr) → (w.setCells b A.length vs).heap[b]? = some (.cells (A ++ vs).toArray T fr)
  | [], X, A, w, hl, h => by
    have : X = [] := List.eq_nil_of_length_eq_zero hl
    subst this
    exact h
  | v :: vs, X, A, w, hl, h => by
    cases X with
    | nil => cases hl
    | cons x X =>
      have h1 : (w.setCell ⟨b, A.length, none⟩ v).heap[b]? = some (.cells ((A ++ [v]) ++ X).toArray T fr) := by
        rw [block_setCell h v]
        congr 2
        apply Array.ext'
        simp
      have h2 := setCells_block b T fr vs X (A ++ [v]) _ (by simpa using hl) h1
      rw [List.length_append, List.append_assoc] at h2
      exact h2
theorem store_block {w : World} {b : Nat} {C : Array Value} {T : TypeId} {fr : Nat × Nat} (h : w.heap[b]? = some (.cells C T fr)) (vs : List Value) (hl : vs.length = C.size) : (w.setCells b 0 vs).heap[b]? = some (.cells vs.toArray T fr) := by
  have := setCells_block b T fr vs C.toList [] w (by simpa using hl.symm) (by simpa using h)
  simpa using this
theorem store_below {B b : Nat} {a : World} (hb : B ≤ b) : ∀ (vs : List Value) (o : Nat) (w : World), Below B a w → Below B a (w.setCells b o vs)
  | [], _, _, h => h
  | v :: vs, o, w, h => store_below hb vs (o + 1) _ (h.setCell (by show B ≤ b; exact hb) v)
theorem store_other {b c : Nat} (hne : c ≠ b) : ∀ (vs : List Value) (o : Nat) (w : World), (w.setCells b o vs).heap[c]? = w.heap[c]?
  | [], _, _ => rfl
  | v :: vs, o, w => (store_other hne vs (o + 1) _).trans (heap_setCell_other _ _ _ _ hne)
theorem block_there {w : World} {b : Nat} {C : Array Value} {T : TypeId} (h : w.heap[b]? = some (.cells C T (0, 0))) (n : Nat) (hn : n ≤ C.size) : w.there b 0 n := fun j hj => by
  rw [Nat.zero_add]
  refine ⟨?_, unfrozen_of_block h j⟩
  rw [cell_of_block h, Array.getElem?_eq_getElem (by omega)]
  rfl
theorem block_range {w : World} {b : Nat} {C : Array Value} {T : TypeId} {fr : Nat × Nat} (h : w.heap[b]? = some (.cells C T fr)) (cs : List Value) (hc : C = cs.toArray) : w.rangeAt b 0 cs := fun j v hv => by
  rw [Nat.zero_add, cell_of_block h, hc]
  simpa using hv
end Go.Proofs.YtbdgdhjhgcpidaaGreatDoor
namespace Go.Proofs.YtbdgdhjhgcpidaaGreatDoor
open Go.RowKit
theorem results_row_tmp {P : Program} {fn : Func} {p u : Tmp} {ty : TypeId} (h : fn.results = #[.cell p ty, .tmp u]) (tmps : Array Value) (w : World) (g : Nat) (t : TypeId) (cs : Array Value) (fr : Nat × Nat) (d : TypeDesc)
    (hp : tmps.getD p undef = .pointer (some ⟨g, 0, none⟩)) (hg : w.heap[g]? = some (.cells cs t fr))
    (hu : P.underlying ty = some d) (hd : (match d with | .struct _ | .array _ _ => true | _ => false) = true) (hi : (P.info? ty).map (·.size) = some cs.size) (y : Value) (hy : tmps.getD u undef = y) :
    (results fn tmps).run P w = .ok (.tuple #[.agg cs, y]) w := by
  have hp' : tmps[p]?.getD undef = .pointer (some ⟨g, 0, none⟩) := by simpa using hp
  have hy' : tmps[u]?.getD undef = y := by simpa using hy
  simp [results, h, hp', hy', asAddr, Sem.run_bind, Result.andThen, run_loadVar_row w g t ty cs fr d hg hu hd hi]
end Go.Proofs.YtbdgdhjhgcpidaaGreatDoor
namespace Go.Proofs.YtbdgdhjhgcpidaaGreatDoor
open Go.RowKit Go.Joins
def BlkC (w : World) (b : Nat) (cs : Array Value) (t : TypeId) : Prop := w.heap[b]? = some (.cells cs t (0, 0))
theorem BlkC.below {w w' : World} {b : Nat} {cs : Array Value} {t : TypeId} (h : BlkC w b cs t) (hb : Below w.heap.size w w') : BlkC w' b cs t := (hb.block b (lt_some h)).trans h
theorem BlkC.alloc {w : World} {b : Nat} {cs : Array Value} {t : TypeId} (h : BlkC w b cs t) (o : Obj) : BlkC (w.alloc o) b cs t := (Lib.alloc_old w o b (lt_some h)).trans h
theorem BlkC.cell {w : World} {b : Nat} {cs : Array Value} {t : TypeId} (h : BlkC w b cs t) (j : Nat) (u : Value) (hj : cs[j]? = some u) : w.cell? ⟨b, j, none⟩ = some u := by rw [cell_of_block h]; exact hj
theorem BlkC.fz {w : World} {b : Nat} {cs : Array Value} {t : TypeId} (h : BlkC w b cs t) (j : Nat) : w.frozen? ⟨b, j, none⟩ = false := unfrozen_of_block h j
structure Off (b : Nat) (w w' : World) : Prop where
  os : w'.os = w.os
  tape : w'.tape = w.tape
  output : w'.output = w.output
  size : w.heap.size ≤ w'.heap.size
  block : ∀ k, k < w.heap.size → k ≠ b → w'.heap[k]? = w.heap[k]?
theorem Off.refl (b : Nat) (w : World) : Off b w w := ⟨rfl, rfl, rfl, Nat.le_refl _, fun _ _ _ => rfl⟩
theorem Off.trans {b : Nat} {w w1 w2 : World} (h : Off b w w1) (h' : Off b w1 w2) : Off b w w2 :=
  ⟨h'.os.trans h.os, h'.tape.trans h.tape, h'.output.trans h.output, Nat.le_trans h.size h'.size, fun k hk hn => (h'.block k (Nat.lt_of_lt_of_le hk h.size) hn).trans (h.block k hk hn)⟩
theorem Off.of_below {b : Nat} {w w' : World} (h : Below w.heap.size w w') : Off b w w' := ⟨h.os, h.tape, h.output, h.size, fun k hk _ => h.block k hk⟩
theorem Off.call {b : Nat} {w w1 w2 : World} (h : Off b w w1) (h' : Below w1.heap.size w1 w2) : Off b w w2 := h.trans (Off.of_below h')
theorem Off.set {b : Nat} {w w' : World} (h : Off b w w') (j : Nat) (u : Value) : Off b w (w'.setCell ⟨b, j, none⟩ u) :=
  h.trans ⟨rfl, rfl, rfl, by simp [World.setCell], fun k _ hn => Below.heap_setCell w' _ u k (fun e => hn e)⟩
theorem Off.drewN {b : Nat} {w w' : World} (h : Off b w w') (n : Nat) : Off b w (w'.drewN n) := ⟨h.os, h.tape, h.output, h.size, h.block⟩
theorem Off.alloc {b : Nat} {w w' : World} (h : Off b w w') (o : Obj) : Off b w (w'.alloc o) := h.call ((Below.refl _ _).alloc (Nat.le_refl _) o)
theorem Off.below {b : Nat} {w w' : World} (h : Off b w w') {B : Nat} (hb : B ≤ b) (hB : B ≤ w.heap.size) : Below B w w' :=
  ⟨h.os, h.tape, h.output, h.size, fun k hk => h.block k (by omega) (by omega)⟩
theorem Off.blk {b k : Nat} {w w' : World} (h : Off b w w') {o : Obj} (hk : k ≠ b) (hc : w.heap[k]? = some o) : w'.heap[k]? = some o := (h.block k (lt_some hc) hk).trans hc
theorem Off.set_new {b k : Nat} {w w' : World} (h : Off b w w') (hk : w.heap.size ≤ k) (j : Nat) (u : Value) : Off b w (w'.setCell ⟨k, j, none⟩ u) :=
  ⟨h.os, h.tape, h.output, by simpa [World.setCell] using h.size, fun c hc hn => (Below.heap_setCell w' ⟨k, j, none⟩ u c (by show c ≠ k; omega)).trans (h.block c hc hn)⟩
theorem Off.set_cells {b k : Nat} {w w' : World} (h : Off b w w') (hk : w.heap.size ≤ k) (j : Nat) (vs : List Value) : Off b w (w'.setCells k j vs) :=
  have hb := store_below (B := w.heap.size) (b := k) hk vs j w' (Below.refl _ _)
  ⟨hb.os.trans h.os, hb.tape.trans h.tape, hb.output.trans h.output, Nat.le_trans h.size hb.size, fun c hc hn => (hb.block c hc).trans (h.block c hc hn)⟩
structure KeptO (b : Nat) (w : World) where
  v : World
  h : Off b w v
instance (b : Nat) (w : World) : Nonempty (KeptO b w) := ⟨⟨w, Off.refl _ _⟩⟩
theorem Off.cell {b : Nat} {w w' : World} (h : Off b w w') {k o : Nat} {u : Value} (hk : k ≠ b) (hc : w.cell? ⟨k, o, none⟩ = some u) : w'.cell? ⟨k, o, none⟩ = some u := by
  rw [← hc]
  unfold World.cell?
  rw [h.block k (lt_of_cell hc) hk]
theorem KeptO.cell {b : Nat} {w : World} {k o : Nat} {u : Value} (hk : k ≠ b) (hc : w.cell? ⟨k, o, none⟩ = some u) : ∀ x : KeptO b w, x.v.cell? ⟨k, o, none⟩ = some u := fun x => x.h.cell hk hc
theorem keptO_drew (b : Nat) (w : World) : ∃ x : KeptO b w, w.drew = x.v := ⟨⟨w.drew, Off.of_below (Below.drew (Below.refl _ _))⟩, rfl⟩
end Go.Proofs.YtbdgdhjhgcpidaaGreatDoor
namespace Go.Proofs.YtbdgdhjhgcpidaaGreatDoor
open Go.RowKit
abbrev tBd : TypeId := 143
theorem info_bd : (Tryz.prog.info? 143).map (fun i => i.size) = some 2 := by kernel_rfl
theorem lies_bd : liesAt Tryz.prog Tryz.prog.depth 143 (2 / Tryz.prog.cellsOf 143) 0 143 1 = true := by kernel_rfl
theorem info_u8b : (Tryz.prog.info? 5).map (fun i => (i.zero, i.size, i.bytes)) = some (some (.int .u8 0), 1, 1) := by kernel_rfl
set_option maxHeartbeats 1000000 in
set_option maxRecDepth 100000 in
theorem copyCheck_used (b : Nat) (w : World) (h0 : w.cell? ⟨b, 0, none⟩ = some (.pointer (some ⟨b, 0, none⟩))) :
    Calls Tryz.prog 117 #[.pointer (some ⟨b, 0, none⟩)] w fun e w' => e = .returned (.tuple #[]) ∧ w' = w := by
  obtain ⟨j, hj, _⟩ := Option.map_eq_some_iff.1 info_bd
  go_enter Tryz.func117, Tryz.ntmps117
  go_wp2
  rw [Lib.run_neq_ptr_same w _ Tryz.underlying141 hj]
  go_wp2
  go_end0
  exact ⟨rfl, rfl⟩
set_option maxHeartbeats 1000000 in
set_option maxRecDepth 100000 in
theorem copyCheck_fresh (b : Nat) (w : World) (h0 : w.cell? ⟨b, 0, none⟩ = some (.pointer none)) (hsh : w.shape? b = some (tBd, 2)) (hfz : w.frozen? ⟨b, 0, none⟩ = false) :
    Calls Tryz.prog 117 #[.pointer (some ⟨b, 0, none⟩)] w fun e w' => e = .returned (.tuple #[]) ∧ w' = w.setCell ⟨b, 0, none⟩ (.pointer (some ⟨b, 0, none⟩)) := by
  obtain ⟨j, hj, hjs⟩ := Option.map_eq_some_iff.1 info_bd
  go_enter Tryz.func117, Tryz.ntmps117
  go_wp2
  rw [Lib.run_to_unsafe w ⟨b, 0, none⟩ Tryz.underlying141 Tryz.underlying188 hj (by rw [hjs]; decide) hsh (Nat.zero_lt_succ 1)]
  simp only [Result.andThen]
  rw [Oper.upon_value]
  go_wp2
  rw [run_callFunc_extern Tryz.func134 (by kernel_rfl) (by kernel_rfl) (by kernel_rfl) (e := Extern.AbiNoEscape.same) (by kernel_rfl)]
  rw [Lib.run_noEscape]
  simp only [Result.andThen]
  rw [Oper.upon_value]
  go_wp2
  rw [Lib.run_from_unsafe w ⟨b, 0, none⟩ Tryz.underlying188 Tryz.underlying141 hj hsh lies_bd]
  simp only [Result.andThen]
  rw [Oper.upon_value]
  go_wp2
  go_end0
  exact ⟨rfl, rfl⟩
theorem copyCheck_any (B b : Nat) (bs : List Value) (w : World) (h : Lib.IsBuilder tBd 5 B b bs w) :
    Calls Tryz.prog 117 #[.pointer (some ⟨b, 0, none⟩)] w fun e w' => e = .returned (.tuple #[]) ∧ Lib.BuilderAt tBd 5 B b (.pointer (some ⟨b, 0, none⟩)) bs w' ∧ Below B w w' := by
  rcases h with h | h
  · refine (copyCheck_fresh b w h.cell0 h.shape h.frozen0).mono ?_
    rintro e w' ⟨rfl, rfl⟩
    exact ⟨rfl, h.used _, (Below.refl B w).setCell (p := ⟨b, 0, none⟩) h.1 _⟩
  · refine (copyCheck_used b w h.cell0).mono ?_
    rintro e w' ⟨rfl, rfl⟩
    exact ⟨rfl, h, Below.refl B _⟩
set_option maxHeartbeats 2000000 in
set_option maxRecDepth 100000 in
theorem writeByte_any (B b : Nat) (bs : List Value) (c : Int) (w : World) (h : Lib.IsBuilder tBd 5 B b bs w) (hlen : bs.length ≤ 10000000) (hBw : B ≤ w.heap.size) :
    Calls Tryz.prog 108 #[.pointer (some ⟨b, 0, none⟩), .int .u8 c] w fun e w' => e = .returned .nilIface ∧ Lib.BuilderAt tBd 5 B b (.pointer (some ⟨b, 0, none⟩)) (bs ++ [.int .u8 c]) w' ∧ Below B w w' := by
  obtain ⟨i0, hi, hz0, hz1, hz2⟩ := info_parts info_u8b
  go_enter Tryz.func108, Tryz.ntmps108
  go_wp2_with (go_at_call 117; refine (copyCheck_any B b bs _ h).mono ?_)
  rintro e w1 ⟨rfl, h1, hb1⟩
  obtain ⟨hB, v, hbk, hown, hne⟩ := h1
  have c0 : w1.cell? ⟨b, 0, none⟩ = some (.pointer (some ⟨b, 0, none⟩)) := by rw [Lib.cell_of_heap hbk]; rfl
  have c1 : w1.cell? ⟨b, 1, none⟩ = some v := by rw [Lib.cell_of_heap hbk]; rfl
  go_wp2_with (at_builtin; refine wpList_append_own _ rfl _ _ 125 rfl B 5 i0 (.int .u8 0) 1 1 Tryz.underlying125 hi hz0 hz1 hz2 rfl (by decide) _ _ _ rfl (hown.alloc _) ⟨w1.heap.size, 0, none⟩ 1 1 [.int .u8 c] rfl rfl ?c1 ?c2 ?c3 ?c4 ?c5 ?_)
  case c1 =>
    intro j u hj
    match j, hj with
    | 0, hj => simp at hj; subst hj; simp [Addr.add]
  case c2 => intro u hu; simp at hu; subst hu; rfl
  case c3 => unfold maxLen; omega
  case c4 => omega
  case c5 => have := hb1.size; simp; omega
  intro v' w2 hown' hgrow _
  have hlt : b < w1.heap.size := by
    rcases Nat.lt_or_ge b w1.heap.size with h' | h'
    · exact h'
    · simp [Array.getElem?_eq_none h'] at hbk
  have hb2 : w2.heap[b]? = some (.cells #[.pointer (some ⟨b, 0, none⟩), v] tBd (0, 0)) := by
    rw [hgrow.block b (by simp; omega) (fun e => hne e.symm), Lib.alloc_old w1 _ b hlt]
    exact hbk
  have d0 : w2.cell? ⟨b, 0, none⟩ = some (.pointer (some ⟨b, 0, none⟩)) := by rw [Lib.cell_of_heap hb2]; rfl
  have d1 : w2.cell? ⟨b, 1, none⟩ = some v := by rw [Lib.cell_of_heap hb2]; rfl
  have f1 : w2.frozen? ⟨b, 1, none⟩ = false := Lib.frozen_of_heap hb2 1
  obtain ⟨g, cap, rfl⟩ : ∃ g cap, v' = .slice (some ⟨g, 0, none⟩) (bs.length + 1) cap := by
    rcases hown'.2 with ⟨_, h0⟩ | ⟨g, cap, cur, hv, _⟩
    · omega
    · exact ⟨g, cap, hv⟩
  go_wp2
  go_ret
  refine ⟨rfl, ?_, ?_⟩
  · exact Lib.BuilderAt.put (T := tBd) (e := 5) hB hb2 (bs' := bs ++ [.int .u8 c]) (by simpa using hown') (by decide)
  · exact ((hb1.alloc (by have := hb1.size; omega) _).grown hgrow (by have := hb1.size; simp; omega) (fun k hk => (hown.lt k hk).1)).setCell (p := ⟨b, 1, none⟩) hB _
theorem bd_fresh (B : Nat) (w : World) (hB : B ≤ w.heap.size) : Lib.IsBuilder tBd 5 B w.heap.size [] (w.alloc (.cells #[.pointer none, .slice none 0 0] tBd)) :=
  .inl ⟨hB, .slice none 0 0, heap_alloc_new w _, World.ownsRow_nil _ _ _ _, by intro h; cases h⟩
theorem bd_string (B b : Nat) (l : List UInt8) (w : World) (h : Lib.IsBuilder tBd 5 B b (Lib.byteCells l) w) (hBw : B ≤ w.heap.size) :
    Calls Tryz.prog 81 #[.pointer (some ⟨b, 0, none⟩)] w fun e w' => e = .returned (.string ⟨l.toArray⟩) ∧ Below B w w' := Tryz.Builder_String_any B b l w h hBw
end Go.Proofs.YtbdgdhjhgcpidaaGreatDoor
