/- Results of which the first is a struct in memory. No function of the program. Blocks of a struct, and calls that change one block alone. No function of the program. Contracts of strings.Builder's WriteString, WriteByte and String at a builder of the call's own. A region that draws its order, walked in one order of the prover's choice, with values made into interfaces among the reads (see Sched). No function of the program. -/
import Derived.Test.YtjklbbmgjjdalaaGreatDoorBase
import Derived.Laws.ResultCell
import Derived.Laws.Rows
import Derived.Test.YtjklbbmgjjdalaaGreatDoorBqB
import Derived.Test.YtjklbbmgjjdalaaGreatDoorBqA
import Derived.Lib.SmallJoins
import Derived.Test.YtjklbbmgjjdalaaGreatDoorShelf
import Derived.Lib.Builder
import Derived.OwnWalk
import Derived.Laws.AppendOwnNone
import Derived.Laws.OwnMore
import Derived.Test.YtjklbbmgjjdalaaGreatDoorBqD
set_option linter.unusedSimpArgs false
set_option linter.unusedVariables false
namespace Go.Proofs.YtjklbbmgjjdalaaGreatDoor
open Go.RowKit
theorem results_row_tmp {P : Program} {fn : Func} {p u : Tmp} {ty : TypeId} (h : fn.results = #[.cell p ty, .tmp u]) (tmps : Array Value) (w : World) (g : Nat) (t : TypeId) (cs : Array Value) (fr : Nat × Nat) (d : TypeDesc)
    (hp : tmps.getD p undef = .pointer (some ⟨g, 0, none⟩)) (hg : w.heap[g]? = some (.cells cs t fr))
    (hu : P.underlying ty = some d) (hd : (match d with | .struct _ | .array _ _ => true | _ => false) = true) (hi : (P.info? ty).map (·.size) = some cs.size) (y : Value) (hy : tmps.getD u undef = y) :
    (results fn tmps).run P w = .ok (.tuple #[.agg cs, y]) w := by
  have hp' : tmps[p]?.getD undef = .pointer (some ⟨g, 0, none⟩) := by simpa using hp
  have hy' : tmps[u]?.getD undef = y := by simpa using hy
  simp [results, h, hp', hy', asAddr, Sem.run_bind, Result.andThen, run_loadVar_row w g t ty cs fr d hg hu hd hi]
end Go.Proofs.YtjklbbmgjjdalaaGreatDoor
namespace Go.Proofs.YtjklbbmgjjdalaaGreatDoor
open Go.RowKit Go.Joins
def BlkC (w : World) (b : Nat) (cs : Array Value) (t : TypeId) : Prop := w.heap[b]? = some (.cells cs t (0, 0))
theorem BlkC.below {w w' : World} {b : Nat} {cs : Array Value} {t : TypeId} (h : BlkC w b cs t) (hb : Below w.heap.size w w') : BlkC w' b cs t := (hb.block b (lt_some h)).trans h
theorem BlkC.alloc {w : World} {b : Nat} {cs : Array Value} {t : TypeId} (h : BlkC w b cs t) (o : Obj) : BlkC (w.alloc o) b cs t := (Lib.alloc_old w o b (lt_some h)).trans h
theorem BlkC.cell {w : World} {b : Nat} {cs : Array Value} {t : TypeId} (h : BlkC w b cs t) (j : Nat) (u : Value) (hj : cs[j]? = some u) : w.cell? ⟨b, j, none⟩ = some u := by rw [cell_of_block h]; exact hj
theorem BlkC.fz {w : World} {b : Nat} {cs : Array Value} {t : TypeId} (h : BlkC w b cs t) (j : Nat) : w.frozen? ⟨b, j, none⟩ = false := unfrozen_of_block h j
theorem blk_new (w : World) (cs : Array Value) (t : TypeId) : BlkC (w.alloc (.cells cs t)) w.heap.size cs t := heap_alloc_new w _
structure Off (b : Nat) (w w' : World) : Prop where
  os : w'.os = w.os
  tape : w'.tape = w.tape
  output : w'.output = w.output
  size : w.heap.size ≤ w'.heap.size
  block : ∀ k, k < w.heap.size → k ≠ b → w'.heap[k]? = w.heap[k]?
theorem Off.refl (b : Nat) (w : World) : Off b w w := ⟨rfl, rfl, rfl, Nat.le_refl _, fun _ _ _ => rfl⟩
theorem Off.trans {b : Nat} {w w1 w2 : World} (h : Off b w w1) (h' : Off b w1 w2) : Off b w w2 :=
  ⟨h'.os.trans h.os, h'.tape.trans h.tape, h'.output.trans h.output, Nat.le_trans h.size h'.size, fun k hk hn => (h'.block k (Nat.lt_of_lt_of_le hk h.size) hn).trans (h.block k hk hn)⟩
theorem Off.of_below {b : Nat} {w w' : World} (h : Below w.heap.size w w') : Off b w w' := ⟨h.os, h.tape, h.output, h.size, fun k hk _ => h.block k hk⟩
theorem Off.call {b : Nat} {w w1 w2 : World} (h : Off b w w1) (h' : Below w1.heap.size w1 w2) : Off b w w2 := h.trans (Off.of_below h')
theorem Off.set {b : Nat} {w w' : World} (h : Off b w w') (j : Nat) (u : Value) : Off b w (w'.setCell ⟨b, j, none⟩ u) :=
  h.trans ⟨rfl, rfl, rfl, by simp [World.setCell], fun k _ hn => Below.heap_setCell w' _ u k (fun e => hn e)⟩
theorem Off.drewN {b : Nat} {w w' : World} (h : Off b w w') (n : Nat) : Off b w (w'.drewN n) := ⟨h.os, h.tape, h.output, h.size, h.block⟩
theorem Off.alloc {b : Nat} {w w' : World} (h : Off b w w') (o : Obj) : Off b w (w'.alloc o) := h.call ((Below.refl _ _).alloc (Nat.le_refl _) o)
theorem Off.below {b : Nat} {w w' : World} (h : Off b w w') {B : Nat} (hb : B ≤ b) (hB : B ≤ w.heap.size) : Below B w w' :=
  ⟨h.os, h.tape, h.output, h.size, fun k hk => h.block k (by omega) (by omega)⟩
theorem Off.blk {b k : Nat} {w w' : World} (h : Off b w w') {o : Obj} (hk : k ≠ b) (hc : w.heap[k]? = some o) : w'.heap[k]? = some o := (h.block k (lt_some hc) hk).trans hc
theorem Off.set_new {b k : Nat} {w w' : World} (h : Off b w w') (hk : w.heap.size ≤ k) (j : Nat) (u : Value) : Off b w (w'.setCell ⟨k, j, none⟩ u) :=
  ⟨h.os, h.tape, h.output, by simpa [World.setCell] using h.size, fun c hc hn => (Below.heap_setCell w' ⟨k, j, none⟩ u c (by show c ≠ k; omega)).trans (h.block c hc hn)⟩
theorem Off.set_cells {b k : Nat} {w w' : World} (h : Off b w w') (hk : w.heap.size ≤ k) (j : Nat) (vs : List Value) : Off b w (w'.setCells k j vs) :=
  have hb := store_below (B := w.heap.size) (b := k) hk vs j w' (Below.refl _ _)
  ⟨hb.os.trans h.os, hb.tape.trans h.tape, hb.output.trans h.output, Nat.le_trans h.size hb.size, fun c hc hn => (hb.block c hc).trans (h.block c hc hn)⟩
structure KeptO (b : Nat) (w : World) where
  v : World
  h : Off b w v
instance (b : Nat) (w : World) : Nonempty (KeptO b w) := ⟨⟨w, Off.refl _ _⟩⟩
theorem Off.cell {b : Nat} {w w' : World} (h : Off b w w') {k o : Nat} {u : Value} (hk : k ≠ b) (hc : w.cell? ⟨k, o, none⟩ = some u) : w'.cell? ⟨k, o, none⟩ = some u := by
  rw [← hc]
  unfold World.cell?
  rw [h.block k (lt_of_cell hc) hk]
theorem KeptO.cell {b : Nat} {w : World} {k o : Nat} {u : Value} (hk : k ≠ b) (hc : w.cell? ⟨k, o, none⟩ = some u) : ∀ x : KeptO b w, x.v.cell? ⟨k, o, none⟩ = some u := fun x => x.h.cell hk hc
theorem keptO_drew (b : Nat) (w : World) : ∃ x : KeptO b w, w.drew = x.v := ⟨⟨w.drew, Off.of_below (Below.drew (Below.refl _ _))⟩, rfl⟩
end Go.Proofs.YtjklbbmgjjdalaaGreatDoor
namespace Go.Proofs.YtjklbbmgjjdalaaGreatDoor
open Go.RowKit
abbrev tBd : TypeId := 145
theorem info_bd : (Tryz.prog.info? 145).map (fun i => i.size) = some 2 := by kernel_rfl
theorem lies_bd : liesAt Tryz.prog Tryz.prog.depth 145 (2 / Tryz.prog.cellsOf 145) 0 145 1 = true := by kernel_rfl
theorem info_u8b : (Tryz.prog.info? 5).map (fun i => (i.zero, i.size, i.bytes)) = some (some (.int .u8 0), 1, 1) := by kernel_rfl
set_option maxHeartbeats 1000000 in
set_option maxRecDepth 100000 in
theorem copyCheck_used (b : Nat) (w : World) (h0 : w.cell? ⟨b, 0, none⟩ = some (.pointer (some ⟨b, 0, none⟩))) :
    Calls Tryz.prog 115 #[.pointer (some ⟨b, 0, none⟩)] w fun e w' => e = .returned (.tuple #[]) ∧ w' = w := by
  obtain ⟨j, hj, _⟩ := Option.map_eq_some_iff.1 info_bd
  go_enter Tryz.func115, Tryz.ntmps115
  go_wp2
  rw [Lib.run_neq_ptr_same w _ Tryz.underlying143 hj]
  go_wp2
  go_end0
  exact ⟨rfl, rfl⟩
set_option maxHeartbeats 1000000 in
set_option maxRecDepth 100000 in
theorem copyCheck_fresh (b : Nat) (w : World) (h0 : w.cell? ⟨b, 0, none⟩ = some (.pointer none)) (hsh : w.shape? b = some (tBd, 2)) (hfz : w.frozen? ⟨b, 0, none⟩ = false) :
    Calls Tryz.prog 115 #[.pointer (some ⟨b, 0, none⟩)] w fun e w' => e = .returned (.tuple #[]) ∧ w' = w.setCell ⟨b, 0, none⟩ (.pointer (some ⟨b, 0, none⟩)) := by
  obtain ⟨j, hj, hjs⟩ := Option.map_eq_some_iff.1 info_bd
  go_enter Tryz.func115, Tryz.ntmps115
  go_wp2
  rw [Lib.run_to_unsafe w ⟨b, 0, none⟩ Tryz.underlying143 Tryz.underlying192 hj (by rw [hjs]; decide) hsh (Nat.zero_lt_succ 1)]
  simp only [Result.andThen]
  rw [Oper.upon_value]
  go_wp2
  rw [run_callFunc_extern Tryz.func125 (by kernel_rfl) (by kernel_rfl) (by kernel_rfl) (e := Extern.AbiNoEscape.same) (by kernel_rfl)]
  rw [Lib.run_noEscape]
  simp only [Result.andThen]
  rw [Oper.upon_value]
  go_wp2
  rw [Lib.run_from_unsafe w ⟨b, 0, none⟩ Tryz.underlying192 Tryz.underlying143 hj hsh lies_bd]
  simp only [Result.andThen]
  rw [Oper.upon_value]
  go_wp2
  go_end0
  exact ⟨rfl, rfl⟩
theorem copyCheck_any (B b : Nat) (bs : List Value) (w : World) (h : Lib.IsBuilder tBd 5 B b bs w) :
    Calls Tryz.prog 115 #[.pointer (some ⟨b, 0, none⟩)] w fun e w' => e = .returned (.tuple #[]) ∧ Lib.BuilderAt tBd 5 B b (.pointer (some ⟨b, 0, none⟩)) bs w' ∧ Below B w w' := by
  rcases h with h | h
  · refine (copyCheck_fresh b w h.cell0 h.shape h.frozen0).mono ?_
    rintro e w' ⟨rfl, rfl⟩
    exact ⟨rfl, h.used _, (Below.refl B w).setCell (p := ⟨b, 0, none⟩) h.1 _⟩
  · refine (copyCheck_used b w h.cell0).mono ?_
    rintro e w' ⟨rfl, rfl⟩
    exact ⟨rfl, h, Below.refl B _⟩
set_option maxHeartbeats 2000000 in
set_option maxRecDepth 100000 in
theorem writeString_any (B b : Nat) (bs : List Value) (s : ByteArray) (w : World) (h : Lib.IsBuilder tBd 5 B b bs w) (hlen : bs.length + s.size ≤ 10000000) (hBw : B ≤ w.heap.size) :
    Calls Tryz.prog 97 #[.pointer (some ⟨b, 0, none⟩), .string s] w fun e w' => e = .returned (.tuple #[.int .i64 s.size, .nilIface]) ∧ Lib.BuilderAt tBd 5 B b (.pointer (some ⟨b, 0, none⟩)) (bs ++ Lib.strCells s) w' ∧ Below B w w' := by
  obtain ⟨i0, hi, hz0, hz1, hz2⟩ := info_parts info_u8b
  go_enter Tryz.func97, Tryz.ntmps97
  go_wp2_with (go_at_call 115; refine (copyCheck_any B b bs _ h).mono ?_)
  rintro e w1 ⟨rfl, h1, hb1⟩
  obtain ⟨hB, v, hbk, hown, hne⟩ := h1
  have c0 : w1.cell? ⟨b, 0, none⟩ = some (.pointer (some ⟨b, 0, none⟩)) := by rw [Lib.cell_of_heap hbk]; rfl
  have c1 : w1.cell? ⟨b, 1, none⟩ = some v := by rw [Lib.cell_of_heap hbk]; rfl
  go_wp2_with (at_builtin; refine Lib.wpList_append_own_string _ rfl _ _ 65 9 rfl B 5 i0 Tryz.underlying65 Tryz.underlying9 hi hz0 hz1 hz2 _ _ _ rfl hown s rfl ?c3 ?c4 ?c5 ?_)
  case c3 => unfold maxLen; omega
  case c4 => omega
  case c5 => have := hb1.size; omega
  intro v' w2 hown' hgrow _
  have hlt : b < w1.heap.size := by
    rcases Nat.lt_or_ge b w1.heap.size with h' | h'
    · exact h'
    · simp [Array.getElem?_eq_none h'] at hbk
  have hb2 : w2.heap[b]? = some (.cells #[.pointer (some ⟨b, 0, none⟩), v] tBd (0, 0)) := by
    rw [hgrow.block b hlt (fun e => hne e.symm)]
    exact hbk
  have d0 : w2.cell? ⟨b, 0, none⟩ = some (.pointer (some ⟨b, 0, none⟩)) := by rw [Lib.cell_of_heap hb2]; rfl
  have d1 : w2.cell? ⟨b, 1, none⟩ = some v := by rw [Lib.cell_of_heap hb2]; rfl
  have f1 : w2.frozen? ⟨b, 1, none⟩ = false := Lib.frozen_of_heap hb2 1
  obtain ⟨ao, n', cap, rfl⟩ : ∃ ao n' cap, v' = .slice ao n' cap := by
    rcases hown'.2 with ⟨hv, _⟩ | ⟨g, cap, cur, hv, _⟩
    · exact ⟨_, _, _, hv⟩
    · exact ⟨_, _, _, hv⟩
  go_wp2
  go_ret2
  refine ⟨rfl, ?_, ?_⟩
  · exact Lib.BuilderAt.put (T := tBd) (e := 5) hB hb2 (bs' := bs ++ Lib.strCells s) (by simpa [Lib.strCells_length] using hown') (by decide)
  · exact (hb1.grown hgrow (by have := hb1.size; omega) (fun k hk => (hown.lt k hk).1)).setCell (p := ⟨b, 1, none⟩) hB _
theorem write_at (B b : Nat) (l : List UInt8) (s : ByteArray) (w : World) (h : Lib.IsBuilder tBd 5 B b (Lib.byteCells l) w) (hlen : l.length + s.size ≤ 10000000) (hBw : B ≤ w.heap.size) :
    Calls Tryz.prog 97 #[.pointer (some ⟨b, 0, none⟩), .string s] w fun e w' => e = .returned (.tuple #[.int .i64 s.size, .nilIface]) ∧ Lib.IsBuilder tBd 5 B b (Lib.byteCells (l ++ s.data.toList)) w' ∧ Below B w w' :=
  (writeString_any B b _ s w h (by simpa [Lib.byteCells] using hlen) hBw).mono fun e w' ⟨h1, h2, h3⟩ => ⟨h1, .inr (by
    have e : Lib.byteCells (l ++ s.data.toList) = Lib.byteCells l ++ Lib.strCells s := by simp [Lib.byteCells, Lib.strCells]
    rw [e]; exact h2), h3⟩
theorem bd_fresh (B : Nat) (w : World) (hB : B ≤ w.heap.size) : Lib.IsBuilder tBd 5 B w.heap.size [] (w.alloc (.cells #[.pointer none, .slice none 0 0] tBd)) :=
  .inl ⟨hB, .slice none 0 0, heap_alloc_new w _, World.ownsRow_nil _ _ _ _, by intro h; cases h⟩
theorem bd_string (B b : Nat) (l : List UInt8) (w : World) (h : Lib.IsBuilder tBd 5 B b (Lib.byteCells l) w) (hBw : B ≤ w.heap.size) :
    Calls Tryz.prog 74 #[.pointer (some ⟨b, 0, none⟩)] w fun e w' => e = .returned (.string ⟨l.toArray⟩) ∧ Below B w w' := Tryz.Builder_String_any B b l w h hBw
end Go.Proofs.YtjklbbmgjjdalaaGreatDoor
namespace Go.Proofs.YtjklbbmgjjdalaaGreatDoor.Si
open Go.RowKit
def readB (o : Oper) : Bool := match o.op with
  | .move _ | .assign _ | .pick _ _ _ | .load _ _ | .binOp _ _ _ _ _ | .unOp _ _ _ | .convert _ _ _ | .fieldAddr _ _ _ | .field _ _ _ | .indexAddr _ _ _ | .index _ _ _ | .extract _ _ | .build _ _ | .makeInterface _ _ => true
  | _ => false
theorem read_value {P : Program} {o : Oper} {e : Operand → Value} {w w' : World} {n : Next} (h : readB o = true) (hr : (execOp e o).run P w = .ok n w') : ∃ v, n = .value v := by
  unfold readB at h
  unfold execOp at hr
  cases hop : o.op <;> rw [hop] at h hr <;> simp only [Bool.false_eq_true] at h
  all_goals first
    | exact val_bind (f := id) hr
    | exact val_bind (f := fun b => if b = true then _ else _) hr
    | (simp at hr; exact ⟨_, hr.1.symm⟩)
    | (simp only [Sem.run_pure] at hr; injection hr with h1 h2; exact ⟨_, h1.symm⟩)
section
variable {P : Program} {ops : Array Oper} {md : Region.Mode} {S : World → Prop} {QQ : Act → World → Prop}
theorem read_yields {o : Oper} {a : Act} {K : Act → Prop} (hrd : readB o = true) (hw : Region.wanted o (yielded ops a.tmps) = true) (hS : ∃ w, S w) (h : o.quiet P a S K) : ∃ v, YieldsIf P ops S o v a ∧ K (a.put o.dst v) := by
  obtain ⟨v, h1, h2⟩ := h
  refine ⟨v, .inl ⟨hw, fun w hw' => ?_⟩, h2⟩
  have h3 := h1 w hw'
  unfold Oper.quietAt at h3
  cases hr : (execOp a.eval o).run P w with
  | ok n w1 =>
    rw [hr] at h3
    obtain ⟨u, rfl⟩ := read_value hrd hr
    obtain ⟨rfl, rfl⟩ := h3
    rfl
  | _ => rw [hr] at h3; exact h3.elim
theorem take_read {i : Nat} {o : Oper} {fuel : Nat} {listed : Array Bool} {a : Act} {w : World} {rest : List Oper} {K : Act → Prop} (hi : ops[i]? = some o) (hns : Region.noSelect ops = true) (hrd : readB o = true)
    (hf : Region.free md ops listed i = true) (hr : (Region.ready md ops listed).contains i = true) (hS : S w) (h : wpQuiet P ops S K (o :: rest) a)
    (hK : ∀ a', wpQuiet P ops S K rest a' → wpAnyH P md ops (OnlyOn QQ) S fuel (listed.setIfInBounds i true) a' w) : wpAnyH P md ops (OnlyOn QQ) S (fuel + 1) listed a w := by
  have key : ∃ v, YieldsIf P ops S o v a ∧ wpQuiet P ops S K rest (a.put o.dst v) := by
    unfold wpQuiet at h
    by_cases hw : Region.wanted o (yielded ops a.tmps) = true
    · rw [if_pos hw] at h
      exact read_yields hrd hw ⟨w, hS⟩ h
    · rw [if_neg hw] at h
      exact ⟨undef, .inr ⟨by simpa using hw, rfl⟩, h⟩
  obtain ⟨v, hy, hk⟩ := key
  exact wpAnyH_first hi (Region.noSelect_spec hns) (fun c a w h => by cases h.1) fuel listed a w (Region.free_spec hi hf) (by simpa using hr) hy hS (hK _ hk)
end
def readsOK (md : Region.Mode) (ops : Array Oper) : List Nat → Array Bool → Bool
  | [], _ => true
  | i :: r, listed => (match ops[i]? with | some o => readB o | none => false) && (Region.free md ops listed i && ((Region.ready md ops listed).contains i && readsOK md ops r (listed.setIfInBounds i true)))
def segsOK (md : Region.Mode) (ops : Array Oper) : List (List Nat × Nat) → List Nat → Array Bool → Bool
  | [], last, listed => readsOK md ops last listed && (Region.ready md ops (marked listed last)).isEmpty
  | (rs, k) :: more, last, listed => readsOK md ops rs listed && ((ops[k]?).isSome && (Region.ready md ops (marked listed rs) == [k] && segsOK md ops more last ((marked listed rs).setIfInBounds k true)))
section
variable {P : Program} {l : List Oper} {md : Region.Mode} {S : World → Prop} {QQ : Act → World → Prop}
theorem reads_go {K : Act → Prop} {fuel : Nat} {w : World} (hns : Region.noSelect l.toArray = true) (hS : S w) : ∀ (rs : List Nat) (listed : Array Bool) (a : Act), readsOK md l.toArray rs listed = true →
    wpQuiet P l.toArray S K (pick l rs) a → (∀ a', K a' → wpAnyH P md l.toArray (OnlyOn QQ) S fuel (marked listed rs) a' w) → wpAnyH P md l.toArray (OnlyOn QQ) S (rs.length + fuel) listed a w
  | [], listed, a, _, h, hK => by
    rw [List.length_nil, Nat.zero_add]
    exact hK a h
  | i :: r, listed, a, hB, h, hK => by
    unfold readsOK at hB
    simp only [Bool.and_eq_true] at hB
    obtain ⟨h1, h2, h3, h4⟩ := hB
    cases ho : l.toArray[i]? with
    | none => rw [ho] at h1; cases h1
    | some o =>
      rw [ho] at h1
      have hl : l[i]? = some o := by simpa using ho
      have hp : pick l (i :: r) = o :: pick l r := by unfold pick; rw [List.filterMap_cons, hl]
      rw [hp] at h
      rw [List.length_cons, Nat.add_right_comm]
      exact take_read ho hns h1 h2 h3 hS h (fun a' h' => reads_go hns hS r _ a' h4 h' hK)
theorem segs_go (hns : Region.noSelect l.toArray = true) : ∀ (sch : List (List Nat × Nat)) (last : List Nat) (listed : Array Bool) (a : Act) (w : World), S w → segsOK md l.toArray sch last listed = true →
    wpSeg P l S QQ sch last a w → wpAnyH P md l.toArray (OnlyOn QQ) S (segCount sch last) listed a w
  | [], last, listed, a, w, hS, hB, h => by
    unfold segsOK at hB
    simp only [Bool.and_eq_true] at hB
    obtain ⟨h1, h2⟩ := hB
    unfold wpSeg at h
    unfold segCount
    rw [← Nat.add_zero last.length]
    exact reads_go (fuel := 0) hns hS last listed a h1 h (fun a' h' => ⟨by simpa using h2, rfl, h'⟩)
  | (rs, k) :: more, last, listed, a, w, hS, hB, h => by
    unfold segsOK at hB
    simp only [Bool.and_eq_true] at hB
    obtain ⟨h1, h2, h3, h4⟩ := hB
    obtain ⟨o, ho⟩ := Option.isSome_iff_exists.1 h2
    have hl : l[k]? = some o := by simpa using ho
    have hp : pick l [k] = [o] := by unfold pick; rw [List.filterMap_cons, hl]; rfl
    unfold wpSeg at h
    unfold segCount
    refine reads_go hns hS rs listed a h1 h (fun a' h' => ?_)
    rw [hp] at h'
    exact take_loud ho (by simpa using h3) h' (fun a'' w'' hS' hk => segs_go hns more last _ a'' w'' hS' h4 hk)
theorem wp_region_sched {id : Nat} {Q : Exit → Act → World → Prop} {a : Act} {w : World} (S : World → Prop) (sch : List (List Nat × Nat)) (last : List Nat) (hm : P.follows .mixedOrders = true) (hns : Region.noSelect l.toArray = true)
    (hB : segsOK .any l.toArray sch last (Array.replicate l.toArray.size false) = true) (hc : segCount sch last = l.toArray.size) (hS : S w.drew)
    (h : wpSeg P l S (Q .normal) sch last a w.drew) : (Code.region id l.toArray true).wp P Q a w := by
  have h1 := segs_go (md := .any) hns sch last _ a w.drew hS hB h
  rw [hc] at h1
  have h2 := wpAny_of_held _ _ _ _ h1
  refine Code.wp_mono (fun e a' w' h' => ?_) (wp_region_any hm h2)
  obtain ⟨rfl, h'⟩ := h'
  exact h'
end
end Go.Proofs.YtjklbbmgjjdalaaGreatDoor.Si
