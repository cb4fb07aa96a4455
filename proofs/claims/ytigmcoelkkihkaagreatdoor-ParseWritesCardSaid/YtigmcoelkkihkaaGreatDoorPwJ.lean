/- Results of which the first is a struct in memory. No function of the program. Blocks of a struct, and calls that change one block alone. No function of the program. Names of cells: stamp.Decimal, a1's Right, Col, Text, the document's Col, Right, Text, and both Names. Tokens of printed trees: plain part: a text of tokens is cut into them. -/
import Derived.Test.YtigmcoelkkihkaaGreatDoorBase
import Derived.Laws.ResultCell
import Derived.Laws.Rows
import Derived.Test.YtigmcoelkkihkaaGreatDoorPwB
import Derived.Test.YtigmcoelkkihkaaGreatDoorPwI
import Derived.Lib.SmallJoins
import Derived.Test.YtigmcoelkkihkaaGreatDoorPwD
import Derived.Lib.QuietBelow
import Derived.Test.YtigmcoelkkihkaaGreatDoorPwA
set_option linter.unusedSimpArgs false
set_option linter.unusedVariables false
namespace Go.Proofs.YtigmcoelkkihkaaGreatDoor
open Go.RowKit

theorem results_row_tmp {P : Program} {fn : Func} {p u : Tmp} {ty : TypeId} (h : fn.results = #[.cell p ty, .tmp u]) (tmps : Array Value) (w : World) (g : Nat) (t : TypeId) (cs : Array Value) (fr : Nat × Nat) (d : TypeDesc)
    (hp : tmps.getD p undef = .pointer (some ⟨g, 0, none⟩)) (hg : w.heap[g]? = some (.cells cs t fr))
    (hu : P.underlying ty = some d) (hd : (match d with | .struct _ | .array _ _ => true | _ => false) = true) (hi : (P.info? ty).map (·.size) = some cs.size) (y : Value) (hy : tmps.getD u undef = y) :
    (results fn tmps).run P w = .ok (.tuple #[.agg cs, y]) w := by
  have hp' : tmps[p]?.getD undef = .pointer (some ⟨g, 0, none⟩) := by simpa using hp
  have hy' : tmps[u]?.getD undef = y := by simpa using hy
  simp [results, h, hp', hy', asAddr, Sem.run_bind, Result.andThen, run_loadVar_row w g t ty cs fr d hg hu hd hi]
theorem results_row_tmp2 {P : Program} {fn : Func} {p u v : Tmp} {ty : TypeId} (h : fn.results = #[.cell p ty, .tmp u, .tmp v]) (tmps : Array Value) (w : World) (g : Nat) (t : TypeId) (cs : Array Value) (fr : Nat × Nat) (d : TypeDesc)
    (hp : tmps.getD p undef = .pointer (some ⟨g, 0, none⟩)) (hg : w.heap[g]? = some (.cells cs t fr))
    (hu : P.underlying ty = some d) (hd : (match d with | .struct _ | .array _ _ => true | _ => false) = true) (hi : (P.info? ty).map (·.size) = some cs.size) (y z : Value) (hy : tmps.getD u undef = y) (hz : tmps.getD v undef = z) :
    (results fn tmps).run P w = .ok (.tuple #[.agg cs, y, z]) w := by
  have hp' : tmps[p]?.getD undef = .pointer (some ⟨g, 0, none⟩) := by simpa using hp
  have hy' : tmps[u]?.getD undef = y := by simpa using hy
  have hz' : tmps[v]?.getD undef = z := by simpa using hz
  simp [results, h, hp', hy', hz', asAddr, Sem.run_bind, Result.andThen, run_loadVar_row w g t ty cs fr d hg hu hd hi]
theorem results_tmp_row {P : Program} {fn : Func} {p u : Tmp} {ty : TypeId} (h : fn.results = #[.tmp u, .cell p ty]) (tmps : Array Value) (w : World) (g : Nat) (t : TypeId) (cs : Array Value) (fr : Nat × Nat) (d : TypeDesc)
    (hp : tmps.getD p undef = .pointer (some ⟨g, 0, none⟩)) (hg : w.heap[g]? = some (.cells cs t fr))
    (hu : P.underlying ty = some d) (hd : (match d with | .struct _ | .array _ _ => true | _ => false) = true) (hi : (P.info? ty).map (·.size) = some cs.size) (y : Value) (hy : tmps.getD u undef = y) :
    (results fn tmps).run P w = .ok (.tuple #[y, .agg cs]) w := by
  have hp' : tmps[p]?.getD undef = .pointer (some ⟨g, 0, none⟩) := by simpa using hp
  have hy' : tmps[u]?.getD undef = y := by simpa using hy
  simp [results, h, hp', hy', asAddr, Sem.run_bind, Result.andThen, run_loadVar_row w g t ty cs fr d hg hu hd hi]
end Go.Proofs.YtigmcoelkkihkaaGreatDoor
namespace Go.Proofs.YtigmcoelkkihkaaGreatDoor
open Go.RowKit Go.Joins

def BlkC (w : World) (b : Nat) (cs : Array Value) (t : TypeId) : Prop := w.heap[b]? = some (.cells cs t (0, 0))
theorem BlkC.below {w w' : World} {b : Nat} {cs : Array Value} {t : TypeId} (h : BlkC w b cs t) (hb : Below w.heap.size w w') : BlkC w' b cs t := (hb.block b (lt_some h)).trans h
theorem BlkC.alloc {w : World} {b : Nat} {cs : Array Value} {t : TypeId} (h : BlkC w b cs t) (o : Obj) : BlkC (w.alloc o) b cs t := (Lib.alloc_old w o b (lt_some h)).trans h
theorem BlkC.cell {w : World} {b : Nat} {cs : Array Value} {t : TypeId} (h : BlkC w b cs t) (j : Nat) (u : Value) (hj : cs[j]? = some u) : w.cell? ⟨b, j, none⟩ = some u := by rw [cell_of_block h]; exact hj
theorem BlkC.fz {w : World} {b : Nat} {cs : Array Value} {t : TypeId} (h : BlkC w b cs t) (j : Nat) : w.frozen? ⟨b, j, none⟩ = false := unfrozen_of_block h j
theorem blk_new (w : World) (cs : Array Value) (t : TypeId) : BlkC (w.alloc (.cells cs t)) w.heap.size cs t := heap_alloc_new w _
/-- Block b alone, and new ones, may change. -/
structure Off (b : Nat) (w w' : World) : Prop where
  os : w'.os = w.os
  tape : w'.tape = w.tape
  output : w'.output = w.output
  size : w.heap.size ≤ w'.heap.size
  block : ∀ k, k < w.heap.size → k ≠ b → w'.heap[k]? = w.heap[k]?
theorem Off.refl (b : Nat) (w : World) : Off b w w := ⟨rfl, rfl, rfl, Nat.le_refl _, fun _ _ _ => rfl⟩
theorem Off.trans {b : Nat} {w w1 w2 : World} (h : Off b w w1) (h' : Off b w1 w2) : Off b w w2 :=
  ⟨h'.os.trans h.os, h'.tape.trans h.tape, h'.output.trans h.output, Nat.le_trans h.size h'.size, fun k hk hn => (h'.block k (Nat.lt_of_lt_of_le hk h.size) hn).trans (h.block k hk hn)⟩
theorem Off.of_below {b : Nat} {w w' : World} (h : Below w.heap.size w w') : Off b w w' := ⟨h.os, h.tape, h.output, h.size, fun k hk _ => h.block k hk⟩
theorem Off.call {b : Nat} {w w1 w2 : World} (h : Off b w w1) (h' : Below w1.heap.size w1 w2) : Off b w w2 := h.trans (Off.of_below h')
theorem Off.set {b : Nat} {w w' : World} (h : Off b w w') (j : Nat) (u : Value) : Off b w (w'.setCell ⟨b, j, none⟩ u) :=
  h.trans ⟨rfl, rfl, rfl, by simp [World.setCell], fun k _ hn => Below.heap_setCell w' _ u k (fun e => hn e)⟩
theorem Off.drewN {b : Nat} {w w' : World} (h : Off b w w') (n : Nat) : Off b w (w'.drewN n) := ⟨h.os, h.tape, h.output, h.size, h.block⟩
theorem Off.alloc {b : Nat} {w w' : World} (h : Off b w w') (o : Obj) : Off b w (w'.alloc o) := h.call ((Below.refl _ _).alloc (Nat.le_refl _) o)
theorem Off.below {b : Nat} {w w' : World} (h : Off b w w') {B : Nat} (hb : B ≤ b) (hB : B ≤ w.heap.size) : Below B w w' :=
  ⟨h.os, h.tape, h.output, h.size, fun k hk => h.block k (by omega) (by omega)⟩
theorem Off.blk {b k : Nat} {w w' : World} (h : Off b w w') {o : Obj} (hk : k ≠ b) (hc : w.heap[k]? = some o) : w'.heap[k]? = some o := (h.block k (lt_some hc) hk).trans hc
theorem Off.set_new {b k : Nat} {w w' : World} (h : Off b w w') (hk : w.heap.size ≤ k) (j : Nat) (u : Value) : Off b w (w'.setCell ⟨k, j, none⟩ u) :=
  ⟨h.os, h.tape, h.output, by simpa [World.setCell] using h.size, fun c hc hn => (Below.heap_setCell w' ⟨k, j, none⟩ u c (by show c ≠ k; omega)).trans (h.block c hc hn)⟩
theorem Off.set_cells {b k : Nat} {w w' : World} (h : Off b w w') (hk : w.heap.size ≤ k) (j : Nat) (vs : List Value) : Off b w (w'.setCells k j vs) :=
  have hb := store_below (B := w.heap.size) (b := k) hk vs j w' (Below.refl _ _)
  ⟨hb.os.trans h.os, hb.tape.trans h.tape, hb.output.trans h.output, Nat.le_trans h.size hb.size, fun c hc hn => (hb.block c hc).trans (h.block c hc hn)⟩
/-- The worlds in which the blocks but one are as they were, as a type. -/
structure KeptO (b : Nat) (w : World) where
  v : World
  h : Off b w v
instance (b : Nat) (w : World) : Nonempty (KeptO b w) := ⟨⟨w, Off.refl _ _⟩⟩
theorem Off.cell {b : Nat} {w w' : World} (h : Off b w w') {k o : Nat} {u : Value} (hk : k ≠ b) (hc : w.cell? ⟨k, o, none⟩ = some u) : w'.cell? ⟨k, o, none⟩ = some u := by
  rw [← hc]
  unfold World.cell?
  rw [h.block k (lt_of_cell hc) hk]
theorem KeptO.cell {b : Nat} {w : World} {k o : Nat} {u : Value} (hk : k ≠ b) (hc : w.cell? ⟨k, o, none⟩ = some u) : ∀ x : KeptO b w, x.v.cell? ⟨k, o, none⟩ = some u := fun x => x.h.cell hk hc
theorem keptO_drew (b : Nat) (w : World) : ∃ x : KeptO b w, w.drew = x.v := ⟨⟨w.drew, Off.of_below (Below.drew (Below.refl _ _))⟩, rfl⟩
end Go.Proofs.YtigmcoelkkihkaaGreatDoor
namespace Go.Proofs.YtigmcoelkkihkaaGreatDoor
open Go.RowKit Go.Joins

set_option maxRecDepth 100000 in
set_option maxHeartbeats 1000000 in
theorem decimal_one (n : Nat) (h : n < 10) (w : World) : Calls Tryz.prog 82 #[.int .u64 n] w fun e w' => e = .returned (.string ⟨[chr n].toArray⟩) ∧ Below w.heap.size w w' := by
  have hcv := chr_conv n w.heap.size (w.alloc (.cells #[.int .u8 (48 + (n : Int))] 5)) (by go_simp)
  go_enter Tryz.func82, Tryz.ntmps82
  go_wp2_with fail
  go_ret
  exact ⟨rfl, by (repeat' (first | (with_reducible exact Below.refl _ _) | (with_reducible assumption) | (with_reducible refine Below.alloc ?_ ?_ _) | (with_reducible refine bel_drewN ?_ _) | (with_reducible refine Below.drew ?_) | (with_reducible refine Below.setCell ?_ ?_ _) | (with_reducible refine bel_call ‹_› ?_ ?_) | go_size))⟩

set_option maxRecDepth 100000 in
set_option maxHeartbeats 1000000 in
theorem decimal_f : ∀ (f n : Nat), f ≤ 15 → n < 10 ^ (f + 1) → ∀ w, Calls Tryz.prog 82 #[.int .u64 n] w fun e w' => e = .returned (.string ⟨(dcF f n).toArray⟩) ∧ Below w.heap.size w w'
  | 0, n, _, hn, w => decimal_one n (by omega) w
  | f + 1, n, hf, hn, w => by
    rw [dcF]
    by_cases h : n < 10
    · rw [if_pos h]
      exact decimal_one n h w
    · rw [if_neg h]
      have hq : n / 10 < 10 ^ (f + 1) := by
        rw [Nat.pow_succ] at hn
        omega
      have hnb : n ≤ 100000000000000000 := by
        have h1 : 10 ^ (f + 1 + 1) ≤ 10 ^ 17 := Nat.pow_le_pow_right (by omega) (by omega)
        omega
      have IH := Lib.hid (fun W => decimal_f f (n / 10) (by omega) hq W)
      have hlen := dcF_len f (n / 10)
      obtain ⟨A, hA⟩ : ∃ A, dcF f (n / 10) = A := ⟨_, rfl⟩
      obtain ⟨q, hqq⟩ : ∃ q, n / 10 = q := ⟨_, rfl⟩
      obtain ⟨d, hd⟩ : ∃ d, n % 10 = d := ⟨_, rfl⟩
      rw [hA] at IH hlen ⊢
      rw [hqq] at IH
      rw [hd]
      have hd10 : d < 10 := by omega
      have e1 : (n : Int) / 10 = (q : Int) := by omega
      have e2 : (n : Int) % 10 = (d : Int) := by omega
      have hz1 : (⟨A.toArray⟩ : ByteArray).size ≤ 20 := by rw [Lib.size_eq]; simp; omega
      have f1 : IntKind.u64.wrap (q : Int) = (q : Int) := IntWalk.u64_in _ (by omega)
      have f2 : (n : Int).tmod 10 = (d : Int) := by rw [Int.tmod_eq_emod_of_nonneg (by omega)]; exact e2
      have f3 : IntKind.u64.wrap (48 + (d : Int)) = 48 + (d : Int) := IntWalk.u64_in _ (by omega)
      have f4 : IntKind.u8.wrap (48 + (d : Int)) = 48 + (d : Int) := IntWalk.u8_in _ (by omega)
      clear hA hqq hd hq hn
      go_enter Tryz.func82, Tryz.ntmps82
      have hcv := chr_conv d
      have hz2 : (⟨[chr d].toArray⟩ : ByteArray).size = 1 := rfl
      have hcat := cat2 A [chr d]
      go_wp2_with fail
      go_region_with (go_at_call 82; refine (IH.out _).mono ?_; rintro e w1 ⟨rfl, hb⟩; obtain ⟨hc, hf, hz⟩ := bcell hb (by first | (simp only [World.size_alloc, World.size_setCell, World.size_drew]; rfl) | rfl))
      all_goals go_wp2_with fail
      all_goals go_ret
      all_goals exact ⟨rfl, by (repeat' (first | (with_reducible exact Below.refl _ _) | (with_reducible assumption) | (with_reducible refine Below.alloc ?_ ?_ _) | (with_reducible refine bel_drewN ?_ _) | (with_reducible refine Below.drew ?_) | (with_reducible refine Below.setCell ?_ ?_ _) | (with_reducible refine bel_call ‹_› ?_ ?_) | go_size))⟩
theorem decimal_any (n : Nat) (h : n ≤ 10000000000000) (w : World) : Calls Tryz.prog 82 #[.int .u64 n] w fun e w' => e = .returned (.string ⟨(dcL n).toArray⟩) ∧ Below w.heap.size w w' :=
  decimal_f 15 n (by omega) (Nat.lt_of_le_of_lt h (by decide)) w
set_option maxRecDepth 100000 in
set_option maxHeartbeats 1000000 in
theorem decN_any (n : Nat) (h : n ≤ 10000000) (w : World) : Calls Tryz.prog 54 #[.int .i64 n] w fun e w' => e = .returned (.string ⟨(dcL n).toArray⟩) ∧ Below w.heap.size w w' := by
  have HD := Lib.hid (fun W => decimal_any n (by omega) W)
  have h1 : IntKind.u64.wrap (n : Int) = (n : Int) := IntWalk.u64_in _ (by omega)
  have h0 : ¬ (n : Int) < 0 := by omega
  generalize dcL n = D at HD ⊢
  go_enter Tryz.func54, Tryz.ntmps54
  go_wp2_with fail
  refine (HD.out _).mono ?_
  rintro e w1 ⟨rfl, hb⟩
  go_wp2_with fail
  go_ret
  exact ⟨rfl, hb⟩
/-- May a cell be? -/
def rtC (c r : Int) : Bool := decide (1 ≤ c) && (decide (c ≤ 702) && (decide (1 ≤ r) && decide (r ≤ 9999)))
set_option maxRecDepth 100000 in
set_option maxHeartbeats 1000000 in
theorem cright_any (c r : Int) (w : World) : Calls Tryz.prog 52 #[.agg #[.int .i64 c, .int .i64 r]] w fun e w' => e = .returned (.bool (rtC c r)) ∧ Below w.heap.size w w' := by
  have hB : Hid (Below w.heap.size w (w.alloc (.cells #[.int .i64 c, .int .i64 r] 31))) := by unfold Hid; (repeat' (first | (with_reducible exact Below.refl _ _) | (with_reducible assumption) | (with_reducible refine Below.alloc ?_ ?_ _) | (with_reducible refine bel_drewN ?_ _) | (with_reducible refine Below.drew ?_) | (with_reducible refine Below.setCell ?_ ?_ _) | (with_reducible refine bel_call ‹_› ?_ ?_) | go_size))
  obtain ⟨O, hO⟩ : ∃ O, rtC c r = O := ⟨_, rfl⟩
  have HO : Hid (rtC c r = O) := hO
  rw [hO]
  clear hO
  by_cases h1 : 1 ≤ c
  · by_cases h2 : c ≤ 702
    · by_cases h3 : 1 ≤ r
      · by_cases h4 : r ≤ 9999
        · have HR : Hid (O = true) := by unfold Hid; rw [← HO.out]; unfold rtC; simp; omega
          go_enter Tryz.func52, Tryz.ntmps52
          go_wp2_with fail
          go_ret
          exact ⟨by rw [HR.out]; rfl, hB.out⟩
        · have HR : Hid (O = false) := by unfold Hid; rw [← HO.out]; unfold rtC; simp; omega
          go_enter Tryz.func52, Tryz.ntmps52
          go_wp2_with fail
          go_ret
          exact ⟨by rw [HR.out]; rfl, hB.out⟩
      · have HR : Hid (O = false) := by unfold Hid; rw [← HO.out]; unfold rtC; simp; omega
        go_enter Tryz.func52, Tryz.ntmps52
        go_wp2_with fail
        go_ret
        exact ⟨by rw [HR.out]; rfl, hB.out⟩
    · have HR : Hid (O = false) := by unfold Hid; rw [← HO.out]; unfold rtC; simp; omega
      go_enter Tryz.func52, Tryz.ntmps52
      go_wp2_with fail
      go_ret
      exact ⟨by rw [HR.out]; rfl, hB.out⟩
  · have HR : Hid (O = false) := by unfold Hid; rw [← HO.out]; unfold rtC; simp; omega
    go_enter Tryz.func52, Tryz.ntmps52
    go_wp2_with fail
    go_ret
    exact ⟨by rw [HR.out]; rfl, hB.out⟩

theorem conv_1 (x b : Nat) (hx : x < 256) (W : World) (h : W.cell? ⟨b, 0, none⟩ = some (.int .u8 (x : Int))) : (convert 84 9 (.slice (some ⟨b, 0, none⟩) 1 1)).run Tryz.prog W = .ok (.string ⟨[UInt8.ofNat x].toArray⟩) W := by
  have hcv := run_convert_bytes_arg (P := Tryz.prog) W 84 5 Tryz.underlying84 Tryz.underlying5 b 0 1 1 [(x : Int)] rfl (fun i hi => by
    obtain rfl : i = 0 := by omega
    exact h) 9 Tryz.underlying9
  rw [show strOfNums [(x : Int)] = ⟨[UInt8.ofNat x].toArray⟩ from rfl] at hcv
  exact hcv
theorem conv_2 (x y b : Nat) (W : World) (h : W.cell? ⟨b, 0, none⟩ = some (.int .u8 (x : Int))) (h' : W.cell? ⟨b, 1, none⟩ = some (.int .u8 (y : Int))) : (convert 84 9 (.slice (some ⟨b, 0, none⟩) 2 2)).run Tryz.prog W = .ok (.string ⟨[UInt8.ofNat x, UInt8.ofNat y].toArray⟩) W := by
  have hcv := run_convert_bytes_arg (P := Tryz.prog) W 84 5 Tryz.underlying84 Tryz.underlying5 b 0 2 2 [(x : Int), (y : Int)] rfl (fun i hi => by
    match i, hi with
    | 0, _ => exact h
    | 1, _ => exact h') 9 Tryz.underlying9
  rw [show strOfNums [(x : Int), (y : Int)] = ⟨[UInt8.ofNat x, UInt8.ofNat y].toArray⟩ from rfl] at hcv
  exact hcv
/-- A column's letters. -/
def colS (c : Int) : Bs := if c < 1 ∨ 702 < c then [] else if c ≤ 26 then [UInt8.ofNat (64 + c.toNat)] else [UInt8.ofNat (64 + (c.toNat - 1) / 26), UInt8.ofNat (65 + (c.toNat - 1) % 26)]
theorem colS_len (c : Int) : (colS c).length ≤ 2 := by
  unfold colS
  repeat' split
  all_goals simp
set_option maxRecDepth 100000 in
set_option maxHeartbeats 2000000 in
theorem col_any (c : Int) (w : World) : Calls Tryz.prog 53 #[.int .i64 c] w fun e w' => e = .returned (.string ⟨(colS c).toArray⟩) ∧ Below w.heap.size w w' := by
  by_cases h1 : c < 1
  · rw [show colS c = [] from by unfold colS; rw [if_pos (by omega)]]
    go_enter Tryz.func53, Tryz.ntmps53
    go_wp2_with fail
    go_ret
    exact ⟨rfl, by (repeat' (first | (with_reducible exact Below.refl _ _) | (with_reducible assumption) | (with_reducible refine Below.alloc ?_ ?_ _) | (with_reducible refine bel_drewN ?_ _) | (with_reducible refine Below.drew ?_) | (with_reducible refine Below.setCell ?_ ?_ _) | (with_reducible refine bel_call ‹_› ?_ ?_) | go_size))⟩
  · by_cases h2 : 702 < c
    · rw [show colS c = [] from by unfold colS; rw [if_pos (by omega)]]
      go_enter Tryz.func53, Tryz.ntmps53
      go_wp2_with fail
      go_ret
      exact ⟨rfl, by (repeat' (first | (with_reducible exact Below.refl _ _) | (with_reducible assumption) | (with_reducible refine Below.alloc ?_ ?_ _) | (with_reducible refine bel_drewN ?_ _) | (with_reducible refine Below.drew ?_) | (with_reducible refine Below.setCell ?_ ?_ _) | (with_reducible refine bel_call ‹_› ?_ ?_) | go_size))⟩
    · obtain ⟨n, rfl⟩ : ∃ n : Nat, c = (n : Int) := ⟨c.toNat, by omega⟩
      by_cases h3 : n ≤ 26
      · have h3' : (n : Int) ≤ 26 := by omega
        rw [show colS (n : Int) = [UInt8.ofNat (64 + n)] from by unfold colS; rw [if_neg (by omega), if_pos h3', Int.toNat_natCast]]
        obtain ⟨x, hx⟩ : ∃ x, 64 + n = x := ⟨_, rfl⟩
        have g1 : 65 + (n : Int) = (x : Int) + 1 := by omega
        have g2 : IntKind.i64.wrap ((x : Int) + 1) = (x : Int) + 1 := IntWalk.i64_in _ (by omega)
        have g3 : IntKind.i64.wrap (x : Int) = (x : Int) := IntWalk.i64_in _ (by omega)
        have g4 : IntKind.u8.wrap (x : Int) = (x : Int) := IntWalk.u8_in _ (by omega)
        have g5 : 65 + (n : Int) - 1 = (x : Int) := by omega
        have hcv := conv_1 x w.heap.size (by omega) (w.alloc (.cells #[.int .u8 (x : Int)] 5)) (by go_simp)
        rw [hx]
        clear hx
        go_enter Tryz.func53, Tryz.ntmps53
        go_wp2_with fail
        go_ret
        exact ⟨rfl, by (repeat' (first | (with_reducible exact Below.refl _ _) | (with_reducible assumption) | (with_reducible refine Below.alloc ?_ ?_ _) | (with_reducible refine bel_drewN ?_ _) | (with_reducible refine Below.drew ?_) | (with_reducible refine Below.setCell ?_ ?_ _) | (with_reducible refine bel_call ‹_› ?_ ?_) | go_size))⟩
      · have h3' : ¬ (n : Int) ≤ 26 := by omega
        rw [show colS (n : Int) = [UInt8.ofNat (64 + (n - 1) / 26), UInt8.ofNat (65 + (n - 1) % 26)] from by unfold colS; rw [if_neg (by omega), if_neg h3', Int.toNat_natCast]]
        obtain ⟨m, hm⟩ : ∃ m, n - 1 = m := ⟨_, rfl⟩
        obtain ⟨q, hq⟩ : ∃ q, m / 26 = q := ⟨_, rfl⟩
        obtain ⟨d, hd⟩ : ∃ d, m % 26 = d := ⟨_, rfl⟩
        rw [hm, hq, hd]
        have g0 : (n : Int) - 1 = (m : Int) := by omega
        have g1 : (m : Int).tdiv 26 = (q : Int) := by rw [Int.tdiv_eq_ediv_of_nonneg (by omega)]; omega
        have g1' : (m : Int) / 26 = (q : Int) := by omega
        have g2 : (m : Int).tmod 26 = (d : Int) := by rw [Int.tmod_eq_emod_of_nonneg (by omega)]; omega
        have g2' : (m : Int) % 26 = (d : Int) := by omega
        obtain ⟨x, hx⟩ : ∃ x, 64 + q = x := ⟨_, rfl⟩
        obtain ⟨y, hy⟩ : ∃ y, 65 + d = y := ⟨_, rfl⟩
        have g3 : 65 + (q : Int) = (x : Int) + 1 := by omega
        have g4 : 65 + (d : Int) = (y : Int) := by omega
        have g5 : IntKind.i64.wrap (m : Int) = (m : Int) := IntWalk.i64_in _ (by omega)
        have g6 : IntKind.i64.wrap (q : Int) = (q : Int) := IntWalk.i64_in _ (by omega)
        have g7 : IntKind.i64.wrap ((x : Int) + 1) = (x : Int) + 1 := IntWalk.i64_in _ (by omega)
        have g8 : IntKind.i64.wrap (x : Int) = (x : Int) := IntWalk.i64_in _ (by omega)
        have g9 : IntKind.i64.wrap (y : Int) = (y : Int) := IntWalk.i64_in _ (by omega)
        have g10 : IntKind.u8.wrap (x : Int) = (x : Int) := IntWalk.u8_in _ (by omega)
        have g11 : IntKind.u8.wrap (y : Int) = (y : Int) := IntWalk.u8_in _ (by omega)
        have g12 : IntKind.i64.wrap (d : Int) = (d : Int) := IntWalk.i64_in _ (by omega)
        have g13 : 65 + (q : Int) - 1 = (x : Int) := by omega
        have hcv := conv_2 x y w.heap.size (w.alloc (.cells #[.int .u8 (x : Int), .int .u8 (y : Int)] 5)) (by go_simp) (by go_simp)
        rw [hx, hy]
        clear hx hy hq hd hm
        go_enter Tryz.func53, Tryz.ntmps53
        go_wp2_with fail
        go_ret
        exact ⟨rfl, by (repeat' (first | (with_reducible exact Below.refl _ _) | (with_reducible assumption) | (with_reducible refine Below.alloc ?_ ?_ _) | (with_reducible refine bel_drewN ?_ _) | (with_reducible refine Below.drew ?_) | (with_reducible refine Below.setCell ?_ ?_ _) | (with_reducible refine bel_call ‹_› ?_ ?_) | go_size))⟩
/-- A cell's name. -/
def cellS (c r : Int) : Bs := if rtC c r = true then colS c ++ dcL r.toNat else []
theorem cellS_len (c r : Int) : (cellS c r).length ≤ 20 := by
  have h1 := colS_len c
  have h2 := dcL_len r.toNat
  unfold cellS
  split
  · simp; omega
  · simp
set_option maxRecDepth 100000 in
set_option maxHeartbeats 2000000 in
theorem ctext_any (c r : Int) (w : World) : Calls Tryz.prog 32 #[.agg #[.int .i64 c, .int .i64 r]] w fun e w' => e = .returned (.string ⟨(cellS c r).toArray⟩) ∧ Below w.heap.size w w' := by
  have HR := Lib.hid (fun W => cright_any c r W)
  have HC := Lib.hid (fun W => col_any c W)
  have hA0 : Hid (BlkC (w.alloc (.cells #[.int .i64 c, .int .i64 r] 31)) w.heap.size #[.int .i64 c, .int .i64 r] 31) := heap_alloc_new w _
  have hAB : Hid (Below w.heap.size w (w.alloc (.cells #[.int .i64 c, .int .i64 r] 31))) := by unfold Hid; (repeat' (first | (with_reducible exact Below.refl _ _) | (with_reducible assumption) | (with_reducible refine Below.alloc ?_ ?_ _) | (with_reducible refine bel_drewN ?_ _) | (with_reducible refine Below.drew ?_) | (with_reducible refine Below.setCell ?_ ?_ _) | (with_reducible refine bel_call ‹_› ?_ ?_) | go_size))
  have HL1 := colS_len c
  cases hrt : rtC c r with
  | false =>
    rw [hrt] at HR
    rw [show cellS c r = [] from by unfold cellS; rw [hrt]; rfl]
    clear hrt
    go_enter Tryz.func32, Tryz.ntmps32
    go_upto_region 1 with fail
    generalize w.alloc (.cells #[.int .i64 c, .int .i64 r] 31) = w0 at hA0 hAB ⊢
    have c0 : w0.cell? ⟨w.heap.size, 0, none⟩ = some (.int .i64 c) := hA0.out.cell 0 _ rfl
    have c1 : w0.cell? ⟨w.heap.size, 1, none⟩ = some (.int .i64 r) := hA0.out.cell 1 _ rfl
    go_wp2_with fail
    refine (HR.out _).mono ?_
    rintro e w1 ⟨rfl, hb⟩
    have hB1 := bel_call hb hAB.out hAB.out.size
    go_wp2_with fail
    go_ret
    exact ⟨rfl, hB1⟩
  | true =>
    rw [hrt] at HR
    have hr : 1 ≤ r ∧ r ≤ 9999 := by unfold rtC at hrt; simp at hrt; omega
    obtain ⟨n, rfl⟩ : ∃ n : Nat, r = (n : Int) := ⟨r.toNat, by omega⟩
    have HD := Lib.hid (fun W => decN_any n (by omega) W)
    have HL2 := dcL_len n
    rw [show cellS c (n : Int) = colS c ++ dcL n from by unfold cellS; rw [hrt]; rfl]
    clear hrt
    have hcat : (⟨(colS c).toArray⟩ : ByteArray) ++ ⟨(dcL n).toArray⟩ = ⟨(colS c ++ dcL n).toArray⟩ := cat2 _ _
    generalize colS c ++ dcL n = Z at hcat ⊢
    generalize colS c = X at *
    generalize dcL n = Y at *
    have hz1 : (⟨X.toArray⟩ : ByteArray).size ≤ 2 := by rw [Lib.size_eq]; exact HL1
    have hz2 : (⟨Y.toArray⟩ : ByteArray).size ≤ 16 := by rw [Lib.size_eq]; exact HL2
    have hop : ∀ W, (Op.stringOp .add ⟨X.toArray⟩ ⟨Y.toArray⟩).run Tryz.prog W = .ok (.string ⟨Z.toArray⟩) W := fun W => by rw [← hcat]; exact run_string_add_sum W _ _ (by omega)
    clear hcat HL1 HL2
    go_enter Tryz.func32, Tryz.ntmps32
    go_upto_region 1 with fail
    generalize w.alloc (.cells #[.int .i64 c, .int .i64 n] 31) = w0 at hA0 hAB ⊢
    have c0 : w0.cell? ⟨w.heap.size, 0, none⟩ = some (.int .i64 c) := hA0.out.cell 0 _ rfl
    have c1 : w0.cell? ⟨w.heap.size, 1, none⟩ = some (.int .i64 n) := hA0.out.cell 1 _ rfl
    go_wp2_with fail
    refine (HR.out _).mono ?_
    rintro e w1 ⟨rfl, hb⟩
    have hB1 : Hid (Below w.heap.size w w1) := bel_call hb hAB.out hAB.out.size
    have hA1 := Lib.hid (hA0.out.below hb)
    clear hb c0 c1 hA0 hAB
    have c0 : w1.cell? ⟨w.heap.size, 0, none⟩ = some (.int .i64 c) := hA1.out.cell 0 _ rfl
    have c1 : w1.cell? ⟨w.heap.size, 1, none⟩ = some (.int .i64 n) := hA1.out.cell 1 _ rfl
    have hBR : ∀ dd os, Below w.heap.size w (Go.Sort.grow (redrawn w1 dd) os) := fun dd os => bel_call (below_regrown w1 dd os) hB1.out hB1.out.size
    have r0 := cell_regrown c0
    have r1 := cell_regrown c1
    have k1 : ∀ dd os, Calls Tryz.prog 53 #[.int .i64 c] (Go.Sort.grow (redrawn w1 dd) os) fun e w'' => e = .returned (.string ⟨X.toArray⟩) ∧ ∃ p : Regrown, w'' = Go.Sort.grow (redrawn w1 p.1) p.2 := fun dd os => Calls.regrown_of (HC.out _)
    have k2 : ∀ dd os, Calls Tryz.prog 54 #[.int .i64 n] (Go.Sort.grow (redrawn w1 dd) os) fun e w'' => e = .returned (.string ⟨Y.toArray⟩) ∧ ∃ p : Regrown, w'' = Go.Sort.grow (redrawn w1 p.1) p.2 := fun dd os => Calls.regrown_of (HD.out _)
    clear c0 c1 hA1
    go_upto_region 3 with fail
    refine wp_region_quiet_below (by kernel_rfl) (by kernel_rfl) ?_
    repeat (go_big_quiet_step ((first | with_reducible exact k1 _ _ | with_reducible exact k2 _ _)))
    refine wpQuiet_nil ?_
    intro _ hw'
    obtain ⟨⟨dz, osz⟩, hw''⟩ := hw'
    subst hw''
    have hBz := hBR dz osz
    clear k1 k2 r0 r1 hBR
    go_wp2_with fail
    go_ret
    exact ⟨rfl, hBz⟩
/-- A cell as one number: its column, its row. -/
def cC (k : Int) : Int := Int.tdiv k 10000
def cR (k : Int) : Int := Int.tmod k 10000
/-- A reference's name. -/
def nmS (k : Int) : Bs := cellS (cC k) (cR k)
theorem nmS_len (k : Int) : (nmS k).length ≤ 20 := cellS_len _ _
set_option maxRecDepth 100000 in
set_option maxHeartbeats 1000000 in
theorem pname_any (c r : Int) (w : World) : Calls Tryz.prog 14 #[.agg #[.int .i64 c, .int .i64 r]] w fun e w' => e = .returned (.string ⟨(cellS c r).toArray⟩) ∧ Below w.heap.size w w' := by
  have HT := Lib.hid (fun W => ctext_any c r W)
  have hAB : Hid (Below w.heap.size w (w.alloc (.cells #[.int .i64 c, .int .i64 r] 31))) := by unfold Hid; (repeat' (first | (with_reducible exact Below.refl _ _) | (with_reducible assumption) | (with_reducible refine Below.alloc ?_ ?_ _) | (with_reducible refine bel_drewN ?_ _) | (with_reducible refine Below.drew ?_) | (with_reducible refine Below.setCell ?_ ?_ _) | (with_reducible refine bel_call ‹_› ?_ ?_) | go_size))
  generalize cellS c r = X at HT ⊢
  go_enter Tryz.func14, Tryz.ntmps14
  go_wp2_with fail
  refine (HT.out _).mono ?_
  rintro e w1 ⟨rfl, hb⟩
  have hB1 := bel_call hb hAB.out hAB.out.size
  go_wp2_with fail
  go_ret
  exact ⟨rfl, hB1⟩
set_option maxRecDepth 100000 in
set_option maxHeartbeats 1000000 in
theorem r7right_any (c r : Int) (w : World) : Calls Tryz.prog 33 #[.int .i64 c, .int .i64 r] w fun e w' => e = .returned (.bool (rtC c r)) ∧ Below w.heap.size w w' := by
  obtain ⟨O, hO⟩ : ∃ O, rtC c r = O := ⟨_, rfl⟩
  have HO : Hid (rtC c r = O) := hO
  rw [hO]
  clear hO
  by_cases h1 : 1 ≤ c
  · by_cases h2 : c ≤ 702
    · by_cases h3 : 1 ≤ r
      · by_cases h4 : r ≤ 9999
        · have HR : Hid (O = true) := by unfold Hid; rw [← HO.out]; unfold rtC; simp; omega
          go_enter Tryz.func33, Tryz.ntmps33
          go_wp2_with fail
          go_ret
          exact ⟨by rw [HR.out]; rfl, by (repeat' (first | (with_reducible exact Below.refl _ _) | (with_reducible assumption) | (with_reducible refine Below.alloc ?_ ?_ _) | (with_reducible refine bel_drewN ?_ _) | (with_reducible refine Below.drew ?_) | (with_reducible refine Below.setCell ?_ ?_ _) | (with_reducible refine bel_call ‹_› ?_ ?_) | go_size))⟩
        · have HR : Hid (O = false) := by unfold Hid; rw [← HO.out]; unfold rtC; simp; omega
          go_enter Tryz.func33, Tryz.ntmps33
          go_wp2_with fail
          go_ret
          exact ⟨by rw [HR.out]; rfl, by (repeat' (first | (with_reducible exact Below.refl _ _) | (with_reducible assumption) | (with_reducible refine Below.alloc ?_ ?_ _) | (with_reducible refine bel_drewN ?_ _) | (with_reducible refine Below.drew ?_) | (with_reducible refine Below.setCell ?_ ?_ _) | (with_reducible refine bel_call ‹_› ?_ ?_) | go_size))⟩
      · have HR : Hid (O = false) := by unfold Hid; rw [← HO.out]; unfold rtC; simp; omega
        go_enter Tryz.func33, Tryz.ntmps33
        go_wp2_with fail
        go_ret
        exact ⟨by rw [HR.out]; rfl, by (repeat' (first | (with_reducible exact Below.refl _ _) | (with_reducible assumption) | (with_reducible refine Below.alloc ?_ ?_ _) | (with_reducible refine bel_drewN ?_ _) | (with_reducible refine Below.drew ?_) | (with_reducible refine Below.setCell ?_ ?_ _) | (with_reducible refine bel_call ‹_› ?_ ?_) | go_size))⟩
    · have HR : Hid (O = false) := by unfold Hid; rw [← HO.out]; unfold rtC; simp; omega
      go_enter Tryz.func33, Tryz.ntmps33
      go_wp2_with fail
      go_ret
      exact ⟨by rw [HR.out]; rfl, by (repeat' (first | (with_reducible exact Below.refl _ _) | (with_reducible assumption) | (with_reducible refine Below.alloc ?_ ?_ _) | (with_reducible refine bel_drewN ?_ _) | (with_reducible refine Below.drew ?_) | (with_reducible refine Below.setCell ?_ ?_ _) | (with_reducible refine bel_call ‹_› ?_ ?_) | go_size))⟩
  · have HR : Hid (O = false) := by unfold Hid; rw [← HO.out]; unfold rtC; simp; omega
    go_enter Tryz.func33, Tryz.ntmps33
    go_wp2_with fail
    go_ret
    exact ⟨by rw [HR.out]; rfl, by (repeat' (first | (with_reducible exact Below.refl _ _) | (with_reducible assumption) | (with_reducible refine Below.alloc ?_ ?_ _) | (with_reducible refine bel_drewN ?_ _) | (with_reducible refine Below.drew ?_) | (with_reducible refine Below.setCell ?_ ?_ _) | (with_reducible refine bel_call ‹_› ?_ ?_) | go_size))⟩
set_option maxRecDepth 100000 in
set_option maxHeartbeats 2000000 in
theorem r7col_any (c : Int) (w : World) : Calls Tryz.prog 34 #[.int .i64 c] w fun e w' => e = .returned (.string ⟨(colS c).toArray⟩) ∧ Below w.heap.size w w' := by
  by_cases h1 : c < 1
  · rw [show colS c = [] from by unfold colS; rw [if_pos (by omega)]]
    go_enter Tryz.func34, Tryz.ntmps34
    go_wp2_with fail
    go_ret
    exact ⟨rfl, by (repeat' (first | (with_reducible exact Below.refl _ _) | (with_reducible assumption) | (with_reducible refine Below.alloc ?_ ?_ _) | (with_reducible refine bel_drewN ?_ _) | (with_reducible refine Below.drew ?_) | (with_reducible refine Below.setCell ?_ ?_ _) | (with_reducible refine bel_call ‹_› ?_ ?_) | go_size))⟩
  · by_cases h2 : 702 < c
    · rw [show colS c = [] from by unfold colS; rw [if_pos (by omega)]]
      go_enter Tryz.func34, Tryz.ntmps34
      go_wp2_with fail
      go_ret
      exact ⟨rfl, by (repeat' (first | (with_reducible exact Below.refl _ _) | (with_reducible assumption) | (with_reducible refine Below.alloc ?_ ?_ _) | (with_reducible refine bel_drewN ?_ _) | (with_reducible refine Below.drew ?_) | (with_reducible refine Below.setCell ?_ ?_ _) | (with_reducible refine bel_call ‹_› ?_ ?_) | go_size))⟩
    · obtain ⟨n, rfl⟩ : ∃ n : Nat, c = (n : Int) := ⟨c.toNat, by omega⟩
      by_cases h3 : n ≤ 26
      · have h3' : (n : Int) ≤ 26 := by omega
        have h27 : (n : Int) < 27 := by omega
        rw [show colS (n : Int) = [UInt8.ofNat (64 + n)] from by unfold colS; rw [if_neg (by omega), if_pos h3', Int.toNat_natCast]]
        obtain ⟨x, hx⟩ : ∃ x, 64 + n = x := ⟨_, rfl⟩
        have g1 : 64 + (n : Int) = (x : Int) := by omega
        have g3 : IntKind.i64.wrap (x : Int) = (x : Int) := IntWalk.i64_in _ (by omega)
        have g4 : IntKind.u8.wrap (x : Int) = (x : Int) := IntWalk.u8_in _ (by omega)
        have hcv := conv_1 x w.heap.size (by omega) (w.alloc (.cells #[.int .u8 (x : Int)] 5)) (by go_simp)
        rw [hx]
        clear hx
        go_enter Tryz.func34, Tryz.ntmps34
        go_wp2_with fail
        go_ret
        exact ⟨rfl, by (repeat' (first | (with_reducible exact Below.refl _ _) | (with_reducible assumption) | (with_reducible refine Below.alloc ?_ ?_ _) | (with_reducible refine bel_drewN ?_ _) | (with_reducible refine Below.drew ?_) | (with_reducible refine Below.setCell ?_ ?_ _) | (with_reducible refine bel_call ‹_› ?_ ?_) | go_size))⟩
      · have h3' : ¬ (n : Int) ≤ 26 := by omega
        have h27 : ¬ (n : Int) < 27 := by omega
        rw [show colS (n : Int) = [UInt8.ofNat (64 + (n - 1) / 26), UInt8.ofNat (65 + (n - 1) % 26)] from by unfold colS; rw [if_neg (by omega), if_neg h3', Int.toNat_natCast]]
        obtain ⟨m, hm⟩ : ∃ m, n - 27 = m := ⟨_, rfl⟩
        obtain ⟨q, hq⟩ : ∃ q, m / 26 = q := ⟨_, rfl⟩
        obtain ⟨d, hd⟩ : ∃ d, m % 26 = d := ⟨_, rfl⟩
        rw [show (n - 1) / 26 = q + 1 from by omega, show (n - 1) % 26 = d from by omega]
        have g0 : (n : Int) - 27 = (m : Int) := by omega
        have g1 : (m : Int).tdiv 26 = (q : Int) := by rw [Int.tdiv_eq_ediv_of_nonneg (by omega)]; omega
        have g1' : (m : Int) / 26 = (q : Int) := by omega
        have g2 : (m : Int).tmod 26 = (d : Int) := by rw [Int.tmod_eq_emod_of_nonneg (by omega)]; omega
        have g2' : (m : Int) % 26 = (d : Int) := by omega
        obtain ⟨x, hx⟩ : ∃ x, 65 + q = x := ⟨_, rfl⟩
        obtain ⟨y, hy⟩ : ∃ y, 65 + d = y := ⟨_, rfl⟩
        have g3 : 65 + (q : Int) = (x : Int) := by omega
        have g4 : 65 + (d : Int) = (y : Int) := by omega
        have g5 : IntKind.i64.wrap (m : Int) = (m : Int) := IntWalk.i64_in _ (by omega)
        have g6 : IntKind.i64.wrap (q : Int) = (q : Int) := IntWalk.i64_in _ (by omega)
        have g8 : IntKind.i64.wrap (x : Int) = (x : Int) := IntWalk.i64_in _ (by omega)
        have g9 : IntKind.i64.wrap (y : Int) = (y : Int) := IntWalk.i64_in _ (by omega)
        have g10 : IntKind.u8.wrap (x : Int) = (x : Int) := IntWalk.u8_in _ (by omega)
        have g11 : IntKind.u8.wrap (y : Int) = (y : Int) := IntWalk.u8_in _ (by omega)
        have g12 : IntKind.i64.wrap (d : Int) = (d : Int) := IntWalk.i64_in _ (by omega)
        have hcv := conv_2 x y w.heap.size (w.alloc (.cells #[.int .u8 (x : Int), .int .u8 (y : Int)] 5)) (by go_simp) (by go_simp)
        rw [show 64 + (q + 1) = x from by omega, hy]
        clear hx hy hq hd hm
        go_enter Tryz.func34, Tryz.ntmps34
        go_wp2_with fail
        go_ret
        exact ⟨rfl, by (repeat' (first | (with_reducible exact Below.refl _ _) | (with_reducible assumption) | (with_reducible refine Below.alloc ?_ ?_ _) | (with_reducible refine bel_drewN ?_ _) | (with_reducible refine Below.drew ?_) | (with_reducible refine Below.setCell ?_ ?_ _) | (with_reducible refine bel_call ‹_› ?_ ?_) | go_size))⟩
set_option maxRecDepth 100000 in
set_option maxHeartbeats 2000000 in
theorem r7text_any (c r : Int) (w : World) : Calls Tryz.prog 15 #[.int .i64 c, .int .i64 r] w fun e w' => e = .returned (.string ⟨(cellS c r).toArray⟩) ∧ Below w.heap.size w w' := by
  have HR := Lib.hid (fun W => r7right_any c r W)
  have HC := Lib.hid (fun W => r7col_any c W)
  have HL1 := colS_len c
  cases hrt : rtC c r with
  | false =>
    rw [hrt] at HR
    rw [show cellS c r = [] from by unfold cellS; rw [hrt]; rfl]
    clear hrt
    go_enter Tryz.func15, Tryz.ntmps15
    go_wp2_with fail
    refine (HR.out _).mono ?_
    rintro e w1 ⟨rfl, hb⟩
    go_wp2_with fail
    go_ret
    exact ⟨rfl, hb⟩
  | true =>
    rw [hrt] at HR
    have hr : 1 ≤ r ∧ r ≤ 9999 := by unfold rtC at hrt; simp at hrt; omega
    have HD := Lib.hid (fun W => ref2Digits_any r (by omega) (by omega) W)
    rw [show sgL r = dcL r.toNat from by unfold sgL; rw [if_neg (by omega), List.nil_append, show r.natAbs = r.toNat from by omega]] at HD
    have HL2 := dcL_len r.toNat
    rw [show cellS c r = colS c ++ dcL r.toNat from by unfold cellS; rw [hrt]; rfl]
    clear hrt
    have hcat : (⟨(colS c).toArray⟩ : ByteArray) ++ ⟨(dcL r.toNat).toArray⟩ = ⟨(colS c ++ dcL r.toNat).toArray⟩ := cat2 _ _
    generalize colS c ++ dcL r.toNat = Z at hcat ⊢
    generalize colS c = X at *
    generalize dcL r.toNat = Y at *
    have hz1 : (⟨X.toArray⟩ : ByteArray).size ≤ 2 := by rw [Lib.size_eq]; exact HL1
    have hz2 : (⟨Y.toArray⟩ : ByteArray).size ≤ 16 := by rw [Lib.size_eq]; exact HL2
    have hop : ∀ W, (Op.stringOp .add ⟨X.toArray⟩ ⟨Y.toArray⟩).run Tryz.prog W = .ok (.string ⟨Z.toArray⟩) W := fun W => by rw [← hcat]; exact run_string_add_sum W _ _ (by omega)
    clear HL1 HL2
    go_enter Tryz.func15, Tryz.ntmps15
    go_wp2_with fail
    refine (HR.out _).mono ?_
    rintro e w1 ⟨rfl, hb⟩
    go_wp2_with fail
    refine (HC.out _).mono ?_
    rintro e w2 ⟨rfl, hb2⟩
    have hB2 : Hid (Below w.heap.size w w2) := bel_call hb2 hb hb.size
    clear hb hb2
    go_wp2_with fail
    refine (HD.out _).mono ?_
    rintro e w3 ⟨rfl, hb3⟩
    have hB3 : Hid (Below w.heap.size w w3) := bel_call hb3 hB2.out hB2.out.size
    clear hb3
    go_wp2_with fail
    go_ret
    exact ⟨by first | rfl | (rw [← hcat]; rfl), hB3.out⟩
theorem cC_in {k : Int} (h1 : -9223372036854775808 ≤ k) (h2 : k ≤ 9223372036854775807) : -9223372036854775808 ≤ cC k ∧ cC k ≤ 9223372036854775807 ∧ -9223372036854775808 ≤ cR k ∧ cR k ≤ 9223372036854775807 := by
  have a := Int.tmod_lt_of_pos k (show (0 : Int) < 10000 by omega)
  have b := Int.lt_tmod_of_pos k (show (0 : Int) < 10000 by omega)
  have e := Int.mul_tdiv_add_tmod k 10000
  unfold cC cR
  omega
set_option maxRecDepth 100000 in
set_option maxHeartbeats 2000000 in
theorem rname_law (k : Int) (h1 : -9223372036854775808 ≤ k) (h2 : k ≤ 9223372036854775807) (w : World) : Calls Tryz.prog 51 #[.int .i64 k] w fun e w' => e = .returned (.string ⟨(nmS k).toArray⟩) ∧ Below w.heap.size w w' := by
  obtain ⟨b1, b2, b3, b4⟩ := cC_in h1 h2
  have HT := Lib.hid (fun W => r7text_any (cC k) (cR k) W)
  have e3 : nmS k = cellS (cC k) (cR k) := rfl
  rw [e3]
  generalize cellS (cC k) (cR k) = X at HT ⊢
  obtain ⟨c, hc⟩ : ∃ c, cC k = c := ⟨_, rfl⟩
  obtain ⟨r, hr⟩ : ∃ r, cR k = r := ⟨_, rfl⟩
  rw [hc, hr] at HT
  have g1 : Int.tdiv k 10000 = c := hc
  have g2 : Int.tmod k 10000 = r := hr
  have g3 : IntKind.i64.wrap c = c := IntWalk.i64_in _ (by omega)
  have g4 : IntKind.i64.wrap r = r := IntWalk.i64_in _ (by omega)
  clear hc hr b1 b2 b3 b4 e3 h1 h2
  go_enter Tryz.func51, Tryz.ntmps51
  go_wp2_with fail
  refine (HT.out _).mono ?_
  rintro e w1 ⟨rfl, hb⟩
  go_wp2_with fail
  go_ret
  exact ⟨rfl, hb⟩
end Go.Proofs.YtigmcoelkkihkaaGreatDoor
namespace Go.Proofs.YtigmcoelkkihkaaGreatDoor
open Go.RowKit Go.Joins

/-- A token's kind and what it says. -/
abbrev Tw := Int × Bs
/-- A token as a text. -/
def wrT (x : Tw) : Bs := if x.1 = 2 then quoT x.2 else x.2
def tw (x : Tks.Tk) : Tw := (x.1, x.2.1)
/-- The tokens of a text, without their places. -/
def tkP (L : Bs) : Option (List Tw) := (Tks.spl L 0).1.map (List.map tw)

theorem run_drop (p : Nat → Bool) (L : Bs) (i j : Nat) : Tks.runN p (L.drop i) j = Tks.runN p L (i + j) := by
  unfold Tks.runN
  rw [List.drop_drop]
theorem num_drop (L : Bs) (i j : Nat) : Tks.numN (L.drop i) j = Tks.numN L (i + j) := by
  unfold Tks.numN
  simp only [run_drop, Tks.nx_drop]
  have e : i + (j + Tks.runN Tks.dgB L (i + j)) = i + j + Tks.runN Tks.dgB L (i + j) := by omega
  have e1 : i + (j + Tks.runN Tks.dgB L (i + j) + 1) = i + j + Tks.runN Tks.dgB L (i + j) + 1 := by omega
  rw [e, e1]
theorem tok_drop (L : Bs) (i : Nat) : Tks.tok (L.drop i) 0 = Tks.tok L i := by
  unfold Tks.tok
  simp only [run_drop, num_drop, Tks.nx_drop, List.drop_drop, Nat.add_zero, Nat.zero_add, Nat.add_comm 1 i]
theorem spl_drop : ∀ (n : Nat) (L : Bs) (i : Nat), L.length - i ≤ n → (Tks.spl L i).1.map (List.map tw) = tkP (L.drop i) := by
  intro n
  induction n with
  | zero =>
    intro L i h
    unfold tkP
    rw [Tks.spl_end L i (by omega), Tks.spl_end (L.drop i) 0 (by rw [List.length_drop]; omega)]
  | succ n ih =>
    intro L i h
    by_cases hi : L.length ≤ i
    · unfold tkP
      rw [Tks.spl_end L i (by omega), Tks.spl_end (L.drop i) 0 (by rw [List.length_drop]; omega)]
    · unfold tkP
      have e0 : Tks.nx (L.drop i) 0 = Tks.nx L i := by rw [Tks.nx_drop]; rfl
      rw [Tks.spl_step L i (by omega), Tks.spl_step (L.drop i) 0 (by rw [List.length_drop]; omega), tok_drop, e0]
      by_cases h32 : Tks.nx L i = 32
      · rw [if_pos h32, if_pos h32, ih L (i + 1) (by omega), ih (L.drop i) (0 + 1) (by rw [List.length_drop]; omega), List.drop_drop, Nat.zero_add]
      · rw [if_neg h32, if_neg h32]
        cases ht : Tks.tok L i with
        | none => rfl
        | some x =>
          obtain ⟨k, t, m⟩ := x
          have hp := (Tks.tok_pos (by omega) ht).1
          have h1 := ih L (i + m) (by omega)
          have h2 := ih (L.drop i) (0 + m) (by rw [List.length_drop]; omega)
          rw [List.drop_drop, Nat.zero_add, ← h1] at h2
          simp only [Nat.zero_add]
          cases h3 : Tks.spl L (i + m) with
          | mk a b =>
            cases h4 : Tks.spl (L.drop i) m with
            | mk a' b' =>
              rw [h3, h4] at h2
              cases a with
              | none =>
                cases a' with
                | none => rfl
                | some a' => cases h2
              | some a =>
                cases a' with
                | none => cases h2
                | some a' =>
                  simp only [Option.map_some, Option.some.injEq] at h2
                  simp only [Option.map_some, List.map_cons, h2]
                  rfl
theorem tkP_nil : tkP [] = some [] := by
  unfold tkP
  rw [Tks.spl_end [] 0 (by simp)]
  rfl
theorem tkP_tok {w r : Bs} {k : Int} {t : Bs} (hw : w ≠ []) (h32 : Tks.nx (w ++ r) 0 ≠ 32) (ht : Tks.tok (w ++ r) 0 = some (k, t, w.length)) : tkP (w ++ r) = (tkP r).map ((k, t) :: ·) := by
  have hl : 0 < (w ++ r).length := by cases w with | nil => exact absurd rfl hw | cons => simp
  have h := spl_drop (w ++ r).length (w ++ r) w.length (by omega)
  rw [List.drop_append_of_le_length (Nat.le_refl _), List.drop_length, List.nil_append] at h
  unfold tkP at h ⊢
  rw [Tks.spl_step _ 0 hl, if_neg h32, ht]
  simp only [Nat.zero_add]
  rw [← h]
  cases h3 : Tks.spl (w ++ r) w.length with
  | mk a b => cases a <;> rfl

theorem nx_app {w r : Bs} {i : Nat} (h : i < w.length) : Tks.nx (w ++ r) i = Tks.nx w i := by
  unfold Tks.nx
  simp [List.getD, List.getElem?_append_left h]
theorem nx_app0 (w r : Bs) : Tks.nx (w ++ r) w.length = Tks.nx r 0 := by
  unfold Tks.nx
  simp [List.getD, List.getElem?_append_right]
theorem nx_app1 (w r : Bs) (i : Nat) : Tks.nx (w ++ r) (w.length + i) = Tks.nx r i := by
  unfold Tks.nx
  simp [List.getD, List.getElem?_append_right]
theorem nx_cons (c : UInt8) (r : Bs) : Tks.nx (c :: r) 0 = c.toNat := rfl
theorem run_all {p : Nat → Bool} (h0 : p 0 = false) : ∀ (a s : Bs), a.all (fun c => p c.toNat) = true → p (Tks.nx s 0) = false → Tks.runN p (a ++ s) 0 = a.length := by
  intro a s ha hs
  unfold Tks.runN
  rw [List.drop_zero]
  induction a with
  | nil =>
    cases s with
    | nil => rfl
    | cons c s => rw [nx_cons] at hs; simp [List.takeWhile_cons, hs]
  | cons c a ih =>
    rw [List.all_cons, Bool.and_eq_true] at ha
    rw [List.cons_append, List.takeWhile_cons, if_pos ha.1, List.length_cons, List.length_cons, ih ha.2]

/-- A text that may follow a number, a name or a text. -/
def Sep (r : Bs) : Prop := Tks.dgB (Tks.nx r 0) = false ∧ Tks.upB (Tks.nx r 0) = false ∧ Tks.nx r 0 ≠ 46 ∧ Tks.nx r 0 ≠ 34
/-- A text that may follow an open < or >. -/
def Ope (r : Bs) : Prop := Tks.nx r 0 ≠ 61 ∧ Tks.nx r 0 ≠ 62
theorem Sep.nil : Sep [] := ⟨rfl, rfl, by decide, by decide⟩
/-- Digits, or digits, a point and digits. -/
def NumW (w : Bs) : Prop := ∃ a b, w = a ++ b ∧ a ≠ [] ∧ a.all (fun c => Tks.dgB c.toNat) = true ∧ (b = [] ∨ ∃ c, b = 46 :: c ∧ c ≠ [] ∧ c.all (fun c => Tks.dgB c.toNat) = true)
/-- A name: a letter, then letters and digits. -/
def NamW (w : Bs) : Prop := ∃ c r, w = c :: r ∧ Tks.upB c.toNat = true ∧ r.all (fun c => Tks.nmB c.toNat) = true

theorem tk_num {w r : Bs} (hw : NumW w) (hr : Sep r) : tkP (w ++ r) = (tkP r).map ((1, w) :: ·) := by
  obtain ⟨a, b, rfl, ha, hd, hb⟩ := hw
  obtain ⟨c0, a', rfl⟩ : ∃ c0 a', a = c0 :: a' := by cases a with | nil => exact absurd rfl ha | cons x y => exact ⟨x, y, rfl⟩
  have hc0 : Tks.dgB c0.toNat = true := by rw [List.all_cons, Bool.and_eq_true] at hd; exact hd.1
  have h0 : Tks.nx (c0 :: a' ++ b ++ r) 0 = c0.toNat := rfl
  have hn : Tks.numN (c0 :: a' ++ b ++ r) 0 = (c0 :: a' ++ b).length := by
    unfold Tks.numN
    rw [Nat.zero_add]
    rcases hb with rfl | ⟨c, rfl, hc, hcd⟩
    · rw [List.append_nil, run_all (by rfl) _ _ hd hr.1, nx_app0, if_neg hr.2.2.1]
    · rw [List.append_assoc, run_all (by rfl) (c0 :: a') (46 :: c ++ r) hd (by rw [List.cons_append, nx_cons]; rfl), nx_app0]
      rw [if_pos (by rfl)]
      have e : Tks.runN Tks.dgB (c0 :: a' ++ (46 :: c ++ r)) ((c0 :: a').length + 1) = c.length := by
        have := run_drop Tks.dgB (c0 :: a' ++ (46 :: c ++ r)) ((c0 :: a').length + 1) 0
        rw [Nat.add_zero] at this
        rw [← this, ← List.drop_drop, List.drop_append_of_le_length (Nat.le_refl _), List.drop_length, List.nil_append]
        exact run_all (by rfl) c r hcd hr.1
      rw [e, if_neg (by cases c with | nil => exact absurd rfl hc | cons => simp)]
      simp
      omega
  refine tkP_tok (by simp) (by rw [h0]; intro e; rw [e] at hc0; cases hc0) ?_
  unfold Tks.tok
  rw [h0, if_pos hc0, hn, if_neg (by simp), List.drop_zero, List.take_append_of_le_length (Nat.le_refl _), List.take_length]
theorem tk_nam {w r : Bs} (hw : NamW w) (hr : Sep r) : tkP (w ++ r) = (tkP r).map ((3, w) :: ·) := by
  obtain ⟨c0, a, rfl, hc0, ha⟩ := hw
  have h0 : Tks.nx (c0 :: a ++ r) 0 = c0.toNat := rfl
  have hd : Tks.dgB c0.toNat = false := by
    unfold Tks.upB at hc0
    unfold Tks.dgB
    simp only [Bool.and_eq_true, decide_eq_true_eq] at hc0
    rw [Bool.and_eq_false_iff]
    exact .inr (decide_eq_false (by omega))
  have hn : Tks.runN Tks.nmB (c0 :: a ++ r) 0 = (c0 :: a).length := by
    refine run_all (by rfl) _ _ ?_ ?_
    · rw [List.all_cons, ha]; simp [Tks.nmB, hc0]
    · unfold Tks.nmB; rw [hr.1, hr.2.1]; rfl
  refine tkP_tok (by simp) (by rw [h0]; intro e; rw [e] at hc0; cases hc0) ?_
  unfold Tks.tok
  rw [h0, if_neg (by rw [hd]; simp), if_pos hc0, hn, List.drop_zero, List.take_append_of_le_length (Nat.le_refl _), List.take_length]
theorem quo_dbl (r : Bs) (hr : Tks.nx r 0 ≠ 34) : ∀ t : Bs, Tks.quo (dblT t ++ 34 :: r) = some (t, (dblT t).length + 1)
  | [] => by
    cases r with
    | nil => rfl
    | cons c r =>
      rw [nx_cons] at hr
      show Tks.quo (34 :: c :: r) = _
      rw [Tks.quo, if_pos (by rfl), if_neg hr]
      rfl
  | c :: t => by
    have ih := quo_dbl r hr t
    unfold dblT
    split
    · rename_i h
      subst h
      show Tks.quo (34 :: 34 :: (dblT t ++ 34 :: r)) = _
      rw [Tks.quo, if_pos (by rfl), if_pos (by rfl), ih]
      simp
    · rename_i h
      have h34 : ¬ c.toNat = 34 := fun e => h (UInt8.toNat_inj.1 e)
      obtain ⟨d, q, hq⟩ : ∃ d q, dblT t ++ 34 :: r = d :: q := by
        cases hx : dblT t with
        | nil => exact ⟨_, _, rfl⟩
        | cons x y => exact ⟨_, _, rfl⟩
      show Tks.quo (c :: (dblT t ++ 34 :: r)) = _
      rw [hq] at ih ⊢
      rw [Tks.quo, if_neg h34, ih]
      simp
theorem tk_quo {t r : Bs} (hr : Sep r) : tkP (quoT t ++ r) = (tkP r).map ((2, t) :: ·) := by
  have h0 : Tks.nx (quoT t ++ r) 0 = 34 := rfl
  refine tkP_tok (by unfold quoT; simp) (by rw [h0]; decide) ?_
  have e : (quoT t ++ r).drop (0 + 1) = dblT t ++ 34 :: r := by unfold quoT; simp
  unfold Tks.tok
  rw [h0, if_neg (by decide), if_neg (by decide), if_pos rfl, e, quo_dbl r hr.2.2.2]
  unfold quoT
  simp
theorem tk_ref (r : Bs) : tkP (refBs ++ r) = (tkP r).map ((5, refBs) :: ·) := by
  have h0 : Tks.nx (refBs ++ r) 0 = 35 := rfl
  refine tkP_tok (by decide) (by rw [h0]; decide) ?_
  have hp : Lib.hasPrefix (refBs ++ r) Tks.sREF = true := by
    show ([35, 82, 69, 70, 33] : Bs).isPrefixOf (35 :: 82 :: 69 :: 70 :: 33 :: r) = true
    simp [List.isPrefixOf]
  unfold Tks.tok
  rw [h0, if_neg (by decide), if_neg (by decide), if_neg (by decide), List.drop_zero, hp, if_pos rfl]
  rfl
theorem sgn_app {s : Bs} (hs : s ∈ Tks.sgs) {r : Bs} (hr : s = [60] ∨ s = [62] → Ope r) : Tks.sgn (s ++ r) = s := by
  simp only [Tks.sgs, List.mem_cons, List.not_mem_nil, or_false] at hs
  have key : ∀ c : UInt8, c.toNat ≠ 61 → c.toNat ≠ 62 → ((61 : UInt8) == c) = false ∧ ((62 : UInt8) == c) = false := fun c h1 h2 =>
    ⟨by rw [beq_eq_false_iff_ne]; rintro rfl; exact h1 rfl, by rw [beq_eq_false_iff_ne]; rintro rfl; exact h2 rfl⟩
  rcases hs with rfl | rfl | rfl | rfl | rfl | rfl | rfl | rfl | rfl | rfl | rfl | rfl | rfl | rfl | rfl
  all_goals first
    | (simp [Tks.sgn, Tks.sgs, Lib.hasPrefix, List.find?, List.isPrefixOf]; done)
    | (have h := hr (by simp)
       cases r with
       | nil => rfl
       | cons c r =>
         have hk := key c h.1 h.2
         simp [Tks.sgn, Tks.sgs, Lib.hasPrefix, List.find?, List.isPrefixOf, hk.1, hk.2]; done)
theorem sgs_nx {s : Bs} (hs : s ∈ Tks.sgs) (r : Bs) : (s ++ r ≠ [] ∧ Tks.dgB (Tks.nx (s ++ r) 0) = false ∧ Tks.upB (Tks.nx (s ++ r) 0) = false ∧ Tks.nx (s ++ r) 0 ≠ 34 ∧ Tks.nx (s ++ r) 0 ≠ 32 ∧ Tks.nx (s ++ r) 0 ≠ 46 ∧ Tks.nx (s ++ r) 0 ≠ 35) ∧ s ≠ [] := by
  simp only [Tks.sgs, List.mem_cons, List.not_mem_nil, or_false] at hs
  rcases hs with rfl | rfl | rfl | rfl | rfl | rfl | rfl | rfl | rfl | rfl | rfl | rfl | rfl | rfl | rfl
  all_goals exact ⟨⟨by simp, by rfl, by rfl, by rw [List.cons_append, nx_cons]; decide, by rw [List.cons_append, nx_cons]; decide, by rw [List.cons_append, nx_cons]; decide, by rw [List.cons_append, nx_cons]; decide⟩, by simp⟩
theorem sep_sign {s : Bs} (hs : s ∈ Tks.sgs) (r : Bs) : Sep (s ++ r) := ⟨(sgs_nx hs r).1.2.1, (sgs_nx hs r).1.2.2.1, (sgs_nx hs r).1.2.2.2.2.2.1, (sgs_nx hs r).1.2.2.2.1⟩
theorem tk_sgn {s : Bs} (hs : s ∈ Tks.sgs) {r : Bs} (hr : s = [60] ∨ s = [62] → Ope r) : tkP (s ++ r) = (tkP r).map ((4, s) :: ·) := by
  obtain ⟨⟨h1, h2, h3, h4, h5, h6, h7⟩, hne⟩ := sgs_nx hs r
  have e := sgn_app hs hr
  refine tkP_tok hne h5 ?_
  have hp : Lib.hasPrefix (s ++ r) Tks.sREF = false := by
    cases hp : Lib.hasPrefix (s ++ r) Tks.sREF with
    | false => rfl
    | true =>
      obtain ⟨q, hq⟩ := List.isPrefixOf_iff_prefix.1 hp
      rw [← hq] at h7
      exact absurd rfl h7
  unfold Tks.tok
  rw [if_neg (by rw [h2]; simp), if_neg (by rw [h3]; simp), if_neg h4, List.drop_zero, hp, if_neg (by simp), e, if_neg hne]
end Go.Proofs.YtigmcoelkkihkaaGreatDoor
