/- The law's 'plain'. Printed by gen_map2.py. The law's 'placed'. Printed by gen_map2.py. -/
import Derived.Test.YtbdgdhjhgcpidaaGreatDoorScT
import Derived.Test.YtbdgdhjhgcpidaaGreatDoorScK
import Derived.Deep.CutBlock
set_option linter.unusedSimpArgs false
set_option linter.unusedVariables false
namespace Go.Proofs.YtbdgdhjhgcpidaaGreatDoor
open Go.RowKit Go.Joins

mutual
/-- A tree without what its kinds don't have. -/
def plN : Nd → Nd
  | .mk k u t f o a => .mk k (if k = 1 then u else 0) (if k = 2 ∨ k = 6 ∨ k = 7 then t else []) (if k = 3 ∨ k = 4 then f else 0) (if k = 3 ∨ k = 4 then o else 0) (plNL a)
def plNL : List Nd → List Nd
  | [] => []
  | c :: r => plN c :: plNL r
end
theorem plNL_map : ∀ a, plNL a = a.map plN
  | [] => rfl
  | c :: r => by rw [plNL, plNL_map r]; rfl
theorem plN_args (n : Nd) : (plN n).args = n.args.map plN := by cases n; rw [plN]; exact plNL_map _
theorem plN_arr (n : Nd) (q : Option Addr) (i cp : Nat) : ndA (plN n) q i cp = #[.int .i64 n.kind, .int .i64 (if n.kind = 1 then n.num else 0), .string ⟨(if n.kind = 2 ∨ n.kind = 6 ∨ n.kind = 7 then n.text else []).toArray⟩, .int .i64 (if n.kind = 3 ∨ n.kind = 4 then n.frm else 0), .int .i64 (if n.kind = 3 ∨ n.kind = 4 then n.tor else 0), .slice q i cp] := by cases n; rw [plN]; rfl
/-- Which blocks the parts of a row may lie in. -/
def okMpl (base : Nat) (w : World) (v : Value) (k : Nat) : Prop := base ≤ k ∧ k < w.heap.size ∧ v.ownBlock ≠ some k
theorem kidsMpl {base G d' l' c2 : Nat} {wr w3 w5 : World} {o : Obj} {v v' u : Value} {acc : List Kid} {c : Nd} {p2 : Option Addr} (hG : G < base) (hbs : base ≤ wr.heap.size) (hb : Below wr.heap.size wr w3) (hg : (w3.alloc o).grownBy w5 v.ownBlock)
    (hat : v'.ownBlock = v.ownBlock ∨ v'.ownBlock = some (w3.alloc o).heap.size) (hlt : ∀ b, v.ownBlock = some b → b < wr.heap.size) (hk : ∀ x ∈ acc, RdP wr (okMpl base wr v) d' x.1 x.2.1 x.2.2.1)
    (hn : RdP w3 (fun b => wr.heap.size ≤ b ∧ b < w3.heap.size) d' c p2 l') :
    ∀ x ∈ acc ++ [(c, p2, l', c2)], RdP (w5.setCell ⟨G, 5, none⟩ u) (okMpl base (w5.setCell ⟨G, 5, none⟩ u) v') d' x.1 x.2.1 x.2.2.1 := by
  have hs := hb.size
  have hs2 := hg.size
  rw [World.size_alloc] at hs2 hat
  have hblk : ∀ b, G ≠ b → b < w3.heap.size → v.ownBlock ≠ some b → (w5.setCell ⟨G, 5, none⟩ u).heap[b]? = w3.heap[b]? := fun b h1 h2 h3 => by
    rw [heap_setCell_other _ _ _ _ (fun e => h1 e.symm), hg.block b (by rw [World.size_alloc]; omega) (fun e => h3 e.symm), heap_alloc_old _ _ h2]
  intro x hx
  rcases List.mem_append.1 hx with hx | hx
  · refine RdP.carry (fun b hb' => ?_) (hk x hx)
    obtain ⟨h1, h2, h3⟩ := hb'
    refine ⟨⟨h1, by rw [World.size_setCell]; omega, ?_⟩, ?_⟩
    · rcases hat with e | e
      · rw [e]; exact h3
      · rw [e]; intro e'; have := Option.some.inj e'; omega
    · rw [hblk b (by omega) (by omega) h3, hb.block b h2]
  · obtain rfl := List.mem_singleton.1 hx
    refine RdP.carry (fun b hb' => ?_) hn
    obtain ⟨h1, h2⟩ := hb'
    have h3 : v.ownBlock ≠ some b := fun e => by have := hlt b e; omega
    refine ⟨⟨by omega, by rw [World.size_setCell]; omega, ?_⟩, ?_⟩
    · rcases hat with e | e
      · rw [e]; exact h3
      · rw [e]; intro e'; have := Option.some.inj e'; omega
    · exact hblk b (by omega) h2 h3
end Go.Proofs.YtbdgdhjhgcpidaaGreatDoor
namespace Go.Proofs.YtbdgdhjhgcpidaaGreatDoor
open Go.RowKit Go.Joins

/-- A number as that of a cell that may be. -/
def onK (k : Int) : Int := (1 + ((IntKind.u64.wrap k).toNat % 702 : Nat) : Int) * 10000 + (1 + ((IntKind.u64.wrap k).toNat / 702 % 9999 : Nat) : Int)
mutual
/-- A tree whose references are cells that may be. -/
def pcN : Nd → Nd
  | .mk k u t f o a => .mk k u t (if k = 3 ∨ k = 4 then onK f else 0) (if k = 4 then onK o else 0) (pcNL a)
def pcNL : List Nd → List Nd
  | [] => []
  | c :: r => pcN c :: pcNL r
end
theorem pcNL_map : ∀ a, pcNL a = a.map pcN
  | [] => rfl
  | c :: r => by rw [pcNL, pcNL_map r]; rfl
theorem pcN_args (n : Nd) : (pcN n).args = n.args.map pcN := by cases n; rw [pcN]; exact pcNL_map _
theorem pcN_arr (n : Nd) (q : Option Addr) (i cp : Nat) : ndA (pcN n) q i cp = #[.int .i64 n.kind, .int .i64 n.num, .string ⟨n.text.toArray⟩, .int .i64 (if n.kind = 3 ∨ n.kind = 4 then onK n.frm else 0), .int .i64 (if n.kind = 4 then onK n.tor else 0), .slice q i cp] := by cases n; rw [pcN]; rfl
set_option maxRecDepth 100000 in
set_option maxHeartbeats 16000000 in
theorem rcell_num (c r : Int) (h1 : 0 ≤ c) (h2 : c ≤ 100000) (h3 : 0 ≤ r) (h4 : r ≤ 100000) (w : World) : Calls Tryz.prog 9 #[.int .i64 c, .int .i64 r] w fun e w' => e = .returned (.int .i64 (c * 10000 + r)) ∧ w = w' := by
  have f1 : IntKind.i64.wrap (c * 10000) = c * 10000 := IntWalk.i64_in _ (by omega)
  have f2 : IntKind.i64.wrap (c * 10000 + r) = c * 10000 + r := IntWalk.i64_in _ (by omega)
  go_enter Tryz.func9, Tryz.ntmps9
  go_wp2_with fail
  go_ret
  exact ⟨rfl, rfl⟩
/-- Which blocks the parts of a row may lie in. -/
def okMpc (base : Nat) (w : World) (v : Value) (k : Nat) : Prop := base ≤ k ∧ k < w.heap.size ∧ v.ownBlock ≠ some k
theorem kidsMpc {base G d' l' c2 : Nat} {wr w3 w5 : World} {o : Obj} {v v' u : Value} {acc : List Kid} {c : Nd} {p2 : Option Addr} (hG : G < base) (hbs : base ≤ wr.heap.size) (hb : Below wr.heap.size wr w3) (hg : (w3.alloc o).grownBy w5 v.ownBlock)
    (hat : v'.ownBlock = v.ownBlock ∨ v'.ownBlock = some (w3.alloc o).heap.size) (hlt : ∀ b, v.ownBlock = some b → b < wr.heap.size) (hk : ∀ x ∈ acc, RdP wr (okMpc base wr v) d' x.1 x.2.1 x.2.2.1)
    (hn : RdP w3 (fun b => wr.heap.size ≤ b ∧ b < w3.heap.size) d' c p2 l') :
    ∀ x ∈ acc ++ [(c, p2, l', c2)], RdP (w5.setCell ⟨G, 5, none⟩ u) (okMpc base (w5.setCell ⟨G, 5, none⟩ u) v') d' x.1 x.2.1 x.2.2.1 := by
  have hs := hb.size
  have hs2 := hg.size
  rw [World.size_alloc] at hs2 hat
  have hblk : ∀ b, G ≠ b → b < w3.heap.size → v.ownBlock ≠ some b → (w5.setCell ⟨G, 5, none⟩ u).heap[b]? = w3.heap[b]? := fun b h1 h2 h3 => by
    rw [heap_setCell_other _ _ _ _ (fun e => h1 e.symm), hg.block b (by rw [World.size_alloc]; omega) (fun e => h3 e.symm), heap_alloc_old _ _ h2]
  intro x hx
  rcases List.mem_append.1 hx with hx | hx
  · refine RdP.carry (fun b hb' => ?_) (hk x hx)
    obtain ⟨h1, h2, h3⟩ := hb'
    refine ⟨⟨h1, by rw [World.size_setCell]; omega, ?_⟩, ?_⟩
    · rcases hat with e | e
      · rw [e]; exact h3
      · rw [e]; intro e'; have := Option.some.inj e'; omega
    · rw [hblk b (by omega) (by omega) h3, hb.block b h2]
  · obtain rfl := List.mem_singleton.1 hx
    refine RdP.carry (fun b hb' => ?_) hn
    obtain ⟨h1, h2⟩ := hb'
    have h3 : v.ownBlock ≠ some b := fun e => by have := hlt b e; omega
    refine ⟨⟨by omega, by rw [World.size_setCell]; omega, ?_⟩, ?_⟩
    · rcases hat with e | e
      · rw [e]; exact h3
      · rw [e]; intro e'; have := Option.some.inj e'; omega
    · exact hblk b (by omega) h2 h3
end Go.Proofs.YtbdgdhjhgcpidaaGreatDoor
