/- The parser: 'call'. Printed by gen_par.py. The law's example, and both texts of a tree. -/
import Derived.Test.YtjklbbmgjjdalaaGreatDoorBqP
import Derived.Test.YtjklbbmgjjdalaaGreatDoorBqU
import Derived.Lib.ConvBytes
import Derived.Test.YtjklbbmgjjdalaaGreatDoorBqAh
set_option linter.unusedSimpArgs false
set_option linter.unusedVariables false
namespace Go.Proofs.YtjklbbmgjjdalaaGreatDoor
open Go.RowKit Go.Joins
structure KeptL (base b : Nat) (w : World) where
  v : World
  h : ∀ k, k < base → k ≠ b → v.heap[k]? = w.heap[k]?
instance (base b : Nat) (w : World) : Nonempty (KeptL base b w) := ⟨⟨w, fun _ _ _ => rfl⟩⟩
theorem KeptL.cell {base b : Nat} {w : World} {k o : Nat} {u : Value} (hk : k < base) (hb : k ≠ b) (hc : w.cell? ⟨k, o, none⟩ = some u) : ∀ x : KeptL base b w, x.v.cell? ⟨k, o, none⟩ = some u := fun x => by
  rw [← hc]
  unfold World.cell?
  rw [x.h k hk hb]
theorem keptL_drew (base b : Nat) (w : World) : ∃ x : KeptL base b w, w.drew = x.v := ⟨⟨w.drew, fun _ _ _ => rfl⟩, rfl⟩
def okR (base : Nat) (w : World) (v : Value) (k : Nat) : Prop := base ≤ k ∧ k < w.heap.size ∧ v.ownBlock ≠ some k
end Go.Proofs.YtjklbbmgjjdalaaGreatDoor
namespace Go.Proofs.YtjklbbmgjjdalaaGreatDoor
open Go.RowKit Go.Joins
set_option maxRecDepth 100000 in
set_option maxHeartbeats 4000000 in
theorem ptext_any (n : Nd) (d : Nat) (p : Option Addr) (len cap : Nat) (lv : Int) (w : World) (hrd : Cel.RdT w w.heap.size d n p len) (hok : OkN n) (hrt : rtN n lv = true) (hsh : w.ShapedOpen Tryz.prog) (hlen : wtN n ≤ 2200000) :
    Calls Tryz.prog 36 #[.agg (Cel.ndA n p len cap)] w fun e w' => e = .returned (.string ⟨(prN nmS n 1).toArray⟩) ∧ Below w.heap.size w w' := by
  have hA0 : Hid (Cel.NdB Cel.tPn (w.alloc (.cells (Cel.ndA n p len cap) Cel.tPn)) w.heap.size n p len cap) := heap_alloc_new w _
  have hAB : Hid (Below w.heap.size w (w.alloc (.cells (Cel.ndA n p len cap) Cel.tPn))) := by unfold Hid; (repeat' (first | (with_reducible exact Below.refl _ _) | (with_reducible assumption) | (with_reducible refine Below.alloc ?_ ?_ _) | (with_reducible refine bel_drewN ?_ _) | (with_reducible refine Below.drew ?_) | (with_reducible refine Below.setCell ?_ ?_ _) | (with_reducible refine bel_call ‹_› ?_ ?_) | go_size))
  have HP := Lib.hid (Cel.print_any n d p len cap lv (w.alloc (.cells (Cel.ndA n p len cap) Cel.tPn)) ((hrd.below hAB.out).mono hAB.out.size) hok hrt (shaped_below hsh hAB.out) hlen)
  generalize prN nmS n 1 = X at HP ⊢
  rw [Cel.ndA_eq] at HP
  rw [Cel.ndA_eq]
  clear hrd hok hrt hsh hlen
  go_enter Tryz.func36, Tryz.ntmps36
  go_upto_region 1 with fail
  have e0 : w.alloc (.cells #[.int .i64 n.kind, .int .i64 n.num, .string ⟨n.text.toArray⟩, .int .i64 (cC n.frm), .int .i64 (cR n.frm), .int .i64 (cC n.tor), .int .i64 (cR n.tor), .slice p len cap] Cel.tPn) = w.alloc (.cells (Cel.ndA n p len cap) Cel.tPn) := rfl
  rw [e0]
  clear e0
  generalize w.alloc (.cells (Cel.ndA n p len cap) Cel.tPn) = w0 at hA0 hAB HP ⊢
  obtain ⟨c0, c1, c2, c3, cd3, c4, cd4, c5⟩ := hA0.out.cells
  go_wp2_with fail
  refine HP.out.mono ?_
  rintro e w1 ⟨rfl, hb⟩
  have hB1 := bel_call hb hAB.out hAB.out.size
  go_wp2_with fail
  go_ret
  exact ⟨rfl, hB1⟩
set_option maxRecDepth 100000 in
set_option maxHeartbeats 4000000 in
theorem rtext10_any (n : Nd) (d : Nat) (p : Option Addr) (len cap : Nat) (lv : Int) (w : World) (hrd : RdT w w.heap.size d n p len) (hok : OkN n) (hfw : FewN n) (hrt : rtN n lv = true) (hlen : wtN n ≤ 2200000) :
    Calls Tryz.prog 17 #[.agg (ndA n p len cap)] w fun e w' => e = .returned (.string ⟨(prN nmS n 1).toArray⟩) ∧ Below w.heap.size w w' := by
  have hA0 : Hid (NdB tRn (w.alloc (.cells (ndA n p len cap) tRn)) w.heap.size n p len cap) := heap_alloc_new w _
  have hAB : Hid (Below w.heap.size w (w.alloc (.cells (ndA n p len cap) tRn))) := by unfold Hid; (repeat' (first | (with_reducible exact Below.refl _ _) | (with_reducible assumption) | (with_reducible refine Below.alloc ?_ ?_ _) | (with_reducible refine bel_drewN ?_ _) | (with_reducible refine Below.drew ?_) | (with_reducible refine Below.setCell ?_ ?_ _) | (with_reducible refine bel_call ‹_› ?_ ?_) | go_size))
  have HN := Lib.hid (named_any d n p len cap (w.alloc (.cells (ndA n p len cap) tRn)) ((hrd.below hAB.out).mono hAB.out.size) hok hfw)
  have HR := Lib.hid (fun q cq W (h : RdT W W.heap.size d (nmN nmS n) q len) => rprint_any d n q len cq 1 lv W trivial h hok hrt (by omega) (by omega) hlen)
  generalize prN nmS n 1 = X at HR ⊢
  rw [ndA_eq] at HN
  rw [ndA_eq]
  clear hrd hok hfw hrt hlen
  go_enter Tryz.func17, Tryz.ntmps17
  go_upto_region 1 with fail
  have e0 : w.alloc (.cells #[.int .i64 n.kind, .int .i64 n.num, .string ⟨n.text.toArray⟩, .int .i64 n.frm, .int .i64 n.tor, .slice p len cap] tRn) = w.alloc (.cells (ndA n p len cap) tRn) := rfl
  rw [e0]
  clear e0
  generalize w.alloc (.cells (ndA n p len cap) tRn) = w0 at hA0 hAB HN ⊢
  obtain ⟨c0, c1, c2, c3, c4, c5⟩ := hA0.out.cells
  go_wp2_with fail
  refine HN.out.mono ?_
  rintro e w1 ⟨⟨q, cq, rfl, hk⟩, hb⟩
  have hB1 : Hid (Below w.heap.size w w1) := bel_call hb hAB.out hAB.out.size
  have HR1 := Lib.hid (HR.out q cq w1 (hk.rdT (fun b h => h.2)))
  clear hb hk c0 c1 c2 c3 c4 c5 HN HR hA0
  rw [ndA_eq] at HR1
  rw [ndA_eq]
  go_wp2_with fail
  refine HR1.out.mono ?_
  rintro e w2 ⟨rfl, hb⟩
  have hB2 := bel_call hb hB1.out hB1.out.size
  go_wp2_with fail
  go_ret
  exact ⟨rfl, hB2⟩
end Go.Proofs.YtjklbbmgjjdalaaGreatDoor
