/- Bind: a cell that is there no more, as a text. Bind: a cell told back: Back, Text at one; the law's example. Bind: Back and Text at one cell that is there no more; the law's example. Bind: the law's example; the walk of BindCells. Bind: the law's arguments opened. -/
import Derived.Test.YtjklbbmgjjdalaaGreatDoorBbE
import Derived.Test.YtjklbbmgjjdalaaGreatDoorBbK
import Derived.Defers
import Derived.Test.YtjklbbmgjjdalaaGreatDoorBbA
import Derived.ProofKit
import Derived.OpenShut
import Derived.ShutString
import Derived.ChangeSlices
import Derived.ChangeArms
import Derived.DataReads
import Derived.Deep.Slices
import Derived.Deep.Fields
import Derived.ChangeSame
set_option linter.unusedSimpArgs false
set_option linter.unusedVariables false
namespace Go.Proofs.YtjklbbmgjjdalaaGreatDoor.Bd
open Go.RowKit Go.Joins
abbrev tNr : TypeId := 38
abbrev tNc : TypeId := 48
abbrev refS : List UInt8 := [35, 82, 69, 70, 33]
theorem IsBuilder_below' {T e : TypeId} {B b : Nat} {bs : List Value} {w w' : World} (h : Lib.IsBuilder T e B b bs w) (hb : Below w.heap.size w w') : Lib.IsBuilder T e B b bs w' := by
  have go : ∀ {p : Value}, Lib.BuilderAt T e B b p bs w → Lib.BuilderAt T e B b p bs w' := fun {p} h => by
    have hlt := h.lt
    obtain ⟨h1, v, h2, h3, h4⟩ := h
    exact ⟨h1, v, (hb.block b hlt).trans h2, row_below h3 hb, h4⟩
  rcases h with h | h
  · exact .inl (go h)
  · exact .inr (go h)
abbrev fltV : Value := .agg #[.int .i64 8, .int .i64 0, .string ⟨#[]⟩, .int .i64 0, .int .i64 0, .int .i64 0, .int .i64 0, .slice none 0 0]
set_option maxRecDepth 100000 in
set_option maxHeartbeats 1000000 in
theorem strength_flt (w : World) : Calls Tryz.prog 95 #[fltV] w fun e w' => e = .returned (.int .i64 6) ∧ Below w.heap.size w w' := by
  have hB : Hid (Below w.heap.size w (w.alloc (.cells #[.int .i64 8, .int .i64 0, .string ⟨#[]⟩, .int .i64 0, .int .i64 0, .int .i64 0, .int .i64 0, .slice none 0 0] tNc))) := by unfold Hid; (repeat' (first | (with_reducible exact Below.refl _ _) | (with_reducible assumption) | (with_reducible refine Below.alloc ?_ ?_ _) | (with_reducible refine bel_drewN ?_ _) | (with_reducible refine Below.drew ?_) | (with_reducible refine Below.setCell ?_ ?_ _) | (with_reducible refine bel_call ‹_› ?_ ?_) | go_size))
  go_enter Tryz.func95, Tryz.ntmps95
  go_wp2_with fail
  go_ret
  exact ⟨rfl, hB.out⟩
set_option maxRecDepth 100000 in
set_option maxHeartbeats 2000000 in
theorem write_flt (B b : Nat) (F : Value) (w : World) (hib : Lib.IsBuilder tBd 5 B b (Lib.byteCells []) w) (hB : B ≤ w.heap.size) :
    Calls Tryz.prog 73 #[.pointer (some ⟨b, 0, none⟩), fltV, .int .i64 1, F] w fun e w' => e = .returned (.tuple #[]) ∧ Lib.IsBuilder tBd 5 B b (Lib.byteCells refS) w' ∧ Below B w w' := by
  have hA0 : Hid (BlkC (w.alloc (.cells #[.int .i64 8, .int .i64 0, .string ⟨#[]⟩, .int .i64 0, .int .i64 0, .int .i64 0, .int .i64 0, .slice none 0 0] tNc)) w.heap.size #[.int .i64 8, .int .i64 0, .string ⟨#[]⟩, .int .i64 0, .int .i64 0, .int .i64 0, .int .i64 0, .slice none 0 0] tNc) := blk_new w _ _
  have hAB : Hid (Below B w (w.alloc (.cells #[.int .i64 8, .int .i64 0, .string ⟨#[]⟩, .int .i64 0, .int .i64 0, .int .i64 0, .int .i64 0, .slice none 0 0] tNc))) := (Below.refl B w).alloc hB _
  have HIB := Lib.hid (IsBuilder_below' hib (Below.alloc (Below.refl w.heap.size w) (Nat.le_refl _) (.cells #[.int .i64 8, .int .i64 0, .string ⟨#[]⟩, .int .i64 0, .int .i64 0, .int .i64 0, .int .i64 0, .slice none 0 0] tNc)))
  clear hib
  go_enter_defers Tryz.func73, Tryz.ntmps73
  go_upto_region 1 with fail
  generalize w.alloc (.cells #[.int .i64 8, .int .i64 0, .string ⟨#[]⟩, .int .i64 0, .int .i64 0, .int .i64 0, .int .i64 0, .slice none 0 0] tNc) = w0 at hA0 hAB HIB ⊢
  have c0 := hA0.out.cell 0 _ rfl
  have c1 := hA0.out.cell 1 _ rfl
  have c2 := hA0.out.cell 2 _ rfl
  have c3 := hA0.out.cell 3 _ rfl
  have c4 := hA0.out.cell 4 _ rfl
  have c5 := hA0.out.cell 5 _ rfl
  have c6 := hA0.out.cell 6 _ rfl
  have c7 := hA0.out.cell 7 _ rfl
  go_wp2_with fail
  refine (strength_flt w0).mono ?_
  rintro e w1 ⟨rfl, hb1⟩
  have hz0 : B ≤ w0.heap.size := Nat.le_trans hB hAB.out.size
  have hB1 : Hid (Below B w w1) := bel_call hb1 hAB.out hz0
  have hA1 := Lib.hid (hA0.out.below hb1)
  have HI1 := Lib.hid (IsBuilder_below' HIB.out hb1)
  have hz1 : B ≤ w1.heap.size := Nat.le_trans hz0 hb1.size
  generalize w.heap.size = bn at hA0 hA1 hB hb1 ⊢
  clear hb1 hA0 HIB hAB hz0 c0 c1 c2 c3 c4 c5 c6 c7
  have c0 := hA1.out.cell 0 _ rfl
  have hXs : (⟨#[35, 82, 69, 70, 33]⟩ : ByteArray).size = 5 := rfl
  go_wp2_with fail
  refine (write_at B b [] ⟨#[35, 82, 69, 70, 33]⟩ w1 HI1.out (by rw [hXs]; simp) hz1).mono ?_
  rintro e w3 ⟨rfl, hi3, hb3⟩
  have hB3 : Hid (Below B w w3) := hB1.out.trans hb3
  have HI3 := Lib.hid hi3
  clear hi3 hb3 HI1 hB1 hXs
  go_wp2_with fail
  exact ⟨_, results_none rfl _ _ _, rfl, HI3.out, hB3.out⟩
set_option maxRecDepth 100000 in
set_option maxHeartbeats 2000000 in
theorem print_flt (F : Value) (w : World) : Calls Tryz.prog 54 #[fltV, F] w fun e w' => e = .returned (.string ⟨refS.toArray⟩) ∧ Below w.heap.size w w' := by
  have hA0 : Hid (BlkC (w.alloc (.cells #[.int .i64 8, .int .i64 0, .string ⟨#[]⟩, .int .i64 0, .int .i64 0, .int .i64 0, .int .i64 0, .slice none 0 0] tNc)) w.heap.size #[.int .i64 8, .int .i64 0, .string ⟨#[]⟩, .int .i64 0, .int .i64 0, .int .i64 0, .int .i64 0, .slice none 0 0] tNc) := blk_new w _ _
  have hAB : Hid (Below w.heap.size w (w.alloc (.cells #[.int .i64 8, .int .i64 0, .string ⟨#[]⟩, .int .i64 0, .int .i64 0, .int .i64 0, .int .i64 0, .slice none 0 0] tNc))) := by unfold Hid; (repeat' (first | (with_reducible exact Below.refl _ _) | (with_reducible assumption) | (with_reducible refine Below.alloc ?_ ?_ _) | (with_reducible refine bel_drewN ?_ _) | (with_reducible refine Below.drew ?_) | (with_reducible refine Below.setCell ?_ ?_ _) | (with_reducible refine bel_call ‹_› ?_ ?_) | go_size))
  go_enter Tryz.func54, Tryz.ntmps54
  go_upto_region 1 with fail
  generalize w.alloc (.cells #[.int .i64 8, .int .i64 0, .string ⟨#[]⟩, .int .i64 0, .int .i64 0, .int .i64 0, .int .i64 0, .slice none 0 0] tNc) = w0 at hA0 hAB ⊢
  go_upto_region 2 with fail
  have hib : Hid (Lib.IsBuilder tBd 5 w.heap.size w0.heap.size (Lib.byteCells []) (w0.alloc (.cells #[.pointer none, .slice none 0 0] tBd))) := bd_fresh w.heap.size w0 hAB.out.size
  have hB1 : Hid (Below w.heap.size w (w0.alloc (.cells #[.pointer none, .slice none 0 0] tBd))) := hAB.out.alloc hAB.out.size _
  have hA1 := Lib.hid (hA0.out.alloc (.cells #[.pointer none, .slice none 0 0] tBd))
  generalize w0.alloc (.cells #[.pointer none, .slice none 0 0] tBd) = w1 at hib hB1 hA1 ⊢
  generalize w0.heap.size = b at hib ⊢
  have c0 := hA1.out.cell 0 _ rfl
  have c1 := hA1.out.cell 1 _ rfl
  have c2 := hA1.out.cell 2 _ rfl
  have c3 := hA1.out.cell 3 _ rfl
  have c4 := hA1.out.cell 4 _ rfl
  have c5 := hA1.out.cell 5 _ rfl
  have c6 := hA1.out.cell 6 _ rfl
  have c7 := hA1.out.cell 7 _ rfl
  go_wp2_with fail
  refine (write_flt w.heap.size b F w1 hib.out hB1.out.size).mono ?_
  rintro e w2 ⟨rfl, hi2, hb2⟩
  have hB2 : Hid (Below w.heap.size w w2) := hB1.out.trans hb2
  have HI2 := Lib.hid hi2
  clear hi2 hb2 hB1 hib hA1 c0 c1 c2 c3 c4 c5 c6 c7 hA0 hAB
  go_wp2_with fail
  refine (bd_string w.heap.size b _ w2 HI2.out hB2.out.size).mono ?_
  rintro e w3 ⟨rfl, hb3⟩
  go_wp2_with fail
  go_ret
  exact ⟨rfl, hB2.out.trans hb3⟩
set_option maxRecDepth 100000 in
set_option maxHeartbeats 1000000 in
theorem ptext_flt (w : World) : Calls Tryz.prog 36 #[fltV] w fun e w' => e = .returned (.string ⟨refS.toArray⟩) ∧ Below w.heap.size w w' := by
  have hA0 : Hid (BlkC (w.alloc (.cells #[.int .i64 8, .int .i64 0, .string ⟨#[]⟩, .int .i64 0, .int .i64 0, .int .i64 0, .int .i64 0, .slice none 0 0] tNc)) w.heap.size #[.int .i64 8, .int .i64 0, .string ⟨#[]⟩, .int .i64 0, .int .i64 0, .int .i64 0, .int .i64 0, .slice none 0 0] tNc) := blk_new w _ _
  have hAB : Hid (Below w.heap.size w (w.alloc (.cells #[.int .i64 8, .int .i64 0, .string ⟨#[]⟩, .int .i64 0, .int .i64 0, .int .i64 0, .int .i64 0, .slice none 0 0] tNc))) := by unfold Hid; (repeat' (first | (with_reducible exact Below.refl _ _) | (with_reducible assumption) | (with_reducible refine Below.alloc ?_ ?_ _) | (with_reducible refine bel_drewN ?_ _) | (with_reducible refine Below.drew ?_) | (with_reducible refine Below.setCell ?_ ?_ _) | (with_reducible refine bel_call ‹_› ?_ ?_) | go_size))
  have HP := Lib.hid (fun F W => print_flt F W)
  go_enter Tryz.func36, Tryz.ntmps36
  go_upto_region 1 with fail
  generalize w.alloc (.cells #[.int .i64 8, .int .i64 0, .string ⟨#[]⟩, .int .i64 0, .int .i64 0, .int .i64 0, .int .i64 0, .slice none 0 0] tNc) = w0 at hA0 hAB ⊢
  have c0 := hA0.out.cell 0 _ rfl
  have c1 := hA0.out.cell 1 _ rfl
  have c2 := hA0.out.cell 2 _ rfl
  have c3 := hA0.out.cell 3 _ rfl
  have c4 := hA0.out.cell 4 _ rfl
  have c5 := hA0.out.cell 5 _ rfl
  have c6 := hA0.out.cell 6 _ rfl
  have c7 := hA0.out.cell 7 _ rfl
  go_wp2_with fail
  refine (HP.out _ _).mono ?_
  rintro e w1 ⟨rfl, hb⟩
  have hB1 := bel_call hb hAB.out hAB.out.size
  go_wp2_with fail
  go_ret
  exact ⟨rfl, hB1⟩
end Go.Proofs.YtjklbbmgjjdalaaGreatDoor.Bd
namespace Go.Proofs.YtjklbbmgjjdalaaGreatDoor.Bd
open Go.RowKit Go.Joins
set_option maxRecDepth 100000 in
set_option maxHeartbeats 2000000 in
theorem back1_any (rows cols : List Idp) (x y : Idp) (p : Option Addr) (n cap : Nat) (p2 : Option Addr) (n2 cap2 : Nat) (b3 b4 : Nat) (tI : TypeId) (w : World) (hrd : RdG idE 2 w p n rows) (hn : n ≤ 1000000) (hrd2 : RdG idE 2 w p2 n2 cols) (hn2 : n2 ≤ 1000000)
    (h3 : BlkC w b3 #[axV p n cap] tI) (h4 : BlkC w b4 #[axV p2 n2 cap2] tI) :
    Calls Tryz.prog 34 #[.agg #[.int .u64 x.1, .int .i64 x.2, .int .u64 y.1, .int .i64 y.2], .pointer (some ⟨b3, 0, none⟩), .pointer (some ⟨b4, 0, none⟩)] w fun e w' => e = .returned (.tuple #[.agg #[.int .i64 (plcS rows cols x y).1.1, .int .i64 (plcS rows cols x y).1.2], .bool (plcS rows cols x y).2]) ∧ Below w.heap.size w w' := by
  have HPL := Lib.hid (fun W (hW : Below w.heap.size w W) => place_any rows cols x y p n cap p2 n2 cap2 W (hrd.below hW) hn (hrd2.below hW) hn2)
  have hh := Lib.hid (two_heap w (.cells #[.int .u64 x.1, .int .i64 x.2, .int .u64 y.1, .int .i64 y.2] tRf) (.cells #[.int .i64 0, .int .i64 0] tCl))
  have hAB : Hid (Below w.heap.size w ((w.alloc (.cells #[.int .u64 x.1, .int .i64 x.2, .int .u64 y.1, .int .i64 y.2] tRf)).alloc (.cells #[.int .i64 0, .int .i64 0] tCl))) := by unfold Hid; (repeat' (first | (with_reducible exact Below.refl _ _) | (with_reducible assumption) | (with_reducible refine Below.alloc ?_ ?_ _) | (with_reducible refine bel_drewN ?_ _) | (with_reducible refine Below.drew ?_) | (with_reducible refine Below.setCell ?_ ?_ _) | (with_reducible refine bel_call ‹_› ?_ ?_) | go_size))
  have H3 := Lib.hid (h3.below hAB.out)
  have H4 := Lib.hid (h4.below hAB.out)
  generalize plcS rows cols x y = S at HPL ⊢
  obtain ⟨⟨s1, s2⟩, s3⟩ := S
  clear hrd hrd2 h3 h4
  go_enter Tryz.func34, Tryz.ntmps34
  go_upto_region 1 with fail
  generalize (w.alloc (.cells #[.int .u64 x.1, .int .i64 x.2, .int .u64 y.1, .int .i64 y.2] tRf)).alloc (.cells #[.int .i64 0, .int .i64 0] tCl) = w0 at hh hAB H3 H4 ⊢
  have hA0 : Hid (BlkC w0 w.heap.size #[.int .u64 x.1, .int .i64 x.2, .int .u64 y.1, .int .i64 y.2] tRf) := hh.out.1
  have hA1 : Hid (BlkC w0 (w.heap.size + 1) #[.int .i64 0, .int .i64 0] tCl) := hh.out.2
  have c0 := hA0.out.cell 0 _ rfl
  have c1 := hA0.out.cell 1 _ rfl
  have c2 := hA0.out.cell 2 _ rfl
  have c3 := hA0.out.cell 3 _ rfl
  have g3 := H3.out.cell 0 _ rfl
  have g4 := H4.out.cell 0 _ rfl
  go_wp2_with fail
  refine (HPL.out _ hAB.out).mono ?_
  rintro e w1 ⟨rfl, hb⟩
  have hB1 : Below w.heap.size w w1 := bel_call hb hAB.out hAB.out.size
  have hA2 := hA1.out.below hb
  have z0 := hA2.cell 0 _ rfl
  have z1 := hA2.cell 1 _ rfl
  have f0 := hA2.fz 0
  have f1 := hA2.fz 1
  have hsz : w.heap.size ≤ w.heap.size + 1 := by omega
  clear hb hAB hA0 hA1 c0 c1 c2 c3 g3 g4 H3 H4 hh HPL
  go_wp2_with fail
  refine bodyPost_ret (v := .tuple #[.agg #[.int .i64 s1, .int .i64 s2], .bool s3]) (by simp only [results, Tryz.results34]; go_simp) rfl ⟨rfl, by (repeat' (first | (with_reducible exact Below.refl _ _) | (with_reducible assumption) | (with_reducible refine Below.alloc ?_ ?_ _) | (with_reducible refine bel_drewN ?_ _) | (with_reducible refine Below.drew ?_) | (with_reducible refine Below.setCell ?_ ?_ _) | (with_reducible refine bel_call ‹_› ?_ ?_) | go_size))⟩
theorem three_blk (w : World) (a b c : Obj) : (((w.alloc a).alloc b).alloc c).heap[w.heap.size]? = some a ∧ (((w.alloc a).alloc b).alloc c).heap[w.heap.size + 1]? = some b ∧ (((w.alloc a).alloc b).alloc c).heap[w.heap.size + 2]? = some c := by
  refine ⟨?_, ?_, ?_⟩ <;> simp only [World.alloc, Array.getElem?_push, Array.size_push] <;> (repeat (first | rfl | (rw [if_neg (by omega)]) | (rw [if_pos (by omega)])))
theorem set_same {w : World} {g : Nat} {cs : Array Value} {t : TypeId} (j : Nat) (v : Value) (h : BlkC w g cs t) : BlkC (w.setCell ⟨g, j, none⟩ v) g (cs.setIfInBounds j v) t := heap_setCell_same w g j cs t v h
theorem eight_heap {w : World} {g : Nat} {t : TypeId} {c0 c1 c2 c3 c4 c5 c6 c7 : Value} (v0 v1 v2 v3 v4 v5 v6 v7 : Value) (h : BlkC w g #[c0, c1, c2, c3, c4, c5, c6, c7] t) : BlkC ((((((((w.setCell ⟨g, 0, none⟩ v0).setCell ⟨g, 1, none⟩ v1).setCell ⟨g, 2, none⟩ v2).setCell ⟨g, 3, none⟩ v3).setCell ⟨g, 4, none⟩ v4).setCell ⟨g, 5, none⟩ v5).setCell ⟨g, 6, none⟩ v6).setCell ⟨g, 7, none⟩ v7) g #[v0, v1, v2, v3, v4, v5, v6, v7] t ∧ (∀ N, N ≤ g → Below N w ((((((((w.setCell ⟨g, 0, none⟩ v0).setCell ⟨g, 1, none⟩ v1).setCell ⟨g, 2, none⟩ v2).setCell ⟨g, 3, none⟩ v3).setCell ⟨g, 4, none⟩ v4).setCell ⟨g, 5, none⟩ v5).setCell ⟨g, 6, none⟩ v6).setCell ⟨g, 7, none⟩ v7)) := by
  refine ⟨?_, fun N hN => ?_⟩
  · have := set_same 7 v7 (set_same 6 v6 (set_same 5 v5 (set_same 4 v4 (set_same 3 v3 (set_same 2 v2 (set_same 1 v1 (set_same 0 v0 h)))))))
    simpa using this
  · exact Below.setCell (Below.setCell (Below.setCell (Below.setCell (Below.setCell (Below.setCell (Below.setCell (Below.setCell (Below.refl _ _) hN _) hN _) hN _) hN _) hN _) hN _) hN _) hN _
abbrev refV (x y : Idp) : Value := .agg #[.int .i64 3, .int .i64 0, .string ⟨#[]⟩, .int .u64 x.1, .int .i64 x.2, .int .u64 y.1, .int .i64 y.2, .int .u64 0, .int .i64 0, .int .u64 0, .int .i64 0, .slice none 0 0]
set_option maxRecDepth 100000 in
set_option maxHeartbeats 4000000 in
theorem map_ref (x y : Idp) (b3 b4 : Nat) (w : World)
    (HG : ∀ W, Below w.heap.size w W → Calls Tryz.prog 34 #[.agg #[.int .u64 x.1, .int .i64 x.2, .int .u64 y.1, .int .i64 y.2], .pointer (some ⟨b3, 0, none⟩), .pointer (some ⟨b4, 0, none⟩)] W fun e w' => e = .returned (.tuple #[.agg #[.int .i64 0, .int .i64 0], .bool false]) ∧ Below W.heap.size W w') :
    Calls Tryz.prog 33 #[refV x y, .func (.func 34) #[] #[.pointer (some ⟨b3, 0, none⟩), .pointer (some ⟨b4, 0, none⟩)]] w fun e w' => e = .returned fltV ∧ Below w.heap.size w w' := by
  have HGG := Lib.hid HG
  clear HG
  go_enter Tryz.func33, Tryz.ntmps33
  go_upto_region 2 with fail
  have hh := Lib.hid (three_blk w (.cells #[.int .i64 3, .int .i64 0, .string ⟨#[]⟩, .int .u64 x.1, .int .i64 x.2, .int .u64 y.1, .int .i64 y.2, .int .u64 0, .int .i64 0, .int .u64 0, .int .i64 0, .slice none 0 0] tNr) (.cells #[.int .i64 0, .int .i64 0, .string ⟨#[]⟩, .int .i64 0, .int .i64 0, .int .i64 0, .int .i64 0, .slice none 0 0] tNc) (.cells #[.int .i64 3, .int .i64 0, .string ⟨#[]⟩, .int .i64 0, .int .i64 0, .int .i64 0, .int .i64 0, .slice none 0 0] tNc))
  have hAB : Hid (Below w.heap.size w (((w.alloc (.cells #[.int .i64 3, .int .i64 0, .string ⟨#[]⟩, .int .u64 x.1, .int .i64 x.2, .int .u64 y.1, .int .i64 y.2, .int .u64 0, .int .i64 0, .int .u64 0, .int .i64 0, .slice none 0 0] tNr)).alloc (.cells #[.int .i64 0, .int .i64 0, .string ⟨#[]⟩, .int .i64 0, .int .i64 0, .int .i64 0, .int .i64 0, .slice none 0 0] tNc)).alloc (.cells #[.int .i64 3, .int .i64 0, .string ⟨#[]⟩, .int .i64 0, .int .i64 0, .int .i64 0, .int .i64 0, .slice none 0 0] tNc))) := by unfold Hid; (repeat' (first | (with_reducible exact Below.refl _ _) | (with_reducible assumption) | (with_reducible refine Below.alloc ?_ ?_ _) | (with_reducible refine bel_drewN ?_ _) | (with_reducible refine Below.drew ?_) | (with_reducible refine Below.setCell ?_ ?_ _) | (with_reducible refine bel_call ‹_› ?_ ?_) | go_size))
  generalize ((w.alloc (.cells #[.int .i64 3, .int .i64 0, .string ⟨#[]⟩, .int .u64 x.1, .int .i64 x.2, .int .u64 y.1, .int .i64 y.2, .int .u64 0, .int .i64 0, .int .u64 0, .int .i64 0, .slice none 0 0] tNr)).alloc (.cells #[.int .i64 0, .int .i64 0, .string ⟨#[]⟩, .int .i64 0, .int .i64 0, .int .i64 0, .int .i64 0, .slice none 0 0] tNc)).alloc (.cells #[.int .i64 3, .int .i64 0, .string ⟨#[]⟩, .int .i64 0, .int .i64 0, .int .i64 0, .int .i64 0, .slice none 0 0] tNc) = w0 at hh hAB ⊢
  have hA0 : Hid (BlkC w0 w.heap.size #[.int .i64 3, .int .i64 0, .string ⟨#[]⟩, .int .u64 x.1, .int .i64 x.2, .int .u64 y.1, .int .i64 y.2, .int .u64 0, .int .i64 0, .int .u64 0, .int .i64 0, .slice none 0 0] tNr) := hh.out.1
  have hA1 : Hid (BlkC w0 (w.heap.size + 1) #[.int .i64 0, .int .i64 0, .string ⟨#[]⟩, .int .i64 0, .int .i64 0, .int .i64 0, .int .i64 0, .slice none 0 0] tNc) := hh.out.2.1
  have hA2 : Hid (BlkC w0 (w.heap.size + 2) #[.int .i64 3, .int .i64 0, .string ⟨#[]⟩, .int .i64 0, .int .i64 0, .int .i64 0, .int .i64 0, .slice none 0 0] tNc) := hh.out.2.2
  clear hh
  have c0 := hA0.out.cell 0 _ rfl
  have c3 := hA0.out.cell 3 _ rfl
  have c4 := hA0.out.cell 4 _ rfl
  have c5 := hA0.out.cell 5 _ rfl
  have c6 := hA0.out.cell 6 _ rfl
  go_wp2_with fail
  go_at_call 34
  refine (HGG.out w0 hAB.out).mono ?_
  rintro e w1 ⟨rfl, hb⟩
  have hB1 : Hid (Below w.heap.size w w1) := bel_call hb hAB.out hAB.out.size
  have hM0 := Lib.hid (hA0.out.below hb)
  have hM1 := Lib.hid (hA1.out.below hb)
  have hM2 := Lib.hid (hA2.out.below hb)
  clear hb hAB hA0 hA1 hA2 c0 c3 c4 c5 c6
  go_upto_region 4 with fail
  have hN6 := Lib.hid (blk_new w1 #[.int .i64 0, .int .i64 0] tCl)
  have hP0 := Lib.hid (hM0.out.alloc (.cells #[.int .i64 0, .int .i64 0] tCl))
  have hP1 := Lib.hid (hM1.out.alloc (.cells #[.int .i64 0, .int .i64 0] tCl))
  have hP2 := Lib.hid (hM2.out.alloc (.cells #[.int .i64 0, .int .i64 0] tCl))
  have hB2 : Hid (Below w.heap.size w (w1.alloc (.cells #[.int .i64 0, .int .i64 0] tCl))) := hB1.out.alloc hB1.out.size _
  generalize w1.alloc (.cells #[.int .i64 0, .int .i64 0] tCl) = w2 at hN6 hP0 hP1 hP2 hB2 ⊢
  generalize w1.heap.size = g6 at hN6 ⊢
  have n0 := hN6.out.cell 0 _ rfl
  have n1 := hN6.out.cell 1 _ rfl
  have e3 := hP2.out.cell 3 _ rfl
  have e4 := hP2.out.cell 4 _ rfl
  have f3 := hP2.out.fz 3
  have f4 := hP2.out.fz 4
  clear hM0 hM1 hM2 hB1
  go_upto_region 5 with fail
  have hQ1 : Hid (BlkC ((w2.setCell ⟨w.heap.size + 1 + 1, 3, none⟩ (.int .i64 0)).setCell ⟨w.heap.size + 1 + 1, 4, none⟩ (.int .i64 0)) (w.heap.size + 1) #[.int .i64 0, .int .i64 0, .string ⟨#[]⟩, .int .i64 0, .int .i64 0, .int .i64 0, .int .i64 0, .slice none 0 0] tNc) := by
    unfold Hid BlkC
    rw [heap_setCell_other _ _ _ _ (by show w.heap.size + 1 ≠ w.heap.size + 1 + 1; omega), heap_setCell_other _ _ _ _ (by show w.heap.size + 1 ≠ w.heap.size + 1 + 1; omega)]
    exact hP1.out
  have hQ0 : Hid (BlkC ((w2.setCell ⟨w.heap.size + 1 + 1, 3, none⟩ (.int .i64 0)).setCell ⟨w.heap.size + 1 + 1, 4, none⟩ (.int .i64 0)) w.heap.size #[.int .i64 3, .int .i64 0, .string ⟨#[]⟩, .int .u64 x.1, .int .i64 x.2, .int .u64 y.1, .int .i64 y.2, .int .u64 0, .int .i64 0, .int .u64 0, .int .i64 0, .slice none 0 0] tNr) := by
    unfold Hid BlkC
    rw [heap_setCell_other _ _ _ _ (by show w.heap.size ≠ w.heap.size + 1 + 1; omega), heap_setCell_other _ _ _ _ (by show w.heap.size ≠ w.heap.size + 1 + 1; omega)]
    exact hP0.out
  have hB3 : Hid (Below w.heap.size w ((w2.setCell ⟨w.heap.size + 1 + 1, 3, none⟩ (.int .i64 0)).setCell ⟨w.heap.size + 1 + 1, 4, none⟩ (.int .i64 0))) := (hB2.out.setCell (by show w.heap.size ≤ w.heap.size + 1 + 1; omega) _).setCell (by show w.heap.size ≤ w.heap.size + 1 + 1; omega) _
  generalize (w2.setCell ⟨w.heap.size + 1 + 1, 3, none⟩ (.int .i64 0)).setCell ⟨w.heap.size + 1 + 1, 4, none⟩ (.int .i64 0) = w3 at hQ1 hQ0 hB3 ⊢
  clear n0 n1 e3 e4 f3 f4 hN6 hP0 hP1 hP2 hB2
  have c0 := hQ0.out.cell 0 _ rfl
  have q0 := hQ1.out.cell 0 _ rfl
  have q1 := hQ1.out.cell 1 _ rfl
  have q2 := hQ1.out.cell 2 _ rfl
  have q3 := hQ1.out.cell 3 _ rfl
  have q4 := hQ1.out.cell 4 _ rfl
  have q5 := hQ1.out.cell 5 _ rfl
  have q6 := hQ1.out.cell 6 _ rfl
  have q7 := hQ1.out.cell 7 _ rfl
  have z0 := hQ1.out.fz 0
  have z1 := hQ1.out.fz 1
  have z2 := hQ1.out.fz 2
  have z3 := hQ1.out.fz 3
  have z4 := hQ1.out.fz 4
  have z5 := hQ1.out.fz 5
  have z6 := hQ1.out.fz 6
  have z7 := hQ1.out.fz 7
  go_wp2_with fail
  obtain ⟨h1, h2⟩ := eight_heap (.int .i64 8) (.int .i64 0) (.string ⟨#[]⟩) (.int .i64 0) (.int .i64 0) (.int .i64 0) (.int .i64 0) (.slice none 0 0) hQ1.out
  refine bodyPost_ret (results_cell_row rfl _ _ (w.heap.size + 1) tNc #[.int .i64 8, .int .i64 0, .string ⟨#[]⟩, .int .i64 0, .int .i64 0, .int .i64 0, .int .i64 0, .slice none 0 0] (0, 0) _ rfl h1 Tryz.underlying48 rfl (by kernel_rfl)) rfl ?_
  exact ⟨rfl, hB3.out.trans (h2 _ (by omega))⟩
end Go.Proofs.YtjklbbmgjjdalaaGreatDoor.Bd
namespace Go.Proofs.YtjklbbmgjjdalaaGreatDoor.Bd
open Go.RowKit Go.Joins
theorem four_blk (w : World) (a b c d : Obj) : ((((w.alloc a).alloc b).alloc c).alloc d).heap[w.heap.size]? = some a ∧ ((((w.alloc a).alloc b).alloc c).alloc d).heap[w.heap.size + 1]? = some b ∧ ((((w.alloc a).alloc b).alloc c).alloc d).heap[w.heap.size + 2]? = some c ∧ ((((w.alloc a).alloc b).alloc c).alloc d).heap[w.heap.size + 3]? = some d := by
  refine ⟨?_, ?_, ?_, ?_⟩ <;> simp only [World.alloc, Array.getElem?_push, Array.size_push] <;> (repeat (first | rfl | (rw [if_neg (by omega)]) | (rw [if_pos (by omega)])))
set_option maxRecDepth 100000 in
set_option maxHeartbeats 4000000 in
theorem back_ref (rows cols : List Idp) (x y : Idp) (p : Option Addr) (n cap : Nat) (p2 : Option Addr) (n2 cap2 : Nat) (w : World) (hrd : RdG idE 2 w p n rows) (hn : n ≤ 1000000) (hrd2 : RdG idE 2 w p2 n2 cols) (hn2 : n2 ≤ 1000000) (hno : plcS rows cols x y = ((0, 0), false)) :
    Calls Tryz.prog 15 #[axV p n cap, axV p2 n2 cap2, refV x y] w fun e w' => e = .returned fltV ∧ Below w.heap.size w w' := by
  have hh := Lib.hid (four_blk w (.cells #[axV p n cap] 84) (.cells #[axV p2 n2 cap2] 84) (.cells #[.int .i64 3, .int .i64 0, .string ⟨#[]⟩, .int .u64 x.1, .int .i64 x.2, .int .u64 y.1, .int .i64 y.2, .int .u64 0, .int .i64 0, .int .u64 0, .int .i64 0, .slice none 0 0] tNr) (.cells #[.int .i64 0, .int .i64 0, .string ⟨#[]⟩, .int .i64 0, .int .i64 0, .int .i64 0, .int .i64 0, .slice none 0 0] tNc))
  have hAB : Hid (Below w.heap.size w ((((w.alloc (.cells #[axV p n cap] 84)).alloc (.cells #[axV p2 n2 cap2] 84)).alloc (.cells #[.int .i64 3, .int .i64 0, .string ⟨#[]⟩, .int .u64 x.1, .int .i64 x.2, .int .u64 y.1, .int .i64 y.2, .int .u64 0, .int .i64 0, .int .u64 0, .int .i64 0, .slice none 0 0] tNr)).alloc (.cells #[.int .i64 0, .int .i64 0, .string ⟨#[]⟩, .int .i64 0, .int .i64 0, .int .i64 0, .int .i64 0, .slice none 0 0] tNc))) := by unfold Hid; (repeat' (first | (with_reducible exact Below.refl _ _) | (with_reducible assumption) | (with_reducible refine Below.alloc ?_ ?_ _) | (with_reducible refine bel_drewN ?_ _) | (with_reducible refine Below.drew ?_) | (with_reducible refine Below.setCell ?_ ?_ _) | (with_reducible refine bel_call ‹_› ?_ ?_) | go_size))
  have HB1 := Lib.hid (fun (b3 b4 : Nat) W (hW : Below w.heap.size w W) (h3 : BlkC W b3 #[axV p n cap] 84) (h4 : BlkC W b4 #[axV p2 n2 cap2] 84) => back1_any rows cols x y p n cap p2 n2 cap2 b3 b4 _ W (hrd.below hW) hn (hrd2.below hW) hn2 h3 h4)
  rw [hno] at HB1
  clear hrd hrd2 hno
  go_enter Tryz.func15, Tryz.ntmps15
  go_upto_region 1 with fail
  generalize (((w.alloc (.cells #[axV p n cap] 84)).alloc (.cells #[axV p2 n2 cap2] 84)).alloc (.cells #[.int .i64 3, .int .i64 0, .string ⟨#[]⟩, .int .u64 x.1, .int .i64 x.2, .int .u64 y.1, .int .i64 y.2, .int .u64 0, .int .i64 0, .int .u64 0, .int .i64 0, .slice none 0 0] tNr)).alloc (.cells #[.int .i64 0, .int .i64 0, .string ⟨#[]⟩, .int .i64 0, .int .i64 0, .int .i64 0, .int .i64 0, .slice none 0 0] tNc) = w0 at hh hAB ⊢
  have hA0 : Hid (BlkC w0 w.heap.size #[axV p n cap] 84) := hh.out.1
  have hA1 : Hid (BlkC w0 (w.heap.size + 1) #[axV p2 n2 cap2] 84) := hh.out.2.1
  have hA2 : Hid (BlkC w0 (w.heap.size + 2) #[.int .i64 3, .int .i64 0, .string ⟨#[]⟩, .int .u64 x.1, .int .i64 x.2, .int .u64 y.1, .int .i64 y.2, .int .u64 0, .int .i64 0, .int .u64 0, .int .i64 0, .slice none 0 0] tNr) := hh.out.2.2.1
  have hA3 : Hid (BlkC w0 (w.heap.size + 3) #[.int .i64 0, .int .i64 0, .string ⟨#[]⟩, .int .i64 0, .int .i64 0, .int .i64 0, .int .i64 0, .slice none 0 0] tNc) := hh.out.2.2.2
  clear hh
  have c0 := hA2.out.cell 0 _ rfl
  have c1 := hA2.out.cell 1 _ rfl
  have c2 := hA2.out.cell 2 _ rfl
  have c3 := hA2.out.cell 3 _ rfl
  have c4 := hA2.out.cell 4 _ rfl
  have c5 := hA2.out.cell 5 _ rfl
  have c6 := hA2.out.cell 6 _ rfl
  have c7 := hA2.out.cell 7 _ rfl
  have c8 := hA2.out.cell 8 _ rfl
  have c9 := hA2.out.cell 9 _ rfl
  have c10 := hA2.out.cell 10 _ rfl
  have c11 := hA2.out.cell 11 _ rfl
  have HM := Lib.hid (map_ref x y w.heap.size (w.heap.size + 1) w0 (fun W hW => HB1.out _ _ W (hAB.out.trans (hW.mono hAB.out.size)) (hA0.out.below hW) (hA1.out.below hW)))
  go_wp2_with fail
  refine HM.out.mono ?_
  rintro e w1 ⟨rfl, hb⟩
  have hB1 : Hid (Below w.heap.size w w1) := bel_call hb hAB.out hAB.out.size
  have hP3 := Lib.hid (hA3.out.below hb)
  clear hb hAB hA0 hA1 hA2 hA3 HM HB1 c0 c1 c2 c3 c4 c5 c6 c7 c8 c9 c10 c11
  have q0 := hP3.out.cell 0 _ rfl
  have q1 := hP3.out.cell 1 _ rfl
  have q2 := hP3.out.cell 2 _ rfl
  have q3 := hP3.out.cell 3 _ rfl
  have q4 := hP3.out.cell 4 _ rfl
  have q5 := hP3.out.cell 5 _ rfl
  have q6 := hP3.out.cell 6 _ rfl
  have q7 := hP3.out.cell 7 _ rfl
  have z0 := hP3.out.fz 0
  have z1 := hP3.out.fz 1
  have z2 := hP3.out.fz 2
  have z3 := hP3.out.fz 3
  have z4 := hP3.out.fz 4
  have z5 := hP3.out.fz 5
  have z6 := hP3.out.fz 6
  have z7 := hP3.out.fz 7
  go_wp2_with fail
  obtain ⟨h1, h2⟩ := eight_heap (.int .i64 8) (.int .i64 0) (.string ⟨#[]⟩) (.int .i64 0) (.int .i64 0) (.int .i64 0) (.int .i64 0) (.slice none 0 0) hP3.out
  refine bodyPost_ret (results_cell_row rfl _ _ (w.heap.size + 3) tNc #[.int .i64 8, .int .i64 0, .string ⟨#[]⟩, .int .i64 0, .int .i64 0, .int .i64 0, .int .i64 0, .slice none 0 0] (0, 0) _ rfl h1 Tryz.underlying48 rfl (by kernel_rfl)) rfl ?_
  exact ⟨rfl, hB1.out.trans (h2 _ (by omega))⟩
set_option maxRecDepth 100000 in
set_option maxHeartbeats 4000000 in
theorem text_ref (rows cols : List Idp) (x y : Idp) (p : Option Addr) (n cap : Nat) (p2 : Option Addr) (n2 cap2 : Nat) (w : World) (hrd : RdG idE 2 w p n rows) (hn : n ≤ 1000000) (hrd2 : RdG idE 2 w p2 n2 cols) (hn2 : n2 ≤ 1000000) (hno : plcS rows cols x y = ((0, 0), false)) :
    Calls Tryz.prog 16 #[axV p n cap, axV p2 n2 cap2, refV x y] w fun e w' => e = .returned (.string ⟨refS.toArray⟩) ∧ Below w.heap.size w w' := by
  have HBK := Lib.hid (fun W (hW : Below w.heap.size w W) => back_ref rows cols x y p n cap p2 n2 cap2 W (hrd.below hW) hn (hrd2.below hW) hn2 hno)
  have HPT := Lib.hid (fun W => ptext_flt W)
  have hA0 := Lib.hid (blk_new w #[.int .i64 3, .int .i64 0, .string ⟨#[]⟩, .int .u64 x.1, .int .i64 x.2, .int .u64 y.1, .int .i64 y.2, .int .u64 0, .int .i64 0, .int .u64 0, .int .i64 0, .slice none 0 0] tNr)
  have hAB : Hid (Below w.heap.size w (w.alloc (.cells #[.int .i64 3, .int .i64 0, .string ⟨#[]⟩, .int .u64 x.1, .int .i64 x.2, .int .u64 y.1, .int .i64 y.2, .int .u64 0, .int .i64 0, .int .u64 0, .int .i64 0, .slice none 0 0] tNr))) := by unfold Hid; (repeat' (first | (with_reducible exact Below.refl _ _) | (with_reducible assumption) | (with_reducible refine Below.alloc ?_ ?_ _) | (with_reducible refine bel_drewN ?_ _) | (with_reducible refine Below.drew ?_) | (with_reducible refine Below.setCell ?_ ?_ _) | (with_reducible refine bel_call ‹_› ?_ ?_) | go_size))
  clear hrd hrd2 hno
  go_enter Tryz.func16, Tryz.ntmps16
  go_upto_region 1 with fail
  generalize w.alloc (.cells #[.int .i64 3, .int .i64 0, .string ⟨#[]⟩, .int .u64 x.1, .int .i64 x.2, .int .u64 y.1, .int .i64 y.2, .int .u64 0, .int .i64 0, .int .u64 0, .int .i64 0, .slice none 0 0] tNr) = w0 at hA0 hAB ⊢
  have c0 := hA0.out.cell 0 _ rfl
  have c1 := hA0.out.cell 1 _ rfl
  have c2 := hA0.out.cell 2 _ rfl
  have c3 := hA0.out.cell 3 _ rfl
  have c4 := hA0.out.cell 4 _ rfl
  have c5 := hA0.out.cell 5 _ rfl
  have c6 := hA0.out.cell 6 _ rfl
  have c7 := hA0.out.cell 7 _ rfl
  have c8 := hA0.out.cell 8 _ rfl
  have c9 := hA0.out.cell 9 _ rfl
  have c10 := hA0.out.cell 10 _ rfl
  have c11 := hA0.out.cell 11 _ rfl
  go_wp2_with fail
  refine (HBK.out _ hAB.out).mono ?_
  rintro e w1 ⟨rfl, hb⟩
  have hB1 : Hid (Below w.heap.size w w1) := bel_call hb hAB.out hAB.out.size
  clear hb hAB hA0 HBK c0 c1 c2 c3 c4 c5 c6 c7 c8 c9 c10 c11
  go_wp2_with fail
  refine (HPT.out _).mono ?_
  rintro e w2 ⟨rfl, hb⟩
  have hB2 := bel_call hb hB1.out hB1.out.size
  go_wp2_with fail
  go_ret
  exact ⟨rfl, hB2⟩
end Go.Proofs.YtjklbbmgjjdalaaGreatDoor.Bd
namespace Go.Proofs.YtjklbbmgjjdalaaGreatDoor.Bd
open Go.RowKit Go.Joins
theorem rd_blkI {w : World} {b : Nat} {L : List Idp} {cs : Array Value} (h : BlkC w b cs tId) (hc : cs = (L.flatMap idE).toArray) (n : Nat) (hn : n ≤ L.length) : RdG idE 2 w (some ⟨b, 0, none⟩) n (L.take n) := by
  refine ⟨by rw [List.length_take]; omega, .inr ⟨b, 0, rfl, lt_some h, fun j x hx k u hu => ?_⟩⟩
  have hk : k < 2 := (List.getElem?_eq_some_iff.1 hu).1
  have hj : L[j]? = some x := by
    rw [List.getElem?_take] at hx
    split at hx
    · exact hx
    · cases hx
  have := flat_at idE_len L j x hj k hk
  rw [cell_of_block h, hc]
  rw [hu] at this
  simpa using this
set_option maxRecDepth 100000 in
set_option maxHeartbeats 4000000 in
theorem awake_any (w : World) : Calls Tryz.prog 6 #[] w fun e w' => e = .returned (.bool true) ∧ Below w.heap.size w w' := by
  have hh := Lib.hid (four_blk w (.cells #[.int .u64 1, .int .i64 1, .int .u64 2, .int .i64 1] tId) (.cells #[.int .u64 3, .int .i64 1] tId) (.cells #[.slice (some ⟨w.heap.size, 0, none⟩) 2 2] tAx) (.cells #[.slice (some ⟨w.heap.size + 1, 0, none⟩) 1 1] tAx))
  have hAB : Hid (Below w.heap.size w ((((w.alloc (.cells #[.int .u64 1, .int .i64 1, .int .u64 2, .int .i64 1] tId)).alloc (.cells #[.int .u64 3, .int .i64 1] tId)).alloc (.cells #[.slice (some ⟨w.heap.size, 0, none⟩) 2 2] tAx)).alloc (.cells #[.slice (some ⟨w.heap.size + 1, 0, none⟩) 1 1] tAx))) := by unfold Hid; (repeat' (first | (with_reducible exact Below.refl _ _) | (with_reducible assumption) | (with_reducible refine Below.alloc ?_ ?_ _) | (with_reducible refine bel_drewN ?_ _) | (with_reducible refine Below.drew ?_) | (with_reducible refine Below.setCell ?_ ?_ _) | (with_reducible refine bel_call ‹_› ?_ ?_) | go_size))
  go_enter Tryz.func6, Tryz.ntmps6
  go_upto_region 2 with fail
  generalize (((w.alloc (.cells #[.int .u64 1, .int .i64 1, .int .u64 2, .int .i64 1] tId)).alloc (.cells #[.int .u64 3, .int .i64 1] tId)).alloc (.cells #[.slice (some ⟨w.heap.size, 0, none⟩) 2 2] tAx)).alloc (.cells #[.slice (some ⟨w.heap.size + 1, 0, none⟩) 1 1] tAx) = w0 at hh hAB ⊢
  have hA0 : Hid (BlkC w0 w.heap.size #[.int .u64 1, .int .i64 1, .int .u64 2, .int .i64 1] tId) := hh.out.1
  have hA1 : Hid (BlkC w0 (w.heap.size + 1) #[.int .u64 3, .int .i64 1] tId) := hh.out.2.1
  have hA2 : Hid (BlkC w0 (w.heap.size + 2) #[.slice (some ⟨w.heap.size, 0, none⟩) 2 2] tAx) := hh.out.2.2.1
  have hA3 : Hid (BlkC w0 (w.heap.size + 3) #[.slice (some ⟨w.heap.size + 1, 0, none⟩) 1 1] tAx) := hh.out.2.2.2
  have R1 : Hid (RdG idE 2 w0 (some ⟨w.heap.size, 0, none⟩) 2 [(1, 1), (2, 1)]) := rd_blkI (L := [(1, 1), (2, 1)]) hA0.out rfl 2 (by simp)
  have R2 : Hid (RdG idE 2 w0 (some ⟨w.heap.size + 1, 0, none⟩) 1 [(3, 1)]) := rd_blkI (L := [(3, 1)]) hA1.out rfl 1 (by simp)
  have R3 : Hid (RdG idE 2 w0 (some ⟨w.heap.size, 0, none⟩) 1 [(1, 1)]) := rd_blkI (L := [(1, 1), (2, 1)]) hA0.out rfl 1 (by simp)
  have c2 := hA2.out.cell 0 _ rfl
  have c3 := hA3.out.cell 0 _ rfl
  have HC := Lib.hid (cell_any [(1, 1), (2, 1)] [(3, 1)] 1 2 (some ⟨w.heap.size, 0, none⟩) 2 2 (some ⟨w.heap.size + 1, 0, none⟩) 1 1 w0 R1.out (by omega) R2.out (by omega))
  rw [show celS [(1, 1), (2, 1)] [(3, 1)] 1 2 = (((2, 1), (3, 1)), 0) from by decide] at HC
  clear hh
  go_wp2_with fail
  refine HC.out.mono ?_
  rintro e w1 ⟨rfl, hb⟩
  have hB1 : Hid (Below w.heap.size w w1) := bel_call hb hAB.out hAB.out.size
  have hM2 := Lib.hid (hA2.out.below hb)
  have hM3 := Lib.hid (hA3.out.below hb)
  have Q2 := Lib.hid (R2.out.below hb)
  have Q3 := Lib.hid (R3.out.below hb)
  clear hb hAB hA0 hA1 hA2 hA3 R1 R2 R3 c2 c3 HC
  go_upto_region 3 with fail
  have hN := Lib.hid (blk_new w1 #[.int .u64 2, .int .i64 1, .int .u64 3, .int .i64 1] tRf)
  have hbn : Below w1.heap.size w1 (w1.alloc (.cells #[.int .u64 2, .int .i64 1, .int .u64 3, .int .i64 1] tRf)) := by (repeat' (first | (with_reducible exact Below.refl _ _) | (with_reducible assumption) | (with_reducible refine Below.alloc ?_ ?_ _) | (with_reducible refine bel_drewN ?_ _) | (with_reducible refine Below.drew ?_) | (with_reducible refine Below.setCell ?_ ?_ _) | (with_reducible refine bel_call ‹_› ?_ ?_) | go_size))
  have hB2 : Hid (Below w.heap.size w (w1.alloc (.cells #[.int .u64 2, .int .i64 1, .int .u64 3, .int .i64 1] tRf))) := hB1.out.alloc hB1.out.size _
  have hP2 := Lib.hid (hM2.out.alloc (.cells #[.int .u64 2, .int .i64 1, .int .u64 3, .int .i64 1] tRf))
  have hP3 := Lib.hid (hM3.out.alloc (.cells #[.int .u64 2, .int .i64 1, .int .u64 3, .int .i64 1] tRf))
  have S2 := Lib.hid (Q2.out.below hbn)
  have S3 := Lib.hid (Q3.out.below hbn)
  clear hbn hB1 hM2 hM3 Q2 Q3
  generalize w1.alloc (.cells #[.int .u64 2, .int .i64 1, .int .u64 3, .int .i64 1] tRf) = w2 at hN hB2 hP2 hP3 S2 S3 ⊢
  generalize w1.heap.size = g at hN ⊢
  have c2 := cell_regrown (hP2.out.cell 0 _ rfl)
  have c3 := cell_regrown (hP3.out.cell 0 _ rfl)
  have n0 := cell_regrown (hN.out.cell 0 _ rfl)
  have n1 := cell_regrown (hN.out.cell 1 _ rfl)
  have n2 := cell_regrown (hN.out.cell 2 _ rfl)
  have n3 := cell_regrown (hN.out.cell 3 _ rfl)
  have hBR : ∀ dd os, Below w.heap.size w (Go.Sort.grow (redrawn w2 dd) os) := fun dd os => bel_call (below_regrown w2 dd os) hB2.out hB2.out.size
  have cT : ∀ dd os, Calls Tryz.prog 16 #[axV (some ⟨w.heap.size, 0, none⟩) 1 2, axV (some ⟨w.heap.size + 1, 0, none⟩) 1 1, refV (2, 1) (3, 1)] (Go.Sort.grow (redrawn w2 dd) os) fun e w'' => e = .returned (.string ⟨refS.toArray⟩) ∧ ∃ p : Regrown, w'' = Go.Sort.grow (redrawn w2 p.1) p.2 := fun dd os => Calls.regrown_of (text_ref [(1, 1)] [(3, 1)] (2, 1) (3, 1) _ 1 2 _ 1 1 _ (S3.out.below (below_regrown w2 dd os)) (by omega) (S2.out.below (below_regrown w2 dd os)) (by omega) (by decide))
  refine wp_region_quiet_below (by kernel_rfl) (by kernel_rfl) ?_
  repeat (go_big_quiet_step ((first | with_reducible exact cT _ _)))
  refine wpQuiet_nil ?_
  intro _ hw'
  obtain ⟨⟨dz, osz⟩, hw''⟩ := hw'
  subst hw''
  have hBz : Below w.heap.size w (Go.Sort.grow (redrawn w2 dz) osz) := hBR dz osz
  have hNz := hN.out.below (below_regrown w2 dz osz)
  have m0 := hNz.cell 0 _ rfl
  have m2 := hNz.cell 2 _ rfl
  have hrs : (⟨#[35, 82, 69, 70, 33]⟩ : ByteArray) = ⟨refS.toArray⟩ := rfl
  clear c2 c3 n0 n1 n2 n3 hBR cT hP2 hP3 S2 S3 hB2 hN
  go_wp2_with fail
  go_ret
  exact ⟨rfl, hBz⟩
end Go.Proofs.YtjklbbmgjjdalaaGreatDoor.Bd
namespace Go.Proofs.YtjklbbmgjjdalaaGreatDoor.Bd
open Go.RowKit Go.ChangeShapes Go.WideShapes Go.ChangeAt Go.Joins
theorem block_addB (a : Addr) (k : Nat) : (a.add k).block = a.block := by
  unfold Addr.add
  split <;> rfl
theorem add_plainB (b o k : Nat) : (⟨b, o, none⟩ : Addr).add k = ⟨b, o + k, none⟩ := by
  unfold Addr.add
  split
  · rename_i h0; subst h0; rfl
  · rfl
instance : Inhabited Idp := ⟨(0, 0)⟩
theorem lst2 {α : Type} {l : List α} (h : l.length = 2) : ∃ c1 c2, l = [c1, c2] := by
  match l, h with
  | [c1, c2], _ => exact ⟨c1, c2, rfl⟩
section
variable {H : Type} {enc : TypeId × Value → H} {w : World} {base : Nat} {spare : Nat → Bool} {held : Bool}
end
end Go.Proofs.YtjklbbmgjjdalaaGreatDoor.Bd
