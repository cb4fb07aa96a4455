/- Script: more. -/
import Derived.Test.YtddoghjopihkpaaDoorScrF
set_option linter.unusedSimpArgs false
set_option linter.unusedVariables false
namespace Go.Proofs.YtddoghjopihkpaaDoor
open Go.RowKit Go.Joins

abbrev tLn : TypeId := 31
def lnC (k : Int) (x : Stp) : Array Value := #[.int .i64 k, .int .i64 x.k, .int .i64 x.who, .string ⟨x.cell.toArray⟩, .string ⟨x.text.toArray⟩, .bool x.cols, .int .i64 x.n, .int .i64 x.tor, .int .u8 x.bits]
/-- A line in a block. -/
def LnB (w : World) (b : Nat) (k : Int) (x : Stp) : Prop := w.heap[b]? = some (.cells (lnC k x) tLn (0, 0))
theorem LnB.below {w w' : World} {b : Nat} {k : Int} {x : Stp} (h : LnB w b k x) (hb : Below w.heap.size w w') : LnB w' b k x := (hb.block b (lt_some h)).trans h
theorem LnB.cells {w : World} {b : Nat} {k : Int} {x : Stp} (h : LnB w b k x) : w.cell? ⟨b, 0, none⟩ = some (.int .i64 k) ∧ w.cell? ⟨b, 1, none⟩ = some (.int .i64 x.k) ∧ w.cell? ⟨b, 2, none⟩ = some (.int .i64 x.who) ∧ w.cell? ⟨b, 3, none⟩ = some (.string ⟨x.cell.toArray⟩) ∧ w.cell? ⟨b, 4, none⟩ = some (.string ⟨x.text.toArray⟩) ∧ w.cell? ⟨b, 5, none⟩ = some (.bool x.cols) ∧ w.cell? ⟨b, 6, none⟩ = some (.int .i64 x.n) ∧ w.cell? ⟨b, 7, none⟩ = some (.int .i64 x.tor) ∧ w.cell? ⟨b, 8, none⟩ = some (.int .u8 x.bits) := by
  refine ⟨?_, ?_, ?_, ?_, ?_, ?_, ?_, ?_, ?_⟩
  all_goals
    rw [cell_of_block h]
    rfl
theorem LnB.fz {w : World} {b : Nat} {k : Int} {x : Stp} (h : LnB w b k x) : w.frozen? ⟨b, 0, none⟩ = false ∧ w.frozen? ⟨b, 1, none⟩ = false ∧ w.frozen? ⟨b, 2, none⟩ = false ∧ w.frozen? ⟨b, 3, none⟩ = false ∧ w.frozen? ⟨b, 4, none⟩ = false ∧ w.frozen? ⟨b, 5, none⟩ = false ∧ w.frozen? ⟨b, 6, none⟩ = false ∧ w.frozen? ⟨b, 7, none⟩ = false ∧ w.frozen? ⟨b, 8, none⟩ = false := ⟨unfrozen_of_block h 0, unfrozen_of_block h 1, unfrozen_of_block h 2, unfrozen_of_block h 3, unfrozen_of_block h 4, unfrozen_of_block h 5, unfrozen_of_block h 6, unfrozen_of_block h 7, unfrozen_of_block h 8⟩
/-- A line and whether there is one. -/
structure Lnx where
  k : Int
  s : Stp
  ok : Bool
def tlS (M : Option Nat) (R : Bs) : Lnx := match M with
  | some m => ⟨1, (edS (m : Int) R).1, (edS (m : Int) R).2⟩
  | none => ⟨0, st0, false⟩
def moreS (F R : Bs) : Lnx := match nbs 1 R with
  | some l => if 0 ≤ pkN F then ⟨1, ⟨pkN F, 0, [], [], false, ((l.getD 0 0 : Nat) : Int), 0, 0⟩, true⟩
    else if 0 < askN F then ⟨askN F, ⟨0, ((l.getD 0 0 : Nat) : Int), [], [], false, 0, 0, 0⟩, true⟩
    else tlS (nmb F) R
  | none => tlS (nmb F) R

set_option maxRecDepth 100000 in
set_option maxHeartbeats 16000000 in
theorem more_any (F R : Bs) (hF : F.length ≤ 100000) (hR : R.length ≤ 100000) (w : World) (hsh : w.ShapedOpen Tryd.prog) :
    Calls Tryd.prog 23 #[.string ⟨F.toArray⟩, .string ⟨R.toArray⟩] w fun e w' => e = .returned (.tuple #[.agg (lnC (moreS F R).k (moreS F R).s), .bool (moreS F R).ok]) ∧ Below w.heap.size w w' := by
  have HN := Lib.hid (fun W (hW : Below w.heap.size w W) => numbers_any 1 (by omega) R hR W (shaped_bel hsh hW))
  have HP := Lib.hid (fun W => pkN_any F W)
  have HK := Lib.hid (fun W => askN_any F W)
  have HM := Lib.hid (fun W => number_any F hF W)
  have HE := Lib.hid (fun m W (hW : Below w.heap.size w W) => edits_any m R hR W (shaped_bel hsh hW))
  obtain ⟨O, hO⟩ : ∃ O, moreS F R = O := ⟨_, rfl⟩
  have HO := Lib.hid hO
  unfold moreS at HO
  rw [hO]
  have hlen := fun l (h : nbs 1 R = some l) => nbs_len h
  have hA0 : Hid (LnB (w.alloc (.cells (lnC 0 st0) tLn)) w.heap.size 0 st0) := heap_alloc_new w _
  have hAB : Hid (Below w.heap.size w (w.alloc (.cells (lnC 0 st0) tLn))) := by unfold Hid; (repeat' (first | (with_reducible exact Below.refl _ _) | (with_reducible assumption) | (with_reducible refine Below.alloc ?_ ?_ _) | (with_reducible refine bel_drewN ?_ _) | (with_reducible refine Below.drew ?_) | (with_reducible refine Below.setCell ?_ ?_ _) | (with_reducible refine bel_call ‹_› ?_ ?_) | go_size))
  have hAz : (w.alloc (.cells (lnC 0 st0) tLn)).heap.size = w.heap.size + 1 := by simp
  generalize pkN F = P at HP HO
  generalize askN F = K at HK HO
  generalize nmb F = M at HM HO
  generalize nbs 1 R = N at HN HO hlen
  clear hO
  go_enter Tryd.func23, Tryd.ntmps23
  go_upto_region 1 with fail
  have e0 : w.alloc (.cells #[.int .i64 0, .int .i64 0, .int .i64 0, .string ⟨#[]⟩, .string ⟨#[]⟩, .bool false, .int .i64 0, .int .i64 0, .int .u8 0] tLn) = w.alloc (.cells (lnC 0 st0) tLn) := rfl
  rw [e0]
  clear e0
  generalize w.alloc (.cells (lnC 0 st0) tLn) = w0 at hA0 hAB hAz ⊢
  go_wp2_with fail
  refine (HN.out w0 hAB.out).mono ?_
  rintro e w1 ⟨hnum, hb1⟩
  have hB : Hid (Below w.heap.size w w1) := bel_call hb1 hAB.out (by omega)
  have hC0 := Lib.hid (hA0.out.below hb1)
  have hz1 := hb1.size
  clear hA0 hAB hb1 HN
  obtain ⟨c0, c1, c2, c3, c4, c5, c6, c7, c8⟩ := hC0.out.cells
  obtain ⟨f0, f1, f2, f3, f4, f5, f6, f7, f8⟩ := hC0.out.fz
  cases N with
  | none =>
    have hnum : e = .returned (.tuple #[.slice none 0 0, .bool false]) := hnum
    subst hnum
    have HO1 : Hid (O = tlS M R) := HO.out.symm
    clear hlen
    rcases Int.lt_or_le P 0 with hP | hP
    all_goals
      rcases Int.lt_or_le 0 K with hK | hK
      all_goals
        go_wp2_with fail
        refine (HP.out _).mono ?_
        rintro e wx ⟨rfl, rfl⟩
        go_wp2_with fail
        refine (HK.out _).mono ?_
        rintro e wx ⟨rfl, rfl⟩
        go_wp2_with fail
        refine (HM.out _).mono ?_
        rintro e w2 ⟨rfl, hb2⟩
        obtain ⟨hc2, hf2, hz2⟩ := bcell hb2 (by first | (simp only [World.size_alloc, World.size_setCell, World.size_drew]; rfl) | rfl)
        cases M with
        | none =>
          have HO2 : Hid (O = ⟨0, st0, false⟩) := HO1.out
          clear HO HO1
          simp only [Option.getD_none, Option.isSome_none]
          go_wp2_with fail
          refine bodyPost_ret (v := .tuple #[.agg (lnC 0 st0), .bool false]) (by simp only [results, Tryd.results23]; go_simp; rfl) rfl ⟨?_, by have := hB.out; (repeat' (first | (with_reducible exact Below.refl _ _) | (with_reducible assumption) | (with_reducible refine Below.alloc ?_ ?_ _) | (with_reducible refine bel_drewN ?_ _) | (with_reducible refine Below.drew ?_) | (with_reducible refine Below.setCell ?_ ?_ _) | (with_reducible refine bel_call ‹_› ?_ ?_) | go_size))⟩
          rw [HO2.out]
        | some m =>
          have HO2 : Hid (O = ⟨1, (edS (m : Int) R).1, (edS (m : Int) R).2⟩) := HO1.out
          have HE2 := Lib.hid (HE.out (m : Int))
          generalize edS (m : Int) R = Y at HO2 HE2
          obtain ⟨y, ok⟩ := Y
          clear HO HO1
          simp only [Option.getD_some, Option.isSome_some]
          go_wp2_with fail
          refine (HE2.out _ (by have := hB.out; (repeat' (first | (with_reducible exact Below.refl _ _) | (with_reducible assumption) | (with_reducible refine Below.alloc ?_ ?_ _) | (with_reducible refine bel_drewN ?_ _) | (with_reducible refine Below.drew ?_) | (with_reducible refine Below.setCell ?_ ?_ _) | (with_reducible refine bel_call ‹_› ?_ ?_) | go_size)))).mono ?_
          rintro e w3 ⟨rfl, hb3⟩
          obtain ⟨hc3, hf3, hz3⟩ := bcell hb3 (by first | (simp only [World.size_alloc, World.size_setCell, World.size_drew]; rfl) | rfl)
          unfold stC
          go_wp2_with fail
          refine bodyPost_ret (v := .tuple #[.agg (lnC 1 y), .bool ok]) (by simp only [results, Tryd.results23]; go_simp; rfl) rfl ⟨?_, by have := hB.out; (repeat' (first | (with_reducible exact Below.refl _ _) | (with_reducible assumption) | (with_reducible refine Below.alloc ?_ ?_ _) | (with_reducible refine bel_drewN ?_ _) | (with_reducible refine Below.drew ?_) | (with_reducible refine Below.setCell ?_ ?_ _) | (with_reducible refine bel_call ‹_› ?_ ?_) | go_size))⟩
          rw [HO2.out]
  | some l =>
    have hll := hlen l rfl
    have hnum : ∃ p cap, e = .returned (.tuple #[.slice p l.length cap, .bool true]) ∧ RdG inE 1 w1 p l.length l ∧ ∀ a, p = some a → w0.heap.size ≤ a.block := hnum
    obtain ⟨p, cap, rfl, hrd, hpa⟩ := hnum
    obtain ⟨bi, oi, rfl, hbi, hi0⟩ := int_at hrd (j := 0) (by omega)
    have hbn : w.heap.size + 1 ≤ bi := by have := hpa _ rfl; simp only at this; omega
    have hi0 : w1.cell? ⟨bi, oi, none⟩ = some (.int .i64 ((l.getD 0 0 : Nat) : Int)) := hi0
    have HO0 : Hid (O = if 0 ≤ P then ⟨1, ⟨P, 0, [], [], false, ((l.getD 0 0 : Nat) : Int), 0, 0⟩, true⟩
      else if 0 < K then ⟨K, ⟨0, ((l.getD 0 0 : Nat) : Int), [], [], false, 0, 0, 0⟩, true⟩
      else tlS M R) := HO.out.symm
    rw [hll]
    clear hrd hpa hlen HO
    generalize l.getD 0 0 = q at hi0 HO0
    have HO := HO0
    clear HO0
    by_cases hP : 0 ≤ P
    · have HO2 : Hid (O = ⟨1, ⟨P, 0, [], [], false, (q : Int), 0, 0⟩, true⟩) := by unfold Hid; rw [HO.out, if_pos hP]
      clear HO
      go_wp2_with fail
      refine (HP.out _).mono ?_
      rintro e wx ⟨rfl, rfl⟩
      go_wp2_with fail
      refine bodyPost_ret (v := .tuple #[.agg (lnC 1 ⟨P, 0, [], [], false, (q : Int), 0, 0⟩), .bool true]) (by simp only [results, Tryd.results23]; go_simp; rfl) rfl ⟨?_, by have := hB.out; (repeat' (first | (with_reducible exact Below.refl _ _) | (with_reducible assumption) | (with_reducible refine Below.alloc ?_ ?_ _) | (with_reducible refine bel_drewN ?_ _) | (with_reducible refine Below.drew ?_) | (with_reducible refine Below.setCell ?_ ?_ _) | (with_reducible refine bel_call ‹_› ?_ ?_) | go_size))⟩
      rw [HO2.out]
    · by_cases hK : 0 < K
      · have HO2 : Hid (O = ⟨K, ⟨0, (q : Int), [], [], false, 0, 0, 0⟩, true⟩) := by unfold Hid; rw [HO.out, if_neg hP, if_pos hK]
        clear HO
        go_wp2_with fail
        refine (HP.out _).mono ?_
        rintro e wx ⟨rfl, rfl⟩
        go_wp2_with fail
        refine (HK.out _).mono ?_
        rintro e wx ⟨rfl, rfl⟩
        go_wp2_with fail
        refine bodyPost_ret (v := .tuple #[.agg (lnC K ⟨0, (q : Int), [], [], false, 0, 0, 0⟩), .bool true]) (by simp only [results, Tryd.results23]; go_simp; rfl) rfl ⟨?_, by have := hB.out; (repeat' (first | (with_reducible exact Below.refl _ _) | (with_reducible assumption) | (with_reducible refine Below.alloc ?_ ?_ _) | (with_reducible refine bel_drewN ?_ _) | (with_reducible refine Below.drew ?_) | (with_reducible refine Below.setCell ?_ ?_ _) | (with_reducible refine bel_call ‹_› ?_ ?_) | go_size))⟩
        rw [HO2.out]
      · have HO1 : Hid (O = tlS M R) := by unfold Hid; rw [HO.out, if_neg hP, if_neg hK]
        go_wp2_with fail
        refine (HP.out _).mono ?_
        rintro e wx ⟨rfl, rfl⟩
        go_wp2_with fail
        refine (HK.out _).mono ?_
        rintro e wx ⟨rfl, rfl⟩
        go_wp2_with fail
        refine (HM.out _).mono ?_
        rintro e w2 ⟨rfl, hb2⟩
        obtain ⟨hc2, hf2, hz2⟩ := bcell hb2 (by first | (simp only [World.size_alloc, World.size_setCell, World.size_drew]; rfl) | rfl)
        cases M with
        | none =>
          have HO2 : Hid (O = ⟨0, st0, false⟩) := HO1.out
          clear HO HO1
          simp only [Option.getD_none, Option.isSome_none]
          go_wp2_with fail
          refine bodyPost_ret (v := .tuple #[.agg (lnC 0 st0), .bool false]) (by simp only [results, Tryd.results23]; go_simp; rfl) rfl ⟨?_, by have := hB.out; (repeat' (first | (with_reducible exact Below.refl _ _) | (with_reducible assumption) | (with_reducible refine Below.alloc ?_ ?_ _) | (with_reducible refine bel_drewN ?_ _) | (with_reducible refine Below.drew ?_) | (with_reducible refine Below.setCell ?_ ?_ _) | (with_reducible refine bel_call ‹_› ?_ ?_) | go_size))⟩
          rw [HO2.out]
        | some m =>
          have HO2 : Hid (O = ⟨1, (edS (m : Int) R).1, (edS (m : Int) R).2⟩) := HO1.out
          have HE2 := Lib.hid (HE.out (m : Int))
          generalize edS (m : Int) R = Y at HO2 HE2
          obtain ⟨y, ok⟩ := Y
          clear HO HO1
          simp only [Option.getD_some, Option.isSome_some]
          go_wp2_with fail
          refine (HE2.out _ (by have := hB.out; (repeat' (first | (with_reducible exact Below.refl _ _) | (with_reducible assumption) | (with_reducible refine Below.alloc ?_ ?_ _) | (with_reducible refine bel_drewN ?_ _) | (with_reducible refine Below.drew ?_) | (with_reducible refine Below.setCell ?_ ?_ _) | (with_reducible refine bel_call ‹_› ?_ ?_) | go_size)))).mono ?_
          rintro e w3 ⟨rfl, hb3⟩
          obtain ⟨hc3, hf3, hz3⟩ := bcell hb3 (by first | (simp only [World.size_alloc, World.size_setCell, World.size_drew]; rfl) | rfl)
          unfold stC
          go_wp2_with fail
          refine bodyPost_ret (v := .tuple #[.agg (lnC 1 y), .bool ok]) (by simp only [results, Tryd.results23]; go_simp; rfl) rfl ⟨?_, by have := hB.out; (repeat' (first | (with_reducible exact Below.refl _ _) | (with_reducible assumption) | (with_reducible refine Below.alloc ?_ ?_ _) | (with_reducible refine bel_drewN ?_ _) | (with_reducible refine Below.drew ?_) | (with_reducible refine Below.setCell ?_ ?_ _) | (with_reducible refine bel_call ‹_› ?_ ?_) | go_size))⟩
          rw [HO2.out]
end Go.Proofs.YtddoghjopihkpaaDoor
