/- Script: read. -/
import Derived.Test.YtddoghjopihkpaaDoorScrG
set_option linter.unusedSimpArgs false
set_option linter.unusedVariables false
namespace Go.Proofs.YtddoghjopihkpaaDoor
open Go.RowKit Go.Joins

def spS (N : Option (List Nat)) : Lnx := match N with
  | some l => if 255 < l.getD 2 0 then ⟨0, st0, false⟩ else ⟨1, ⟨6, 0, [], [], false, ((l.getD 0 0 : Nat) : Int), ((l.getD 1 0 : Nat) : Int), ((l.getD 2 0 : Nat) : Int)⟩, true⟩
  | none => ⟨0, st0, false⟩
def ceS (k : Int) (N : Option (List Nat)) (C : Bs) : Lnx := match N with
  | some l => ⟨k, ⟨0, ((l.getD 0 0 : Nat) : Int), C, [], false, 0, 0, 0⟩, true⟩
  | none => ⟨0, st0, false⟩
def readF (F R : Bs) : Lnx :=
  if F = wPull then ⟨2, st0, true⟩
  else if F = wSettle then ⟨3, st0, true⟩
  else if F = wNet then ⟨9, st0, true⟩
  else if F = wSpoil then spS (nbs 3 R)
  else if F = wCell then ceS 5 (nbs 1 (wd R)) (rs R)
  else if F = wTyped then ceS 6 (nbs 1 (wd R)) (rs R)
  else moreS F R
def readS (L : Bs) : Lnx := readF (wd L) (rs L)

set_option maxRecDepth 100000 in
set_option maxHeartbeats 16000000 in
theorem read_any (L : Bs) (hL : L.length ≤ 100000) (w : World) (hsh : w.ShapedOpen Tryd.prog) :
    Calls Tryd.prog 14 #[.string ⟨L.toArray⟩] w fun e w' => e = .returned (.tuple #[.agg (lnC (readS L).k (readS L).s), .bool (readS L).ok]) ∧ Below w.heap.size w w' := by
  have hR : (rs L).length ≤ 100000 := Nat.le_trans (rs_len L) hL
  have hF : (wd L).length ≤ 100000 := Nat.le_trans (wd_len L) hL
  have HW := Lib.hid (fun W (hW : Below w.heap.size w W) => word_any L hL W (shaped_bel hsh hW))
  have HW2 := Lib.hid (fun W (hW : Below w.heap.size w W) => word_any (rs L) hR W (shaped_bel hsh hW))
  have HN3 := Lib.hid (fun W (hW : Below w.heap.size w W) => numbers_any 3 (by omega) (rs L) hR W (shaped_bel hsh hW))
  have HN1 := Lib.hid (fun W (hW : Below w.heap.size w W) => numbers_any 1 (by omega) (wd (rs L)) (Nat.le_trans (wd_len _) hR) W (shaped_bel hsh hW))
  have HM := Lib.hid (fun W (hW : Below w.heap.size w W) => more_any (wd L) (rs L) hF hR W (shaped_bel hsh hW))
  have hl3 := fun l (h : nbs 3 (rs L) = some l) => nbs_len h
  have hl1 := fun l (h : nbs 1 (wd (rs L)) = some l) => nbs_len h
  obtain ⟨O, hO⟩ : ∃ O, readS L = O := ⟨_, rfl⟩
  have HO : Hid (readF (wd L) (rs L) = O) := hO
  rw [hO]
  unfold readF at HO
  have hA0 : Hid (LnB (w.alloc (.cells (lnC 0 st0) tLn)) w.heap.size 0 st0) := heap_alloc_new w _
  have hAB : Hid (Below w.heap.size w (w.alloc (.cells (lnC 0 st0) tLn))) := by unfold Hid; (repeat' (first | (with_reducible exact Below.refl _ _) | (with_reducible assumption) | (with_reducible refine Below.alloc ?_ ?_ _) | (with_reducible refine bel_drewN ?_ _) | (with_reducible refine Below.drew ?_) | (with_reducible refine Below.setCell ?_ ?_ _) | (with_reducible refine bel_call ‹_› ?_ ?_) | go_size))
  have hAz : (w.alloc (.cells (lnC 0 st0) tLn)).heap.size = w.heap.size + 1 := by simp
  clear hO hR hF
  generalize hwd : wd L = F at HW HO HM ⊢
  generalize hrs : rs L = R at HW HO HM HW2 HN3 HN1 hl3 hl1 ⊢
  clear hwd hrs
  go_enter Tryd.func14, Tryd.ntmps14
  go_upto_region 1 with fail
  have e0 : w.alloc (.cells #[.int .i64 0, .int .i64 0, .int .i64 0, .string ⟨#[]⟩, .string ⟨#[]⟩, .bool false, .int .i64 0, .int .i64 0, .int .u8 0] tLn) = w.alloc (.cells (lnC 0 st0) tLn) := rfl
  rw [e0]
  clear e0
  generalize w.alloc (.cells (lnC 0 st0) tLn) = w0 at hA0 hAB hAz ⊢
  go_upto_region 2 with (refine (HW.out w0 hAB.out).mono ?_; rintro e w1 ⟨rfl, hb1⟩)
  have hB : Hid (Below w.heap.size w w1) := bel_call hb1 hAB.out (by omega)
  have hC0 := Lib.hid (hA0.out.below hb1)
  have hz1 := hb1.size
  clear hA0 hAB hb1 HW
  obtain ⟨c0, c1, c2, c3, c4, c5, c6, c7, c8⟩ := hC0.out.cells
  obtain ⟨f0, f1, f2, f3, f4, f5, f6, f7, f8⟩ := hC0.out.fz
  by_cases hA : F = wPull
  · subst hA
    have HO2 : Hid (O = ⟨2, st0, true⟩) := by unfold Hid; rw [← HO.out]; rfl
    clear HO HM HW2 HN3 HN1 hl3 hl1
    go_wp2_with fail
    refine bodyPost_ret (v := .tuple #[.agg (lnC 2 st0), .bool true]) (by simp only [results, Tryd.results14]; go_simp; rfl) rfl ⟨?_, by have := hB.out; (repeat' (first | (with_reducible exact Below.refl _ _) | (with_reducible assumption) | (with_reducible refine Below.alloc ?_ ?_ _) | (with_reducible refine bel_drewN ?_ _) | (with_reducible refine Below.drew ?_) | (with_reducible refine Below.setCell ?_ ?_ _) | (with_reducible refine bel_call ‹_› ?_ ?_) | go_size))⟩
    rw [HO2.out]
  · have xPull := hA
    clear hA
    by_cases hA : F = wSettle
    · subst hA
      have HO2 : Hid (O = ⟨3, st0, true⟩) := by unfold Hid; rw [← HO.out]; rfl
      clear HO HM HW2 HN3 HN1 hl3 hl1
      go_wp2_with fail
      refine bodyPost_ret (v := .tuple #[.agg (lnC 3 st0), .bool true]) (by simp only [results, Tryd.results14]; go_simp; rfl) rfl ⟨?_, by have := hB.out; (repeat' (first | (with_reducible exact Below.refl _ _) | (with_reducible assumption) | (with_reducible refine Below.alloc ?_ ?_ _) | (with_reducible refine bel_drewN ?_ _) | (with_reducible refine Below.drew ?_) | (with_reducible refine Below.setCell ?_ ?_ _) | (with_reducible refine bel_call ‹_› ?_ ?_) | go_size))⟩
      rw [HO2.out]
    · have xSettle := hA
      clear hA
      by_cases hA : F = wNet
      · subst hA
        have HO2 : Hid (O = ⟨9, st0, true⟩) := by unfold Hid; rw [← HO.out]; rfl
        clear HO HM HW2 HN3 HN1 hl3 hl1
        go_wp2_with fail
        refine bodyPost_ret (v := .tuple #[.agg (lnC 9 st0), .bool true]) (by simp only [results, Tryd.results14]; go_simp; rfl) rfl ⟨?_, by have := hB.out; (repeat' (first | (with_reducible exact Below.refl _ _) | (with_reducible assumption) | (with_reducible refine Below.alloc ?_ ?_ _) | (with_reducible refine bel_drewN ?_ _) | (with_reducible refine Below.drew ?_) | (with_reducible refine Below.setCell ?_ ?_ _) | (with_reducible refine bel_call ‹_› ?_ ?_) | go_size))⟩
        rw [HO2.out]
      · have xNet := hA
        clear hA
        by_cases hA : F = wSpoil
        · subst hA
          have HO1 : Hid (O = spS (nbs 3 R)) := by unfold Hid; rw [← HO.out]; rfl
          clear HO HM HW2 HN1 hl1
          generalize nbs 3 R = N at HO1 HN3 hl3
          go_wp2_with fail
          refine (HN3.out _ (by have := hB.out; (repeat' (first | (with_reducible exact Below.refl _ _) | (with_reducible assumption) | (with_reducible refine Below.alloc ?_ ?_ _) | (with_reducible refine bel_drewN ?_ _) | (with_reducible refine Below.drew ?_) | (with_reducible refine Below.setCell ?_ ?_ _) | (with_reducible refine bel_call ‹_› ?_ ?_) | go_size)))).mono ?_
          rintro e w3 ⟨hnum, hb3⟩
          obtain ⟨hc3, hf3, hz3⟩ := bcell hb3 (by first | (simp only [World.size_alloc, World.size_setCell, World.size_drew]; rfl) | rfl)
          cases N with
          | none =>
            have HO2 : Hid (O = ⟨0, st0, false⟩) := HO1.out
            have hnum : e = .returned (.tuple #[.slice none 0 0, .bool false]) := hnum
            subst hnum
            clear hl3 HO1
            go_wp2_with fail
            refine bodyPost_ret (v := .tuple #[.agg (lnC 0 st0), .bool false]) (by simp only [results, Tryd.results14]; go_simp; rfl) rfl ⟨?_, by have := hB.out; (repeat' (first | (with_reducible exact Below.refl _ _) | (with_reducible assumption) | (with_reducible refine Below.alloc ?_ ?_ _) | (with_reducible refine bel_drewN ?_ _) | (with_reducible refine Below.drew ?_) | (with_reducible refine Below.setCell ?_ ?_ _) | (with_reducible refine bel_call ‹_› ?_ ?_) | go_size))⟩
            rw [HO2.out]
          | some l =>
            have hll := hl3 l rfl
            have hnum : ∃ p cap, e = .returned (.tuple #[.slice p l.length cap, .bool true]) ∧ RdG inE 1 w3 p l.length l ∧ ∀ a, p = some a → w1.heap.size ≤ a.block := hnum
            obtain ⟨p, cap, rfl, hrd, hpa⟩ := hnum
            obtain ⟨bi, oi, e1, hbi, hi0⟩ := int_at hrd (j := 0) (by omega)
            obtain ⟨_, _, e2, _, hi1⟩ := int_at hrd (j := 1) (by omega)
            obtain ⟨_, _, e3, _, hi2⟩ := int_at hrd (j := 2) (by omega)
            subst e1
            cases e2
            cases e3
            have hbn : w.heap.size + 1 ≤ bi := by have := hpa _ rfl; simp only at this; omega
            have hi0 : w3.cell? ⟨bi, oi, none⟩ = some (.int .i64 ((l.getD 0 0 : Nat) : Int)) := hi0
            have HO3 : Hid (O = if 255 < l.getD 2 0 then ⟨0, st0, false⟩ else ⟨1, ⟨6, 0, [], [], false, ((l.getD 0 0 : Nat) : Int), ((l.getD 1 0 : Nat) : Int), ((l.getD 2 0 : Nat) : Int)⟩, true⟩) := HO1.out
            rw [hll]
            clear HO1 hrd hpa hl3
            generalize l.getD 0 0 = q0 at hi0 HO3
            generalize l.getD 1 0 = q1 at hi1 HO3
            generalize l.getD 2 0 = q2 at hi2 HO3
            by_cases hq : 255 < q2
            · have HO2 : Hid (O = ⟨0, st0, false⟩) := by unfold Hid; rw [HO3.out, if_pos hq]
              have hqi : (255 : Int) < (q2 : Int) := by omega
              clear HO3
              go_wp2_with fail
              refine bodyPost_ret (v := .tuple #[.agg (lnC 0 st0), .bool false]) (by simp only [results, Tryd.results14]; go_simp; rfl) rfl ⟨?_, by have := hB.out; (repeat' (first | (with_reducible exact Below.refl _ _) | (with_reducible assumption) | (with_reducible refine Below.alloc ?_ ?_ _) | (with_reducible refine bel_drewN ?_ _) | (with_reducible refine Below.drew ?_) | (with_reducible refine Below.setCell ?_ ?_ _) | (with_reducible refine bel_call ‹_› ?_ ?_) | go_size))⟩
              rw [HO2.out]
            · have HO2 : Hid (O = ⟨1, ⟨6, 0, [], [], false, (q0 : Int), (q1 : Int), (q2 : Int)⟩, true⟩) := by unfold Hid; rw [HO3.out, if_neg hq]
              have hqi : ¬ (255 : Int) < (q2 : Int) := by omega
              have hqw : IntKind.u8.wrap (q2 : Int) = (q2 : Int) := IntWalk.u8_in _ (by omega)
              clear HO3
              go_wp2_with fail
              go_region
              all_goals
                go_wp2_with fail
                refine bodyPost_ret (v := .tuple #[.agg (lnC 1 ⟨6, 0, [], [], false, (q0 : Int), (q1 : Int), (q2 : Int)⟩), .bool true]) (by simp only [results, Tryd.results14]; go_simp; rfl) rfl ⟨?_, by have := hB.out; (repeat' (first | (with_reducible exact Below.refl _ _) | (with_reducible assumption) | (with_reducible refine Below.alloc ?_ ?_ _) | (with_reducible refine bel_drewN ?_ _) | (with_reducible refine Below.drew ?_) | (with_reducible refine Below.setCell ?_ ?_ _) | (with_reducible refine bel_call ‹_› ?_ ?_) | go_size))⟩
                rw [HO2.out]
        · have xSpoil := hA
          clear hA
          by_cases hA : F = wCell
          · subst hA
            have HO1 : Hid (O = ceS 5 (nbs 1 (wd R)) (rs R)) := by unfold Hid; rw [← HO.out]; rfl
            clear HO HM HN3 hl3
            generalize nbs 1 (wd R) = N at HO1 HN1 hl1
            go_wp2_with fail
            refine (HW2.out _ (by have := hB.out; (repeat' (first | (with_reducible exact Below.refl _ _) | (with_reducible assumption) | (with_reducible refine Below.alloc ?_ ?_ _) | (with_reducible refine bel_drewN ?_ _) | (with_reducible refine Below.drew ?_) | (with_reducible refine Below.setCell ?_ ?_ _) | (with_reducible refine bel_call ‹_› ?_ ?_) | go_size)))).mono ?_
            rintro e w2 ⟨rfl, hb2⟩
            have hB2 : Hid (Below w.heap.size w w2) := bel_call hb2 hB.out (by omega)
            obtain ⟨hc2, hf2, hz2⟩ := bcell hb2 (by first | (simp only [World.size_alloc, World.size_setCell, World.size_drew]; rfl) | rfl)
            go_wp2_with fail
            refine (HN1.out _ hB2.out).mono ?_
            rintro e w3 ⟨hnum, hb3⟩
            have hB3 : Hid (Below w.heap.size w w3) := bel_call hb3 hB2.out hB2.out.size
            obtain ⟨hc3, hf3, hz3⟩ := bcell hb3 (by first | (simp only [World.size_alloc, World.size_setCell, World.size_drew]; rfl) | rfl)
            cases N with
            | none =>
              have HO2 : Hid (O = ⟨0, st0, false⟩) := HO1.out
              have hnum : e = .returned (.tuple #[.slice none 0 0, .bool false]) := hnum
              subst hnum
              clear hl1 HO1
              go_wp2_with fail
              refine bodyPost_ret (v := .tuple #[.agg (lnC 0 st0), .bool false]) (by simp only [results, Tryd.results14]; go_simp; rfl) rfl ⟨?_, by have := hB3.out; (repeat' (first | (with_reducible exact Below.refl _ _) | (with_reducible assumption) | (with_reducible refine Below.alloc ?_ ?_ _) | (with_reducible refine bel_drewN ?_ _) | (with_reducible refine Below.drew ?_) | (with_reducible refine Below.setCell ?_ ?_ _) | (with_reducible refine bel_call ‹_› ?_ ?_) | go_size))⟩
              rw [HO2.out]
            | some l =>
              have hll := hl1 l rfl
              have hnum : ∃ p cap, e = .returned (.tuple #[.slice p l.length cap, .bool true]) ∧ RdG inE 1 w3 p l.length l ∧ ∀ a, p = some a → w2.heap.size ≤ a.block := hnum
              obtain ⟨p, cap, rfl, hrd, hpa⟩ := hnum
              obtain ⟨bi, oi, rfl, hbi, hi0⟩ := int_at hrd (j := 0) (by omega)
              have hbn : w.heap.size + 1 ≤ bi := by have h9 := hpa _ rfl; have := hb2.size; simp only at h9; omega
              have hi0 : w3.cell? ⟨bi, oi, none⟩ = some (.int .i64 ((l.getD 0 0 : Nat) : Int)) := hi0
              have HO3 : Hid (O = ⟨5, ⟨0, ((l.getD 0 0 : Nat) : Int), rs R, [], false, 0, 0, 0⟩, true⟩) := HO1.out
              rw [hll]
              clear HO1 hrd hpa hl1
              generalize l.getD 0 0 = q0 at hi0 HO3
              have HO2 := HO3
              clear HO3
              go_wp2_with fail
              refine bodyPost_ret (v := .tuple #[.agg (lnC 5 ⟨0, (q0 : Int), rs R, [], false, 0, 0, 0⟩), .bool true]) (by simp only [results, Tryd.results14]; go_simp; rfl) rfl ⟨?_, by have := hB3.out; (repeat' (first | (with_reducible exact Below.refl _ _) | (with_reducible assumption) | (with_reducible refine Below.alloc ?_ ?_ _) | (with_reducible refine bel_drewN ?_ _) | (with_reducible refine Below.drew ?_) | (with_reducible refine Below.setCell ?_ ?_ _) | (with_reducible refine bel_call ‹_› ?_ ?_) | go_size))⟩
              rw [HO2.out]
          · have xCell := hA
            clear hA
            by_cases hA : F = wTyped
            · subst hA
              have HO1 : Hid (O = ceS 6 (nbs 1 (wd R)) (rs R)) := by unfold Hid; rw [← HO.out]; rfl
              clear HO HM HN3 hl3
              generalize nbs 1 (wd R) = N at HO1 HN1 hl1
              go_wp2_with fail
              refine (HW2.out _ (by have := hB.out; (repeat' (first | (with_reducible exact Below.refl _ _) | (with_reducible assumption) | (with_reducible refine Below.alloc ?_ ?_ _) | (with_reducible refine bel_drewN ?_ _) | (with_reducible refine Below.drew ?_) | (with_reducible refine Below.setCell ?_ ?_ _) | (with_reducible refine bel_call ‹_› ?_ ?_) | go_size)))).mono ?_
              rintro e w2 ⟨rfl, hb2⟩
              have hB2 : Hid (Below w.heap.size w w2) := bel_call hb2 hB.out (by omega)
              obtain ⟨hc2, hf2, hz2⟩ := bcell hb2 (by first | (simp only [World.size_alloc, World.size_setCell, World.size_drew]; rfl) | rfl)
              go_wp2_with fail
              refine (HN1.out _ hB2.out).mono ?_
              rintro e w3 ⟨hnum, hb3⟩
              have hB3 : Hid (Below w.heap.size w w3) := bel_call hb3 hB2.out hB2.out.size
              obtain ⟨hc3, hf3, hz3⟩ := bcell hb3 (by first | (simp only [World.size_alloc, World.size_setCell, World.size_drew]; rfl) | rfl)
              cases N with
              | none =>
                have HO2 : Hid (O = ⟨0, st0, false⟩) := HO1.out
                have hnum : e = .returned (.tuple #[.slice none 0 0, .bool false]) := hnum
                subst hnum
                clear hl1 HO1
                go_wp2_with fail
                refine bodyPost_ret (v := .tuple #[.agg (lnC 0 st0), .bool false]) (by simp only [results, Tryd.results14]; go_simp; rfl) rfl ⟨?_, by have := hB3.out; (repeat' (first | (with_reducible exact Below.refl _ _) | (with_reducible assumption) | (with_reducible refine Below.alloc ?_ ?_ _) | (with_reducible refine bel_drewN ?_ _) | (with_reducible refine Below.drew ?_) | (with_reducible refine Below.setCell ?_ ?_ _) | (with_reducible refine bel_call ‹_› ?_ ?_) | go_size))⟩
                rw [HO2.out]
              | some l =>
                have hll := hl1 l rfl
                have hnum : ∃ p cap, e = .returned (.tuple #[.slice p l.length cap, .bool true]) ∧ RdG inE 1 w3 p l.length l ∧ ∀ a, p = some a → w2.heap.size ≤ a.block := hnum
                obtain ⟨p, cap, rfl, hrd, hpa⟩ := hnum
                obtain ⟨bi, oi, rfl, hbi, hi0⟩ := int_at hrd (j := 0) (by omega)
                have hbn : w.heap.size + 1 ≤ bi := by have h9 := hpa _ rfl; have := hb2.size; simp only at h9; omega
                have hi0 : w3.cell? ⟨bi, oi, none⟩ = some (.int .i64 ((l.getD 0 0 : Nat) : Int)) := hi0
                have HO3 : Hid (O = ⟨6, ⟨0, ((l.getD 0 0 : Nat) : Int), rs R, [], false, 0, 0, 0⟩, true⟩) := HO1.out
                rw [hll]
                clear HO1 hrd hpa hl1
                generalize l.getD 0 0 = q0 at hi0 HO3
                have HO2 := HO3
                clear HO3
                go_wp2_with fail
                refine bodyPost_ret (v := .tuple #[.agg (lnC 6 ⟨0, (q0 : Int), rs R, [], false, 0, 0, 0⟩), .bool true]) (by simp only [results, Tryd.results14]; go_simp; rfl) rfl ⟨?_, by have := hB3.out; (repeat' (first | (with_reducible exact Below.refl _ _) | (with_reducible assumption) | (with_reducible refine Below.alloc ?_ ?_ _) | (with_reducible refine bel_drewN ?_ _) | (with_reducible refine Below.drew ?_) | (with_reducible refine Below.setCell ?_ ?_ _) | (with_reducible refine bel_call ‹_› ?_ ?_) | go_size))⟩
                rw [HO2.out]
            · have xTyped := hA
              clear hA
              have HO2 : Hid (O = moreS F R) := by unfold Hid; rw [← HO.out, if_neg xPull, if_neg xSettle, if_neg xNet, if_neg xSpoil, if_neg xCell, if_neg xTyped]
              have yPull : ((⟨F.toArray⟩ : ByteArray).toList == [112, 117, 108, 108]) = false := seq_no F _ xPull
              have ySettle : ((⟨F.toArray⟩ : ByteArray).toList == [115, 101, 116, 116, 108, 101]) = false := seq_no F _ xSettle
              have yNet : ((⟨F.toArray⟩ : ByteArray).toList == [110, 101, 116]) = false := seq_no F _ xNet
              have ySpoil : ((⟨F.toArray⟩ : ByteArray).toList == [115, 112, 111, 105, 108]) = false := seq_no F _ xSpoil
              have yCell : ((⟨F.toArray⟩ : ByteArray).toList == [99, 101, 108, 108]) = false := seq_no F _ xCell
              have yTyped : ((⟨F.toArray⟩ : ByteArray).toList == [116, 121, 112, 101, 100]) = false := seq_no F _ xTyped
              generalize moreS F R = Y at HO2 HM
              obtain ⟨yk, ys, yok⟩ := Y
              clear HO HW2 HN3 HN1 hl3 hl1 xPull xSettle xNet xSpoil xCell xTyped
              generalize (⟨F.toArray⟩ : ByteArray) = X at yPull ySettle yNet ySpoil yCell yTyped HM ⊢
              go_wp2_with fail
              refine (HM.out _ (by have := hB.out; (repeat' (first | (with_reducible exact Below.refl _ _) | (with_reducible assumption) | (with_reducible refine Below.alloc ?_ ?_ _) | (with_reducible refine bel_drewN ?_ _) | (with_reducible refine Below.drew ?_) | (with_reducible refine Below.setCell ?_ ?_ _) | (with_reducible refine bel_call ‹_› ?_ ?_) | go_size)))).mono ?_
              rintro e w3 ⟨rfl, hb3⟩
              obtain ⟨hc3, hf3, hz3⟩ := bcell hb3 (by first | (simp only [World.size_alloc, World.size_setCell, World.size_drew]; rfl) | rfl)
              unfold lnC
              go_wp2_with fail
              refine bodyPost_ret (v := .tuple #[.agg (lnC yk ys), .bool yok]) (by simp only [results, Tryd.results14]; go_simp; rfl) rfl ⟨?_, by have := hB.out; (repeat' (first | (with_reducible exact Below.refl _ _) | (with_reducible assumption) | (with_reducible refine Below.alloc ?_ ?_ _) | (with_reducible refine bel_drewN ?_ _) | (with_reducible refine Below.drew ?_) | (with_reducible refine Below.setCell ?_ ?_ _) | (with_reducible refine bel_call ‹_› ?_ ?_) | go_size))⟩
              rw [HO2.out]
end Go.Proofs.YtddoghjopihkpaaDoor
