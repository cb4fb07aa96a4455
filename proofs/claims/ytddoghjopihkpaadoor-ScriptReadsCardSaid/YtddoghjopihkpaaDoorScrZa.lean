/- Script: the document's Parse. -/
import Derived.Test.YtddoghjopihkpaaDoorScrY
import Derived.Test.YtddoghjopihkpaaDoorScrZ
import Derived.Test.YtddoghjopihkpaaDoorScrV
import Derived.Test.YtddoghjopihkpaaDoorQuickH
set_option linter.unusedSimpArgs false
set_option linter.unusedVariables false
namespace Go.Proofs.YtddoghjopihkpaaDoor
open Go.RowKit Go.Joins

/-- A step stored into a line's block, cell for cell. -/
theorem RlB.step {w : World} {b : Nat} {k : Int} {x : Stp} (h : RlB w b k x) (y : Stp) : RlB ((((((((w.setCell ⟨b, 1, none⟩ (.int .i64 y.k)).setCell ⟨b, 2, none⟩ (.int .i64 y.who)).setCell ⟨b, 3, none⟩ (.string ⟨y.cell.toArray⟩)).setCell ⟨b, 4, none⟩ (.string ⟨y.text.toArray⟩)).setCell ⟨b, 5, none⟩ (.bool y.cols)).setCell ⟨b, 6, none⟩ (.int .i64 y.n)).setCell ⟨b, 7, none⟩ (.int .i64 y.tor)).setCell ⟨b, 8, none⟩ (.int .u8 y.bits)) b k y := by
  exact ((((((((h.set1 y.k).set2 y.who).set3 y.cell).set4 y.text).set5 y.cols).set6 y.n).set7 y.tor).set8 y.bits)
theorem cand_cell (kk k : Int) (L : Bs) : (plS kk (candL kk k L)).cell.length ≤ L.length := by
  have h1 := cutW_len 3 L 2
  have h2 := cutW_len 2 L 2
  unfold plS candL candF
  split
  · simp only
    split
    · split <;> omega
    · simp
  · simp only
    split
    · split <;> omega
    · simp
theorem parse_no {L : Bs} (h : ∀ kk k : Nat, 1 ≤ kk → kk ≤ 9 → k ≤ 9 → ¬ okC (kk : Int) (k : Int) L) : parseS L = ⟨0, st0, false⟩ := by
  cases hp : (parseS L).ok with
  | true =>
    obtain ⟨h1, h2, h3⟩ := read_cand L hp
    refine absurd ?_ (h (parseS L).k.toNat (parseS L).s.k.toNat (by omega) (by omega) (by omega))
    rw [show (((parseS L).k.toNat : Nat) : Int) = (parseS L).k from by omega, show (((parseS L).s.k.toNat : Nat) : Int) = (parseS L).s.k from by omega]
    exact h1
  | false =>
    unfold parseS at hp ⊢
    split at hp
    · rename_i hq
      rw [hq.1] at hp
      cases hp
    · rename_i hq
      rw [if_neg hq]

set_option maxRecDepth 100000 in
set_option maxHeartbeats 64000000 in
theorem rparse_any (s : ByteArray) (hs : s.size ≤ 400) (w : World) :
    Calls Tryd.prog 12 #[.string s] w fun e w' => e = .returned (.tuple #[.agg (lnC (parseS s.data.toList).k (parseS s.data.toList).s), .bool (parseS s.data.toList).ok]) ∧ Below w.heap.size w w' := by
  have HSZ : Hid (s.data.toList.length = s.size) := (Lib.size_eq s).symm
  have HTO : Hid (s.toList = s.data.toList) := by
    unfold Hid
    conv => lhs; rw [show s = ⟨(s.data.toList).toArray⟩ from by simp]
    rw [Lib.toList_data]
  have HC4 := Lib.hid (fun W => rcut_any 3 (by omega) s (by omega) W)
  have HC3 := Lib.hid (fun W => rcut_any 2 (by omega) s (by omega) W)
  generalize s.data.toList = L at HSZ HTO HC4 HC3 ⊢
  have HLE : Hid (L.length ≤ 400) := by unfold Hid; rw [HSZ.out]; exact hs
  have HCL : Hid (∀ kk k, candL kk k L = candF kk k ((cutW 3 L).getD 0 []) ((cutW 3 L).getD 1 []) ((cutW 3 L).getD 2 []) ((cutW 3 L).getD 3 []) ((cutW 2 L).getD 2 [])) := fun _ _ => rfl
  have HN0 := Lib.hid (fun W => rnum_any ((cutW 3 L).getD 0 []) (Nat.le_trans (cutW_len 3 L 0) (by have := HLE.out; omega)) W)
  have HN1 := Lib.hid (fun W => rnum_any ((cutW 3 L).getD 1 []) (Nat.le_trans (cutW_len 3 L 1) (by have := HLE.out; omega)) W)
  have HN2 := Lib.hid (fun W => rnum_any ((cutW 3 L).getD 2 []) (Nat.le_trans (cutW_len 3 L 2) (by have := HLE.out; omega)) W)
  have HN3 := Lib.hid (fun W => rnum_any ((cutW 3 L).getD 3 []) (Nat.le_trans (cutW_len 3 L 3) (by have := HLE.out; omega)) W)
  obtain ⟨O, hO⟩ : ∃ O, parseS L = O := ⟨_, rfl⟩
  rw [hO]
  have HO := Lib.hid hO
  clear hO
  have hA0 : Hid (RlB (w.alloc (.cells (lnC 0 st0) tRl)) w.heap.size 0 st0) := heap_alloc_new w _
  have hAB : Hid (Below w.heap.size w (w.alloc (.cells (lnC 0 st0) tRl))) := by unfold Hid; (repeat' (first | (with_reducible exact Below.refl _ _) | (with_reducible assumption) | (with_reducible refine Below.alloc ?_ ?_ _) | (with_reducible refine bel_drewN ?_ _) | (with_reducible refine Below.drew ?_) | (with_reducible refine Below.setCell ?_ ?_ _) | (with_reducible refine bel_call ‹_› ?_ ?_) | go_size))
  go_enter Tryd.func12, Tryd.ntmps12
  go_upto_region 1 with fail
  have e0 : w.alloc (.cells #[.int .i64 0, .int .i64 0, .int .i64 0, .string ⟨#[]⟩, .string ⟨#[]⟩, .bool false, .int .i64 0, .int .i64 0, .int .u8 0] tRl) = w.alloc (.cells (lnC 0 st0) tRl) := rfl
  rw [e0]
  clear e0
  have hAz : (w.alloc (.cells (lnC 0 st0) tRl)).heap.size = w.heap.size + 1 := by simp
  generalize w.alloc (.cells (lnC 0 st0) tRl) = w0 at hA0 hAB hAz ⊢
  go_wp2_with fail
  refine (HC4.out _).mono ?_
  rintro e w1 ⟨⟨p4, cap4, rfl, hrd4⟩, hb1⟩
  have HB1 : Hid (Below w.heap.size w w1) := bel_call hb1 hAB.out hAB.out.size
  have HA1 := Lib.hid (hA0.out.below hb1)
  have hz1 := hb1.size
  go_wp2_with fail
  refine (HC3.out _).mono ?_
  rintro e w2 ⟨⟨p3, cap3, rfl, hrd3⟩, hb2⟩
  have HB2 : Hid (Below w.heap.size w w2) := bel_call hb2 HB1.out HB1.out.size
  have HA2 := Lib.hid (HA1.out.below hb2)
  have hz2 : w.heap.size + 1 ≤ w2.heap.size := by have := hb2.size; omega
  have HF := Lib.hid (hrd4.below hb2)
  have HG := Lib.hid hrd3
  clear HA1 HB1 hb2 HC3 hrd4 hrd3 hb1 HC4 hA0 hAB hz1 hAz
  obtain ⟨n4, hn4⟩ : ∃ n, (cutW 3 L).length = n := ⟨_, rfl⟩
  obtain ⟨n3, hn3⟩ : ∃ n, (cutW 2 L).length = n := ⟨_, rfl⟩
  rw [hn4] at HF ⊢
  rw [hn3] at HG ⊢
  clear hn4 hn3
  have HW0 := Lib.hid (fun W (hW : Below w2.heap.size w2 W) => rword_any p4 n4 cap4 (cutW 3 L) 0 W (HF.out.below hW))
  have HW1 := Lib.hid (fun W (hW : Below w2.heap.size w2 W) => rword_any p4 n4 cap4 (cutW 3 L) 1 W (HF.out.below hW))
  have HW2 := Lib.hid (fun W (hW : Below w2.heap.size w2 W) => rword_any p4 n4 cap4 (cutW 3 L) 2 W (HF.out.below hW))
  have HW3 := Lib.hid (fun W (hW : Below w2.heap.size w2 W) => rword_any p4 n4 cap4 (cutW 3 L) 3 W (HF.out.below hW))
  have HWG := Lib.hid (fun W (hW : Below w2.heap.size w2 W) => rword_any p3 n3 cap3 (cutW 2 L) 2 W (HG.out.below hW))
  clear HF HG
  generalize (cutW 3 L).getD 0 [] = X0 at HCL HN0 HW0
  generalize (cutW 3 L).getD 1 [] = X1 at HCL HN1 HW1
  generalize (cutW 3 L).getD 2 [] = X2 at HCL HN2 HW2
  generalize (cutW 3 L).getD 3 [] = X3 at HCL HN3 HW3
  generalize (cutW 2 L).getD 2 [] = G2 at HCL HWG
  have HCL2 : Hid (∀ kk k, candL kk k L = ⟨k, if 1 < kk then numS X1 else numS X0, if 1 < kk then G2 else X2, X3, decide (X2 = wCol), if 3 ≤ k ∧ k ≤ 6 then numS X1 else numS X3, numS X2, IntKind.u8.wrap (numS X3)⟩) := HCL.out
  clear HCL
  have hq : (X2 == [99, 111, 108]) = decide (X2 = wCol) := by
    by_cases h : X2 = wCol
    · subst h; rfl
    · rw [decide_eq_false h]; simpa using h
  generalize decide (X2 = wCol) = cb at hq HCL2
  generalize numS X0 = N0 at HN0 HCL2
  generalize numS X1 = N1 at HN1 HCL2
  generalize numS X2 = N2 at HN2 HCL2
  generalize numS X3 = N3 at HN3 HCL2
  generalize hB3 : IntKind.u8.wrap N3 = B3 at HCL2
  go_wp2_with fail
  go_loopg [6] 9 (fun g v6 wr => ∃ kk : Nat, kk + g = 10 ∧ 1 ≤ kk ∧ v6 = .int .i64 (kk : Int) ∧ (∀ kk' k' : Nat, 1 ≤ kk' → kk' < kk → k' ≤ 9 → ¬ okC (kk' : Int) (k' : Int) L) ∧ RlB wr w.heap.size 0 st0 ∧ Below w2.heap.size w2 wr)
  case atStart => exact ⟨1, by omega, by omega, rfl, fun kk' k' h1 h2 => by omega, HA2.out, Below.refl _ _⟩
  case round =>
    obtain ⟨kk, hkg, hk1, rfl, hno, hrl, hbel⟩ := hrel
    have HNO := Lib.hid hno
    have HRL := Lib.hid hrl
    have HBL := Lib.hid hbel
    have hzr := hbel.size
    clear hno hrl hbel HA2
    by_cases hk9 : kk ≤ 9
    · have hk9i : (kk : Int) ≤ 9 := by omega
      go_upto_region 7 with fail
      go_loopg [7] 10 (fun g v7 wr2 => ∃ k : Nat, k + g = 10 ∧ v7 = .int .i64 (k : Int) ∧ (∀ k' : Nat, k' < k → ¬ okC (kk : Int) (k' : Int) L) ∧ RlB wr2 w.heap.size 0 st0 ∧ Below w2.heap.size w2 wr2)
      case atStart => exact ⟨0, by omega, rfl, fun k' h => by omega, HRL.out, HBL.out⟩
      case round =>
        clear HRL HBL hzr
        obtain ⟨k, hkg2, rfl, hno2, hrl, hbel⟩ := hrel
        have HNO2 := Lib.hid hno2
        have HRL := Lib.hid hrl
        have HBL := Lib.hid hbel
        have hzr := hbel.size
        clear hno2 hrl hbel
        by_cases hk9b : k ≤ 9
        · have hk9bi : (k : Int) ≤ 9 := by omega
          go_upto_region 10 with fail
          have e0 : wr.alloc (.cells #[.int .i64 (kk : Int), .int .i64 0, .int .i64 0, .string ⟨#[]⟩, .string ⟨#[]⟩, .bool false, .int .i64 0, .int .i64 0, .int .u8 0] tRl) = wr.alloc (.cells (lnC (kk : Int) st0) tRl) := rfl
          rw [e0]
          clear e0
          have HR3 : Hid (RlB (wr.alloc (.cells (lnC (kk : Int) st0) tRl)) wr.heap.size (kk : Int) st0) := heap_alloc_new wr _
          have HL3 : Hid (RlB (wr.alloc (.cells (lnC (kk : Int) st0) tRl)) w.heap.size 0 st0) := HRL.out.below (by (repeat' (first | (with_reducible exact Below.refl _ _) | (with_reducible assumption) | (with_reducible refine Below.alloc ?_ ?_ _) | (with_reducible refine bel_drewN ?_ _) | (with_reducible refine Below.drew ?_) | (with_reducible refine Below.setCell ?_ ?_ _) | (with_reducible refine bel_call ‹_› ?_ ?_) | go_size)))
          have HB3 : Hid (Below w2.heap.size w2 (wr.alloc (.cells (lnC (kk : Int) st0) tRl))) := HBL.out.alloc hzr _
          generalize wr.alloc (.cells (lnC (kk : Int) st0) tRl) = w3 at HR3 HL3 HB3 ⊢
          generalize wr.heap.size = b8 at HR3 hzr ⊢
          clear HRL HBL
          have cW0 : ∀ dd os, Calls Tryd.prog 20 #[.slice p4 n4 cap4, .int .i64 0] (Go.Sort.grow (redrawn w3 dd) os) fun e w'' => e = .returned (.string ⟨X0.toArray⟩) ∧ ∃ p : Regrown, w'' = Go.Sort.grow (redrawn w3 p.d) p.os := fun dd os => (HW0.out _ (bel_call (below_regrown w3 dd os) HB3.out HB3.out.size)).mono fun e w'' h => ⟨h.1, ⟨dd, os⟩, h.2⟩
          have cN0 : ∀ dd os, Calls Tryd.prog 19 #[.string ⟨X0.toArray⟩] (Go.Sort.grow (redrawn w3 dd) os) fun e w'' => e = .returned (.int .i64 N0) ∧ ∃ p : Regrown, w'' = Go.Sort.grow (redrawn w3 p.d) p.os := fun dd os => Calls.regrown_of (HN0.out _)
          have cW2 : ∀ dd os, Calls Tryd.prog 20 #[.slice p4 n4 cap4, .int .i64 2] (Go.Sort.grow (redrawn w3 dd) os) fun e w'' => e = .returned (.string ⟨X2.toArray⟩) ∧ ∃ p : Regrown, w'' = Go.Sort.grow (redrawn w3 p.d) p.os := fun dd os => (HW2.out _ (bel_call (below_regrown w3 dd os) HB3.out HB3.out.size)).mono fun e w'' h => ⟨h.1, ⟨dd, os⟩, h.2⟩
          have cN2 : ∀ dd os, Calls Tryd.prog 19 #[.string ⟨X2.toArray⟩] (Go.Sort.grow (redrawn w3 dd) os) fun e w'' => e = .returned (.int .i64 N2) ∧ ∃ p : Regrown, w'' = Go.Sort.grow (redrawn w3 p.d) p.os := fun dd os => Calls.regrown_of (HN2.out _)
          have cW3 : ∀ dd os, Calls Tryd.prog 20 #[.slice p4 n4 cap4, .int .i64 3] (Go.Sort.grow (redrawn w3 dd) os) fun e w'' => e = .returned (.string ⟨X3.toArray⟩) ∧ ∃ p : Regrown, w'' = Go.Sort.grow (redrawn w3 p.d) p.os := fun dd os => (HW3.out _ (bel_call (below_regrown w3 dd os) HB3.out HB3.out.size)).mono fun e w'' h => ⟨h.1, ⟨dd, os⟩, h.2⟩
          have cN3 : ∀ dd os, Calls Tryd.prog 19 #[.string ⟨X3.toArray⟩] (Go.Sort.grow (redrawn w3 dd) os) fun e w'' => e = .returned (.int .i64 N3) ∧ ∃ p : Regrown, w'' = Go.Sort.grow (redrawn w3 p.d) p.os := fun dd os => Calls.regrown_of (HN3.out _)
          refine wp_region_head_below 22 ?_
          simp only [List.take_succ_cons, List.take_zero, List.drop_succ_cons, List.drop_zero]
          repeat (go_big_quiet_step ((first | with_reducible exact cW0 _ _ | with_reducible exact cW2 _ _ | with_reducible exact cW3 _ _ | with_reducible exact cN0 _ _ | with_reducible exact cN2 _ _ | with_reducible exact cN3 _ _)))
          refine wpQuiet_nil ?_
          intro _ hw'
          obtain ⟨⟨dq, osq⟩, hw''⟩ := hw'
          subst hw''
          clear cW0 cW2 cW3 cN0 cN2 cN3
          have HR4 : Hid (RlB (Go.Sort.grow (redrawn w3 dq) osq) b8 (kk : Int) st0) := HR3.out.below (below_regrown w3 dq osq)
          have HL4 : Hid (RlB (Go.Sort.grow (redrawn w3 dq) osq) w.heap.size 0 st0) := HL3.out.below (below_regrown w3 dq osq)
          have HB4 : Hid (Below w2.heap.size w2 (Go.Sort.grow (redrawn w3 dq) osq)) := bel_call (below_regrown w3 dq osq) HB3.out HB3.out.size
          clear HR3 HL3 HB3
          generalize Go.Sort.grow (redrawn w3 dq) osq = w4 at HR4 HL4 HB4 ⊢
          obtain ⟨d0, d1, d2, d3, d4, d5, d6, d7, d8⟩ := HR4.out.cells
          obtain ⟨f0, f1, f2, f3, f4, f5, f6, f7, f8⟩ := HR4.out.fz
          go_upto_region 11 with fail
          have HR5 : Hid (RlB ((((((((w4.setCell ⟨b8, 1, none⟩ (.int .i64 (k : Int))).setCell ⟨b8, 2, none⟩ (.int .i64 N0)).setCell ⟨b8, 3, none⟩ (.string ⟨X2.toArray⟩)).setCell ⟨b8, 4, none⟩ (.string ⟨X3.toArray⟩)).setCell ⟨b8, 5, none⟩ (.bool cb)).setCell ⟨b8, 6, none⟩ (.int .i64 N3)).setCell ⟨b8, 7, none⟩ (.int .i64 N2)).setCell ⟨b8, 8, none⟩ (.int .u8 B3)) b8 (kk : Int) ⟨(k : Int), N0, X2, X3, cb, N3, N2, B3⟩) := RlB.step HR4.out ⟨(k : Int), N0, X2, X3, cb, N3, N2, B3⟩
          have HL5 : Hid (RlB ((((((((w4.setCell ⟨b8, 1, none⟩ (.int .i64 (k : Int))).setCell ⟨b8, 2, none⟩ (.int .i64 N0)).setCell ⟨b8, 3, none⟩ (.string ⟨X2.toArray⟩)).setCell ⟨b8, 4, none⟩ (.string ⟨X3.toArray⟩)).setCell ⟨b8, 5, none⟩ (.bool cb)).setCell ⟨b8, 6, none⟩ (.int .i64 N3)).setCell ⟨b8, 7, none⟩ (.int .i64 N2)).setCell ⟨b8, 8, none⟩ (.int .u8 B3)) w.heap.size 0 st0) := (RlB.other (RlB.other (RlB.other (RlB.other (RlB.other (RlB.other (RlB.other (RlB.other HL4.out (by omega) _ _) (by omega) _ _) (by omega) _ _) (by omega) _ _) (by omega) _ _) (by omega) _ _) (by omega) _ _) (by omega) _ _)
          have HB5 : Hid (Below w2.heap.size w2 ((((((((w4.setCell ⟨b8, 1, none⟩ (.int .i64 (k : Int))).setCell ⟨b8, 2, none⟩ (.int .i64 N0)).setCell ⟨b8, 3, none⟩ (.string ⟨X2.toArray⟩)).setCell ⟨b8, 4, none⟩ (.string ⟨X3.toArray⟩)).setCell ⟨b8, 5, none⟩ (.bool cb)).setCell ⟨b8, 6, none⟩ (.int .i64 N3)).setCell ⟨b8, 7, none⟩ (.int .i64 N2)).setCell ⟨b8, 8, none⟩ (.int .u8 B3))) := by have := HB4.out; unfold Hid; (repeat' (first | (with_reducible exact Below.refl _ _) | (with_reducible assumption) | (with_reducible refine Below.alloc ?_ ?_ _) | (with_reducible refine bel_drewN ?_ _) | (with_reducible refine Below.drew ?_) | (with_reducible refine Below.setCell ?_ ?_ _) | (with_reducible refine bel_call ‹_› ?_ ?_) | go_size))
          clear d0 d1 d2 d3 d4 d5 d6 d7 d8 f0 f1 f2 f3 f4 f5 f6 f7 f8 HR4 HL4 HB4
          generalize ((((((((w4.setCell ⟨b8, 1, none⟩ (.int .i64 (k : Int))).setCell ⟨b8, 2, none⟩ (.int .i64 N0)).setCell ⟨b8, 3, none⟩ (.string ⟨X2.toArray⟩)).setCell ⟨b8, 4, none⟩ (.string ⟨X3.toArray⟩)).setCell ⟨b8, 5, none⟩ (.bool cb)).setCell ⟨b8, 6, none⟩ (.int .i64 N3)).setCell ⟨b8, 7, none⟩ (.int .i64 N2)).setCell ⟨b8, 8, none⟩ (.int .u8 B3)) = w5 at HR5 HL5 HB5 ⊢
          obtain ⟨M, hM⟩ : ∃ M : Int, (if 3 ≤ (k : Int) ∧ (k : Int) ≤ 6 then N1 else N3) = M := ⟨_, rfl⟩
          have HM := Lib.hid hM
          clear hM
          obtain ⟨tb, htb⟩ : ∃ tb : Bool, decide (3 ≤ (k : Int) ∧ (k : Int) ≤ 6) = tb := ⟨_, rfl⟩
          have HTB := Lib.hid htb
          clear htb
          go_cut [52] (fun v wx => v = .bool tb ∧ wx = w5)
          case first =>
            by_cases h3a : 3 ≤ (k : Int)
            · by_cases h3b : (k : Int) ≤ 6
              · have HT : Hid (tb = true) := by unfold Hid; rw [← HTB.out]; exact decide_eq_true ⟨h3a, h3b⟩
                go_wp2_with fail
                go_meet
                exact ⟨by rw [HT.out], rfl⟩
              · have HT : Hid (tb = false) := by unfold Hid; rw [← HTB.out]; exact decide_eq_false (fun h => h3b h.2)
                go_wp2_with fail
                go_meet
                exact ⟨by rw [HT.out], rfl⟩
            · have HT : Hid (tb = false) := by unfold Hid; rw [← HTB.out]; exact decide_eq_false (fun h => h3a h.1)
              go_wp2_with fail
              go_meet
              exact ⟨by rw [HT.out], rfl⟩
          case rest =>
            obtain ⟨rfl, rfl⟩ := hcut
            go_upto_if 52 with fail
            go_cut [] (fun wy => RlB wy b8 (kk : Int) ⟨(k : Int), N0, X2, X3, cb, M, N2, B3⟩ ∧ RlB wy w.heap.size 0 st0 ∧ Below w2.heap.size w2 wy)
            case first =>
              cases tb
              · have HMM : Hid (N3 = M) := by unfold Hid; rw [← HM.out, if_neg (of_decide_eq_false HTB.out)]
                go_wp2_with fail
                go_meet
                exact ⟨by rw [← HMM.out]; exact HR5.out, HL5.out, HB5.out⟩
              · have HMM : Hid (N1 = M) := by unfold Hid; rw [← HM.out, if_pos (of_decide_eq_true HTB.out)]
                go_wp2_with fail
                refine (HW1.out _ HB5.out).mono ?_
                rintro e wy ⟨rfl, hwy⟩
                rw [hwy]
                clear hwy wy
                go_wp2_with fail
                refine (HN1.out _).mono ?_
                rintro e w6 ⟨rfl, hb6⟩
                have HR6 := Lib.hid (HR5.out.below hb6)
                have HL6 := Lib.hid (HL5.out.below hb6)
                have HB6 : Hid (Below w2.heap.size w2 w6) := bel_call hb6 HB5.out HB5.out.size
                clear hb6
                obtain ⟨d0, d1, d2, d3, d4, d5, d6, d7, d8⟩ := HR6.out.cells
                obtain ⟨f0, f1, f2, f3, f4, f5, f6, f7, f8⟩ := HR6.out.fz
                go_wp2_with fail
                go_meet
                exact ⟨by rw [← HMM.out]; exact RlB.set6 HR6.out N1, RlB.other HL6.out (by omega) _ _, by have := HB6.out; (repeat' (first | (with_reducible exact Below.refl _ _) | (with_reducible assumption) | (with_reducible refine Below.alloc ?_ ?_ _) | (with_reducible refine bel_drewN ?_ _) | (with_reducible refine Below.drew ?_) | (with_reducible refine Below.setCell ?_ ?_ _) | (with_reducible refine bel_call ‹_› ?_ ?_) | go_size))⟩
            case rest =>
              obtain ⟨hR, hL, hB⟩ := hcut
              clear HR5 HL5 HB5 HTB
              have HR6 := Lib.hid hR
              have HL6 := Lib.hid hL
              have HB6 := Lib.hid hB
              clear hR hL hB
              obtain ⟨tc, htc⟩ : ∃ tc : Bool, decide (1 < (kk : Int)) = tc := ⟨_, rfl⟩
              have HTC := Lib.hid htc
              clear htc
              go_upto_region 13 with fail
              go_cut [59] (fun v wz => v = .bool tc ∧ wz = wc)
              case first =>
                by_cases h1i : 1 < (kk : Int)
                · have HT : Hid (tc = true) := by unfold Hid; rw [← HTC.out]; exact decide_eq_true h1i
                  go_wp2_with fail
                  go_meet
                  exact ⟨by rw [HT.out], rfl⟩
                · have HT : Hid (tc = false) := by unfold Hid; rw [← HTC.out]; exact decide_eq_false h1i
                  go_wp2_with fail
                  go_meet
                  exact ⟨by rw [HT.out], rfl⟩
              case rest =>
                obtain ⟨rfl, rfl⟩ := hcut
                go_upto_if 59 with fail
                go_cut [] (fun wz => RlB wz b8 (kk : Int) (candL (kk : Int) (k : Int) L) ∧ RlB wz w.heap.size 0 st0 ∧ Below w2.heap.size w2 wz)
                case first =>
                  cases tc
                  · have HCE : Hid (candL (kk : Int) (k : Int) L = ⟨(k : Int), N0, X2, X3, cb, M, N2, B3⟩) := by
                      have h1 := of_decide_eq_false HTC.out
                      unfold Hid
                      rw [HCL2.out, if_neg h1, if_neg h1, HM.out]
                    go_wp2_with fail
                    go_meet
                    exact ⟨by rw [HCE.out]; exact HR6.out, HL6.out, HB6.out⟩
                  · have HCE : Hid (candL (kk : Int) (k : Int) L = ⟨(k : Int), N1, G2, X3, cb, M, N2, B3⟩) := by
                      have h1 := of_decide_eq_true HTC.out
                      unfold Hid
                      rw [HCL2.out, if_pos h1, if_pos h1, HM.out]
                    go_wp2_with fail
                    refine (HW1.out _ HB6.out).mono ?_
                    rintro e wx ⟨rfl, hwx⟩
                    rw [hwx]
                    clear hwx wx
                    go_wp2_with fail
                    refine (HN1.out _).mono ?_
                    rintro e w6 ⟨rfl, hb6⟩
                    have HR7 := Lib.hid (HR6.out.below hb6)
                    have HL7 := Lib.hid (HL6.out.below hb6)
                    have HB7 : Hid (Below w2.heap.size w2 w6) := bel_call hb6 HB6.out HB6.out.size
                    clear hb6
                    go_wp2_with fail
                    refine (HWG.out _ HB7.out).mono ?_
                    rintro e wx ⟨rfl, hwx⟩
                    rw [hwx]
                    clear hwx wx
                    obtain ⟨d0, d1, d2, d3, d4, d5, d6, d7, d8⟩ := HR7.out.cells
                    obtain ⟨f0, f1, f2, f3, f4, f5, f6, f7, f8⟩ := HR7.out.fz
                    go_wp2_with fail
                    go_meet
                    exact ⟨by rw [HCE.out]; exact RlB.set3 (RlB.set2 HR7.out N1) G2, RlB.other (RlB.other HL7.out (by omega) _ _) (by omega) _ _, by have := HB7.out; (repeat' (first | (with_reducible exact Below.refl _ _) | (with_reducible assumption) | (with_reducible refine Below.alloc ?_ ?_ _) | (with_reducible refine bel_drewN ?_ _) | (with_reducible refine Below.drew ?_) | (with_reducible refine Below.setCell ?_ ?_ _) | (with_reducible refine bel_call ‹_› ?_ ?_) | go_size))⟩
                case rest =>
                  obtain ⟨hR, hL, hB⟩ := hcut
                  clear HR6 HL6 HB6 HTC HM HW0 HW1 HW2 HW3 HWG HN0 HN1 HN2 HN3 hq hB3 HCL2
                  have HR7 := Lib.hid hR
                  have HL7 := Lib.hid hL
                  have HB7 := Lib.hid hB
                  clear hR hL hB
                  go_upto_region 15 with fail
                  generalize hc : candL (kk : Int) (k : Int) L = c at HR7
                  have hck : c.k = (k : Int) := by rw [← hc]; rfl
                  have HCE := Lib.hid hc
                  clear hc
                  have HPL := Lib.hid (fun W => plain_any (kk : Int) c ⟨by omega, by omega⟩ (by rw [hck]; exact ⟨by omega, by omega⟩) W)
                  have HCC : Hid ((plS (kk : Int) c).cell.length ≤ 100000) := by
                    have h1 := cand_cell (kk : Int) (k : Int) L
                    rw [HCE.out] at h1
                    have := HLE.out
                    unfold Hid
                    omega
                  have HLW : Hid (rightB (kk : Int) (plS (kk : Int) c) = true → LawW (kk : Int) (plS (kk : Int) c)) := by
                    have h1 := cand_law (kk : Int) (k : Int) L HLE.out
                    rw [HCE.out] at h1
                    exact fun h => (h1 h).1
                  have HOK : Hid (okC (kk : Int) (k : Int) L → parseS L = ⟨(kk : Int), plS (kk : Int) c, true⟩) := by
                    have h1 := cand_read (kk : Int) (k : Int) L HLE.out
                    rw [HCE.out] at h1
                    exact h1
                  have HIF : Hid (okC (kk : Int) (k : Int) L ↔ (rightB (kk : Int) (plS (kk : Int) c) = true ∧ txX (kk : Int) (plS (kk : Int) c) = L)) := by
                    unfold Hid okC
                    rw [HCE.out]
                  clear HCE hck
                  generalize plS (kk : Int) c = z at HPL HCC HLW HOK HIF
                  rw [enL_eq (kk : Int) c, enL_eq (kk : Int) z] at HPL
                  obtain ⟨c0, c1, c2, c3, c4, c5, c6, c7, c8⟩ := HR7.out.cells
                  go_wp2_with fail
                  refine (HPL.out _).mono ?_
                  rintro e w8 ⟨rfl, hb8⟩
                  have HB8 : Hid (Below w2.heap.size w2 w8) := bel_call hb8 HB7.out HB7.out.size
                  have HL8 := Lib.hid (HL7.out.below hb8)
                  have hz8 := HB8.out.size
                  clear c0 c1 c2 c3 c4 c5 c6 c7 c8 HR7 HL7 HB7 hb8 HPL
                  go_upto_region 16 with fail
                  have e0 : w8.alloc (.cells #[.int .i64 (kk : Int), .int .i64 z.k, .int .i64 z.who, .string ⟨z.cell.toArray⟩, .string ⟨z.text.toArray⟩, .bool z.cols, .int .i64 z.n, .int .i64 z.tor, .int .u8 z.bits] tRl) = w8.alloc (.cells (lnC (kk : Int) z) tRl) := rfl
                  rw [e0]
                  clear e0
                  have HR9 : Hid (RlB (w8.alloc (.cells (lnC (kk : Int) z) tRl)) w8.heap.size (kk : Int) z) := heap_alloc_new w8 _
                  have HL9 : Hid (RlB (w8.alloc (.cells (lnC (kk : Int) z) tRl)) w.heap.size 0 st0) := HL8.out.below (by (repeat' (first | (with_reducible exact Below.refl _ _) | (with_reducible assumption) | (with_reducible refine Below.alloc ?_ ?_ _) | (with_reducible refine bel_drewN ?_ _) | (with_reducible refine Below.drew ?_) | (with_reducible refine Below.setCell ?_ ?_ _) | (with_reducible refine bel_call ‹_› ?_ ?_) | go_size)))
                  have HB9 : Hid (Below w2.heap.size w2 (w8.alloc (.cells (lnC (kk : Int) z) tRl))) := HB8.out.alloc hz8 _
                  clear HL8 HB8
                  generalize w8.alloc (.cells (lnC (kk : Int) z) tRl) = w9 at HR9 HL9 HB9 ⊢
                  generalize w8.heap.size = b9 at HR9 hz8 ⊢
                  obtain ⟨c0, c1, c2, c3, c4, c5, c6, c7, c8⟩ := HR9.out.cells
                  have r0 := cell_regrown c0
                  have r1 := cell_regrown c1
                  have r2 := cell_regrown c2
                  have r3 := cell_regrown c3
                  have r4 := cell_regrown c4
                  have r5 := cell_regrown c5
                  have r6 := cell_regrown c6
                  have r7 := cell_regrown c7
                  have r8 := cell_regrown c8
                  clear c0 c1 c2 c3 c4 c5 c6 c7 c8
                  have HRI := Lib.hid (fun W => right_any (kk : Int) z HCC.out W)
                  rw [enL_eq (kk : Int) z] at HRI
                  have cR : ∀ dd os, Calls Tryd.prog 5 #[.agg #[.int .i64 (kk : Int), .int .i64 z.k, .int .i64 z.who, .string ⟨z.cell.toArray⟩, .string ⟨z.text.toArray⟩, .bool z.cols, .int .i64 z.n, .int .i64 z.tor, .int .u8 z.bits]] (Go.Sort.grow (redrawn w9 dd) os) fun e w'' => e = .returned (.bool (rightB (kk : Int) z)) ∧ ∃ p : Regrown, w'' = Go.Sort.grow (redrawn w9 p.d) p.os := fun dd os => Calls.regrown_of (HRI.out _)
                  clear HRI HCC
                  cases hr : rightB (kk : Int) z with
                  | false =>
                    rw [hr] at cR
                    have HNK : Hid (¬ okC (kk : Int) (k : Int) L) := by
                      unfold Hid
                      rw [HIF.out, hr]
                      rintro ⟨h, _⟩
                      cases h
                    clear HOK HIF HLW hr
                    refine wp_region_plain_below ?_
                    repeat (go_big_quiet_step ((first | with_reducible exact cR _ _)))
                    refine wpQuiet_nil ?_
                    intro _ hw'
                    obtain ⟨⟨dz, osz⟩, hw''⟩ := hw'
                    subst hw''
                    clear r0 r1 r2 r3 r4 r5 r6 r7 r8 cR
                    have HB10 : Hid (Below w2.heap.size w2 (Go.Sort.grow (redrawn w9 dz) osz)) := bel_call (below_regrown w9 dz osz) HB9.out HB9.out.size
                    have HL10 : Hid (RlB (Go.Sort.grow (redrawn w9 dz) osz) w.heap.size 0 st0) := HL9.out.below (below_regrown w9 dz osz)
                    have HN6 : Hid (∀ k' : Nat, k' < k + 1 → ¬ okC (kk : Int) (k' : Int) L) := fun k' h => by
                      by_cases h1 : k' < k
                      · exact HNO2.out k' h1
                      · obtain rfl : k' = k := by omega
                        exact HNK.out
                    clear HR9 HL9 HB9
                    generalize Go.Sort.grow (redrawn w9 dz) osz = w10 at HB10 HL10 ⊢
                    go_wp2_with fail
                    go_roundg (gk - 1)
                    case measure => omega
                    case rel => exact ⟨k + 1, by omega, by go_num, HN6.out, HL10.out, HB10.out⟩
                  | true =>
                    rw [hr] at cR
                    have HRT := Lib.hid (fun W => rtext_law (kk : Int) z ⟨by omega, by omega⟩ (HLW.out hr) W)
                    rw [enL_eq (kk : Int) z] at HRT
                    have cT : ∀ dd os, Calls Tryd.prog 11 #[.agg #[.int .i64 (kk : Int), .int .i64 z.k, .int .i64 z.who, .string ⟨z.cell.toArray⟩, .string ⟨z.text.toArray⟩, .bool z.cols, .int .i64 z.n, .int .i64 z.tor, .int .u8 z.bits]] (Go.Sort.grow (redrawn w9 dd) os) fun e w'' => e = .returned (.string ⟨(txX (kk : Int) z).toArray⟩) ∧ ∃ p : Regrown, w'' = Go.Sort.grow (redrawn w9 p.d) p.os := fun dd os => Calls.regrown_of (HRT.out _)
                    clear HRT HLW
                    by_cases hT : txX (kk : Int) z = L
                    · have HON : Hid (O = ⟨(kk : Int), z, true⟩) := by
                        unfold Hid
                        rw [← HO.out]
                        exact HOK.out (HIF.out.2 ⟨hr, hT⟩)
                      have hqq : ((⟨(txX (kk : Int) z).toArray⟩ : ByteArray).toList == s.toList) = true := by rw [Lib.toList_data, HTO.out, hT]; simp
                      clear HOK HIF hr hT
                      generalize (⟨(txX (kk : Int) z).toArray⟩ : ByteArray) = TX at cT hqq
                      refine wp_region_plain_below ?_
                      repeat (go_big_quiet_step ((first | with_reducible exact cR _ _ | with_reducible exact cT _ _)))
                      refine wpQuiet_nil ?_
                      intro _ hw'
                      obtain ⟨⟨dz, osz⟩, hw''⟩ := hw'
                      subst hw''
                      clear r0 r1 r2 r3 r4 r5 r6 r7 r8 cR cT
                      have HB10 : Hid (Below w2.heap.size w2 (Go.Sort.grow (redrawn w9 dz) osz)) := bel_call (below_regrown w9 dz osz) HB9.out HB9.out.size
                      have HL10 : Hid (RlB (Go.Sort.grow (redrawn w9 dz) osz) w.heap.size 0 st0) := HL9.out.below (below_regrown w9 dz osz)
                      have HR10 : Hid (RlB (Go.Sort.grow (redrawn w9 dz) osz) b9 (kk : Int) z) := HR9.out.below (below_regrown w9 dz osz)
                      clear HR9 HL9 HB9
                      generalize Go.Sort.grow (redrawn w9 dz) osz = w10 at HB10 HL10 HR10 ⊢
                      obtain ⟨c0, c1, c2, c3, c4, c5, c6, c7, c8⟩ := HR10.out.cells
                      obtain ⟨d0, d1, d2, d3, d4, d5, d6, d7, d8⟩ := HL10.out.cells
                      obtain ⟨f0, f1, f2, f3, f4, f5, f6, f7, f8⟩ := HL10.out.fz
                      go_wp2_with fail
                      have gz : Hid (RlB (((((((((w10.setCell ⟨w.heap.size, 0, none⟩ (.int .i64 (kk : Int))).setCell ⟨w.heap.size, 1, none⟩ (.int .i64 z.k)).setCell ⟨w.heap.size, 2, none⟩ (.int .i64 z.who)).setCell ⟨w.heap.size, 3, none⟩ (.string ⟨z.cell.toArray⟩)).setCell ⟨w.heap.size, 4, none⟩ (.string ⟨z.text.toArray⟩)).setCell ⟨w.heap.size, 5, none⟩ (.bool z.cols)).setCell ⟨w.heap.size, 6, none⟩ (.int .i64 z.n)).setCell ⟨w.heap.size, 7, none⟩ (.int .i64 z.tor)).setCell ⟨w.heap.size, 8, none⟩ (.int .u8 z.bits)) w.heap.size (kk : Int) z) := RlB.store HL10.out (kk : Int) z
                      have hBz : Hid (Below w.heap.size w (((((((((w10.setCell ⟨w.heap.size, 0, none⟩ (.int .i64 (kk : Int))).setCell ⟨w.heap.size, 1, none⟩ (.int .i64 z.k)).setCell ⟨w.heap.size, 2, none⟩ (.int .i64 z.who)).setCell ⟨w.heap.size, 3, none⟩ (.string ⟨z.cell.toArray⟩)).setCell ⟨w.heap.size, 4, none⟩ (.string ⟨z.text.toArray⟩)).setCell ⟨w.heap.size, 5, none⟩ (.bool z.cols)).setCell ⟨w.heap.size, 6, none⟩ (.int .i64 z.n)).setCell ⟨w.heap.size, 7, none⟩ (.int .i64 z.tor)).setCell ⟨w.heap.size, 8, none⟩ (.int .u8 z.bits))) := by have h1 := HB2.out; have h2 := h1.trans (HB10.out.mono h1.size); unfold Hid; (repeat' (first | (with_reducible exact Below.refl _ _) | (with_reducible assumption) | (with_reducible refine Below.alloc ?_ ?_ _) | (with_reducible refine bel_drewN ?_ _) | (with_reducible refine Below.drew ?_) | (with_reducible refine Below.setCell ?_ ?_ _) | (with_reducible refine bel_call ‹_› ?_ ?_) | go_size))
                      clear c0 c1 c2 c3 c4 c5 c6 c7 c8 d0 d1 d2 d3 d4 d5 d6 d7 d8 f0 f1 f2 f3 f4 f5 f6 f7 f8
                      generalize (((((((((w10.setCell ⟨w.heap.size, 0, none⟩ (.int .i64 (kk : Int))).setCell ⟨w.heap.size, 1, none⟩ (.int .i64 z.k)).setCell ⟨w.heap.size, 2, none⟩ (.int .i64 z.who)).setCell ⟨w.heap.size, 3, none⟩ (.string ⟨z.cell.toArray⟩)).setCell ⟨w.heap.size, 4, none⟩ (.string ⟨z.text.toArray⟩)).setCell ⟨w.heap.size, 5, none⟩ (.bool z.cols)).setCell ⟨w.heap.size, 6, none⟩ (.int .i64 z.n)).setCell ⟨w.heap.size, 7, none⟩ (.int .i64 z.tor)).setCell ⟨w.heap.size, 8, none⟩ (.int .u8 z.bits)) = wz at gz hBz ⊢
                      obtain ⟨c0, c1, c2, c3, c4, c5, c6, c7, c8⟩ := gz.out.cells
                      refine bodyPost_ret (v := .tuple #[.agg (lnC (kk : Int) z), .bool true]) (by simp only [results, Tryd.results12]; go_simp; rfl) rfl ⟨?_, hBz.out⟩
                      rw [HON.out]
                    · have HNK : Hid (¬ okC (kk : Int) (k : Int) L) := by
                        unfold Hid
                        rw [HIF.out]
                        rintro ⟨_, h⟩
                        exact hT h
                      have hqq : ((⟨(txX (kk : Int) z).toArray⟩ : ByteArray).toList == s.toList) = false := by rw [Lib.toList_data, HTO.out]; simpa using hT
                      clear HOK HIF hr hT
                      generalize (⟨(txX (kk : Int) z).toArray⟩ : ByteArray) = TX at cT hqq
                      refine wp_region_plain_below ?_
                      repeat (go_big_quiet_step ((first | with_reducible exact cR _ _ | with_reducible exact cT _ _)))
                      refine wpQuiet_nil ?_
                      intro _ hw'
                      obtain ⟨⟨dz, osz⟩, hw''⟩ := hw'
                      subst hw''
                      clear r0 r1 r2 r3 r4 r5 r6 r7 r8 cR cT
                      have HB10 : Hid (Below w2.heap.size w2 (Go.Sort.grow (redrawn w9 dz) osz)) := bel_call (below_regrown w9 dz osz) HB9.out HB9.out.size
                      have HL10 : Hid (RlB (Go.Sort.grow (redrawn w9 dz) osz) w.heap.size 0 st0) := HL9.out.below (below_regrown w9 dz osz)
                      have HN6 : Hid (∀ k' : Nat, k' < k + 1 → ¬ okC (kk : Int) (k' : Int) L) := fun k' h => by
                        by_cases h1 : k' < k
                        · exact HNO2.out k' h1
                        · obtain rfl : k' = k := by omega
                          exact HNK.out
                      clear HR9 HL9 HB9
                      generalize Go.Sort.grow (redrawn w9 dz) osz = w10 at HB10 HL10 ⊢
                      go_wp2_with fail
                      go_roundg (gk - 1)
                      case measure => omega
                      case rel => exact ⟨k + 1, by omega, by go_num, HN6.out, HL10.out, HB10.out⟩
        · have hk9bi : ¬ (k : Int) ≤ 9 := by omega
          have HN5 : Hid (∀ kk' k' : Nat, 1 ≤ kk' → kk' < kk + 1 → k' ≤ 9 → ¬ okC (kk' : Int) (k' : Int) L) := fun kk' k' h1 h2 h3 => by
            by_cases h : kk' < kk
            · exact HNO.out kk' k' h1 h h3
            · obtain rfl : kk' = kk := by omega
              exact HNO2.out k' (by omega)
          go_wp2_with fail
          go_roundg (9 - kk)
          case measure => omega
          case rel => exact ⟨kk + 1, by omega, by omega, by go_num, HN5.out, HRL.out, HBL.out⟩
    · have hk9i : ¬ (kk : Int) ≤ 9 := by omega
      have HON : Hid (O = ⟨0, st0, false⟩) := by
        unfold Hid
        rw [← HO.out]
        exact parse_no (fun kk' k' h1 h2 h3 => HNO.out kk' k' h1 (by omega) h3)
      obtain ⟨d0, d1, d2, d3, d4, d5, d6, d7, d8⟩ := HRL.out.cells
      obtain ⟨f0, f1, f2, f3, f4, f5, f6, f7, f8⟩ := HRL.out.fz
      go_wp2_with fail
      have gz : Hid (RlB (((((((((wr.setCell ⟨w.heap.size, 0, none⟩ (.int .i64 0)).setCell ⟨w.heap.size, 1, none⟩ (.int .i64 0)).setCell ⟨w.heap.size, 2, none⟩ (.int .i64 0)).setCell ⟨w.heap.size, 3, none⟩ (.string ⟨#[]⟩)).setCell ⟨w.heap.size, 4, none⟩ (.string ⟨#[]⟩)).setCell ⟨w.heap.size, 5, none⟩ (.bool false)).setCell ⟨w.heap.size, 6, none⟩ (.int .i64 0)).setCell ⟨w.heap.size, 7, none⟩ (.int .i64 0)).setCell ⟨w.heap.size, 8, none⟩ (.int .u8 0)) w.heap.size 0 st0) := RlB.store HRL.out 0 st0
      have hBz : Hid (Below w.heap.size w (((((((((wr.setCell ⟨w.heap.size, 0, none⟩ (.int .i64 0)).setCell ⟨w.heap.size, 1, none⟩ (.int .i64 0)).setCell ⟨w.heap.size, 2, none⟩ (.int .i64 0)).setCell ⟨w.heap.size, 3, none⟩ (.string ⟨#[]⟩)).setCell ⟨w.heap.size, 4, none⟩ (.string ⟨#[]⟩)).setCell ⟨w.heap.size, 5, none⟩ (.bool false)).setCell ⟨w.heap.size, 6, none⟩ (.int .i64 0)).setCell ⟨w.heap.size, 7, none⟩ (.int .i64 0)).setCell ⟨w.heap.size, 8, none⟩ (.int .u8 0))) := by have h1 := HB2.out; have h2 := h1.trans (HBL.out.mono h1.size); unfold Hid; (repeat' (first | (with_reducible exact Below.refl _ _) | (with_reducible assumption) | (with_reducible refine Below.alloc ?_ ?_ _) | (with_reducible refine bel_drewN ?_ _) | (with_reducible refine Below.drew ?_) | (with_reducible refine Below.setCell ?_ ?_ _) | (with_reducible refine bel_call ‹_› ?_ ?_) | go_size))
      clear d0 d1 d2 d3 d4 d5 d6 d7 d8 f0 f1 f2 f3 f4 f5 f6 f7 f8
      generalize (((((((((wr.setCell ⟨w.heap.size, 0, none⟩ (.int .i64 0)).setCell ⟨w.heap.size, 1, none⟩ (.int .i64 0)).setCell ⟨w.heap.size, 2, none⟩ (.int .i64 0)).setCell ⟨w.heap.size, 3, none⟩ (.string ⟨#[]⟩)).setCell ⟨w.heap.size, 4, none⟩ (.string ⟨#[]⟩)).setCell ⟨w.heap.size, 5, none⟩ (.bool false)).setCell ⟨w.heap.size, 6, none⟩ (.int .i64 0)).setCell ⟨w.heap.size, 7, none⟩ (.int .i64 0)).setCell ⟨w.heap.size, 8, none⟩ (.int .u8 0)) = wz at gz hBz ⊢
      obtain ⟨c0, c1, c2, c3, c4, c5, c6, c7, c8⟩ := gz.out.cells
      refine bodyPost_ret (v := .tuple #[.agg (lnC 0 st0), .bool false]) (by simp only [results, Tryd.results12]; go_simp; rfl) rfl ⟨?_, hBz.out⟩
      rw [HON.out]
end Go.Proofs.YtddoghjopihkpaaDoor
