/- Script: the document's Right. -/
import Derived.Test.YtddoghjopihkpaaDoorScrL
import Derived.Test.YtddoghjopihkpaaDoorQuick
set_option linter.unusedSimpArgs false
set_option linter.unusedVariables false
namespace Go.Proofs.YtddoghjopihkpaaDoor
open Go.RowKit Go.Joins

def smB (n : Int) : Bool := decide (0 ≤ n) && decide (n ≤ 1048576)
/-- May a line be: its numbers. -/
def numsB (kk : Int) (x : Stp) : Bool := smB x.who && (smB x.n && (smB x.tor && (!decide (kk < 1) && (!decide (9 < kk) && (!decide (x.k < 0) && !decide (9 < x.k))))))
def noSp (C : Bs) : Bool := C.all fun c => c != 32
def rightB (kk : Int) (x : Stp) : Bool := numsB kk x && (!decide (kk = 1) || noSp x.cell)
theorem noSp_at (C : Bs) (i : Nat) (h : i < C.length) (hc : btN C i = 32) : noSp C = false := by
  unfold noSp
  rw [List.all_eq_false]
  refine ⟨C[i], List.getElem_mem h, ?_⟩
  rw [btN_get h] at hc
  have : C[i] = 32 := by rw [← UInt8.toNat_inj, hc]; rfl
  simp [this]
theorem noSp_all (C : Bs) (h : ∀ i, i < C.length → btN C i ≠ 32) : noSp C = true := by
  unfold noSp
  rw [List.all_eq_true]
  intro c hc
  obtain ⟨i, hi, rfl⟩ := List.mem_iff_getElem.1 hc
  have := h i hi
  rw [btN_get hi] at this
  simp only [bne_iff_ne, ne_eq]
  intro e
  exact this (by rw [e]; rfl)

set_option maxRecDepth 100000 in
set_option maxHeartbeats 16000000 in
theorem right_any (kk : Int) (x : Stp) (hC : x.cell.length ≤ 100000) (w : World) : Calls Tryd.prog 5 #[.agg (lnC kk x)] w fun e w' => e = .returned (.bool (rightB kk x)) ∧ Below w.heap.size w w' := by
  have HS : Hid (∀ n W, Calls Tryd.prog 13 #[.int .i64 n] W fun e w' => e = .returned (.bool (smB n)) ∧ W = w') := fun n W => rsmall_any n W
  have hA0 : Hid (RlB (w.alloc (.cells (lnC kk x) tRl)) w.heap.size kk x) := heap_alloc_new w _
  have hAB : Hid (Below w.heap.size w (w.alloc (.cells (lnC kk x) tRl))) := by unfold Hid; (repeat' (first | (with_reducible exact Below.refl _ _) | (with_reducible assumption) | (with_reducible refine Below.alloc ?_ ?_ _) | (with_reducible refine bel_drewN ?_ _) | (with_reducible refine Below.drew ?_) | (with_reducible refine Below.setCell ?_ ?_ _) | (with_reducible refine bel_call ‹_› ?_ ?_) | go_size))
  obtain ⟨O, hO⟩ : ∃ O, rightB kk x = O := ⟨_, rfl⟩
  have HO := Lib.hid hO
  unfold rightB at HO
  rw [hO]
  clear hO
  have HBT := Lib.hid (btN_str ⟨x.cell.toArray⟩)
  have HNA := Lib.hid (noSp_at x.cell)
  have HNL := Lib.hid (noSp_all x.cell)
  have hsz : (⟨x.cell.toArray⟩ : ByteArray).size = x.cell.length := sizeL _
  go_enter Tryd.func5, Tryd.ntmps5
  go_upto_region 1 with fail
  generalize w.alloc (.cells (lnC kk x) tRl) = w0 at hA0 hAB ⊢
  obtain ⟨c0, c1, c2, c3, c4, c5, c6, c7, c8⟩ := hA0.out.cells
  have H1 : ∀ dd os, Calls Tryd.prog 13 #[.int .i64 x.who] (Go.Sort.grow (redrawn w0 dd) os) fun e w' => e = .returned (.bool (smB x.who)) ∧ ∃ p : Regrown, w' = Go.Sort.grow (redrawn w0 p.d) p.os := fun dd os => (HS.out x.who _).mono fun e w' h => ⟨h.1, ⟨dd, os⟩, h.2.symm⟩
  have H2 : ∀ dd os, Calls Tryd.prog 13 #[.int .i64 x.n] (Go.Sort.grow (redrawn w0 dd) os) fun e w' => e = .returned (.bool (smB x.n)) ∧ ∃ p : Regrown, w' = Go.Sort.grow (redrawn w0 p.d) p.os := fun dd os => (HS.out x.n _).mono fun e w' h => ⟨h.1, ⟨dd, os⟩, h.2.symm⟩
  have H3 : ∀ dd os, Calls Tryd.prog 13 #[.int .i64 x.tor] (Go.Sort.grow (redrawn w0 dd) os) fun e w' => e = .returned (.bool (smB x.tor)) ∧ ∃ p : Regrown, w' = Go.Sort.grow (redrawn w0 p.d) p.os := fun dd os => (HS.out x.tor _).mono fun e w' h => ⟨h.1, ⟨dd, os⟩, h.2.symm⟩
  have HNB0 : numsB kk x = (smB x.who && (smB x.n && (smB x.tor && (!decide (kk < 1) && (!decide (9 < kk) && (!decide (x.k < 0) && !decide (9 < x.k))))))) := rfl
  have HNB := Lib.hid HNB0
  clear HNB0
  generalize numsB kk x = nb at HNB HO
  generalize smB x.who = s1 at H1 HNB
  generalize smB x.n = s2 at H2 HNB
  generalize smB x.tor = s3 at H3 HNB
  have r0 := cell_regrown c0
  have r1 := cell_regrown c1
  have r2 := cell_regrown c2
  have r6 := cell_regrown c6
  have r7 := cell_regrown c7
  go_cut [44] (fun v wx => v = .bool (!nb) ∧ ∃ p : Regrown, wx = Go.Sort.grow (redrawn w0 p.d) p.os)
  case first =>
    clear HO HBT HNA HNL hA0 hAB c0 c1 c2 c3 c4 c5 c6 c7 c8 HS hsz hC
    cases s1
    · refine wp_region_plain_below ?_
      repeat (go_big_quiet_step ((first | with_reducible exact H1 _ _ | with_reducible exact H2 _ _ | with_reducible exact H3 _ _)))
      refine wpQuiet_nil ?_
      intro _ hw'
      obtain ⟨⟨dq, osq⟩, hw''⟩ := hw'
      subst hw''
      go_wp2_with fail
      go_meet
      exact ⟨by rw [HNB.out]; first | rfl | (simp only [da, db, dc, dd]; rfl) | (simp only [da, db, dc]; rfl) | (simp only [da, db]; rfl) | (simp only [da]; rfl), ⟨dq, osq⟩, rfl⟩
    · skip
      cases s2
      · refine wp_region_plain_below ?_
        repeat (go_big_quiet_step ((first | with_reducible exact H1 _ _ | with_reducible exact H2 _ _ | with_reducible exact H3 _ _)))
        refine wpQuiet_nil ?_
        intro _ hw'
        obtain ⟨⟨dq, osq⟩, hw''⟩ := hw'
        subst hw''
        go_wp2_with fail
        go_meet
        exact ⟨by rw [HNB.out]; first | rfl | (simp only [da, db, dc, dd]; rfl) | (simp only [da, db, dc]; rfl) | (simp only [da, db]; rfl) | (simp only [da]; rfl), ⟨dq, osq⟩, rfl⟩
      · skip
        cases s3
        · refine wp_region_plain_below ?_
          repeat (go_big_quiet_step ((first | with_reducible exact H1 _ _ | with_reducible exact H2 _ _ | with_reducible exact H3 _ _)))
          refine wpQuiet_nil ?_
          intro _ hw'
          obtain ⟨⟨dq, osq⟩, hw''⟩ := hw'
          subst hw''
          go_wp2_with fail
          go_meet
          exact ⟨by rw [HNB.out]; first | rfl | (simp only [da, db, dc, dd]; rfl) | (simp only [da, db, dc]; rfl) | (simp only [da, db]; rfl) | (simp only [da]; rfl), ⟨dq, osq⟩, rfl⟩
        · skip
          by_cases ha : kk < 1
          · have da : decide (kk < 1) = true := decide_eq_true ha
            refine wp_region_plain_below ?_
            repeat (go_big_quiet_step ((first | with_reducible exact H1 _ _ | with_reducible exact H2 _ _ | with_reducible exact H3 _ _)))
            refine wpQuiet_nil ?_
            intro _ hw'
            obtain ⟨⟨dq, osq⟩, hw''⟩ := hw'
            subst hw''
            go_wp2_with fail
            go_meet
            exact ⟨by rw [HNB.out]; first | rfl | (simp only [da, db, dc, dd]; rfl) | (simp only [da, db, dc]; rfl) | (simp only [da, db]; rfl) | (simp only [da]; rfl), ⟨dq, osq⟩, rfl⟩
          · have da : decide (kk < 1) = false := decide_eq_false ha
            by_cases hb : 9 < kk
            · have db : decide (9 < kk) = true := decide_eq_true hb
              refine wp_region_plain_below ?_
              repeat (go_big_quiet_step ((first | with_reducible exact H1 _ _ | with_reducible exact H2 _ _ | with_reducible exact H3 _ _)))
              refine wpQuiet_nil ?_
              intro _ hw'
              obtain ⟨⟨dq, osq⟩, hw''⟩ := hw'
              subst hw''
              go_wp2_with fail
              go_meet
              exact ⟨by rw [HNB.out]; first | rfl | (simp only [da, db, dc, dd]; rfl) | (simp only [da, db, dc]; rfl) | (simp only [da, db]; rfl) | (simp only [da]; rfl), ⟨dq, osq⟩, rfl⟩
            · have db : decide (9 < kk) = false := decide_eq_false hb
              by_cases hc : x.k < 0
              · have dc : decide (x.k < 0) = true := decide_eq_true hc
                refine wp_region_plain_below ?_
                repeat (go_big_quiet_step ((first | with_reducible exact H1 _ _ | with_reducible exact H2 _ _ | with_reducible exact H3 _ _)))
                refine wpQuiet_nil ?_
                intro _ hw'
                obtain ⟨⟨dq, osq⟩, hw''⟩ := hw'
                subst hw''
                go_wp2_with fail
                go_meet
                exact ⟨by rw [HNB.out]; first | rfl | (simp only [da, db, dc, dd]; rfl) | (simp only [da, db, dc]; rfl) | (simp only [da, db]; rfl) | (simp only [da]; rfl), ⟨dq, osq⟩, rfl⟩
              · have dc : decide (x.k < 0) = false := decide_eq_false hc
                by_cases hd : 9 < x.k
                · have dd : decide (9 < x.k) = true := decide_eq_true hd
                  refine wp_region_plain_below ?_
                  repeat (go_big_quiet_step ((first | with_reducible exact H1 _ _ | with_reducible exact H2 _ _ | with_reducible exact H3 _ _)))
                  refine wpQuiet_nil ?_
                  intro _ hw'
                  obtain ⟨⟨dq, osq⟩, hw''⟩ := hw'
                  subst hw''
                  go_wp2_with fail
                  go_meet
                  exact ⟨by rw [HNB.out]; first | rfl | (simp only [da, db, dc, dd]; rfl) | (simp only [da, db, dc]; rfl) | (simp only [da, db]; rfl) | (simp only [da]; rfl), ⟨dq, osq⟩, rfl⟩
                · have dd : decide (9 < x.k) = false := decide_eq_false hd
                  refine wp_region_plain_below ?_
                  repeat (go_big_quiet_step ((first | with_reducible exact H1 _ _ | with_reducible exact H2 _ _ | with_reducible exact H3 _ _)))
                  refine wpQuiet_nil ?_
                  intro _ hw'
                  obtain ⟨⟨dq, osq⟩, hw''⟩ := hw'
                  subst hw''
                  go_wp2_with fail
                  go_meet
                  exact ⟨by rw [HNB.out]; first | rfl | (simp only [da, db, dc, dd]; rfl) | (simp only [da, db, dc]; rfl) | (simp only [da, db]; rfl) | (simp only [da]; rfl), ⟨dq, osq⟩, rfl⟩
  case rest =>
    obtain ⟨rfl, ⟨dq, osq⟩, rfl⟩ := hcut
    have hAB2 : Hid (Below w.heap.size w (Go.Sort.grow (redrawn w0 dq) osq)) := bel_call (below_regrown w0 dq osq) hAB.out hAB.out.size
    have hA2 : Hid (RlB (Go.Sort.grow (redrawn w0 dq) osq) w.heap.size kk x) := hA0.out.below (below_regrown w0 dq osq)
    clear HNB H1 H2 H3 r0 r1 r2 r6 r7 c0 c1 c2 c3 c4 c5 c6 c7 c8 hA0 hAB HS
    generalize Go.Sort.grow (redrawn w0 dq) osq = w1 at hAB2 hA2 ⊢
    obtain ⟨c0, c1, c2, c3, c4, c5, c6, c7, c8⟩ := hA2.out.cells
    clear hA2
    have hAB := hAB2
    clear hAB2
    cases nb
    · have HO2 : Hid (O = false) := by unfold Hid; rw [← HO.out]; rfl
      go_wp2_with fail
      go_ret
      exact ⟨by rw [HO2.out]; rfl, hAB.out⟩
    · have HO2 : Hid (O = (!decide (kk = 1) || noSp x.cell)) := by unfold Hid; rw [← HO.out]; rfl
      clear HO
      generalize hCC : x.cell = C at c3 HO2 HBT HNA HNL hsz hC
      rw [show (⟨C.toArray⟩ : ByteArray).data.toList = C from rfl] at HBT
      generalize (⟨C.toArray⟩ : ByteArray) = A at c3 HBT hsz
      clear hCC
      by_cases hk : kk = 1
      · have HO3 : Hid (O = noSp C) := by unfold Hid; rw [HO2.out, decide_eq_true hk]; rfl
        subst hk
        clear HO2
        simp only [Bool.not_true]
        go_wp2_with fail
        go_loopg [3] A.size (fun g v3 wr => ∃ i : Nat, i + g = A.size ∧ v3 = .int .i64 i ∧ (∀ j, j < i → btN C j ≠ 32) ∧ wr = w1)
        case atStart => exact ⟨0, by omega, rfl, fun j hj => by omega, rfl⟩
        case round =>
          obtain ⟨i, hig, rfl, hall, rfl⟩ := hrel
          have HALL := Lib.hid hall
          clear hall
          by_cases hlt : i < A.size
          · have hli : (i : Int) < (A.size : Int) := by omega
            have hi0 : (0 : Int) ≤ (i : Int) := by omega
            have hb := HBT.out i hlt
            by_cases h32 : btN C i = 32
            · have HO4 : Hid (O = false) := by unfold Hid; rw [HO3.out]; exact HNA.out i (by omega) h32
              have hbi : (((A[i]'hlt).toNat : Nat) : Int) = 32 := by rw [hb, h32]; rfl
              clear hb h32
              go_wp2_with fail
              go_ret
              exact ⟨by rw [HO4.out]; rfl, hAB.out⟩
            · have hbi : ((((A[i]'hlt).toNat : Nat) : Int) == 32) = false := by rw [hb]; simp; omega
              have HN2 : Hid (∀ j, j < i + 1 → btN C j ≠ 32) := fun j hj => by
                by_cases h : j < i
                · exact HALL.out j h
                · obtain rfl : j = i := by omega
                  exact h32
              clear hb h32
              go_wp2_with fail
              go_roundg (gk - 1)
              case measure => omega
              case rel => exact ⟨i + 1, by omega, by go_num, HN2.out, rfl⟩
          · obtain rfl : i = A.size := by omega
            have hli : ¬ (A.size : Int) < (A.size : Int) := by omega
            have HO4 : Hid (O = true) := by unfold Hid; rw [HO3.out]; exact HNL.out (fun j hj => HALL.out j (by omega))
            go_wp2_with fail
            go_ret
            exact ⟨by rw [HO4.out]; rfl, hAB.out⟩
      · have HO3 : Hid (O = true) := by unfold Hid; rw [HO2.out, decide_eq_false hk]; rfl
        have hki : (kk == 1) = false := by simpa using hk
        clear HO2
        simp only [Bool.not_true]
        go_wp2_with fail
        go_loopg [3] 0 (fun g v3 wr => v3 = .int .i64 0 ∧ wr = w1)
        case atStart => exact ⟨rfl, rfl⟩
        case round =>
          obtain ⟨rfl, rfl⟩ := hrel
          by_cases hlt : 0 < A.size
          · have hli : (0 : Int) < (A.size : Int) := by omega
            go_wp2_with fail
            go_ret
            exact ⟨by rw [HO3.out]; rfl, hAB.out⟩
          · have hli : ¬ (0 : Int) < (A.size : Int) := by omega
            go_wp2_with fail
            go_ret
            exact ⟨by rw [HO3.out]; rfl, hAB.out⟩
end Go.Proofs.YtddoghjopihkpaaDoor
