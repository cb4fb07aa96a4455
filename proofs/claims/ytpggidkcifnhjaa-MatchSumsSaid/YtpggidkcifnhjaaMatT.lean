/- Conditions: Sum, the document's. -/
import Derived.Test.YtpggidkcifnhjaaMatS
import Derived.Test.YtpggidkcifnhjaaDecG
import Derived.Lib.QuietBelow
set_option linter.unusedSimpArgs false
set_option linter.unusedVariables false
namespace Go.Proofs.Ytpggidkcifnhjaa
open Go.RowKit

/-- The world where the document's loop over the values begins. -/
abbrev RmW (w : World) (sg : ByteArray) (nb : Bool) (num : Int) (s : Value) : World := ((w.alloc (.cells #[.string sg, .bool nb, .int .i64 num, s] 34)).alloc (.cells #[.int .i64 0, .int .i64 0, .string ⟨#[]⟩] 38))
theorem rmw_size (w : World) (sg : ByteArray) (nb : Bool) (num : Int) (s : Value) : (RmW w sg nb num s).heap.size = w.heap.size + 2 := by simp [RmW]
theorem rmw_is (w : World) (sg : ByteArray) (nb : Bool) (num : Int) (s : Value) : SmC w (RmW w sg nb num s) sg nb num s := by
  unfold SmC
  refine ⟨?_, ?_, ?_, ?_, ⟨?_, ?_, ?_⟩, ?_, ?_, ?_⟩
  all_goals first | (go_simp; done) | (go_simp; rfl)
theorem rmc_below {w W : World} {sg : ByteArray} {nb : Bool} {num : Int} {s : Value} (hb : Below (RmW w sg nb num s).heap.size (RmW w sg nb num s) W) : SmC w W sg nb num s := by
  rw [rmw_size] at hb
  have k0 : ∀ b o, b < w.heap.size + 2 → W.cell? ⟨b, o, none⟩ = (RmW w sg nb num s).cell? ⟨b, o, none⟩ := fun b o h => hb.cell (p := ⟨b, o, none⟩) h
  have k1 : ∀ b o, b < w.heap.size + 2 → W.frozen? ⟨b, o, none⟩ = (RmW w sg nb num s).frozen? ⟨b, o, none⟩ := fun b o h => hb.frozen (p := ⟨b, o, none⟩) h
  have h := rmw_is w sg nb num s
  unfold SmC at h ⊢
  rw [k0 _ _ (by omega), k0 _ _ (by omega), k0 _ _ (by omega), k0 _ _ (by omega), k0 _ _ (by omega), k0 _ _ (by omega), k0 _ _ (by omega), k1 _ _ (by omega), k1 _ _ (by omega), k1 _ _ (by omega)]
  exact h

theorem rfail_num (w : World) : Calls Try.prog 29 #[.string ⟨#[35, 78, 85, 77, 33]⟩] w fun e w' => e = .returned (.agg #[.int .i64 3, .int .i64 0, .string ⟨#[35, 78, 85, 77, 33]⟩]) ∧ Below w.heap.size w w' := Val.refFail_any _ w

set_option maxRecDepth 100000 in
set_option maxHeartbeats 4000000 in
theorem rsum_any (q : Nat) (hq : q < 6) (nb : Bool) (num : Int) (L : List Sg) (p : Option Addr) (cap : Nat) (Vs Us : List Vl) (pv pu : Option Addr) (cv cu : Nat) (hv : Vs.length ≤ 1000) (hu : Us.length ≤ 1000) (hvo : ∀ v ∈ Vs, vlOk v) (huo : ∀ v ∈ Us, vlOk v) (hlen : L.length ≤ 1000) (hok : ∀ x ∈ L.map low, x.1 ≤ 2 ∧ x.2 < 256) (w : World) (hL : RdG sgE 2 w p (L.map low).length (L.map low)) (hV : RdG vlE 3 w pv Vs.length Vs) (hU : RdG vlE 3 w pu Us.length Us) :
    Calls Try.prog 12 #[.agg #[.string (sgB q), .bool nb, .int .i64 num, .slice p (L.map low).length cap], .slice pv Vs.length cv, .slice pu Us.length cu] w fun e w' => e = .returned (vlV (sumF q nb num L Vs Us 0)) ∧ Below w.heap.size w w' := by
  have HI : Hid (∀ (k n : Int) (t : ByteArray), vlOk ⟨k, n, t⟩ → ∀ W, Below w.heap.size w W → Calls Try.prog 8 #[.agg #[.string (sgB q), .bool nb, .int .i64 num, .slice p (L.map low).length cap], .agg #[.int .i64 k, .int .i64 n, .string t]] W fun e w' => e = .returned (.bool (isB q nb num L k n t)) ∧ Below W.heap.size W w') := fun k n t h W hW => ris_any q hq nb num L p cap k n t h.1 hlen h.2.1 hok W (hL.below hW)
  have HEND := Lib.hid (fun i s => sumF_end q nb num L (vs := Vs) (us := Us) (i := i) s)
  have HSTEP := Lib.hid (fun i s v u => sumF_step q nb num L (vs := Vs) (us := Us) (i := i) s v u)
  obtain ⟨TOT, hT⟩ : ∃ T, sumF q nb num L Vs Us 0 = T := ⟨_, rfl⟩
  have HT : Hid (sumF q nb num L (Vs.drop 0) (Us.drop 0) 0 = TOT) := by unfold Hid; rw [List.drop_zero, List.drop_zero]; exact hT
  rw [hT]
  obtain ⟨m, hm⟩ : ∃ m, Vs.length = m := ⟨_, rfl⟩
  obtain ⟨m2, hm2⟩ : ∃ m, Us.length = m := ⟨_, rfl⟩
  obtain ⟨ln, hln⟩ : ∃ ln, (L.map low).length = ln := ⟨_, rfl⟩
  rw [hm] at hV hv ⊢
  rw [hm2] at hU hu ⊢
  rw [hln] at HI ⊢
  obtain ⟨sg, hsg⟩ : ∃ sg, sgB q = sg := ⟨_, rfl⟩
  rw [hsg] at HI ⊢
  have HM := Lib.hid hm
  have HM2 := Lib.hid hm2
  have HV := Lib.hid hV
  have HU := Lib.hid hU
  have HVO := Lib.hid hvo
  have HUO := Lib.hid huo
  clear hm hm2 hln hsg hV hU hvo huo hL hok hlen hT
  go_enter Try.func12, Try.ntmps12
  go_wp2_with fail
  go_loopg [7, 8] m (fun g v7 v8 wr => ∃ (i : Nat) (s : Int), i + g = m ∧ v8 = .int .i64 i ∧ v7 = .int .i64 s ∧ -9223372036854775808 ≤ s ∧ s ≤ 9223372036854775807 ∧ sumF q nb num L (Vs.drop i) (Us.drop i) s = TOT ∧ Below (RmW w sg nb num (.slice p ln cap)).heap.size (RmW w sg nb num (.slice p ln cap)) wr)
  case atStart => exact ⟨0, 0, by omega, rfl, rfl, by omega, by omega, HT.out, Below.refl _ _⟩
  case round =>
    obtain ⟨i, s, hig, rfl, rfl, hs1, hs2, htot, hbel⟩ := hrel
    have hzr := hbel.size
    rw [rmw_size] at hzr
    obtain ⟨q0, q1, q2, q3, ⟨r0, r1, r2⟩, f0, f1, f2⟩ := rmc_below hbel
    have HBW : Hid (Below w.heap.size w wr) := bel_call hbel (by (repeat' (first | (with_reducible exact Below.refl _ _) | (with_reducible assumption) | (with_reducible refine Below.alloc ?_ ?_ _) | (with_reducible refine bel_drewN ?_ _) | (with_reducible refine Below.drew ?_) | (with_reducible refine Below.setCell ?_ ?_ _) | (with_reducible refine bel_call ‹_› ?_ ?_) | go_size))) (by rw [rmw_size]; omega)
    have HBEL := Lib.hid hbel
    have HTOT := Lib.hid htot
    clear htot hbel
    have fin : (m ≤ i ∨ m2 ≤ i) → TOT = ⟨1, s, ⟨#[]⟩⟩ := fun h => by
      rw [← HTOT.out]
      exact HEND.out i s (by rw [HM.out, HM2.out]; exact h)
    have FIN := Lib.hid fin
    have HO := Lib.hid (fun W => Val.refOf_any s W)
    clear fin
    by_cases hlt : i < m
    · have hli : (i : Int) < (m : Int) := by omega
      by_cases hlt2 : i < m2
      · have hli2 : (i : Int) < (m2 : Int) := by omega
        have hi0 : (0 : Int) ≤ (i : Int) := by omega
        have hiV : i < Vs.length := by rw [HM.out]; exact hlt
        obtain ⟨⟨k, n, t⟩, hx⟩ : ∃ x, Vs[i] = x := ⟨_, rfl⟩
        have hxo := HVO.out _ (List.getElem_mem hiV)
        rw [hx] at hxo
        have hx' : Vs[i]? = some ⟨k, n, t⟩ := by rw [List.getElem?_eq_getElem hiV, hx]
        obtain ⟨b, off, rfl, hb, hcs⟩ := HV.out.some hlt
        have c0 : wr.cell? ⟨b, off + i * 3, none⟩ = some (.int .i64 k) := (HBW.out.cell (p := ⟨b, off + i * 3, none⟩) hb).trans (hcs i _ hx' 0 _ rfl)
        have c1 : wr.cell? ⟨b, off + i * 3 + 1, none⟩ = some (.int .i64 n) := (HBW.out.cell (p := ⟨b, off + i * 3 + 1, none⟩) hb).trans (hcs i _ hx' 1 _ rfl)
        have c2 : wr.cell? ⟨b, off + i * 3 + 2, none⟩ = some (.string t) := (HBW.out.cell (p := ⟨b, off + i * 3 + 2, none⟩) hb).trans (hcs i _ hx' 2 _ rfl)
        have hbr : b < wr.heap.size := by omega
        have HC := Lib.hid (HI.out k n t hxo)
        have hiU : i < Us.length := by rw [HM2.out]; exact hlt2
        obtain ⟨⟨k', n', t'⟩, hy⟩ : ∃ x, Us[i] = x := ⟨_, rfl⟩
        have hyo := HUO.out _ (List.getElem_mem hiU)
        rw [hy] at hyo
        have hy' : Us[i]? = some ⟨k', n', t'⟩ := by rw [List.getElem?_eq_getElem hiU, hy]
        obtain ⟨b2, off2, rfl, hb2, hcs2⟩ := HU.out.some hlt2
        have d0 : wr.cell? ⟨b2, off2 + i * 3, none⟩ = some (.int .i64 k') := (HBW.out.cell (p := ⟨b2, off2 + i * 3, none⟩) hb2).trans (hcs2 i _ hy' 0 _ rfl)
        have d1 : wr.cell? ⟨b2, off2 + i * 3 + 1, none⟩ = some (.int .i64 n') := (HBW.out.cell (p := ⟨b2, off2 + i * 3 + 1, none⟩) hb2).trans (hcs2 i _ hy' 1 _ rfl)
        have d2 : wr.cell? ⟨b2, off2 + i * 3 + 2, none⟩ = some (.string t') := (HBW.out.cell (p := ⟨b2, off2 + i * 3 + 2, none⟩) hb2).trans (hcs2 i _ hy' 2 _ rfl)
        have hbr2 : b2 < wr.heap.size := by omega
        have HS := Lib.hid (HSTEP.out i s _ _ hx' hy')
        simp only at HS
        rw [HTOT.out] at HS
        obtain ⟨hk', _, hn1, hn2⟩ := hyo
        simp only at hk' hn1 hn2
        obtain ⟨o, ho⟩ : ∃ o, isB q nb num L k n t = o := ⟨_, rfl⟩
        rw [ho] at HC HS
        clear hx hx' hxo hcs ho hy hy' hcs2
        have r1' := cell_regrown q0
        have r2' := cell_regrown q1
        have r3' := cell_regrown q2
        have r4' := cell_regrown q3
        have r5' := cell_regrown c0
        have r6' := cell_regrown c1
        have r7' := cell_regrown c2
        have cI : ∀ dd os, Calls Try.prog 8 #[.agg #[.string sg, .bool nb, .int .i64 num, .slice p ln cap], .agg #[.int .i64 k, .int .i64 n, .string t]] (Go.Sort.grow (redrawn wr dd) os) fun e w'' => e = .returned (.bool o) ∧ ∃ p : Regrown, w'' = Go.Sort.grow (redrawn wr p.d) p.os := fun dd os => Calls.regrown_of (HC.out _ (by have := HBW.out; exact bel_call (below_regrown wr dd os) this (by omega)))
        go_wp2_with fail
        refine wp_region_quiet_below (by kernel_rfl) (by kernel_rfl) ?_
        repeat (quiet_step (first | with_reducible exact cI _ _))
        refine wpQuiet_nil ?_
        intro _ hw'
        obtain ⟨⟨dq, osq⟩, hw''⟩ := hw'
        subst hw''
        clear r1' r2' r3' r4' r5' r6' r7' cI HC
        have hb1' : Below wr.heap.size wr (Go.Sort.grow (redrawn wr dq) osq) := below_regrown wr dq osq
        obtain ⟨w1, hw1⟩ : ∃ w1, Go.Sort.grow (redrawn wr dq) osq = w1 := ⟨_, rfl⟩
        rw [hw1] at hb1' ⊢
        clear hw1
        obtain ⟨hc1, hf1, hz1⟩ := bcell hb1' (by first | (simp only [World.size_alloc, World.size_setCell, World.size_drew]; rfl) | rfl)
        have HBW1 : Hid (Below w.heap.size w w1) := bel_call hb1' HBW.out (by omega)
        have HBEL1 : Hid (Below (RmW w sg nb num (.slice p ln cap)).heap.size (RmW w sg nb num (.slice p ln cap)) w1) := bel_call hb1' HBEL.out (by rw [rmw_size]; omega)
        cases o
        · have HN : Hid (sumF q nb num L (Vs.drop (i + 1)) (Us.drop (i + 1)) s = TOT) := by unfold Hid; have := HS.out; simpa using this.symm
          clear HS
          go_wp2_with fail
          go_roundg (gk - 1)
          case measure => omega
          case rel => exact ⟨i + 1, s, by omega, by go_num, rfl, hs1, hs2, HN.out, HBEL1.out⟩
        · rcases hk' with rfl | rfl | rfl | rfl
          · have HN : Hid (sumF q nb num L (Vs.drop (i + 1)) (Us.drop (i + 1)) s = TOT) := by unfold Hid; have := HS.out; simpa using this.symm
            clear HS
            go_wp2_with fail
            go_roundg (gk - 1)
            case measure => omega
            case rel => exact ⟨i + 1, s, by omega, by go_num, rfl, hs1, hs2, HN.out, by have := HBEL1.out; (repeat' (first | (with_reducible exact Below.refl _ _) | (with_reducible assumption) | (with_reducible refine Below.alloc ?_ ?_ _) | (with_reducible refine bel_drewN ?_ _) | (with_reducible refine Below.drew ?_) | (with_reducible refine Below.setCell ?_ ?_ _) | (with_reducible refine bel_call ‹_› ?_ ?_) | go_size))⟩
          · have HADD := Lib.hid (fun W => refAdd_any s n' false hs1 hs2 hn1 hn2 (s + n') rfl W)
            obtain ⟨z, hz⟩ : ∃ z, s + n' = z := ⟨_, rfl⟩
            have HS2 : Hid (TOT = if inR z then sumF q nb num L (Vs.drop (i + 1)) (Us.drop (i + 1)) z else ⟨3, 0, ⟨#[35, 78, 85, 77, 33]⟩⟩) := by unfold Hid; have := HS.out; rw [hz] at this; simpa using this
            rw [hz] at HADD
            clear HS hz
            cases hin : inR z
            · rw [okV_n hin, okE_n hin] at HADD
              have HV1 : Hid (TOT = ⟨3, 0, ⟨#[35, 78, 85, 77, 33]⟩⟩) := by unfold Hid; have := HS2.out; rw [hin] at this; simpa using this
              clear HS2 hin
              go_wp2_with fail
              refine (HADD.out _).mono ?_
              rintro e w3 ⟨rfl, hb3⟩
              obtain ⟨hc3, hf3, hz3⟩ := bcell hb3 (by first | (simp only [World.size_alloc, World.size_setCell, World.size_drew]; rfl) | rfl)
              go_wp2_with fail
              refine (rfail_num _).mono ?_
              rintro e w2 ⟨rfl, hb2⟩
              obtain ⟨hc2, hf2, hz2⟩ := bcell hb2 (by first | (simp only [World.size_alloc, World.size_setCell, World.size_drew]; rfl) | rfl)
              go_wp2_with fail
              refine bodyPost_ret (v := .agg #[.int .i64 3, .int .i64 0, .string ⟨#[35, 78, 85, 77, 33]⟩]) (by simp only [results, Try.results12]; go_simp) rfl ⟨by rw [HV1.out]; rfl, ?_⟩
              have hbw := HBW1.out
              (repeat' (first | (with_reducible exact Below.refl _ _) | (with_reducible assumption) | (with_reducible refine Below.alloc ?_ ?_ _) | (with_reducible refine bel_drewN ?_ _) | (with_reducible refine Below.drew ?_) | (with_reducible refine Below.setCell ?_ ?_ _) | (with_reducible refine bel_call ‹_› ?_ ?_) | go_size))
            · have hr := inR_bounds hin
              rw [okV_y hin, okE_y hin] at HADD
              have HN : Hid (sumF q nb num L (Vs.drop (i + 1)) (Us.drop (i + 1)) z = TOT) := by unfold Hid; have := HS2.out; rw [hin] at this; simpa using this.symm
              clear HS2 hin
              go_wp2_with fail
              refine (HADD.out _).mono ?_
              rintro e w3 ⟨rfl, hb3⟩
              obtain ⟨hc3, hf3, hz3⟩ := bcell hb3 (by first | (simp only [World.size_alloc, World.size_setCell, World.size_drew]; rfl) | rfl)
              go_wp2_with fail
              go_roundg (gk - 1)
              case measure => omega
              case rel => exact ⟨i + 1, z, by omega, by go_num, rfl, hr.1, hr.2, HN.out, by have := HBEL1.out; (repeat' (first | (with_reducible exact Below.refl _ _) | (with_reducible assumption) | (with_reducible refine Below.alloc ?_ ?_ _) | (with_reducible refine bel_drewN ?_ _) | (with_reducible refine Below.drew ?_) | (with_reducible refine Below.setCell ?_ ?_ _) | (with_reducible refine bel_call ‹_› ?_ ?_) | go_size))⟩
          · have HN : Hid (sumF q nb num L (Vs.drop (i + 1)) (Us.drop (i + 1)) s = TOT) := by unfold Hid; have := HS.out; simpa using this.symm
            clear HS
            go_wp2_with fail
            go_roundg (gk - 1)
            case measure => omega
            case rel => exact ⟨i + 1, s, by omega, by go_num, rfl, hs1, hs2, HN.out, by have := HBEL1.out; (repeat' (first | (with_reducible exact Below.refl _ _) | (with_reducible assumption) | (with_reducible refine Below.alloc ?_ ?_ _) | (with_reducible refine bel_drewN ?_ _) | (with_reducible refine Below.drew ?_) | (with_reducible refine Below.setCell ?_ ?_ _) | (with_reducible refine bel_call ‹_› ?_ ?_) | go_size))⟩
          · have HV1 : Hid (TOT = ⟨3, n', t'⟩) := by unfold Hid; have := HS.out; simpa using this
            clear HS
            go_wp2_with fail
            refine bodyPost_ret (v := .agg #[.int .i64 3, .int .i64 n', .string t']) (by simp only [results, Try.results12]; go_simp) rfl ⟨by rw [HV1.out]; rfl, ?_⟩
            have hbw := HBW1.out
            (repeat' (first | (with_reducible exact Below.refl _ _) | (with_reducible assumption) | (with_reducible refine Below.alloc ?_ ?_ _) | (with_reducible refine bel_drewN ?_ _) | (with_reducible refine Below.drew ?_) | (with_reducible refine Below.setCell ?_ ?_ _) | (with_reducible refine bel_call ‹_› ?_ ?_) | go_size))
      · have hli2 : ¬ (i : Int) < (m2 : Int) := by omega
        go_wp2_with fail
        refine (HO.out _).mono ?_
        rintro e w1 ⟨rfl, hb1⟩
        obtain ⟨hc1, hf1, hz1⟩ := bcell hb1 (by first | (simp only [World.size_alloc, World.size_setCell, World.size_drew]; rfl) | rfl)
        go_wp2_with fail
        refine bodyPost_ret (v := .agg #[.int .i64 1, .int .i64 s, .string ⟨#[]⟩]) (by simp only [results, Try.results12]; go_simp) rfl ⟨by rw [FIN.out (by omega)]; rfl, ?_⟩
        have hbw := HBW.out
        (repeat' (first | (with_reducible exact Below.refl _ _) | (with_reducible assumption) | (with_reducible refine Below.alloc ?_ ?_ _) | (with_reducible refine bel_drewN ?_ _) | (with_reducible refine Below.drew ?_) | (with_reducible refine Below.setCell ?_ ?_ _) | (with_reducible refine bel_call ‹_› ?_ ?_) | go_size))
    · have hli : ¬ (i : Int) < (m : Int) := by omega
      go_wp2_with fail
      refine (HO.out _).mono ?_
      rintro e w1 ⟨rfl, hb1⟩
      obtain ⟨hc1, hf1, hz1⟩ := bcell hb1 (by first | (simp only [World.size_alloc, World.size_setCell, World.size_drew]; rfl) | rfl)
      go_wp2_with fail
      refine bodyPost_ret (v := .agg #[.int .i64 1, .int .i64 s, .string ⟨#[]⟩]) (by simp only [results, Try.results12]; go_simp) rfl ⟨by rw [FIN.out (by omega)]; rfl, ?_⟩
      have hbw := HBW.out
      (repeat' (first | (with_reducible exact Below.refl _ _) | (with_reducible assumption) | (with_reducible refine Below.alloc ?_ ?_ _) | (with_reducible refine bel_drewN ?_ _) | (with_reducible refine Below.drew ?_) | (with_reducible refine Below.setCell ?_ ?_ _) | (with_reducible refine bel_call ‹_› ?_ ?_) | go_size))
end Go.Proofs.Ytpggidkcifnhjaa
