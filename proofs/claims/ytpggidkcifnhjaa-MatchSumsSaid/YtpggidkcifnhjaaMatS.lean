/- Conditions: Sum, the program's and the document's. -/
import Derived.Test.YtpggidkcifnhjaaMatR
set_option linter.unusedSimpArgs false
set_option linter.unusedVariables false
namespace Go.Proofs.Ytpggidkcifnhjaa
open Go.RowKit

/-- What stands where a condition holds, added up. -/
def sumF (q : Nat) (nb : Bool) (num : Int) (L : List Sg) : List Vl → List Vl → Int → Vl
  | v :: vs, u :: us, s => if isB q nb num L v.k v.n v.t then (if u.k = 3 then u else if u.k = 1 then (if inR (s + u.n) then sumF q nb num L vs us (s + u.n) else ⟨3, 0, ⟨#[35, 78, 85, 77, 33]⟩⟩) else sumF q nb num L vs us s) else sumF q nb num L vs us s
  | _, _, s => ⟨1, s, ⟨#[]⟩⟩
section
variable (q : Nat) (nb : Bool) (num : Int) (L : List Sg)
theorem sumF_end {vs us : List Vl} {i : Nat} (s : Int) (h : vs.length ≤ i ∨ us.length ≤ i) : sumF q nb num L (vs.drop i) (us.drop i) s = ⟨1, s, ⟨#[]⟩⟩ := by
  rcases h with h | h
  · rw [List.drop_of_length_le h]
    unfold sumF
    rfl
  · rw [List.drop_of_length_le h]
    cases vs.drop i <;> rfl
theorem sumF_step {vs us : List Vl} {i : Nat} (s : Int) (v u : Vl) (hv : vs[i]? = some v) (hu : us[i]? = some u) : sumF q nb num L (vs.drop i) (us.drop i) s = if isB q nb num L v.k v.n v.t then (if u.k = 3 then u else if u.k = 1 then (if inR (s + u.n) then sumF q nb num L (vs.drop (i + 1)) (us.drop (i + 1)) (s + u.n) else ⟨3, 0, ⟨#[35, 78, 85, 77, 33]⟩⟩) else sumF q nb num L (vs.drop (i + 1)) (us.drop (i + 1)) s) else sumF q nb num L (vs.drop (i + 1)) (us.drop (i + 1)) s := by
  obtain ⟨h1, h2⟩ := List.getElem?_eq_some_iff.1 hv
  obtain ⟨h3, h4⟩ := List.getElem?_eq_some_iff.1 hu
  rw [List.drop_eq_getElem_cons h1, List.drop_eq_getElem_cons h3, h2, h4, sumF]
end
theorem okV_n {z : Int} (h : inR z = false) : okV z = 0 := by unfold okV; rw [h]; rfl
theorem okE_n {z : Int} (h : inR z = false) : okE z = 31 := by unfold okE; rw [h]; rfl
theorem okV_y {z : Int} (h : inR z = true) : okV z = z := by unfold okV; rw [h]; rfl
theorem okE_y {z : Int} (h : inR z = true) : okE z = 0 := by unfold okE; rw [h]; rfl
theorem inR_bounds {z : Int} (h : inR z = true) : -9223372036854775808 ≤ z ∧ z ≤ 9223372036854775807 := by
  unfold inR at h
  simpa using h
def vlV (v : Vl) : Value := .agg #[.int .i64 v.k, .int .i64 v.n, .string v.t]
theorem fail_num (w : World) : Calls Try.prog 27 #[.string ⟨#[35, 78, 85, 77, 33]⟩] w fun e w' => e = .returned (.agg #[.int .i64 3, .int .i64 0, .string ⟨#[35, 78, 85, 77, 33]⟩]) ∧ Below w.heap.size w w' := Val.fail_any _ w

/-- The world where the program's loop over the values begins. -/
abbrev SmW (w : World) (sg : ByteArray) (nb : Bool) (num : Int) (s : Value) : World := ((w.alloc (.cells #[.string sg, .bool nb, .int .i64 num, s] 30)).alloc (.cells #[.int .i64 0, .int .i64 0, .string ⟨#[]⟩] 41))
/-- The condition's cells, and the result's. -/
def SmC (w W : World) (sg : ByteArray) (nb : Bool) (num : Int) (s : Value) : Prop :=
  W.cell? ⟨w.heap.size, 0, none⟩ = some (.string sg) ∧ W.cell? ⟨w.heap.size, 1, none⟩ = some (.bool nb) ∧ W.cell? ⟨w.heap.size, 2, none⟩ = some (.int .i64 num) ∧ W.cell? ⟨w.heap.size, 3, none⟩ = some s
  ∧ (W.cell? ⟨w.heap.size + 1, 0, none⟩ = some (.int .i64 0) ∧ W.cell? ⟨w.heap.size + 1, 1, none⟩ = some (.int .i64 0) ∧ W.cell? ⟨w.heap.size + 1, 2, none⟩ = some (.string ⟨#[]⟩)) ∧ W.frozen? ⟨w.heap.size + 1, 0, none⟩ = false ∧ W.frozen? ⟨w.heap.size + 1, 1, none⟩ = false ∧ W.frozen? ⟨w.heap.size + 1, 2, none⟩ = false
theorem smw_size (w : World) (sg : ByteArray) (nb : Bool) (num : Int) (s : Value) : (SmW w sg nb num s).heap.size = w.heap.size + 2 := by simp [SmW]
theorem smw_is (w : World) (sg : ByteArray) (nb : Bool) (num : Int) (s : Value) : SmC w (SmW w sg nb num s) sg nb num s := by
  unfold SmC
  refine ⟨?_, ?_, ?_, ?_, ⟨?_, ?_, ?_⟩, ?_, ?_, ?_⟩
  all_goals first | (go_simp; done) | (go_simp; rfl)
theorem smc_below {w W : World} {sg : ByteArray} {nb : Bool} {num : Int} {s : Value} (hb : Below (SmW w sg nb num s).heap.size (SmW w sg nb num s) W) : SmC w W sg nb num s := by
  rw [smw_size] at hb
  have k0 : ∀ b o, b < w.heap.size + 2 → W.cell? ⟨b, o, none⟩ = (SmW w sg nb num s).cell? ⟨b, o, none⟩ := fun b o h => hb.cell (p := ⟨b, o, none⟩) h
  have k1 : ∀ b o, b < w.heap.size + 2 → W.frozen? ⟨b, o, none⟩ = (SmW w sg nb num s).frozen? ⟨b, o, none⟩ := fun b o h => hb.frozen (p := ⟨b, o, none⟩) h
  have h := smw_is w sg nb num s
  unfold SmC at h ⊢
  rw [k0 _ _ (by omega), k0 _ _ (by omega), k0 _ _ (by omega), k0 _ _ (by omega), k0 _ _ (by omega), k0 _ _ (by omega), k0 _ _ (by omega), k1 _ _ (by omega), k1 _ _ (by omega), k1 _ _ (by omega)]
  exact h

set_option maxRecDepth 100000 in
set_option maxHeartbeats 4000000 in
theorem csum_any (q : Nat) (hq : q < 6) (nb : Bool) (num : Int) (L : List Sg) (p : Option Addr) (cap : Nat) (Vs Us : List Vl) (pv pu : Option Addr) (cv cu : Nat) (hv : Vs.length ≤ 1000) (hu : Us.length ≤ 1000) (hvo : ∀ v ∈ Vs, vlOk v) (huo : ∀ v ∈ Us, vlOk v) (hlen : L.length ≤ 1000) (hok : ∀ x ∈ L, x.1 ≤ 2 ∧ x.2 < 256) (w : World) (hsh : w.ShapedOpen Try.prog) (hL : RdG sgE 2 w p L.length L) (hV : RdG vlE 3 w pv Vs.length Vs) (hU : RdG vlE 3 w pu Us.length Us) :
    Calls Try.prog 10 #[.agg #[.string (sgB q), .bool nb, .int .i64 num, .slice p L.length cap], .slice pv Vs.length cv, .slice pu Us.length cu] w fun e w' => e = .returned (vlV (sumF q nb num L Vs Us 0)) ∧ Below w.heap.size w w' := by
  have HI : Hid (∀ (k n : Int) (t : ByteArray), vlOk ⟨k, n, t⟩ → ∀ W, Below w.heap.size w W → Calls Try.prog 14 #[.agg #[.string (sgB q), .bool nb, .int .i64 num, .slice p L.length cap], .agg #[.int .i64 k, .int .i64 n, .string t]] W fun e w' => e = .returned (.bool (isB q nb num L k n t)) ∧ Below W.heap.size W w') := fun k n t h W hW => is_any q hq nb num L p cap k n t h.1 hlen h.2.1 hok W (shaped_below hsh hW) (hL.below hW)
  have HEND := Lib.hid (fun i s => sumF_end q nb num L (vs := Vs) (us := Us) (i := i) s)
  have HSTEP := Lib.hid (fun i s v u => sumF_step q nb num L (vs := Vs) (us := Us) (i := i) s v u)
  obtain ⟨TOT, hT⟩ : ∃ T, sumF q nb num L Vs Us 0 = T := ⟨_, rfl⟩
  have HT : Hid (sumF q nb num L (Vs.drop 0) (Us.drop 0) 0 = TOT) := by unfold Hid; rw [List.drop_zero, List.drop_zero]; exact hT
  rw [hT]
  obtain ⟨m, hm⟩ : ∃ m, Vs.length = m := ⟨_, rfl⟩
  obtain ⟨m2, hm2⟩ : ∃ m, Us.length = m := ⟨_, rfl⟩
  obtain ⟨ln, hln⟩ : ∃ ln, L.length = ln := ⟨_, rfl⟩
  rw [hm] at hV hv ⊢
  rw [hm2] at hU hu ⊢
  rw [hln] at HI ⊢
  obtain ⟨sg, hsg⟩ : ∃ sg, sgB q = sg := ⟨_, rfl⟩
  rw [hsg] at HI ⊢
  have HM := Lib.hid hm
  have HM2 := Lib.hid hm2
  have HV := Lib.hid hV
  have HU := Lib.hid hU
  have HVO := Lib.hid hvo
  have HUO := Lib.hid huo
  clear hm hm2 hln hsg hV hU hvo huo hsh hL hok hlen hT
  go_enter Try.func10, Try.ntmps10
  go_wp2_with fail
  go_loopg [7, 15] m (fun g v7 v15 wr => ∃ (i : Nat) (s : Int), i + g = m ∧ v15 = .int .i64 i ∧ v7 = .int .i64 s ∧ -9223372036854775808 ≤ s ∧ s ≤ 9223372036854775807 ∧ sumF q nb num L (Vs.drop i) (Us.drop i) s = TOT ∧ Below (SmW w sg nb num (.slice p ln cap)).heap.size (SmW w sg nb num (.slice p ln cap)) wr)
  case atStart => exact ⟨0, 0, by omega, rfl, rfl, by omega, by omega, HT.out, Below.refl _ _⟩
  case round =>
    obtain ⟨i, s, hig, rfl, rfl, hs1, hs2, htot, hbel⟩ := hrel
    have hzr := hbel.size
    rw [smw_size] at hzr
    obtain ⟨q0, q1, q2, q3, ⟨r0, r1, r2⟩, f0, f1, f2⟩ := smc_below hbel
    have HBW : Hid (Below w.heap.size w wr) := bel_call hbel (by (repeat' (first | (with_reducible exact Below.refl _ _) | (with_reducible assumption) | (with_reducible refine Below.alloc ?_ ?_ _) | (with_reducible refine bel_drewN ?_ _) | (with_reducible refine Below.drew ?_) | (with_reducible refine Below.setCell ?_ ?_ _) | (with_reducible refine bel_call ‹_› ?_ ?_) | go_size))) (by rw [smw_size]; omega)
    have HBEL := Lib.hid hbel
    have HTOT := Lib.hid htot
    clear htot hbel
    by_cases hlt : i < m
    · have hli : (i : Int) < (m : Int) := by omega
      have hi0 : (0 : Int) ≤ (i : Int) := by omega
      have hiV : i < Vs.length := by rw [HM.out]; exact hlt
      obtain ⟨⟨k, n, t⟩, hx⟩ : ∃ x, Vs[i] = x := ⟨_, rfl⟩
      have hxo := HVO.out _ (List.getElem_mem hiV)
      rw [hx] at hxo
      have hx' : Vs[i]? = some ⟨k, n, t⟩ := by rw [List.getElem?_eq_getElem hiV, hx]
      obtain ⟨b, off, rfl, hb, hcs⟩ := HV.out.some hlt
      have c0 : wr.cell? ⟨b, off + i * 3, none⟩ = some (.int .i64 k) := (HBW.out.cell (p := ⟨b, off + i * 3, none⟩) hb).trans (hcs i _ hx' 0 _ rfl)
      have c1 : wr.cell? ⟨b, off + i * 3 + 1, none⟩ = some (.int .i64 n) := (HBW.out.cell (p := ⟨b, off + i * 3 + 1, none⟩) hb).trans (hcs i _ hx' 1 _ rfl)
      have c2 : wr.cell? ⟨b, off + i * 3 + 2, none⟩ = some (.string t) := (HBW.out.cell (p := ⟨b, off + i * 3 + 2, none⟩) hb).trans (hcs i _ hx' 2 _ rfl)
      have hbr : b < wr.heap.size := by omega
      have HC := Lib.hid (HI.out k n t hxo)
      by_cases hlt2 : i < m2
      · have hli2 : ¬ (m2 : Int) ≤ (i : Int) := by omega
        have hiU : i < Us.length := by rw [HM2.out]; exact hlt2
        obtain ⟨⟨k', n', t'⟩, hy⟩ : ∃ x, Us[i] = x := ⟨_, rfl⟩
        have hyo := HUO.out _ (List.getElem_mem hiU)
        rw [hy] at hyo
        have hy' : Us[i]? = some ⟨k', n', t'⟩ := by rw [List.getElem?_eq_getElem hiU, hy]
        obtain ⟨b2, off2, rfl, hb2, hcs2⟩ := HU.out.some hlt2
        have d0 : wr.cell? ⟨b2, off2 + i * 3, none⟩ = some (.int .i64 k') := (HBW.out.cell (p := ⟨b2, off2 + i * 3, none⟩) hb2).trans (hcs2 i _ hy' 0 _ rfl)
        have d1 : wr.cell? ⟨b2, off2 + i * 3 + 1, none⟩ = some (.int .i64 n') := (HBW.out.cell (p := ⟨b2, off2 + i * 3 + 1, none⟩) hb2).trans (hcs2 i _ hy' 1 _ rfl)
        have d2 : wr.cell? ⟨b2, off2 + i * 3 + 2, none⟩ = some (.string t') := (HBW.out.cell (p := ⟨b2, off2 + i * 3 + 2, none⟩) hb2).trans (hcs2 i _ hy' 2 _ rfl)
        have hbr2 : b2 < wr.heap.size := by omega
        have HS := Lib.hid (HSTEP.out i s _ _ hx' hy')
        simp only at HS
        rw [HTOT.out] at HS
        obtain ⟨hk', _, hn1, hn2⟩ := hyo
        simp only at hk' hn1 hn2
        obtain ⟨o, ho⟩ : ∃ o, isB q nb num L k n t = o := ⟨_, rfl⟩
        rw [ho] at HC HS
        clear hx hx' hxo hcs ho hy hy' hcs2
        go_wp2_with fail
        refine (HC.out _ (by have := HBW.out; (repeat' (first | (with_reducible exact Below.refl _ _) | (with_reducible assumption) | (with_reducible refine Below.alloc ?_ ?_ _) | (with_reducible refine bel_drewN ?_ _) | (with_reducible refine Below.drew ?_) | (with_reducible refine Below.setCell ?_ ?_ _) | (with_reducible refine bel_call ‹_› ?_ ?_) | go_size)))).mono ?_
        rintro e w1 ⟨rfl, hb1⟩
        obtain ⟨hc1, hf1, hz1⟩ := bcell hb1 (by first | (simp only [World.size_alloc, World.size_setCell, World.size_drew]; rfl) | rfl)
        have hb1' : Below wr.heap.size wr w1 := by (repeat' (first | (with_reducible exact Below.refl _ _) | (with_reducible assumption) | (with_reducible refine Below.alloc ?_ ?_ _) | (with_reducible refine bel_drewN ?_ _) | (with_reducible refine Below.drew ?_) | (with_reducible refine Below.setCell ?_ ?_ _) | (with_reducible refine bel_call ‹_› ?_ ?_) | go_size))
        have HBW1 : Hid (Below w.heap.size w w1) := bel_call hb1' HBW.out (by omega)
        have HBEL1 : Hid (Below (SmW w sg nb num (.slice p ln cap)).heap.size (SmW w sg nb num (.slice p ln cap)) w1) := bel_call hb1' HBEL.out (by rw [smw_size]; omega)
        cases o
        · have HN : Hid (sumF q nb num L (Vs.drop (i + 1)) (Us.drop (i + 1)) s = TOT) := by unfold Hid; have := HS.out; simpa using this.symm
          clear HS HC
          go_wp2_with fail
          go_roundg (gk - 1)
          case measure => omega
          case rel => exact ⟨i + 1, s, by omega, by go_num, rfl, hs1, hs2, HN.out, HBEL1.out⟩
        · rcases hk' with rfl | rfl | rfl | rfl
          · have HN : Hid (sumF q nb num L (Vs.drop (i + 1)) (Us.drop (i + 1)) s = TOT) := by unfold Hid; have := HS.out; simpa using this.symm
            clear HS HC
            go_wp2_with fail
            go_roundg (gk - 1)
            case measure => omega
            case rel => exact ⟨i + 1, s, by omega, by go_num, rfl, hs1, hs2, HN.out, by have := HBEL1.out; (repeat' (first | (with_reducible exact Below.refl _ _) | (with_reducible assumption) | (with_reducible refine Below.alloc ?_ ?_ _) | (with_reducible refine bel_drewN ?_ _) | (with_reducible refine Below.drew ?_) | (with_reducible refine Below.setCell ?_ ?_ _) | (with_reducible refine bel_call ‹_› ?_ ?_) | go_size))⟩
          · have HADD := Lib.hid (fun W => add_any s n' hs1 hs2 hn1 hn2 W)
            obtain ⟨z, hz⟩ : ∃ z, s + n' = z := ⟨_, rfl⟩
            have HS2 : Hid (TOT = if inR z then sumF q nb num L (Vs.drop (i + 1)) (Us.drop (i + 1)) z else ⟨3, 0, ⟨#[35, 78, 85, 77, 33]⟩⟩) := by unfold Hid; have := HS.out; rw [hz] at this; simpa using this
            rw [hz] at HADD
            clear HS HC hz
            cases hin : inR z
            · rw [okV_n hin, okE_n hin] at HADD
              have HV1 : Hid (TOT = ⟨3, 0, ⟨#[35, 78, 85, 77, 33]⟩⟩) := by unfold Hid; have := HS2.out; rw [hin] at this; simpa using this
              clear HS2 hin
              go_wp2_with fail
              refine (HADD.out _).mono ?_
              rintro e w2 ⟨rfl, rfl⟩
              go_wp2_with fail
              refine (fail_num _).mono ?_
              rintro e w2 ⟨rfl, hb2⟩
              obtain ⟨hc2, hf2, hz2⟩ := bcell hb2 (by first | (simp only [World.size_alloc, World.size_setCell, World.size_drew]; rfl) | rfl)
              go_wp2_with fail
              refine bodyPost_ret (v := .agg #[.int .i64 3, .int .i64 0, .string ⟨#[35, 78, 85, 77, 33]⟩]) (by simp only [results, Try.results10]; go_simp) rfl ⟨by rw [HV1.out]; rfl, ?_⟩
              have hbw := HBW1.out
              (repeat' (first | (with_reducible exact Below.refl _ _) | (with_reducible assumption) | (with_reducible refine Below.alloc ?_ ?_ _) | (with_reducible refine bel_drewN ?_ _) | (with_reducible refine Below.drew ?_) | (with_reducible refine Below.setCell ?_ ?_ _) | (with_reducible refine bel_call ‹_› ?_ ?_) | go_size))
            · have hr := inR_bounds hin
              rw [okV_y hin, okE_y hin] at HADD
              have HN : Hid (sumF q nb num L (Vs.drop (i + 1)) (Us.drop (i + 1)) z = TOT) := by unfold Hid; have := HS2.out; rw [hin] at this; simpa using this.symm
              clear HS2 hin
              go_wp2_with fail
              refine (HADD.out _).mono ?_
              rintro e w2 ⟨rfl, rfl⟩
              go_wp2_with fail
              go_roundg (gk - 1)
              case measure => omega
              case rel => exact ⟨i + 1, z, by omega, by go_num, rfl, hr.1, hr.2, HN.out, by have := HBEL1.out; (repeat' (first | (with_reducible exact Below.refl _ _) | (with_reducible assumption) | (with_reducible refine Below.alloc ?_ ?_ _) | (with_reducible refine bel_drewN ?_ _) | (with_reducible refine Below.drew ?_) | (with_reducible refine Below.setCell ?_ ?_ _) | (with_reducible refine bel_call ‹_› ?_ ?_) | go_size))⟩
          · have HN : Hid (sumF q nb num L (Vs.drop (i + 1)) (Us.drop (i + 1)) s = TOT) := by unfold Hid; have := HS.out; simpa using this.symm
            clear HS HC
            go_wp2_with fail
            go_roundg (gk - 1)
            case measure => omega
            case rel => exact ⟨i + 1, s, by omega, by go_num, rfl, hs1, hs2, HN.out, by have := HBEL1.out; (repeat' (first | (with_reducible exact Below.refl _ _) | (with_reducible assumption) | (with_reducible refine Below.alloc ?_ ?_ _) | (with_reducible refine bel_drewN ?_ _) | (with_reducible refine Below.drew ?_) | (with_reducible refine Below.setCell ?_ ?_ _) | (with_reducible refine bel_call ‹_› ?_ ?_) | go_size))⟩
          · have HV1 : Hid (TOT = ⟨3, n', t'⟩) := by unfold Hid; have := HS.out; simpa using this
            clear HS HC
            go_wp2_with fail
            refine bodyPost_ret (v := .agg #[.int .i64 3, .int .i64 n', .string t']) (by simp only [results, Try.results10]; go_simp) rfl ⟨by rw [HV1.out]; rfl, ?_⟩
            have hbw := HBW1.out
            (repeat' (first | (with_reducible exact Below.refl _ _) | (with_reducible assumption) | (with_reducible refine Below.alloc ?_ ?_ _) | (with_reducible refine bel_drewN ?_ _) | (with_reducible refine Below.drew ?_) | (with_reducible refine Below.setCell ?_ ?_ _) | (with_reducible refine bel_call ‹_› ?_ ?_) | go_size))
      · have hli2 : (m2 : Int) ≤ (i : Int) := by omega
        have HN : Hid (sumF q nb num L (Vs.drop (i + 1)) (Us.drop (i + 1)) s = TOT) := by
          unfold Hid
          rw [HEND.out (i + 1) s (.inr (by rw [HM2.out]; omega)), ← HTOT.out, HEND.out i s (.inr (by rw [HM2.out]; omega))]
        clear hx hx' hxo hcs
        go_wp2_with fail
        go_roundg (gk - 1)
        case measure => omega
        case rel => exact ⟨i + 1, s, by omega, by go_num, rfl, hs1, hs2, HN.out, by have := HBEL.out; (repeat' (first | (with_reducible exact Below.refl _ _) | (with_reducible assumption) | (with_reducible refine Below.alloc ?_ ?_ _) | (with_reducible refine bel_drewN ?_ _) | (with_reducible refine Below.drew ?_) | (with_reducible refine Below.setCell ?_ ?_ _) | (with_reducible refine bel_call ‹_› ?_ ?_) | go_size))⟩
    · have hli : ¬ (i : Int) < (m : Int) := by omega
      have HV1 : Hid (TOT = ⟨1, s, ⟨#[]⟩⟩) := by
        unfold Hid
        rw [← HTOT.out]
        exact HEND.out i s (.inl (by rw [HM.out]; omega))
      have HO := Lib.hid (fun W => Val.of_any s W)
      go_wp2_with fail
      refine (HO.out _).mono ?_
      rintro e w1 ⟨rfl, hb1⟩
      obtain ⟨hc1, hf1, hz1⟩ := bcell hb1 (by first | (simp only [World.size_alloc, World.size_setCell, World.size_drew]; rfl) | rfl)
      go_wp2_with fail
      refine bodyPost_ret (v := .agg #[.int .i64 1, .int .i64 s, .string ⟨#[]⟩]) (by simp only [results, Try.results10]; go_simp) rfl ⟨by rw [HV1.out]; rfl, ?_⟩
      have hbw := HBW.out
      (repeat' (first | (with_reducible exact Below.refl _ _) | (with_reducible assumption) | (with_reducible refine Below.alloc ?_ ?_ _) | (with_reducible refine bel_drewN ?_ _) | (with_reducible refine Below.drew ?_) | (with_reducible refine Below.setCell ?_ ?_ _) | (with_reducible refine bel_call ‹_› ?_ ?_) | go_size))
end Go.Proofs.Ytpggidkcifnhjaa
