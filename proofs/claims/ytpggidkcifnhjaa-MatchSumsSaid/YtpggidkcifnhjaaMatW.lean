/- Conditions: the law MatchSums, at every input that is laid. -/
import Derived.Test.YtpggidkcifnhjaaMatV
set_option linter.unusedSimpArgs false
set_option linter.unusedVariables false
namespace Go.Proofs.Ytpggidkcifnhjaa
open Go.RowKit

theorem cntB_step {q : Nat} {nb : Bool} {num : Int} {L : List Sg} {Vs : List Vl} {i : Nat} {v : Vl} (h : Vs[i]? = some v) : cntB q nb num L (Vs.take (i + 1)) = cntB q nb num L (Vs.take i) + (if isB q nb num L v.k v.n v.t then 1 else 0) := by
  obtain ⟨hi, hx⟩ := List.getElem?_eq_some_iff.1 h
  unfold cntB
  rw [List.take_succ_eq_append_getElem hi, hx, List.filter_append, List.length_append]
  congr 1
  cases h : isB q nb num L v.k v.n v.t <;> simp [List.filter_cons, h]

set_option maxRecDepth 100000 in
set_option maxHeartbeats 4000000 in
theorem sums_walk (s : ByteArray) (p : Option Addr) (n cap : Nat) (Vs : List Vl) (pu : Option Addr) (nu cu : Nat) (Us : List Vl) (hn : n ≤ 9223372036854775807) (hnu : nu ≤ 9223372036854775807)
    (hR : ∀ v ∈ Vs, -9223372036854775808 ≤ v.n ∧ v.n ≤ 9223372036854775807) (hRu : ∀ v ∈ Us, -9223372036854775808 ≤ v.n ∧ v.n ≤ 9223372036854775807) (w : World) (hsh : w.ShapedOpen Try.prog) (hV : RdG vlE 3 w p n Vs) (hU : RdG vlE 3 w pu nu Us) :
    Calls Try.prog 3 #[.string s, .slice p n cap, .slice pu nu cu] w fun e w' => e = .returned (.bool true) ∧ Below w.heap.size w w' := by
  have HAW : Hid (∀ W, Below w.heap.size w W → Calls Try.prog 5 #[] W fun e w' => e = .returned (.bool true) ∧ Below W.heap.size W w') := fun W hW => awake_any W (shaped_below hsh hW)
  have HF1 := Lib.hid (few_any p n cap Vs hn hR w hV)
  have HF2 : Hid (∀ W, Below w.heap.size w W → Calls Try.prog 4 #[.slice pu nu cu] W fun e w' => FewR nu Us e w' ∧ Below W.heap.size W w') := fun W hW => few_any pu nu cu Us hnu hRu W (hU.below hW)
  have HV := Lib.hid hV
  have HU := Lib.hid hU
  have HSH := Lib.hid hsh
  clear hV hU hsh hR hRu
  go_enter Try.func3, Try.ntmps3
  go_wp2_with fail
  refine HF1.out.mono ?_
  rintro e w1 ⟨⟨v1, b1, rfl, hv1⟩, hb1⟩
  go_wp2_with fail
  refine (HF2.out _ hb1).mono ?_
  rintro e w2 ⟨⟨v2, b2, rfl, hv2⟩, hb2⟩
  have hbw2 : Below w.heap.size w w2 := bel_call hb2 hb1 hb1.size
  have HV1 := Lib.hid hv1
  have HV2 := Lib.hid hv2
  clear hv1 hv2
  have fin : ∀ (W : World), Below w.heap.size w W → Calls Try.prog 5 #[] W fun e w' => e = .returned (.bool true) ∧ Below w.heap.size w w' := fun W hW => (HAW.out W hW).mono fun e w' h => ⟨h.1, bel_call h.2 hW hW.size⟩
  have FIN := Lib.hid fin
  clear fin
  by_cases hs : s.size ≤ 200
  · have hsi : (s.size : Int) ≤ 200 := by omega
    cases b1
    · clear HV1 HV2 HF1 HF2
      go_wp2_with fail
      refine (FIN.out _ hbw2).mono ?_
      rintro e w3 ⟨rfl, hb3⟩
      go_wp2_with fail
      go_ret
      exact ⟨rfl, hb3⟩
    · cases b2
      · clear HV1 HV2 HF1 HF2
        go_wp2_with fail
        refine (FIN.out _ hbw2).mono ?_
        rintro e w3 ⟨rfl, hb3⟩
        go_wp2_with fail
        go_ret
        exact ⟨rfl, hb3⟩
      · obtain ⟨hok1, hn1, p1, c1, rfl, hr1⟩ := HV1.out rfl
        obtain ⟨hok2, hn2, p2, c2, rfl, hr2⟩ := HV2.out rfl
        have HR1 := Lib.hid (hr1.below hb2)
        have HR2 := Lib.hid hr2
        have HOK1 := Lib.hid hok1
        have HOK2 := Lib.hid hok2
        have HMP : Hid (∀ W, Below w.heap.size w W → _) := fun W hW => mparse_cn s (by omega) W (shaped_below HSH.out hW)
        have HRP := Lib.hid (fun W => rparse_cn s (by omega) W)
        have hq := prC_lt s.data.toList
        have hle : (cnL (prC s.data.toList).2).length ≤ 1000 := by
          have h1 := cnL_len (prC s.data.toList).2
          have h2 := prC_len s.data.toList
          have h3 := Lib.size_eq s
          omega
        have hlo := cnL_ok (prC s.data.toList).2
        obtain ⟨q, hqq⟩ : ∃ q, (prC s.data.toList).1 = q := ⟨_, rfl⟩
        obtain ⟨ok, hok⟩ : ∃ q, prsOk (prC s.data.toList).2 = q := ⟨_, rfl⟩
        obtain ⟨m, hm⟩ : ∃ q, prsV (prC s.data.toList).2 = q := ⟨_, rfl⟩
        obtain ⟨L, hL⟩ : ∃ q, cnL (prC s.data.toList).2 = q := ⟨_, rfl⟩
        rw [hqq, hok, hm, hL] at HMP HRP
        rw [hqq] at hq
        rw [hL] at hle hlo
        have HLO := Lib.hid hlo
        clear hqq hok hm hL hlo hok1 hok2 hr1 hr2 HV1 HV2 HF1 HF2
        go_wp2_with fail
        refine (HMP.out _ hbw2).mono ?_
        rintro e w3 ⟨⟨pc, cc, rfl, hC⟩, hb3⟩
        have hbw3 : Below w.heap.size w w3 := bel_call hb3 hbw2 hbw2.size
        go_wp2_with fail
        refine (HRP.out _).mono ?_
        rintro e w4 ⟨⟨pr, cr, rfl, hD⟩, hb4⟩
        have hbw4 : Below w.heap.size w w4 := bel_call hb4 hbw3 hbw3.size
        have hC4 := hC.below hb4
        have h1' := HR1.out.below (bel_call hb4 hb3 hb3.size)
        have h2' := HR2.out.below (bel_call hb4 hb3 hb3.size)
        have HCC := Lib.hid hC4
        have HDD := Lib.hid hD
        have H1 := Lib.hid h1'
        have H2 := Lib.hid h2'
        clear hC hC4 hD h1' h2' HR1 HR2 HMP HRP hb1 hb2 hb3 hb4
        obtain ⟨ln, hln⟩ : ∃ ln, L.length = ln := ⟨_, rfl⟩
        obtain ⟨lr, hlr⟩ : ∃ ln, (L.map low).length = ln := ⟨_, rfl⟩
        have hnV := H1.out.1
        have hnU := H2.out.1
        have CIS : Hid (∀ (k x : Int) (t : ByteArray), vlOk ⟨k, x, t⟩ → ∀ W, Below w4.heap.size w4 W → Calls Try.prog 8 #[.agg #[.string (sgB q), .bool ok, .int .i64 m, .slice pr lr cr], .agg #[.int .i64 k, .int .i64 x, .string t]] W fun e w' => e = .returned (.bool (isB q ok m L k x t)) ∧ Below W.heap.size W w') := fun k x t h W hW => by
          rw [← hlr]
          exact ris_any q hq ok m L pr cr k x t h.1 hle h.2.1 (low_ok HLO.out) W (HDD.out.below hW)
        have CCT : Hid (∀ W, Below w4.heap.size w4 W → Calls Try.prog 9 #[.agg #[.string (sgB q), .bool ok, .int .i64 m, .slice pc ln cc], .slice p1 n c1] W fun e w' => e = .returned (.int .i64 (cntB q ok m L Vs : Int)) ∧ Below W.heap.size W w') := fun W hW => by
          have := count_any q hq ok m L pc cc Vs p1 c1 (by omega) HOK1.out hle HLO.out W (shaped_below HSH.out (bel_call hW hbw4 hbw4.size)) (HCC.out.below hW) (by rw [hnV]; exact H1.out.below hW)
          rw [hnV, hln] at this
          exact this
        have CSM : Hid (∀ W, Below w4.heap.size w4 W → Calls Try.prog 10 #[.agg #[.string (sgB q), .bool ok, .int .i64 m, .slice pc ln cc], .slice p1 n c1, .slice p2 nu c2] W fun e w' => e = .returned (vlV (sumF q ok m L Vs Us 0)) ∧ Below W.heap.size W w') := fun W hW => by
          have := csum_any q hq ok m L pc cc Vs Us p1 p2 c1 c2 (by omega) (by omega) HOK1.out HOK2.out hle HLO.out W (shaped_below HSH.out (bel_call hW hbw4 hbw4.size)) (HCC.out.below hW) (by rw [hnV]; exact H1.out.below hW) (by rw [hnU]; exact H2.out.below hW)
          rw [hnV, hnU, hln] at this
          exact this
        have CRS : Hid (∀ W, Below w4.heap.size w4 W → Calls Try.prog 12 #[.agg #[.string (sgB q), .bool ok, .int .i64 m, .slice pr lr cr], .slice p n cap, .slice pu nu cu] W fun e w' => e = .returned (vlV (sumF q ok m L Vs Us 0)) ∧ Below W.heap.size W w') := fun W hW => by
          have hWw : Below w.heap.size w W := bel_call hW hbw4 hbw4.size
          have := rsum_any q hq ok m L pr cr Vs Us p pu cap cu (by omega) (by omega) HOK1.out HOK2.out hle (low_ok HLO.out) W (HDD.out.below hW) (by rw [hnV]; exact HV.out.below hWw) (by rw [hnU]; exact HU.out.below hWw)
          rw [hnV, hnU, hlr] at this
          exact this
        simp only [hln, hlr]
        have HNV := Lib.hid hnV
        have HNU := Lib.hid hnU
        obtain ⟨⟨sk, sn, st⟩, hsum⟩ : ∃ v, sumF q ok m L Vs Us 0 = v := ⟨_, rfl⟩
        rw [hsum] at CSM CRS
        simp only [vlV] at CSM CRS
        clear hln hlr hnV hnU hsum HCC HDD hle
        go_wp2_with fail
        have hcw := cnw_is w4 30 34 (.string (sgB q)) (.bool ok) (.int .i64 m) (.slice pc ln cc) (.string (sgB q)) (.bool ok) (.int .i64 m) (.slice pr lr cr)
        have hbx := cnw_below w4 30 34 (.string (sgB q)) (.bool ok) (.int .i64 m) (.slice pc ln cc) (.string (sgB q)) (.bool ok) (.int .i64 m) (.slice pr lr cr)
        unfold CnW at hcw hbx
        generalize (w4.alloc (.cells #[.string (sgB q), .bool ok, .int .i64 m, .slice pc ln cc] 30)).alloc (.cells #[.string (sgB q), .bool ok, .int .i64 m, .slice pr lr cr] 34) = wx at hcw hbx ⊢
        have HCW := Lib.hid hcw
        have HBX := Lib.hid hbx
        clear hcw hbx
        have hz4 : w.heap.size ≤ w4.heap.size := hbw4.size
        have HB4 := Lib.hid hbw4
        have hcnt : ∀ i, cntB q ok m L (Vs.take i) ≤ 1000 := fun i => by
          unfold cntB
          exact Nat.le_trans (List.length_filter_le _ _) (by rw [List.length_take]; have := HNV.out; omega)
        have HCNT := Lib.hid hcnt
        clear hcnt hbw4
        go_loopg [11, 14] n (fun g v11 v14 wr => ∃ i : Nat, i + g = n ∧ v14 = .int .i64 i ∧ v11 = .int .i64 (cntB q ok m L (Vs.take i) : Int) ∧ Below wx.heap.size wx wr)
        case atStart => exact ⟨0, by omega, rfl, rfl, Below.refl _ _⟩
        case round =>
          obtain ⟨i, hig, rfl, rfl, hbel⟩ := hrel
          have hzr := hbel.size
          have hzx := HBX.out.2
          have HBEL := Lib.hid hbel
          have hc0 : ∀ b o, b < w4.heap.size + 2 → wr.cell? ⟨b, o, none⟩ = wx.cell? ⟨b, o, none⟩ := fun b o h => hbel.cell (p := ⟨b, o, none⟩) (by rw [hzx]; exact h)
          obtain ⟨⟨q0, q1, q2, q3⟩, ⟨r0, r1, r2, r3⟩⟩ := HCW.out
          rw [← hc0 _ _ (by omega)] at q0 q1 q2 q3 r0 r1 r2 r3
          have hb4r : Below w4.heap.size w4 wr := bel_call hbel HBX.out.1 (by omega)
          have HB4R := Lib.hid hb4r
          have HBW : Hid (Below w.heap.size w wr) := bel_call hb4r HB4.out hz4
          have q0' := cell_regrown q0
          have q1' := cell_regrown q1
          have q2' := cell_regrown q2
          have q3' := cell_regrown q3
          have r0' := cell_regrown r0
          have r1' := cell_regrown r1
          have r2' := cell_regrown r2
          have r3' := cell_regrown r3
          have hg : ∀ dd os, Below w4.heap.size w4 (Go.Sort.grow (redrawn wr dd) os) := fun dd os => bel_call (below_regrown wr dd os) HB4R.out (by omega)
          have HG := Lib.hid hg
          have hc1 := HCNT.out i
          clear hg hbel hb4r hc0
          by_cases hlt : i < n
          · have hli : (i : Int) < (n : Int) := by omega
            have hi0 : (0 : Int) ≤ (i : Int) := by omega
            have hiV : i < Vs.length := by rw [HNV.out]; exact hlt
            obtain ⟨⟨k, x, t⟩, hx⟩ : ∃ x, Vs[i] = x := ⟨_, rfl⟩
            have hxo := HOK1.out _ (List.getElem_mem hiV)
            rw [hx] at hxo
            have hx' : Vs[i]? = some ⟨k, x, t⟩ := by rw [List.getElem?_eq_getElem hiV, hx]
            obtain ⟨b, off, rfl, hb, hcs⟩ := HV.out.some hlt
            have c0' := cell_regrown ((HBW.out.cell (p := ⟨b, off + i * 3, none⟩) hb).trans (hcs i _ hx' 0 _ rfl))
            have c1' := cell_regrown ((HBW.out.cell (p := ⟨b, off + i * 3 + 1, none⟩) hb).trans (hcs i _ hx' 1 _ rfl))
            have c2' := cell_regrown ((HBW.out.cell (p := ⟨b, off + i * 3 + 2, none⟩) hb).trans (hcs i _ hx' 2 _ rfl))
            have cI : ∀ dd os, Calls Try.prog 8 #[.agg #[.string (sgB q), .bool ok, .int .i64 m, .slice pr lr cr], .agg #[.int .i64 k, .int .i64 x, .string t]] (Go.Sort.grow (redrawn wr dd) os) fun e w'' => e = .returned (.bool (isB q ok m L k x t)) ∧ ∃ p : Regrown, w'' = Go.Sort.grow (redrawn wr p.d) p.os := fun dd os => Calls.regrown_of (CIS.out k x t hxo _ (HG.out dd os))
            have HST := Lib.hid (cntB_step (q := q) (nb := ok) (num := m) (L := L) hx')
            simp only at HST
            obtain ⟨o, ho⟩ : ∃ o, isB q ok m L k x t = o := ⟨_, rfl⟩
            rw [ho] at cI HST
            obtain ⟨c, hc⟩ : ∃ c, cntB q ok m L (Vs.take i) = c := ⟨_, rfl⟩
            rw [hc] at HST hc1 ⊢
            clear hx hx' hcs hxo ho hc
            go_wp2_with fail
            refine wp_region_quiet_below (by kernel_rfl) (by kernel_rfl) ?_
            repeat (quiet_step (first | with_reducible exact cI _ _))
            refine wpQuiet_nil ?_
            intro _ hw'
            obtain ⟨⟨dq, osq⟩, hw''⟩ := hw'
            subst hw''
            have hbn := bel_call (below_regrown wr dq osq) HBEL.out (by omega)
            clear q0' q1' q2' q3' r0' r1' r2' r3' c0' c1' c2' cI
            cases o
            all_goals
              go_wp2_with fail
              go_roundg (gk - 1)
              case measure => omega
              case rel => exact ⟨i + 1, by omega, by go_num, by rw [HST.out]; first | rfl | go_num, hbn⟩
          · have hli : ¬ (i : Int) < (n : Int) := by omega
            have ht : Vs.take i = Vs := List.take_of_length_le (by rw [HNV.out]; omega)
            rw [ht] at hc1 ⊢
            have cC : ∀ dd os, Calls Try.prog 9 #[.agg #[.string (sgB q), .bool ok, .int .i64 m, .slice pc ln cc], .slice p1 n c1] (Go.Sort.grow (redrawn wr dd) os) fun e w'' => e = .returned (.int .i64 (cntB q ok m L Vs : Int)) ∧ ∃ p : Regrown, w'' = Go.Sort.grow (redrawn wr p.d) p.os := fun dd os => Calls.regrown_of (CCT.out _ (HG.out dd os))
            have cS : ∀ dd os, Calls Try.prog 10 #[.agg #[.string (sgB q), .bool ok, .int .i64 m, .slice pc ln cc], .slice p1 n c1, .slice p2 nu c2] (Go.Sort.grow (redrawn wr dd) os) fun e w'' => e = .returned (.agg #[.int .i64 sk, .int .i64 sn, .string st]) ∧ ∃ p : Regrown, w'' = Go.Sort.grow (redrawn wr p.d) p.os := fun dd os => Calls.regrown_of (CSM.out _ (HG.out dd os))
            have cR : ∀ dd os, Calls Try.prog 12 #[.agg #[.string (sgB q), .bool ok, .int .i64 m, .slice pr lr cr], .slice p n cap, .slice pu nu cu] (Go.Sort.grow (redrawn wr dd) os) fun e w'' => e = .returned (.agg #[.int .i64 sk, .int .i64 sn, .string st]) ∧ ∃ p : Regrown, w'' = Go.Sort.grow (redrawn wr p.d) p.os := fun dd os => Calls.regrown_of (CRS.out _ (HG.out dd os))
            have cT : ∀ dd os, Calls Try.prog 11 #[.agg #[.int .i64 sk, .int .i64 sn, .string st]] (Go.Sort.grow (redrawn wr dd) os) fun e w'' => e = .returned (.agg #[.int .i64 sk, .int .i64 sn, .string st]) ∧ ∃ p : Regrown, w'' = Go.Sort.grow (redrawn wr p.d) p.os := fun dd os => Calls.regrown_of (lto_any sk sn st _)
            have cA : ∀ dd os, Calls Try.prog 5 #[] (Go.Sort.grow (redrawn wr dd) os) fun e w'' => e = .returned (.bool true) ∧ ∃ p : Regrown, w'' = Go.Sort.grow (redrawn wr p.d) p.os := fun dd os => Calls.regrown_of (HAW.out _ (bel_call (HG.out dd os) HB4.out hz4))
            obtain ⟨c, hc⟩ : ∃ c, cntB q ok m L Vs = c := ⟨_, rfl⟩
            rw [hc] at cC hc1 ⊢
            clear hc ht
            go_wp2_with fail
            refine wp_region_quiet_below (by kernel_rfl) (by kernel_rfl) ?_
            repeat (quiet_step (first | with_reducible exact cC _ _ | with_reducible exact cS _ _ | with_reducible exact cR _ _ | with_reducible exact cT _ _ | with_reducible exact cA _ _))
            refine wpQuiet_nil ?_
            intro _ hw'
            obtain ⟨⟨dq, osq⟩, hw''⟩ := hw'
            subst hw''
            have hbn := bel_call (below_regrown wr dq osq) HBW.out (by omega)
            clear q0' q1' q2' q3' r0' r1' r2' r3' cC cS cR cT cA
            go_wp2_with fail
            go_ret
            exact ⟨rfl, hbn⟩
  · have hsi : (200 : Int) < (s.size : Int) := by omega
    clear HV1 HV2 HF1 HF2
    go_wp2_with fail
    refine (FIN.out _ hbw2).mono ?_
    rintro e w3 ⟨rfl, hb3⟩
    go_wp2_with fail
    go_ret
    exact ⟨rfl, hb3⟩
end Go.Proofs.Ytpggidkcifnhjaa
