/- Trees: which trees may be: the program's right, Right. Trees: the document's Right. Trees: which ones are the same: EqualFunc, Same, the document's Same. Trees: the document's Same; light. -/
import Derived.Test.YtigmcoelkkihkaaGreatDoorPwB
set_option linter.unusedSimpArgs false
set_option linter.unusedVariables false
namespace Go.Proofs.YtigmcoelkkihkaaGreatDoor
open Go.RowKit Go.Joins

def loK (k : Int) : Nat := if k = 5 then 1 else if k = 6 then 2 else 0
def hiK (k : Int) : Nat := if k = 5 then 1 else if k = 6 then 2 else if k = 7 then 16 else 0
def arB (k : Int) (len : Nat) : Bool := decide (loK k ≤ len) && decide (len ≤ hiK k)
def tagB (n : Nd) : Bool := if n.kind = 1 then decide (0 ≤ n.num) else if n.kind = 6 then decide (lvS n.text ≠ 0) else if n.kind = 7 then nameB n.text else true
/-- May a node be, its parts aside? -/
def headB (n : Nd) (lv : Int) : Bool := decide (1 ≤ lv) && (decide (1 ≤ n.kind) && (decide (n.kind ≤ 8) && arB n.kind n.args.length))
mutual
def rtN : Nd → Int → Bool
  | .mk k u t f o a, lv => (headB (.mk k u t f o a) lv && tagB (.mk k u t f o a)) && rtL a (lv - 1)
def rtL : List Nd → Int → Bool
  | [], _ => true
  | c :: r, lv => rtN c lv && rtL r lv
end
theorem rtN_eq (n : Nd) (lv : Int) : rtN n lv = ((headB n lv && tagB n) && rtL n.args (lv - 1)) := by cases n; rw [rtN]; rfl
theorem rtL_at {a : List Nd} {i : Nat} {c : Nd} {lv : Int} (h : a[i]? = some c) : rtL (a.drop i) lv = (rtN c lv && rtL (a.drop (i + 1)) lv) := by
  obtain ⟨hi, e⟩ := List.getElem?_eq_some_iff.1 h
  rw [List.drop_eq_getElem_cons hi, rtL, e]

end Go.Proofs.YtigmcoelkkihkaaGreatDoor
namespace Go.Proofs.YtigmcoelkkihkaaGreatDoor
open Go.RowKit Go.Joins

def RRightC (d : Nat) : Prop := ∀ (n : Nd) (p : Option Addr) (len cap : Nat) (lv : Int) (w : World), RdT w w.heap.size d n p len → OkN n → -1000 ≤ lv → lv ≤ 1000 → Calls Tryz.prog 13 #[.agg (ndA n p len cap), .int .i64 lv] w fun e w' => e = .returned (.bool (rtN n lv)) ∧ Below w.heap.size w w'
set_option maxRecDepth 100000 in
set_option maxHeartbeats 16000000 in
theorem rright_s (d : Nat) (IH : ∀ d', d = d' + 1 → RRightC d') : RRightC d := by
  intro n p len cap lv w hrd hok hlv0 hlv1
  have hA0 : Hid (NdB tRn (w.alloc (.cells (ndA n p len cap) tRn)) w.heap.size n p len cap) := heap_alloc_new w _
  have hAB : Hid (Below w.heap.size w (w.alloc (.cells (ndA n p len cap) tRn))) := by unfold Hid; (repeat' (first | (with_reducible exact Below.refl _ _) | (with_reducible assumption) | (with_reducible refine Below.alloc ?_ ?_ _) | (with_reducible refine bel_drewN ?_ _) | (with_reducible refine Below.drew ?_) | (with_reducible refine Below.setCell ?_ ?_ _) | (with_reducible refine bel_call ‹_› ?_ ?_) | go_size))
  have HRD := Lib.hid hrd
  have HIH := Lib.hid IH
  have hlen := hok.len
  rw [hrd.len] at hlen
  have HAL := Lib.hid hrd.len
  have HOK := Lib.hid (fun c hc => OkN.child (c := c) hok hc)
  have HLV := Lib.hid (fun W => rlevel_any ⟨n.text.toArray⟩ W)
  have HNM := Lib.hid (fun W => rname_any ⟨n.text.toArray⟩ (by rw [Lib.size_eq]; simpa [maxLen] using hok.text) W)
  rw [show (⟨n.text.toArray⟩ : ByteArray).data.toList = n.text from rfl] at HLV HNM
  obtain ⟨O, hO⟩ : ∃ O, rtN n lv = O := ⟨_, rfl⟩
  have HO := Lib.hid hO
  rw [hO]
  rw [rtN_eq] at HO
  clear hO
  have HHB : Hid (headB n lv = (decide (1 ≤ lv) && (decide (1 ≤ n.kind) && (decide (n.kind ≤ 8) && arB n.kind len)))) := by unfold Hid headB; rw [HAL.out]
  have HTG : Hid (tagB n = (if n.kind = 1 then decide (0 ≤ n.num) else if n.kind = 6 then decide (lvS n.text ≠ 0) else if n.kind = 7 then nameB n.text else true)) := rfl
  generalize lvS n.text = ls at HLV HTG
  generalize nameB n.text = nm at HNM HTG
  rw [ndA_eq]
  clear hrd IH hok
  go_enter Tryz.func13, Tryz.ntmps13
  go_upto_region 1 with fail
  have e0 : w.alloc (.cells #[.int .i64 n.kind, .int .i64 n.num, .string ⟨n.text.toArray⟩, .int .i64 n.frm, .int .i64 n.tor, .slice p len cap] tRn) = w.alloc (.cells (ndA n p len cap) tRn) := rfl
  rw [e0]
  clear e0
  generalize w.alloc (.cells (ndA n p len cap) tRn) = w0 at hA0 hAB ⊢
  obtain ⟨c0, c1, c2, c3, c4, c5⟩ := hA0.out.cells
  obtain ⟨h1, hh1⟩ : ∃ h1, (decide (1 ≤ lv) && (decide (1 ≤ n.kind) && decide (n.kind ≤ 8))) = h1 := ⟨_, rfl⟩
  have HH1 := Lib.hid hh1
  clear hh1
  go_cut [18] (fun v wx => v = .bool (!h1) ∧ wx = w0)
  case first =>
    clear HO HTG HRD HIH HAL HOK HLV HNM HHB
    by_cases g1 : lv < 1
    · have HB : Hid (h1 = false) := by unfold Hid; rw [← HH1.out]; simp; omega
      go_wp2_with fail
      go_meet
      exact ⟨by rw [HB.out]; rfl, rfl⟩
    · by_cases g2 : n.kind < 1
      · have HB : Hid (h1 = false) := by unfold Hid; rw [← HH1.out]; simp; omega
        go_wp2_with fail
        go_meet
        exact ⟨by rw [HB.out]; rfl, rfl⟩
      · by_cases g3 : 8 < n.kind
        · have HB : Hid (h1 = false) := by unfold Hid; rw [← HH1.out]; simp; omega
          go_wp2_with fail
          go_meet
          exact ⟨by rw [HB.out]; rfl, rfl⟩
        · have HB : Hid (h1 = true) := by unfold Hid; rw [← HH1.out]; simp; omega
          go_wp2_with fail
          go_meet
          exact ⟨by rw [HB.out]; rfl, rfl⟩
  case rest =>
    obtain ⟨rfl, rfl⟩ := hcut
    cases h1
    · have HON : Hid (O = false) := by
        have h2 : headB n lv = false := by
          rw [HHB.out]
          have := HH1.out
          cases ha : arB n.kind len with
          | false => simp
          | true => rw [Bool.and_true]; exact this
        unfold Hid
        rw [← HO.out, h2]
        rfl
      go_wp2_with fail
      go_ret
      exact ⟨by rw [HON.out]; rfl, hAB.out⟩
    · have hq : 1 ≤ lv ∧ 1 ≤ n.kind ∧ n.kind ≤ 8 := by
        have := HH1.out
        simp only [Bool.and_eq_true, decide_eq_true_eq] at this
        exact this
      obtain ⟨hq1, hq2, hq3⟩ := hq
      have HHA : Hid (headB n lv = arB n.kind len) := by unfold Hid; rw [HHB.out, decide_eq_true hq1, decide_eq_true hq2, decide_eq_true hq3]; rfl
      obtain ⟨ar, har⟩ : ∃ ar, arB n.kind len = ar := ⟨_, rfl⟩
      have HAR := Lib.hid har
      rw [har] at HHA
      have HO1 : Hid (O = ((ar && tagB n) && rtL (n.args.drop 0) (lv - 1))) := by unfold Hid; rw [← HO.out, HHA.out]; rfl
      clear har HHA HHB HH1 HO
      have hkc : n.kind = 1 ∨ n.kind = 2 ∨ n.kind = 3 ∨ n.kind = 4 ∨ n.kind = 5 ∨ n.kind = 6 ∨ n.kind = 7 ∨ n.kind = 8 := by omega
      have HKC := Lib.hid hkc
      clear hkc
      go_upto_region 4 with fail
      go_cut [60] (fun v wx => v = .bool (!ar) ∧ wx = wc)
      case first =>
        clear HO1 HTG HRD HIH HAL HOK HLV HNM
        rcases HKC.out with hk | hk | hk | hk | hk | hk | hk | hk
        all_goals
          have HK := Lib.hid hk
          rw [hk] at c0 HAR
          clear hk hq2 hq3 HKC
        case inr.inr.inr.inr.inl =>
          by_cases hl : len = 1
          · have HB : Hid (ar = true) := by unfold Hid; rw [← HAR.out]; simp [arB, loK, hiK, hl]
            subst hl
            go_wp2_with fail
            go_meet
            exact ⟨by rw [HB.out]; rfl, rfl⟩
          · have HB : Hid (ar = false) := by unfold Hid; rw [← HAR.out]; simp [arB, loK, hiK]; omega
            have hl2 : ((len : Int) != 1) = true := by simp; omega
            go_wp2_with fail
            go_meet
            exact ⟨by rw [HB.out]; rfl, rfl⟩
        case inr.inr.inr.inr.inr.inl =>
          by_cases hl : len = 2
          · have HB : Hid (ar = true) := by unfold Hid; rw [← HAR.out]; simp [arB, loK, hiK, hl]
            subst hl
            go_wp2_with fail
            go_meet
            exact ⟨by rw [HB.out]; rfl, rfl⟩
          · have HB : Hid (ar = false) := by unfold Hid; rw [← HAR.out]; simp [arB, loK, hiK]; omega
            have hl2 : ((len : Int) != 2) = true := by simp; omega
            go_wp2_with fail
            go_meet
            exact ⟨by rw [HB.out]; rfl, rfl⟩
        case inr.inr.inr.inr.inr.inr.inl =>
          by_cases hl : len ≤ 16
          · have HB : Hid (ar = true) := by unfold Hid; rw [← HAR.out]; simp [arB, loK, hiK, hl]
            have hl2 : ¬ (16 : Int) < (len : Int) := by omega
            go_wp2_with fail
            go_meet
            exact ⟨by rw [HB.out]; rfl, rfl⟩
          · have HB : Hid (ar = false) := by unfold Hid; rw [← HAR.out]; simp [arB, loK, hiK]; omega
            have hl2 : (16 : Int) < (len : Int) := by omega
            go_wp2_with fail
            go_meet
            exact ⟨by rw [HB.out]; rfl, rfl⟩
        all_goals
          by_cases hl : len = 0
          · have HB : Hid (ar = true) := by unfold Hid; rw [← HAR.out]; simp [arB, loK, hiK, hl]
            subst hl
            go_wp2_with fail
            go_meet
            exact ⟨by rw [HB.out]; rfl, rfl⟩
          · have HB : Hid (ar = false) := by unfold Hid; rw [← HAR.out]; simp [arB, loK, hiK]; omega
            have hl2 : ((len : Int) != 0) = true := by simp; omega
            go_wp2_with fail
            go_meet
            exact ⟨by rw [HB.out]; rfl, rfl⟩
      case rest =>
        obtain ⟨rfl, rfl⟩ := hcut
        cases ar
        · have HON : Hid (O = false) := by unfold Hid; rw [HO1.out]; rfl
          go_wp2_with fail
          go_ret
          exact ⟨by rw [HON.out]; rfl, hAB.out⟩
        · have HO2 : Hid (O = (tagB n && rtL (n.args.drop 0) (lv - 1))) := by unfold Hid; rw [HO1.out]; rfl
          clear HO1 HAR
          generalize tagB n = tg at HTG HO2
          obtain ⟨wd, hwd⟩ : ∃ wd, wc = wd := ⟨_, rfl⟩
          rw [hwd] at c0 c1 c2 c3 c4 c5 hA0 hAB ⊢
          clear hwd
          have r0 := cell_regrown c0
          have r1 := cell_regrown c1
          have r2 := cell_regrown c2
          have cL : ∀ dd os, Calls Tryz.prog 30 #[.string ⟨n.text.toArray⟩] (Go.Sort.grow (redrawn wd dd) os) fun e w'' => e = .returned (.int .i64 ls) ∧ ∃ p : Regrown, w'' = Go.Sort.grow (redrawn wd p.d) p.os := fun dd os => Calls.regrown_of (HLV.out _)
          have cN : ∀ dd os, Calls Tryz.prog 31 #[.string ⟨n.text.toArray⟩] (Go.Sort.grow (redrawn wd dd) os) fun e w'' => e = .returned (.bool nm) ∧ ∃ p : Regrown, w'' = Go.Sort.grow (redrawn wd p.d) p.os := fun dd os => Calls.regrown_of (HNM.out _)
          go_upto_region 6 with fail
          go_cut [90] (fun v wx => v = .bool (!tg) ∧ ∃ p : Regrown, wx = Go.Sort.grow (redrawn wd p.d) p.os)
          case first =>
            clear HO2 HRD HIH HAL HOK HLV HNM hA0 hAB c0 c1 c2 c3 c4 c5
            rcases HKC.out with hk | hk | hk | hk | hk | hk | hk | hk
            all_goals
              have HK := Lib.hid hk
              rw [hk] at r0
              clear hk hq2 hq3 HKC
            case inl =>
              by_cases hn : n.num < 0
              · have HB : Hid (tg = false) := by unfold Hid; rw [HTG.out, if_pos HK.out]; simp; omega
                refine wp_region_plain_below ?_
                repeat (go_big_quiet_step ((first | with_reducible exact cL _ _ | with_reducible exact cN _ _)))
                refine wpQuiet_nil ?_
                intro _ hw'
                obtain ⟨⟨dq, osq⟩, hw''⟩ := hw'
                subst hw''
                go_wp2_with fail
                go_meet
                exact ⟨by rw [HB.out]; rfl, ⟨dq, osq⟩, rfl⟩
              · have HB : Hid (tg = true) := by unfold Hid; rw [HTG.out, if_pos HK.out]; simp; omega
                refine wp_region_plain_below ?_
                repeat (go_big_quiet_step ((first | with_reducible exact cL _ _ | with_reducible exact cN _ _)))
                refine wpQuiet_nil ?_
                intro _ hw'
                obtain ⟨⟨dq, osq⟩, hw''⟩ := hw'
                subst hw''
                go_wp2_with fail
                go_meet
                exact ⟨by rw [HB.out]; rfl, ⟨dq, osq⟩, rfl⟩
            case inr.inr.inr.inr.inr.inl =>
              have hk1 : ¬ n.kind = 1 := by have := HK.out; omega
              by_cases hls : ls = 0
              · have HB : Hid (tg = false) := by unfold Hid; rw [HTG.out, if_neg hk1, if_pos HK.out]; simp [hls]
                subst hls
                clear hk1
                refine wp_region_plain_below ?_
                repeat (go_big_quiet_step ((first | with_reducible exact cL _ _ | with_reducible exact cN _ _)))
                refine wpQuiet_nil ?_
                intro _ hw'
                obtain ⟨⟨dq, osq⟩, hw''⟩ := hw'
                subst hw''
                go_wp2_with fail
                go_meet
                exact ⟨by rw [HB.out]; rfl, ⟨dq, osq⟩, rfl⟩
              · have HB : Hid (tg = true) := by unfold Hid; rw [HTG.out, if_neg hk1, if_pos HK.out]; simp [hls]
                have hls2 : (ls == 0) = false := by simpa using hls
                clear hk1
                refine wp_region_plain_below ?_
                repeat (go_big_quiet_step ((first | with_reducible exact cL _ _ | with_reducible exact cN _ _)))
                refine wpQuiet_nil ?_
                intro _ hw'
                obtain ⟨⟨dq, osq⟩, hw''⟩ := hw'
                subst hw''
                go_wp2_with fail
                go_meet
                exact ⟨by rw [HB.out]; rfl, ⟨dq, osq⟩, rfl⟩
            case inr.inr.inr.inr.inr.inr.inl =>
              have hk1 : ¬ n.kind = 1 := by have := HK.out; omega
              have hk6 : ¬ n.kind = 6 := by have := HK.out; omega
              have HB : Hid (tg = nm) := by unfold Hid; rw [HTG.out, if_neg hk1, if_neg hk6, if_pos HK.out]
              clear hk1 hk6
              cases nm
              all_goals
                refine wp_region_plain_below ?_
                repeat (go_big_quiet_step ((first | with_reducible exact cL _ _ | with_reducible exact cN _ _)))
                refine wpQuiet_nil ?_
                intro _ hw'
                obtain ⟨⟨dq, osq⟩, hw''⟩ := hw'
                subst hw''
                go_wp2_with fail
                go_meet
                exact ⟨by rw [HB.out]; rfl, ⟨dq, osq⟩, rfl⟩
            all_goals
              have hk1 : ¬ n.kind = 1 := by have := HK.out; omega
              have hk6 : ¬ n.kind = 6 := by have := HK.out; omega
              have hk7 : ¬ n.kind = 7 := by have := HK.out; omega
              have HB : Hid (tg = true) := by unfold Hid; rw [HTG.out, if_neg hk1, if_neg hk6, if_neg hk7]
              clear hk1 hk6 hk7
              refine wp_region_plain_below ?_
              repeat (go_big_quiet_step ((first | with_reducible exact cL _ _ | with_reducible exact cN _ _)))
              refine wpQuiet_nil ?_
              intro _ hw'
              obtain ⟨⟨dq, osq⟩, hw''⟩ := hw'
              subst hw''
              go_wp2_with fail
              go_meet
              exact ⟨by rw [HB.out]; rfl, ⟨dq, osq⟩, rfl⟩
          case rest =>
            obtain ⟨rfl, ⟨dq, osq⟩, hwq⟩ := hcut
            have hbq := below_regrown wd dq osq
            have hB2 : Hid (Below w.heap.size w wc) := by unfold Hid; rw [hwq]; exact bel_call hbq hAB.out hAB.out.size
            have hA2 : Hid (NdB tRn wc w.heap.size n p len cap) := by unfold Hid; rw [hwq]; exact hA0.out.below hbq
            clear hwq hbq hA0 hAB c0 c1 c2 c3 c4 c5 r0 r1 r2 cL cN HTG HLV HNM HKC hq2 hq3
            cases tg
            · have HON : Hid (O = false) := by unfold Hid; rw [HO2.out]; rfl
              go_wp2_with fail
              go_ret
              exact ⟨by rw [HON.out]; rfl, hB2.out⟩
            · have HO3 : Hid (O = rtL (n.args.drop 0) (lv - 1)) := by unfold Hid; rw [HO2.out]; rfl
              clear HO2
              go_wp2_with fail
              go_loopg [6] len (fun g v6 wr => ∃ i : Nat, i + g = len ∧ v6 = .int .i64 i ∧ O = rtL (n.args.drop i) (lv - 1) ∧ NdB tRn wr w.heap.size n p len cap ∧ Below w.heap.size w wr)
              case atStart => exact ⟨0, by omega, rfl, HO3.out, hA2.out, hB2.out⟩
              case round =>
                obtain ⟨i, hig, rfl, hD, hnb, hbel⟩ := hrel
                have HD := Lib.hid hD
                have HBL := Lib.hid hbel
                have HNB := Lib.hid hnb
                have hzr := hbel.size
                clear hD hbel HO3 hnb hA2 hB2
                by_cases hlt : i < len
                · have hli : (i : Int) < (len : Int) := by omega
                  obtain ⟨d', b, off, c, p', l', c', hd, rfl, hbN, hc, hrc, q0, q1, q2, q3, q4, q5⟩ := (HRD.out.below HBL.out).at hlt
                  have HC : Hid (RRightC d') := HIH.out d' hd
                  have HCO := Lib.hid (HOK.out c (mem_at hc))
                  have HD2 : Hid (O = (rtN c (lv - 1) && rtL (n.args.drop (i + 1)) (lv - 1))) := by unfold Hid; rw [HD.out, rtL_at hc]
                  have HCC := Lib.hid (HC.out c p' l' c' (lv - 1) wr (hrc.mono HBL.out.size) HCO.out (by omega) (by omega))
                  rw [ndA_eq] at HCC
                  generalize rtN c (lv - 1) = rc at HCC HD2
                  clear HC hc hrc HD hd
                  obtain ⟨c0, c1, c2, c3, c4, c5⟩ := HNB.out.cells
                  go_wp2_with fail
                  refine HCC.out.mono ?_
                  rintro e w3 ⟨rfl, hb3⟩
                  have hB3 : Hid (Below w.heap.size w w3) := bel_call hb3 HBL.out hzr
                  have hN3 := Lib.hid (HNB.out.below hb3)
                  clear hb3 c0 c1 c2 c3 c4 c5 q0 q1 q2 q3 q4 q5 HNB HBL HCC
                  cases rc
                  · have HDE : Hid (O = false) := by unfold Hid; rw [HD2.out]; rfl
                    go_wp2_with fail
                    go_ret
                    exact ⟨by rw [HDE.out]; rfl, hB3.out⟩
                  · have HDE : Hid (O = rtL (n.args.drop (i + 1)) (lv - 1)) := by unfold Hid; rw [HD2.out]; rfl
                    go_wp2_with fail
                    go_roundg (gk - 1)
                    case measure => omega
                    case rel => exact ⟨i + 1, by omega, by go_num, HDE.out, hN3.out, hB3.out⟩
                · obtain rfl : i = len := by omega
                  have hli : ¬ (i : Int) < (i : Int) := by omega
                  have HDE : Hid (O = true) := by
                    unfold Hid
                    rw [HD.out, List.drop_eq_nil_of_le (by rw [HAL.out]; exact Nat.le_refl _), rtL]
                  go_wp2_with fail
                  go_ret
                  exact ⟨by rw [HDE.out]; rfl, HBL.out⟩
theorem rright_any : ∀ d, RRightC d
  | 0 => rright_s 0 (fun d' h => by omega)
  | d + 1 => rright_s (d + 1) (fun d' h => (show d = d' from by omega) ▸ rright_any d)
end Go.Proofs.YtigmcoelkkihkaaGreatDoor
namespace Go.Proofs.YtigmcoelkkihkaaGreatDoor
open Go.RowKit Go.Joins

mutual
def smN : Nd → Nd → Bool
  | .mk k u t f o a, .mk k' u' t' f' o' a' => (k == k') && ((u == u') && ((t == t') && ((f == f') && ((o == o') && smL a a'))))
def smL : List Nd → List Nd → Bool
  | [], [] => true
  | x :: r, y :: s => smN x y && smL r s
  | [], _ :: _ => false
  | _ :: _, [] => false
end
theorem smN_eq (n m : Nd) : smN n m = ((n.kind == m.kind) && ((n.num == m.num) && ((n.text == m.text) && ((n.frm == m.frm) && ((n.tor == m.tor) && smL n.args m.args))))) := by
  cases n; cases m; rw [smN]; rfl
theorem smL_len : ∀ (a b : List Nd), a.length ≠ b.length → smL a b = false
  | [], [], h => absurd rfl h
  | x :: r, y :: s, h => by rw [smL, smL_len r s (fun e => h (by simp [e])), Bool.and_false]
  | [], _ :: _, _ => by rw [smL]
  | _ :: _, [], _ => by rw [smL]
theorem smL_at {a b : List Nd} {i : Nat} {x y : Nd} (hx : a[i]? = some x) (hy : b[i]? = some y) : smL (a.drop i) (b.drop i) = (smN x y && smL (a.drop (i + 1)) (b.drop (i + 1))) := by
  obtain ⟨hi, e⟩ := List.getElem?_eq_some_iff.1 hx
  obtain ⟨hj, e2⟩ := List.getElem?_eq_some_iff.1 hy
  rw [List.drop_eq_getElem_cons hi, List.drop_eq_getElem_cons hj, smL, e, e2]

end Go.Proofs.YtigmcoelkkihkaaGreatDoor
namespace Go.Proofs.YtigmcoelkkihkaaGreatDoor
open Go.RowKit Go.Joins

/-- Is a tree not too great, nor too deep? -/
def lightB (n : Nd) : Bool := decide (szN n 200 ≤ 200) && (decide (dpN n ≤ 100) && decide (n.text.length ≤ 400))
end Go.Proofs.YtigmcoelkkihkaaGreatDoor
