/- Trees: which trees may be: the program's right, Right. -/
import Derived.Test.YtfkfajgfkgeicaaDoorTreD
set_option linter.unusedSimpArgs false
set_option linter.unusedVariables false
namespace Go.Proofs.YtfkfajgfkgeicaaDoor
open Go.RowKit Go.Joins

def loK (k : Int) : Nat := if k = 5 then 1 else if k = 6 then 2 else 0
def hiK (k : Int) : Nat := if k = 5 then 1 else if k = 6 then 2 else if k = 7 then 16 else 0
def arB (k : Int) (len : Nat) : Bool := decide (loK k ≤ len) && decide (len ≤ hiK k)
def tagB (n : Nd) : Bool := if n.kind = 1 then decide (0 ≤ n.num) else if n.kind = 6 then decide (lvS n.text ≠ 0) else if n.kind = 7 then nameB n.text else true
/-- May a node be, its parts aside? -/
def headB (n : Nd) (lv : Int) : Bool := decide (1 ≤ lv) && (decide (1 ≤ n.kind) && (decide (n.kind ≤ 8) && arB n.kind n.args.length))
mutual
def rtN : Nd → Int → Bool
  | .mk k u t f o a, lv => (headB (.mk k u t f o a) lv && tagB (.mk k u t f o a)) && rtL a (lv - 1)
def rtL : List Nd → Int → Bool
  | [], _ => true
  | c :: r, lv => rtN c lv && rtL r lv
end
theorem rtN_eq (n : Nd) (lv : Int) : rtN n lv = ((headB n lv && tagB n) && rtL n.args (lv - 1)) := by cases n; rw [rtN]; rfl
theorem rtL_at {a : List Nd} {i : Nat} {c : Nd} {lv : Int} (h : a[i]? = some c) : rtL (a.drop i) lv = (rtN c lv && rtL (a.drop (i + 1)) lv) := by
  obtain ⟨hi, e⟩ := List.getElem?_eq_some_iff.1 h
  rw [List.drop_eq_getElem_cons hi, rtL, e]

set_option maxRecDepth 100000 in
set_option maxHeartbeats 1000000 in
theorem parts_any (k : Int) (w : World) : Calls Tryd.prog 46 #[.int .i64 k] w fun e w' => e = .returned (.tuple #[.int .i64 (loK k : Nat), .int .i64 (hiK k : Nat)]) ∧ w' = w := by
  unfold loK hiK
  by_cases h5 : k = 5
  · subst h5
    go_enter Tryd.func46, Tryd.ntmps46
    go_wp2_with fail
    go_ret2
    exact ⟨rfl, rfl⟩
  · by_cases h6 : k = 6
    · subst h6
      go_enter Tryd.func46, Tryd.ntmps46
      go_wp2_with fail
      go_ret2
      exact ⟨rfl, rfl⟩
    · by_cases h7 : k = 7
      · subst h7
        go_enter Tryd.func46, Tryd.ntmps46
        go_wp2_with fail
        go_ret2
        exact ⟨rfl, rfl⟩
      · rw [if_neg h5, if_neg h6, if_neg h5, if_neg h6, if_neg h7]
        go_enter Tryd.func46, Tryd.ntmps46
        go_wp2_with fail
        go_ret2
        exact ⟨rfl, rfl⟩
def RightC (d : Nat) : Prop := ∀ (n : Nd) (p : Option Addr) (len cap : Nat) (lv : Int) (w : World), RdT w w.heap.size d n p len → OkN n → -1000 ≤ lv → lv ≤ 1000 → Calls Tryd.prog 34 #[.agg (ndA n p len cap), .int .i64 lv] w fun e w' => e = .returned (.bool (rtN n lv)) ∧ Below w.heap.size w w'
set_option maxRecDepth 100000 in
set_option maxHeartbeats 16000000 in
theorem right_s (d : Nat) (IH : ∀ d', d = d' + 1 → RightC d') : RightC d := by
  intro n p len cap lv w hrd hok hlv0 hlv1
  have hA0 : Hid (NdB tPn (w.alloc (.cells (ndA n p len cap) tPn)) w.heap.size n p len cap) := heap_alloc_new w _
  have hAB : Hid (Below w.heap.size w (w.alloc (.cells (ndA n p len cap) tPn))) := by unfold Hid; (repeat' (first | (with_reducible exact Below.refl _ _) | (with_reducible assumption) | (with_reducible refine Below.alloc ?_ ?_ _) | (with_reducible refine bel_drewN ?_ _) | (with_reducible refine Below.drew ?_) | (with_reducible refine Below.setCell ?_ ?_ _) | (with_reducible refine bel_call ‹_› ?_ ?_) | go_size))
  have HRD := Lib.hid hrd
  have HIH := Lib.hid IH
  have hlen := hok.len
  rw [hrd.len] at hlen
  have HAL := Lib.hid hrd.len
  have HOK := Lib.hid (fun c hc => OkN.child (c := c) hok hc)
  have HPA := Lib.hid (fun W => parts_any n.kind W)
  have HLV := Lib.hid (fun W => level_any ⟨n.text.toArray⟩ W)
  have HNM := Lib.hid (fun W => name_any ⟨n.text.toArray⟩ (by rw [Lib.size_eq]; simpa [maxLen] using hok.text) W)
  rw [show (⟨n.text.toArray⟩ : ByteArray).data.toList = n.text from rfl] at HLV HNM
  obtain ⟨O, hO⟩ : ∃ O, rtN n lv = O := ⟨_, rfl⟩
  have HO := Lib.hid hO
  rw [hO]
  rw [rtN_eq] at HO
  clear hO
  have HHB : Hid (headB n lv = (decide (1 ≤ lv) && (decide (1 ≤ n.kind) && (decide (n.kind ≤ 8) && (decide (loK n.kind ≤ len) && decide (len ≤ hiK n.kind)))))) := by unfold Hid headB arB; rw [HAL.out]
  have HTG : Hid (tagB n = (if n.kind = 1 then decide (0 ≤ n.num) else if n.kind = 6 then decide (lvS n.text ≠ 0) else if n.kind = 7 then nameB n.text else true)) := rfl
  have hhi : hiK n.kind ≤ 16 := by unfold hiK; split <;> (try split) <;> (try split) <;> omega
  generalize loK n.kind = lo at HPA HHB
  generalize hiK n.kind = hi at HPA HHB hhi
  generalize lvS n.text = ls at HLV HTG
  generalize nameB n.text = nm at HNM HTG
  rw [ndA_eq]
  clear hrd IH hok
  go_enter Tryd.func34, Tryd.ntmps34
  go_upto_region 1 with fail
  have e0 : w.alloc (.cells #[.int .i64 n.kind, .int .i64 n.num, .string ⟨n.text.toArray⟩, .int .i64 n.frm, .int .i64 n.tor, .slice p len cap] tPn) = w.alloc (.cells (ndA n p len cap) tPn) := rfl
  rw [e0]
  clear e0
  generalize w.alloc (.cells (ndA n p len cap) tPn) = w0 at hA0 hAB ⊢
  obtain ⟨c0, c1, c2, c3, c4, c5⟩ := hA0.out.cells
  go_wp2_with fail
  refine (HPA.out _).mono ?_
  rintro e wx ⟨rfl, hwx⟩
  rw [hwx]
  clear hwx wx HPA
  go_upto_region 2 with fail
  generalize headB n lv = hb at HO HHB
  go_cut [40] (fun v wx => v = .bool (!hb) ∧ wx = w0)
  case first =>
    clear HO HTG HRD HIH HAL HOK HLV HNM
    by_cases h1 : lv < 1
    · have HB : Hid (hb = false) := by unfold Hid; rw [HHB.out]; simp; omega
      go_wp2_with fail
      go_meet
      exact ⟨by rw [HB.out]; rfl, rfl⟩
    · by_cases h2 : n.kind < 1
      · have HB : Hid (hb = false) := by unfold Hid; rw [HHB.out]; simp; omega
        go_wp2_with fail
        go_meet
        exact ⟨by rw [HB.out]; rfl, rfl⟩
      · by_cases h3 : 8 < n.kind
        · have HB : Hid (hb = false) := by unfold Hid; rw [HHB.out]; simp; omega
          go_wp2_with fail
          go_meet
          exact ⟨by rw [HB.out]; rfl, rfl⟩
        · by_cases h4 : len < lo
          · have h4i : (len : Int) < (lo : Int) := by omega
            have HB : Hid (hb = false) := by unfold Hid; rw [HHB.out]; simp; omega
            go_wp2_with fail
            go_meet
            exact ⟨by rw [HB.out]; rfl, rfl⟩
          · have h4i : ¬ (len : Int) < (lo : Int) := by omega
            by_cases h5 : hi < len
            · have h5i : (hi : Int) < (len : Int) := by omega
              have HB : Hid (hb = false) := by unfold Hid; rw [HHB.out]; simp; omega
              go_wp2_with fail
              go_meet
              exact ⟨by rw [HB.out]; rfl, rfl⟩
            · have h5i : ¬ (hi : Int) < (len : Int) := by omega
              have HB : Hid (hb = true) := by unfold Hid; rw [HHB.out]; simp; omega
              go_wp2_with fail
              go_meet
              exact ⟨by rw [HB.out]; rfl, rfl⟩
  case rest =>
    obtain ⟨rfl, rfl⟩ := hcut
    cases hb
    · have HON : Hid (O = false) := by unfold Hid; rw [← HO.out]; rfl
      go_wp2_with fail
      go_ret
      exact ⟨by rw [HON.out]; rfl, hAB.out⟩
    · have hlv2 : 1 ≤ lv := by
        have := HHB.out.symm
        simp only [Bool.and_eq_true, decide_eq_true_eq] at this
        exact this.1
      clear HHB
      have HO2 : Hid (O = (tagB n && rtL (n.args.drop 0) (lv - 1))) := by unfold Hid; rw [← HO.out]; rfl
      clear HO
      by_cases hk1 : n.kind = 1
      · have hk1b : (n.kind == 1) = true := by simpa using hk1
        by_cases hn0 : n.num < 0
        · have HT : Hid (tagB n = false) := by unfold Hid; rw [HTG.out, if_pos hk1]; simp; omega
          rw [hk1] at c0
          have HON : Hid (O = false) := by unfold Hid; rw [HO2.out, HT.out]; rfl
          go_wp2_with fail
          go_ret
          exact ⟨by rw [HON.out]; rfl, hAB.out⟩
        · have HT : Hid (tagB n = true) := by unfold Hid; rw [HTG.out, if_pos hk1]; simp; omega
          rw [hk1] at c0
          have HO3 : Hid (O = rtL (n.args.drop 0) (lv - 1)) := by unfold Hid; rw [HO2.out, HT.out]; rfl
          clear HO2 HT c2 c3 c4 HTG
          go_wp2_with fail
          clear c5 hA0
          go_loopg [63] len (fun g v63 wr => ∃ i : Nat, i + g = len ∧ v63 = .int .i64 i ∧ O = rtL (n.args.drop i) (lv - 1) ∧ Below w.heap.size w wr)
          case atStart => exact ⟨0, by omega, rfl, HO3.out, hAB.out⟩
          case round =>
            obtain ⟨i, hig, rfl, hD, hbel⟩ := hrel
            have HD := Lib.hid hD
            have HBL := Lib.hid hbel
            have hzr := hbel.size
            clear hD hbel HO3
            by_cases hlt : i < len
            · have hli : (i : Int) < (len : Int) := by omega
              obtain ⟨d', b, off, c, p', l', c', hd, rfl, hbN, hc, hrc, q0, q1, q2, q3, q4, q5⟩ := (HRD.out.below HBL.out).at hlt
              have HC : Hid (RightC d') := HIH.out d' hd
              have HCO := Lib.hid (HOK.out c (mem_at hc))
              have HD2 : Hid (O = (rtN c (lv - 1) && rtL (n.args.drop (i + 1)) (lv - 1))) := by unfold Hid; rw [HD.out, rtL_at hc]
              have HRC := Lib.hid hrc
              clear hc hrc HD hd
              go_upto_region 17 with fail
              have hA1 : Hid (NdB tPn (wr.alloc (.cells (ndA c p' l' c') tPn)) wr.heap.size c p' l' c') := heap_alloc_new wr _
              have hB1 : Hid (Below w.heap.size w (wr.alloc (.cells (ndA c p' l' c') tPn))) := HBL.out.alloc hzr _
              have HR1 : Hid (RdT (wr.alloc (.cells (ndA c p' l' c') tPn)) w.heap.size d' c p' l') := HRC.out.below (by (repeat' (first | (with_reducible exact Below.refl _ _) | (with_reducible assumption) | (with_reducible refine Below.alloc ?_ ?_ _) | (with_reducible refine bel_drewN ?_ _) | (with_reducible refine Below.drew ?_) | (with_reducible refine Below.setCell ?_ ?_ _) | (with_reducible refine bel_call ‹_› ?_ ?_) | go_size)))
              have e1 : wr.alloc (.cells #[.int .i64 c.kind, .int .i64 c.num, .string ⟨c.text.toArray⟩, .int .i64 c.frm, .int .i64 c.tor, .slice p' l' c'] tPn) = wr.alloc (.cells (ndA c p' l' c') tPn) := rfl
              rw [e1]
              clear e1 HRC HBL q0 q1 q2 q3 q4 q5
              generalize wr.alloc (.cells (ndA c p' l' c') tPn) = w2 at hA1 hB1 HR1 ⊢
              generalize wr.heap.size = b2 at hA1 hzr ⊢
              obtain ⟨c0, c1, c2, c3, c4, c5⟩ := hA1.out.cells
              have HCC := Lib.hid (HC.out c p' l' c' (lv - 1) w2 (HR1.out.mono hB1.out.size) HCO.out (by omega) (by omega))
              rw [ndA_eq] at HCC
              generalize rtN c (lv - 1) = rc at HCC HD2
              clear HC
              go_wp2_with fail
              refine HCC.out.mono ?_
              rintro e w3 ⟨rfl, hb3⟩
              have hB3 : Hid (Below w.heap.size w w3) := bel_call hb3 hB1.out hB1.out.size
              clear hb3 hB1 c0 c1 c2 c3 c4 c5 hA1 HR1 HCC
              cases rc
              · have HDE : Hid (O = false) := by unfold Hid; rw [HD2.out]; rfl
                go_wp2_with fail
                go_ret
                exact ⟨by rw [HDE.out]; rfl, hB3.out⟩
              · have HDE : Hid (O = rtL (n.args.drop (i + 1)) (lv - 1)) := by unfold Hid; rw [HD2.out]; rfl
                go_wp2_with fail
                go_roundg (gk - 1)
                case measure => omega
                case rel => exact ⟨i + 1, by omega, by go_num, HDE.out, hB3.out⟩
            · obtain rfl : i = len := by omega
              have hli : ¬ (i : Int) < (i : Int) := by omega
              have HDE : Hid (O = true) := by
                unfold Hid
                rw [HD.out, List.drop_eq_nil_of_le (by rw [HAL.out]; exact Nat.le_refl _), rtL]
              go_wp2_with fail
              go_ret
              exact ⟨by rw [HDE.out]; rfl, HBL.out⟩
      · by_cases hk6 : n.kind = 6
        · have HT0 : Hid (tagB n = decide (ls ≠ 0)) := by unfold Hid; rw [HTG.out, if_neg hk1, if_pos hk6]
          rw [hk6] at c0
          go_wp2_with fail
          refine (HLV.out _).mono ?_
          rintro e w1 ⟨rfl, hb1⟩
          have hB1 : Hid (Below w.heap.size w w1) := bel_call hb1 hAB.out hAB.out.size
          have hA1 := Lib.hid (hA0.out.below hb1)
          clear hb1 hA0 hAB c0 c1 c2 c3 c4 c5 HLV
          obtain ⟨c0, c1, c2, c3, c4, c5⟩ := hA1.out.cells
          have hA0 := hA1
          clear hA1
          rw [hk6] at c0
          by_cases hls : ls = 0
          · have HT : Hid (tagB n = false) := by unfold Hid; rw [HT0.out]; simp [hls]
            subst hls
            have HON : Hid (O = false) := by unfold Hid; rw [HO2.out, HT.out]; rfl
            go_wp2_with fail
            go_ret
            exact ⟨by rw [HON.out]; rfl, hB1.out⟩
          · have HT : Hid (tagB n = true) := by unfold Hid; rw [HT0.out]; simp [hls]
            have hlsb : (ls == 0) = false := by simpa using hls
            have HO3 : Hid (O = rtL (n.args.drop 0) (lv - 1)) := by unfold Hid; rw [HO2.out, HT.out]; rfl
            clear HO2 HT c0 c1 c2 c3 c4 HTG
            go_wp2_with fail
            clear c5 hA0
            go_loopg [63] len (fun g v63 wr => ∃ i : Nat, i + g = len ∧ v63 = .int .i64 i ∧ O = rtL (n.args.drop i) (lv - 1) ∧ Below w.heap.size w wr)
            case atStart => exact ⟨0, by omega, rfl, HO3.out, hB1.out⟩
            case round =>
              obtain ⟨i, hig, rfl, hD, hbel⟩ := hrel
              have HD := Lib.hid hD
              have HBL := Lib.hid hbel
              have hzr := hbel.size
              clear hD hbel HO3
              by_cases hlt : i < len
              · have hli : (i : Int) < (len : Int) := by omega
                obtain ⟨d', b, off, c, p', l', c', hd, rfl, hbN, hc, hrc, q0, q1, q2, q3, q4, q5⟩ := (HRD.out.below HBL.out).at hlt
                have HC : Hid (RightC d') := HIH.out d' hd
                have HCO := Lib.hid (HOK.out c (mem_at hc))
                have HD2 : Hid (O = (rtN c (lv - 1) && rtL (n.args.drop (i + 1)) (lv - 1))) := by unfold Hid; rw [HD.out, rtL_at hc]
                have HRC := Lib.hid hrc
                clear hc hrc HD hd
                go_upto_region 17 with fail
                have hA1 : Hid (NdB tPn (wr.alloc (.cells (ndA c p' l' c') tPn)) wr.heap.size c p' l' c') := heap_alloc_new wr _
                have hB1 : Hid (Below w.heap.size w (wr.alloc (.cells (ndA c p' l' c') tPn))) := HBL.out.alloc hzr _
                have HR1 : Hid (RdT (wr.alloc (.cells (ndA c p' l' c') tPn)) w.heap.size d' c p' l') := HRC.out.below (by (repeat' (first | (with_reducible exact Below.refl _ _) | (with_reducible assumption) | (with_reducible refine Below.alloc ?_ ?_ _) | (with_reducible refine bel_drewN ?_ _) | (with_reducible refine Below.drew ?_) | (with_reducible refine Below.setCell ?_ ?_ _) | (with_reducible refine bel_call ‹_› ?_ ?_) | go_size)))
                have e1 : wr.alloc (.cells #[.int .i64 c.kind, .int .i64 c.num, .string ⟨c.text.toArray⟩, .int .i64 c.frm, .int .i64 c.tor, .slice p' l' c'] tPn) = wr.alloc (.cells (ndA c p' l' c') tPn) := rfl
                rw [e1]
                clear e1 HRC HBL q0 q1 q2 q3 q4 q5
                generalize wr.alloc (.cells (ndA c p' l' c') tPn) = w2 at hA1 hB1 HR1 ⊢
                generalize wr.heap.size = b2 at hA1 hzr ⊢
                obtain ⟨c0, c1, c2, c3, c4, c5⟩ := hA1.out.cells
                have HCC := Lib.hid (HC.out c p' l' c' (lv - 1) w2 (HR1.out.mono hB1.out.size) HCO.out (by omega) (by omega))
                rw [ndA_eq] at HCC
                generalize rtN c (lv - 1) = rc at HCC HD2
                clear HC
                go_wp2_with fail
                refine HCC.out.mono ?_
                rintro e w3 ⟨rfl, hb3⟩
                have hB3 : Hid (Below w.heap.size w w3) := bel_call hb3 hB1.out hB1.out.size
                clear hb3 hB1 c0 c1 c2 c3 c4 c5 hA1 HR1 HCC
                cases rc
                · have HDE : Hid (O = false) := by unfold Hid; rw [HD2.out]; rfl
                  go_wp2_with fail
                  go_ret
                  exact ⟨by rw [HDE.out]; rfl, hB3.out⟩
                · have HDE : Hid (O = rtL (n.args.drop (i + 1)) (lv - 1)) := by unfold Hid; rw [HD2.out]; rfl
                  go_wp2_with fail
                  go_roundg (gk - 1)
                  case measure => omega
                  case rel => exact ⟨i + 1, by omega, by go_num, HDE.out, hB3.out⟩
              · obtain rfl : i = len := by omega
                have hli : ¬ (i : Int) < (i : Int) := by omega
                have HDE : Hid (O = true) := by
                  unfold Hid
                  rw [HD.out, List.drop_eq_nil_of_le (by rw [HAL.out]; exact Nat.le_refl _), rtL]
                go_wp2_with fail
                go_ret
                exact ⟨by rw [HDE.out]; rfl, HBL.out⟩
        · by_cases hk7 : n.kind = 7
          · have HT0 : Hid (tagB n = nm) := by unfold Hid; rw [HTG.out, if_neg hk1, if_neg hk6, if_pos hk7]
            rw [hk7] at c0
            go_wp2_with fail
            refine (HNM.out _).mono ?_
            rintro e w1 ⟨rfl, hb1⟩
            have hB1 : Hid (Below w.heap.size w w1) := bel_call hb1 hAB.out hAB.out.size
            have hA1 := Lib.hid (hA0.out.below hb1)
            clear hb1 hA0 hAB c0 c1 c2 c3 c4 c5 HNM
            obtain ⟨c0, c1, c2, c3, c4, c5⟩ := hA1.out.cells
            have hA0 := hA1
            clear hA1
            rw [hk7] at c0
            cases nm
            · have HT : Hid (tagB n = false) := HT0.out
              have HON : Hid (O = false) := by unfold Hid; rw [HO2.out, HT.out]; rfl
              go_wp2_with fail
              go_ret
              exact ⟨by rw [HON.out]; rfl, hB1.out⟩
            · have HT : Hid (tagB n = true) := HT0.out
              have HO3 : Hid (O = rtL (n.args.drop 0) (lv - 1)) := by unfold Hid; rw [HO2.out, HT.out]; rfl
              clear HO2 HT c0 c1 c2 c3 c4 HTG
              go_wp2_with fail
              clear c5 hA0
              go_loopg [63] len (fun g v63 wr => ∃ i : Nat, i + g = len ∧ v63 = .int .i64 i ∧ O = rtL (n.args.drop i) (lv - 1) ∧ Below w.heap.size w wr)
              case atStart => exact ⟨0, by omega, rfl, HO3.out, hB1.out⟩
              case round =>
                obtain ⟨i, hig, rfl, hD, hbel⟩ := hrel
                have HD := Lib.hid hD
                have HBL := Lib.hid hbel
                have hzr := hbel.size
                clear hD hbel HO3
                by_cases hlt : i < len
                · have hli : (i : Int) < (len : Int) := by omega
                  obtain ⟨d', b, off, c, p', l', c', hd, rfl, hbN, hc, hrc, q0, q1, q2, q3, q4, q5⟩ := (HRD.out.below HBL.out).at hlt
                  have HC : Hid (RightC d') := HIH.out d' hd
                  have HCO := Lib.hid (HOK.out c (mem_at hc))
                  have HD2 : Hid (O = (rtN c (lv - 1) && rtL (n.args.drop (i + 1)) (lv - 1))) := by unfold Hid; rw [HD.out, rtL_at hc]
                  have HRC := Lib.hid hrc
                  clear hc hrc HD hd
                  go_upto_region 17 with fail
                  have hA1 : Hid (NdB tPn (wr.alloc (.cells (ndA c p' l' c') tPn)) wr.heap.size c p' l' c') := heap_alloc_new wr _
                  have hB1 : Hid (Below w.heap.size w (wr.alloc (.cells (ndA c p' l' c') tPn))) := HBL.out.alloc hzr _
                  have HR1 : Hid (RdT (wr.alloc (.cells (ndA c p' l' c') tPn)) w.heap.size d' c p' l') := HRC.out.below (by (repeat' (first | (with_reducible exact Below.refl _ _) | (with_reducible assumption) | (with_reducible refine Below.alloc ?_ ?_ _) | (with_reducible refine bel_drewN ?_ _) | (with_reducible refine Below.drew ?_) | (with_reducible refine Below.setCell ?_ ?_ _) | (with_reducible refine bel_call ‹_› ?_ ?_) | go_size)))
                  have e1 : wr.alloc (.cells #[.int .i64 c.kind, .int .i64 c.num, .string ⟨c.text.toArray⟩, .int .i64 c.frm, .int .i64 c.tor, .slice p' l' c'] tPn) = wr.alloc (.cells (ndA c p' l' c') tPn) := rfl
                  rw [e1]
                  clear e1 HRC HBL q0 q1 q2 q3 q4 q5
                  generalize wr.alloc (.cells (ndA c p' l' c') tPn) = w2 at hA1 hB1 HR1 ⊢
                  generalize wr.heap.size = b2 at hA1 hzr ⊢
                  obtain ⟨c0, c1, c2, c3, c4, c5⟩ := hA1.out.cells
                  have HCC := Lib.hid (HC.out c p' l' c' (lv - 1) w2 (HR1.out.mono hB1.out.size) HCO.out (by omega) (by omega))
                  rw [ndA_eq] at HCC
                  generalize rtN c (lv - 1) = rc at HCC HD2
                  clear HC
                  go_wp2_with fail
                  refine HCC.out.mono ?_
                  rintro e w3 ⟨rfl, hb3⟩
                  have hB3 : Hid (Below w.heap.size w w3) := bel_call hb3 hB1.out hB1.out.size
                  clear hb3 hB1 c0 c1 c2 c3 c4 c5 hA1 HR1 HCC
                  cases rc
                  · have HDE : Hid (O = false) := by unfold Hid; rw [HD2.out]; rfl
                    go_wp2_with fail
                    go_ret
                    exact ⟨by rw [HDE.out]; rfl, hB3.out⟩
                  · have HDE : Hid (O = rtL (n.args.drop (i + 1)) (lv - 1)) := by unfold Hid; rw [HD2.out]; rfl
                    go_wp2_with fail
                    go_roundg (gk - 1)
                    case measure => omega
                    case rel => exact ⟨i + 1, by omega, by go_num, HDE.out, hB3.out⟩
                · obtain rfl : i = len := by omega
                  have hli : ¬ (i : Int) < (i : Int) := by omega
                  have HDE : Hid (O = true) := by
                    unfold Hid
                    rw [HD.out, List.drop_eq_nil_of_le (by rw [HAL.out]; exact Nat.le_refl _), rtL]
                  go_wp2_with fail
                  go_ret
                  exact ⟨by rw [HDE.out]; rfl, HBL.out⟩
          · have HT : Hid (tagB n = true) := by unfold Hid; rw [HTG.out, if_neg hk1, if_neg hk6, if_neg hk7]
            have e1 : (n.kind == 1) = false := by simpa using hk1
            have e6 : (n.kind == 6) = false := by simpa using hk6
            have e7 : (n.kind == 7) = false := by simpa using hk7
            have HO3 : Hid (O = rtL (n.args.drop 0) (lv - 1)) := by unfold Hid; rw [HO2.out, HT.out]; rfl
            clear HO2 HT c1 c2 c3 c4 HTG
            go_wp2_with fail
            clear c5 hA0
            go_loopg [63] len (fun g v63 wr => ∃ i : Nat, i + g = len ∧ v63 = .int .i64 i ∧ O = rtL (n.args.drop i) (lv - 1) ∧ Below w.heap.size w wr)
            case atStart => exact ⟨0, by omega, rfl, HO3.out, hAB.out⟩
            case round =>
              obtain ⟨i, hig, rfl, hD, hbel⟩ := hrel
              have HD := Lib.hid hD
              have HBL := Lib.hid hbel
              have hzr := hbel.size
              clear hD hbel HO3
              by_cases hlt : i < len
              · have hli : (i : Int) < (len : Int) := by omega
                obtain ⟨d', b, off, c, p', l', c', hd, rfl, hbN, hc, hrc, q0, q1, q2, q3, q4, q5⟩ := (HRD.out.below HBL.out).at hlt
                have HC : Hid (RightC d') := HIH.out d' hd
                have HCO := Lib.hid (HOK.out c (mem_at hc))
                have HD2 : Hid (O = (rtN c (lv - 1) && rtL (n.args.drop (i + 1)) (lv - 1))) := by unfold Hid; rw [HD.out, rtL_at hc]
                have HRC := Lib.hid hrc
                clear hc hrc HD hd
                go_upto_region 17 with fail
                have hA1 : Hid (NdB tPn (wr.alloc (.cells (ndA c p' l' c') tPn)) wr.heap.size c p' l' c') := heap_alloc_new wr _
                have hB1 : Hid (Below w.heap.size w (wr.alloc (.cells (ndA c p' l' c') tPn))) := HBL.out.alloc hzr _
                have HR1 : Hid (RdT (wr.alloc (.cells (ndA c p' l' c') tPn)) w.heap.size d' c p' l') := HRC.out.below (by (repeat' (first | (with_reducible exact Below.refl _ _) | (with_reducible assumption) | (with_reducible refine Below.alloc ?_ ?_ _) | (with_reducible refine bel_drewN ?_ _) | (with_reducible refine Below.drew ?_) | (with_reducible refine Below.setCell ?_ ?_ _) | (with_reducible refine bel_call ‹_› ?_ ?_) | go_size)))
                have e1 : wr.alloc (.cells #[.int .i64 c.kind, .int .i64 c.num, .string ⟨c.text.toArray⟩, .int .i64 c.frm, .int .i64 c.tor, .slice p' l' c'] tPn) = wr.alloc (.cells (ndA c p' l' c') tPn) := rfl
                rw [e1]
                clear e1 HRC HBL q0 q1 q2 q3 q4 q5
                generalize wr.alloc (.cells (ndA c p' l' c') tPn) = w2 at hA1 hB1 HR1 ⊢
                generalize wr.heap.size = b2 at hA1 hzr ⊢
                obtain ⟨c0, c1, c2, c3, c4, c5⟩ := hA1.out.cells
                have HCC := Lib.hid (HC.out c p' l' c' (lv - 1) w2 (HR1.out.mono hB1.out.size) HCO.out (by omega) (by omega))
                rw [ndA_eq] at HCC
                generalize rtN c (lv - 1) = rc at HCC HD2
                clear HC
                go_wp2_with fail
                refine HCC.out.mono ?_
                rintro e w3 ⟨rfl, hb3⟩
                have hB3 : Hid (Below w.heap.size w w3) := bel_call hb3 hB1.out hB1.out.size
                clear hb3 hB1 c0 c1 c2 c3 c4 c5 hA1 HR1 HCC
                cases rc
                · have HDE : Hid (O = false) := by unfold Hid; rw [HD2.out]; rfl
                  go_wp2_with fail
                  go_ret
                  exact ⟨by rw [HDE.out]; rfl, hB3.out⟩
                · have HDE : Hid (O = rtL (n.args.drop (i + 1)) (lv - 1)) := by unfold Hid; rw [HD2.out]; rfl
                  go_wp2_with fail
                  go_roundg (gk - 1)
                  case measure => omega
                  case rel => exact ⟨i + 1, by omega, by go_num, HDE.out, hB3.out⟩
              · obtain rfl : i = len := by omega
                have hli : ¬ (i : Int) < (i : Int) := by omega
                have HDE : Hid (O = true) := by
                  unfold Hid
                  rw [HD.out, List.drop_eq_nil_of_le (by rw [HAL.out]; exact Nat.le_refl _), rtL]
                go_wp2_with fail
                go_ret
                exact ⟨by rw [HDE.out]; rfl, HBL.out⟩
theorem right_any : ∀ d, RightC d
  | 0 => right_s 0 (fun d' h => by omega)
  | d + 1 => right_s (d + 1) (fun d' h => (show d = d' from by omega) ▸ right_any d)
set_option maxRecDepth 100000 in
set_option maxHeartbeats 1000000 in
theorem Right_any (d : Nat) (n : Nd) (p : Option Addr) (len cap : Nat) (w : World) (h : RdT w w.heap.size d n p len) (hok : OkN n) : Calls Tryd.prog 20 #[.agg (ndA n p len cap)] w fun e w' => e = .returned (.bool (rtN n 64)) ∧ Below w.heap.size w w' := by
  have hAB : Below w.heap.size w (w.alloc (.cells (ndA n p len cap) tPn)) := by (repeat' (first | (with_reducible exact Below.refl _ _) | (with_reducible assumption) | (with_reducible refine Below.alloc ?_ ?_ _) | (with_reducible refine bel_drewN ?_ _) | (with_reducible refine Below.drew ?_) | (with_reducible refine Below.setCell ?_ ?_ _) | (with_reducible refine bel_call ‹_› ?_ ?_) | go_size))
  have hA0 : Hid (NdB tPn (w.alloc (.cells (ndA n p len cap) tPn)) w.heap.size n p len cap) := heap_alloc_new w _
  have HR := Lib.hid (right_any d n p len cap 64 (w.alloc (.cells (ndA n p len cap) tPn)) ((h.below hAB).mono hAB.size) hok (by omega) (by omega))
  rw [ndA_eq] at HR ⊢
  clear h hok
  go_enter Tryd.func20, Tryd.ntmps20
  go_upto_region 1 with fail
  have e0 : w.alloc (.cells #[.int .i64 n.kind, .int .i64 n.num, .string ⟨n.text.toArray⟩, .int .i64 n.frm, .int .i64 n.tor, .slice p len cap] tPn) = w.alloc (.cells (ndA n p len cap) tPn) := rfl
  rw [e0]
  clear e0
  generalize w.alloc (.cells (ndA n p len cap) tPn) = w0 at hA0 hAB HR ⊢
  obtain ⟨c0, c1, c2, c3, c4, c5⟩ := hA0.out.cells
  go_wp2_with fail
  refine HR.out.mono ?_
  rintro e w1 ⟨rfl, hb⟩
  go_wp2_with fail
  go_ret
  exact ⟨rfl, bel_call hb hAB hAB.size⟩
end Go.Proofs.YtfkfajgfkgeicaaDoor
