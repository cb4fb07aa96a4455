/- Trees over cells by stamps: which may be: the program's right, Right. Printed by gen_tnb.py. -/
import Derived.Test.YtljloggbfmnjmaaDoorTnA
import Derived.Test.YtljloggbfmnjmaaDoorTreC
import Derived.Test.YtljloggbfmnjmaaDoorBinF
import Derived.Test.YtljloggbfmnjmaaDoorBlk
import Derived.Deep.CutBlock
set_option linter.unusedSimpArgs false
set_option linter.unusedVariables false
namespace Go.Proofs.YtljloggbfmnjmaaDoor
open Go.RowKit Go.Joins

/-- A cell by stamps. -/
abbrev Rfp := Idp × Idp
def rfE (x : Rfp) : List Value := [.int .u64 x.1.1, .int .i64 x.1.2, .int .u64 x.2.1, .int .i64 x.2.2]
abbrev Bn := Tn Rfp
def loK (k : Int) : Nat := if k = 5 then 1 else if k = 6 then 2 else 0
def hiK (k : Int) : Nat := if k = 5 then 1 else if k = 6 then 2 else if k = 7 then 16 else 0
def arB (k : Int) (len : Nat) : Bool := decide (loK k ≤ len) && decide (len ≤ hiK k)
section
variable {R : Type}
def tagT (n : Tn R) : Bool := if n.kind = 1 then decide (0 ≤ n.num) else if n.kind = 6 then decide (lvS n.text ≠ 0) else if n.kind = 7 then nameB n.text else true
/-- May a node be, its parts aside? -/
def headT (n : Tn R) (lv : Int) : Bool := decide (1 ≤ lv) && (decide (1 ≤ n.kind) && (decide (n.kind ≤ 8) && arB n.kind n.args.length))
mutual
def rtT : Tn R → Int → Bool
  | .mk k u t f o a, lv => (headT (.mk k u t f o a) lv && tagT (.mk k u t f o a)) && rtTL a (lv - 1)
def rtTL : List (Tn R) → Int → Bool
  | [], _ => true
  | c :: r, lv => rtT c lv && rtTL r lv
end
theorem rtT_eq (n : Tn R) (lv : Int) : rtT n lv = ((headT n lv && tagT n) && rtTL n.args (lv - 1)) := by cases n; rw [rtT]; rfl
theorem rtTL_at {a : List (Tn R)} {i : Nat} {c : Tn R} {lv : Int} (h : a[i]? = some c) : rtTL (a.drop i) lv = (rtT c lv && rtTL (a.drop (i + 1)) lv) := by
  obtain ⟨hi, e⟩ := List.getElem?_eq_some_iff.1 h
  rw [List.drop_eq_getElem_cons hi, rtTL, e]
/-- A tree whose texts and rows are not too great. -/
inductive Sm : Tn R → Prop
  | mk (k u : Int) (t : List UInt8) (f o : R) (a : List (Tn R)) (h1 : t.length ≤ 100000) (h2 : a.length ≤ 100000) (h3 : ∀ c ∈ a, Sm c) : Sm (.mk k u t f o a)
theorem Sm.text {n : Tn R} (h : Sm n) : n.text.length ≤ 100000 := by cases h with | mk k u t f o a h1 h2 h3 => exact h1
theorem Sm.len {n : Tn R} (h : Sm n) : n.args.length ≤ 100000 := by cases h with | mk k u t f o a h1 h2 h3 => exact h2
theorem Sm.child {n c : Tn R} (h : Sm n) (hc : c ∈ n.args) : Sm c := by cases h with | mk k u t f o a h1 h2 h3 => exact h3 c hc
end
/-- A node's cells, one after another. -/
def bnA (n : Bn) (p : Option Addr) (len cap : Nat) : Array Value := #[.int .i64 n.kind, .int .i64 n.num, .string ⟨n.text.toArray⟩, .int .u64 n.frm.1.1, .int .i64 n.frm.1.2, .int .u64 n.frm.2.1, .int .i64 n.frm.2.2, .int .u64 n.tor.1.1, .int .i64 n.tor.1.2, .int .u64 n.tor.2.1, .int .i64 n.tor.2.2, .slice p len cap]
theorem bnA_eq (n : Bn) (p : Option Addr) (len cap : Nat) : Value.agg (bnA n p len cap) = .agg #[.int .i64 n.kind, .int .i64 n.num, .string ⟨n.text.toArray⟩, .int .u64 n.frm.1.1, .int .i64 n.frm.1.2, .int .u64 n.frm.2.1, .int .i64 n.frm.2.2, .int .u64 n.tor.1.1, .int .i64 n.tor.1.2, .int .u64 n.tor.2.1, .int .i64 n.tor.2.2, .slice p len cap] := rfl
theorem bnA_list (n : Bn) (p : Option Addr) (len cap : Nat) : tnC rfE n p len cap = [.int .i64 n.kind, .int .i64 n.num, .string ⟨n.text.toArray⟩, .int .u64 n.frm.1.1, .int .i64 n.frm.1.2, .int .u64 n.frm.2.1, .int .i64 n.frm.2.2, .int .u64 n.tor.1.1, .int .i64 n.tor.1.2, .int .u64 n.tor.2.1, .int .i64 n.tor.2.2, .slice p len cap] := rfl
abbrev okA : Nat → Prop := fun _ => True
set_option maxRecDepth 100000 in
set_option maxHeartbeats 1000000 in
theorem parts_any (k : Int) (w : World) : Calls Tryd.prog 45 #[.int .i64 k] w fun e w' => e = .returned (.tuple #[.int .i64 (loK k : Nat), .int .i64 (hiK k : Nat)]) ∧ w' = w := by
  unfold loK hiK
  by_cases h5 : k = 5
  · subst h5
    go_enter Tryd.func45, Tryd.ntmps45
    go_wp2_with fail
    go_ret2
    exact ⟨rfl, rfl⟩
  · by_cases h6 : k = 6
    · subst h6
      go_enter Tryd.func45, Tryd.ntmps45
      go_wp2_with fail
      go_ret2
      exact ⟨rfl, rfl⟩
    · by_cases h7 : k = 7
      · subst h7
        go_enter Tryd.func45, Tryd.ntmps45
        go_wp2_with fail
        go_ret2
        exact ⟨rfl, rfl⟩
      · rw [if_neg h5, if_neg h6, if_neg h5, if_neg h6, if_neg h7]
        go_enter Tryd.func45, Tryd.ntmps45
        go_wp2_with fail
        go_ret2
        exact ⟨rfl, rfl⟩
def BRightC (d : Nat) : Prop := ∀ (n : Bn) (p : Option Addr) (len cap : Nat) (lv : Int) (w : World), RdQ rfE 12 w okA d n p len → Sm n → -1000 ≤ lv → lv ≤ 1000 → Calls Tryd.prog 30 #[.agg (bnA n p len cap), .int .i64 lv] w fun e w' => e = .returned (.bool (rtT n lv)) ∧ Below w.heap.size w w'
set_option maxRecDepth 100000 in
set_option maxHeartbeats 16000000 in
theorem bright_s (d : Nat) (IH : ∀ d', d = d' + 1 → BRightC d') : BRightC d := by
  intro n p len cap lv w hrd hok hlv0 hlv1
  have hA0 : Hid (BlkC (w.alloc (.cells (bnA n p len cap) tNr)) w.heap.size (bnA n p len cap) tNr) := heap_alloc_new w _
  have hAB : Hid (Below w.heap.size w (w.alloc (.cells (bnA n p len cap) tNr))) := by unfold Hid; (repeat' (first | (with_reducible exact Below.refl _ _) | (with_reducible assumption) | (with_reducible refine Below.alloc ?_ ?_ _) | (with_reducible refine bel_drewN ?_ _) | (with_reducible refine Below.drew ?_) | (with_reducible refine Below.setCell ?_ ?_ _) | (with_reducible refine bel_call ‹_› ?_ ?_) | go_size))
  have HRD := Lib.hid hrd
  have HIH := Lib.hid IH
  have hlen := hok.len
  rw [hrd.len] at hlen
  have HAL := Lib.hid hrd.len
  have HOK := Lib.hid (fun c hc => Sm.child (c := c) hok hc)
  have HPA := Lib.hid (fun W => parts_any n.kind W)
  have HLV := Lib.hid (fun W => level_any ⟨n.text.toArray⟩ W)
  have HNM := Lib.hid (fun W => name_any ⟨n.text.toArray⟩ (by rw [Lib.size_eq]; have := hok.text; simp [maxLen]; omega) W)
  rw [show (⟨n.text.toArray⟩ : ByteArray).data.toList = n.text from rfl] at HLV HNM
  obtain ⟨O, hO⟩ : ∃ O, rtT n lv = O := ⟨_, rfl⟩
  have HO := Lib.hid hO
  rw [hO]
  rw [rtT_eq] at HO
  clear hO
  have HHB : Hid (headT n lv = (decide (1 ≤ lv) && (decide (1 ≤ n.kind) && (decide (n.kind ≤ 8) && (decide (loK n.kind ≤ len) && decide (len ≤ hiK n.kind)))))) := by unfold Hid headT arB; rw [HAL.out]
  have HTG : Hid (tagT n = (if n.kind = 1 then decide (0 ≤ n.num) else if n.kind = 6 then decide (lvS n.text ≠ 0) else if n.kind = 7 then nameB n.text else true)) := rfl
  have hhi : hiK n.kind ≤ 16 := by unfold hiK; split <;> (try split) <;> (try split) <;> omega
  generalize loK n.kind = lo at HPA HHB
  generalize hiK n.kind = hi at HPA HHB hhi
  generalize lvS n.text = ls at HLV HTG
  generalize nameB n.text = nm at HNM HTG
  rw [bnA_eq]
  clear hrd IH hok
  go_enter Tryd.func30, Tryd.ntmps30
  go_upto_region 1 with fail
  have e0 : w.alloc (.cells #[.int .i64 n.kind, .int .i64 n.num, .string ⟨n.text.toArray⟩, .int .u64 n.frm.1.1, .int .i64 n.frm.1.2, .int .u64 n.frm.2.1, .int .i64 n.frm.2.2, .int .u64 n.tor.1.1, .int .i64 n.tor.1.2, .int .u64 n.tor.2.1, .int .i64 n.tor.2.2, .slice p len cap] tNr) = w.alloc (.cells (bnA n p len cap) tNr) := rfl
  rw [e0]
  clear e0
  generalize w.alloc (.cells (bnA n p len cap) tNr) = w0 at hA0 hAB ⊢
  have c0 : w0.cell? ⟨w.heap.size, 0, none⟩ = some (.int .i64 n.kind) := hA0.out.cell 0 _ rfl
  have c1 : w0.cell? ⟨w.heap.size, 1, none⟩ = some (.int .i64 n.num) := hA0.out.cell 1 _ rfl
  have c2 : w0.cell? ⟨w.heap.size, 2, none⟩ = some (.string ⟨n.text.toArray⟩) := hA0.out.cell 2 _ rfl
  have c11 : w0.cell? ⟨w.heap.size, 11, none⟩ = some (.slice p len cap) := hA0.out.cell 11 _ rfl
  go_wp2_with fail
  refine (HPA.out _).mono ?_
  rintro e wx ⟨rfl, hwx⟩
  rw [hwx]
  clear hwx wx HPA
  go_upto_region 2 with fail
  generalize headT n lv = hb at HO HHB
  go_cut [40] (fun v wx => v = .bool (!hb) ∧ wx = w0)
  case first =>
    clear HO HTG HRD HIH HAL HOK HLV HNM
    by_cases h1 : lv < 1
    · have HB : Hid (hb = false) := by unfold Hid; rw [HHB.out]; simp; omega
      go_wp2_with fail
      go_meet
      exact ⟨by rw [HB.out]; rfl, rfl⟩
    · by_cases h2 : n.kind < 1
      · have HB : Hid (hb = false) := by unfold Hid; rw [HHB.out]; simp; omega
        go_wp2_with fail
        go_meet
        exact ⟨by rw [HB.out]; rfl, rfl⟩
      · by_cases h3 : 8 < n.kind
        · have HB : Hid (hb = false) := by unfold Hid; rw [HHB.out]; simp; omega
          go_wp2_with fail
          go_meet
          exact ⟨by rw [HB.out]; rfl, rfl⟩
        · by_cases h4 : len < lo
          · have h4i : (len : Int) < (lo : Int) := by omega
            have HB : Hid (hb = false) := by unfold Hid; rw [HHB.out]; simp; omega
            go_wp2_with fail
            go_meet
            exact ⟨by rw [HB.out]; rfl, rfl⟩
          · have h4i : ¬ (len : Int) < (lo : Int) := by omega
            by_cases h5 : hi < len
            · have h5i : (hi : Int) < (len : Int) := by omega
              have HB : Hid (hb = false) := by unfold Hid; rw [HHB.out]; simp; omega
              go_wp2_with fail
              go_meet
              exact ⟨by rw [HB.out]; rfl, rfl⟩
            · have h5i : ¬ (hi : Int) < (len : Int) := by omega
              have HB : Hid (hb = true) := by unfold Hid; rw [HHB.out]; simp; omega
              go_wp2_with fail
              go_meet
              exact ⟨by rw [HB.out]; rfl, rfl⟩
  case rest =>
  obtain ⟨rfl, rfl⟩ := hcut
  cases hb
  · have HON : Hid (O = false) := by unfold Hid; rw [← HO.out]; rfl
    go_wp2_with fail
    go_ret
    exact ⟨by rw [HON.out]; rfl, hAB.out⟩
  have hlv2 : 1 ≤ lv := by
    have := HHB.out.symm
    simp only [Bool.and_eq_true, decide_eq_true_eq] at this
    exact this.1
  clear HHB
  have HO2 : Hid (O = (tagT n && rtTL (n.args.drop 0) (lv - 1))) := by unfold Hid; rw [← HO.out]; rfl
  clear HO
  go_upto_block 0 with fail
  go_cut [] (fun wx => tagT n = true ∧ Below wc.heap.size wc wx)
  case first =>
    by_cases hk1 : n.kind = 1
    · have b1 : (n.kind == 1) = true := by simpa using hk1
      have HK := Lib.hid hk1
      clear hk1
      by_cases hn0 : n.num < 0
      · have HON : Hid (O = false) := by unfold Hid; rw [HO2.out, HTG.out, if_pos HK.out, decide_eq_false (by omega)]; rfl
        clear HO2 HTG
        go_wp2_with fail
        go_ret
        exact ⟨by rw [HON.out]; rfl, hAB.out⟩
      · have HT : Hid (tagT n = true) := by unfold Hid; rw [HTG.out, if_pos HK.out, decide_eq_true (by omega)]
        clear HO2 HTG
        go_wp2_with fail
        go_meet
        exact ⟨HT.out, Below.refl _ _⟩
    · by_cases hk6 : n.kind = 6
      · have b1 : (n.kind == 1) = false := by simpa using hk1
        have b6 : (n.kind == 6) = true := by simpa using hk6
        have HK := Lib.hid hk6
        have HT0 : Hid (tagT n = decide (ls ≠ 0)) := by unfold Hid; rw [HTG.out, if_neg hk1, if_pos hk6]
        clear hk1 hk6 HTG
        by_cases hls : ls = 0
        · have HON : Hid (O = false) := by unfold Hid; rw [HO2.out, HT0.out, decide_eq_false (fun h => h hls)]; rfl
          subst hls
          clear HO2 HT0
          go_wp2_with fail
          refine (HLV.out _).mono ?_
          rintro e w1 ⟨rfl, hb1⟩
          have hB1 : Hid (Below w.heap.size w w1) := bel_call hb1 hAB.out hAB.out.size
          clear hb1
          go_wp2_with fail
          go_ret
          exact ⟨by rw [HON.out]; rfl, hB1.out⟩
        · have hlsb : (ls == 0) = false := by simpa using hls
          have HT : Hid (tagT n = true) := by unfold Hid; rw [HT0.out, decide_eq_true hls]
          clear HO2 HT0 hls
          go_wp2_with fail
          refine (HLV.out _).mono ?_
          rintro e w1 ⟨rfl, hb1⟩
          have hB1 := Lib.hid hb1
          clear hb1
          go_wp2_with fail
          go_meet
          exact ⟨HT.out, hB1.out⟩
      · by_cases hk7 : n.kind = 7
        · have b1 : (n.kind == 1) = false := by simpa using hk1
          have b6 : (n.kind == 6) = false := by simpa using hk6
          have b7 : (n.kind == 7) = true := by simpa using hk7
          have HT0 : Hid (tagT n = nm) := by unfold Hid; rw [HTG.out, if_neg hk1, if_neg hk6, if_pos hk7]
          clear hk1 hk6 hk7 HTG
          cases nm
          · have HON : Hid (O = false) := by unfold Hid; rw [HO2.out, HT0.out]; rfl
            clear HO2 HT0
            go_wp2_with fail
            refine (HNM.out _).mono ?_
            rintro e w1 ⟨rfl, hb1⟩
            have hB1 : Hid (Below w.heap.size w w1) := bel_call hb1 hAB.out hAB.out.size
            clear hb1
            go_wp2_with fail
            go_ret
            exact ⟨by rw [HON.out]; rfl, hB1.out⟩
          · clear HO2
            go_wp2_with fail
            refine (HNM.out _).mono ?_
            rintro e w1 ⟨rfl, hb1⟩
            have hB1 := Lib.hid hb1
            clear hb1
            go_wp2_with fail
            go_meet
            exact ⟨HT0.out, hB1.out⟩
        · have HT : Hid (tagT n = true) := by unfold Hid; rw [HTG.out, if_neg hk1, if_neg hk6, if_neg hk7]
          have b1 : (n.kind == 1) = false := by simpa using hk1
          have b6 : (n.kind == 6) = false := by simpa using hk6
          have b7 : (n.kind == 7) = false := by simpa using hk7
          clear hk1 hk6 hk7 HTG HO2
          go_wp2_with fail
          go_meet
          exact ⟨HT.out, Below.refl _ _⟩
  case rest =>
  obtain ⟨htg, hbz⟩ := hcut
  have HO3 : Hid (O = rtTL (n.args.drop 0) (lv - 1)) := by unfold Hid; rw [HO2.out, htg]; rfl
  have hAZ := Lib.hid (hA0.out.below hbz)
  have hBZ : Hid (Below w.heap.size w wc) := bel_call hbz hAB.out hAB.out.size
  clear HO2 htg hbz hA0 hAB c0 c1 c2 c11 HTG HLV HNM
  have c11 : wc.cell? ⟨w.heap.size, 11, none⟩ = some (.slice p len cap) := hAZ.out.cell 11 _ rfl
  go_wp2_with fail
  clear c11 hAZ
  go_loopg [63] len (fun g v63 wr => ∃ i : Nat, i + g = len ∧ v63 = .int .i64 i ∧ O = rtTL (n.args.drop i) (lv - 1) ∧ Below w.heap.size w wr)
  case atStart => exact ⟨0, by omega, rfl, HO3.out, hBZ.out⟩
  case round =>
    obtain ⟨i, hig, rfl, hD, hbel⟩ := hrel
    have HD := Lib.hid hD
    have HBL := Lib.hid hbel
    have hzr := hbel.size
    clear hD hbel HO3 hBZ
    by_cases hlt : i < len
    · have hli : (i : Int) < (len : Int) := by omega
      obtain ⟨d', b, off, c, p', l', c', hd, rfl, _, hbN, hc, hrc, hrg⟩ := (HRD.out.below HBL.out).at hlt
      have HC : Hid (BRightC d') := HIH.out d' hd
      have HCO := Lib.hid (HOK.out c (mem_of_at hc))
      have HD2 : Hid (O = (rtT c (lv - 1) && rtTL (n.args.drop (i + 1)) (lv - 1))) := by unfold Hid; rw [HD.out, rtTL_at hc]
      have HRC := Lib.hid hrc
      have HRG := Lib.hid hrg
      clear hc hrc HD hd hrg
      go_upto_region 16 with fail
      refine wp_region_lit ?_
      refine wpList_plain rfl fun K hK => ?_
      go_simp
      refine hK _ _ ?_
      clear hK K
      refine wpList_load_mid (by rfl) _ _ (by rfl) b (off + i * 12) (by rfl) [.int .i64 c.kind, .int .i64 c.num, .string ⟨c.text.toArray⟩, .int .u64 c.frm.1.1, .int .i64 c.frm.1.2, .int .u64 c.frm.2.1, .int .i64 c.frm.2.2, .int .u64 c.tor.1.1, .int .i64 c.tor.1.2, .int .u64 c.tor.2.1, .int .i64 c.tor.2.2, .slice p' l' c'] _ HRG.out Tryd.underlying48 rfl (by kernel_rfl) ?_
      go_simp
      go_upto_region 17 with fail
      have hA1 : Hid (BlkC (wr.alloc (.cells (bnA c p' l' c') tNr)) wr.heap.size (bnA c p' l' c') tNr) := heap_alloc_new wr _
      have hB1 : Hid (Below w.heap.size w (wr.alloc (.cells (bnA c p' l' c') tNr))) := HBL.out.alloc hzr _
      have HR1 : Hid (RdQ rfE 12 (wr.alloc (.cells (bnA c p' l' c') tNr)) okA d' c p' l') := HRC.out.below (by (repeat' (first | (with_reducible exact Below.refl _ _) | (with_reducible assumption) | (with_reducible refine Below.alloc ?_ ?_ _) | (with_reducible refine bel_drewN ?_ _) | (with_reducible refine Below.drew ?_) | (with_reducible refine Below.setCell ?_ ?_ _) | (with_reducible refine bel_call ‹_› ?_ ?_) | go_size)))
      have e1 : wr.alloc (.cells #[.int .i64 c.kind, .int .i64 c.num, .string ⟨c.text.toArray⟩, .int .u64 c.frm.1.1, .int .i64 c.frm.1.2, .int .u64 c.frm.2.1, .int .i64 c.frm.2.2, .int .u64 c.tor.1.1, .int .i64 c.tor.1.2, .int .u64 c.tor.2.1, .int .i64 c.tor.2.2, .slice p' l' c'] tNr) = wr.alloc (.cells (bnA c p' l' c') tNr) := rfl
      rw [e1]
      clear e1 HRC HBL HRG
      generalize wr.alloc (.cells (bnA c p' l' c') tNr) = w2 at hA1 hB1 HR1 ⊢
      generalize wr.heap.size = b2 at hA1 hzr ⊢
      have HCC := Lib.hid (HC.out c p' l' c' (lv - 1) w2 HR1.out HCO.out (by omega) (by omega))
      rw [bnA_eq] at HCC
      generalize rtT c (lv - 1) = rc at HCC HD2
      clear HC
      refine wp_region_lit ?_
      refine wpList_load_mid (by rfl) _ _ (by rfl) b2 0 (by rfl) [.int .i64 c.kind, .int .i64 c.num, .string ⟨c.text.toArray⟩, .int .u64 c.frm.1.1, .int .i64 c.frm.1.2, .int .u64 c.frm.2.1, .int .i64 c.frm.2.2, .int .u64 c.tor.1.1, .int .i64 c.tor.1.2, .int .u64 c.tor.2.1, .int .i64 c.tor.2.2, .slice p' l' c'] _ (block_range hA1.out [.int .i64 c.kind, .int .i64 c.num, .string ⟨c.text.toArray⟩, .int .u64 c.frm.1.1, .int .i64 c.frm.1.2, .int .u64 c.frm.2.1, .int .i64 c.frm.2.2, .int .u64 c.tor.1.1, .int .i64 c.tor.1.2, .int .u64 c.tor.2.1, .int .i64 c.tor.2.2, .slice p' l' c'] rfl) Tryd.underlying48 rfl (by kernel_rfl) ?_
      go_simp
      go_wp2_with fail
      refine HCC.out.mono ?_
      rintro e w3 ⟨rfl, hb3⟩
      have hB3 : Hid (Below w.heap.size w w3) := bel_call hb3 hB1.out hB1.out.size
      clear hb3 hB1 hA1 HR1 HCC
      cases rc
      · have HDE : Hid (O = false) := by unfold Hid; rw [HD2.out]; rfl
        go_wp2_with fail
        go_ret
        exact ⟨by rw [HDE.out]; rfl, hB3.out⟩
      · have HDE : Hid (O = rtTL (n.args.drop (i + 1)) (lv - 1)) := by unfold Hid; rw [HD2.out]; rfl
        go_wp2_with fail
        go_roundg (gk - 1)
        case measure => omega
        case rel => exact ⟨i + 1, by omega, by go_num, HDE.out, hB3.out⟩
    · obtain rfl : i = len := by omega
      have hli : ¬ (i : Int) < (i : Int) := by omega
      have HDE : Hid (O = true) := by
        unfold Hid
        rw [HD.out, List.drop_eq_nil_of_le (by rw [HAL.out]; exact Nat.le_refl _), rtTL]
      clear HD
      go_wp2_with fail
      go_ret
      exact ⟨by rw [HDE.out]; rfl, HBL.out⟩
theorem bright_any : ∀ d, BRightC d
  | 0 => bright_s 0 (fun d' h => by omega)
  | d + 1 => bright_s (d + 1) (fun d' h => (show d = d' from by omega) ▸ bright_any d)
set_option maxRecDepth 100000 in
set_option maxHeartbeats 1000000 in
theorem BRight_any (d : Nat) (n : Bn) (p : Option Addr) (len cap : Nat) (w : World) (h : RdQ rfE 12 w okA d n p len) (hok : Sm n) : Calls Tryd.prog 19 #[.agg (bnA n p len cap)] w fun e w' => e = .returned (.bool (rtT n 64)) ∧ Below w.heap.size w w' := by
  have hA0 : Hid (BlkC (w.alloc (.cells (bnA n p len cap) tNr)) w.heap.size (bnA n p len cap) tNr) := heap_alloc_new w _
  have hAB : Hid (Below w.heap.size w (w.alloc (.cells (bnA n p len cap) tNr))) := by unfold Hid; (repeat' (first | (with_reducible exact Below.refl _ _) | (with_reducible assumption) | (with_reducible refine Below.alloc ?_ ?_ _) | (with_reducible refine bel_drewN ?_ _) | (with_reducible refine Below.drew ?_) | (with_reducible refine Below.setCell ?_ ?_ _) | (with_reducible refine bel_call ‹_› ?_ ?_) | go_size))
  have HCC := Lib.hid (bright_any d n p len cap 64 (w.alloc (.cells (bnA n p len cap) tNr)) (h.below (by (repeat' (first | (with_reducible exact Below.refl _ _) | (with_reducible assumption) | (with_reducible refine Below.alloc ?_ ?_ _) | (with_reducible refine bel_drewN ?_ _) | (with_reducible refine Below.drew ?_) | (with_reducible refine Below.setCell ?_ ?_ _) | (with_reducible refine bel_call ‹_› ?_ ?_) | go_size)))) hok (by omega) (by omega))
  rw [bnA_eq] at HCC
  rw [bnA_eq]
  clear h
  generalize rtT n 64 = O at HCC ⊢
  go_enter Tryd.func19, Tryd.ntmps19
  go_upto_region 1 with fail
  have e0 : w.alloc (.cells #[.int .i64 n.kind, .int .i64 n.num, .string ⟨n.text.toArray⟩, .int .u64 n.frm.1.1, .int .i64 n.frm.1.2, .int .u64 n.frm.2.1, .int .i64 n.frm.2.2, .int .u64 n.tor.1.1, .int .i64 n.tor.1.2, .int .u64 n.tor.2.1, .int .i64 n.tor.2.2, .slice p len cap] tNr) = w.alloc (.cells (bnA n p len cap) tNr) := rfl
  rw [e0]
  clear e0
  generalize w.alloc (.cells (bnA n p len cap) tNr) = w0 at hA0 hAB HCC ⊢
  refine wp_region_lit ?_
  refine wpList_load_mid (by rfl) _ _ (by rfl) w.heap.size 0 (by rfl) [.int .i64 n.kind, .int .i64 n.num, .string ⟨n.text.toArray⟩, .int .u64 n.frm.1.1, .int .i64 n.frm.1.2, .int .u64 n.frm.2.1, .int .i64 n.frm.2.2, .int .u64 n.tor.1.1, .int .i64 n.tor.1.2, .int .u64 n.tor.2.1, .int .i64 n.tor.2.2, .slice p len cap] _ (block_range hA0.out [.int .i64 n.kind, .int .i64 n.num, .string ⟨n.text.toArray⟩, .int .u64 n.frm.1.1, .int .i64 n.frm.1.2, .int .u64 n.frm.2.1, .int .i64 n.frm.2.2, .int .u64 n.tor.1.1, .int .i64 n.tor.1.2, .int .u64 n.tor.2.1, .int .i64 n.tor.2.2, .slice p len cap] rfl) Tryd.underlying48 rfl (by kernel_rfl) ?_
  go_simp
  go_wp2_with fail
  refine HCC.out.mono ?_
  rintro e w3 ⟨rfl, hb3⟩
  have hB3 : Hid (Below w.heap.size w w3) := bel_call hb3 hAB.out hAB.out.size
  clear hb3 HCC
  go_wp2_with fail
  go_ret
  exact ⟨rfl, hB3.out⟩
end Go.Proofs.YtljloggbfmnjmaaDoor
