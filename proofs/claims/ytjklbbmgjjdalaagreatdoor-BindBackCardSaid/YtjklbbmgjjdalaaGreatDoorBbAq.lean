/- The walk of BindBack. Printed by gen_bkj.py. Printed by gen_bfm.py. -/
import Derived.Test.YtjklbbmgjjdalaaGreatDoorBbAm
import Derived.Deep.CutBlock
import Derived.Deep.DeepCutAuto
import Derived.Deep.LoopGhost
import Derived.Test.YtjklbbmgjjdalaaGreatDoorBbAo
import Derived.Test.YtjklbbmgjjdalaaGreatDoorBbAp
set_option linter.unusedSimpArgs false
set_option linter.unusedVariables false
namespace Go.Proofs.YtjklbbmgjjdalaaGreatDoor.Bd
open Go.RowKit Go.Joins
def FltAt (w0 : World) (L : List Idp) (v : Value) (wx : World) : Prop := wx.ownsRow w0.heap.size tId 2 v L.length (L.flatMap idE) ∧ Below w0.heap.size w0 wx
set_option maxRecDepth 100000 in
set_option maxHeartbeats 16000000 in
theorem back_walk (l1 l2 : List Idp) (p1 : Option Addr) (n1 c1 : Nat) (p2 : Option Addr) (n2 c2 : Nat) (s : ByteArray) (w : World)
    (h1 : RdG idE 2 w p1 n1 l1) (h2 : RdG idE 2 w p2 n2 l2) (hn1 : n1 ≤ 9223372036854775807) (hn2 : n2 ≤ 9223372036854775807) (hp1 : ∀ x ∈ l1, 0 ≤ x.1) (hp2 : ∀ x ∈ l2, 0 ≤ x.1) :
    Calls Tryz.prog 4 #[.slice p1 n1 c1, .slice p2 n2 c2, .string s] w fun e w' => e = .returned (.bool true) ∧ Below w.heap.size w w' := by
  obtain ⟨i0, hyi, hy0, hy1, hy2⟩ := info_of info_id
  have HAW := Lib.hid (fun W => awake_any W)
  have HRE := Lib.hid (fun W => lread_x s W)
  have HR1 := Lib.hid h1
  have HR2 := Lib.hid h2
  have HP1 := Lib.hid hp1
  have HP2 := Lib.hid hp2
  have HN12 := Lib.hid (And.intro hn1 hn2)
  clear h1 h2 hp1 hp2
  go_enter Tryz.func4, Tryz.ntmps4
  go_wp2_with fail
  refine (HRE.out w).mono ?_
  rintro e w1 ⟨⟨n, q, len, cq, B, rfl, hk⟩, hb⟩
  have HB1 : Hid (Below w.heap.size w w1) := hb
  have HK := Lib.hid hk
  clear hb hk HRE
  rw [show Value.agg (ndA n q len cq) = .agg #[.int .i64 n.kind, .int .i64 n.num, .string ⟨n.text.toArray⟩, .int .i64 n.frm, .int .i64 n.tor, .slice q len cq] from rfl]
  go_upto_region 2 with fail
  have e1 : w1.alloc (.cells #[.int .i64 n.kind, .int .i64 n.num, .string ⟨n.text.toArray⟩, .int .i64 n.frm, .int .i64 n.tor, .slice q len cq] tRn) = w1.alloc (.cells (ndA n q len cq) tRn) := rfl
  rw [e1]
  clear e1
  have HX2 : Hid (BlkC (w1.alloc (.cells (ndA n q len cq) tRn)) w1.heap.size (ndA n q len cq) tRn) := heap_alloc_new w1 _
  have hbn : Below w1.heap.size w1 (w1.alloc (.cells (ndA n q len cq) tRn)) := (Below.refl _ _).alloc (Nat.le_refl _) _
  have HB2 : Hid (Below w.heap.size w (w1.alloc (.cells (ndA n q len cq) tRn))) := bel_call hbn HB1.out HB1.out.size
  have HBN := Lib.hid hbn
  clear hbn
  by_cases hG : 300 < s.size
  · have hG2 : (300 : Int) < (s.size : Int) := by omega
    clear HX2 HBN HK
    generalize w1.alloc (.cells (ndA n q len cq) tRn) = w2 at HB2 ⊢
    go_wp2_with fail
    refine (HAW.out _).mono ?_
    rintro e w3 ⟨rfl, hb⟩
    have hB3 := bel_call hb HB2.out HB2.out.size
    go_wp2_with fail
    go_ret
    exact ⟨rfl, hB3⟩
  have hG2 : ¬ (300 : Int) < (s.size : Int) := by omega
  cases B with
  | false =>
    clear HX2 HBN HK
    generalize w1.alloc (.cells (ndA n q len cq) tRn) = w2 at HB2 ⊢
    go_wp2_with fail
    refine (HAW.out _).mono ?_
    rintro e w3 ⟨rfl, hb⟩
    have hB3 := bel_call hb HB2.out HB2.out.size
    go_wp2_with fail
    go_ret
    exact ⟨rfl, hB3⟩
  | true =>
  obtain ⟨hln, hfm, hok, hcn, hwt, hdp, ⟨htx, hcn2⟩, hrd⟩ := HK.out rfl
  obtain ⟨d, hd⟩ : ∃ d, dpN n = d := ⟨_, rfl⟩
  have HRN : Hid (RdT (w1.alloc (.cells (ndA n q len cq) tRn)) w1.heap.size d n q len) := ((hrd d (by omega)).rdT (fun b h => h.2)).below HBN.out
  have HFM := Lib.hid hfm
  have HOK := Lib.hid hok
  have HCN := Lib.hid hcn
  have HWT := Lib.hid hwt
  have HDP := Lib.hid hdp
  have HTX := Lib.hid (And.intro htx hcn2)
  have hz2 := HBN.out.size
  clear HK HBN hln hfm hok hcn hwt hdp htx hcn2 hrd hd HB1 hG
  generalize w1.alloc (.cells (ndA n q len cq) tRn) = w2 at HX2 HB2 HRN hz2 ⊢
  generalize w1.heap.size = gX at HX2 HRN hz2 ⊢
  have hgX := lt_some HX2.out
  have HBB1 : Hid (Below w.heap.size w w2) := HB2.out
  go_upto_block 0 with fail
  go_cut [9] (fun vo wx => FltAt w2 (fltL l1) vo wx)
  case first =>
    go_wp2_with fail
    go_loopg [9, 11] 60 (fun g vo vi wr => ∃ (i : Nat) (out : List Idp), i + g = 60 ∧ vi = .int .i64 i ∧ i ≤ n1 ∧ (l1.take i).filter rtI = out ∧ out.length ≤ i ∧ wr.ownsRow w2.heap.size tId 2 vo out.length (out.flatMap idE) ∧ Below w2.heap.size w2 wr)
    case atStart => exact ⟨0, [], by omega, rfl, by omega, rfl, by simp, World.ownsRow_nil _ _ _ _, Below.refl _ _⟩
    case round =>
      obtain ⟨i, out, hig, rfl, hin, hout, hol, hown, hbel⟩ := hrel
      have HO := Lib.hid hown
      have HOUT := Lib.hid hout
      have HBL := Lib.hid hbel
      have hzr := hbel.size
      clear hown hbel hout
      by_cases hlt : i < n1 ∧ i < 60
      · obtain ⟨hlt, h60⟩ := hlt
        have hli : (i : Int) < (n1 : Int) := by omega
        have h60i : (i : Int) < 60 := by omega
        have hlen := HR1.out.1
        obtain ⟨b, off, rfl, hb, hx⟩ := HR1.out.some hlt
        obtain ⟨x, hxi⟩ : ∃ x, l1[i]? = some x := ⟨_, List.getElem?_eq_getElem (by omega)⟩
        have hb2 : b < wr.heap.size := by have := HBB1.out.size; omega
        have q0 := ((HBB1.out.trans (HBL.out.mono HBB1.out.size)).cell (p := ⟨b, off + i * 2, none⟩) hb).trans (hx i x hxi 0 _ rfl)
        have q1 := ((HBB1.out.trans (HBL.out.mono HBB1.out.size)).cell (p := ⟨b, off + i * 2 + 1, none⟩) hb).trans (hx i x hxi 1 _ rfl)
        have HST : Hid ((l1.take (i + 1)).filter rtI = out ++ (if rtI x then [x] else [])) := by unfold Hid; rw [flt_step hxi, HOUT.out]
        have HC := Lib.hid (rsright_any x (HP1.out x (List.mem_of_getElem? hxi)) wr)
        clear hx hxi hlen
        obtain ⟨r, hr⟩ : ∃ r, rtI x = r := ⟨_, rfl⟩
        rw [hr] at HC HST
        clear hr
        go_wp2_with fail
        refine HC.out.mono ?_
        rintro e w1 ⟨rfl, hb1⟩
        have q0 := (hb1.cell (p := ⟨b, off + i * 2, none⟩) hb2).trans q0
        have q1 := (hb1.cell (p := ⟨b, off + i * 2 + 1, none⟩) hb2).trans q1
        have HO1 := Lib.hid (row_below HO.out hb1)
        have HB1 : Hid (Below w2.heap.size w2 w1) := bel_call hb1 HBL.out hzr
        have hz1' : w2.heap.size ≤ w1.heap.size := Nat.le_trans hzr hb1.size
        clear hb1 HC HO HBL
        cases r with
        | true =>
          go_wp2_with (at_builtin; refine wpList_append_own _ rfl _ _ _ rfl w2.heap.size tId i0 (.agg #[.int .u64 0, .int .i64 0]) 2 16 Tryz.underlying22 hyi hy0 hy1 hy2 rfl (by decide) _ _ _ rfl (HO1.out.alloc _) ⟨w1.heap.size, 0, none⟩ 1 1 (idE x) rfl rfl ?c1 ?c2 ?c3 ?c4 ?c5 ?_)
          case c1 => first | exact new2 w1 _ _ _ | exact fun j u h => h
          case c2 => exact idE_one _
          case c3 => unfold maxLen; omega
          case c4 => omega
          case c5 => first | omega | (simp; omega)
          intro v' w4 hown4 hgrow4 _
          have hb4 : Hid (Below w2.heap.size w2 w4) := (HB1.out.alloc (by omega) _).grown hgrow4 (by simp; omega) (fun k hk => (HO1.out.lt k hk).1)
          have HF : Hid (w4.ownsRow w2.heap.size tId 2 v' (out ++ [x]).length ((out ++ [x]).flatMap idE)) := by
            unfold Hid
            rw [flat_snoc, List.length_append]
            exact hown4
          clear hown4 hgrow4
          go_wp2_with fail
          go_roundg (gk - 1)
          case measure => omega
          case rel => exact ⟨i + 1, out ++ [x], by omega, by go_num, by omega, by rw [HST.out]; rfl, by simp; omega, HF.out, hb4.out⟩
        | false =>
          go_wp2_with fail
          go_roundg (gk - 1)
          case measure => omega
          case rel => exact ⟨i + 1, out, by omega, by go_num, by omega, by rw [HST.out]; simp, by omega, HO1.out, HB1.out⟩
      · have HE : Hid (fltL l1 = out) := by
          unfold Hid fltL
          rw [← HOUT.out]
          by_cases h1 : i < n1
          · have : i = 60 := by omega
            subst this
            rfl
          · have : i = n1 := by omega
            subst this
            have := HR1.out.1
            rw [List.take_of_length_le (by omega), List.take_of_length_le (by omega)]
        by_cases h1 : i < n1
        · have hli : (i : Int) < (n1 : Int) := by omega
          have h60i : ¬ (i : Int) < 60 := by omega
          go_wp2_with fail
          go_meet
          rw [HE.out]
          exact ⟨HO.out, HBL.out⟩
        · obtain rfl : i = n1 := by omega
          have hli : ¬ (i : Int) < (i : Int) := by omega
          go_wp2_with fail
          go_meet
          rw [HE.out]
          exact ⟨HO.out, HBL.out⟩
  case rest =>
  obtain ⟨hrow1, hbl1⟩ := hcut
  have HRW1 := Lib.hid hrow1
  have HBL1 := Lib.hid hbl1
  have hz3 : w2.heap.size ≤ wc.heap.size := hbl1.size
  clear hrow1 hbl1
  generalize wc = w3 at HRW1 HBL1 hz3 ⊢
  have HBB2 : Hid (Below w.heap.size w w3) := bel_call HBL1.out HBB1.out HBB1.out.size
  go_upto_block 2 with fail
  go_cut [10] (fun vo wx => FltAt w3 (fltL l2) vo wx)
  case first =>
    go_wp2_with fail
    go_loopg [10, 12] 60 (fun g vo vi wr => ∃ (i : Nat) (out : List Idp), i + g = 60 ∧ vi = .int .i64 i ∧ i ≤ n2 ∧ (l2.take i).filter rtI = out ∧ out.length ≤ i ∧ wr.ownsRow w3.heap.size tId 2 vo out.length (out.flatMap idE) ∧ Below w3.heap.size w3 wr)
    case atStart => exact ⟨0, [], by omega, rfl, by omega, rfl, by simp, World.ownsRow_nil _ _ _ _, Below.refl _ _⟩
    case round =>
      obtain ⟨i, out, hig, rfl, hin, hout, hol, hown, hbel⟩ := hrel
      have HO := Lib.hid hown
      have HOUT := Lib.hid hout
      have HBL := Lib.hid hbel
      have hzr := hbel.size
      clear hown hbel hout
      by_cases hlt : i < n2 ∧ i < 60
      · obtain ⟨hlt, h60⟩ := hlt
        have hli : (i : Int) < (n2 : Int) := by omega
        have h60i : (i : Int) < 60 := by omega
        have hlen := HR2.out.1
        obtain ⟨b, off, rfl, hb, hx⟩ := HR2.out.some hlt
        obtain ⟨x, hxi⟩ : ∃ x, l2[i]? = some x := ⟨_, List.getElem?_eq_getElem (by omega)⟩
        have hb2 : b < wr.heap.size := by have := HBB2.out.size; omega
        have q0 := ((HBB2.out.trans (HBL.out.mono HBB2.out.size)).cell (p := ⟨b, off + i * 2, none⟩) hb).trans (hx i x hxi 0 _ rfl)
        have q1 := ((HBB2.out.trans (HBL.out.mono HBB2.out.size)).cell (p := ⟨b, off + i * 2 + 1, none⟩) hb).trans (hx i x hxi 1 _ rfl)
        have HST : Hid ((l2.take (i + 1)).filter rtI = out ++ (if rtI x then [x] else [])) := by unfold Hid; rw [flt_step hxi, HOUT.out]
        have HC := Lib.hid (rsright_any x (HP2.out x (List.mem_of_getElem? hxi)) wr)
        clear hx hxi hlen
        obtain ⟨r, hr⟩ : ∃ r, rtI x = r := ⟨_, rfl⟩
        rw [hr] at HC HST
        clear hr
        go_wp2_with fail
        refine HC.out.mono ?_
        rintro e w1 ⟨rfl, hb1⟩
        have q0 := (hb1.cell (p := ⟨b, off + i * 2, none⟩) hb2).trans q0
        have q1 := (hb1.cell (p := ⟨b, off + i * 2 + 1, none⟩) hb2).trans q1
        have HO1 := Lib.hid (row_below HO.out hb1)
        have HB1 : Hid (Below w3.heap.size w3 w1) := bel_call hb1 HBL.out hzr
        have hz1' : w3.heap.size ≤ w1.heap.size := Nat.le_trans hzr hb1.size
        clear hb1 HC HO HBL
        cases r with
        | true =>
          go_wp2_with (at_builtin; refine wpList_append_own _ rfl _ _ _ rfl w3.heap.size tId i0 (.agg #[.int .u64 0, .int .i64 0]) 2 16 Tryz.underlying22 hyi hy0 hy1 hy2 rfl (by decide) _ _ _ rfl (HO1.out.alloc _) ⟨w1.heap.size, 0, none⟩ 1 1 (idE x) rfl rfl ?c1 ?c2 ?c3 ?c4 ?c5 ?_)
          case c1 => first | exact new2 w1 _ _ _ | exact fun j u h => h
          case c2 => exact idE_one _
          case c3 => unfold maxLen; omega
          case c4 => omega
          case c5 => first | omega | (simp; omega)
          intro v' w4 hown4 hgrow4 _
          have hb4 : Hid (Below w3.heap.size w3 w4) := (HB1.out.alloc (by omega) _).grown hgrow4 (by simp; omega) (fun k hk => (HO1.out.lt k hk).1)
          have HF : Hid (w4.ownsRow w3.heap.size tId 2 v' (out ++ [x]).length ((out ++ [x]).flatMap idE)) := by
            unfold Hid
            rw [flat_snoc, List.length_append]
            exact hown4
          clear hown4 hgrow4
          go_wp2_with fail
          go_roundg (gk - 1)
          case measure => omega
          case rel => exact ⟨i + 1, out ++ [x], by omega, by go_num, by omega, by rw [HST.out]; rfl, by simp; omega, HF.out, hb4.out⟩
        | false =>
          go_wp2_with fail
          go_roundg (gk - 1)
          case measure => omega
          case rel => exact ⟨i + 1, out, by omega, by go_num, by omega, by rw [HST.out]; simp, by omega, HO1.out, HB1.out⟩
      · have HE : Hid (fltL l2 = out) := by
          unfold Hid fltL
          rw [← HOUT.out]
          by_cases h1 : i < n2
          · have : i = 60 := by omega
            subst this
            rfl
          · have : i = n2 := by omega
            subst this
            have := HR2.out.1
            rw [List.take_of_length_le (by omega), List.take_of_length_le (by omega)]
        by_cases h1 : i < n2
        · have hli : (i : Int) < (n2 : Int) := by omega
          have h60i : ¬ (i : Int) < 60 := by omega
          go_wp2_with fail
          go_meet
          rw [HE.out]
          exact ⟨HO.out, HBL.out⟩
        · obtain rfl : i = n2 := by omega
          have hli : ¬ (i : Int) < (i : Int) := by omega
          go_wp2_with fail
          go_meet
          rw [HE.out]
          exact ⟨HO.out, HBL.out⟩
  case rest =>
  obtain ⟨hrow2, hbl2⟩ := hcut
  have HRW2 := Lib.hid hrow2
  have HBL2 := Lib.hid hbl2
  have HRW1' := Lib.hid (row_below HRW1.out hbl2)
  have HB24 : Hid (Below w2.heap.size w2 wc) := bel_call hbl2 HBL1.out HBL1.out.size
  clear hrow2 hbl2 HRW1 HBL1 HBB2 HBB1 HBL2
  generalize wc = w4 at HRW1' HRW2 HB24 ⊢
  obtain ⟨qa, ka, hqa, _, _, hra, _⟩ := RdG.of_own idE_len rfl HRW1'.out
  obtain ⟨qb, kb, hqb, _, _, hrb, _⟩ := RdG.of_own idE_len rfl HRW2.out
  subst hqa
  subst hqb
  have HL1 := Lib.hid (lines_any (fltL l1) qa (fltL l1).length ka w4 hra (by have := flt_len l1; omega))
  have HL2 := Lib.hid (fun W (hW : Below w4.heap.size w4 W) => lines_any (fltL l2) qb (fltL l2).length kb W (hrb.below hW) (by have := flt_len l2; omega))
  have HI1 := Lib.hid (lines_ok HP1.out)
  have HI2 := Lib.hid (lines_ok HP2.out)
  have HU1 := Lib.hid (lines_nodup (fltL l1))
  have HU2 := Lib.hid (lines_nodup (fltL l2))
  have hr1 := linesL_len (fltL l1)
  have hr2 := linesL_len (fltL l2)
  generalize linesL (fltL l1) = R1 at HL1 hr1 HI1 HU1
  generalize linesL (fltL l2) = R2 at HL2 hr2 HI2 HU2
  clear HR1 HR2 HP1 HP2 HN12 hra hrb HRW1' HRW2 hyi hy0 hy1 hy2
  go_wp2_with fail
  refine HL1.out.mono ?_
  rintro e w5 ⟨⟨a1, k1, rfl, hra1⟩, hb5⟩
  have HB5 := Lib.hid hb5
  clear HL1
  go_wp2_with fail
  refine (HL2.out w5 HB5.out).mono ?_
  rintro e w6 ⟨⟨a2, k2, rfl, hra2⟩, hb6⟩
  have HRA1 := Lib.hid (hra1.below hb6)
  have HRA2 := Lib.hid hra2
  have h26 : Below w2.heap.size w2 w6 := bel_call hb6 (bel_call HB5.out HB24.out HB24.out.size) (Nat.le_trans HB24.out.size HB5.out.size)
  have HX6 := Lib.hid (HX2.out.below h26)
  have HRN6 : Hid (RdT w6 gX d n q len) := HRN.out.below (h26.mono hz2)
  have hz6 : gX ≤ w6.heap.size := Nat.le_trans hz2 h26.size
  have HB6 : Hid (Below w.heap.size w w6) := bel_call h26 HB2.out HB2.out.size
  clear hra1 hra2 HB5 hb5 hb6 h26 HX2 HRN HB2 hz2 hgX HL2 HB24
  have HFW : Hid (FewN n) := cn_few HCN.out
  have HSM : Hid (Sm (rfR R1 R2 n)) := sm_rfR R1 R2 HFM.out HWT.out
  have HEQ : Hid (bdE R1 R2 n = 0 → rfR R1 R2 n = bdM R1 R2 n) := fun h => if_pos h
  have HCL := Lib.hid (fun W (hW : Below w6.heap.size w6 W) => cls_any d n q len cq W ((HRN6.out.below (hW.mono hz6)).mono (Nat.le_trans hz6 hW.size)) HOK.out HFW.out)
  have HBF := Lib.hid (fun q' l' c' W (hW : Below w6.heap.size w6 W) (h : Cel.RdT W W.heap.size d n q' l') => bfm_any R1 R2 d n q' l' c' a1 R1.length k1 a2 R2.length k2 W (HRA1.out.below hW) (by omega) (HRA2.out.below hW) (by omega) h HFM.out)
  obtain ⟨X, hX⟩ : ∃ X, rfR R1 R2 n = X := ⟨_, rfl⟩
  obtain ⟨E, hE⟩ : ∃ E, bdE R1 R2 n = E := ⟨_, rfl⟩
  rw [hX] at HSM HEQ HBF
  rw [hE] at HEQ HBF
  have HEE := Lib.hid hE
  clear hX hE
  have c0 : w6.cell? ⟨gX, 0, none⟩ = some (.int .i64 n.kind) := HX6.out.cell 0 (.int .i64 n.kind) rfl
  have c1 : w6.cell? ⟨gX, 1, none⟩ = some (.int .i64 n.num) := HX6.out.cell 1 (.int .i64 n.num) rfl
  have c2 : w6.cell? ⟨gX, 2, none⟩ = some (.string ⟨n.text.toArray⟩) := HX6.out.cell 2 (.string ⟨n.text.toArray⟩) rfl
  have c3 : w6.cell? ⟨gX, 3, none⟩ = some (.int .i64 n.frm) := HX6.out.cell 3 (.int .i64 n.frm) rfl
  have c4 : w6.cell? ⟨gX, 4, none⟩ = some (.int .i64 n.tor) := HX6.out.cell 4 (.int .i64 n.tor) rfl
  have c5 : w6.cell? ⟨gX, 5, none⟩ = some (.slice q len cq) := HX6.out.cell 5 (.slice q len cq) rfl
  have hc1 := Lib.hid (HCL.out w6 (Below.refl _ _))
  rw [show Value.agg (ndA n q len cq) = .agg #[.int .i64 n.kind, .int .i64 n.num, .string ⟨n.text.toArray⟩, .int .i64 n.frm, .int .i64 n.tor, .slice q len cq] from rfl] at hc1
  go_wp2_with fail
  refine hc1.out.mono ?_
  rintro e w7 ⟨⟨q7, k7, rfl, hk⟩, hb⟩
  have hc2 := Lib.hid (HBF.out q7 len k7 w7 hb (Cel.RdP.rdT (fun b h => h.2) hk))
  rw [show Value.agg (Cel.ndA n q7 len k7) = .agg #[.int .i64 n.kind, .int .i64 n.num, .string ⟨n.text.toArray⟩, .int .i64 (cC n.frm), .int .i64 (cR n.frm), .int .i64 (cC n.tor), .int .i64 (cR n.tor), .slice q7 len k7] from rfl] at hc2 ⊢
  have HB7 := Lib.hid hb
  clear hb hk hc1 HBF c0 c1 c2 c3 c4 c5
  go_wp2_with fail
  refine hc2.out.mono ?_
  rintro e w8 ⟨⟨q8, l8, k8, rfl, hq8⟩, hb⟩
  have HB8 : Hid (Below w6.heap.size w6 w8) := bel_call hb HB7.out HB7.out.size
  have HQ8 : Hid (RdQ rfE 12 w8 (fun b => b < w8.heap.size) d X q8 l8) := hq8.weak (fun b h => h.2)
  clear hb hq8 hc2 HB7
  rw [show Value.agg (bnA X q8 l8 k8) = .agg #[.int .i64 X.kind, .int .i64 X.num, .string ⟨X.text.toArray⟩, .int .u64 X.frm.1.1, .int .i64 X.frm.1.2, .int .u64 X.frm.2.1, .int .i64 X.frm.2.2, .int .u64 X.tor.1.1, .int .i64 X.tor.1.2, .int .u64 X.tor.2.1, .int .i64 X.tor.2.2, .slice q8 l8 k8] from rfl]
  go_upto_region 17 with fail
  have e1 : w8.alloc (.cells #[.int .i64 X.kind, .int .i64 X.num, .string ⟨X.text.toArray⟩, .int .u64 X.frm.1.1, .int .i64 X.frm.1.2, .int .u64 X.frm.2.1, .int .i64 X.frm.2.2, .int .u64 X.tor.1.1, .int .i64 X.tor.1.2, .int .u64 X.tor.2.1, .int .i64 X.tor.2.2, .slice q8 l8 k8] tNr) = w8.alloc (.cells (bnA X q8 l8 k8) tNr) := rfl
  rw [e1]
  clear e1
  have hbn : Below w8.heap.size w8 (w8.alloc (.cells (bnA X q8 l8 k8) tNr)) := (Below.refl _ _).alloc (Nat.le_refl _) _
  have HY9 : Hid (BlkC (w8.alloc (.cells (bnA X q8 l8 k8) tNr)) w8.heap.size (bnA X q8 l8 k8) tNr) := heap_alloc_new w8 _
  have HB9 : Hid (Below w6.heap.size w6 (w8.alloc (.cells (bnA X q8 l8 k8) tNr))) := bel_call hbn HB8.out HB8.out.size
  have HQ9 : Hid (RdQ rfE 12 (w8.alloc (.cells (bnA X q8 l8 k8) tNr)) (fun b => b < w8.heap.size) d X q8 l8) := HQ8.out.below hbn
  have hz9 := hbn.size
  clear hbn HB8 HQ8
  generalize w8.alloc (.cells (bnA X q8 l8 k8) tNr) = w9 at HY9 HB9 HQ9 hz9 ⊢
  generalize w8.heap.size = gY at HY9 HQ9 hz9 ⊢
  by_cases hE0 : E = 0
  case neg =>
    have y1 : (E == 0) = false := by simpa using hE0
    have y2 : (E != 0) = true := by simpa using hE0
    have HBw : Hid (Below w.heap.size w w9) := bel_call HB9.out HB6.out HB6.out.size
    clear HY9 HQ9
    go_wp2_with fail
    refine (HAW.out _).mono ?_
    rintro e w10 ⟨rfl, hb⟩
    have hB3 := bel_call hb HBw.out HBw.out.size
    go_wp2_with fail
    go_ret
    exact ⟨rfl, hB3⟩
  subst hE0
  have HXM : Hid (X = bdM R1 R2 n) := HEQ.out rfl
  have HCX : Hid (Cn X) := by unfold Hid; rw [HXM.out]; exact cn_bd HI1.out HI2.out HFM.out HEE.out (txM_S n HTX.out.1)
  have HPL : Hid ((putN X).length ≤ 76800) := by
    unfold Hid
    rw [HXM.out]
    have := put_len R1 R2 n HTX.out.1
    have := HTX.out.2
    omega
  have HTK : Hid (takB (putN X) = some (X, [])) := by unfold Hid; rw [HXM.out]; exact take_put HI1.out HI2.out HFM.out HEE.out HTX.out.1 HDP.out
  have HBK : Hid (bkN R1 R2 X = n) := by unfold Hid; rw [HXM.out, bk_bd R1 R2 R1 R2 n HEE.out]; exact gv_id HU1.out HU2.out HFM.out HEE.out
  have HX9 := Lib.hid (HX6.out.below HB9.out)
  have HBw9 : Hid (Below w.heap.size w w9) := bel_call HB9.out HB6.out HB6.out.size
  have HRA1 := Lib.hid (HRA1.out.below HB9.out)
  have HRA2 := Lib.hid (HRA2.out.below HB9.out)
  have HRN9 : Hid (RdT w9 gX d n q len) := HRN6.out.below (HB9.out.mono hz6)
  have hzX9 : gX ≤ w9.heap.size := Nat.le_trans hz6 HB9.out.size
  clear HEQ HXM HX6 HB6 HB9 HRN6 HEE HCN HWT HDP HTX HI1 HI2 HU1 HU2 HCL hz6
  obtain ⟨PB, hPB⟩ : ∃ PB, putN X = PB := ⟨_, rfl⟩
  have HPB := Lib.hid hPB
  rw [hPB] at HPL HTK
  clear hPB
  have hYlt := lt_some HY9.out
  have hXlt := lt_some HX9.out
  obtain ⟨gw, hgw⟩ : ∃ gw, w9.heap.size = gw := ⟨_, rfl⟩
  have FX := Lib.hid (fun W (hW : Below gw w9 W) => (show BlkC W gX (ndA n q len cq) tRn from (hW.block gX (by omega)).trans HX9.out))
  have FY := Lib.hid (fun W (hW : Below gw w9 W) => (show BlkC W gY (bnA X q8 l8 k8) tNr from (hW.block gY (by omega)).trans HY9.out))
  have FA := Lib.hid (fun W (hW : Below gw w9 W) => (HRA1.out.below (show Below w9.heap.size w9 W by rw [hgw]; exact hW)))
  have FB := Lib.hid (fun W (hW : Below gw w9 W) => (HRA2.out.below (show Below w9.heap.size w9 W by rw [hgw]; exact hW)))
  have FQ := Lib.hid (fun W (hW : Below gw w9 W) => (HQ9.out.below (show Below w9.heap.size w9 W by rw [hgw]; exact hW)))
  have FN := Lib.hid (fun W (hW : Below gw w9 W) => (HRN9.out.below (hW.mono (by omega))).mono (show gX ≤ W.heap.size by have := hW.size; omega))
  have FW := Lib.hid (fun W (hW : Below gw w9 W) => (bel_call (show Below w9.heap.size w9 W by rw [hgw]; exact hW) HBw9.out HBw9.out.size : Below w.heap.size w W))
  obtain ⟨w10, hw10⟩ : ∃ w10, Hid (w9.alloc (.cells #[.slice none 0 0] tWr) = w10) := ⟨_, rfl⟩
  have HB10 : Hid (Below gw w9 w10) := by unfold Hid; rw [← hw10.out, ← hgw]; exact (Below.refl _ _).alloc (Nat.le_refl _) _
  have HWT10 : Hid (Wtr w10 gw gw []) := by
    refine ⟨Nat.le_refl _, .slice none 0 0, ?_, World.ownsRow_nil _ _ _ _, by simp [Value.ownBlock]⟩
    rw [← hw10.out, ← hgw]
    exact heap_alloc_new w9 _
  have hz10 : gw < w10.heap.size := by rw [← hw10.out, World.size_alloc]; omega
  clear HX9 HY9 HRA1 HRA2 HQ9 HRN9 HBw9
  go_upto_region 20 with fail
  first | rw [hw10.out, hgw] | rw [hw10.out]
  clear hw10
  have hYgw : gY < gw := by omega
  have hXgw : gX < gw := by omega
  clear hYlt hXlt hgw hz9 hzX9
  have hc1 := Lib.hid (put_any d gw gw [] X q8 l8 k8 w10 (by omega) (by rw [HPB.out, List.length_nil]; have := HPL.out; omega) HWT10.out ((FQ.out w10 HB10.out).weak (fun b hb => by omega)) HCX.out)
  rw [List.nil_append, HPB.out, show Value.agg (bnA X q8 l8 k8) = .agg #[.int .i64 X.kind, .int .i64 X.num, .string ⟨X.text.toArray⟩, .int .u64 X.frm.1.1, .int .i64 X.frm.1.2, .int .u64 X.frm.2.1, .int .i64 X.frm.2.2, .int .u64 X.tor.1.1, .int .i64 X.tor.1.2, .int .u64 X.tor.2.1, .int .i64 X.tor.2.2, .slice q8 l8 k8] from rfl] at hc1
  have c0 : w10.cell? ⟨gY, 0, none⟩ = some (.int .i64 X.kind) := (FY.out w10 HB10.out).cell 0 (.int .i64 X.kind) rfl
  have c1 : w10.cell? ⟨gY, 1, none⟩ = some (.int .i64 X.num) := (FY.out w10 HB10.out).cell 1 (.int .i64 X.num) rfl
  have c2 : w10.cell? ⟨gY, 2, none⟩ = some (.string ⟨X.text.toArray⟩) := (FY.out w10 HB10.out).cell 2 (.string ⟨X.text.toArray⟩) rfl
  have c3 : w10.cell? ⟨gY, 3, none⟩ = some (.int .u64 X.frm.1.1) := (FY.out w10 HB10.out).cell 3 (.int .u64 X.frm.1.1) rfl
  have c4 : w10.cell? ⟨gY, 4, none⟩ = some (.int .i64 X.frm.1.2) := (FY.out w10 HB10.out).cell 4 (.int .i64 X.frm.1.2) rfl
  have c5 : w10.cell? ⟨gY, 5, none⟩ = some (.int .u64 X.frm.2.1) := (FY.out w10 HB10.out).cell 5 (.int .u64 X.frm.2.1) rfl
  have c6 : w10.cell? ⟨gY, 6, none⟩ = some (.int .i64 X.frm.2.2) := (FY.out w10 HB10.out).cell 6 (.int .i64 X.frm.2.2) rfl
  have c7 : w10.cell? ⟨gY, 7, none⟩ = some (.int .u64 X.tor.1.1) := (FY.out w10 HB10.out).cell 7 (.int .u64 X.tor.1.1) rfl
  have c8 : w10.cell? ⟨gY, 8, none⟩ = some (.int .i64 X.tor.1.2) := (FY.out w10 HB10.out).cell 8 (.int .i64 X.tor.1.2) rfl
  have c9 : w10.cell? ⟨gY, 9, none⟩ = some (.int .u64 X.tor.2.1) := (FY.out w10 HB10.out).cell 9 (.int .u64 X.tor.2.1) rfl
  have c10 : w10.cell? ⟨gY, 10, none⟩ = some (.int .i64 X.tor.2.2) := (FY.out w10 HB10.out).cell 10 (.int .i64 X.tor.2.2) rfl
  have c11 : w10.cell? ⟨gY, 11, none⟩ = some (.slice q8 l8 k8) := (FY.out w10 HB10.out).cell 11 (.slice q8 l8 k8) rfl
  go_wp2_with fail
  refine hc1.out.mono ?_
  rintro e w11 ⟨rfl, hwt, hb, _⟩
  have HB11 : Hid (Below gw w9 w11) := HB10.out.trans hb
  have HWT11 := Lib.hid hwt
  have hz11 := hb.size
  clear hc1 hwt hb HWT10 HB10 c0 c1 c2 c3 c4 c5 c6 c7 c8 c9 c10 c11
  have hc2 := Lib.hid (wdone_any gw gw PB w11 (by have := HPL.out; omega) HWT11.out)
  go_wp2_with fail
  refine hc2.out.mono ?_
  rintro e w12 ⟨p12, k12, rfl, hr12, hb12, _⟩
  have HB12 : Hid (Below gw w9 w12) := HB11.out.trans (hb12.mono (by omega))
  have HWT12 := Lib.hid (HWT11.out.below hb12)
  have hz12 := hb12.size
  have hc3 := Lib.hid (read_any p12 PB.length k12 PB w12 (by have := HPL.out; omega) hr12)
  clear hc2 hr12 hb12 HWT11 HB11
  go_wp2_with fail
  refine hc3.out.mono ?_
  rintro e w13 ⟨rfl, hrd13, hb13⟩
  obtain ⟨gr, hgr⟩ : ∃ gr, w12.heap.size = gr := ⟨_, rfl⟩
  have hgr13 := hrd13.lt
  have hc4 := btake2_any w12.heap.size PB w13 hrd13
  rw [HTK.out] at hc4
  rw [hgr] at hc4 hb13 hgr13 ⊢
  have HC4 := Lib.hid hc4
  have HB13 := Lib.hid hb13
  clear hc3 hc4 hrd13 hb13
  go_wp2_with fail
  refine HC4.out.mono ?_
  rintro e w14 ⟨hoff, q14, k14, rfl, hq14, hr14⟩
  have HB14 : Hid (Below gr w12 w14) := HB13.out.trans (hoff.below (Nat.le_refl _) (by omega))
  have HBG14 : Hid (Below gw w9 w14) := HB12.out.trans (HB14.out.mono (by omega))
  have HWT14 : Hid (Wtr w14 gw gw PB) := HWT12.out.below (by rw [hgr]; exact HB14.out)
  have HQ14 := Lib.hid hq14
  have HR14 := Lib.hid hr14
  have hgr14 := hr14.lt
  clear hoff hq14 hr14 HC4 HB13 HB14 HB12 HWT12 hgr hgr13 hz12 hz11 hz10
  obtain ⟨l14, hl14⟩ : ∃ l, X.args.length = l := ⟨_, rfl⟩
  rw [hl14] at HQ14 ⊢
  clear hl14
  rw [show Value.agg (bnA X q14 l14 k14) = .agg #[.int .i64 X.kind, .int .i64 X.num, .string ⟨X.text.toArray⟩, .int .u64 X.frm.1.1, .int .i64 X.frm.1.2, .int .u64 X.frm.2.1, .int .i64 X.frm.2.2, .int .u64 X.tor.1.1, .int .i64 X.tor.1.2, .int .u64 X.tor.2.1, .int .i64 X.tor.2.2, .slice q14 l14 k14] from rfl]
  go_upto_region 25 with fail
  have e1 : w14.alloc (.cells #[.int .i64 X.kind, .int .i64 X.num, .string ⟨X.text.toArray⟩, .int .u64 X.frm.1.1, .int .i64 X.frm.1.2, .int .u64 X.frm.2.1, .int .i64 X.frm.2.2, .int .u64 X.tor.1.1, .int .i64 X.tor.1.2, .int .u64 X.tor.2.1, .int .i64 X.tor.2.2, .slice q14 l14 k14] tNr) = w14.alloc (.cells (bnA X q14 l14 k14) tNr) := rfl
  rw [e1]
  clear e1
  have hbn : Below w14.heap.size w14 (w14.alloc (.cells (bnA X q14 l14 k14) tNr)) := (Below.refl _ _).alloc (Nat.le_refl _) _
  have HZ15 : Hid (BlkC (w14.alloc (.cells (bnA X q14 l14 k14) tNr)) w14.heap.size (bnA X q14 l14 k14) tNr) := heap_alloc_new w14 _
  have HB15 : Hid (Below gw w9 (w14.alloc (.cells (bnA X q14 l14 k14) tNr))) := HBG14.out.trans (hbn.mono (Nat.le_trans (by have := HWT14.out.lt; omega) (Nat.le_refl _)))
  have HQ15 : Hid (RdQ rfE 12 (w14.alloc (.cells (bnA X q14 l14 k14) tNr)) okA 64 X q14 l14) := HQ14.out.below hbn
  have HR15 := Lib.hid (HR14.out.below hbn)
  have HWT15 := Lib.hid (HWT14.out.below hbn)
  clear hbn HQ14 HR14 HWT14 HBG14
  generalize w14.alloc (.cells (bnA X q14 l14 k14) tNr) = w15 at HZ15 HB15 HQ15 HR15 HWT15 ⊢
  generalize w14.heap.size = gZ at HZ15 hgr14 ⊢
  have c0 : w15.cell? ⟨gX, 0, none⟩ = some (.int .i64 n.kind) := (FX.out w15 HB15.out).cell 0 (.int .i64 n.kind) rfl
  have c1 : w15.cell? ⟨gX, 1, none⟩ = some (.int .i64 n.num) := (FX.out w15 HB15.out).cell 1 (.int .i64 n.num) rfl
  have c2 : w15.cell? ⟨gX, 2, none⟩ = some (.string ⟨n.text.toArray⟩) := (FX.out w15 HB15.out).cell 2 (.string ⟨n.text.toArray⟩) rfl
  have c3 : w15.cell? ⟨gX, 3, none⟩ = some (.int .i64 n.frm) := (FX.out w15 HB15.out).cell 3 (.int .i64 n.frm) rfl
  have c4 : w15.cell? ⟨gX, 4, none⟩ = some (.int .i64 n.tor) := (FX.out w15 HB15.out).cell 4 (.int .i64 n.tor) rfl
  have c5 : w15.cell? ⟨gX, 5, none⟩ = some (.slice q len cq) := (FX.out w15 HB15.out).cell 5 (.slice q len cq) rfl
  have x0 : w15.cell? ⟨gY, 0, none⟩ = some (.int .i64 X.kind) := (FY.out w15 HB15.out).cell 0 (.int .i64 X.kind) rfl
  have x1 : w15.cell? ⟨gY, 1, none⟩ = some (.int .i64 X.num) := (FY.out w15 HB15.out).cell 1 (.int .i64 X.num) rfl
  have x2 : w15.cell? ⟨gY, 2, none⟩ = some (.string ⟨X.text.toArray⟩) := (FY.out w15 HB15.out).cell 2 (.string ⟨X.text.toArray⟩) rfl
  have x3 : w15.cell? ⟨gY, 3, none⟩ = some (.int .u64 X.frm.1.1) := (FY.out w15 HB15.out).cell 3 (.int .u64 X.frm.1.1) rfl
  have x4 : w15.cell? ⟨gY, 4, none⟩ = some (.int .i64 X.frm.1.2) := (FY.out w15 HB15.out).cell 4 (.int .i64 X.frm.1.2) rfl
  have x5 : w15.cell? ⟨gY, 5, none⟩ = some (.int .u64 X.frm.2.1) := (FY.out w15 HB15.out).cell 5 (.int .u64 X.frm.2.1) rfl
  have x6 : w15.cell? ⟨gY, 6, none⟩ = some (.int .i64 X.frm.2.2) := (FY.out w15 HB15.out).cell 6 (.int .i64 X.frm.2.2) rfl
  have x7 : w15.cell? ⟨gY, 7, none⟩ = some (.int .u64 X.tor.1.1) := (FY.out w15 HB15.out).cell 7 (.int .u64 X.tor.1.1) rfl
  have x8 : w15.cell? ⟨gY, 8, none⟩ = some (.int .i64 X.tor.1.2) := (FY.out w15 HB15.out).cell 8 (.int .i64 X.tor.1.2) rfl
  have x9 : w15.cell? ⟨gY, 9, none⟩ = some (.int .u64 X.tor.2.1) := (FY.out w15 HB15.out).cell 9 (.int .u64 X.tor.2.1) rfl
  have x10 : w15.cell? ⟨gY, 10, none⟩ = some (.int .i64 X.tor.2.2) := (FY.out w15 HB15.out).cell 10 (.int .i64 X.tor.2.2) rfl
  have x11 : w15.cell? ⟨gY, 11, none⟩ = some (.slice q8 l8 k8) := (FY.out w15 HB15.out).cell 11 (.slice q8 l8 k8) rfl
  have A0 := Kept.at c0
  have A1 := Kept.at c1
  have A2 := Kept.at c2
  have A3 := Kept.at c3
  have A4 := Kept.at c4
  have A5 := Kept.at c5
  have D0 := Kept.at x0
  have D1 := Kept.at x1
  have D2 := Kept.at x2
  have D3 := Kept.at x3
  have D4 := Kept.at x4
  have D5 := Kept.at x5
  have D6 := Kept.at x6
  have D7 := Kept.at x7
  have D8 := Kept.at x8
  have D9 := Kept.at x9
  have D10 := Kept.at x10
  have D11 := Kept.at x11
  have HWB := Lib.hid (fun W (hW : Below w15.heap.size w15 W) => (HB15.out.trans (hW.mono (by have := HWT15.out.lt; omega)) : Below gw w9 W))
  have kb0 : Hid (Below w15.heap.size w15 w15.drew) := Below.drew (Below.refl _ _)
  refine Sx.wp_region_sched (fun wx => ∃ x : Kept w15.heap.size w15, wx = x.v) [([0, 1, 2, 3, 4, 5, 6, 8], 7), ([], 9), ([], 10), ([11, 14], 12), ([13], 15), ([], 16), ([17, 18, 19, 20, 21, 22, 23, 24, 25], 26), ([27, 28, 29], 30), ([31, 32], 33)] [34, 35] (by kernel_rfl) (by kernel_rfl) (by kernel_rfl) rfl (kept_drew _ _ (Nat.le_refl _)) ?_
  (unfold Sx.wpSeg; simp only [pick_nil, pick_cons, nthO_zero, nthO_succ, List.append])
  clear c0 c1 c2 c3 c4 c5 x0 x1 x2 x3 x4 x5 x6 x7 x8 x9 x10 x11
  repeat (go_big_quiet_step (fail))
  refine wpQuiet_nil ?_
  have hc1 := Lib.hid (bback_any R1 R2 hr1 hr2 d X q8 l8 k8 a1 R1.length k1 a2 R2.length k2 w15.drew (FA.out _ (HWB.out _ kb0.out)) (by omega) (FB.out _ (HWB.out _ kb0.out)) (by omega) ((FQ.out _ (HWB.out _ kb0.out)).weak (fun b h => by have := (HWB.out _ kb0.out).size; have := HWT15.out.lt; have := kb0.out.size; omega)) HSM.out)
  rw [HBK.out, show Value.agg (bnA X q8 l8 k8) = .agg #[.int .i64 X.kind, .int .i64 X.num, .string ⟨X.text.toArray⟩, .int .u64 X.frm.1.1, .int .i64 X.frm.1.2, .int .u64 X.frm.2.1, .int .i64 X.frm.2.2, .int .u64 X.tor.1.1, .int .i64 X.tor.1.2, .int .u64 X.tor.2.1, .int .i64 X.tor.2.2, .slice q8 l8 k8] from rfl] at hc1
  go_wp2_with fail
  refine hc1.out.mono ?_
  rintro e y1 ⟨⟨q21, l21, k21, rfl, hk⟩, hb⟩
  have kb1 : Hid (Below w15.heap.size w15 y1) := bel_call hb kb0.out kb0.out.size
  have HV1 : Hid (Cel.RdT y1 y1.heap.size d n q21 l21) := Cel.RdP.rdT (fun b h => h.2) hk
  rw [show Value.agg (Cel.ndA n q21 l21 k21) = .agg #[.int .i64 n.kind, .int .i64 n.num, .string ⟨n.text.toArray⟩, .int .i64 (cC n.frm), .int .i64 (cR n.frm), .int .i64 (cC n.tor), .int .i64 (cR n.tor), .slice q21 l21 k21] from rfl]
  clear hb hk hc1
  go_wp2_with fail
  refine ⟨rfl, ⟨⟨y1, kb1.out⟩, rfl⟩, (fun wx => ∃ x : Kept w15.heap.size w15, wx = x.v), fun _ h => h, ⟨⟨y1, kb1.out⟩, rfl⟩, ?_⟩
  (unfold Sx.wpSeg; simp only [pick_nil, pick_cons, nthO_zero, nthO_succ, List.append])
  refine wpQuiet_nil ?_
  have hc2 := Lib.hid (cls_any d n q len cq y1 (FN.out _ (HWB.out _ kb1.out)) HOK.out HFW.out)
  rw [show Value.agg (ndA n q len cq) = .agg #[.int .i64 n.kind, .int .i64 n.num, .string ⟨n.text.toArray⟩, .int .i64 n.frm, .int .i64 n.tor, .slice q len cq] from rfl] at hc2
  go_wp2_with fail
  refine hc2.out.mono ?_
  rintro e y2 ⟨⟨q22, k22, rfl, hk⟩, hb⟩
  have kb2 : Hid (Below w15.heap.size w15 y2) := bel_call hb kb1.out kb1.out.size
  have hc3 := Lib.hid (Cel.same1_any d d n q21 q22 l21 k21 len k22 y2 ((HV1.out.below hb).mono hb.size) (Cel.RdP.rdT (fun b h => h.2) hk) HFW.out)
  rw [show Value.agg (Cel.ndA n q21 l21 k21) = .agg #[.int .i64 n.kind, .int .i64 n.num, .string ⟨n.text.toArray⟩, .int .i64 (cC n.frm), .int .i64 (cR n.frm), .int .i64 (cC n.tor), .int .i64 (cR n.tor), .slice q21 l21 k21] from rfl, show Value.agg (Cel.ndA n q22 len k22) = .agg #[.int .i64 n.kind, .int .i64 n.num, .string ⟨n.text.toArray⟩, .int .i64 (cC n.frm), .int .i64 (cR n.frm), .int .i64 (cC n.tor), .int .i64 (cR n.tor), .slice q22 len k22] from rfl] at hc3
  rw [show Value.agg (Cel.ndA n q22 len k22) = .agg #[.int .i64 n.kind, .int .i64 n.num, .string ⟨n.text.toArray⟩, .int .i64 (cC n.frm), .int .i64 (cR n.frm), .int .i64 (cC n.tor), .int .i64 (cR n.tor), .slice q22 len k22] from rfl]
  clear hb hk hc2 HV1
  go_wp2_with fail
  refine ⟨rfl, ⟨⟨y2, kb2.out⟩, rfl⟩, (fun wx => ∃ x : Kept w15.heap.size w15, wx = x.v), fun _ h => h, ⟨⟨y2, kb2.out⟩, rfl⟩, ?_⟩
  (unfold Sx.wpSeg; simp only [pick_nil, pick_cons, nthO_zero, nthO_succ, List.append])
  refine wpQuiet_nil ?_
  go_wp2_with fail
  refine hc3.out.mono ?_
  rintro e y3 ⟨rfl, hb⟩
  have kb3 : Hid (Below w15.heap.size w15 y3) := bel_call hb kb2.out kb2.out.size
  clear hb hc3
  go_wp2_with fail
  refine ⟨rfl, ⟨⟨y3, kb3.out⟩, rfl⟩, (fun wx => ∃ x : Kept w15.heap.size w15, wx = x.v), fun _ h => h, ⟨⟨y3, kb3.out⟩, rfl⟩, ?_⟩
  (unfold Sx.wpSeg; simp only [pick_nil, pick_cons, nthO_zero, nthO_succ, List.append])
  repeat (go_big_quiet_step (fail))
  refine wpQuiet_nil ?_
  have hc4 := Lib.hid (wdone_any gw gw PB y3 (by have := HPL.out; omega) (HWT15.out.below kb3.out))
  go_wp2_with fail
  refine hc4.out.mono ?_
  rintro e y4 ⟨p4, k4, rfl, hr4, hb4, _⟩
  have kb4 : Hid (Below w15.heap.size w15 y4) := bel_call hb4 kb3.out kb3.out.size
  have CV4 : ∀ x : Kept y4.heap.size y4, (convert 65 9 (.slice p4 PB.length k4)).run Tryz.prog x.v = .ok (.string ⟨PB.toArray⟩) x.v := fun x => (hr4.below x.h).conv
  have hs4 : ∀ wx, (∃ x : Kept y4.heap.size y4, wx = x.v) → ∃ x : Kept w15.heap.size w15, wx = x.v := by
    rintro wx ⟨x, rfl⟩
    exact ⟨⟨x.v, bel_call x.h kb4.out kb4.out.size⟩, rfl⟩
  clear hc4 hr4 hb4
  go_wp2_with fail
  refine ⟨rfl, ⟨⟨y4, kb4.out⟩, rfl⟩, (fun wx => ∃ x : Kept y4.heap.size y4, wx = x.v), hs4, ⟨⟨y4, Below.refl _ _⟩, rfl⟩, ?_⟩
  (unfold Sx.wpSeg; simp only [pick_nil, pick_cons, nthO_zero, nthO_succ, List.append])
  repeat (go_big_quiet_step (fail))
  refine wpQuiet_nil ?_
  have hc5 := Lib.hid (of_any d X q8 l8 k8 y4 ((FQ.out _ (HWB.out _ kb4.out)).weak (fun _ _ => trivial)) HSM.out)
  rw [show Value.agg (bnA X q8 l8 k8) = .agg #[.int .i64 X.kind, .int .i64 X.num, .string ⟨X.text.toArray⟩, .int .u64 X.frm.1.1, .int .i64 X.frm.1.2, .int .u64 X.frm.2.1, .int .i64 X.frm.2.2, .int .u64 X.tor.1.1, .int .i64 X.tor.1.2, .int .u64 X.tor.2.1, .int .i64 X.tor.2.2, .slice q8 l8 k8] from rfl] at hc5
  clear CV4 hs4
  go_wp2_with fail
  refine hc5.out.mono ?_
  rintro e y5 ⟨⟨q25, k25, rfl, hq⟩, hb⟩
  have kb5 : Hid (Below w15.heap.size w15 y5) := bel_call hb kb4.out kb4.out.size
  have kc5 : Hid (Below y4.heap.size y4 y5) := hb
  have hc6 := Lib.hid (rput2_any d X q25 l8 k25 y5 (hq.weak (fun _ _ => trivial)) HCX.out (by rw [HPB.out]; have := HPL.out; omega))
  rw [HPB.out, show Value.agg (bnA X q25 l8 k25) = .agg #[.int .i64 X.kind, .int .i64 X.num, .string ⟨X.text.toArray⟩, .int .u64 X.frm.1.1, .int .i64 X.frm.1.2, .int .u64 X.frm.2.1, .int .i64 X.frm.2.2, .int .u64 X.tor.1.1, .int .i64 X.tor.1.2, .int .u64 X.tor.2.1, .int .i64 X.tor.2.2, .slice q25 l8 k25] from rfl] at hc6
  rw [show ofT X = X from rfl, show Value.agg (bnA X q25 l8 k25) = .agg #[.int .i64 X.kind, .int .i64 X.num, .string ⟨X.text.toArray⟩, .int .u64 X.frm.1.1, .int .i64 X.frm.1.2, .int .u64 X.frm.2.1, .int .i64 X.frm.2.2, .int .u64 X.tor.1.1, .int .i64 X.tor.1.2, .int .u64 X.tor.2.1, .int .i64 X.tor.2.2, .slice q25 l8 k25] from rfl]
  clear hb hq hc5
  go_wp2_with fail
  refine ⟨rfl, ⟨⟨y5, kc5.out⟩, rfl⟩, (fun wx => ∃ x : Kept y4.heap.size y4, wx = x.v), fun _ h => h, ⟨⟨y5, kc5.out⟩, rfl⟩, ?_⟩
  (unfold Sx.wpSeg; simp only [pick_nil, pick_cons, nthO_zero, nthO_succ, List.append])
  refine wpQuiet_nil ?_
  go_wp2_with fail
  refine hc6.out.mono ?_
  rintro e y6 ⟨v6, rfl, hown6, hb⟩
  obtain ⟨p6, k6, rfl, hr6, _⟩ := RdU.of_own rfl hown6
  have kb6 : Hid (Below w15.heap.size w15 y6) := bel_call hb kb5.out kb5.out.size
  have kc6 : Hid (Below y4.heap.size y4 y6) := bel_call hb kc5.out kc5.out.size
  have CV6 : ∀ x : Kept y6.heap.size y6, (convert 65 9 (.slice p6 PB.length k6)).run Tryz.prog x.v = .ok (.string ⟨PB.toArray⟩) x.v := fun x => (hr6.below x.h).conv
  have hs6 : ∀ wx, (∃ x : Kept y6.heap.size y6, wx = x.v) → ∃ x : Kept y4.heap.size y4, wx = x.v := by
    rintro wx ⟨x, rfl⟩
    exact ⟨⟨x.v, bel_call x.h kc6.out kc6.out.size⟩, rfl⟩
  have HZ6 := Lib.hid (HZ15.out.below kb6.out)
  clear hc6 hr6 hb hown6 A0 A1 A2 A3 A4 A5 D0 D1 D2 D3 D4 D5 D6 D7 D8 D9 D10 D11
  have c0 : y6.cell? ⟨gY, 0, none⟩ = some (.int .i64 X.kind) := (FY.out y6 (HWB.out _ kb6.out)).cell 0 (.int .i64 X.kind) rfl
  have c1 : y6.cell? ⟨gY, 1, none⟩ = some (.int .i64 X.num) := (FY.out y6 (HWB.out _ kb6.out)).cell 1 (.int .i64 X.num) rfl
  have c2 : y6.cell? ⟨gY, 2, none⟩ = some (.string ⟨X.text.toArray⟩) := (FY.out y6 (HWB.out _ kb6.out)).cell 2 (.string ⟨X.text.toArray⟩) rfl
  have c3 : y6.cell? ⟨gY, 3, none⟩ = some (.int .u64 X.frm.1.1) := (FY.out y6 (HWB.out _ kb6.out)).cell 3 (.int .u64 X.frm.1.1) rfl
  have c4 : y6.cell? ⟨gY, 4, none⟩ = some (.int .i64 X.frm.1.2) := (FY.out y6 (HWB.out _ kb6.out)).cell 4 (.int .i64 X.frm.1.2) rfl
  have c5 : y6.cell? ⟨gY, 5, none⟩ = some (.int .u64 X.frm.2.1) := (FY.out y6 (HWB.out _ kb6.out)).cell 5 (.int .u64 X.frm.2.1) rfl
  have c6 : y6.cell? ⟨gY, 6, none⟩ = some (.int .i64 X.frm.2.2) := (FY.out y6 (HWB.out _ kb6.out)).cell 6 (.int .i64 X.frm.2.2) rfl
  have c7 : y6.cell? ⟨gY, 7, none⟩ = some (.int .u64 X.tor.1.1) := (FY.out y6 (HWB.out _ kb6.out)).cell 7 (.int .u64 X.tor.1.1) rfl
  have c8 : y6.cell? ⟨gY, 8, none⟩ = some (.int .i64 X.tor.1.2) := (FY.out y6 (HWB.out _ kb6.out)).cell 8 (.int .i64 X.tor.1.2) rfl
  have c9 : y6.cell? ⟨gY, 9, none⟩ = some (.int .u64 X.tor.2.1) := (FY.out y6 (HWB.out _ kb6.out)).cell 9 (.int .u64 X.tor.2.1) rfl
  have c10 : y6.cell? ⟨gY, 10, none⟩ = some (.int .i64 X.tor.2.2) := (FY.out y6 (HWB.out _ kb6.out)).cell 10 (.int .i64 X.tor.2.2) rfl
  have c11 : y6.cell? ⟨gY, 11, none⟩ = some (.slice q8 l8 k8) := (FY.out y6 (HWB.out _ kb6.out)).cell 11 (.slice q8 l8 k8) rfl
  have x0 : y6.cell? ⟨gZ, 0, none⟩ = some (.int .i64 X.kind) := HZ6.out.cell 0 (.int .i64 X.kind) rfl
  have x1 : y6.cell? ⟨gZ, 1, none⟩ = some (.int .i64 X.num) := HZ6.out.cell 1 (.int .i64 X.num) rfl
  have x2 : y6.cell? ⟨gZ, 2, none⟩ = some (.string ⟨X.text.toArray⟩) := HZ6.out.cell 2 (.string ⟨X.text.toArray⟩) rfl
  have x3 : y6.cell? ⟨gZ, 3, none⟩ = some (.int .u64 X.frm.1.1) := HZ6.out.cell 3 (.int .u64 X.frm.1.1) rfl
  have x4 : y6.cell? ⟨gZ, 4, none⟩ = some (.int .i64 X.frm.1.2) := HZ6.out.cell 4 (.int .i64 X.frm.1.2) rfl
  have x5 : y6.cell? ⟨gZ, 5, none⟩ = some (.int .u64 X.frm.2.1) := HZ6.out.cell 5 (.int .u64 X.frm.2.1) rfl
  have x6 : y6.cell? ⟨gZ, 6, none⟩ = some (.int .i64 X.frm.2.2) := HZ6.out.cell 6 (.int .i64 X.frm.2.2) rfl
  have x7 : y6.cell? ⟨gZ, 7, none⟩ = some (.int .u64 X.tor.1.1) := HZ6.out.cell 7 (.int .u64 X.tor.1.1) rfl
  have x8 : y6.cell? ⟨gZ, 8, none⟩ = some (.int .i64 X.tor.1.2) := HZ6.out.cell 8 (.int .i64 X.tor.1.2) rfl
  have x9 : y6.cell? ⟨gZ, 9, none⟩ = some (.int .u64 X.tor.2.1) := HZ6.out.cell 9 (.int .u64 X.tor.2.1) rfl
  have x10 : y6.cell? ⟨gZ, 10, none⟩ = some (.int .i64 X.tor.2.2) := HZ6.out.cell 10 (.int .i64 X.tor.2.2) rfl
  have x11 : y6.cell? ⟨gZ, 11, none⟩ = some (.slice q14 l14 k14) := HZ6.out.cell 11 (.slice q14 l14 k14) rfl
  have A0 := Kept.at c0
  have A1 := Kept.at c1
  have A2 := Kept.at c2
  have A3 := Kept.at c3
  have A4 := Kept.at c4
  have A5 := Kept.at c5
  have A6 := Kept.at c6
  have A7 := Kept.at c7
  have A8 := Kept.at c8
  have A9 := Kept.at c9
  have A10 := Kept.at c10
  have A11 := Kept.at c11
  have D0 := Kept.at x0
  have D1 := Kept.at x1
  have D2 := Kept.at x2
  have D3 := Kept.at x3
  have D4 := Kept.at x4
  have D5 := Kept.at x5
  have D6 := Kept.at x6
  have D7 := Kept.at x7
  have D8 := Kept.at x8
  have D9 := Kept.at x9
  have D10 := Kept.at x10
  have D11 := Kept.at x11
  go_wp2_with fail
  refine ⟨rfl, ⟨⟨y6, kc6.out⟩, rfl⟩, (fun wx => ∃ x : Kept y6.heap.size y6, wx = x.v), hs6, ⟨⟨y6, Below.refl _ _⟩, rfl⟩, ?_⟩
  (unfold Sx.wpSeg; simp only [pick_nil, pick_cons, nthO_zero, nthO_succ, List.append])
  clear c0 c1 c2 c3 c4 c5 c6 c7 c8 c9 c10 c11 x0 x1 x2 x3 x4 x5 x6 x7 x8 x9 x10 x11 hs6
  repeat (go_big_quiet_step (fail))
  refine wpQuiet_nil ?_
  have hc7 := Lib.hid (bsame_any d 64 X X q8 q14 l8 k8 l14 k14 y6 ((FQ.out _ (HWB.out _ kb6.out)).weak (fun _ _ => trivial)) (HQ15.out.below kb6.out) HSM.out HSM.out)
  rw [bsm_self X, show Value.agg (bnA X q8 l8 k8) = .agg #[.int .i64 X.kind, .int .i64 X.num, .string ⟨X.text.toArray⟩, .int .u64 X.frm.1.1, .int .i64 X.frm.1.2, .int .u64 X.frm.2.1, .int .i64 X.frm.2.2, .int .u64 X.tor.1.1, .int .i64 X.tor.1.2, .int .u64 X.tor.2.1, .int .i64 X.tor.2.2, .slice q8 l8 k8] from rfl, show Value.agg (bnA X q14 l14 k14) = .agg #[.int .i64 X.kind, .int .i64 X.num, .string ⟨X.text.toArray⟩, .int .u64 X.frm.1.1, .int .i64 X.frm.1.2, .int .u64 X.frm.2.1, .int .i64 X.frm.2.2, .int .u64 X.tor.1.1, .int .i64 X.tor.1.2, .int .u64 X.tor.2.1, .int .i64 X.tor.2.2, .slice q14 l14 k14] from rfl] at hc7
  clear CV6 A0 A1 A2 A3 A4 A5 A6 A7 A8 A9 A10 A11 D0 D1 D2 D3 D4 D5 D6 D7 D8 D9 D10 D11
  go_wp2_with fail
  refine hc7.out.mono ?_
  rintro e y7 ⟨rfl, hb⟩
  have kb7 : Hid (Below w15.heap.size w15 y7) := bel_call hb kb6.out kb6.out.size
  have kc7 : Hid (Below y6.heap.size y6 y7) := hb
  clear hb hc7
  go_wp2_with fail
  refine ⟨rfl, ⟨⟨y7, kc7.out⟩, rfl⟩, (fun wx => ∃ x : Kept y6.heap.size y6, wx = x.v), fun _ h => h, ⟨⟨y7, kc7.out⟩, rfl⟩, ?_⟩
  (unfold Sx.wpSeg; simp only [pick_nil, pick_cons, nthO_zero, nthO_succ, List.append])
  repeat (go_big_quiet_step (fail))
  refine wpQuiet_nil ?_
  have hc8 := Lib.hid (rend_any gr [] y7 (HR15.out.below kb7.out))
  rw [show decide (([] : List UInt8).length = 0) = true from rfl] at hc8
  go_wp2_with fail
  refine hc8.out.mono ?_
  rintro e y8 ⟨rfl, hb⟩
  have kb8 : Hid (Below w15.heap.size w15 y8) := bel_call hb kb7.out kb7.out.size
  have kc8 : Hid (Below y6.heap.size y6 y8) := bel_call hb kc7.out kc7.out.size
  clear hb hc8
  go_wp2_with fail
  refine ⟨rfl, ⟨⟨y8, kc8.out⟩, rfl⟩, (fun wx => ∃ x : Kept y6.heap.size y6, wx = x.v), fun _ h => h, ⟨⟨y8, kc8.out⟩, rfl⟩, ?_⟩
  (unfold Sx.wpSeg; simp only [pick_nil, pick_cons, nthO_zero, nthO_succ, List.append])
  repeat (go_big_quiet_step (fail))
  refine wpQuiet_nil ?_
  go_wp2_with fail
  refine (HAW.out _).mono ?_
  rintro e y9 ⟨rfl, hb⟩
  have kb9 : Hid (Below w15.heap.size w15 y9) := bel_call hb kb8.out kb8.out.size
  have kc9 : Hid (Below y6.heap.size y6 y9) := bel_call hb kc8.out kc8.out.size
  have hend := FW.out y9 (HWB.out _ kb9.out)
  clear hb
  go_wp2_with fail
  refine ⟨rfl, ⟨⟨y9, kc9.out⟩, rfl⟩, (fun wx => ∃ x : Kept y6.heap.size y6, wx = x.v), fun _ h => h, ⟨⟨y9, kc9.out⟩, rfl⟩, ?_⟩
  (unfold Sx.wpSeg; simp only [pick_nil, pick_cons, nthO_zero, nthO_succ, List.append])
  repeat (go_big_quiet_step (fail))
  refine wpQuiet_nil ?_
  go_wp2_with fail
  go_ret
  exact ⟨rfl, hend⟩
end Go.Proofs.YtjklbbmgjjdalaaGreatDoor.Bd
