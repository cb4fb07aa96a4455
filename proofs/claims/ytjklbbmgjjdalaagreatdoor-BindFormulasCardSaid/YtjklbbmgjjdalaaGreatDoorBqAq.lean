/- Bind: plain: what is bound is small; the walk of BindFormulas. Printed by gen_bfm.py. -/
import Derived.Test.YtjklbbmgjjdalaaGreatDoorBqAo
import Derived.Test.YtjklbbmgjjdalaaGreatDoorBqI
set_option linter.unusedSimpArgs false
set_option linter.unusedVariables false
namespace Go.Proofs.YtjklbbmgjjdalaaGreatDoor.Bd
open Go.RowKit Go.Joins
theorem sm_fltB : Sm fltB := .mk _ _ _ _ _ _ (by show (0 : Nat) ≤ 200000; omega) (by show (0 : Nat) ≤ 100000; omega) (fun c h => by cases h)
theorem sm_bnZ : Sm bnZ := .mk _ _ _ _ _ _ (by show (0 : Nat) ≤ 200000; omega) (by show (0 : Nat) ≤ 100000; omega) (fun c h => by cases h)
theorem wt_child : ∀ {a : List Nd} {c : Nd}, c ∈ a → wtN c ≤ wtL a
  | x :: r, c, h => by
    rw [wtL]
    rcases List.mem_cons.1 h with rfl | h
    · omega
    · have := wt_child h
      omega
theorem sm_bd (rows cols : List Idp) {n : Nd} (h : Fm n) : wtN n ≤ 260000 → Sm (bdM rows cols n) := by
  have small : ∀ (k u : Int) (t : List UInt8) (f o : Int) (a : List Nd), a.length ≤ 16 → wtN (.mk k u t f o a) ≤ 260000 → (∀ c ∈ a, Sm (bdM rows cols c)) → Sm (bdM rows cols (.mk k u t f o a)) := fun k u t f o a ha hw hc => by
    rw [wtN] at hw
    rw [bdM]
    split
    · rw [bdML_map]
      refine .mk _ _ _ _ _ _ (by omega) (by rw [List.length_map]; omega) (fun c hm => ?_)
      obtain ⟨x, hx, rfl⟩ := List.mem_map.1 hm
      exact hc x hx
    · exact sm_fltB
  induction h with
  | num u h1 h2 => exact fun hw => small _ _ _ _ _ _ (by simp) hw (fun c hc => by cases hc)
  | txt t => exact fun hw => small _ _ _ _ _ _ (by simp) hw (fun c hc => by cases hc)
  | ref f h => exact fun hw => small _ _ _ _ _ _ (by simp) hw (fun c hc => by cases hc)
  | rng f o h1 h2 => exact fun hw => small _ _ _ _ _ _ (by simp) hw (fun c hc => by cases hc)
  | flt => exact fun hw => small _ _ _ _ _ _ (by simp) hw (fun c hc => by cases hc)
  | neg a h ih =>
    intro hw
    refine small _ _ _ _ _ _ (by simp) hw (fun c hc => ?_)
    obtain rfl := List.mem_singleton.1 hc
    refine ih ?_
    rw [wtN, wtL] at hw
    omega
  | bin t a b ht h1 h2 ih1 ih2 =>
    intro hw
    refine small _ _ _ _ _ _ (by simp) hw (fun c hc => ?_)
    rw [wtN, wtL, wtL, wtL] at hw
    rcases List.mem_cons.1 hc with rfl | hc
    · exact ih1 (by omega)
    · obtain rfl := List.mem_singleton.1 hc
      exact ih2 (by omega)
  | cal t ar ht hl h ih =>
    intro hw
    refine small _ _ _ _ _ _ hl hw (fun c hc => ih c hc ?_)
    rw [wtN] at hw
    have := wt_child hc
    omega
theorem sm_rfR (rows cols : List Idp) {n : Nd} (h : Fm n) (hw : wtN n ≤ 260000) : Sm (rfR rows cols n) := by
  unfold rfR
  split
  · exact sm_bd rows cols h hw
  · exact sm_bnZ
set_option maxRecDepth 100000 in
set_option maxHeartbeats 16000000 in
theorem formulas_walk (l1 l2 l3 l4 : List Idp) (p1 : Option Addr) (n1 c1 : Nat) (p2 : Option Addr) (n2 c2 : Nat) (p3 : Option Addr) (n3 c3 : Nat) (p4 : Option Addr) (n4 c4 : Nat) (s : ByteArray) (w : World) (hsh : w.ShapedOpen Tryz.prog)
    (h1 : RdG idE 2 w p1 n1 l1) (h2 : RdG idE 2 w p2 n2 l2) (h3 : RdG idE 2 w p3 n3 l3) (h4 : RdG idE 2 w p4 n4 l4) (hn1 : n1 ≤ 9223372036854775807) (hn2 : n2 ≤ 9223372036854775807) (hn3 : n3 ≤ 9223372036854775807) (hn4 : n4 ≤ 9223372036854775807) :
    Calls Tryz.prog 3 #[.slice p1 n1 c1, .slice p2 n2 c2, .string s, .slice p3 n3 c3, .slice p4 n4 c4] w fun e w' => e = .returned (.bool true) ∧ Below w.heap.size w w' := by
  have HSH := Lib.hid (fun W (hW : Below w.heap.size w W) => shaped_bf hsh hW)
  have HAW := Lib.hid (fun W => awake_any W)
  have HRE := Lib.hid (fun W => lread_any s W)
  have HL1 := Lib.hid (fun W (hW : Below w.heap.size w W) => lines_any l1 p1 n1 c1 W (h1.below hW) hn1)
  have HL2 := Lib.hid (fun W (hW : Below w.heap.size w W) => lines_any l2 p2 n2 c2 W (h2.below hW) hn2)
  have HL3 := Lib.hid (fun W (hW : Below w.heap.size w W) => lines_any l3 p3 n3 c3 W (h3.below hW) hn3)
  have HL4 := Lib.hid (fun W (hW : Below w.heap.size w W) => lines_any l4 p4 n4 c4 W (h4.below hW) hn4)
  have hr1 := linesL_len l1
  have hr2 := linesL_len l2
  have hr3 := linesL_len l3
  have hr4 := linesL_len l4
  generalize linesL l1 = R1 at HL1 hr1
  generalize linesL l2 = R2 at HL2 hr2
  generalize linesL l3 = R3 at HL3 hr3
  generalize linesL l4 = R4 at HL4 hr4
  clear hsh h1 h2 h3 h4 hn1 hn2 hn3 hn4
  go_enter Tryz.func3, Tryz.ntmps3
  go_wp2_with fail
  refine (HRE.out w).mono ?_
  rintro e w1 ⟨⟨n, q, len, cq, B, rfl, hk⟩, hb⟩
  have HB1 : Hid (Below w.heap.size w w1) := hb
  have HK := Lib.hid hk
  clear hb hk HRE
  rw [show Value.agg (ndA n q len cq) = .agg #[.int .i64 n.kind, .int .i64 n.num, .string ⟨n.text.toArray⟩, .int .i64 n.frm, .int .i64 n.tor, .slice q len cq] from rfl]
  go_upto_region 2 with fail
  have e1 : w1.alloc (.cells #[.int .i64 n.kind, .int .i64 n.num, .string ⟨n.text.toArray⟩, .int .i64 n.frm, .int .i64 n.tor, .slice q len cq] tRn) = w1.alloc (.cells (ndA n q len cq) tRn) := rfl
  rw [e1]
  clear e1
  have HX2 : Hid (BlkC (w1.alloc (.cells (ndA n q len cq) tRn)) w1.heap.size (ndA n q len cq) tRn) := heap_alloc_new w1 _
  have hbn : Below w1.heap.size w1 (w1.alloc (.cells (ndA n q len cq) tRn)) := (Below.refl _ _).alloc (Nat.le_refl _) _
  have HB2 : Hid (Below w.heap.size w (w1.alloc (.cells (ndA n q len cq) tRn))) := bel_call hbn HB1.out HB1.out.size
  have HBN := Lib.hid hbn
  clear hbn
  by_cases hG : 300 < s.size
  · have hG2 : (300 : Int) < (s.size : Int) := by omega
    clear HX2 HBN HK
    generalize w1.alloc (.cells (ndA n q len cq) tRn) = w2 at HB2 ⊢
    go_wp2_with fail
    refine (HAW.out _).mono ?_
    rintro e w3 ⟨rfl, hb⟩
    have hB3 := bel_call hb HB2.out HB2.out.size
    go_wp2_with fail
    go_ret
    exact ⟨rfl, hB3⟩
  have hG2 : ¬ (300 : Int) < (s.size : Int) := by omega
  cases B with
  | false =>
    clear HX2 HBN HK
    generalize w1.alloc (.cells (ndA n q len cq) tRn) = w2 at HB2 ⊢
    go_wp2_with fail
    refine (HAW.out _).mono ?_
    rintro e w3 ⟨rfl, hb⟩
    have hB3 := bel_call hb HB2.out HB2.out.size
    go_wp2_with fail
    go_ret
    exact ⟨rfl, hB3⟩
  | true =>
  obtain ⟨hln, hfm, hok, hcn, hwt, hdp, hrd⟩ := HK.out rfl
  obtain ⟨d, hd⟩ : ∃ d, dpN n = d := ⟨_, rfl⟩
  have HRN : Hid (RdT (w1.alloc (.cells (ndA n q len cq) tRn)) w1.heap.size d n q len) := ((hrd d (by omega)).rdT (fun b h => h.2)).below HBN.out
  have HFM := Lib.hid hfm
  have HOK := Lib.hid hok
  have HCN := Lib.hid hcn
  have HWT := Lib.hid hwt
  have HDP := Lib.hid hdp
  have hz2 := HBN.out.size
  clear HK HBN hln hfm hok hcn hwt hdp hrd hd HB1 hG
  generalize w1.alloc (.cells (ndA n q len cq) tRn) = w2 at HX2 HB2 HRN hz2 ⊢
  generalize w1.heap.size = gX at HX2 HRN hz2 ⊢
  have hgX := lt_some HX2.out
  go_upto_region 4 with fail
  go_wp2_with fail
  refine (HL1.out w2 HB2.out).mono ?_
  rintro e w3 ⟨⟨a1, k1, rfl, hra1⟩, hb3⟩
  have HB3 : Hid (Below w.heap.size w w3) := bel_call hb3 HB2.out HB2.out.size
  clear HL1
  go_wp2_with fail
  refine (HL2.out w3 HB3.out).mono ?_
  rintro e w4 ⟨⟨a2, k2, rfl, hra2⟩, hb4⟩
  have HB4 : Hid (Below w.heap.size w w4) := bel_call hb4 HB3.out HB3.out.size
  clear HL2
  go_wp2_with fail
  refine (HL3.out w4 HB4.out).mono ?_
  rintro e w5 ⟨⟨a3, k3, rfl, hra3⟩, hb5⟩
  have HB5 : Hid (Below w.heap.size w w5) := bel_call hb5 HB4.out HB4.out.size
  clear HL3
  go_wp2_with fail
  refine (HL4.out w5 HB5.out).mono ?_
  rintro e w6 ⟨⟨a4, k4, rfl, hra4⟩, hb6⟩
  have HB6 : Hid (Below w.heap.size w w6) := bel_call hb6 HB5.out HB5.out.size
  clear HL4
  have HRA1 := Lib.hid (((hra1.below hb4).below hb5).below hb6)
  have HRA2 := Lib.hid ((hra2.below hb5).below hb6)
  have HRA3 := Lib.hid (hra3.below hb6)
  have HRA4 := Lib.hid hra4
  have h26 : Below w2.heap.size w2 w6 := (hb3.trans (hb4.mono hb3.size)).trans ((hb5.mono (Nat.le_trans hb3.size hb4.size)).trans (hb6.mono (Nat.le_trans hb3.size (Nat.le_trans hb4.size hb5.size))))
  have HX6 := Lib.hid (HX2.out.below h26)
  have HRN6 : Hid (RdT w6 gX d n q len) := HRN.out.below (h26.mono hz2)
  have hz6 : gX ≤ w6.heap.size := Nat.le_trans hz2 h26.size
  clear hra1 hra2 hra3 hra4 hb3 hb4 hb5 hb6 h26 HX2 HRN HB2 HB3 HB4 HB5 hz2 hgX
  have HFW : Hid (FewN n) := cn_few HCN.out
  have HSM : Hid (Sm (rfR R1 R2 n)) := sm_rfR R1 R2 HFM.out HWT.out
  have HEQ : Hid (bdE R1 R2 n = 0 → rfR R1 R2 n = bdM R1 R2 n) := fun h => if_pos h
  have HCL := Lib.hid (fun W (hW : Below w6.heap.size w6 W) => cls_any d n q len cq W ((HRN6.out.below (hW.mono hz6)).mono (Nat.le_trans hz6 hW.size)) HOK.out HFW.out)
  have HBF := Lib.hid (fun q' l' c' W (hW : Below w6.heap.size w6 W) (h : Cel.RdT W W.heap.size d n q' l') => bfm_any R1 R2 d n q' l' c' a1 R1.length k1 a2 R2.length k2 W (HRA1.out.below hW) (by omega) (HRA2.out.below hW) (by omega) h HFM.out)
  have HRF := Lib.hid (fun W (hW : Below w6.heap.size w6 W) => rfm_any R1 R2 d n q len cq a1 R1.length k1 a2 R2.length k2 W (HRA1.out.below hW) (HRA2.out.below hW) hr1 hr2 ((HRN6.out.below (hW.mono hz6)).mono (Nat.le_trans hz6 hW.size)) HFM.out HOK.out)
  obtain ⟨X, hX⟩ : ∃ X, rfR R1 R2 n = X := ⟨_, rfl⟩
  obtain ⟨E, hE⟩ : ∃ E, bdE R1 R2 n = E := ⟨_, rfl⟩
  rw [hX] at HSM HEQ HBF HRF
  rw [hE] at HEQ HBF HRF
  have HEE := Lib.hid hE
  clear hX hE
  have c0 : w6.cell? ⟨gX, 0, none⟩ = some (.int .i64 n.kind) := HX6.out.cell 0 (.int .i64 n.kind) rfl
  have c1 : w6.cell? ⟨gX, 1, none⟩ = some (.int .i64 n.num) := HX6.out.cell 1 (.int .i64 n.num) rfl
  have c2 : w6.cell? ⟨gX, 2, none⟩ = some (.string ⟨n.text.toArray⟩) := HX6.out.cell 2 (.string ⟨n.text.toArray⟩) rfl
  have c3 : w6.cell? ⟨gX, 3, none⟩ = some (.int .i64 n.frm) := HX6.out.cell 3 (.int .i64 n.frm) rfl
  have c4 : w6.cell? ⟨gX, 4, none⟩ = some (.int .i64 n.tor) := HX6.out.cell 4 (.int .i64 n.tor) rfl
  have c5 : w6.cell? ⟨gX, 5, none⟩ = some (.slice q len cq) := HX6.out.cell 5 (.slice q len cq) rfl
  have hc1 := Lib.hid (HCL.out w6 (Below.refl _ _))
  rw [show Value.agg (ndA n q len cq) = .agg #[.int .i64 n.kind, .int .i64 n.num, .string ⟨n.text.toArray⟩, .int .i64 n.frm, .int .i64 n.tor, .slice q len cq] from rfl] at hc1
  go_wp2_with fail
  refine hc1.out.mono ?_
  rintro e w7 ⟨⟨q7, k7, rfl, hk⟩, hb⟩
  have hc2 := Lib.hid (HBF.out q7 len k7 w7 hb (Cel.RdP.rdT (fun b h => h.2) hk))
  rw [show Value.agg (Cel.ndA n q7 len k7) = .agg #[.int .i64 n.kind, .int .i64 n.num, .string ⟨n.text.toArray⟩, .int .i64 (cC n.frm), .int .i64 (cR n.frm), .int .i64 (cC n.tor), .int .i64 (cR n.tor), .slice q7 len k7] from rfl] at hc2 ⊢
  have HB7 := Lib.hid hb
  clear hb hk hc1 HBF c0 c1 c2 c3 c4 c5
  go_wp2_with fail
  refine hc2.out.mono ?_
  rintro e w8 ⟨⟨q8, l8, k8, rfl, hq8⟩, hb⟩
  have hxl : X.args.length = l8 := hq8.len
  have HB8 : Hid (Below w6.heap.size w6 w8) := bel_call hb HB7.out HB7.out.size
  have HQ8 : Hid (RdQ rfE 12 w8 (fun b => b < w8.heap.size) d X q8 l8) := hq8.weak (fun b h => h.2)
  clear hb hq8 hc2 HB7
  rw [show Value.agg (bnA X q8 l8 k8) = .agg #[.int .i64 X.kind, .int .i64 X.num, .string ⟨X.text.toArray⟩, .int .u64 X.frm.1.1, .int .i64 X.frm.1.2, .int .u64 X.frm.2.1, .int .i64 X.frm.2.2, .int .u64 X.tor.1.1, .int .i64 X.tor.1.2, .int .u64 X.tor.2.1, .int .i64 X.tor.2.2, .slice q8 l8 k8] from rfl]
  go_upto_region 6 with fail
  have e1 : w8.alloc (.cells #[.int .i64 X.kind, .int .i64 X.num, .string ⟨X.text.toArray⟩, .int .u64 X.frm.1.1, .int .i64 X.frm.1.2, .int .u64 X.frm.2.1, .int .i64 X.frm.2.2, .int .u64 X.tor.1.1, .int .i64 X.tor.1.2, .int .u64 X.tor.2.1, .int .i64 X.tor.2.2, .slice q8 l8 k8] tNr) = w8.alloc (.cells (bnA X q8 l8 k8) tNr) := rfl
  rw [e1]
  clear e1
  have hbn : Below w8.heap.size w8 (w8.alloc (.cells (bnA X q8 l8 k8) tNr)) := (Below.refl _ _).alloc (Nat.le_refl _) _
  have HY9 : Hid (BlkC (w8.alloc (.cells (bnA X q8 l8 k8) tNr)) w8.heap.size (bnA X q8 l8 k8) tNr) := heap_alloc_new w8 _
  have HB9 : Hid (Below w6.heap.size w6 (w8.alloc (.cells (bnA X q8 l8 k8) tNr))) := bel_call hbn HB8.out HB8.out.size
  have HQ9 : Hid (RdQ rfE 12 (w8.alloc (.cells (bnA X q8 l8 k8) tNr)) (fun b => b < w8.heap.size) d X q8 l8) := HQ8.out.below hbn
  have hz9 := hbn.size
  clear hbn HB8 HQ8
  generalize w8.alloc (.cells (bnA X q8 l8 k8) tNr) = w9 at HY9 HB9 HQ9 hz9 ⊢
  generalize w8.heap.size = gY at HY9 HQ9 hz9 ⊢
  have HX9 := Lib.hid (HX6.out.below HB9.out)
  have c0 : w9.cell? ⟨gX, 0, none⟩ = some (.int .i64 n.kind) := HX9.out.cell 0 (.int .i64 n.kind) rfl
  have c1 : w9.cell? ⟨gX, 1, none⟩ = some (.int .i64 n.num) := HX9.out.cell 1 (.int .i64 n.num) rfl
  have c2 : w9.cell? ⟨gX, 2, none⟩ = some (.string ⟨n.text.toArray⟩) := HX9.out.cell 2 (.string ⟨n.text.toArray⟩) rfl
  have c3 : w9.cell? ⟨gX, 3, none⟩ = some (.int .i64 n.frm) := HX9.out.cell 3 (.int .i64 n.frm) rfl
  have c4 : w9.cell? ⟨gX, 4, none⟩ = some (.int .i64 n.tor) := HX9.out.cell 4 (.int .i64 n.tor) rfl
  have c5 : w9.cell? ⟨gX, 5, none⟩ = some (.slice q len cq) := HX9.out.cell 5 (.slice q len cq) rfl
  have hc1 := Lib.hid (HRF.out w9 HB9.out)
  rw [show Value.agg (ndA n q len cq) = .agg #[.int .i64 n.kind, .int .i64 n.num, .string ⟨n.text.toArray⟩, .int .i64 n.frm, .int .i64 n.tor, .slice q len cq] from rfl] at hc1
  go_wp2_with fail
  refine hc1.out.mono ?_
  rintro e w10 ⟨⟨q10, l10, k10, rfl, hq10⟩, hb⟩
  have hxl2 : X.args.length = l10 := hq10.len
  obtain rfl : l8 = l10 := by omega
  have HB10 : Hid (Below w9.heap.size w9 w10) := hb
  have HQ10 : Hid (RdQ rfE 12 w10 (fun b => b < w10.heap.size) d X q10 l8) := hq10.weak (fun b h => h.2)
  clear hb hq10 hc1 HRF c0 c1 c2 c3 c4 c5 HX6 HX9 HRN6 HCL hxl2
  rw [show Value.agg (bnA X q10 l8 k10) = .agg #[.int .i64 X.kind, .int .i64 X.num, .string ⟨X.text.toArray⟩, .int .u64 X.frm.1.1, .int .i64 X.frm.1.2, .int .u64 X.frm.2.1, .int .i64 X.frm.2.2, .int .u64 X.tor.1.1, .int .i64 X.tor.1.2, .int .u64 X.tor.2.1, .int .i64 X.tor.2.2, .slice q10 l8 k10] from rfl]
  go_upto_region 7 with fail
  have e1 : w10.alloc (.cells #[.int .i64 X.kind, .int .i64 X.num, .string ⟨X.text.toArray⟩, .int .u64 X.frm.1.1, .int .i64 X.frm.1.2, .int .u64 X.frm.2.1, .int .i64 X.frm.2.2, .int .u64 X.tor.1.1, .int .i64 X.tor.1.2, .int .u64 X.tor.2.1, .int .i64 X.tor.2.2, .slice q10 l8 k10] tN2) = w10.alloc (.cells (bnA X q10 l8 k10) tN2) := rfl
  rw [e1]
  clear e1
  have hbn : Below w10.heap.size w10 (w10.alloc (.cells (bnA X q10 l8 k10) tN2)) := (Below.refl _ _).alloc (Nat.le_refl _) _
  have HZ11 : Hid (BlkC (w10.alloc (.cells (bnA X q10 l8 k10) tN2)) w10.heap.size (bnA X q10 l8 k10) tN2) := heap_alloc_new w10 _
  have HB911 : Hid (Below w9.heap.size w9 (w10.alloc (.cells (bnA X q10 l8 k10) tN2))) := bel_call hbn HB10.out HB10.out.size
  have HQZ : Hid (RdQ rfE 12 (w10.alloc (.cells (bnA X q10 l8 k10) tN2)) (fun b => b < w10.heap.size) d X q10 l8) := HQ10.out.below hbn
  have hz11 := hbn.size
  clear hbn HB10 HQ10
  generalize w10.alloc (.cells (bnA X q10 l8 k10) tN2) = w11 at HZ11 HB911 HQZ hz11 ⊢
  generalize w10.heap.size = gZ at HZ11 HQZ hz11 ⊢
  have HY11 := Lib.hid (HY9.out.below HB911.out)
  have HQY : Hid (RdQ rfE 12 w11 (fun b => b < gY) d X q8 l8) := HQ9.out.below HB911.out
  have hzy : gY ≤ w11.heap.size := Nat.le_trans hz9 HB911.out.size
  have HB11 : Hid (Below w6.heap.size w6 w11) := bel_call HB911.out HB9.out HB9.out.size
  clear HY9 HQ9 HB911 HB9 hz9
  have x0 : w11.cell? ⟨gY, 0, none⟩ = some (.int .i64 X.kind) := HY11.out.cell 0 (.int .i64 X.kind) rfl
  have x1 : w11.cell? ⟨gY, 1, none⟩ = some (.int .i64 X.num) := HY11.out.cell 1 (.int .i64 X.num) rfl
  have x2 : w11.cell? ⟨gY, 2, none⟩ = some (.string ⟨X.text.toArray⟩) := HY11.out.cell 2 (.string ⟨X.text.toArray⟩) rfl
  have x3 : w11.cell? ⟨gY, 3, none⟩ = some (.int .u64 X.frm.1.1) := HY11.out.cell 3 (.int .u64 X.frm.1.1) rfl
  have x4 : w11.cell? ⟨gY, 4, none⟩ = some (.int .i64 X.frm.1.2) := HY11.out.cell 4 (.int .i64 X.frm.1.2) rfl
  have x5 : w11.cell? ⟨gY, 5, none⟩ = some (.int .u64 X.frm.2.1) := HY11.out.cell 5 (.int .u64 X.frm.2.1) rfl
  have x6 : w11.cell? ⟨gY, 6, none⟩ = some (.int .i64 X.frm.2.2) := HY11.out.cell 6 (.int .i64 X.frm.2.2) rfl
  have x7 : w11.cell? ⟨gY, 7, none⟩ = some (.int .u64 X.tor.1.1) := HY11.out.cell 7 (.int .u64 X.tor.1.1) rfl
  have x8 : w11.cell? ⟨gY, 8, none⟩ = some (.int .i64 X.tor.1.2) := HY11.out.cell 8 (.int .i64 X.tor.1.2) rfl
  have x9 : w11.cell? ⟨gY, 9, none⟩ = some (.int .u64 X.tor.2.1) := HY11.out.cell 9 (.int .u64 X.tor.2.1) rfl
  have x10 : w11.cell? ⟨gY, 10, none⟩ = some (.int .i64 X.tor.2.2) := HY11.out.cell 10 (.int .i64 X.tor.2.2) rfl
  have x11 : w11.cell? ⟨gY, 11, none⟩ = some (.slice q8 l8 k8) := HY11.out.cell 11 (.slice q8 l8 k8) rfl
  have z0 : w11.cell? ⟨gZ, 0, none⟩ = some (.int .i64 X.kind) := HZ11.out.cell 0 (.int .i64 X.kind) rfl
  have z1 : w11.cell? ⟨gZ, 1, none⟩ = some (.int .i64 X.num) := HZ11.out.cell 1 (.int .i64 X.num) rfl
  have z2 : w11.cell? ⟨gZ, 2, none⟩ = some (.string ⟨X.text.toArray⟩) := HZ11.out.cell 2 (.string ⟨X.text.toArray⟩) rfl
  have z3 : w11.cell? ⟨gZ, 3, none⟩ = some (.int .u64 X.frm.1.1) := HZ11.out.cell 3 (.int .u64 X.frm.1.1) rfl
  have z4 : w11.cell? ⟨gZ, 4, none⟩ = some (.int .i64 X.frm.1.2) := HZ11.out.cell 4 (.int .i64 X.frm.1.2) rfl
  have z5 : w11.cell? ⟨gZ, 5, none⟩ = some (.int .u64 X.frm.2.1) := HZ11.out.cell 5 (.int .u64 X.frm.2.1) rfl
  have z6 : w11.cell? ⟨gZ, 6, none⟩ = some (.int .i64 X.frm.2.2) := HZ11.out.cell 6 (.int .i64 X.frm.2.2) rfl
  have z7 : w11.cell? ⟨gZ, 7, none⟩ = some (.int .u64 X.tor.1.1) := HZ11.out.cell 7 (.int .u64 X.tor.1.1) rfl
  have z8 : w11.cell? ⟨gZ, 8, none⟩ = some (.int .i64 X.tor.1.2) := HZ11.out.cell 8 (.int .i64 X.tor.1.2) rfl
  have z9 : w11.cell? ⟨gZ, 9, none⟩ = some (.int .u64 X.tor.2.1) := HZ11.out.cell 9 (.int .u64 X.tor.2.1) rfl
  have z10 : w11.cell? ⟨gZ, 10, none⟩ = some (.int .i64 X.tor.2.2) := HZ11.out.cell 10 (.int .i64 X.tor.2.2) rfl
  have z11 : w11.cell? ⟨gZ, 11, none⟩ = some (.slice q10 l8 k10) := HZ11.out.cell 11 (.slice q10 l8 k10) rfl
  have A0 := Kept.at x0
  have A1 := Kept.at x1
  have A2 := Kept.at x2
  have A3 := Kept.at x3
  have A4 := Kept.at x4
  have A5 := Kept.at x5
  have A6 := Kept.at x6
  have A7 := Kept.at x7
  have A8 := Kept.at x8
  have A9 := Kept.at x9
  have A10 := Kept.at x10
  have A11 := Kept.at x11
  have D0 := Kept.at z0
  have D1 := Kept.at z1
  have D2 := Kept.at z2
  have D3 := Kept.at z3
  have D4 := Kept.at z4
  have D5 := Kept.at z5
  have D6 := Kept.at z6
  have D7 := Kept.at z7
  have D8 := Kept.at z8
  have D9 := Kept.at z9
  have D10 := Kept.at z10
  have D11 := Kept.at z11
  refine wp_region_sched (fun wx => ∃ x : Kept w11.heap.size w11, wx = x.v) [([0, 2], 1), ([], 3)] [4, 5, 6, 7, 8, 9] (by kernel_rfl) (by kernel_rfl) (by kernel_rfl) rfl (kept_drew _ _ (Nat.le_refl _)) ?_
  have kb0 : Hid (Below w11.heap.size w11 w11.drew) := Below.drew (Below.refl _ _)
  (unfold wpSeg; simp only [pick_nil, pick_cons, nthO_zero, nthO_succ, List.append])
  clear x0 z0 x1 z1 x2 z2 x3 z3 x4 z4 x5 z5 x6 z6 x7 z7 x8 z8 x9 z9 x10 z10 x11 z11
  repeat (go_big_quiet_step (fail))
  refine wpQuiet_nil ?_
  have hc1 := Lib.hid (of_any d X q8 l8 k8 w11.drew ((HQY.out.below kb0.out).weak (fun _ _ => trivial)) HSM.out)
  rw [show Value.agg (bnA X q8 l8 k8) = .agg #[.int .i64 X.kind, .int .i64 X.num, .string ⟨X.text.toArray⟩, .int .u64 X.frm.1.1, .int .i64 X.frm.1.2, .int .u64 X.frm.2.1, .int .i64 X.frm.2.2, .int .u64 X.tor.1.1, .int .i64 X.tor.1.2, .int .u64 X.tor.2.1, .int .i64 X.tor.2.2, .slice q8 l8 k8] from rfl] at hc1
  go_wp2_with fail
  refine hc1.out.mono ?_
  rintro e w12 ⟨⟨q12, k12, rfl, hq⟩, hb⟩
  have kb1 : Hid (Below w11.heap.size w11 w12) := bel_call hb kb0.out kb0.out.size
  have hc2 := Lib.hid (rsame1_any d X q12 q10 l8 k12 k10 w12 (hq.weak (fun _ _ => trivial)) ((HQZ.out.below kb1.out).weak (fun _ _ => trivial)) HSM.out)
  rw [show ofT X = X from rfl, show Value.agg (bnA X q12 l8 k12) = .agg #[.int .i64 X.kind, .int .i64 X.num, .string ⟨X.text.toArray⟩, .int .u64 X.frm.1.1, .int .i64 X.frm.1.2, .int .u64 X.frm.2.1, .int .i64 X.frm.2.2, .int .u64 X.tor.1.1, .int .i64 X.tor.1.2, .int .u64 X.tor.2.1, .int .i64 X.tor.2.2, .slice q12 l8 k12] from rfl]
  rw [show Value.agg (bnA X q12 l8 k12) = .agg #[.int .i64 X.kind, .int .i64 X.num, .string ⟨X.text.toArray⟩, .int .u64 X.frm.1.1, .int .i64 X.frm.1.2, .int .u64 X.frm.2.1, .int .i64 X.frm.2.2, .int .u64 X.tor.1.1, .int .i64 X.tor.1.2, .int .u64 X.tor.2.1, .int .i64 X.tor.2.2, .slice q12 l8 k12] from rfl, show Value.agg (bnA X q10 l8 k10) = .agg #[.int .i64 X.kind, .int .i64 X.num, .string ⟨X.text.toArray⟩, .int .u64 X.frm.1.1, .int .i64 X.frm.1.2, .int .u64 X.frm.2.1, .int .i64 X.frm.2.2, .int .u64 X.tor.1.1, .int .i64 X.tor.1.2, .int .u64 X.tor.2.1, .int .i64 X.tor.2.2, .slice q10 l8 k10] from rfl] at hc2
  clear hb hq hc1
  go_wp2_with fail
  refine ⟨rfl, ⟨⟨w12, kb1.out⟩, rfl⟩, ?_⟩
  (unfold wpSeg; simp only [pick_nil, pick_cons, nthO_zero, nthO_succ, List.append])
  repeat (go_big_quiet_step (fail))
  refine wpQuiet_nil ?_
  go_wp2_with fail
  refine hc2.out.mono ?_
  rintro e w13 ⟨rfl, hb⟩
  have kb2 : Hid (Below w11.heap.size w11 w13) := bel_call hb kb1.out kb1.out.size
  clear hb hc2
  go_wp2_with fail
  refine ⟨rfl, ⟨⟨w13, kb2.out⟩, rfl⟩, ?_⟩
  (unfold wpSeg; simp only [pick_nil, pick_cons, nthO_zero, nthO_succ, List.append])
  repeat (go_big_quiet_step (fail))
  refine wpQuiet_nil ?_
  have HY13 := Lib.hid (HY11.out.below kb2.out)
  have HZ13 := Lib.hid (HZ11.out.below kb2.out)
  have HQY13 : Hid (RdQ rfE 12 w13 (fun b => b < gY) d X q8 l8) := HQY.out.below kb2.out
  have HQZ13 : Hid (RdQ rfE 12 w13 (fun b => b < gZ) d X q10 l8) := HQZ.out.below kb2.out
  have HB13 : Hid (Below w6.heap.size w6 w13) := bel_call kb2.out HB11.out HB11.out.size
  have hzy13 : gY ≤ w13.heap.size := Nat.le_trans hzy kb2.out.size
  clear kb0 kb1 kb2 HY11 HZ11 HQY HQZ HB11 hzy hz11 A0 D0 A1 D1 A2 D2 A3 D3 A4 D4 A5 D5 A6 D6 A7 D7 A8 D8 A9 D9 A10 D10 A11 D11
  by_cases hE0 : E = 0
  · subst hE0
    have HXM := Lib.hid (HEQ.out rfl)
    have HBN := Lib.hid (bk_bd R1 R2 R3 R4 n HEE.out)
    have hg : ∀ k, rbC R1 R2 R3 R4 k ≠ 0 → OkC (rbC R1 R2 R3 R4 k) ∧ 0 ≤ rbC R1 R2 R3 R4 k ∧ rbC R1 R2 R3 R4 k ≤ 10000000 := fun k => (bkC_ok hr3 hr4 (bdC R1 R2 k).1).1
    have HYE : Hid (bkN R3 R4 X = gvN (rbC R1 R2 R3 R4) n) := by unfold Hid; rw [HXM.out]; exact HBN.out
    have HYF : Hid (Fm (bkN R3 R4 X)) := by unfold Hid; rw [HYE.out]; exact fm_gv hg HFM.out
    have HYO : Hid (OkN (bkN R3 R4 X)) := by unfold Hid; rw [HYE.out]; exact gv_okN hg HFM.out HOK.out
    have HYC : Hid (cnN (bkN R3 R4 X) ≤ 1000) := by unfold Hid; rw [HYE.out]; exact Nat.le_trans (gv_cn _ n) HCN.out
    have HYW : Hid (wtN (bkN R3 R4 X) ≤ 2200000) := by unfold Hid; rw [HYE.out]; exact Nat.le_trans (gv_wt _ n) (Nat.le_trans HWT.out (by omega))
    have HYD : Hid (dpN (bkN R3 R4 X) ≤ 64) := by unfold Hid; rw [HYE.out]; exact Nat.le_trans (gv_dp _ n) HDP.out
    have HYR : Hid (rtN (bkN R3 R4 X) 64 = true) := rt_fm HYF.out 64 (by have := HYD.out; omega)
    have HYN : Hid (FewN (bkN R3 R4 X)) := cn_few HYC.out
    have HBWw := Lib.hid (fun W (hW : Below w13.heap.size w13 W) => (bel_call (bel_call hW HB13.out HB13.out.size) HB6.out HB6.out.size : Below w.heap.size w W))
    have HA3 := Lib.hid (fun W (hW : Below w13.heap.size w13 W) => HRA3.out.below (bel_call hW HB13.out HB13.out.size))
    have HA4 := Lib.hid (fun W (hW : Below w13.heap.size w13 W) => HRA4.out.below (bel_call hW HB13.out HB13.out.size))
    have HRB := Lib.hid (fun W (hW : Below w13.heap.size w13 W) => rbk_any R3 R4 d X q10 l8 k10 a3 R3.length k3 a4 R4.length k4 W (HA3.out W hW) (HA4.out W hW) hr3 hr4 ((HQZ13.out.below hW).weak (fun _ _ => trivial)) HSM.out)
    have HBB := Lib.hid (fun W (hW : Below w13.heap.size w13 W) => bback_any R3 R4 hr3 hr4 d X q8 l8 k8 a3 R3.length k3 a4 R4.length k4 W (HA3.out W hW) (by omega) (HA4.out W hW) (by omega) ((HQY13.out.below hW).weak (fun b h => by have := hW.size; omega)) HSM.out)
    have HBT := Lib.hid (fun W (hW : Below w13.heap.size w13 W) => btext_any R3 R4 hr3 hr4 d X q8 l8 k8 64 a3 R3.length k3 a4 R4.length k4 W (HSH.out W (HBWw.out W hW)) (HA3.out W hW) (by omega) (HA4.out W hW) (by omega) ((HQY13.out.below hW).weak (fun b h => by have := hW.size; omega)) HSM.out HYO.out HYR.out HYW.out)
    obtain ⟨Y, hY⟩ : ∃ Y, bkN R3 R4 X = Y := ⟨_, rfl⟩
    rw [hY] at HYF HYO HYC HYW HYR HYN HRB HBB HBT
    have HCY := Lib.hid (fun q l c W (h : RdT W W.heap.size d Y q l) => cls_any d Y q l c W h HYO.out HYN.out)
    have HSY := Lib.hid (fun q1 l1 c1 q2 l2 c2 W (h1 : Cel.RdT W W.heap.size d Y q1 l1) (h2 : Cel.RdT W W.heap.size d Y q2 l2) => Cel.same1_any d d Y q1 q2 l1 c1 l2 c2 W h1 h2 HYN.out)
    have HRT := Lib.hid (fun q l c W (h : RdT W W.heap.size d Y q l) => rtext10_any Y d q l c 64 W h HYO.out HYN.out HYR.out HYW.out)
    clear hY hg HYE HBN HXM HYD HEQ HEE HYF HYC HYW HYR HA3 HA4 HSH HQY13 HQZ13 HRA1 HRA2 HRA3 HRA4 HFM HOK HCN HWT HDP HFW
    generalize prN nmS Y 1 = TX at HBT HRT
    have z0 : w13.cell? ⟨gZ, 0, none⟩ = some (.int .i64 X.kind) := HZ13.out.cell 0 (.int .i64 X.kind) rfl
    have z1 : w13.cell? ⟨gZ, 1, none⟩ = some (.int .i64 X.num) := HZ13.out.cell 1 (.int .i64 X.num) rfl
    have z2 : w13.cell? ⟨gZ, 2, none⟩ = some (.string ⟨X.text.toArray⟩) := HZ13.out.cell 2 (.string ⟨X.text.toArray⟩) rfl
    have z3 : w13.cell? ⟨gZ, 3, none⟩ = some (.int .u64 X.frm.1.1) := HZ13.out.cell 3 (.int .u64 X.frm.1.1) rfl
    have z4 : w13.cell? ⟨gZ, 4, none⟩ = some (.int .i64 X.frm.1.2) := HZ13.out.cell 4 (.int .i64 X.frm.1.2) rfl
    have z5 : w13.cell? ⟨gZ, 5, none⟩ = some (.int .u64 X.frm.2.1) := HZ13.out.cell 5 (.int .u64 X.frm.2.1) rfl
    have z6 : w13.cell? ⟨gZ, 6, none⟩ = some (.int .i64 X.frm.2.2) := HZ13.out.cell 6 (.int .i64 X.frm.2.2) rfl
    have z7 : w13.cell? ⟨gZ, 7, none⟩ = some (.int .u64 X.tor.1.1) := HZ13.out.cell 7 (.int .u64 X.tor.1.1) rfl
    have z8 : w13.cell? ⟨gZ, 8, none⟩ = some (.int .i64 X.tor.1.2) := HZ13.out.cell 8 (.int .i64 X.tor.1.2) rfl
    have z9 : w13.cell? ⟨gZ, 9, none⟩ = some (.int .u64 X.tor.2.1) := HZ13.out.cell 9 (.int .u64 X.tor.2.1) rfl
    have z10 : w13.cell? ⟨gZ, 10, none⟩ = some (.int .i64 X.tor.2.2) := HZ13.out.cell 10 (.int .i64 X.tor.2.2) rfl
    have z11 : w13.cell? ⟨gZ, 11, none⟩ = some (.slice q10 l8 k10) := HZ13.out.cell 11 (.slice q10 l8 k10) rfl
    have hc1 := Lib.hid (HRB.out w13 (Below.refl _ _))
    rw [show Value.agg (bnA X q10 l8 k10) = .agg #[.int .i64 X.kind, .int .i64 X.num, .string ⟨X.text.toArray⟩, .int .u64 X.frm.1.1, .int .i64 X.frm.1.2, .int .u64 X.frm.2.1, .int .i64 X.frm.2.2, .int .u64 X.tor.1.1, .int .i64 X.tor.1.2, .int .u64 X.tor.2.1, .int .i64 X.tor.2.2, .slice q10 l8 k10] from rfl] at hc1
    go_wp2_with fail
    refine hc1.out.mono ?_
    rintro e w14 ⟨⟨q14, l14, k14, rfl, hk⟩, hb⟩
    have HB14 : Hid (Below w13.heap.size w13 w14) := hb
    have HQ14 : Hid (RdT w14 w14.heap.size d Y q14 l14) := RdP.rdT (fun b h => h.2) hk
    rw [show Value.agg (ndA Y q14 l14 k14) = .agg #[.int .i64 Y.kind, .int .i64 Y.num, .string ⟨Y.text.toArray⟩, .int .i64 Y.frm, .int .i64 Y.tor, .slice q14 l14 k14] from rfl]
    clear hb hk hc1 HRB z0 z1 z2 z3 z4 z5 z6 z7 z8 z9 z10 z11
    go_upto_region 12 with fail
    have e1 : w14.alloc (.cells #[.int .i64 Y.kind, .int .i64 Y.num, .string ⟨Y.text.toArray⟩, .int .i64 Y.frm, .int .i64 Y.tor, .slice q14 l14 k14] tRn) = w14.alloc (.cells (ndA Y q14 l14 k14) tRn) := rfl
    rw [e1]
    clear e1
    have hbn : Below w14.heap.size w14 (w14.alloc (.cells (ndA Y q14 l14 k14) tRn)) := (Below.refl _ _).alloc (Nat.le_refl _) _
    have HW15 : Hid (BlkC (w14.alloc (.cells (ndA Y q14 l14 k14) tRn)) w14.heap.size (ndA Y q14 l14 k14) tRn) := heap_alloc_new w14 _
    have HB15 : Hid (Below w13.heap.size w13 (w14.alloc (.cells (ndA Y q14 l14 k14) tRn))) := bel_call hbn HB14.out HB14.out.size
    have HQ15 : Hid (RdT (w14.alloc (.cells (ndA Y q14 l14 k14) tRn)) w14.heap.size d Y q14 l14) := HQ14.out.below hbn
    have hz15 := hbn.size
    clear hbn HB14 HQ14
    generalize w14.alloc (.cells (ndA Y q14 l14 k14) tRn) = w15 at HW15 HB15 HQ15 hz15 ⊢
    generalize w14.heap.size = gW at HW15 HQ15 hz15 ⊢
    have HY15 := Lib.hid (HY13.out.below HB15.out)
    have x0 : w15.cell? ⟨gY, 0, none⟩ = some (.int .i64 X.kind) := HY15.out.cell 0 (.int .i64 X.kind) rfl
    have x1 : w15.cell? ⟨gY, 1, none⟩ = some (.int .i64 X.num) := HY15.out.cell 1 (.int .i64 X.num) rfl
    have x2 : w15.cell? ⟨gY, 2, none⟩ = some (.string ⟨X.text.toArray⟩) := HY15.out.cell 2 (.string ⟨X.text.toArray⟩) rfl
    have x3 : w15.cell? ⟨gY, 3, none⟩ = some (.int .u64 X.frm.1.1) := HY15.out.cell 3 (.int .u64 X.frm.1.1) rfl
    have x4 : w15.cell? ⟨gY, 4, none⟩ = some (.int .i64 X.frm.1.2) := HY15.out.cell 4 (.int .i64 X.frm.1.2) rfl
    have x5 : w15.cell? ⟨gY, 5, none⟩ = some (.int .u64 X.frm.2.1) := HY15.out.cell 5 (.int .u64 X.frm.2.1) rfl
    have x6 : w15.cell? ⟨gY, 6, none⟩ = some (.int .i64 X.frm.2.2) := HY15.out.cell 6 (.int .i64 X.frm.2.2) rfl
    have x7 : w15.cell? ⟨gY, 7, none⟩ = some (.int .u64 X.tor.1.1) := HY15.out.cell 7 (.int .u64 X.tor.1.1) rfl
    have x8 : w15.cell? ⟨gY, 8, none⟩ = some (.int .i64 X.tor.1.2) := HY15.out.cell 8 (.int .i64 X.tor.1.2) rfl
    have x9 : w15.cell? ⟨gY, 9, none⟩ = some (.int .u64 X.tor.2.1) := HY15.out.cell 9 (.int .u64 X.tor.2.1) rfl
    have x10 : w15.cell? ⟨gY, 10, none⟩ = some (.int .i64 X.tor.2.2) := HY15.out.cell 10 (.int .i64 X.tor.2.2) rfl
    have x11 : w15.cell? ⟨gY, 11, none⟩ = some (.slice q8 l8 k8) := HY15.out.cell 11 (.slice q8 l8 k8) rfl
    have y0 : w15.cell? ⟨gW, 0, none⟩ = some (.int .i64 Y.kind) := HW15.out.cell 0 (.int .i64 Y.kind) rfl
    have y1 : w15.cell? ⟨gW, 1, none⟩ = some (.int .i64 Y.num) := HW15.out.cell 1 (.int .i64 Y.num) rfl
    have y2 : w15.cell? ⟨gW, 2, none⟩ = some (.string ⟨Y.text.toArray⟩) := HW15.out.cell 2 (.string ⟨Y.text.toArray⟩) rfl
    have y3 : w15.cell? ⟨gW, 3, none⟩ = some (.int .i64 Y.frm) := HW15.out.cell 3 (.int .i64 Y.frm) rfl
    have y4 : w15.cell? ⟨gW, 4, none⟩ = some (.int .i64 Y.tor) := HW15.out.cell 4 (.int .i64 Y.tor) rfl
    have y5 : w15.cell? ⟨gW, 5, none⟩ = some (.slice q14 l14 k14) := HW15.out.cell 5 (.slice q14 l14 k14) rfl
    have A0 := Kept.at x0
    have A1 := Kept.at x1
    have A2 := Kept.at x2
    have A3 := Kept.at x3
    have A4 := Kept.at x4
    have A5 := Kept.at x5
    have A6 := Kept.at x6
    have A7 := Kept.at x7
    have A8 := Kept.at x8
    have A9 := Kept.at x9
    have A10 := Kept.at x10
    have A11 := Kept.at x11
    have D0 := Kept.at y0
    have D1 := Kept.at y1
    have D2 := Kept.at y2
    have D3 := Kept.at y3
    have D4 := Kept.at y4
    have D5 := Kept.at y5
    refine Si.wp_region_sched (fun wx => ∃ x : Kept w15.heap.size w15, wx = x.v) [([0, 1, 2, 3, 4, 5, 6, 8], 7), ([], 9), ([], 10), ([11, 12, 13, 14, 15, 16, 17, 18, 20], 19), ([], 21), ([22, 23, 24], 25)] [26, 27] (by kernel_rfl) (by kernel_rfl) (by kernel_rfl) rfl (kept_drew _ _ (Nat.le_refl _)) ?_
    have kb0 : Hid (Below w15.heap.size w15 w15.drew) := Below.drew (Below.refl _ _)
    have HBK := Lib.hid (fun W (hW : Below w15.heap.size w15 W) => (bel_call hW HB15.out HB15.out.size : Below w13.heap.size w13 W))
    (unfold wpSeg; simp only [pick_nil, pick_cons, nthO_zero, nthO_succ, List.append])
    clear x0 x1 x2 x3 x4 x5 x6 x7 x8 x9 x10 x11 y0 y1 y2 y3 y4 y5
    repeat (go_big_quiet_step (fail))
    refine wpQuiet_nil ?_
    have hc1 := Lib.hid (HBB.out w15.drew (HBK.out _ kb0.out))
    rw [show Value.agg (bnA X q8 l8 k8) = .agg #[.int .i64 X.kind, .int .i64 X.num, .string ⟨X.text.toArray⟩, .int .u64 X.frm.1.1, .int .i64 X.frm.1.2, .int .u64 X.frm.2.1, .int .i64 X.frm.2.2, .int .u64 X.tor.1.1, .int .i64 X.tor.1.2, .int .u64 X.tor.2.1, .int .i64 X.tor.2.2, .slice q8 l8 k8] from rfl] at hc1
    go_wp2_with fail
    refine hc1.out.mono ?_
    rintro e x1 ⟨⟨q21, l21, k21, rfl, hk⟩, hb⟩
    have kb1 : Hid (Below w15.heap.size w15 x1) := bel_call hb kb0.out kb0.out.size
    have HV1 : Hid (Cel.RdT x1 x1.heap.size d Y q21 l21) := Cel.RdP.rdT (fun b h => h.2) hk
    rw [show Value.agg (Cel.ndA Y q21 l21 k21) = .agg #[.int .i64 Y.kind, .int .i64 Y.num, .string ⟨Y.text.toArray⟩, .int .i64 (cC Y.frm), .int .i64 (cR Y.frm), .int .i64 (cC Y.tor), .int .i64 (cR Y.tor), .slice q21 l21 k21] from rfl]
    clear hb hk hc1 HBB
    go_wp2_with fail
    refine ⟨rfl, ⟨⟨x1, kb1.out⟩, rfl⟩, ?_⟩
    (unfold wpSeg; simp only [pick_nil, pick_cons, nthO_zero, nthO_succ, List.append])
    repeat (go_big_quiet_step (fail))
    refine wpQuiet_nil ?_
    have hc2 := Lib.hid (HCY.out q14 l14 k14 x1 ((HQ15.out.below (kb1.out.mono hz15)).mono (Nat.le_trans hz15 kb1.out.size)))
    rw [show Value.agg (ndA Y q14 l14 k14) = .agg #[.int .i64 Y.kind, .int .i64 Y.num, .string ⟨Y.text.toArray⟩, .int .i64 Y.frm, .int .i64 Y.tor, .slice q14 l14 k14] from rfl] at hc2
    go_wp2_with fail
    refine hc2.out.mono ?_
    rintro e x2 ⟨⟨q22, k22, rfl, hk⟩, hb⟩
    have kb2 : Hid (Below w15.heap.size w15 x2) := bel_call hb kb1.out kb1.out.size
    have hc3 := Lib.hid (HSY.out q21 l21 k21 q22 l14 k22 x2 ((HV1.out.below hb).mono hb.size) (Cel.RdP.rdT (fun b h => h.2) hk))
    rw [show Value.agg (Cel.ndA Y q21 l21 k21) = .agg #[.int .i64 Y.kind, .int .i64 Y.num, .string ⟨Y.text.toArray⟩, .int .i64 (cC Y.frm), .int .i64 (cR Y.frm), .int .i64 (cC Y.tor), .int .i64 (cR Y.tor), .slice q21 l21 k21] from rfl, show Value.agg (Cel.ndA Y q22 l14 k22) = .agg #[.int .i64 Y.kind, .int .i64 Y.num, .string ⟨Y.text.toArray⟩, .int .i64 (cC Y.frm), .int .i64 (cR Y.frm), .int .i64 (cC Y.tor), .int .i64 (cR Y.tor), .slice q22 l14 k22] from rfl] at hc3
    rw [show Value.agg (Cel.ndA Y q22 l14 k22) = .agg #[.int .i64 Y.kind, .int .i64 Y.num, .string ⟨Y.text.toArray⟩, .int .i64 (cC Y.frm), .int .i64 (cR Y.frm), .int .i64 (cC Y.tor), .int .i64 (cR Y.tor), .slice q22 l14 k22] from rfl]
    clear hb hk hc2 HV1 HCY HSY
    go_wp2_with fail
    refine ⟨rfl, ⟨⟨x2, kb2.out⟩, rfl⟩, ?_⟩
    (unfold wpSeg; simp only [pick_nil, pick_cons, nthO_zero, nthO_succ, List.append])
    repeat (go_big_quiet_step (fail))
    refine wpQuiet_nil ?_
    go_wp2_with fail
    refine hc3.out.mono ?_
    rintro e x3 ⟨rfl, hb⟩
    have kb3 : Hid (Below w15.heap.size w15 x3) := bel_call hb kb2.out kb2.out.size
    clear hb hc3
    go_wp2_with fail
    refine ⟨rfl, ⟨⟨x3, kb3.out⟩, rfl⟩, ?_⟩
    (unfold wpSeg; simp only [pick_nil, pick_cons, nthO_zero, nthO_succ, List.append])
    repeat (go_big_quiet_step (fail))
    refine wpQuiet_nil ?_
    have hc4 := Lib.hid (HBT.out x3 (HBK.out _ kb3.out))
    rw [show Value.agg (bnA X q8 l8 k8) = .agg #[.int .i64 X.kind, .int .i64 X.num, .string ⟨X.text.toArray⟩, .int .u64 X.frm.1.1, .int .i64 X.frm.1.2, .int .u64 X.frm.2.1, .int .i64 X.frm.2.2, .int .u64 X.tor.1.1, .int .i64 X.tor.1.2, .int .u64 X.tor.2.1, .int .i64 X.tor.2.2, .slice q8 l8 k8] from rfl] at hc4
    go_wp2_with fail
    refine hc4.out.mono ?_
    rintro e x4 ⟨rfl, hb⟩
    have kb4 : Hid (Below w15.heap.size w15 x4) := bel_call hb kb3.out kb3.out.size
    have hc5 := Lib.hid (HRT.out q14 l14 k14 x4 ((HQ15.out.below (kb4.out.mono hz15)).mono (Nat.le_trans hz15 kb4.out.size)))
    rw [show Value.agg (ndA Y q14 l14 k14) = .agg #[.int .i64 Y.kind, .int .i64 Y.num, .string ⟨Y.text.toArray⟩, .int .i64 Y.frm, .int .i64 Y.tor, .slice q14 l14 k14] from rfl] at hc5
    clear hb hc4 HBT HRT
    go_wp2_with fail
    refine ⟨rfl, ⟨⟨x4, kb4.out⟩, rfl⟩, ?_⟩
    (unfold wpSeg; simp only [pick_nil, pick_cons, nthO_zero, nthO_succ, List.append])
    repeat (go_big_quiet_step (fail))
    refine wpQuiet_nil ?_
    go_wp2_with fail
    refine hc5.out.mono ?_
    rintro e x5 ⟨rfl, hb⟩
    have kb5 : Hid (Below w15.heap.size w15 x5) := bel_call hb kb4.out kb4.out.size
    clear hb hc5
    go_wp2_with fail
    refine ⟨rfl, ⟨⟨x5, kb5.out⟩, rfl⟩, ?_⟩
    (unfold wpSeg; simp only [pick_nil, pick_cons, nthO_zero, nthO_succ, List.append])
    repeat (go_big_quiet_step (fail))
    refine wpQuiet_nil ?_
    go_wp2_with fail
    refine (HAW.out _).mono ?_
    rintro e x6 ⟨rfl, hb⟩
    have kb6 : Hid (Below w15.heap.size w15 x6) := bel_call hb kb5.out kb5.out.size
    have hend := HBWw.out x6 (HBK.out _ kb6.out)
    go_wp2_with fail
    refine ⟨rfl, ⟨⟨x6, kb6.out⟩, rfl⟩, ?_⟩
    (unfold wpSeg; simp only [pick_nil, pick_cons, nthO_zero, nthO_succ, List.append])
    repeat (go_big_quiet_step (fail))
    refine wpQuiet_nil ?_
    go_wp2_with fail
    go_ret
    exact ⟨rfl, hend⟩
  · have y1 : (E == 0) = false := by simpa using hE0
    have y2 : (E != 0) = true := by simpa using hE0
    have HB13w : Hid (Below w.heap.size w w13) := bel_call HB13.out HB6.out HB6.out.size
    go_wp2_with fail
    refine (HAW.out _).mono ?_
    rintro e w14 ⟨rfl, hb⟩
    have hB3 := bel_call hb HB13w.out HB13w.out.size
    go_wp2_with fail
    go_ret
    exact ⟨rfl, hB3⟩
end Go.Proofs.YtjklbbmgjjdalaaGreatDoor.Bd
