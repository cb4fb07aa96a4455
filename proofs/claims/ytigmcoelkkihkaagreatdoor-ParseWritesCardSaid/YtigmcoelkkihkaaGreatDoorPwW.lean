/- Trees over cells: how tightly a node holds. Turned by gen_cel.py out of the texts on trees over numbers. Trees over cells: write at faults. Turned by gen_cel.py out of the texts on trees over numbers. Trees over cells: write at texts. Turned by gen_cel.py out of the texts on trees over numbers. Trees over cells: write at numbers and names. Turned by gen_cel.py out of the texts on trees over numbers. -/
import Derived.Test.YtigmcoelkkihkaaGreatDoorPwV
import Derived.Test.YtigmcoelkkihkaaGreatDoorPwH
import Derived.Test.YtigmcoelkkihkaaGreatDoorPwO
import Derived.Test.YtigmcoelkkihkaaGreatDoorPwP
set_option linter.unusedSimpArgs false
set_option linter.unusedVariables false
namespace Go.Proofs.YtigmcoelkkihkaaGreatDoor.Cel
open Go.RowKit Go.Joins

set_option maxRecDepth 100000 in
set_option maxHeartbeats 2000000 in
theorem strengthN (n : Nd) (p : Option Addr) (len cap : Nat) (w : World) : Calls Tryz.prog 62 #[.agg (ndA n p len cap)] w fun e w' => e = .returned (.int .i64 (hdS n.kind n.text)) ∧ Below w.heap.size w w' := by
  have hA0 : Hid (NdB tPn (w.alloc (.cells (ndA n p len cap) tPn)) w.heap.size n p len cap) := heap_alloc_new w _
  have hAB : Hid (Below w.heap.size w (w.alloc (.cells (ndA n p len cap) tPn))) := by unfold Hid; (repeat' (first | (with_reducible exact Below.refl _ _) | (with_reducible assumption) | (with_reducible refine Below.alloc ?_ ?_ _) | (with_reducible refine bel_drewN ?_ _) | (with_reducible refine Below.drew ?_) | (with_reducible refine Below.setCell ?_ ?_ _) | (with_reducible refine bel_call ‹_› ?_ ?_) | go_size))
  have HLV := Lib.hid (fun W => level_any ⟨n.text.toArray⟩ W)
  rw [show (⟨n.text.toArray⟩ : ByteArray).data.toList = n.text from rfl] at HLV
  obtain ⟨O, hO⟩ : ∃ O, hdS n.kind n.text = O := ⟨_, rfl⟩
  have HO : Hid (O = if n.kind = 6 then lvS n.text else if n.kind = 5 then 5 else 6) := by unfold Hid; rw [← hO]; rfl
  rw [hO]
  clear hO
  generalize lvS n.text = lv at HLV HO
  rw [ndA_eq]
  go_enter Tryz.func62, Tryz.ntmps62
  go_upto_region 1 with fail
  have e0 : w.alloc (.cells #[.int .i64 n.kind, .int .i64 n.num, .string ⟨n.text.toArray⟩, .int .i64 (cC n.frm), .int .i64 (cR n.frm), .int .i64 (cC n.tor), .int .i64 (cR n.tor), .slice p len cap] tPn) = w.alloc (.cells (ndA n p len cap) tPn) := rfl
  rw [e0]
  clear e0
  generalize w.alloc (.cells (ndA n p len cap) tPn) = w0 at hA0 hAB ⊢
  obtain ⟨c0, c1, c2, c3, cd3, c4, cd4, c5⟩ := hA0.out.cells
  by_cases h6 : n.kind = 6
  · rw [h6] at c0
    go_wp2_with fail
    refine (HLV.out _).mono ?_
    rintro e w3 ⟨rfl, hb3⟩
    have hB3 := bel_call hb3 hAB.out hAB.out.size
    go_wp2_with fail
    go_ret
    exact ⟨by rw [HO.out, if_pos h6]; rfl, hB3⟩
  · by_cases h5 : n.kind = 5
    · rw [h5] at c0
      go_wp2_with fail
      go_ret
      exact ⟨by rw [HO.out, if_neg h6, if_pos h5]; rfl, hAB.out⟩
    · go_wp2_with fail
      go_ret
      exact ⟨by rw [HO.out, if_neg h6, if_neg h5]; rfl, hAB.out⟩
end Go.Proofs.YtigmcoelkkihkaaGreatDoor.Cel
namespace Go.Proofs.YtigmcoelkkihkaaGreatDoor.Cel
open Go.RowKit Go.Joins

/-- 'write' at a tree of this kind (k = none: of any). -/
def WriteN (nm : Int → Bs) (F : Value) (q : Nd → Prop) (d : Nat) : Prop := ∀ (n : Nd) (p : Option Addr) (len cap : Nat) (least lv : Int) (B b : Nat) (l : Bs) (w0 w : World), q n → RdT w B d n p len → OkN n → rtN n lv = true → 0 ≤ least → least ≤ 5 → w0.ShapedOpen Tryz.prog → B = w0.heap.size → Below B w0 w →
    Lib.IsBuilder tBd 5 B b (Lib.byteCells l) w → B ≤ w.heap.size → l.length + wtN n ≤ 2200000 →
    Calls Tryz.prog 42 #[.pointer (some ⟨b, 0, none⟩), .agg (ndA n p len cap), .int .i64 least, F] w fun e w' => e = .returned (.tuple #[]) ∧ Lib.IsBuilder tBd 5 B b (Lib.byteCells (l ++ prN nm n least)) w' ∧ Below B w w' ∧ KeepN w w'

set_option maxRecDepth 100000 in
set_option maxHeartbeats 4000000 in
theorem write_8 (nm : Int → Bs) (F : Value) (d : Nat) : WriteN nm F (fun n => n.kind = 8) d := by
  intro n p len cap least lv B b l ws w hq hrd hok hrt hl0 hl1 hsh hB0 hw0 hib hB hlen
  have hk : n.kind = 8 := hq
  have HK := Lib.hid hk
  have HST := Lib.hid (fun W => strengthN n p len cap W)
  have hpr : prN nm n least = refBs := by
    cases n with
    | mk k u t f o a =>
      obtain rfl : k = 8 := hk
      rw [prN, if_neg (by unfold hdS; simp; omega)]
      rfl
  have hw : 400 ≤ wtN n := by cases n; rw [wtN]; omega
  rw [hpr]
  rw [show hdS n.kind n.text = 6 from by rw [hk]; rfl] at HST
  clear hrd hok hrt hsh hB0 hw0 hpr hk hq
  have hl6 : ¬ 6 < least := by omega
  have hA0 : Hid (NdB tPn (w.alloc (.cells (ndA n p len cap) tPn)) w.heap.size n p len cap) := heap_alloc_new w _
  have hAB : Hid (Below B w (w.alloc (.cells (ndA n p len cap) tPn))) := (Below.refl B w).alloc hB _
  have hAK : Hid (KeepN w (w.alloc (.cells (ndA n p len cap) tPn))) := KeepN.of (by (repeat' (first | (with_reducible exact Below.refl _ _) | (with_reducible assumption) | (with_reducible refine Below.alloc ?_ ?_ _) | (with_reducible refine bel_drewN ?_ _) | (with_reducible refine Below.drew ?_) | (with_reducible refine Below.setCell ?_ ?_ _) | (with_reducible refine bel_call ‹_› ?_ ?_) | go_size)))
  have HIB := Lib.hid (IsBuilder_below hib (Below.alloc (Below.refl w.heap.size w) (Nat.le_refl _) (.cells (ndA n p len cap) tPn)))
  rw [ndA_eq] at HST ⊢
  clear hib
  go_enter_defers Tryz.func42, Tryz.ntmps42
  go_upto_region 1 with fail
  have e0 : w.alloc (.cells #[.int .i64 n.kind, .int .i64 n.num, .string ⟨n.text.toArray⟩, .int .i64 (cC n.frm), .int .i64 (cR n.frm), .int .i64 (cC n.tor), .int .i64 (cR n.tor), .slice p len cap] tPn) = w.alloc (.cells (ndA n p len cap) tPn) := rfl
  rw [e0]
  clear e0
  generalize w.alloc (.cells (ndA n p len cap) tPn) = w0 at hA0 hAB HIB hAK ⊢
  obtain ⟨c0, c1, c2, c3, cd3, c4, cd4, c5⟩ := hA0.out.cells
  go_wp2_with fail
  refine (HST.out _).mono ?_
  rintro e w1 ⟨rfl, hb1⟩
  have hz0 : B ≤ w0.heap.size := Nat.le_trans hB hAB.out.size
  have hB1 : Hid (Below B w w1) := bel_call hb1 hAB.out hz0
  have hA1 := Lib.hid (hA0.out.below hb1)
  have HI1 := Lib.hid (IsBuilder_below HIB.out hb1)
  have HK1 : Hid (KeepN w w1) := hAK.out.trans (KeepN.of hb1)
  have hz1 : B ≤ w1.heap.size := Nat.le_trans hz0 hb1.size
  generalize w.heap.size = bn at hA0 hA1 hB hb1 ⊢
  clear hb1 hA0 HIB hAB hz0 c0 c1 c2 c3 cd3 c4 cd4 c5 HST hAK
  obtain ⟨c0, c1, c2, c3, cd3, c4, cd4, c5⟩ := hA1.out.cells
  rw [HK.out] at c0
  have hXs : (⟨#[35, 82, 69, 70, 33]⟩ : ByteArray).size = 5 := rfl
  go_wp2_with fail
  refine (write_atK B b l ⟨#[35, 82, 69, 70, 33]⟩ w1 HI1.out (by rw [hXs]; omega) hz1).mono ?_
  rintro e w3 ⟨rfl, hi3, hb3, hk3⟩
  have hB3 : Hid (Below B w w3) := hB1.out.trans hb3
  have HI3 := Lib.hid hi3
  have HK3 : Hid (KeepN w w3) := HK1.out.trans hk3
  clear hi3 hb3 HI1 hB1 hXs HK1 hk3
  go_wp2_with fail
  exact ⟨_, results_none rfl _ _ _, rfl, HI3.out, hB3.out, HK3.out⟩
end Go.Proofs.YtigmcoelkkihkaaGreatDoor.Cel
namespace Go.Proofs.YtigmcoelkkihkaaGreatDoor.Cel
open Go.RowKit Go.Joins

set_option maxRecDepth 100000 in
set_option maxHeartbeats 4000000 in
theorem write_2 (nm : Int → Bs) (F : Value) (d : Nat) : WriteN nm F (fun n => n.kind = 2) d := by
  intro n p len cap least lv B b l ws w hq hrd hok hrt hl0 hl1 hsh hB0 hw0 hib hB hlen
  have hk : n.kind = 2 := hq
  have HK := Lib.hid hk
  have HST := Lib.hid (fun W => strengthN n p len cap W)
  have hpr : prN nm n least = quoT n.text := by
    cases n with
    | mk k u t f o a =>
      obtain rfl : k = 2 := hk
      rw [prN, if_neg (by unfold hdS; simp; omega)]
      rfl
  have hw : 400 ≤ wtN n := by cases n; rw [wtN]; omega
  rw [hpr]
  have htx : n.text.length ≤ 1100000 := by cases n; rw [wtN] at hlen; simp only [Nd.text]; omega
  have HTX := Lib.hid (fun W (hW : Below B w W) => quote_any ⟨n.text.toArray⟩ (by rw [Lib.size_eq]; exact htx) W (shaped_below hsh (by rw [← hB0]; exact hw0.trans hW)))
  rw [show (⟨n.text.toArray⟩ : ByteArray).data.toList = n.text from rfl] at HTX
  have hbl : (quoT n.text).length ≤ wtN n := by
    have := dblT_len n.text
    cases n
    rw [wtN]
    unfold quoT
    simp only [Nd.text] at *
    simp
    omega
  obtain ⟨X, hX⟩ : ∃ X, quoT n.text = X := ⟨_, rfl⟩
  rw [hX] at HTX ⊢
  have hXl : X.length ≤ wtN n := by rw [← hX]; exact hbl
  clear hX hbl
  rw [show hdS n.kind n.text = 6 from by rw [hk]; rfl] at HST
  clear hrd hok hrt hsh hB0 hw0 hpr hk hq
  have hl6 : ¬ 6 < least := by omega
  have hA0 : Hid (NdB tPn (w.alloc (.cells (ndA n p len cap) tPn)) w.heap.size n p len cap) := heap_alloc_new w _
  have hAB : Hid (Below B w (w.alloc (.cells (ndA n p len cap) tPn))) := (Below.refl B w).alloc hB _
  have hAK : Hid (KeepN w (w.alloc (.cells (ndA n p len cap) tPn))) := KeepN.of (by (repeat' (first | (with_reducible exact Below.refl _ _) | (with_reducible assumption) | (with_reducible refine Below.alloc ?_ ?_ _) | (with_reducible refine bel_drewN ?_ _) | (with_reducible refine Below.drew ?_) | (with_reducible refine Below.setCell ?_ ?_ _) | (with_reducible refine bel_call ‹_› ?_ ?_) | go_size)))
  have HIB := Lib.hid (IsBuilder_below hib (Below.alloc (Below.refl w.heap.size w) (Nat.le_refl _) (.cells (ndA n p len cap) tPn)))
  rw [ndA_eq] at HST ⊢
  clear hib
  go_enter_defers Tryz.func42, Tryz.ntmps42
  go_upto_region 1 with fail
  have e0 : w.alloc (.cells #[.int .i64 n.kind, .int .i64 n.num, .string ⟨n.text.toArray⟩, .int .i64 (cC n.frm), .int .i64 (cR n.frm), .int .i64 (cC n.tor), .int .i64 (cR n.tor), .slice p len cap] tPn) = w.alloc (.cells (ndA n p len cap) tPn) := rfl
  rw [e0]
  clear e0
  generalize w.alloc (.cells (ndA n p len cap) tPn) = w0 at hA0 hAB HIB hAK ⊢
  obtain ⟨c0, c1, c2, c3, cd3, c4, cd4, c5⟩ := hA0.out.cells
  go_wp2_with fail
  refine (HST.out _).mono ?_
  rintro e w1 ⟨rfl, hb1⟩
  have hz0 : B ≤ w0.heap.size := Nat.le_trans hB hAB.out.size
  have hB1 : Hid (Below B w w1) := bel_call hb1 hAB.out hz0
  have hA1 := Lib.hid (hA0.out.below hb1)
  have HI1 := Lib.hid (IsBuilder_below HIB.out hb1)
  have HK1 : Hid (KeepN w w1) := hAK.out.trans (KeepN.of hb1)
  have hz1 : B ≤ w1.heap.size := Nat.le_trans hz0 hb1.size
  generalize w.heap.size = bn at hA0 hA1 hB hb1 ⊢
  clear hb1 hA0 HIB hAB hz0 c0 c1 c2 c3 cd3 c4 cd4 c5 HST hAK
  obtain ⟨c0, c1, c2, c3, cd3, c4, cd4, c5⟩ := hA1.out.cells
  rw [HK.out] at c0
  have hXs : (⟨X.toArray⟩ : ByteArray).size = X.length := by rw [Lib.size_eq]
  go_wp2_with fail
  refine (HTX.out w1 hB1.out).mono ?_
  rintro e w2 ⟨rfl, hb2⟩
  have hB2 : Hid (Below B w w2) := bel_call hb2 hB1.out hz1
  have HI2 := Lib.hid (IsBuilder_below HI1.out hb2)
  have HK2 : Hid (KeepN w w2) := HK1.out.trans (KeepN.of hb2)
  have hz2 : B ≤ w2.heap.size := Nat.le_trans hz1 hb2.size
  clear hb2 hA1 HI1 hB1 hz1 c0 c1 c2 c3 cd3 c4 cd4 c5 HTX HK1
  go_wp2_with fail
  refine (write_atK B b l ⟨X.toArray⟩ w2 HI2.out (by rw [hXs]; omega) hz2).mono ?_
  rintro e w3 ⟨rfl, hi3, hb3, hk3⟩
  have hB3 : Hid (Below B w w3) := hB2.out.trans hb3
  have HI3 := Lib.hid hi3
  have HK3 : Hid (KeepN w w3) := HK2.out.trans hk3
  clear hi3 hb3 HI2 hB2 hXs HK2 hk3
  go_wp2_with fail
  exact ⟨_, results_none rfl _ _ _, rfl, HI3.out, hB3.out, HK3.out⟩
end Go.Proofs.YtigmcoelkkihkaaGreatDoor.Cel
namespace Go.Proofs.YtigmcoelkkihkaaGreatDoor.Cel
open Go.RowKit Go.Joins

/-- The law's 'name', as a value. -/
abbrev nameF : Value := .func (.func 14) #[] #[]

set_option maxRecDepth 100000 in
set_option maxHeartbeats 4000000 in
theorem write_1 (d : Nat) : WriteN nmS nameF (fun n => n.kind = 1) d := by
  intro n p len cap least lv B b l ws w hq hrd hok hrt hl0 hl1 hsh hB0 hw0 hib hB hlen
  have hk : n.kind = 1 := hq
  have HK := Lib.hid hk
  have HST := Lib.hid (fun W => strengthN n p len cap W)
  have hpr : prN nmS n least = txt n.num := by
    cases n with
    | mk k u t f o a =>
      obtain rfl : k = 1 := hk
      rw [prN, if_neg (by unfold hdS; simp; omega)]
      rfl
  have hw : 400 ≤ wtN n := by cases n; rw [wtN]; omega
  rw [hpr]
  have HTX := Lib.hid (fun W (_ : Below B w W) => text_any n.num hok.num.1 hok.num.2 W)
  have hbl : (txt n.num).length ≤ wtN n := by have := txt_lenT n.num hok.num.1 hok.num.2; omega
  obtain ⟨X, hX⟩ : ∃ X, txt n.num = X := ⟨_, rfl⟩
  rw [hX] at HTX ⊢
  have hXl : X.length ≤ wtN n := by rw [← hX]; exact hbl
  clear hX hbl
  rw [show hdS n.kind n.text = 6 from by rw [hk]; rfl] at HST
  clear hrd hok hrt hsh hB0 hw0 hpr hk hq
  have hl6 : ¬ 6 < least := by omega
  have hA0 : Hid (NdB tPn (w.alloc (.cells (ndA n p len cap) tPn)) w.heap.size n p len cap) := heap_alloc_new w _
  have hAB : Hid (Below B w (w.alloc (.cells (ndA n p len cap) tPn))) := (Below.refl B w).alloc hB _
  have hAK : Hid (KeepN w (w.alloc (.cells (ndA n p len cap) tPn))) := KeepN.of (by (repeat' (first | (with_reducible exact Below.refl _ _) | (with_reducible assumption) | (with_reducible refine Below.alloc ?_ ?_ _) | (with_reducible refine bel_drewN ?_ _) | (with_reducible refine Below.drew ?_) | (with_reducible refine Below.setCell ?_ ?_ _) | (with_reducible refine bel_call ‹_› ?_ ?_) | go_size)))
  have HIB := Lib.hid (IsBuilder_below hib (Below.alloc (Below.refl w.heap.size w) (Nat.le_refl _) (.cells (ndA n p len cap) tPn)))
  rw [ndA_eq] at HST ⊢
  clear hib
  go_enter_defers Tryz.func42, Tryz.ntmps42
  go_upto_region 1 with fail
  have e0 : w.alloc (.cells #[.int .i64 n.kind, .int .i64 n.num, .string ⟨n.text.toArray⟩, .int .i64 (cC n.frm), .int .i64 (cR n.frm), .int .i64 (cC n.tor), .int .i64 (cR n.tor), .slice p len cap] tPn) = w.alloc (.cells (ndA n p len cap) tPn) := rfl
  rw [e0]
  clear e0
  generalize w.alloc (.cells (ndA n p len cap) tPn) = w0 at hA0 hAB HIB hAK ⊢
  obtain ⟨c0, c1, c2, c3, cd3, c4, cd4, c5⟩ := hA0.out.cells
  go_wp2_with fail
  refine (HST.out _).mono ?_
  rintro e w1 ⟨rfl, hb1⟩
  have hz0 : B ≤ w0.heap.size := Nat.le_trans hB hAB.out.size
  have hB1 : Hid (Below B w w1) := bel_call hb1 hAB.out hz0
  have hA1 := Lib.hid (hA0.out.below hb1)
  have HI1 := Lib.hid (IsBuilder_below HIB.out hb1)
  have HK1 : Hid (KeepN w w1) := hAK.out.trans (KeepN.of hb1)
  have hz1 : B ≤ w1.heap.size := Nat.le_trans hz0 hb1.size
  generalize w.heap.size = bn at hA0 hA1 hB hb1 ⊢
  clear hb1 hA0 HIB hAB hz0 c0 c1 c2 c3 cd3 c4 cd4 c5 HST hAK
  obtain ⟨c0, c1, c2, c3, cd3, c4, cd4, c5⟩ := hA1.out.cells
  rw [HK.out] at c0
  have hXs : (⟨X.toArray⟩ : ByteArray).size = X.length := by rw [Lib.size_eq]
  go_wp2_with fail
  refine (HTX.out w1 hB1.out).mono ?_
  rintro e w2 ⟨rfl, hb2⟩
  have hB2 : Hid (Below B w w2) := bel_call hb2 hB1.out hz1
  have HI2 := Lib.hid (IsBuilder_below HI1.out hb2)
  have HK2 : Hid (KeepN w w2) := HK1.out.trans (KeepN.of hb2)
  have hz2 : B ≤ w2.heap.size := Nat.le_trans hz1 hb2.size
  clear hb2 hA1 HI1 hB1 hz1 c0 c1 c2 c3 cd3 c4 cd4 c5 HTX HK1
  go_wp2_with fail
  refine (write_atK B b l ⟨X.toArray⟩ w2 HI2.out (by rw [hXs]; omega) hz2).mono ?_
  rintro e w3 ⟨rfl, hi3, hb3, hk3⟩
  have hB3 : Hid (Below B w w3) := hB2.out.trans hb3
  have HI3 := Lib.hid hi3
  have HK3 : Hid (KeepN w w3) := HK2.out.trans hk3
  clear hi3 hb3 HI2 hB2 hXs HK2 hk3
  go_wp2_with fail
  exact ⟨_, results_none rfl _ _ _, rfl, HI3.out, hB3.out, HK3.out⟩

set_option maxRecDepth 100000 in
set_option maxHeartbeats 4000000 in
theorem write_3 (d : Nat) : WriteN nmS nameF (fun n => n.kind = 3) d := by
  intro n p len cap least lv B b l ws w hq hrd hok hrt hl0 hl1 hsh hB0 hw0 hib hB hlen
  have hk : n.kind = 3 := hq
  have HK := Lib.hid hk
  have HST := Lib.hid (fun W => strengthN n p len cap W)
  have hpr : prN nmS n least = nmS n.frm := by
    cases n with
    | mk k u t f o a =>
      obtain rfl : k = 3 := hk
      rw [prN, if_neg (by unfold hdS; simp; omega)]
      rfl
  have hw : 400 ≤ wtN n := by cases n; rw [wtN]; omega
  rw [hpr]
  have HTX := Lib.hid (fun W (_ : Below B w W) => pname_any (cC n.frm) (cR n.frm) W)
  rw [show cellS (cC n.frm) (cR n.frm) = nmS n.frm from rfl] at HTX
  have hbl : (nmS n.frm).length ≤ wtN n := by have := nmS_len n.frm; omega
  obtain ⟨X, hX⟩ : ∃ X, nmS n.frm = X := ⟨_, rfl⟩
  rw [hX] at HTX ⊢
  have hXl : X.length ≤ wtN n := by rw [← hX]; exact hbl
  clear hX hbl
  rw [show hdS n.kind n.text = 6 from by rw [hk]; rfl] at HST
  clear hrd hok hrt hsh hB0 hw0 hpr hk hq
  have hl6 : ¬ 6 < least := by omega
  have hA0 : Hid (NdB tPn (w.alloc (.cells (ndA n p len cap) tPn)) w.heap.size n p len cap) := heap_alloc_new w _
  have hAB : Hid (Below B w (w.alloc (.cells (ndA n p len cap) tPn))) := (Below.refl B w).alloc hB _
  have hAK : Hid (KeepN w (w.alloc (.cells (ndA n p len cap) tPn))) := KeepN.of (by (repeat' (first | (with_reducible exact Below.refl _ _) | (with_reducible assumption) | (with_reducible refine Below.alloc ?_ ?_ _) | (with_reducible refine bel_drewN ?_ _) | (with_reducible refine Below.drew ?_) | (with_reducible refine Below.setCell ?_ ?_ _) | (with_reducible refine bel_call ‹_› ?_ ?_) | go_size)))
  have HIB := Lib.hid (IsBuilder_below hib (Below.alloc (Below.refl w.heap.size w) (Nat.le_refl _) (.cells (ndA n p len cap) tPn)))
  rw [ndA_eq] at HST ⊢
  clear hib
  go_enter_defers Tryz.func42, Tryz.ntmps42
  go_upto_region 1 with fail
  have e0 : w.alloc (.cells #[.int .i64 n.kind, .int .i64 n.num, .string ⟨n.text.toArray⟩, .int .i64 (cC n.frm), .int .i64 (cR n.frm), .int .i64 (cC n.tor), .int .i64 (cR n.tor), .slice p len cap] tPn) = w.alloc (.cells (ndA n p len cap) tPn) := rfl
  rw [e0]
  clear e0
  generalize w.alloc (.cells (ndA n p len cap) tPn) = w0 at hA0 hAB HIB hAK ⊢
  obtain ⟨c0, c1, c2, c3, cd3, c4, cd4, c5⟩ := hA0.out.cells
  go_wp2_with fail
  refine (HST.out _).mono ?_
  rintro e w1 ⟨rfl, hb1⟩
  have hz0 : B ≤ w0.heap.size := Nat.le_trans hB hAB.out.size
  have hB1 : Hid (Below B w w1) := bel_call hb1 hAB.out hz0
  have hA1 := Lib.hid (hA0.out.below hb1)
  have HI1 := Lib.hid (IsBuilder_below HIB.out hb1)
  have HK1 : Hid (KeepN w w1) := hAK.out.trans (KeepN.of hb1)
  have hz1 : B ≤ w1.heap.size := Nat.le_trans hz0 hb1.size
  generalize w.heap.size = bn at hA0 hA1 hB hb1 ⊢
  clear hb1 hA0 HIB hAB hz0 c0 c1 c2 c3 cd3 c4 cd4 c5 HST hAK
  obtain ⟨c0, c1, c2, c3, cd3, c4, cd4, c5⟩ := hA1.out.cells
  rw [HK.out] at c0
  have hXs : (⟨X.toArray⟩ : ByteArray).size = X.length := by rw [Lib.size_eq]
  go_wp2_with fail
  go_at_call 14
  refine (HTX.out w1 hB1.out).mono ?_
  rintro e w2 ⟨rfl, hb2⟩
  have hB2 : Hid (Below B w w2) := bel_call hb2 hB1.out hz1
  have HI2 := Lib.hid (IsBuilder_below HI1.out hb2)
  have HK2 : Hid (KeepN w w2) := HK1.out.trans (KeepN.of hb2)
  have hz2 : B ≤ w2.heap.size := Nat.le_trans hz1 hb2.size
  clear hb2 hA1 HI1 hB1 hz1 c0 c1 c2 c3 cd3 c4 cd4 c5 HTX HK1
  go_wp2_with fail
  refine (write_atK B b l ⟨X.toArray⟩ w2 HI2.out (by rw [hXs]; omega) hz2).mono ?_
  rintro e w3 ⟨rfl, hi3, hb3, hk3⟩
  have hB3 : Hid (Below B w w3) := hB2.out.trans hb3
  have HI3 := Lib.hid hi3
  have HK3 : Hid (KeepN w w3) := HK2.out.trans hk3
  clear hi3 hb3 HI2 hB2 hXs HK2 hk3
  go_wp2_with fail
  exact ⟨_, results_none rfl _ _ _, rfl, HI3.out, hB3.out, HK3.out⟩
end Go.Proofs.YtigmcoelkkihkaaGreatDoor.Cel
