/- Numfmt: the program's Write: the walk. -/
import Derived.Test.YteknbdodihfbeaaDoorNumI
import Derived.Test.YteknbdodihfbeaaDoorDivD
set_option linter.unusedSimpArgs false
set_option linter.unusedVariables false
namespace Go.Proofs.YteknbdodihfbeaaDoor
open Go.RowKit Go.Joins

theorem okV_rng (z : Int) : -9223372036854775808 ≤ okV z ∧ okV z ≤ 9223372036854775807 := by
  unfold okV
  by_cases h : inR z = true
  · rw [if_pos h]
    simpa [inR] using h
  · rw [if_neg h]
    omega
theorem txt_len (d : Int) (h1 : -9223372036854775808 ≤ d) (h2 : d ≤ 9223372036854775807) : (txt d).length ≤ 200 := by
  have a1 := digs_length_le (n := d.natAbs / 1000000) (k := 20) (by omega)
  have a2 := trimRightB_len (dgText (d.natAbs % 1000000) 6) 48
  have a3 := dgText_six (n := d.natAbs % 1000000) (Nat.mod_lt _ (by omega))
  have a4 : (dgText (d.natAbs / 1000000) 1).length = (padL (d.natAbs / 1000000) 1).length := by simp [dgText, lettersOf]
  have a5 := padL_len (d.natAbs / 1000000) 1
  unfold txt
  rw [List.length_append, List.length_append]
  have b1 : (if d < 0 then [45] else [] : Bs).length ≤ 1 := by split <;> simp
  have b2 : (if 0 < d.natAbs % 1000000 then 46 :: Lib.trimRightB (dgText (d.natAbs % 1000000) 6) 48 else [] : Bs).length ≤ 7 := by
    split
    · rw [List.length_cons]; omega
    · simp
  omega
theorem grp_len : ∀ (fi : Bool) (a : Bs), (grp fi a).length ≤ 2 * a.length
  | _, [] => Nat.le_refl _
  | fi, c :: r => by
    have := grp_len false r
    have h1 : (if fi = false ∧ (r.length + 1) % 3 = 0 then [44] else [] : Bs).length ≤ 1 := by split <;> simp
    rw [grp, List.length_append, List.length_cons, List.length_cons]
    omega
def WrR (r : Bs × Int) (w : World) (e : Ending) (w' : World) : Prop := e = .returned (.tuple #[.string ⟨r.1.toArray⟩, .int .i64 r.2]) ∧ Below w.heap.size w w'
theorem WrR.of {X : Bs} {k : Int} {r : Bs × Int} {w w' : World} (h : (X, k) = r) (hb : Below w.heap.size w w') : WrR r w (.returned (.tuple #[.string ⟨X.toArray⟩, .int .i64 k])) w' := by
  subst h
  exact ⟨rfl, hb⟩
set_option maxRecDepth 100000 in
set_option maxHeartbeats 4000000 in
theorem nwrite_any (hd tl : Bs) (n p o : Nat) (cm pc : Bool) (hn : n ≤ 64) (hp : p ≤ 6) (ho : o ≤ 6) (hhd : hd.length ≤ 200) (htl : tl.length ≤ 200) (d : Int) (h1 : -9223372036854775808 ≤ d) (h2 : d ≤ 9223372036854775807) (w : World) (hsh : w.ShapedOpen Tryd.prog) (r : Bs × Int) (hr : wrV bodyP ⟨hd, tl, n, p, o, cm, pc⟩ d = r) :
    Calls Tryd.prog 9 #[.agg #[.string ⟨hd.toArray⟩, .string ⟨tl.toArray⟩, .int .i64 (n : Nat), .int .i64 (p : Nat), .int .i64 (o : Nat), .bool cm, .bool pc], .int .i64 d] w (WrR r w) := by
  have HM := Lib.hid (fun W => mul_any d 100000000 h1 h2 (by omega) (by omega) W)
  obtain ⟨d1, hd1⟩ : ∃ d1, (if pc = true then okV (mulZ d) else d) = d1 := ⟨_, rfl⟩
  obtain ⟨e1, he1⟩ : ∃ e1, (if pc = true then okE (mulZ d) else 0) = e1 := ⟨_, rfl⟩
  have hr1 : -9223372036854775808 ≤ d1 ∧ d1 ≤ 9223372036854775807 := by
    rw [← hd1]
    split
    · exact okV_rng _
    · omega
  have HN := Lib.hid (fun W => round_any d1 ((p + o : Nat) : Int) hr1.1 hr1.2 W)
  obtain ⟨z, hz⟩ : ∃ z, rndZ d1 ((p + o : Nat) : Int) = z := ⟨_, rfl⟩
  have HW : Hid ((if e1 ≠ 0 then ([], e1) else if okE z ≠ 0 then ([], okE z) else (bodyP ⟨hd, tl, n, p, o, cm, pc⟩ (okV z), 0)) = r) := by
    unfold Hid
    rw [← hr]
    unfold wrV
    rw [← hz, ← hd1]
    cases pc
    · rw [← he1]
      rfl
    · simp only [if_true] at he1 hd1 ⊢
      rw [he1]
      by_cases h : e1 = 0
      · subst h
        simp
      · rw [if_pos h, if_pos ⟨trivial, h⟩]
  have hf0 := Lib.hid (heap_alloc_new w (.cells #[.string ⟨hd.toArray⟩, .string ⟨tl.toArray⟩, .int .i64 (n : Nat), .int .i64 (p : Nat), .int .i64 (o : Nat), .bool cm, .bool pc] tFm))
  have hB0 : Hid (Below w.heap.size w (w.alloc (.cells #[.string ⟨hd.toArray⟩, .string ⟨tl.toArray⟩, .int .i64 (n : Nat), .int .i64 (p : Nat), .int .i64 (o : Nat), .bool cm, .bool pc] tFm))) := by unfold Hid; (repeat' (first | (with_reducible exact Below.refl _ _) | (with_reducible assumption) | (with_reducible refine Below.alloc ?_ ?_ _) | (with_reducible refine bel_drewN ?_ _) | (with_reducible refine Below.drew ?_) | (with_reducible refine Below.setCell ?_ ?_ _) | (with_reducible refine bel_call ‹_› ?_ ?_) | go_size))
  have HD1 := Lib.hid hd1
  have HE1 := Lib.hid he1
  have HZ := Lib.hid hz
  clear hd1 he1 hr hz
  go_enter Tryd.func9, Tryd.ntmps9
  go_upto_region 2 with fail
  generalize w.alloc (.cells #[.string ⟨hd.toArray⟩, .string ⟨tl.toArray⟩, .int .i64 (n : Nat), .int .i64 (p : Nat), .int .i64 (o : Nat), .bool cm, .bool pc] tFm) = w0 at hf0 hB0 ⊢
  have hF : Hid (FmB w0 w.heap.size ⟨hd, tl, n, p, o, cm, pc⟩) := hf0.out
  have c6 : w0.cell? ⟨w.heap.size, 6, none⟩ = some (.bool pc) := hF.out.cell 6 _ rfl
  go_upto_if 13 with fail
  go_cut [1, 6] (fun v1 v6 wx => v1 = .int .i64 d1 ∧ v6 = .int .i64 e1 ∧ FmB wx w.heap.size ⟨hd, tl, n, p, o, cm, pc⟩ ∧ Below w.heap.size w wx)
  case first =>
    cases pc
    · go_wp2_with fail
      go_meet
      exact ⟨by rw [← HD1.out]; rfl, by rw [← HE1.out]; rfl, hF.out, hB0.out⟩
    · go_wp2_with fail
      refine (HM.out _).mono ?_
      rintro e w1 ⟨rfl, hb1⟩
      have HV : Hid (okV (sv (decide (d < 0) != decide ((100000000 : Int) < 0)) (rdiv (d.natAbs * (100000000 : Int).natAbs) 1000000)) = d1) := HD1.out
      have HE : Hid (okE (sv (decide (d < 0) != decide ((100000000 : Int) < 0)) (rdiv (d.natAbs * (100000000 : Int).natAbs) 1000000)) = e1) := HE1.out
      rw [HV.out, HE.out]
      have hfx := Lib.hid (hF.out.below hb1)
      have hbx : Hid (Below w.heap.size w w1) := bel_call hb1 hB0.out hB0.out.size
      clear hb1 HD1 HE1 HV HE
      go_wp2_with fail
      go_meet
      exact ⟨rfl, rfl, hfx.out, hbx.out⟩
  case rest =>
  obtain ⟨rfl, rfl, hfc, hbc⟩ := hcut
  have HF := Lib.hid hfc
  have HB := Lib.hid hbc
  clear hfc hbc hf0 hB0 hF c6 HM HD1 HE1
  have c3 : wc.cell? ⟨w.heap.size, 3, none⟩ = some (.int .i64 (p : Nat)) := HF.out.cell 3 _ rfl
  have c4 : wc.cell? ⟨w.heap.size, 4, none⟩ = some (.int .i64 (o : Nat)) := HF.out.cell 4 _ rfl
  go_upto_if 20 with fail
  obtain ⟨e2, he2⟩ : ∃ e2, (if e1 ≠ 0 then e1 else okE z) = e2 := ⟨_, rfl⟩
  obtain ⟨d2, hd2⟩ : ∃ d2, (if e1 ≠ 0 then d1 else okV z) = d2 := ⟨_, rfl⟩
  have HE2 := Lib.hid he2
  have HD2 := Lib.hid hd2
  clear he2 hd2
  go_cut [1, 6] (fun v1 v6 wx => v1 = .int .i64 d2 ∧ v6 = .int .i64 e2 ∧ FmB wx w.heap.size ⟨hd, tl, n, p, o, cm, pc⟩ ∧ Below w.heap.size w wx)
  case first =>
    by_cases he : e1 = 0
    · have t1 : (e1 == 0) = true := by simpa using he
      have HV : Hid (okV (sv (decide (d1 < 0)) (rdiv d1.natAbs (uN ((p + o : Nat) : Int)) * uN ((p + o : Nat) : Int))) = d2) := by
        unfold Hid
        rw [← HD2.out, if_neg (fun h => h he), ← HZ.out]
        rfl
      have HE : Hid (okE (sv (decide (d1 < 0)) (rdiv d1.natAbs (uN ((p + o : Nat) : Int)) * uN ((p + o : Nat) : Int))) = e2) := by
        unfold Hid
        rw [← HE2.out, if_neg (fun h => h he), ← HZ.out]
        rfl
      clear he
      go_wp2_with fail
      refine (HN.out _).mono ?_
      rintro e w1 ⟨rfl, hb1⟩
      rw [HV.out, HE.out]
      have hfx := Lib.hid (HF.out.below hb1)
      have hbx : Hid (Below w.heap.size w w1) := bel_call hb1 HB.out HB.out.size
      clear hb1 HV HE
      go_wp2_with fail
      go_meet
      exact ⟨rfl, rfl, hfx.out, hbx.out⟩
    · have t1 : (e1 == 0) = false := by simpa using he
      have HV : Hid (d1 = d2) := by unfold Hid; rw [← HD2.out, if_pos he]
      have HE : Hid (e1 = e2) := by unfold Hid; rw [← HE2.out, if_pos he]
      clear he
      go_wp2_with fail
      go_meet
      exact ⟨by rw [← HV.out], by rw [← HE.out], HF.out, HB.out⟩
  case rest =>
  obtain ⟨rfl, rfl, hfc, hbc⟩ := hcut
  have HW2 : Hid ((if e2 ≠ 0 then ([], e2) else (bodyP ⟨hd, tl, n, p, o, cm, pc⟩ d2, 0)) = r) := by
    unfold Hid
    rw [← HW.out, ← HE2.out, ← HD2.out]
    by_cases he : e1 = 0
    · subst he
      simp
    · simp [he]
  have hr2 : -9223372036854775808 ≤ d2 ∧ d2 ≤ 9223372036854775807 := by
    rw [← HD2.out]
    split
    · exact hr1
    · exact okV_rng _
  clear HF HB c3 c4 HN HZ HW HE2 HD2 hr1
  have HF := Lib.hid hfc
  have HB := Lib.hid hbc
  clear hfc hbc
  by_cases he : e2 = 0
  case neg =>
    have t1 : (e2 != 0) = true := by simpa using he
    have HR : Hid (([], e2) = r) := by unfold Hid; rw [← HW2.out, if_pos he]
    clear he HW2
    go_wp2_with fail
    go_ret2
    exact WrR.of HR.out HB.out
  have t1 : (e2 != 0) = false := by simpa using he
  have HR : Hid ((bodyP ⟨hd, tl, n, p, o, cm, pc⟩ d2, 0) = r) := by unfold Hid; rw [← HW2.out, if_neg (fun h => h he)]
  clear he HW2
  have HT := Lib.hid (fun W => text_any d2 hr2.1 hr2.2 W)
  unfold bodyP lfP rtP at HR
  have HTL : Hid ((txt d2).length ≤ 200) := txt_len d2 hr2.1 hr2.2
  generalize txt d2 = T at HT HR HTL
  go_wp2_with fail
  refine (HT.out _).mono ?_
  rintro e w3 ⟨rfl, hb3⟩
  have HF3 := Lib.hid (HF.out.below hb3)
  have HB3 : Hid (Below w.heap.size w w3) := bel_call hb3 HB.out HB.out.size
  clear hb3 HF HB HT
  have hTL := HTL.out
  go_wp2_with fail
  refine (Tryd.strings_CutPrefix ⟨T.toArray⟩ ⟨#[45]⟩ _).mono ?_
  rintro e w4 ⟨rfl, hw4⟩
  rw [hw4]
  clear hw4 w4
  rw [show (⟨T.toArray⟩ : ByteArray).data.toList = T from rfl, show (⟨#[45]⟩ : ByteArray).data.toList = [45] from rfl]
  have hpl : (Lib.trimPrefix T [45]).length ≤ 200 := by
    unfold Lib.trimPrefix
    split
    · rw [List.length_drop]; omega
    · omega
  generalize Lib.trimPrefix T [45] = T1 at HR hpl ⊢
  generalize Lib.hasPrefix T [45] = mi at HR ⊢
  have HCU := Lib.hid (Tryd.strings_Cut_shaped ⟨T1.toArray⟩ ⟨#[46]⟩ w3 (shaped_below hsh HB3.out) (by rw [Lib.size_eq]; show T1.length < 4294967281; omega))
  rw [show (⟨T1.toArray⟩ : ByteArray).data.toList = T1 from rfl, show (⟨#[46]⟩ : ByteArray).data.toList = [46] from rfl] at HCU
  have hcl := cut_le T1 [46]
  obtain ⟨A, B, pt, hlf⟩ : ∃ A B pt, Lib.cut T1 [46] = (A, B, pt) := ⟨_, _, _, rfl⟩
  rw [hlf] at HCU HR hcl
  have hA : A.length ≤ T1.length := hcl.1
  have hBl : B.length ≤ T1.length := hcl.2
  clear hlf hcl
  go_wp2_with fail
  refine HCU.out.mono ?_
  rintro e w5 ⟨rfl, n5, hw5⟩
  have hd5 : Below w3.heap.size w3 w5 := by rw [hw5]; exact bel_drewN (Below.refl _ _) n5
  have HF5 := Lib.hid (HF3.out.below hd5)
  have HB5 : Hid (Below w.heap.size w w5) := bel_call hd5 HB3.out HB3.out.size
  clear hw5 hd5 HF3 HB3 HCU hsh
  go_wp2_with fail
  refine (Tryd.strings_TrimLeft_one ⟨A.toArray⟩ 48 (by decide) _).mono ?_
  rintro e w6 ⟨rfl, hw6⟩
  rw [hw6]
  clear hw6 w6
  rw [show (⟨A.toArray⟩ : ByteArray).data.toList = A from rfl]
  have hA1 : (Lib.trimLeftB A 48).length ≤ 200 := by
    unfold Lib.trimLeftB
    have := (List.dropWhile_sublist (· == (48 : UInt8)) (l := A)).length_le
    omega
  generalize Lib.trimLeftB A 48 = A1 at HR hA1 ⊢
  have c2 : w5.cell? ⟨w.heap.size, 2, none⟩ = some (.int .i64 (n : Nat)) := HF5.out.cell 2 _ rfl
  have hAs : (⟨A1.toArray⟩ : ByteArray).size = A1.length := by rw [Lib.size_eq]
  go_wp2_with fail
  have hv1 : max ((n : Int) - (A1.length : Int)) 0 = ((n - A1.length : Nat) : Int) := by omega
  rw [hv1]
  have HRP := Lib.hid (rep_zero (n - A1.length) (by omega) w5)
  have hZl : (List.replicate (n - A1.length) (48 : UInt8)).length ≤ 64 := by rw [List.length_replicate]; omega
  generalize List.replicate (n - A1.length) (48 : UInt8) = Z at HR HRP hZl
  refine HRP.out.mono ?_
  rintro e w7 ⟨rfl, hb7⟩
  have HF7 := Lib.hid (HF5.out.below hb7)
  have HB7 : Hid (Below w.heap.size w w7) := bel_call hb7 HB5.out HB5.out.size
  clear hb7 HF5 HB5 HRP hv1 c2
  have c3 : w7.cell? ⟨w.heap.size, 3, none⟩ = some (.int .i64 (p : Nat)) := HF7.out.cell 3 _ rfl
  have hcat : (⟨Z.toArray⟩ : ByteArray) ++ ⟨A1.toArray⟩ = ⟨(Z ++ A1).toArray⟩ := cat2 _ _
  have hL1 : (Z ++ A1).length ≤ 300 := by rw [List.length_append]; omega
  generalize Z ++ A1 = L1 at HR hcat hL1
  have hZs : (⟨Z.toArray⟩ : ByteArray).size = Z.length := by rw [Lib.size_eq]
  have hBs : (⟨B.toArray⟩ : ByteArray).size = B.length := by rw [Lib.size_eq]
  go_wp2_with fail
  have hv1 : max ((p : Int) - (B.length : Int)) 0 = ((p - B.length : Nat) : Int) := by omega
  rw [hv1]
  have HRP := Lib.hid (rep_zero (p - B.length) (by omega) w7)
  have hYl : (List.replicate (p - B.length) (48 : UInt8)).length ≤ 6 := by rw [List.length_replicate]; omega
  generalize List.replicate (p - B.length) (48 : UInt8) = Y at HR HRP hYl
  refine HRP.out.mono ?_
  rintro e w8 ⟨rfl, hb8⟩
  have HF8 := Lib.hid (HF7.out.below hb8)
  have HB8 : Hid (Below w.heap.size w w8) := bel_call hb8 HB7.out HB7.out.size
  clear hb8 HF7 HB7 HRP hv1 c3 hcat
  have c3 : w8.cell? ⟨w.heap.size, 3, none⟩ = some (.int .i64 (p : Nat)) := HF8.out.cell 3 _ rfl
  have c4 : w8.cell? ⟨w.heap.size, 4, none⟩ = some (.int .i64 (o : Nat)) := HF8.out.cell 4 _ rfl
  have c5 : w8.cell? ⟨w.heap.size, 5, none⟩ = some (.bool cm) := HF8.out.cell 5 _ rfl
  have c6 : w8.cell? ⟨w.heap.size, 6, none⟩ = some (.bool pc) := HF8.out.cell 6 _ rfl
  have c0 : w8.cell? ⟨w.heap.size, 0, none⟩ = some (.string ⟨hd.toArray⟩) := HF8.out.cell 0 _ rfl
  have c1 : w8.cell? ⟨w.heap.size, 1, none⟩ = some (.string ⟨tl.toArray⟩) := HF8.out.cell 1 _ rfl
  have hYs : (⟨Y.toArray⟩ : ByteArray).size = Y.length := by rw [Lib.size_eq]
  have hcat : (⟨B.toArray⟩ : ByteArray) ++ ⟨Y.toArray⟩ = ⟨(B ++ Y).toArray⟩ := cat2 _ _
  have hR1 : (B ++ Y).length ≤ 300 := by rw [List.length_append]; omega
  generalize B ++ Y = R1 at HR hcat hR1
  clear HF8
  go_upto_if 67 with fail
  obtain ⟨L2, hL2⟩ : ∃ L2, (if cm = true then grp true L1 else L1) = L2 := ⟨_, rfl⟩
  have hL2l : L2.length ≤ 600 := by
    rw [← hL2]
    have := grp_len true L1
    split <;> omega
  have HL2 := Lib.hid hL2
  clear hL2
  go_cut [9] (fun v9 wx => v9 = .string ⟨L2.toArray⟩ ∧ wx = w8)
  case first =>
    cases cm
    · go_wp2_with fail
      go_meet
      exact ⟨by rw [← HL2.out]; rfl, rfl⟩
    · go_wp2_with fail
      refine (grouped_any L1 (by omega) L2 HL2.out _).mono ?_
      rintro e w9 ⟨rfl, rfl⟩
      go_wp2_with fail
      go_meet
      exact ⟨rfl, rfl⟩
  case rest =>
  obtain ⟨rfl, rfl⟩ := hcut
  have HR2 : Hid ((hd ++ ((if mi then [45] else []) ++ (L2 ++ (if 0 < p + o ∧ R1 ≠ [] then 46 :: R1 else []) ++ (if pc then [37] else []))) ++ tl, 0) = r) := by
    unfold Hid
    rw [← HR.out, ← HL2.out]
    rfl
  clear HR HL2
  obtain ⟨L3, hL3⟩ : ∃ L3, L2 ++ (if 0 < p + o ∧ R1 ≠ [] then 46 :: R1 else []) = L3 := ⟨_, rfl⟩
  rw [hL3] at HR2
  have hL3l : L3.length ≤ 1000 := by
    rw [← hL3, List.length_append]
    split
    · rw [List.length_cons]; omega
    · rw [List.length_nil]; omega
  have HL3 := Lib.hid hL3
  clear hL3
  obtain ⟨tb, htb⟩ : ∃ tb, decide (0 < p + o ∧ R1 ≠ []) = tb := ⟨_, rfl⟩
  have HTB := Lib.hid htb
  clear htb
  go_upto_region 15 with fail
  go_cut [79] (fun v wx => v = .bool tb ∧ wx = wc)
  case first =>
    by_cases hpo : 0 < p + o
    · have hpi : (0 : Int) < (p : Int) + (o : Int) := by omega
      cases R1 with
      | nil =>
        have HS : Hid (tb = false) := by unfold Hid; rw [← HTB.out]; exact decide_eq_false (fun h => h.2 rfl)
        clear HL3 hpo HTB
        go_wp2_with fail
        go_meet
        exact ⟨by rw [HS.out], rfl⟩
      | cons x R =>
        have HS : Hid (tb = true) := by unfold Hid; rw [← HTB.out]; exact decide_eq_true ⟨hpo, by simp⟩
        clear HL3 hpo HTB
        go_wp2_with fail
        go_meet
        exact ⟨by rw [HS.out], rfl⟩
    · have hpi : ¬ (0 : Int) < (p : Int) + (o : Int) := by omega
      have HS : Hid (tb = false) := by unfold Hid; rw [← HTB.out]; exact decide_eq_false (fun h => hpo h.1)
      clear HL3 hpo HTB
      go_wp2_with fail
      go_meet
      exact ⟨by rw [HS.out], rfl⟩
  case rest =>
  obtain ⟨rfl, rfl⟩ := hcut
  go_upto_if 79 with fail
  go_cut [9] (fun v9 wx => v9 = .string ⟨L3.toArray⟩ ∧ wx = wc)
  case first =>
    have hR1s : (⟨R1.toArray⟩ : ByteArray).size = R1.length := by rw [Lib.size_eq]
    have hL2s : (⟨L2.toArray⟩ : ByteArray).size = L2.length := by rw [Lib.size_eq]
    cases tb
    · have HS : Hid (L2 = L3) := by unfold Hid; rw [← HL3.out, if_neg (of_decide_eq_false HTB.out), List.append_nil]
      clear HL3 HTB
      go_wp2_with fail
      go_meet
      exact ⟨by rw [HS.out], rfl⟩
    · have HS : Hid (L2 ++ 46 :: R1 = L3) := by unfold Hid; rw [← HL3.out, if_pos (of_decide_eq_true HTB.out)]
      have k1 : (⟨#[46]⟩ : ByteArray) ++ ⟨R1.toArray⟩ = ⟨(46 :: R1).toArray⟩ := cat2 [46] _
      have k2 : (⟨L2.toArray⟩ : ByteArray) ++ ⟨(46 :: R1).toArray⟩ = ⟨L3.toArray⟩ := by rw [cat2, HS.out]
      have k3 : (46 :: R1).length ≤ 301 := by rw [List.length_cons]; omega
      have k4 : (⟨(46 :: R1).toArray⟩ : ByteArray).size = (46 :: R1).length := by rw [Lib.size_eq]
      clear HL3 HTB HS
      generalize (46 : UInt8) :: R1 = P1 at k1 k2 k3 k4
      go_wp2_with fail
      go_meet
      exact ⟨rfl, rfl⟩
  case rest =>
  obtain ⟨rfl, rfl⟩ := hcut
  obtain ⟨L4, hL4⟩ : ∃ L4, L3 ++ (if pc = true then [37] else []) = L4 := ⟨_, rfl⟩
  rw [hL4] at HR2
  have hL4l : L4.length ≤ 1001 := by
    rw [← hL4, List.length_append]
    split
    · simp; omega
    · simp; omega
  have HL4 := Lib.hid hL4
  clear hL4 HL3 HTB
  have hL3s : (⟨L3.toArray⟩ : ByteArray).size = L3.length := by rw [Lib.size_eq]
  go_upto_if 85 with fail
  go_cut [9] (fun v9 wx => v9 = .string ⟨L4.toArray⟩ ∧ wx = wc)
  case first =>
    cases pc
    · have HS : Hid (L3 = L4) := by unfold Hid; rw [← HL4.out]; simp
      go_wp2_with fail
      go_meet
      exact ⟨by rw [HS.out], rfl⟩
    · have k1 : (⟨L3.toArray⟩ : ByteArray) ++ ⟨#[37]⟩ = ⟨L4.toArray⟩ := by rw [← HL4.out]; exact cat2 L3 [37]
      go_wp2_with fail
      go_meet
      exact ⟨rfl, rfl⟩
  case rest =>
  obtain ⟨rfl, rfl⟩ := hcut
  obtain ⟨L5, hL5⟩ : ∃ L5, (if mi = true then [45] else []) ++ L4 = L5 := ⟨_, rfl⟩
  rw [hL5] at HR2
  have hL5l : L5.length ≤ 1002 := by
    rw [← hL5, List.length_append]
    split
    · simp; omega
    · simp; omega
  have HL5 := Lib.hid hL5
  clear hL5 HL4
  have hL4s : (⟨L4.toArray⟩ : ByteArray).size = L4.length := by rw [Lib.size_eq]
  go_upto_if 88 with fail
  go_cut [9] (fun v9 wx => v9 = .string ⟨L5.toArray⟩ ∧ wx = wc)
  case first =>
    cases mi
    · have HS : Hid (L4 = L5) := by unfold Hid; rw [← HL5.out]; simp
      go_wp2_with fail
      go_meet
      exact ⟨by rw [HS.out], rfl⟩
    · have k1 : (⟨#[45]⟩ : ByteArray) ++ ⟨L4.toArray⟩ = ⟨L5.toArray⟩ := by rw [← HL5.out]; exact cat2 [45] L4
      go_wp2_with fail
      go_meet
      exact ⟨rfl, rfl⟩
  case rest =>
  obtain ⟨rfl, rfl⟩ := hcut
  have hL5s : (⟨L5.toArray⟩ : ByteArray).size = L5.length := by rw [Lib.size_eq]
  have hhs : (⟨hd.toArray⟩ : ByteArray).size = hd.length := by rw [Lib.size_eq]
  have hts : (⟨tl.toArray⟩ : ByteArray).size = tl.length := by rw [Lib.size_eq]
  have k1 : (⟨hd.toArray⟩ : ByteArray) ++ ⟨L5.toArray⟩ = ⟨(hd ++ L5).toArray⟩ := cat2 _ _
  have k2 : (⟨(hd ++ L5).toArray⟩ : ByteArray) ++ ⟨tl.toArray⟩ = ⟨(hd ++ L5 ++ tl).toArray⟩ := cat2 _ _
  have k3 : (⟨(hd ++ L5).toArray⟩ : ByteArray).size ≤ 1300 := by rw [Lib.size_eq]; show (hd ++ L5).length ≤ 1300; rw [List.length_append]; omega
  generalize hd ++ L5 ++ tl = X at k2 HR2
  generalize hd ++ L5 = Y1 at k1 k2 k3
  go_wp2_with fail
  go_ret2
  exact WrR.of HR2.out HB8.out
end Go.Proofs.YteknbdodihfbeaaDoor
