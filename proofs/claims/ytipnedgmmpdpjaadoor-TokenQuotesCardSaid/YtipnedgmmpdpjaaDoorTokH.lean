/- Contract of the program's one: the token at a place. -/
import Derived.Test.YtipnedgmmpdpjaaDoorTokG
set_option linter.unusedSimpArgs false
set_option linter.unusedVariables false
namespace Go.Proofs.YtipnedgmmpdpjaaDoor
open Go.RowKit

/-- A token and where it ends, as values. -/
def TokV (R : Option (Int × List UInt8 × Nat)) (i base : Nat) (v : Value) : Prop := match R with
  | none => ∃ k t a, v = .tuple #[.agg #[.int .i64 k, .string t, .int .i64 a], .int .i64 0]
  | some (k, t, n) => v = .tuple #[.agg #[.int .i64 k, .string ⟨t.toArray⟩, .int .i64 i], .int .i64 ((base + n : Nat) : Int)]
def RetO (R : Option (Int × List UInt8 × Nat)) (i base : Nat) (W : World) (e : Ending) (w' : World) : Prop := Below W.heap.size W w' ∧ ∃ v, e = .returned v ∧ TokV R i base v
theorem reto_none {R : Option (Int × List UInt8 × Nat)} {i base : Nat} {W w' : World} {k a : Int} {t : ByteArray} (h : R = none) (hb : Below W.heap.size W w') : RetO R i base W (.returned (.tuple #[.agg #[.int .i64 k, .string t, .int .i64 a], .int .i64 0])) w' := by subst h; exact ⟨hb, _, rfl, k, t, a, rfl⟩
theorem reto_some {R : Option (Int × List UInt8 × Nat)} {i base n : Nat} {W w' : World} {k a z : Int} {t : ByteArray} {T : List UInt8} (h : R = some (k, T, n)) (ht : t = ⟨T.toArray⟩) (ha : a = i) (hz : z = ((base + n : Nat) : Int)) (hb : Below W.heap.size W w') : RetO R i base W (.returned (.tuple #[.agg #[.int .i64 k, .string t, .int .i64 a], .int .i64 z])) w' := by subst h ht ha hz; exact ⟨hb, _, rfl, rfl⟩

theorem ext_list (s : ByteArray) (i j n : Nat) (h : j = i + n) : s.extract i j = ⟨((s.data.toList.drop i).take n).toArray⟩ := by
  subst h
  apply ByteArray.ext
  apply Array.ext'
  rw [ByteArray.data_extract, Array.toList_extract, List.extract_eq_take_drop]
  simp
theorem hp_any (t x : ByteArray) (b : Bool) (h : Lib.hasPrefix t.data.toList x.data.toList = b) (W : World) : Calls Tryd.prog 18 #[.string t, .string x] W fun e w' => e = .returned (.bool b) ∧ W = w' :=
  (Tryd.strings_HasPrefix t x W).mono fun e w' h' => ⟨by rw [h] at h'; exact h'.1, h'.2.symm⟩
theorem tail_list (s : ByteArray) (i : Nat) : (s.extract i s.size).data.toList = s.data.toList.drop i := by
  rw [ByteArray.data_extract, Array.toList_extract, List.extract_eq_take_drop, List.take_of_length_le]
  rw [List.length_drop, ← Lib.size_eq]
  omega
def qTok : Option (List UInt8 × Nat) → Option (Int × List UInt8 × Nat) | some (t, n) => some (2, t, n + 1) | none => none

set_option maxRecDepth 100000 in
set_option maxHeartbeats 2000000 in
theorem one_digit (s : ByteArray) (i : Nat) (hs : s.size ≤ 100000) (hi : i < s.size) (c : Nat) (hc : nx s.data.toList i = c) (hd : dgB c = true) (w : World) :
    Calls Tryd.prog 11 #[.string s, .int .i64 i] w (RetO (tok s.data.toList i) i i w) := by
  have hb1 := nx_str s i hi
  rw [hc] at hb1
  have HD := Lib.hid hd
  have HB := Lib.hid hb1
  by_cases hn : numN s.data.toList i = 0
  · have HT : Hid (tok s.data.toList i = none) := by unfold Hid tok; rw [hc, if_pos hd, if_pos hn]
    have HNU := Lib.hid (fun W => number_any s i 0 hs (by omega) (by rw [hc]; exact hd) (by rw [if_pos hn]) W)
    clear hc hd hn
    go_enter Tryd.func11, Tryd.ntmps11
    go_wp2_with fail
    refine (digit_yes c HD.out _).mono ?_
    rintro e w1 ⟨rfl, rfl⟩
    go_wp2_with fail
    refine (HNU.out _).mono ?_
    rintro e w1 ⟨rfl, rfl⟩
    go_wp2_with fail
    refine bodyPost_ret (v := .tuple #[.agg #[.int .i64 1, .string ByteArray.empty, .int .i64 i], .int .i64 0]) (by simp [results, Tryd.results11, go_sem]) rfl (reto_none HT.out ((Below.refl _ _).alloc (Nat.le_refl _) _))
  · obtain ⟨n, hnn⟩ : ∃ n, numN s.data.toList i = n := ⟨_, rfl⟩
    have HT : Hid (tok s.data.toList i = some (1, (s.data.toList.drop i).take n, n)) := by unfold Hid tok; rw [hc, if_pos hd, if_neg hn, hnn]
    have hle := (tok_pos (by rw [← Lib.size_eq]; exact hi) HT.out).2.1
    rw [← Lib.size_eq] at hle
    have HNU := Lib.hid (fun W => number_any s i (i + n) hs (by omega) (by rw [hc]; exact hd) (by rw [if_neg hn, hnn]) W)
    obtain ⟨r, hr⟩ : ∃ r, i + n = r := ⟨_, rfl⟩
    rw [hr] at HNU hle
    have hir : i ≤ r := by omega
    have hmx : max (r : Int) (i : Int) = (r : Int) := by omega
    have HX := Lib.hid (ext_list s i r n hr.symm)
    have HRN := Lib.hid hr
    clear hc hd hn hnn hr
    go_enter Tryd.func11, Tryd.ntmps11
    go_wp2_with fail
    refine (digit_yes c HD.out _).mono ?_
    rintro e w1 ⟨rfl, rfl⟩
    go_wp2_with fail
    refine (HNU.out _).mono ?_
    rintro e w1 ⟨rfl, rfl⟩
    go_wp2_with fail
    refine bodyPost_ret (v := .tuple #[.agg #[.int .i64 1, .string (s.extract i r), .int .i64 i], .int .i64 r]) (by simp [results, Tryd.results11, go_sem]) rfl (reto_some HT.out HX.out rfl (by rw [HRN.out]) ((Below.refl _ _).alloc (Nat.le_refl _) _))
set_option maxRecDepth 100000 in
set_option maxHeartbeats 2000000 in
theorem one_letter (s : ByteArray) (i : Nat) (hs : s.size ≤ 100000) (hi : i < s.size) (c : Nat) (hc : nx s.data.toList i = c) (hd : dgB c = false) (hu : upB c = true) (w : World) :
    Calls Tryd.prog 11 #[.string s, .int .i64 i] w (RetO (tok s.data.toList i) i i w) := by
  have hb1 := nx_str s i hi
  rw [hc] at hb1
  have HD := Lib.hid hd
  have HU := Lib.hid hu
  have HB := Lib.hid hb1
  obtain ⟨n, hnn⟩ : ∃ n, runN nmB s.data.toList i = n := ⟨_, rfl⟩
  have HT : Hid (tok s.data.toList i = some (3, (s.data.toList.drop i).take n, n)) := by unfold Hid tok; rw [hc, if_neg (by simp [hd]), if_pos hu, hnn]
  have hle := (tok_pos (by rw [← Lib.size_eq]; exact hi) HT.out).2.1
  rw [← Lib.size_eq] at hle
  have HNU := Lib.hid (fun W => name_any s i hs (by omega) W)
  rw [hnn] at HNU
  obtain ⟨r, hr⟩ : ∃ r, i + n = r := ⟨_, rfl⟩
  rw [hr] at HNU hle
  have hir : i ≤ r := by omega
  have HX := Lib.hid (ext_list s i r n hr.symm)
  have HRN := Lib.hid hr
  clear hc hd hu hnn hr
  go_enter Tryd.func11, Tryd.ntmps11
  go_wp2_with fail
  refine (digit_no c HD.out _).mono ?_
  rintro e w1 ⟨rfl, rfl⟩
  go_wp2_with fail
  refine (letter_yes c HU.out _).mono ?_
  rintro e w1 ⟨rfl, rfl⟩
  go_wp2_with fail
  refine (HNU.out _).mono ?_
  rintro e w1 ⟨rfl, rfl⟩
  go_wp2_with fail
  refine bodyPost_ret (v := .tuple #[.agg #[.int .i64 3, .string (s.extract i r), .int .i64 i], .int .i64 r]) (by simp [results, Tryd.results11, go_sem]) rfl (reto_some HT.out HX.out rfl (by rw [HRN.out]) ((Below.refl _ _).alloc (Nat.le_refl _) _))
set_option maxRecDepth 100000 in
set_option maxHeartbeats 2000000 in
theorem one_quote (s : ByteArray) (i : Nat) (hs : s.size ≤ 100000) (hi : i < s.size) (c : Nat) (hc : nx s.data.toList i = c) (hq : c = 34) (w : World) :
    Calls Tryd.prog 11 #[.string s, .int .i64 i] w (RetO (tok s.data.toList i) i i w) := by
  have hb1 := nx_str s i hi
  rw [hc] at hb1
  have hd : dgB c = false := by rw [hq]; decide
  have hu : upB c = false := by rw [hq]; decide
  have HD := Lib.hid hd
  have HU := Lib.hid hu
  have h34 : (((c : Nat) : Int) == 34) = true := by rw [hq]; rfl
  have HB := Lib.hid hb1
  obtain ⟨R, hR⟩ : ∃ R, quo (s.data.toList.drop (i + 1)) = R := ⟨_, rfl⟩
  have HQ := Lib.hid (fun W => quoted_any s i R hs hi hR W)
  have HT : Hid (tok s.data.toList i = qTok R) := by unfold Hid tok; rw [hc, if_neg (by simp [hd]), if_neg (by simp [hu]), if_pos hq, ← hR]; rfl
  clear hc hd hu hq hR
  cases R with
  | none =>
    go_enter Tryd.func11, Tryd.ntmps11
    go_wp2_with fail
    refine (digit_no c HD.out _).mono ?_
    rintro e w1 ⟨rfl, rfl⟩
    go_wp2_with fail
    refine (letter_no c HU.out _).mono ?_
    rintro e w1 ⟨rfl, rfl⟩
    go_wp2_with fail
    refine (HQ.out _).mono ?_
    rintro e w1 ⟨hb, he⟩
    have he : e = .returned (.tuple #[.string ⟨#[]⟩, .int .i64 0]) := he
    subst he
    obtain ⟨hc1, hf1, hz1⟩ := bcell hb (by first | (simp only [World.size_alloc, World.size_setCell, World.size_drew]; rfl) | rfl)
    have hbl : Below w.heap.size w w1 := by (repeat' (first | (with_reducible exact Below.refl _ _) | (with_reducible assumption) | (with_reducible refine Below.alloc ?_ ?_ _) | (with_reducible refine bel_drewN ?_ _) | (with_reducible refine Below.drew ?_) | (with_reducible refine Below.setCell ?_ ?_ _) | (with_reducible refine bel_call ‹_› ?_ ?_) | go_size))
    have HBL := Lib.hid hbl
    clear hbl
    go_wp2_with fail
    refine bodyPost_ret (v := .tuple #[.agg #[.int .i64 2, .string ⟨#[]⟩, .int .i64 i], .int .i64 0]) (by simp [results, Tryd.results11, go_sem, hc1, hz1]) rfl (reto_none HT.out (((HBL.out.setCell (Nat.le_refl _) _).setCell (Nat.le_refl _) _).setCell (Nat.le_refl _) _))
  | some x =>
    obtain ⟨T, m⟩ := x
    go_enter Tryd.func11, Tryd.ntmps11
    go_wp2_with fail
    refine (digit_no c HD.out _).mono ?_
    rintro e w1 ⟨rfl, rfl⟩
    go_wp2_with fail
    refine (letter_no c HU.out _).mono ?_
    rintro e w1 ⟨rfl, rfl⟩
    go_wp2_with fail
    refine (HQ.out _).mono ?_
    rintro e w1 ⟨hb, he⟩
    have he : e = .returned (.tuple #[.string ⟨T.toArray⟩, .int .i64 ((i + 1 + m : Nat) : Int)]) := he
    subst he
    obtain ⟨hc1, hf1, hz1⟩ := bcell hb (by first | (simp only [World.size_alloc, World.size_setCell, World.size_drew]; rfl) | rfl)
    have hbl : Below w.heap.size w w1 := by (repeat' (first | (with_reducible exact Below.refl _ _) | (with_reducible assumption) | (with_reducible refine Below.alloc ?_ ?_ _) | (with_reducible refine bel_drewN ?_ _) | (with_reducible refine Below.drew ?_) | (with_reducible refine Below.setCell ?_ ?_ _) | (with_reducible refine bel_call ‹_› ?_ ?_) | go_size))
    have HBL := Lib.hid hbl
    clear hbl
    go_wp2_with fail
    refine bodyPost_ret (v := .tuple #[.agg #[.int .i64 2, .string ⟨T.toArray⟩, .int .i64 i], .int .i64 ((i + 1 + m : Nat) : Int)]) (by simp [results, Tryd.results11, go_sem, hc1, hz1]) rfl (reto_some HT.out rfl rfl (by omega) (((HBL.out.setCell (Nat.le_refl _) _).setCell (Nat.le_refl _) _).setCell (Nat.le_refl _) _))
set_option maxRecDepth 100000 in
set_option maxHeartbeats 2000000 in
theorem one_ref (s : ByteArray) (i : Nat) (hs : s.size ≤ 100000) (hi : i < s.size) (c : Nat) (hc : nx s.data.toList i = c) (hd : dgB c = false) (hu : upB c = false) (hq : c ≠ 34) (hp : Lib.hasPrefix (s.data.toList.drop i) sREF = true) (w : World) :
    Calls Tryd.prog 11 #[.string s, .int .i64 i] w (RetO (tok s.data.toList i) i i w) := by
  have hb1 := nx_str s i hi
  rw [hc] at hb1
  have HD := Lib.hid hd
  have HU := Lib.hid hu
  have h34 : (((c : Nat) : Int) == 34) = false := by simp; omega
  have HB := Lib.hid hb1
  have HP : Hid (Lib.hasPrefix (s.extract i s.size).data.toList (⟨#[35, 82, 69, 70, 33]⟩ : ByteArray).data.toList = true) := by unfold Hid; rw [tail_list]; exact hp
  have HT : Hid (tok s.data.toList i = some (5, sREF, 5)) := by unfold Hid tok; rw [hc, if_neg (by simp [hd]), if_neg (by simp [hu]), if_neg hq, if_pos hp]
  clear hc hd hu hq hp
  go_enter Tryd.func11, Tryd.ntmps11
  go_wp2_with fail
  refine (digit_no c HD.out _).mono ?_
  rintro e w1 ⟨rfl, rfl⟩
  go_wp2_with fail
  refine (letter_no c HU.out _).mono ?_
  rintro e w1 ⟨rfl, rfl⟩
  go_wp2_with fail
  refine (hp_any _ _ true HP.out _).mono ?_
  rintro e w1 ⟨rfl, rfl⟩
  go_wp2_with fail
  refine bodyPost_ret (v := .tuple #[.agg #[.int .i64 5, .string ⟨#[35, 82, 69, 70, 33]⟩, .int .i64 i], .int .i64 (i + 5)]) (by simp [results, Tryd.results11, go_sem]) rfl (reto_some HT.out rfl rfl (by omega) ((Below.refl _ _).alloc (Nat.le_refl _) _))
set_option maxRecDepth 100000 in
set_option maxHeartbeats 2000000 in
theorem one_sign (s : ByteArray) (i : Nat) (hs : s.size ≤ 100000) (hi : i < s.size) (c : Nat) (hc : nx s.data.toList i = c) (hd : dgB c = false) (hu : upB c = false) (hq : c ≠ 34) (hp : Lib.hasPrefix (s.data.toList.drop i) sREF = false) (w : World) :
    Calls Tryd.prog 11 #[.string s, .int .i64 i] w (RetO (tok s.data.toList i) i i w) := by
  have hb1 := nx_str s i hi
  rw [hc] at hb1
  have HD := Lib.hid hd
  have HU := Lib.hid hu
  have h34 : (((c : Nat) : Int) == 34) = false := by simp; omega
  have HB := Lib.hid hb1
  have HP : Hid (Lib.hasPrefix (s.extract i s.size).data.toList (⟨#[35, 82, 69, 70, 33]⟩ : ByteArray).data.toList = false) := by unfold Hid; rw [tail_list]; exact hp
  obtain ⟨R, hR⟩ : ∃ R, sgn (s.data.toList.drop i) = R := ⟨_, rfl⟩
  have hx9 : (s.extract i s.size).size ≤ 100000 := by rw [Lib.size_eq, tail_list, List.length_drop, ← Lib.size_eq]; omega
  have HSG := Lib.hid (fun W => sign_any (s.extract i s.size) R hx9 (by rw [tail_list]; exact hR) W)
  have HT : Hid (tok s.data.toList i = if R = [] then none else some (4, R, R.length)) := by unfold Hid tok; rw [hc, if_neg (by simp [hd]), if_neg (by simp [hu]), if_neg hq, if_neg (by simp [hp]), hR]
  have hR2 : R.length ≤ 2 := by rw [← hR]; exact sgn_len _
  clear hc hd hu hq hp hR hx9
  by_cases hR0 : R = []
  · subst hR0
    have HT2 : Hid (tok s.data.toList i = none) := HT.out
    go_enter Tryd.func11, Tryd.ntmps11
    go_wp2_with fail
    refine (digit_no c HD.out _).mono ?_
    rintro e w1 ⟨rfl, rfl⟩
    go_wp2_with fail
    refine (letter_no c HU.out _).mono ?_
    rintro e w1 ⟨rfl, rfl⟩
    go_wp2_with fail
    refine (hp_any _ _ false HP.out _).mono ?_
    rintro e w1 ⟨rfl, rfl⟩
    go_wp2_with fail
    refine (HSG.out _).mono ?_
    rintro e w1 ⟨rfl, rfl⟩
    go_wp2_with fail
    refine bodyPost_ret (v := .tuple #[.agg #[.int .i64 0, .string ⟨#[]⟩, .int .i64 0], .int .i64 0]) (by simp [results, Tryd.results11, go_sem]) rfl (reto_none HT2.out ((Below.refl _ _).alloc (Nat.le_refl _) _))
  · have HT2 : Hid (tok s.data.toList i = some (4, R, R.length)) := by have := HT.out; rw [if_neg hR0] at this; exact this
    obtain ⟨T, hT⟩ : ∃ T : ByteArray, T = ⟨R.toArray⟩ := ⟨_, rfl⟩
    have hTl : T.toList = R := by rw [hT, ByteArray.toList_eq]
    have hne : T.toList.isEmpty = false := by rw [hTl]; cases R with | nil => exact absurd rfl hR0 | cons => rfl
    have hne2 : (!T.toList.isEmpty) = true := by rw [hne]; rfl
    have hTs : T.size = R.length := by rw [hT, size_of]
    have hT2 : T.size ≤ 2 := by omega
    have HTS := Lib.hid hTs
    rw [← hT] at HSG
    have HTT := Lib.hid hT
    clear hT hTl hR0 hTs HT
    go_enter Tryd.func11, Tryd.ntmps11
    go_wp2_with fail
    refine (digit_no c HD.out _).mono ?_
    rintro e w1 ⟨rfl, rfl⟩
    go_wp2_with fail
    refine (letter_no c HU.out _).mono ?_
    rintro e w1 ⟨rfl, rfl⟩
    go_wp2_with fail
    refine (hp_any _ _ false HP.out _).mono ?_
    rintro e w1 ⟨rfl, rfl⟩
    go_wp2_with fail
    refine (HSG.out _).mono ?_
    rintro e w1 ⟨rfl, rfl⟩
    go_wp2_with fail
    refine bodyPost_ret (v := .tuple #[.agg #[.int .i64 4, .string T, .int .i64 i], .int .i64 (i + T.size)]) (by simp [results, Tryd.results11, go_sem]) rfl (reto_some HT2.out HTT.out rfl (by rw [HTS.out]; omega) ((Below.refl _ _).alloc (Nat.le_refl _) _))

/-- one, whatever stands there. -/
theorem one_any (s : ByteArray) (i : Nat) (hs : s.size ≤ 100000) (hi : i < s.size) (w : World) :
    Calls Tryd.prog 11 #[.string s, .int .i64 i] w (RetO (tok s.data.toList i) i i w) := by
  obtain ⟨c, hc⟩ : ∃ c, nx s.data.toList i = c := ⟨_, rfl⟩
  cases hd : dgB c with
  | true => exact one_digit s i hs hi c hc hd w
  | false =>
    cases hu : upB c with
    | true => exact one_letter s i hs hi c hc hd hu w
    | false =>
      by_cases hq : c = 34
      · exact one_quote s i hs hi c hc hq w
      · cases hp : Lib.hasPrefix (s.data.toList.drop i) sREF with
        | true => exact one_ref s i hs hi c hc hd hu hq hp w
        | false => exact one_sign s i hs hi c hc hd hu hq hp w
end Go.Proofs.YtipnedgmmpdpjaaDoor
