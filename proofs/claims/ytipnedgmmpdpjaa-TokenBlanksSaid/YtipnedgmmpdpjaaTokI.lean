/- Contract of the document's one: the token at a place. -/
import Derived.Test.YtipnedgmmpdpjaaTokH
import Derived.RegionTactic
import Derived.ChangeAlike
set_option linter.unusedSimpArgs false
set_option linter.unusedVariables false
namespace Go.Proofs.Ytipnedgmmpdpjaa
open Go.RowKit

theorem one46 (L : List UInt8) (j : Nat) : Lib.hasPrefix (L.drop j) [46] = decide (nx L j = 46) := by
  rcases Nat.lt_or_ge j L.length with h1 | h1
  · rw [nx_get h1, List.drop_eq_getElem_cons h1]
    simp only [Lib.hasPrefix, List.isPrefixOf, Bool.and_true]
    by_cases h2 : L[j].toNat = 46
    · have : L[j] = 46 := by rw [← u8_eta L[j], h2]; rfl
      simp [this]
    · have : ¬ (46 : UInt8) = L[j] := by intro e; rw [← e] at h2; exact h2 (by decide)
      simp [h2, this]
  · rw [nx_end h1, List.drop_of_length_le h1]
    simp [Lib.hasPrefix, List.isPrefixOf]
theorem run_z (s : ByteArray) (z : Int) (i N : Nat) (hs : s.size ≤ 100000) (hi : i ≤ 100000) (hz : z = i) (hN : runN dgB s.data.toList i = N) (w : World) :
    Calls Try.prog 19 #[.string s, .int .i64 z, .bool false] w fun e w' => e = .returned (.int .i64 N) ∧ w = w' := by subst hz; exact run_dg s i N hs hi hN w
theorem run_0 (s : ByteArray) (i : Nat) (hs : s.size ≤ 100000) (hi : i ≤ 100000) (hN : runN dgB s.data.toList i = 0) (w : World) :
    Calls Try.prog 19 #[.string s, .int .i64 i, .bool false] w fun e w' => e = .returned (.int .i64 0) ∧ w = w' := run_dg s i 0 hs hi hN w
theorem run_n0 (s : ByteArray) (i : Nat) (hs : s.size ≤ 100000) (hi : i ≤ 100000) (hN : runN nmB s.data.toList i = 0) (w : World) :
    Calls Try.prog 19 #[.string s, .int .i64 i, .bool true] w fun e w' => e = .returned (.int .i64 0) ∧ w = w' := run_nm s i 0 hs hi hN w

set_option maxRecDepth 100000 in
set_option maxHeartbeats 2000000 in
theorem rone_digit (s : ByteArray) (i : Nat) (hs : s.size ≤ 100000) (hi : i < s.size) (c : Nat) (hc : nx s.data.toList i = c) (hd : dgB c = true) (w : World) :
    Calls Try.prog 11 #[.string s, .int .i64 i] w (RetO (tok s.data.toList i) i 0 w) := by
  have hb1 := nx_str s i hi
  rw [hc] at hb1
  obtain ⟨n, hn⟩ : ∃ n, runN dgB s.data.toList i = n := ⟨_, rfl⟩
  have hn1 : 1 ≤ n := by have := run_yes (p := dgB) (by decide) hc hd; omega
  have hnl : n ≤ s.size - i := by have := run_le dgB s.data.toList i; rw [hn, ← Lib.size_eq] at this; exact this
  have HRN := Lib.hid (fun W => run_z s i i n hs (by omega) rfl hn W)
  have HB := Lib.hid hb1
  have hpt := one46 s.data.toList (i + n)
  have hpos : (0 : Int) < (n : Int) := by omega
  by_cases h46 : nx s.data.toList (i + n) = 46
  · have HP : Hid (Lib.hasPrefix (s.data.toList.drop (i + n)) (⟨#[46]⟩ : ByteArray).data.toList = true) := by unfold Hid; rw [show (⟨#[46]⟩ : ByteArray).data.toList = [46] from rfl, hpt]; simp [h46]
    have hin : i + n < s.size := by
      have := lt_of_nx (L := s.data.toList) (i := i + n) (by omega)
      rw [← Lib.size_eq] at this
      exact this
    obtain ⟨m, hm⟩ : ∃ m, runN dgB s.data.toList (i + n + 1) = m := ⟨_, rfl⟩
    have hml : m ≤ s.size - (i + n + 1) := by have := run_le dgB s.data.toList (i + n + 1); rw [hm, ← Lib.size_eq] at this; exact this
    have HRM := Lib.hid (fun W => run_z s (((i : Int) + (n : Int)) + 1) (i + n + 1) m hs (by omega) (by omega) hm W)
    by_cases hm0 : m = 0
    · have HT : Hid (tok s.data.toList i = none) := by
        unfold Hid tok
        rw [hc, if_pos hd, if_pos]
        unfold numN
        rw [hn, if_pos h46, hm, if_pos hm0]
      subst hm0
      clear hc hd hn hpt h46 hm
      go_enter Try.func11, Try.ntmps11
      go_wp2_with fail
      refine (HRN.out _).mono ?_
      rintro e w1 ⟨rfl, rfl⟩
      go_wp2_with fail
      refine (begins_any s ⟨#[46]⟩ _ (i + n) true hs (by show (1 : Nat) ≤ 100000; omega) (by omega) (by omega) HP.out _).mono ?_
      rintro e w1 ⟨rfl, rfl⟩
      go_wp2_with fail
      refine (HRM.out _).mono ?_
      rintro e w1 ⟨rfl, rfl⟩
      go_wp2_with fail
      refine bodyPost_ret (v := .tuple #[.agg #[.int .i64 0, .string ⟨#[]⟩, .int .i64 0], .int .i64 0]) (by simp [results, Try.results11, go_sem]) rfl (reto_none HT.out ((Below.refl _ _).alloc (Nat.le_refl _) _))
    · have HNM : Hid (numN s.data.toList i = n + 1 + m) := by unfold Hid numN; rw [hn, if_pos h46, hm, if_neg hm0]
      have HT : Hid (tok s.data.toList i = some (1, (s.data.toList.drop i).take (n + 1 + m), n + 1 + m)) := by
        unfold Hid tok
        rw [hc, if_pos hd, HNM.out, if_neg (by omega)]
      have hm0' : (((m : Nat) : Int) == 0) = false := by simp; omega
      have HX := Lib.hid (ext_list s i (i + n + 1 + m) (n + 1 + m) (by omega))
      clear hc hd hn hpt h46 hm hm0 HNM
      go_enter Try.func11, Try.ntmps11
      go_wp2_with fail
      refine (HRN.out _).mono ?_
      rintro e w1 ⟨rfl, rfl⟩
      go_wp2_with fail
      refine (begins_any s ⟨#[46]⟩ _ (i + n) true hs (by show (1 : Nat) ≤ 100000; omega) (by omega) (by omega) HP.out _).mono ?_
      rintro e w1 ⟨rfl, rfl⟩
      go_wp2_with fail
      refine (HRM.out _).mono ?_
      rintro e w1 ⟨rfl, rfl⟩
      go_wp2_with fail
      refine bodyPost_ret (v := .tuple #[.agg #[.int .i64 1, .string (s.extract i (i + n + 1 + m)), .int .i64 i], .int .i64 ((n : Int) + 1 + (m : Int))]) (by simp [results, Try.results11, go_sem]) rfl (reto_some HT.out HX.out rfl (by omega) ((Below.refl _ _).alloc (Nat.le_refl _) _))
  · have HP : Hid (Lib.hasPrefix (s.data.toList.drop (i + n)) (⟨#[46]⟩ : ByteArray).data.toList = false) := by unfold Hid; rw [show (⟨#[46]⟩ : ByteArray).data.toList = [46] from rfl, hpt]; simp [h46]
    have HT : Hid (tok s.data.toList i = some (1, (s.data.toList.drop i).take n, n)) := by
      unfold Hid tok
      have e : numN s.data.toList i = n := by unfold numN; rw [hn, if_neg h46]
      rw [hc, if_pos hd, e, if_neg (by omega)]
    have HX := Lib.hid (ext_list s i (i + n) n rfl)
    clear hc hd hn hpt h46
    go_enter Try.func11, Try.ntmps11
    go_wp2_with fail
    refine (HRN.out _).mono ?_
    rintro e w1 ⟨rfl, rfl⟩
    go_wp2_with fail
    refine (begins_any s ⟨#[46]⟩ _ (i + n) false hs (by show (1 : Nat) ≤ 100000; omega) (by omega) (by omega) HP.out _).mono ?_
    rintro e w1 ⟨rfl, rfl⟩
    go_wp2_with fail
    refine bodyPost_ret (v := .tuple #[.agg #[.int .i64 1, .string (s.extract i (i + n)), .int .i64 i], .int .i64 n]) (by simp [results, Try.results11, go_sem]) rfl (reto_some HT.out HX.out rfl (by omega) ((Below.refl _ _).alloc (Nat.le_refl _) _))
set_option maxRecDepth 100000 in
set_option maxHeartbeats 2000000 in
theorem rone_letter (s : ByteArray) (i : Nat) (hs : s.size ≤ 100000) (hi : i < s.size) (c : Nat) (hc : nx s.data.toList i = c) (hd : dgB c = false) (hu : upB c = true) (w : World) :
    Calls Try.prog 11 #[.string s, .int .i64 i] w (RetO (tok s.data.toList i) i 0 w) := by
  have hb1 := nx_str s i hi
  rw [hc] at hb1
  have HR0 := Lib.hid (fun W => run_0 s i hs (by omega) (run_no (p := dgB) (by decide) hc hd) W)
  obtain ⟨n, hn⟩ : ∃ n, runN nmB s.data.toList i = n := ⟨_, rfl⟩
  have hn1 : 1 ≤ n := by have := run_yes (p := nmB) (by decide) hc (by simp [nmB, hu]); omega
  have hnl : n ≤ s.size - i := by have := run_le nmB s.data.toList i; rw [hn, ← Lib.size_eq] at this; exact this
  have HRN := Lib.hid (fun W => run_nm s i n hs (by omega) hn W)
  have HT : Hid (tok s.data.toList i = some (3, (s.data.toList.drop i).take n, n)) := by unfold Hid tok; rw [hc, if_neg (by simp [hd]), if_pos hu, hn]
  have HX := Lib.hid (ext_list s i (i + n) n rfl)
  have HB := Lib.hid hb1
  have hpos : (0 : Int) < (n : Int) := by omega
  clear hc hd hu hn
  go_enter Try.func11, Try.ntmps11
  go_wp2_with fail
  refine (HR0.out _).mono ?_
  rintro e w1 ⟨rfl, rfl⟩
  go_wp2_with fail
  refine (HRN.out _).mono ?_
  rintro e w1 ⟨rfl, rfl⟩
  go_wp2_with fail
  refine bodyPost_ret (v := .tuple #[.agg #[.int .i64 3, .string (s.extract i (i + n)), .int .i64 i], .int .i64 n]) (by simp [results, Try.results11, go_sem]) rfl (reto_some HT.out HX.out rfl (by omega) ((Below.refl _ _).alloc (Nat.le_refl _) _))
set_option maxRecDepth 100000 in
set_option maxHeartbeats 2000000 in
theorem rone_quote (s : ByteArray) (i : Nat) (hs : s.size ≤ 100000) (hi : i < s.size) (c : Nat) (hc : nx s.data.toList i = c) (hq : c = 34) (w : World) :
    Calls Try.prog 11 #[.string s, .int .i64 i] w (RetO (tok s.data.toList i) i 0 w) := by
  have hb1 := nx_str s i hi
  rw [hc] at hb1
  have hd : dgB c = false := by rw [hq]; decide
  have hu : upB c = false := by rw [hq]; decide
  have HR0 := Lib.hid (fun W => run_0 s i hs (by omega) (run_no (p := dgB) (by decide) hc hd) W)
  have HR1 := Lib.hid (fun W => run_n0 s i hs (by omega) (run_no (p := nmB) (by decide) hc (by simp [nmB, hd, hu])) W)
  have e34 : (((s[i].toNat : Nat) : Int) == 34) = true := by rw [hb1, hq]; rfl
  obtain ⟨R, hR⟩ : ∃ R, quo (s.data.toList.drop (i + 1)) = R := ⟨_, rfl⟩
  have HQ := Lib.hid (fun W => refQuoted_any s i R hs hi hR W)
  have HT : Hid (tok s.data.toList i = qTok R) := by unfold Hid tok; rw [hc, if_neg (by simp [hd]), if_neg (by simp [hu]), if_pos hq, ← hR]; rfl
  clear hc hd hu hq hR hb1
  cases R with
  | none =>
    go_enter Try.func11, Try.ntmps11
    go_wp2_with fail
    refine (HR0.out _).mono ?_
    rintro e w1 ⟨rfl, rfl⟩
    go_wp2_with fail
    refine (HR1.out _).mono ?_
    rintro e w1 ⟨rfl, rfl⟩
    go_wp2_with fail
    refine (HQ.out _).mono ?_
    rintro e w1 ⟨rfl, he⟩
    have he : e = .returned (.tuple #[.string ⟨#[]⟩, .int .i64 0]) := he
    subst he
    go_wp2_with fail
    refine bodyPost_ret (v := .tuple #[.agg #[.int .i64 2, .string ⟨#[]⟩, .int .i64 i], .int .i64 0]) (by simp [results, Try.results11, go_sem]) rfl (reto_none HT.out ((Below.refl _ _).alloc (Nat.le_refl _) _))
  | some x =>
    obtain ⟨T, m⟩ := x
    go_enter Try.func11, Try.ntmps11
    go_wp2_with fail
    refine (HR0.out _).mono ?_
    rintro e w1 ⟨rfl, rfl⟩
    go_wp2_with fail
    refine (HR1.out _).mono ?_
    rintro e w1 ⟨rfl, rfl⟩
    go_wp2_with fail
    refine (HQ.out _).mono ?_
    rintro e w1 ⟨rfl, he⟩
    have he : e = .returned (.tuple #[.string ⟨T.toArray⟩, .int .i64 ((1 + m : Nat) : Int)]) := he
    subst he
    go_wp2_with fail
    refine bodyPost_ret (v := .tuple #[.agg #[.int .i64 2, .string ⟨T.toArray⟩, .int .i64 i], .int .i64 ((1 + m : Nat) : Int)]) (by simp [results, Try.results11, go_sem]) rfl (reto_some HT.out rfl rfl (by omega) ((Below.refl _ _).alloc (Nat.le_refl _) _))
set_option maxRecDepth 100000 in
set_option maxHeartbeats 2000000 in
theorem rone_ref (s : ByteArray) (i : Nat) (hs : s.size ≤ 100000) (hi : i < s.size) (c : Nat) (hc : nx s.data.toList i = c) (hd : dgB c = false) (hu : upB c = false) (hq : c ≠ 34) (hp : Lib.hasPrefix (s.data.toList.drop i) sREF = true) (w : World) :
    Calls Try.prog 11 #[.string s, .int .i64 i] w (RetO (tok s.data.toList i) i 0 w) := by
  have hb1 := nx_str s i hi
  rw [hc] at hb1
  have HR0 := Lib.hid (fun W => run_0 s i hs (by omega) (run_no (p := dgB) (by decide) hc hd) W)
  have HR1 := Lib.hid (fun W => run_n0 s i hs (by omega) (run_no (p := nmB) (by decide) hc (by simp [nmB, hd, hu])) W)
  have e34 : (((s[i].toNat : Nat) : Int) == 34) = false := by rw [hb1]; simp; omega
  have HP : Hid (Lib.hasPrefix (s.data.toList.drop i) (⟨#[35, 82, 69, 70, 33]⟩ : ByteArray).data.toList = true) := hp
  have HT : Hid (tok s.data.toList i = some (5, sREF, 5)) := by unfold Hid tok; rw [hc, if_neg (by simp [hd]), if_neg (by simp [hu]), if_neg hq, if_pos hp]
  clear hc hd hu hq hp hb1
  go_enter Try.func11, Try.ntmps11
  go_wp2_with fail
  refine (HR0.out _).mono ?_
  rintro e w1 ⟨rfl, rfl⟩
  go_wp2_with fail
  refine (HR1.out _).mono ?_
  rintro e w1 ⟨rfl, rfl⟩
  go_wp2_with fail
  refine (begins_any s ⟨#[35, 82, 69, 70, 33]⟩ _ i true hs (by show (5 : Nat) ≤ 100000; omega) rfl (by omega) HP.out _).mono ?_
  rintro e w1 ⟨rfl, rfl⟩
  go_wp2_with fail
  refine bodyPost_ret (v := .tuple #[.agg #[.int .i64 5, .string ⟨#[35, 82, 69, 70, 33]⟩, .int .i64 i], .int .i64 5]) (by simp [results, Try.results11, go_sem]) rfl (reto_some HT.out rfl rfl (by omega) ((Below.refl _ _).alloc (Nat.le_refl _) _))

theorem sg_ne : ∀ k, k < 15 → sgs.getD k [] ≠ [] := by decide
theorem cells3f {w : World} {b : Nat} {a0 a1 a2 : Value} {t : TypeId} (h : w.heap[b]? = some (.cells #[a0, a1, a2] t (0, 0))) : w.cell? ⟨b, 0, none⟩ = some a0 ∧ w.cell? ⟨b, 1, none⟩ = some a1 ∧ w.cell? ⟨b, 2, none⟩ = some a2 ∧ ∀ k, w.frozen? ⟨b, k, none⟩ = false := by
  refine ⟨?_, ?_, ?_, fun k => ?_⟩
  all_goals simp [World.cell?, World.frozen?, h]

set_option maxRecDepth 100000 in
set_option maxHeartbeats 1000000 in
theorem signs_any (w : World) : Calls Try.prog 22 #[] w fun e w' => e = .returned (.slice (some ⟨w.heap.size, 0, none⟩) 15 15) ∧ Below w.heap.size w w' ∧ w'.heap.size = w.heap.size + 1 ∧ ∀ k, k < 15 → w'.cell? ⟨w.heap.size, k, none⟩ = some (.string (sgB k)) := by
  go_enter Try.func22, Try.ntmps22
  go_wp2_with fail
  go_ret
  refine ⟨rfl, (Below.refl _ _).alloc (Nat.le_refl _) _, by simp, fun k hk => ?_⟩
  simp only [World.cell?, heap_alloc_new]
  match k, hk with
  | 0, _ | 1, _ | 2, _ | 3, _ | 4, _ | 5, _ | 6, _ | 7, _ | 8, _ | 9, _ | 10, _ | 11, _ | 12, _ | 13, _ | 14, _ => rfl

set_option maxRecDepth 100000 in
set_option maxHeartbeats 2000000 in
theorem rone_sign (s : ByteArray) (i : Nat) (hs : s.size ≤ 100000) (hi : i < s.size) (c : Nat) (hc : nx s.data.toList i = c) (hd : dgB c = false) (hu : upB c = false) (hq : c ≠ 34) (hp : Lib.hasPrefix (s.data.toList.drop i) sREF = false) (w : World) :
    Calls Try.prog 11 #[.string s, .int .i64 i] w (RetO (tok s.data.toList i) i 0 w) := by
  have hb1 := nx_str s i hi
  rw [hc] at hb1
  have HR0 := Lib.hid (fun W => run_0 s i hs (by omega) (run_no (p := dgB) (by decide) hc hd) W)
  have HR1 := Lib.hid (fun W => run_n0 s i hs (by omega) (run_no (p := nmB) (by decide) hc (by simp [nmB, hd, hu])) W)
  have e34 : (((s[i].toNat : Nat) : Int) == 34) = false := by rw [hb1]; simp; omega
  have HP : Hid (Lib.hasPrefix (s.data.toList.drop i) (⟨#[35, 82, 69, 70, 33]⟩ : ByteArray).data.toList = false) := hp
  obtain ⟨R, hR⟩ : ∃ R, sgn (s.data.toList.drop i) = R := ⟨_, rfl⟩
  have HT : Hid (tok s.data.toList i = if R = [] then none else some (4, R, R.length)) := by unfold Hid tok; rw [hc, if_neg (by simp [hd]), if_neg (by simp [hu]), if_neg hq, if_neg (by simp [hp]), hR]
  have HR := Lib.hid hR
  clear hc hd hu hq hp hR hb1
  go_enter Try.func11, Try.ntmps11
  go_wp2_with fail
  refine (HR0.out _).mono ?_
  rintro e w1 ⟨rfl, rfl⟩
  go_wp2_with fail
  refine (HR1.out _).mono ?_
  rintro e w1 ⟨rfl, rfl⟩
  go_wp2_with fail
  refine (begins_any s ⟨#[35, 82, 69, 70, 33]⟩ _ i false hs (by show (5 : Nat) ≤ 100000; omega) rfl (by omega) HP.out _).mono ?_
  rintro e w1 ⟨rfl, rfl⟩
  go_wp2_with fail
  refine (signs_any _).mono ?_
  rintro e w1 ⟨rfl, hb, hz, hcl⟩
  have HBL := Lib.hid hb
  have HCL := Lib.hid hcl
  have hbx := (hb.block w.heap.size (by simp)).trans (heap_alloc_new w _)
  obtain ⟨hc0, hc1, hc2, hf0⟩ := cells3f hbx
  have hbl : Below w.heap.size w w1 := by (repeat' (first | (with_reducible exact Below.refl _ _) | (with_reducible assumption) | (with_reducible refine Below.alloc ?_ ?_ _) | (with_reducible refine bel_drewN ?_ _) | (with_reducible refine Below.drew ?_) | (with_reducible refine Below.setCell ?_ ?_ _) | (with_reducible refine bel_call ‹_› ?_ ?_) | go_size))
  have HB0 := Lib.hid hbl
  simp only [World.size_alloc] at hz hcl HCL
  clear hb hcl hbl hbx
  go_wp2_with fail
  go_loop [11] (fun v => ∃ k : Nat, v = .int .i64 k ∧ k ≤ 15 ∧ ((sgs.drop k).find? fun x => Lib.hasPrefix (s.data.toList.drop i) x).getD [] = R) (fun v => 15 - (intOf v).toNat)
  case atStart => exact ⟨0, rfl, by omega, HR.out⟩
  case round =>
    obtain ⟨k, rfl, hk, hq⟩ := hrel
    have HQ := Lib.hid hq
    clear hq HR
    rcases Nat.lt_or_ge k 15 with hlt | hge
    · have hck := HCL.out k hlt
      obtain ⟨b, hb⟩ : ∃ b, Lib.hasPrefix (s.data.toList.drop i) (sgB k).data.toList = b := ⟨_, rfl⟩
      have hsg := sg_len k
      have HPRE := Lib.hid (fun W => begins_any s (sgB k) i i b hs (by omega) rfl (by omega) hb W)
      have hq2 := HQ.out
      have hbb : Lib.hasPrefix (s.data.toList.drop i) (sgs.getD k []) = b := hb
      rw [sg_at hlt, List.find?_cons, hbb] at hq2
      cases b with
      | true =>
        have HE : Hid (sgB k = ⟨R.toArray⟩) := by rw [← hq2]; rfl
        have HE2 : Hid ((sgB k).size = R.length) := by rw [HE.out, size_of]; rfl
        have HT2 : Hid (tok s.data.toList i = some (4, R, R.length)) := by
          have h1 := HT.out
          have h2 : R ≠ [] := by
            rw [← hq2]
            exact sg_ne k hlt
          rw [if_neg h2] at h1
          exact h1
        clear hq2 hb hbb
        go_wp2_with fail
        refine (HPRE.out _).mono ?_
        rintro e w2 ⟨rfl, rfl⟩
        go_wp2_with fail
        go_region
        all_goals
          go_wp2_with fail
          refine bodyPost_ret (v := .tuple #[.agg #[.int .i64 4, .string (sgB k), .int .i64 i], .int .i64 (sgB k).size]) (by simp [results, Try.results11, go_sem, hc0, hc1, hc2, hz, hf0]) rfl (reto_some HT2.out HE.out rfl (by rw [HE2.out]; omega) (((HB0.out.setCell (Nat.le_refl _) _).setCell (Nat.le_refl _) _).setCell (Nat.le_refl _) _).drew)
      | false =>
        have HE := Lib.hid hq2
        clear hq2 hb hbb
        go_wp2_with fail
        refine (HPRE.out _).mono ?_
        rintro e w2 ⟨rfl, rfl⟩
        go_wp2_with fail
        go_round
        case rel => exact ⟨k + 1, by go_num, by omega, HE.out⟩
        case measure => simp [intOf]; omega
    · have HE : Hid (tok s.data.toList i = none) := by
        obtain rfl : k = 15 := by omega
        have h : [] = R := HQ.out
        have h1 := HT.out
        rw [if_pos h.symm] at h1
        exact h1
      go_wp2_with fail
      refine bodyPost_ret (v := .tuple #[.agg #[.int .i64 0, .string ⟨#[]⟩, .int .i64 0], .int .i64 0]) (by simp [results, Try.results11, go_sem, hc0, hc1, hc2, hz, hf0]) rfl (reto_none HE.out (((HB0.out.setCell (Nat.le_refl _) _).setCell (Nat.le_refl _) _).setCell (Nat.le_refl _) _))

/-- one, whatever stands there. -/
theorem refOne_any (s : ByteArray) (i : Nat) (hs : s.size ≤ 100000) (hi : i < s.size) (w : World) :
    Calls Try.prog 11 #[.string s, .int .i64 i] w (RetO (tok s.data.toList i) i 0 w) := by
  obtain ⟨c, hc⟩ : ∃ c, nx s.data.toList i = c := ⟨_, rfl⟩
  cases hd : dgB c with
  | true => exact rone_digit s i hs hi c hc hd w
  | false =>
    cases hu : upB c with
    | true => exact rone_letter s i hs hi c hc hd hu w
    | false =>
      by_cases hq : c = 34
      · exact rone_quote s i hs hi c hc hq w
      · cases hp : Lib.hasPrefix (s.data.toList.drop i) sREF with
        | true => exact rone_ref s i hs hi c hc hd hu hq hp w
        | false => exact rone_sign s i hs hi c hc hd hu hq hp w
end Go.Proofs.Ytipnedgmmpdpjaa
