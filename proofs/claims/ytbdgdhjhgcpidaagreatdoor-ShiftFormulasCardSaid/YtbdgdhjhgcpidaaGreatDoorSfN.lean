/- Contract of the document's one: the token at a place. Slices of tokens in memory, and what Split hands back. Contract of the program's Split. Contract of the document's Split. -/
import Derived.Test.YtbdgdhjhgcpidaaGreatDoorSfM
import Derived.RegionTactic
import Derived.ChangeAlike
import Derived.OwnWalk
import Derived.Laws.AppendOwnNone
import Derived.Laws.OwnMore
import Derived.Laws.MakeOwn
set_option linter.unusedSimpArgs false
set_option linter.unusedVariables false
namespace Go.Proofs.YtbdgdhjhgcpidaaGreatDoor.Tks
open Go.RowKit
theorem one46 (L : List UInt8) (j : Nat) : Lib.hasPrefix (L.drop j) [46] = decide (nx L j = 46) := by
  rcases Nat.lt_or_ge j L.length with h1 | h1
  · rw [nx_get h1, List.drop_eq_getElem_cons h1]
    simp only [Lib.hasPrefix, List.isPrefixOf, Bool.and_true]
    by_cases h2 : L[j].toNat = 46
    · have : L[j] = 46 := by rw [← u8_eta L[j], h2]; rfl
      simp [this]
    · have : ¬ (46 : UInt8) = L[j] := by intro e; rw [← e] at h2; exact h2 (by decide)
      simp [h2, this]
  · rw [nx_end h1, List.drop_of_length_le h1]
    simp [Lib.hasPrefix, List.isPrefixOf]
theorem run_z (s : ByteArray) (z : Int) (i N : Nat) (hs : s.size ≤ 100000) (hi : i ≤ 100000) (hz : z = i) (hN : runN dgB s.data.toList i = N) (w : World) :
    Calls Tryz.prog 46 #[.string s, .int .i64 z, .bool false] w fun e w' => e = .returned (.int .i64 N) ∧ w = w' := by subst hz; exact run_dg s i N hs hi hN w
theorem run_0 (s : ByteArray) (i : Nat) (hs : s.size ≤ 100000) (hi : i ≤ 100000) (hN : runN dgB s.data.toList i = 0) (w : World) :
    Calls Tryz.prog 46 #[.string s, .int .i64 i, .bool false] w fun e w' => e = .returned (.int .i64 0) ∧ w = w' := run_dg s i 0 hs hi hN w
theorem run_n0 (s : ByteArray) (i : Nat) (hs : s.size ≤ 100000) (hi : i ≤ 100000) (hN : runN nmB s.data.toList i = 0) (w : World) :
    Calls Tryz.prog 46 #[.string s, .int .i64 i, .bool true] w fun e w' => e = .returned (.int .i64 0) ∧ w = w' := run_nm s i 0 hs hi hN w
set_option maxRecDepth 100000 in
set_option maxHeartbeats 2000000 in
theorem rone_digit (s : ByteArray) (i : Nat) (hs : s.size ≤ 100000) (hi : i < s.size) (c : Nat) (hc : nx s.data.toList i = c) (hd : dgB c = true) (w : World) :
    Calls Tryz.prog 30 #[.string s, .int .i64 i] w (RetO (tok s.data.toList i) i 0 w) := by
  have hb1 := nx_str s i hi
  rw [hc] at hb1
  obtain ⟨n, hn⟩ : ∃ n, runN dgB s.data.toList i = n := ⟨_, rfl⟩
  have hn1 : 1 ≤ n := by have := run_yes (p := dgB) (by decide) hc hd; omega
  have hnl : n ≤ s.size - i := by have := run_le dgB s.data.toList i; rw [hn, ← Lib.size_eq] at this; exact this
  have HRN := Lib.hid (fun W => run_z s i i n hs (by omega) rfl hn W)
  have HB := Lib.hid hb1
  have hpt := one46 s.data.toList (i + n)
  have hpos : (0 : Int) < (n : Int) := by omega
  by_cases h46 : nx s.data.toList (i + n) = 46
  · have HP : Hid (Lib.hasPrefix (s.data.toList.drop (i + n)) (⟨#[46]⟩ : ByteArray).data.toList = true) := by unfold Hid; rw [show (⟨#[46]⟩ : ByteArray).data.toList = [46] from rfl, hpt]; simp [h46]
    have hin : i + n < s.size := by
      have := lt_of_nx (L := s.data.toList) (i := i + n) (by omega)
      rw [← Lib.size_eq] at this
      exact this
    obtain ⟨m, hm⟩ : ∃ m, runN dgB s.data.toList (i + n + 1) = m := ⟨_, rfl⟩
    have hml : m ≤ s.size - (i + n + 1) := by have := run_le dgB s.data.toList (i + n + 1); rw [hm, ← Lib.size_eq] at this; exact this
    have HRM := Lib.hid (fun W => run_z s (((i : Int) + (n : Int)) + 1) (i + n + 1) m hs (by omega) (by omega) hm W)
    by_cases hm0 : m = 0
    · have HT : Hid (tok s.data.toList i = none) := by
        unfold Hid tok
        rw [hc, if_pos hd, if_pos]
        unfold numN
        rw [hn, if_pos h46, hm, if_pos hm0]
      subst hm0
      clear hc hd hn hpt h46 hm
      go_enter Tryz.func30, Tryz.ntmps30
      go_wp2_with fail
      refine (HRN.out _).mono ?_
      rintro e w1 ⟨rfl, rfl⟩
      go_wp2_with fail
      refine (begins_any s ⟨#[46]⟩ _ (i + n) true hs (by show (1 : Nat) ≤ 100000; omega) (by omega) (by omega) HP.out _).mono ?_
      rintro e w1 ⟨rfl, rfl⟩
      go_wp2_with fail
      refine (HRM.out _).mono ?_
      rintro e w1 ⟨rfl, rfl⟩
      go_wp2_with fail
      refine bodyPost_ret (v := .tuple #[.agg #[.int .i64 0, .string ⟨#[]⟩, .int .i64 0], .int .i64 0]) (by simp [results, Tryz.results30, go_sem]) rfl (reto_none HT.out ((Below.refl _ _).alloc (Nat.le_refl _) _))
    · have HNM : Hid (numN s.data.toList i = n + 1 + m) := by unfold Hid numN; rw [hn, if_pos h46, hm, if_neg hm0]
      have HT : Hid (tok s.data.toList i = some (1, (s.data.toList.drop i).take (n + 1 + m), n + 1 + m)) := by
        unfold Hid tok
        rw [hc, if_pos hd, HNM.out, if_neg (by omega)]
      have hm0' : (((m : Nat) : Int) == 0) = false := by simp; omega
      have HX := Lib.hid (ext_list s i (i + n + 1 + m) (n + 1 + m) (by omega))
      clear hc hd hn hpt h46 hm hm0 HNM
      go_enter Tryz.func30, Tryz.ntmps30
      go_wp2_with fail
      refine (HRN.out _).mono ?_
      rintro e w1 ⟨rfl, rfl⟩
      go_wp2_with fail
      refine (begins_any s ⟨#[46]⟩ _ (i + n) true hs (by show (1 : Nat) ≤ 100000; omega) (by omega) (by omega) HP.out _).mono ?_
      rintro e w1 ⟨rfl, rfl⟩
      go_wp2_with fail
      refine (HRM.out _).mono ?_
      rintro e w1 ⟨rfl, rfl⟩
      go_wp2_with fail
      refine bodyPost_ret (v := .tuple #[.agg #[.int .i64 1, .string (s.extract i (i + n + 1 + m)), .int .i64 i], .int .i64 ((n : Int) + 1 + (m : Int))]) (by simp [results, Tryz.results30, go_sem]) rfl (reto_some HT.out HX.out rfl (by omega) ((Below.refl _ _).alloc (Nat.le_refl _) _))
  · have HP : Hid (Lib.hasPrefix (s.data.toList.drop (i + n)) (⟨#[46]⟩ : ByteArray).data.toList = false) := by unfold Hid; rw [show (⟨#[46]⟩ : ByteArray).data.toList = [46] from rfl, hpt]; simp [h46]
    have HT : Hid (tok s.data.toList i = some (1, (s.data.toList.drop i).take n, n)) := by
      unfold Hid tok
      have e : numN s.data.toList i = n := by unfold numN; rw [hn, if_neg h46]
      rw [hc, if_pos hd, e, if_neg (by omega)]
    have HX := Lib.hid (ext_list s i (i + n) n rfl)
    clear hc hd hn hpt h46
    go_enter Tryz.func30, Tryz.ntmps30
    go_wp2_with fail
    refine (HRN.out _).mono ?_
    rintro e w1 ⟨rfl, rfl⟩
    go_wp2_with fail
    refine (begins_any s ⟨#[46]⟩ _ (i + n) false hs (by show (1 : Nat) ≤ 100000; omega) (by omega) (by omega) HP.out _).mono ?_
    rintro e w1 ⟨rfl, rfl⟩
    go_wp2_with fail
    refine bodyPost_ret (v := .tuple #[.agg #[.int .i64 1, .string (s.extract i (i + n)), .int .i64 i], .int .i64 n]) (by simp [results, Tryz.results30, go_sem]) rfl (reto_some HT.out HX.out rfl (by omega) ((Below.refl _ _).alloc (Nat.le_refl _) _))
set_option maxRecDepth 100000 in
set_option maxHeartbeats 2000000 in
theorem rone_letter (s : ByteArray) (i : Nat) (hs : s.size ≤ 100000) (hi : i < s.size) (c : Nat) (hc : nx s.data.toList i = c) (hd : dgB c = false) (hu : upB c = true) (w : World) :
    Calls Tryz.prog 30 #[.string s, .int .i64 i] w (RetO (tok s.data.toList i) i 0 w) := by
  have hb1 := nx_str s i hi
  rw [hc] at hb1
  have HR0 := Lib.hid (fun W => run_0 s i hs (by omega) (run_no (p := dgB) (by decide) hc hd) W)
  obtain ⟨n, hn⟩ : ∃ n, runN nmB s.data.toList i = n := ⟨_, rfl⟩
  have hn1 : 1 ≤ n := by have := run_yes (p := nmB) (by decide) hc (by simp [nmB, hu]); omega
  have hnl : n ≤ s.size - i := by have := run_le nmB s.data.toList i; rw [hn, ← Lib.size_eq] at this; exact this
  have HRN := Lib.hid (fun W => run_nm s i n hs (by omega) hn W)
  have HT : Hid (tok s.data.toList i = some (3, (s.data.toList.drop i).take n, n)) := by unfold Hid tok; rw [hc, if_neg (by simp [hd]), if_pos hu, hn]
  have HX := Lib.hid (ext_list s i (i + n) n rfl)
  have HB := Lib.hid hb1
  have hpos : (0 : Int) < (n : Int) := by omega
  clear hc hd hu hn
  go_enter Tryz.func30, Tryz.ntmps30
  go_wp2_with fail
  refine (HR0.out _).mono ?_
  rintro e w1 ⟨rfl, rfl⟩
  go_wp2_with fail
  refine (HRN.out _).mono ?_
  rintro e w1 ⟨rfl, rfl⟩
  go_wp2_with fail
  refine bodyPost_ret (v := .tuple #[.agg #[.int .i64 3, .string (s.extract i (i + n)), .int .i64 i], .int .i64 n]) (by simp [results, Tryz.results30, go_sem]) rfl (reto_some HT.out HX.out rfl (by omega) ((Below.refl _ _).alloc (Nat.le_refl _) _))
set_option maxRecDepth 100000 in
set_option maxHeartbeats 2000000 in
theorem rone_quote (s : ByteArray) (i : Nat) (hs : s.size ≤ 100000) (hi : i < s.size) (c : Nat) (hc : nx s.data.toList i = c) (hq : c = 34) (w : World) :
    Calls Tryz.prog 30 #[.string s, .int .i64 i] w (RetO (tok s.data.toList i) i 0 w) := by
  have hb1 := nx_str s i hi
  rw [hc] at hb1
  have hd : dgB c = false := by rw [hq]; decide
  have hu : upB c = false := by rw [hq]; decide
  have HR0 := Lib.hid (fun W => run_0 s i hs (by omega) (run_no (p := dgB) (by decide) hc hd) W)
  have HR1 := Lib.hid (fun W => run_n0 s i hs (by omega) (run_no (p := nmB) (by decide) hc (by simp [nmB, hd, hu])) W)
  have e34 : (((s[i].toNat : Nat) : Int) == 34) = true := by rw [hb1, hq]; rfl
  obtain ⟨R, hR⟩ : ∃ R, quo (s.data.toList.drop (i + 1)) = R := ⟨_, rfl⟩
  have HQ := Lib.hid (fun W => refQuoted_any s i R hs hi hR W)
  have HT : Hid (tok s.data.toList i = qTok R) := by unfold Hid tok; rw [hc, if_neg (by simp [hd]), if_neg (by simp [hu]), if_pos hq, ← hR]; rfl
  clear hc hd hu hq hR hb1
  cases R with
  | none =>
    go_enter Tryz.func30, Tryz.ntmps30
    go_wp2_with fail
    refine (HR0.out _).mono ?_
    rintro e w1 ⟨rfl, rfl⟩
    go_wp2_with fail
    refine (HR1.out _).mono ?_
    rintro e w1 ⟨rfl, rfl⟩
    go_wp2_with fail
    refine (HQ.out _).mono ?_
    rintro e w1 ⟨rfl, he⟩
    have he : e = .returned (.tuple #[.string ⟨#[]⟩, .int .i64 0]) := he
    subst he
    go_wp2_with fail
    refine bodyPost_ret (v := .tuple #[.agg #[.int .i64 2, .string ⟨#[]⟩, .int .i64 i], .int .i64 0]) (by simp [results, Tryz.results30, go_sem]) rfl (reto_none HT.out ((Below.refl _ _).alloc (Nat.le_refl _) _))
  | some x =>
    obtain ⟨T, m⟩ := x
    go_enter Tryz.func30, Tryz.ntmps30
    go_wp2_with fail
    refine (HR0.out _).mono ?_
    rintro e w1 ⟨rfl, rfl⟩
    go_wp2_with fail
    refine (HR1.out _).mono ?_
    rintro e w1 ⟨rfl, rfl⟩
    go_wp2_with fail
    refine (HQ.out _).mono ?_
    rintro e w1 ⟨rfl, he⟩
    have he : e = .returned (.tuple #[.string ⟨T.toArray⟩, .int .i64 ((1 + m : Nat) : Int)]) := he
    subst he
    go_wp2_with fail
    refine bodyPost_ret (v := .tuple #[.agg #[.int .i64 2, .string ⟨T.toArray⟩, .int .i64 i], .int .i64 ((1 + m : Nat) : Int)]) (by simp [results, Tryz.results30, go_sem]) rfl (reto_some HT.out rfl rfl (by omega) ((Below.refl _ _).alloc (Nat.le_refl _) _))
set_option maxRecDepth 100000 in
set_option maxHeartbeats 2000000 in
theorem rone_ref (s : ByteArray) (i : Nat) (hs : s.size ≤ 100000) (hi : i < s.size) (c : Nat) (hc : nx s.data.toList i = c) (hd : dgB c = false) (hu : upB c = false) (hq : c ≠ 34) (hp : Lib.hasPrefix (s.data.toList.drop i) sREF = true) (w : World) :
    Calls Tryz.prog 30 #[.string s, .int .i64 i] w (RetO (tok s.data.toList i) i 0 w) := by
  have hb1 := nx_str s i hi
  rw [hc] at hb1
  have HR0 := Lib.hid (fun W => run_0 s i hs (by omega) (run_no (p := dgB) (by decide) hc hd) W)
  have HR1 := Lib.hid (fun W => run_n0 s i hs (by omega) (run_no (p := nmB) (by decide) hc (by simp [nmB, hd, hu])) W)
  have e34 : (((s[i].toNat : Nat) : Int) == 34) = false := by rw [hb1]; simp; omega
  have HP : Hid (Lib.hasPrefix (s.data.toList.drop i) (⟨#[35, 82, 69, 70, 33]⟩ : ByteArray).data.toList = true) := hp
  have HT : Hid (tok s.data.toList i = some (5, sREF, 5)) := by unfold Hid tok; rw [hc, if_neg (by simp [hd]), if_neg (by simp [hu]), if_neg hq, if_pos hp]
  clear hc hd hu hq hp hb1
  go_enter Tryz.func30, Tryz.ntmps30
  go_wp2_with fail
  refine (HR0.out _).mono ?_
  rintro e w1 ⟨rfl, rfl⟩
  go_wp2_with fail
  refine (HR1.out _).mono ?_
  rintro e w1 ⟨rfl, rfl⟩
  go_wp2_with fail
  refine (begins_any s ⟨#[35, 82, 69, 70, 33]⟩ _ i true hs (by show (5 : Nat) ≤ 100000; omega) rfl (by omega) HP.out _).mono ?_
  rintro e w1 ⟨rfl, rfl⟩
  go_wp2_with fail
  refine bodyPost_ret (v := .tuple #[.agg #[.int .i64 5, .string ⟨#[35, 82, 69, 70, 33]⟩, .int .i64 i], .int .i64 5]) (by simp [results, Tryz.results30, go_sem]) rfl (reto_some HT.out rfl rfl (by omega) ((Below.refl _ _).alloc (Nat.le_refl _) _))
theorem sg_ne : ∀ k, k < 15 → sgs.getD k [] ≠ [] := by decide
theorem cells3f {w : World} {b : Nat} {a0 a1 a2 : Value} {t : TypeId} (h : w.heap[b]? = some (.cells #[a0, a1, a2] t (0, 0))) : w.cell? ⟨b, 0, none⟩ = some a0 ∧ w.cell? ⟨b, 1, none⟩ = some a1 ∧ w.cell? ⟨b, 2, none⟩ = some a2 ∧ ∀ k, w.frozen? ⟨b, k, none⟩ = false := by
  refine ⟨?_, ?_, ?_, fun k => ?_⟩
  all_goals simp [World.cell?, World.frozen?, h]
set_option maxRecDepth 100000 in
set_option maxHeartbeats 1000000 in
theorem signs_any (w : World) : Calls Tryz.prog 49 #[] w fun e w' => e = .returned (.slice (some ⟨w.heap.size, 0, none⟩) 15 15) ∧ Below w.heap.size w w' ∧ w'.heap.size = w.heap.size + 1 ∧ ∀ k, k < 15 → w'.cell? ⟨w.heap.size, k, none⟩ = some (.string (sgB k)) := by
  go_enter Tryz.func49, Tryz.ntmps49
  go_wp2_with fail
  go_ret
  refine ⟨rfl, (Below.refl _ _).alloc (Nat.le_refl _) _, by simp, fun k hk => ?_⟩
  simp only [World.cell?, heap_alloc_new]
  match k, hk with
  | 0, _ | 1, _ | 2, _ | 3, _ | 4, _ | 5, _ | 6, _ | 7, _ | 8, _ | 9, _ | 10, _ | 11, _ | 12, _ | 13, _ | 14, _ => rfl
set_option maxRecDepth 100000 in
set_option maxHeartbeats 2000000 in
theorem rone_sign (s : ByteArray) (i : Nat) (hs : s.size ≤ 100000) (hi : i < s.size) (c : Nat) (hc : nx s.data.toList i = c) (hd : dgB c = false) (hu : upB c = false) (hq : c ≠ 34) (hp : Lib.hasPrefix (s.data.toList.drop i) sREF = false) (w : World) :
    Calls Tryz.prog 30 #[.string s, .int .i64 i] w (RetO (tok s.data.toList i) i 0 w) := by
  have hb1 := nx_str s i hi
  rw [hc] at hb1
  have HR0 := Lib.hid (fun W => run_0 s i hs (by omega) (run_no (p := dgB) (by decide) hc hd) W)
  have HR1 := Lib.hid (fun W => run_n0 s i hs (by omega) (run_no (p := nmB) (by decide) hc (by simp [nmB, hd, hu])) W)
  have e34 : (((s[i].toNat : Nat) : Int) == 34) = false := by rw [hb1]; simp; omega
  have HP : Hid (Lib.hasPrefix (s.data.toList.drop i) (⟨#[35, 82, 69, 70, 33]⟩ : ByteArray).data.toList = false) := hp
  obtain ⟨R, hR⟩ : ∃ R, sgn (s.data.toList.drop i) = R := ⟨_, rfl⟩
  have HT : Hid (tok s.data.toList i = if R = [] then none else some (4, R, R.length)) := by unfold Hid tok; rw [hc, if_neg (by simp [hd]), if_neg (by simp [hu]), if_neg hq, if_neg (by simp [hp]), hR]
  have HR := Lib.hid hR
  clear hc hd hu hq hp hR hb1
  go_enter Tryz.func30, Tryz.ntmps30
  go_wp2_with fail
  refine (HR0.out _).mono ?_
  rintro e w1 ⟨rfl, rfl⟩
  go_wp2_with fail
  refine (HR1.out _).mono ?_
  rintro e w1 ⟨rfl, rfl⟩
  go_wp2_with fail
  refine (begins_any s ⟨#[35, 82, 69, 70, 33]⟩ _ i false hs (by show (5 : Nat) ≤ 100000; omega) rfl (by omega) HP.out _).mono ?_
  rintro e w1 ⟨rfl, rfl⟩
  go_wp2_with fail
  refine (signs_any _).mono ?_
  rintro e w1 ⟨rfl, hb, hz, hcl⟩
  have HBL := Lib.hid hb
  have HCL := Lib.hid hcl
  have hbx := (hb.block w.heap.size (by simp)).trans (heap_alloc_new w _)
  obtain ⟨hc0, hc1, hc2, hf0⟩ := cells3f hbx
  have hbl : Below w.heap.size w w1 := by (repeat' (first | (with_reducible exact Below.refl _ _) | (with_reducible assumption) | (with_reducible refine Below.alloc ?_ ?_ _) | (with_reducible refine bel_drewN ?_ _) | (with_reducible refine Below.drew ?_) | (with_reducible refine Below.setCell ?_ ?_ _) | (with_reducible refine bel_call ‹_› ?_ ?_) | go_size))
  have HB0 := Lib.hid hbl
  simp only [World.size_alloc] at hz hcl HCL
  clear hb hcl hbl hbx
  go_wp2_with fail
  go_loop [11] (fun v => ∃ k : Nat, v = .int .i64 k ∧ k ≤ 15 ∧ ((sgs.drop k).find? fun x => Lib.hasPrefix (s.data.toList.drop i) x).getD [] = R) (fun v => 15 - (intOf v).toNat)
  case atStart => exact ⟨0, rfl, by omega, HR.out⟩
  case round =>
    obtain ⟨k, rfl, hk, hq⟩ := hrel
    have HQ := Lib.hid hq
    clear hq HR
    rcases Nat.lt_or_ge k 15 with hlt | hge
    · have hck := HCL.out k hlt
      obtain ⟨b, hb⟩ : ∃ b, Lib.hasPrefix (s.data.toList.drop i) (sgB k).data.toList = b := ⟨_, rfl⟩
      have hsg := sg_len k
      have HPRE := Lib.hid (fun W => begins_any s (sgB k) i i b hs (by omega) rfl (by omega) hb W)
      have hq2 := HQ.out
      have hbb : Lib.hasPrefix (s.data.toList.drop i) (sgs.getD k []) = b := hb
      rw [sg_at hlt, List.find?_cons, hbb] at hq2
      cases b with
      | true =>
        have HE : Hid (sgB k = ⟨R.toArray⟩) := by rw [← hq2]; rfl
        have HE2 : Hid ((sgB k).size = R.length) := by rw [HE.out, size_of]; rfl
        have HT2 : Hid (tok s.data.toList i = some (4, R, R.length)) := by
          have h1 := HT.out
          have h2 : R ≠ [] := by
            rw [← hq2]
            exact sg_ne k hlt
          rw [if_neg h2] at h1
          exact h1
        clear hq2 hb hbb
        go_wp2_with fail
        refine (HPRE.out _).mono ?_
        rintro e w2 ⟨rfl, rfl⟩
        go_wp2_with fail
        go_region
        all_goals
          go_wp2_with fail
          refine bodyPost_ret (v := .tuple #[.agg #[.int .i64 4, .string (sgB k), .int .i64 i], .int .i64 (sgB k).size]) (by simp [results, Tryz.results30, go_sem, hc0, hc1, hc2, hz, hf0]) rfl (reto_some HT2.out HE.out rfl (by rw [HE2.out]; omega) (((HB0.out.setCell (Nat.le_refl _) _).setCell (Nat.le_refl _) _).setCell (Nat.le_refl _) _).drew)
      | false =>
        have HE := Lib.hid hq2
        clear hq2 hb hbb
        go_wp2_with fail
        refine (HPRE.out _).mono ?_
        rintro e w2 ⟨rfl, rfl⟩
        go_wp2_with fail
        go_round
        case rel => exact ⟨k + 1, by go_num, by omega, HE.out⟩
        case measure => simp [intOf]; omega
    · have HE : Hid (tok s.data.toList i = none) := by
        obtain rfl : k = 15 := by omega
        have h : [] = R := HQ.out
        have h1 := HT.out
        rw [if_pos h.symm] at h1
        exact h1
      go_wp2_with fail
      refine bodyPost_ret (v := .tuple #[.agg #[.int .i64 0, .string ⟨#[]⟩, .int .i64 0], .int .i64 0]) (by simp [results, Tryz.results30, go_sem, hc0, hc1, hc2, hz, hf0]) rfl (reto_none HE.out (((HB0.out.setCell (Nat.le_refl _) _).setCell (Nat.le_refl _) _).setCell (Nat.le_refl _) _))
theorem refOne_any (s : ByteArray) (i : Nat) (hs : s.size ≤ 100000) (hi : i < s.size) (w : World) :
    Calls Tryz.prog 30 #[.string s, .int .i64 i] w (RetO (tok s.data.toList i) i 0 w) := by
  obtain ⟨c, hc⟩ : ∃ c, nx s.data.toList i = c := ⟨_, rfl⟩
  cases hd : dgB c with
  | true => exact rone_digit s i hs hi c hc hd w
  | false =>
    cases hu : upB c with
    | true => exact rone_letter s i hs hi c hc hd hu w
    | false =>
      by_cases hq : c = 34
      · exact rone_quote s i hs hi c hc hq w
      · cases hp : Lib.hasPrefix (s.data.toList.drop i) sREF with
        | true => exact rone_ref s i hs hi c hc hd hu hq hp w
        | false => exact rone_sign s i hs hi c hc hd hu hq hp w
end Go.Proofs.YtbdgdhjhgcpidaaGreatDoor.Tks
namespace Go.Proofs.YtbdgdhjhgcpidaaGreatDoor.Tks
open Go.RowKit
abbrev tTk : TypeId := 137
abbrev tRk : TypeId := 71
def tkc (x : Tk) : List Value := [.int .i64 x.1, .string ⟨x.2.1.toArray⟩, .int .i64 (x.2.2 : Int)]
theorem info_tk : (Tryz.prog.info? 137).map (fun i => (i.zero, i.size, i.bytes)) = some (some (.agg #[.int .i64 0, .string ⟨#[]⟩, .int .i64 0]), 3, 32) := by kernel_rfl
theorem info_rk : (Tryz.prog.info? 71).map (fun i => (i.zero, i.size, i.bytes)) = some (some (.agg #[.int .i64 0, .string ⟨#[]⟩, .int .i64 0]), 3, 32) := by kernel_rfl
theorem news3 (w : World) (a b c : Value) (t : TypeId) : ∀ j u, [a, b, c][j]? = some u → (w.alloc (.cells #[a, b, c] t)).cell? ((⟨w.heap.size, 0, none⟩ : Addr).add j) = some u := by
  intro j u hj
  match j, hj with
  | 0, hj => simp at hj; subst hj; simp [Addr.add]
  | 1, hj => simp at hj; subst hj; simp [Addr.add]
  | 2, hj => simp at hj; subst hj; simp [Addr.add]
theorem one3 (x : Tk) : ∀ u ∈ tkc x, u.oneCell' = true := by
  intro u hu
  simp only [tkc, List.mem_cons, List.not_mem_nil, or_false] at hu
  rcases hu with rfl | rfl | rfl
  all_goals rfl
theorem tk_snoc (Ts : List Tk) (q : Tk) : (Ts ++ [q]).flatMap tkc = Ts.flatMap tkc ++ tkc q := by rw [List.flatMap_append]; simp [List.flatMap_cons]
theorem tk_at (Ts : List Tk) : ∀ (i : Nat) (x : Tk), Ts[i]? = some x → ∀ k, k < 3 → (Ts.flatMap tkc)[i * 3 + k]? = (tkc x)[k]? := by
  induction Ts with
  | nil => intro i x hx; simp at hx
  | cons q Ts ih =>
    intro i x hx k hk
    have hc : (tkc q).length = 3 := rfl
    cases i with
    | zero =>
      simp only [List.getElem?_cons_zero, Option.some.injEq] at hx
      subst hx
      rw [List.flatMap_cons, List.getElem?_append_left (by rw [hc]; omega)]
      congr 1
      omega
    | succ i =>
      rw [List.getElem?_cons_succ] at hx
      rw [List.flatMap_cons, List.getElem?_append_right (by rw [hc]; omega), hc]
      have := ih i x hx k hk
      rw [← this]
      congr 1
      omega
def RdT (w : World) (p : Option Addr) (n cap : Nat) (Ts : List Tk) : Prop :=
  Ts.length = n ∧ n ≤ cap ∧ cap ≤ maxLen ∧
  ((p = none ∧ n = 0 ∧ cap = 0) ∨ ∃ b, p = some ⟨b, 0, none⟩ ∧ b < w.heap.size ∧ ∀ (j : Nat) (x : Tk), Ts[j]? = some x → w.cell? ⟨b, j * 3, none⟩ = some (.int .i64 x.1) ∧ w.cell? ⟨b, j * 3 + 1, none⟩ = some (.string ⟨x.2.1.toArray⟩) ∧ w.cell? ⟨b, j * 3 + 2, none⟩ = some (.int .i64 (x.2.2 : Int)))
theorem RdT.nil (w : World) : RdT w none 0 0 [] := ⟨rfl, Nat.le_refl _, Nat.zero_le _, .inl ⟨rfl, rfl, rfl⟩⟩
theorem RdT.below {w w' : World} {p : Option Addr} {n cap : Nat} {Ts : List Tk} (h : RdT w p n cap Ts) (hb : Below w.heap.size w w') : RdT w' p n cap Ts := by
  obtain ⟨h1, h2, h3, h4⟩ := h
  refine ⟨h1, h2, h3, ?_⟩
  rcases h4 with h4 | ⟨b, h5, h6, h7⟩
  · exact .inl h4
  · refine .inr ⟨b, h5, Nat.lt_of_lt_of_le h6 hb.size, fun j x hx => ?_⟩
    obtain ⟨k1, k2, k3⟩ := h7 j x hx
    exact ⟨(hb.cell (p := ⟨b, j * 3, none⟩) h6).trans k1, (hb.cell (p := ⟨b, j * 3 + 1, none⟩) h6).trans k2, (hb.cell (p := ⟨b, j * 3 + 2, none⟩) h6).trans k3⟩
theorem RdT.of_own {w : World} {base : Nat} {e : TypeId} {v : Value} {Ts : List Tk} (h : w.ownsRow base e 3 v Ts.length (Ts.flatMap tkc)) : ∃ p cap, v = .slice p Ts.length cap ∧ RdT w p Ts.length cap Ts := by
  obtain ⟨hl, ⟨hv, h0⟩ | ⟨r, cap, cur, rfl, hg, hh, hn', hm, hs, ht⟩⟩ := h
  · have : Ts = [] := List.eq_nil_of_length_eq_zero h0
    subst this
    exact ⟨none, 0, hv, RdT.nil w⟩
  · refine ⟨some ⟨r, 0, none⟩, cap, rfl, rfl, hn', hm, .inr ⟨r, rfl, ?_, fun j x hx => ?_⟩⟩
    · rcases Nat.lt_or_ge r w.heap.size with h' | h'
      · exact h'
      · rw [Array.getElem?_eq_none h'] at hh; cases hh
    · have hj := (List.getElem?_eq_some_iff.1 hx).1
      have key : ∀ k u, k < 3 → (tkc x)[k]? = some u → w.cell? ⟨r, j * 3 + k, none⟩ = some u := by
        intro k u hk hu
        rw [← tk_at Ts j x hx k hk, ← ht, List.getElem?_take, if_pos (by omega)] at hu
        simp only [World.cell?, hh]
        simpa using hu
      exact ⟨key 0 _ (by omega) rfl, key 1 _ (by omega) rfl, key 2 _ (by omega) rfl⟩
theorem own_below {w w' : World} {base e size n : Nat} {v : Value} {xs : List Value} (h : w.ownsRow base e size v n xs) (hb : Below w.heap.size w w') : w'.ownsRow base e size v n xs := by
  obtain ⟨h1, h2⟩ := h
  refine ⟨h1, ?_⟩
  rcases h2 with h2 | ⟨g, cap, cur, hv, hg, hh, r⟩
  · exact .inl h2
  · refine .inr ⟨g, cap, cur, hv, hg, ?_, r⟩
    rw [hb.block g (by
      rcases Nat.lt_or_ge g w.heap.size with h' | h'
      · exact h'
      · rw [Array.getElem?_eq_none h'] at hh; cases hh)]
    exact hh
def sm (p : List Tk) : Option (List Tk) × Nat → Option (List Tk) × Nat
  | (some r, x) => (some (p ++ r), x)
  | (none, x) => (none, x)
theorem sm_nil (x : Option (List Tk) × Nat) : sm [] x = x := by
  obtain ⟨o, y⟩ := x
  cases o <;> rfl
theorem sm_sm (p q : List Tk) (x : Option (List Tk) × Nat) : sm p (sm q x) = sm (p ++ q) x := by
  obtain ⟨o, y⟩ := x
  cases o <;> simp [sm]
theorem spl_blank (L : List UInt8) (i : Nat) (h : nx L i = 32) : spl L i = spl L (i + 1) := by
  rw [spl_step L i (lt_of_nx (by omega)), if_pos h]
theorem spl_none (L : List UInt8) (i : Nat) (hi : i < L.length) (h : nx L i ≠ 32) (ht : tok L i = none) : spl L i = (none, i) := by
  rw [spl_step L i hi, if_neg h, ht]
theorem spl_some (L : List UInt8) (i : Nat) (hi : i < L.length) (h : nx L i ≠ 32) {k : Int} {t : List UInt8} {n : Nat} (ht : tok L i = some (k, t, n)) : spl L i = sm [(k, t, i)] (spl L (i + n)) := by
  rw [spl_step L i hi, if_neg h, ht]
  simp only []
  cases hs : spl L (i + n) with
  | mk o y => cases o <;> rfl
def RetS (ok er : Value) (R : Option (List Tk) × Nat) (W : World) (e : Ending) (w' : World) : Prop := Below W.heap.size W w' ∧ match R with
  | (some Ts, _) => ∃ p cap, e = .returned (.tuple #[.slice p Ts.length cap, .int .i64 0, ok]) ∧ RdT w' p Ts.length cap Ts
  | (none, x) => e = .returned (.tuple #[.slice none 0 0, .int .i64 (x : Int), er])
theorem rets_some {ok er : Value} {R : Option (List Tk) × Nat} {W w' : World} {Ts : List Tk} {x : Nat} {v : Value} {e : TypeId} {base : Nat} (h : R = (some Ts, x)) (hown : w'.ownsRow base e 3 v Ts.length (Ts.flatMap tkc)) (hb : Below W.heap.size W w') : RetS ok er R W (.returned (.tuple #[v, .int .i64 0, ok])) w' := by
  subst h
  obtain ⟨p, cap, rfl, hr⟩ := RdT.of_own hown
  exact ⟨hb, p, cap, rfl, hr⟩
theorem rets_none {ok er : Value} {R : Option (List Tk) × Nat} {W w' : World} {x : Nat} (h : R = (none, x)) (hb : Below W.heap.size W w') : RetS ok er R W (.returned (.tuple #[.slice none 0 0, .int .i64 (x : Int), er])) w' := by
  subst h
  exact ⟨hb, rfl⟩
end Go.Proofs.YtbdgdhjhgcpidaaGreatDoor.Tks
namespace Go.Proofs.YtbdgdhjhgcpidaaGreatDoor.Tks
open Go.RowKit
set_option maxRecDepth 100000 in
set_option maxHeartbeats 4000000 in
theorem split_any (s : ByteArray) (R : Option (List Tk) × Nat) (hs : s.size ≤ 100000) (hR : spl s.data.toList 0 = R) (w : World) :
    Calls Tryz.prog 59 #[.string s] w (RetS (.int .i64 0) (.int .i64 21) R w) := by
  obtain ⟨i0, hi, hz0, hz1', hz2⟩ := info_parts info_tk
  have HR := Lib.hid hR
  clear hR
  go_enter Tryz.func59, Tryz.ntmps59
  go_wp2_with fail
  refine wp_scope_many (fun l a' wr => l = 0 ∧ ∃ (k : Nat) (acc : List Tk) (v : Value), k ≤ s.size ∧ acc.length ≤ k ∧ sm acc (spl s.data.toList k) = R ∧ wr.ownsRow w.heap.size tTk 3 v acc.length (acc.flatMap tkc) ∧ Below w.heap.size w wr ∧ ∃ u1 u7 u8 u9 u10 u11 u12 u13 u14 u15 u16 u17 u18 u19 u20 u21 u22 u23 u24 u25 u26 u27 u28 u29 u30 u31 u32 u33 : Value, a' = { tmps := #[.string s, u1, .slice none 0 0, .int .i64 0, .int .i64 0, v, .int .i64 k, u7, u8, u9, u10, u11, u12, u13, u14, u15, u16, u17, u18, u19, u20, u21, u22, u23, u24, u25, u26, u27, u28, u29, u30, u31, u32, u33], defers := [] }) (fun _ a' _ => 600000 - (intOf (a'.tmps.getD 6 undef)).toNat) 600001 ?_ ?_
  · go_wp2_with fail
    go_step3
    go_wp2_with fail
    refine (show ∀ (c : Code) (Q : Exit → Act → World → Prop), (∀ (k : Nat) (acc : List Tk) (v : Value) (wr : World), k ≤ s.size → acc.length ≤ k → sm acc (spl s.data.toList k) = R → wr.ownsRow w.heap.size tTk 3 v acc.length (acc.flatMap tkc) → Below w.heap.size w wr → c.wp Tryz.prog Q { tmps := #[.string s, undef, .slice none 0 0, .int .i64 0, .int .i64 0, v, .int .i64 k, undef, undef, undef, undef, undef, undef, undef, undef, undef, undef, undef, undef, undef, undef, undef, undef, undef, undef, undef, undef, undef, undef, undef, undef, undef, undef, undef], defers := [] } wr) → c.wp Tryz.prog Q { tmps := #[.string s, undef, .slice none 0 0, .int .i64 0, .int .i64 0, .slice none 0 0, .int .i64 0, undef, undef, undef, undef, undef, undef, undef, undef, undef, undef, undef, undef, undef, undef, undef, undef, undef, undef, undef, undef, undef, undef, undef, undef, undef, undef, undef], defers := [] } w from fun c Q key => key 0 [] (.slice none 0 0) w (by omega) (by simp) (by rw [sm_nil]; exact HR.out) (World.ownsRow_nil _ _ _ _) (Below.refl _ _)) _ _ ?_
    intro k acc v wr hks hal hq hown hbl
    have HQ := Lib.hid hq
    have HOWN := Lib.hid hown
    have HBL := Lib.hid hbl
    have hzz := hbl.size
    clear hq hown hbl HR
    go_wp2_with fail
    go_loopw [6] (fun a wx => ∃ j : Nat, a = .int .i64 j ∧ k ≤ j ∧ j ≤ s.size ∧ spl s.data.toList j = spl s.data.toList k ∧ wx = wr) (fun a _ => s.size - (intOf a).toNat)
    case atStart => exact ⟨k, rfl, by omega, by omega, rfl, rfl⟩
    case round =>
      obtain ⟨j, rfl, hkj, hjs, hsj, hwx⟩ := hrel
      subst hwx
      obtain ⟨c, hc⟩ : ∃ c, nx s.data.toList j = c := ⟨_, rfl⟩
      by_cases h32 : c = 32
      · have hj1 : j + 1 ≤ s.size := by
          have := lt_of_nx (L := s.data.toList) (i := j) (by omega)
          rw [← Lib.size_eq] at this
          omega
        have HS1 : Hid (spl s.data.toList (j + 1) = spl s.data.toList k) := by
          unfold Hid
          rw [← spl_blank s.data.toList j (by omega)]
          exact hsj
        have e1 : (((c : Nat) : Int) == 32) = true := by rw [h32]; rfl
        have HC := Lib.hid hc
        clear hc h32 hsj
        go_wp2_with fail
        refine (next_z s _ j c hs (by omega) HC.out _).mono ?_
        rintro e w1 ⟨rfl, rfl⟩
        go_wp2_with fail
        go_roundw
        case rel => exact ⟨j + 1, by go_num, by omega, hj1, HS1.out, by first | rfl | trivial⟩
        case measure => simp [intOf]; omega
      · have e1 : (((c : Nat) : Int) == 32) = false := by simp; omega
        have HQ2 : Hid (sm acc (spl s.data.toList j) = R) := by unfold Hid; rw [hsj]; exact HQ.out
        have HC := Lib.hid hc
        clear hsj
        rcases Nat.lt_or_ge j s.size with hlt | hge
        · have hlt' : j < s.data.toList.length := by rw [← Lib.size_eq]; exact hlt
          have hne : (((j : Nat) : Int) == (s.size : Int)) = false := by simp; omega
          cases ht : tok s.data.toList j with
          | none =>
            have HR1 : Hid (R = (none, j)) := by
              have h := HQ2.out
              rw [spl_none s.data.toList j hlt' (by omega) ht] at h
              exact h.symm
            have HT := Lib.hid ht
            clear hc h32 ht
            go_wp2_with fail
            refine (next_z s _ j c hs (by omega) HC.out _).mono ?_
            rintro e w1 ⟨rfl, rfl⟩
            go_wp2_with fail
            refine (one_any s j hs hlt _).mono ?_
            rintro e w1 ⟨hb1, ve, rfl, hv⟩
            rw [HT.out] at hv
            obtain ⟨k', t', a', rfl⟩ := hv
            have hz1 := hb1.size
            have HBL2 : Hid (Below w.heap.size w w1) := HBL.out.trans (hb1.mono (by omega))
            have HBL3 : Hid (Below w.heap.size w (w1.alloc (.cells #[.int .i64 k', .string t', .int .i64 a'] tTk))) := HBL2.out.alloc (by omega) _
            clear hb1
            go_wp2_with fail
            simp only [jumps_ret]
            go_ret3
            exact rets_none HR1.out HBL3.out
          | some x =>
            obtain ⟨k', t', n⟩ := x
            have hpos := tok_pos hlt' ht
            rw [← Lib.size_eq] at hpos
            have HR1 : Hid (sm (acc ++ [(k', t', j)]) (spl s.data.toList (j + n)) = R) := by
              have h := HQ2.out
              rw [spl_some s.data.toList j hlt' (by omega) ht, sm_sm] at h
              exact h
            have HT := Lib.hid ht
            have hn0 : (((j + n : Nat) : Int) == 0) = false := by simp; omega
            clear hc h32 ht
            go_wp2_with fail
            refine (next_z s _ j c hs (by omega) HC.out _).mono ?_
            rintro e w1 ⟨rfl, rfl⟩
            go_wp2_with fail
            refine (one_any s j hs hlt _).mono ?_
            rintro e w1 ⟨hb1, ve, rfl, hv⟩
            rw [HT.out] at hv
            have hv : ve = .tuple #[.agg #[.int .i64 k', .string ⟨t'.toArray⟩, .int .i64 j], .int .i64 ((j + n : Nat) : Int)] := hv
            subst hv
            have hz1 := hb1.size
            have HBL2 : Hid (Below w.heap.size w w1) := HBL.out.trans (hb1.mono (by omega))
            have HBL3 : Hid (Below w.heap.size w (w1.alloc (.cells #[.int .i64 k', .string ⟨t'.toArray⟩, .int .i64 j] tTk))) := HBL2.out.alloc (by omega) _
            have HO3 : Hid ((w1.alloc (.cells #[.int .i64 k', .string ⟨t'.toArray⟩, .int .i64 j] tTk)).ownsRow w.heap.size tTk 3 v acc.length (acc.flatMap tkc)) := own_below (own_below HOWN.out hb1) ((Below.refl _ _).alloc (Nat.le_refl _) _)
            clear hb1
            obtain ⟨z, hz⟩ : ∃ z, j + n = z := ⟨_, rfl⟩
            rw [hz] at hn0 HR1
            rw [hz]
            have hzs : z ≤ s.size := by omega
            have hjz : j + 1 ≤ z := by omega
            clear hz hpos
            go_wp2_with (at_builtin; refine wpList_append_own _ rfl _ _ _ rfl w.heap.size tTk i0 (.agg #[.int .i64 0, .string ⟨#[]⟩, .int .i64 0]) 3 32 Tryz.underlying109 hi hz0 hz1' hz2 rfl (by decide) _ acc.length (acc.flatMap tkc) rfl (HO3.out.alloc _) ⟨w1.heap.size + 1, 0, none⟩ 1 1 (tkc (k', t', j)) rfl rfl ?c1 ?c2 ?c3 ?c4 ?c5 ?_)
            case c1 => have := news3 (w1.alloc (.cells #[.int .i64 k', .string ⟨t'.toArray⟩, .int .i64 j] tTk)) (.int .i64 k') (.string ⟨t'.toArray⟩) (.int .i64 j) tTk; simp only [World.size_alloc] at this; exact this
            case c2 => exact one3 _
            case c3 => unfold maxLen; omega
            case c4 => omega
            case c5 => simp; omega
            intro v' w2 hown2 hgrow2 _
            have HO4 : Hid (w2.ownsRow w.heap.size tTk 3 v' (acc ++ [(k', t', j)]).length ((acc ++ [(k', t', j)]).flatMap tkc)) := by
              unfold Hid
              rw [tk_snoc, List.length_append]
              exact hown2
            have HBL4 : Hid (Below w.heap.size w w2) := (HBL3.out.alloc (by simp; omega) _).grown hgrow2 (by simp; omega) (fun k hk => (HO3.out.lt k hk).1)
            clear hown2 hgrow2
            go_wp2_with fail
            go_step3
            refine ⟨⟨rfl, z, acc ++ [(k', t', j)], v', hzs, by simp; omega, HR1.out, HO4.out, HBL4.out, ⟨_, _, _, _, _, _, _, _, _, _, _, _, _, _, _, _, _, _, _, _, _, _, _, _, _, _, _, _, by first | rfl | go_num⟩⟩, by simp [intOf]; omega⟩
        · obtain rfl : j = s.size := by omega
          have HR1 : Hid (R = (some acc, 0)) := by
            have h := HQ2.out
            rw [spl_end s.data.toList _ (by rw [← Lib.size_eq]; omega)] at h
            rw [← h]
            simp [sm, Hid]
          clear hc h32
          go_wp2_with fail
          refine (next_z s _ s.size c hs rfl HC.out _).mono ?_
          rintro e w1 ⟨rfl, rfl⟩
          go_wp2_with fail
          simp only [jumps_ret]
          go_ret3
          exact rets_some HR1.out HOWN.out HBL.out
  · rintro l a' wr ⟨rfl, k, acc, v, hks, hal, hq, hown, hbl, ⟨u1, u7, u8, u9, u10, u11, u12, u13, u14, u15, u16, u17, u18, u19, u20, u21, u22, u23, u24, u25, u26, u27, u28, u29, u30, u31, u32, u33, rfl⟩⟩
    refine ⟨_, rfl, ?_⟩
    have HQ := Lib.hid hq
    have HOWN := Lib.hid hown
    have HBL := Lib.hid hbl
    have hzz := hbl.size
    clear hq hown hbl HR
    go_wp2_with fail
    go_loopw [6] (fun a wx => ∃ j : Nat, a = .int .i64 j ∧ k ≤ j ∧ j ≤ s.size ∧ spl s.data.toList j = spl s.data.toList k ∧ wx = wr) (fun a _ => s.size - (intOf a).toNat)
    case atStart => exact ⟨k, rfl, by omega, by omega, rfl, rfl⟩
    case round =>
      obtain ⟨j, rfl, hkj, hjs, hsj, hwx⟩ := hrel
      subst hwx
      obtain ⟨c, hc⟩ : ∃ c, nx s.data.toList j = c := ⟨_, rfl⟩
      by_cases h32 : c = 32
      · have hj1 : j + 1 ≤ s.size := by
          have := lt_of_nx (L := s.data.toList) (i := j) (by omega)
          rw [← Lib.size_eq] at this
          omega
        have HS1 : Hid (spl s.data.toList (j + 1) = spl s.data.toList k) := by
          unfold Hid
          rw [← spl_blank s.data.toList j (by omega)]
          exact hsj
        have e1 : (((c : Nat) : Int) == 32) = true := by rw [h32]; rfl
        have HC := Lib.hid hc
        clear hc h32 hsj
        go_wp2_with fail
        refine (next_z s _ j c hs (by omega) HC.out _).mono ?_
        rintro e w1 ⟨rfl, rfl⟩
        go_wp2_with fail
        go_roundw
        case rel => exact ⟨j + 1, by go_num, by omega, hj1, HS1.out, by first | rfl | trivial⟩
        case measure => simp [intOf]; omega
      · have e1 : (((c : Nat) : Int) == 32) = false := by simp; omega
        have HQ2 : Hid (sm acc (spl s.data.toList j) = R) := by unfold Hid; rw [hsj]; exact HQ.out
        have HC := Lib.hid hc
        clear hsj
        rcases Nat.lt_or_ge j s.size with hlt | hge
        · have hlt' : j < s.data.toList.length := by rw [← Lib.size_eq]; exact hlt
          have hne : (((j : Nat) : Int) == (s.size : Int)) = false := by simp; omega
          cases ht : tok s.data.toList j with
          | none =>
            have HR1 : Hid (R = (none, j)) := by
              have h := HQ2.out
              rw [spl_none s.data.toList j hlt' (by omega) ht] at h
              exact h.symm
            have HT := Lib.hid ht
            clear hc h32 ht
            go_wp2_with fail
            refine (next_z s _ j c hs (by omega) HC.out _).mono ?_
            rintro e w1 ⟨rfl, rfl⟩
            go_wp2_with fail
            refine (one_any s j hs hlt _).mono ?_
            rintro e w1 ⟨hb1, ve, rfl, hv⟩
            rw [HT.out] at hv
            obtain ⟨k', t', a', rfl⟩ := hv
            have hz1 := hb1.size
            have HBL2 : Hid (Below w.heap.size w w1) := HBL.out.trans (hb1.mono (by omega))
            have HBL3 : Hid (Below w.heap.size w (w1.alloc (.cells #[.int .i64 k', .string t', .int .i64 a'] tTk))) := HBL2.out.alloc (by omega) _
            clear hb1
            go_wp2_with fail
            simp only [jumps_ret]
            go_ret3
            exact rets_none HR1.out HBL3.out
          | some x =>
            obtain ⟨k', t', n⟩ := x
            have hpos := tok_pos hlt' ht
            rw [← Lib.size_eq] at hpos
            have HR1 : Hid (sm (acc ++ [(k', t', j)]) (spl s.data.toList (j + n)) = R) := by
              have h := HQ2.out
              rw [spl_some s.data.toList j hlt' (by omega) ht, sm_sm] at h
              exact h
            have HT := Lib.hid ht
            have hn0 : (((j + n : Nat) : Int) == 0) = false := by simp; omega
            clear hc h32 ht
            go_wp2_with fail
            refine (next_z s _ j c hs (by omega) HC.out _).mono ?_
            rintro e w1 ⟨rfl, rfl⟩
            go_wp2_with fail
            refine (one_any s j hs hlt _).mono ?_
            rintro e w1 ⟨hb1, ve, rfl, hv⟩
            rw [HT.out] at hv
            have hv : ve = .tuple #[.agg #[.int .i64 k', .string ⟨t'.toArray⟩, .int .i64 j], .int .i64 ((j + n : Nat) : Int)] := hv
            subst hv
            have hz1 := hb1.size
            have HBL2 : Hid (Below w.heap.size w w1) := HBL.out.trans (hb1.mono (by omega))
            have HBL3 : Hid (Below w.heap.size w (w1.alloc (.cells #[.int .i64 k', .string ⟨t'.toArray⟩, .int .i64 j] tTk))) := HBL2.out.alloc (by omega) _
            have HO3 : Hid ((w1.alloc (.cells #[.int .i64 k', .string ⟨t'.toArray⟩, .int .i64 j] tTk)).ownsRow w.heap.size tTk 3 v acc.length (acc.flatMap tkc)) := own_below (own_below HOWN.out hb1) ((Below.refl _ _).alloc (Nat.le_refl _) _)
            clear hb1
            obtain ⟨z, hz⟩ : ∃ z, j + n = z := ⟨_, rfl⟩
            rw [hz] at hn0 HR1
            rw [hz]
            have hzs : z ≤ s.size := by omega
            have hjz : j + 1 ≤ z := by omega
            clear hz hpos
            go_wp2_with (at_builtin; refine wpList_append_own _ rfl _ _ _ rfl w.heap.size tTk i0 (.agg #[.int .i64 0, .string ⟨#[]⟩, .int .i64 0]) 3 32 Tryz.underlying109 hi hz0 hz1' hz2 rfl (by decide) _ acc.length (acc.flatMap tkc) rfl (HO3.out.alloc _) ⟨w1.heap.size + 1, 0, none⟩ 1 1 (tkc (k', t', j)) rfl rfl ?c1 ?c2 ?c3 ?c4 ?c5 ?_)
            case c1 => have := news3 (w1.alloc (.cells #[.int .i64 k', .string ⟨t'.toArray⟩, .int .i64 j] tTk)) (.int .i64 k') (.string ⟨t'.toArray⟩) (.int .i64 j) tTk; simp only [World.size_alloc] at this; exact this
            case c2 => exact one3 _
            case c3 => unfold maxLen; omega
            case c4 => omega
            case c5 => simp; omega
            intro v' w2 hown2 hgrow2 _
            have HO4 : Hid (w2.ownsRow w.heap.size tTk 3 v' (acc ++ [(k', t', j)]).length ((acc ++ [(k', t', j)]).flatMap tkc)) := by
              unfold Hid
              rw [tk_snoc, List.length_append]
              exact hown2
            have HBL4 : Hid (Below w.heap.size w w2) := (HBL3.out.alloc (by simp; omega) _).grown hgrow2 (by simp; omega) (fun k hk => (HO3.out.lt k hk).1)
            clear hown2 hgrow2
            go_wp2_with fail
            go_step3
            refine ⟨⟨rfl, z, acc ++ [(k', t', j)], v', hzs, by simp; omega, HR1.out, HO4.out, HBL4.out, ⟨_, _, _, _, _, _, _, _, _, _, _, _, _, _, _, _, _, _, _, _, _, _, _, _, _, _, _, _, by first | rfl | go_num⟩⟩, by simp [intOf]; omega⟩
        · obtain rfl : j = s.size := by omega
          have HR1 : Hid (R = (some acc, 0)) := by
            have h := HQ2.out
            rw [spl_end s.data.toList _ (by rw [← Lib.size_eq]; omega)] at h
            rw [← h]
            simp [sm, Hid]
          clear hc h32
          go_wp2_with fail
          refine (next_z s _ s.size c hs rfl HC.out _).mono ?_
          rintro e w1 ⟨rfl, rfl⟩
          go_wp2_with fail
          simp only [jumps_ret]
          go_ret3
          exact rets_some HR1.out HOWN.out HBL.out
end Go.Proofs.YtbdgdhjhgcpidaaGreatDoor.Tks
namespace Go.Proofs.YtbdgdhjhgcpidaaGreatDoor.Tks
open Go.RowKit
set_option maxRecDepth 100000 in
set_option maxHeartbeats 4000000 in
theorem refSplit_any (s : ByteArray) (R : Option (List Tk) × Nat) (hs : s.size ≤ 100000) (hR : spl s.data.toList 0 = R) (w : World) :
    Calls Tryz.prog 21 #[.string s] w (RetS (.bool true) (.bool false) R w) := by
  obtain ⟨i0, hi, hz0, hz1', hz2⟩ := info_parts info_rk
  have HR := Lib.hid hR
  clear hR
  go_enter Tryz.func21, Tryz.ntmps21
  go_wp2_with fail
  go_loopw [5, 6] (fun v a wr => ∃ (k : Nat) (acc : List Tk), a = .int .i64 k ∧ k ≤ s.size ∧ acc.length ≤ k ∧ sm acc (spl s.data.toList k) = R ∧ wr.ownsRow w.heap.size tRk 3 v acc.length (acc.flatMap tkc) ∧ Below w.heap.size w wr) (fun _ a _ => s.size - (intOf a).toNat)
  case atStart => exact ⟨0, [], rfl, by omega, by simp, by rw [sm_nil]; exact HR.out, World.ownsRow_nil _ _ _ _, Below.refl _ _⟩
  case round =>
    obtain ⟨j, acc, rfl, hjs, hal, hq, hown, hbl⟩ := hrel
    have HQ := Lib.hid hq
    have HOWN := Lib.hid hown
    have HBL := Lib.hid hbl
    have hzz := hbl.size
    clear hq hown hbl HR
    rcases Nat.lt_or_ge j s.size with hlt | hge
    · have hlt' : j < s.data.toList.length := by rw [← Lib.size_eq]; exact hlt
      obtain ⟨c, hc⟩ : ∃ c, nx s.data.toList j = c := ⟨_, rfl⟩
      have hb1 := nx_str s j hlt
      rw [hc] at hb1
      by_cases h32 : c = 32
      · have HS1 : Hid (sm acc (spl s.data.toList (j + 1)) = R) := by
          unfold Hid
          rw [← spl_blank s.data.toList j (by omega)]
          exact HQ.out
        have e1 : (((s[j].toNat : Nat) : Int) == 32) = true := by rw [hb1, h32]; rfl
        clear hc h32 hb1
        go_wp2_with fail
        go_roundw
        case rel => exact ⟨j + 1, acc, by go_num, by omega, by omega, HS1.out, HOWN.out, HBL.out⟩
        case measure => simp [intOf]; omega
      · have e1 : (((s[j].toNat : Nat) : Int) == 32) = false := by rw [hb1]; simp; omega
        cases ht : tok s.data.toList j with
        | none =>
          have HR1 : Hid (R = (none, j)) := by
            have h := HQ.out
            rw [spl_none s.data.toList j hlt' (by omega) ht] at h
            exact h.symm
          have HT := Lib.hid ht
          clear hc h32 hb1 ht
          go_wp2_with fail
          refine (refOne_any s j hs hlt _).mono ?_
          rintro e w1 ⟨hb1, ve, rfl, hv⟩
          rw [HT.out] at hv
          obtain ⟨k', t', a', rfl⟩ := hv
          have hz1 := hb1.size
          have HBL2 : Hid (Below w.heap.size w w1) := HBL.out.trans (hb1.mono (by omega))
          have HBL3 : Hid (Below w.heap.size w (w1.alloc (.cells #[.int .i64 k', .string t', .int .i64 a'] tRk))) := HBL2.out.alloc (by omega) _
          clear hb1
          go_wp2_with fail
          go_ret3
          exact rets_none HR1.out HBL3.out
        | some x =>
          obtain ⟨k', t', n⟩ := x
          have hpos := tok_pos hlt' ht
          rw [← Lib.size_eq] at hpos
          have HR1 : Hid (sm (acc ++ [(k', t', j)]) (spl s.data.toList (j + n)) = R) := by
            have h := HQ.out
            rw [spl_some s.data.toList j hlt' (by omega) ht, sm_sm] at h
            exact h
          have HT := Lib.hid ht
          have hn0 : (((n : Nat) : Int) == 0) = false := by simp; omega
          clear hc h32 hb1 ht
          go_wp2_with fail
          refine (refOne_any s j hs hlt _).mono ?_
          rintro e w1 ⟨hb1, ve, rfl, hv⟩
          rw [HT.out] at hv
          have hv : ve = .tuple #[.agg #[.int .i64 k', .string ⟨t'.toArray⟩, .int .i64 j], .int .i64 ((0 + n : Nat) : Int)] := hv
          rw [Nat.zero_add] at hv
          subst hv
          have hz1 := hb1.size
          have HBL2 : Hid (Below w.heap.size w w1) := HBL.out.trans (hb1.mono (by omega))
          have HBL3 : Hid (Below w.heap.size w (w1.alloc (.cells #[.int .i64 k', .string ⟨t'.toArray⟩, .int .i64 j] tRk))) := HBL2.out.alloc (by omega) _
          obtain ⟨v, hveq⟩ : ∃ v, v = u5 := ⟨_, rfl⟩
          subst hveq
          have HO3 : Hid ((w1.alloc (.cells #[.int .i64 k', .string ⟨t'.toArray⟩, .int .i64 j] tRk)).ownsRow w.heap.size tRk 3 v acc.length (acc.flatMap tkc)) := own_below (own_below HOWN.out hb1) ((Below.refl _ _).alloc (Nat.le_refl _) _)
          clear hb1
          go_wp2_with (at_builtin; refine wpList_append_own _ rfl _ _ _ rfl w.heap.size tRk i0 (.agg #[.int .i64 0, .string ⟨#[]⟩, .int .i64 0]) 3 32 Tryz.underlying55 hi hz0 hz1' hz2 rfl (by decide) _ acc.length (acc.flatMap tkc) rfl (HO3.out.alloc _) ⟨w1.heap.size + 1, 0, none⟩ 1 1 (tkc (k', t', j)) rfl rfl ?c1 ?c2 ?c3 ?c4 ?c5 ?_)
          case c1 => have := news3 (w1.alloc (.cells #[.int .i64 k', .string ⟨t'.toArray⟩, .int .i64 j] tRk)) (.int .i64 k') (.string ⟨t'.toArray⟩) (.int .i64 j) tRk; simp only [World.size_alloc] at this; exact this
          case c2 => exact one3 _
          case c3 => unfold maxLen; omega
          case c4 => omega
          case c5 => simp; omega
          intro v' w2 hown2 hgrow2 _
          have HO4 : Hid (w2.ownsRow w.heap.size tRk 3 v' (acc ++ [(k', t', j)]).length ((acc ++ [(k', t', j)]).flatMap tkc)) := by
            unfold Hid
            rw [tk_snoc, List.length_append]
            exact hown2
          have HBL4 : Hid (Below w.heap.size w w2) := (HBL3.out.alloc (by simp; omega) _).grown hgrow2 (by simp; omega) (fun k hk => (HO3.out.lt k hk).1)
          clear hown2 hgrow2
          go_wp2_with fail
          go_roundw
          case rel => exact ⟨j + n, acc ++ [(k', t', j)], by go_num, by omega, by simp; omega, HR1.out, HO4.out, HBL4.out⟩
          case measure => simp [intOf]; omega
    · obtain rfl : j = s.size := by omega
      have HR1 : Hid (R = (some acc, 0)) := by
        have h := HQ.out
        rw [spl_end s.data.toList _ (by rw [← Lib.size_eq]; omega)] at h
        rw [← h]
        simp [sm, Hid]
      go_wp2_with fail
      go_ret3
      exact rets_some HR1.out HOWN.out HBL.out
end Go.Proofs.YtbdgdhjhgcpidaaGreatDoor.Tks
