/- Values as texts and numbers: contracts. -/
import Derived.Test.YtilajcibjlcffaaGreatDoorTelA
set_option linter.unusedSimpArgs false
set_option linter.unusedVariables false

namespace Go.Proofs.YtilajcibjlcffaaGreatDoor.Val
open Go.RowKit

/-- What Show tells. -/
def shwL (k n : Int) (s : ByteArray) : List UInt8 := if k = 1 then txt n else s.data.toList
theorem bytes_list (s : ByteArray) : (⟨s.data.toList.toArray⟩ : ByteArray) = s := by
  apply ByteArray.ext
  simp

set_option maxRecDepth 100000 in
set_option maxHeartbeats 1000000 in
theorem show_any (k n : Int) (s : ByteArray) (hn1 : -9223372036854775808 ≤ n) (hn2 : n ≤ 9223372036854775807) (w : World) :
    Calls Tryz.prog 75 #[.agg #[.int .i64 k, .int .i64 n, .string s]] w fun e w' => e = .returned (.string ⟨(shwL k n s).toArray⟩) ∧ Below w.heap.size w w' := by
  have HT := Lib.hid (fun W => text_any n hn1 hn2 W)
  by_cases hk : k = 1
  · subst hk
    have e : shwL 1 n s = txt n := if_pos rfl
    rw [e]
    obtain ⟨T, hT⟩ : ∃ T, txt n = T := ⟨_, rfl⟩
    rw [hT] at HT ⊢
    clear e hT
    go_enter Tryz.func75, Tryz.ntmps75
    go_wp2_with fail
    refine (HT.out _).mono ?_
    rintro e w1 ⟨rfl, hb⟩
    have hs := hb.size
    go_wp2_with fail
    go_ret
    exact ⟨rfl, by (repeat' (first | (with_reducible exact Below.refl _ _) | (with_reducible assumption) | (with_reducible refine Below.alloc ?_ ?_ _) | (with_reducible refine bel_drewN ?_ _) | (with_reducible refine Below.drew ?_) | (with_reducible refine Below.setCell ?_ ?_ _) | (with_reducible refine bel_call ‹_› ?_ ?_) | go_size))⟩
  · have e : shwL k n s = s.data.toList := if_neg hk
    rw [e, bytes_list]
    have hk' : (k == 1) = false := by simp [hk]
    clear e
    go_enter Tryz.func75, Tryz.ntmps75
    go_wp2_with fail
    go_ret
    exact ⟨rfl, by (repeat' (first | (with_reducible exact Below.refl _ _) | (with_reducible assumption) | (with_reducible refine Below.alloc ?_ ?_ _) | (with_reducible refine bel_drewN ?_ _) | (with_reducible refine Below.drew ?_) | (with_reducible refine Below.setCell ?_ ?_ _) | (with_reducible refine bel_call ‹_› ?_ ?_) | go_size))⟩
set_option maxRecDepth 100000 in
set_option maxHeartbeats 1000000 in
theorem refShow_any (k n : Int) (s : ByteArray) (hn1 : -9223372036854775808 ≤ n) (hn2 : n ≤ 9223372036854775807) (w : World) :
    Calls Tryz.prog 50 #[.agg #[.int .i64 k, .int .i64 n, .string s]] w fun e w' => e = .returned (.string ⟨(shwL k n s).toArray⟩) ∧ Below w.heap.size w w' := by
  have HT := Lib.hid (fun W => refText_any n hn1 hn2 W)
  by_cases hk : k = 1
  · subst hk
    have e : shwL 1 n s = txt n := if_pos rfl
    rw [e]
    obtain ⟨T, hT⟩ : ∃ T, txt n = T := ⟨_, rfl⟩
    rw [hT] at HT ⊢
    clear e hT
    go_enter Tryz.func50, Tryz.ntmps50
    go_wp2_with fail
    refine (HT.out _).mono ?_
    rintro e w1 ⟨rfl, hb⟩
    have hs := hb.size
    go_wp2_with fail
    go_ret
    exact ⟨rfl, by (repeat' (first | (with_reducible exact Below.refl _ _) | (with_reducible assumption) | (with_reducible refine Below.alloc ?_ ?_ _) | (with_reducible refine bel_drewN ?_ _) | (with_reducible refine Below.drew ?_) | (with_reducible refine Below.setCell ?_ ?_ _) | (with_reducible refine bel_call ‹_› ?_ ?_) | go_size))⟩
  · have e : shwL k n s = s.data.toList := if_neg hk
    rw [e, bytes_list]
    have hk' : (k == 1) = false := by simp [hk]
    clear e
    go_enter Tryz.func50, Tryz.ntmps50
    go_wp2_with fail
    go_ret
    exact ⟨rfl, by (repeat' (first | (with_reducible exact Below.refl _ _) | (with_reducible assumption) | (with_reducible refine Below.alloc ?_ ?_ _) | (with_reducible refine bel_drewN ?_ _) | (with_reducible refine Below.drew ?_) | (with_reducible refine Below.setCell ?_ ?_ _) | (with_reducible refine bel_call ‹_› ?_ ?_) | go_size))⟩

/-- What Number tells: the number, and an error's fields. -/
def numV (k n : Int) (s : ByteArray) : Int := if k = 1 then n else if k = 2 then prsV s.data.toList else 0
def numK (k : Int) (s : ByteArray) : Int := if k = 3 then 3 else if k = 2 then (if prsOk s.data.toList then 0 else 3) else 0
def numM (k n : Int) : Int := if k = 3 then n else 0
def numT (k : Int) (s : ByteArray) : ByteArray := if k = 3 then s else if k = 2 then (if prsOk s.data.toList then ⟨#[]⟩ else ⟨#[35, 86, 65, 76, 85, 69, 33]⟩) else ⟨#[]⟩
theorem prsV_no {L : List UInt8} (h : prsOk L = false) : prsV L = 0 := by unfold prsV; rw [h]; rfl

set_option maxRecDepth 100000 in
set_option maxHeartbeats 1000000 in
theorem number_any (k n : Int) (s : ByteArray) (hk : k = 0 ∨ k = 1 ∨ k = 2 ∨ k = 3) (hs : s.size ≤ 900) (w : World) (hsh : w.ShapedOpen Tryz.prog) :
    Calls Tryz.prog 19 #[.agg #[.int .i64 k, .int .i64 n, .string s]] w fun e w' => e = .returned (.tuple #[.int .i64 (numV k n s), .agg #[.int .i64 (numK k s), .int .i64 (numM k n), .string (numT k s)]]) ∧ Below w.heap.size w w' := by
  have C := Lib.hid (fun W hW => parse_any s (by omega) W hW)
  have HSH := Lib.hid hsh
  clear hsh
  rcases hk with rfl | rfl | rfl | rfl
  · go_enter Tryz.func19, Tryz.ntmps19
    go_wp2_with fail
    all_goals try (go_region; go_wp2)
    all_goals go_returns
    all_goals refine ⟨?_, by (repeat' (first | (with_reducible exact Below.refl _ _) | (with_reducible assumption) | (with_reducible refine Below.alloc ?_ ?_ _) | (with_reducible refine bel_drewN ?_ _) | (with_reducible refine Below.drew ?_) | (with_reducible refine Below.setCell ?_ ?_ _) | (with_reducible refine bel_call ‹_› ?_ ?_) | go_size))⟩
    all_goals first | rfl | simp_all
  · go_enter Tryz.func19, Tryz.ntmps19
    go_wp2_with fail
    all_goals try (go_region; go_wp2)
    all_goals go_returns
    all_goals refine ⟨?_, by (repeat' (first | (with_reducible exact Below.refl _ _) | (with_reducible assumption) | (with_reducible refine Below.alloc ?_ ?_ _) | (with_reducible refine bel_drewN ?_ _) | (with_reducible refine Below.drew ?_) | (with_reducible refine Below.setCell ?_ ?_ _) | (with_reducible refine bel_call ‹_› ?_ ?_) | go_size))⟩
    all_goals first | rfl | simp_all
  · have e1 : numV 2 n s = prsV s.data.toList := rfl
    have e2 : numK 2 s = (if prsOk s.data.toList then 0 else 3) := rfl
    have e3 : numT 2 s = (if prsOk s.data.toList then ⟨#[]⟩ else ⟨#[35, 86, 65, 76, 85, 69, 33]⟩) := rfl
    rw [e1, e2, e3]
    clear e1 e2 e3
    cases ho : prsOk s.data.toList
    · have hv := prsV_no ho
      rw [ho, hv] at C
      rw [hv]
      clear ho hv
      go_enter Tryz.func19, Tryz.ntmps19
      go_wp2_with fail
      refine (C.out _ (shaped_below HSH.out (by (repeat' (first | (with_reducible exact Below.refl _ _) | (with_reducible assumption) | (with_reducible refine Below.alloc ?_ ?_ _) | (with_reducible refine bel_drewN ?_ _) | (with_reducible refine Below.drew ?_) | (with_reducible refine Below.setCell ?_ ?_ _) | (with_reducible refine bel_call ‹_› ?_ ?_) | go_size))))).mono ?_
      rintro e w1 ⟨rfl, hb⟩
      obtain ⟨hc1, hf1, hz1⟩ := bcell hb (by first | (simp only [World.size_alloc, World.size_setCell, World.size_drew]; rfl) | rfl)
      go_wp2_with (go_at_call 21; refine (fail_any _ _).mono ?_; rintro e w2 ⟨rfl, hb2⟩; obtain ⟨hc2, hf2, hz2⟩ := bcell hb2 (by first | (simp only [World.size_alloc, World.size_setCell, World.size_drew]; rfl) | rfl))
      have x0 : w2.cell? ⟨w.heap.size + 1, 0, none⟩ = some (.int .i64 0) := by go_simp
      have x1 : w2.cell? ⟨w.heap.size + 1, 1, none⟩ = some (.int .i64 0) := by go_simp
      have x2 : w2.cell? ⟨w.heap.size + 1, 2, none⟩ = some (.string ⟨#[]⟩) := by go_simp
      refine bodyPost_ret (v := .tuple #[.int .i64 0, .agg #[.int .i64 3, .int .i64 0, .string ⟨#[35, 86, 65, 76, 85, 69, 33]⟩]]) (by simp [results, Tryz.results19, go_sem, x0, x1, x2]) rfl ⟨rfl, by (repeat' (first | (with_reducible exact Below.refl _ _) | (with_reducible assumption) | (with_reducible refine Below.alloc ?_ ?_ _) | (with_reducible refine bel_drewN ?_ _) | (with_reducible refine Below.drew ?_) | (with_reducible refine Below.setCell ?_ ?_ _) | (with_reducible refine bel_call ‹_› ?_ ?_) | go_size))⟩
    · rw [ho] at C
      obtain ⟨v, hv⟩ : ∃ v, prsV s.data.toList = v := ⟨_, rfl⟩
      rw [hv] at C ⊢
      clear ho hv
      go_enter Tryz.func19, Tryz.ntmps19
      go_wp2_with fail
      refine (C.out _ (shaped_below HSH.out (by (repeat' (first | (with_reducible exact Below.refl _ _) | (with_reducible assumption) | (with_reducible refine Below.alloc ?_ ?_ _) | (with_reducible refine bel_drewN ?_ _) | (with_reducible refine Below.drew ?_) | (with_reducible refine Below.setCell ?_ ?_ _) | (with_reducible refine bel_call ‹_› ?_ ?_) | go_size))))).mono ?_
      rintro e w1 ⟨rfl, hb⟩
      obtain ⟨hc1, hf1, hz1⟩ := bcell hb (by first | (simp only [World.size_alloc, World.size_setCell, World.size_drew]; rfl) | rfl)
      go_wp2_with fail
      have x0 : w1.cell? ⟨w.heap.size + 1, 0, none⟩ = some (.int .i64 0) := by go_simp
      have x1 : w1.cell? ⟨w.heap.size + 1, 1, none⟩ = some (.int .i64 0) := by go_simp
      have x2 : w1.cell? ⟨w.heap.size + 1, 2, none⟩ = some (.string ⟨#[]⟩) := by go_simp
      refine bodyPost_ret (v := .tuple #[.int .i64 v, .agg #[.int .i64 0, .int .i64 0, .string ⟨#[]⟩]]) (by simp [results, Tryz.results19, go_sem, x0, x1, x2]) rfl ⟨rfl, by (repeat' (first | (with_reducible exact Below.refl _ _) | (with_reducible assumption) | (with_reducible refine Below.alloc ?_ ?_ _) | (with_reducible refine bel_drewN ?_ _) | (with_reducible refine Below.drew ?_) | (with_reducible refine Below.setCell ?_ ?_ _) | (with_reducible refine bel_call ‹_› ?_ ?_) | go_size))⟩
  · go_enter Tryz.func19, Tryz.ntmps19
    go_wp2_with fail
    all_goals try (go_region; go_wp2)
    all_goals go_returns
    all_goals refine ⟨?_, by (repeat' (first | (with_reducible exact Below.refl _ _) | (with_reducible assumption) | (with_reducible refine Below.alloc ?_ ?_ _) | (with_reducible refine bel_drewN ?_ _) | (with_reducible refine Below.drew ?_) | (with_reducible refine Below.setCell ?_ ?_ _) | (with_reducible refine bel_call ‹_› ?_ ?_) | go_size))⟩
    all_goals first | rfl | simp_all

set_option maxRecDepth 100000 in
set_option maxHeartbeats 1000000 in
theorem refNumber_any (k n : Int) (s : ByteArray) (hk : k = 0 ∨ k = 1 ∨ k = 2 ∨ k = 3) (hs : s.size ≤ 900) (w : World) :
    Calls Tryz.prog 29 #[.agg #[.int .i64 k, .int .i64 n, .string s]] w fun e w' => e = .returned (.tuple #[.int .i64 (numV k n s), .agg #[.int .i64 (numK k s), .int .i64 (numM k n), .string (numT k s)]]) ∧ Below w.heap.size w w' := by
  have C := Lib.hid (fun W => refParse_as s (by omega) W)
  rcases hk with rfl | rfl | rfl | rfl
  · go_enter Tryz.func29, Tryz.ntmps29
    go_wp2_with fail
    all_goals try (go_region; go_wp2)
    all_goals go_returns
    all_goals refine ⟨?_, by (repeat' (first | (with_reducible exact Below.refl _ _) | (with_reducible assumption) | (with_reducible refine Below.alloc ?_ ?_ _) | (with_reducible refine bel_drewN ?_ _) | (with_reducible refine Below.drew ?_) | (with_reducible refine Below.setCell ?_ ?_ _) | (with_reducible refine bel_call ‹_› ?_ ?_) | go_size))⟩
    all_goals first | rfl | simp_all
  · go_enter Tryz.func29, Tryz.ntmps29
    go_wp2_with fail
    all_goals try (go_region; go_wp2)
    all_goals go_returns
    all_goals refine ⟨?_, by (repeat' (first | (with_reducible exact Below.refl _ _) | (with_reducible assumption) | (with_reducible refine Below.alloc ?_ ?_ _) | (with_reducible refine bel_drewN ?_ _) | (with_reducible refine Below.drew ?_) | (with_reducible refine Below.setCell ?_ ?_ _) | (with_reducible refine bel_call ‹_› ?_ ?_) | go_size))⟩
    all_goals first | rfl | simp_all
  · have e1 : numV 2 n s = prsV s.data.toList := rfl
    have e2 : numK 2 s = (if prsOk s.data.toList then 0 else 3) := rfl
    have e3 : numT 2 s = (if prsOk s.data.toList then ⟨#[]⟩ else ⟨#[35, 86, 65, 76, 85, 69, 33]⟩) := rfl
    rw [e1, e2, e3]
    clear e1 e2 e3
    cases ho : prsOk s.data.toList
    · have hv := prsV_no ho
      rw [ho, hv] at C
      rw [hv]
      clear ho hv
      go_enter Tryz.func29, Tryz.ntmps29
      go_wp2_with fail
      refine (C.out _).mono ?_
      rintro e w1 ⟨rfl, hb⟩
      obtain ⟨hc1, hf1, hz1⟩ := bcell hb (by first | (simp only [World.size_alloc, World.size_setCell, World.size_drew]; rfl) | rfl)
      go_wp2_with (go_at_call 25; refine (refFail_any _ _).mono ?_; rintro e w2 ⟨rfl, hb2⟩; obtain ⟨hc2, hf2, hz2⟩ := bcell hb2 (by first | (simp only [World.size_alloc, World.size_setCell, World.size_drew]; rfl) | rfl))
      have x0 : w2.cell? ⟨w.heap.size + 1, 0, none⟩ = some (.int .i64 0) := by go_simp
      have x1 : w2.cell? ⟨w.heap.size + 1, 1, none⟩ = some (.int .i64 0) := by go_simp
      have x2 : w2.cell? ⟨w.heap.size + 1, 2, none⟩ = some (.string ⟨#[]⟩) := by go_simp
      refine bodyPost_ret (v := .tuple #[.int .i64 0, .agg #[.int .i64 3, .int .i64 0, .string ⟨#[35, 86, 65, 76, 85, 69, 33]⟩]]) (by simp [results, Tryz.results29, go_sem, x0, x1, x2]) rfl ⟨rfl, by (repeat' (first | (with_reducible exact Below.refl _ _) | (with_reducible assumption) | (with_reducible refine Below.alloc ?_ ?_ _) | (with_reducible refine bel_drewN ?_ _) | (with_reducible refine Below.drew ?_) | (with_reducible refine Below.setCell ?_ ?_ _) | (with_reducible refine bel_call ‹_› ?_ ?_) | go_size))⟩
    · rw [ho] at C
      obtain ⟨v, hv⟩ : ∃ v, prsV s.data.toList = v := ⟨_, rfl⟩
      rw [hv] at C ⊢
      clear ho hv
      go_enter Tryz.func29, Tryz.ntmps29
      go_wp2_with fail
      refine (C.out _).mono ?_
      rintro e w1 ⟨rfl, hb⟩
      obtain ⟨hc1, hf1, hz1⟩ := bcell hb (by first | (simp only [World.size_alloc, World.size_setCell, World.size_drew]; rfl) | rfl)
      go_wp2_with fail
      have x0 : w1.cell? ⟨w.heap.size + 1, 0, none⟩ = some (.int .i64 0) := by go_simp
      have x1 : w1.cell? ⟨w.heap.size + 1, 1, none⟩ = some (.int .i64 0) := by go_simp
      have x2 : w1.cell? ⟨w.heap.size + 1, 2, none⟩ = some (.string ⟨#[]⟩) := by go_simp
      refine bodyPost_ret (v := .tuple #[.int .i64 v, .agg #[.int .i64 0, .int .i64 0, .string ⟨#[]⟩]]) (by simp [results, Tryz.results29, go_sem, x0, x1, x2]) rfl ⟨rfl, by (repeat' (first | (with_reducible exact Below.refl _ _) | (with_reducible assumption) | (with_reducible refine Below.alloc ?_ ?_ _) | (with_reducible refine bel_drewN ?_ _) | (with_reducible refine Below.drew ?_) | (with_reducible refine Below.setCell ?_ ?_ _) | (with_reducible refine bel_call ‹_› ?_ ?_) | go_size))⟩
  · go_enter Tryz.func29, Tryz.ntmps29
    go_wp2_with fail
    all_goals try (go_region; go_wp2)
    all_goals go_returns
    all_goals refine ⟨?_, by (repeat' (first | (with_reducible exact Below.refl _ _) | (with_reducible assumption) | (with_reducible refine Below.alloc ?_ ?_ _) | (with_reducible refine bel_drewN ?_ _) | (with_reducible refine Below.drew ?_) | (with_reducible refine Below.setCell ?_ ?_ _) | (with_reducible refine bel_call ‹_› ?_ ?_) | go_size))⟩
    all_goals first | rfl | simp_all

/-- What String tells. -/
def strL (k n : Int) (s : ByteArray) : List UInt8 := if k = 3 then [] else shwL k n s
def strK (k : Int) : Int := if k = 3 then 3 else 0
def strM (k n : Int) : Int := if k = 3 then n else 0
def strT (k : Int) (s : ByteArray) : ByteArray := if k = 3 then s else ⟨#[]⟩
set_option maxRecDepth 100000 in
set_option maxHeartbeats 1000000 in
theorem string_any (k n : Int) (s : ByteArray) (hn1 : -9223372036854775808 ≤ n) (hn2 : n ≤ 9223372036854775807) (w : World) :
    Calls Tryz.prog 44 #[.agg #[.int .i64 k, .int .i64 n, .string s]] w fun e w' => e = .returned (.tuple #[.string ⟨(strL k n s).toArray⟩, .agg #[.int .i64 (strK k), .int .i64 (strM k n), .string (strT k s)]]) ∧ Below w.heap.size w w' := by
  have HT := Lib.hid (fun W => show_any k n s hn1 hn2 W)
  clear hn1 hn2
  by_cases hk : k = 3
  · subst hk
    go_enter Tryz.func44, Tryz.ntmps44
    go_wp2_with fail
    all_goals try (go_region; go_wp2)
    all_goals go_returns
    all_goals refine ⟨?_, by (repeat' (first | (with_reducible exact Below.refl _ _) | (with_reducible assumption) | (with_reducible refine Below.alloc ?_ ?_ _) | (with_reducible refine bel_drewN ?_ _) | (with_reducible refine Below.drew ?_) | (with_reducible refine Below.setCell ?_ ?_ _) | (with_reducible refine bel_call ‹_› ?_ ?_) | go_size))⟩
    all_goals first | rfl | simp_all
  · have e1 : strL k n s = shwL k n s := if_neg hk
    have e2 : strK k = 0 := if_neg hk
    have e3 : strM k n = 0 := if_neg hk
    have e4 : strT k s = ⟨#[]⟩ := if_neg hk
    rw [e1, e2, e3, e4]
    have hk' : (k == 3) = false := by simp [hk]
    obtain ⟨L, hL⟩ : ∃ L, shwL k n s = L := ⟨_, rfl⟩
    rw [hL] at HT ⊢
    clear e1 e2 e3 e4 hL hk
    go_enter Tryz.func44, Tryz.ntmps44
    go_wp2_with fail
    refine (HT.out _).mono ?_
    rintro e w1 ⟨rfl, hb⟩
    obtain ⟨hc1, hf1, hz1⟩ := bcell hb (by first | (simp only [World.size_alloc, World.size_setCell, World.size_drew]; rfl) | rfl)
    go_wp2_with fail
    have x0 : w1.cell? ⟨w.heap.size + 1, 0, none⟩ = some (.int .i64 0) := by go_simp
    have x1 : w1.cell? ⟨w.heap.size + 1, 1, none⟩ = some (.int .i64 0) := by go_simp
    have x2 : w1.cell? ⟨w.heap.size + 1, 2, none⟩ = some (.string ⟨#[]⟩) := by go_simp
    refine bodyPost_ret (v := .tuple #[.string ⟨L.toArray⟩, .agg #[.int .i64 0, .int .i64 0, .string ⟨#[]⟩]]) (by simp [results, Tryz.results44, go_sem, x0, x1, x2]) rfl ⟨rfl, by (repeat' (first | (with_reducible exact Below.refl _ _) | (with_reducible assumption) | (with_reducible refine Below.alloc ?_ ?_ _) | (with_reducible refine bel_drewN ?_ _) | (with_reducible refine Below.drew ?_) | (with_reducible refine Below.setCell ?_ ?_ _) | (with_reducible refine bel_call ‹_› ?_ ?_) | go_size))⟩
end Go.Proofs.YtilajcibjlcffaaGreatDoor.Val
