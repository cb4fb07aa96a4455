/- Texts of the document's answer: Text. -/
import Derived.Test.YtaocbebgdbeffaaDoorGauK
set_option linter.unusedSimpArgs false
set_option linter.unusedVariables false
namespace Go.Proofs.YtaocbebgdbeffaaDoor
open Go.RowKit

set_option maxRecDepth 100000 in
set_option maxHeartbeats 1000000 in
theorem rtext_b0 (a b : Int) (h1 : -1048576 ≤ a) (h2 : a ≤ 1048576) (h3 : -1048576 ≤ b) (h4 : b ≤ 1048576) (b0 : b = 0) (w : World) :
    Calls Tryd.prog 15 #[.agg #[.int .i64 a, .int .i64 b]] w fun e w' => e = .returned (.string ⟨(ztxt a b).toArray⟩) ∧ Below w.heap.size w w' := by
  subst b0
  have HA := Lib.hid (fun W => refDigits_any a (by omega) (by omega) W)
  have HB := Lib.hid (fun W => refDigits_any 0 (by omega) (by omega) W)
  have lA := sgL_len a
  have lB := sgL_len 0
  obtain ⟨A, hA⟩ : ∃ A, sgL a = A := ⟨_, rfl⟩
  obtain ⟨B, hB⟩ : ∃ B, sgL 0 = B := ⟨_, rfl⟩
  have hR : ztxt a 0 = A := by
    unfold ztxt tailL
    rw [hA, hB]
    rw [if_pos rfl]
  rw [hR]
  rw [hA] at HA lA
  rw [hB] at HB lB
  have hz1 : (⟨A.toArray⟩ : ByteArray).size ≤ 20 := by rw [Lib.size_eq]; simp; omega
  have hz2 : (⟨B.toArray⟩ : ByteArray).size ≤ 20 := by rw [Lib.size_eq]; simp; omega
  have hz3 : (⟨#[105]⟩ : ByteArray).size = 1 := rfl
  have hz4 : (⟨#[43]⟩ : ByteArray).size = 1 := rfl
  have hz5 : (⟨#[45, 105]⟩ : ByteArray).size = 2 := rfl
  have hcat : (⟨B.toArray⟩ : ByteArray) ++ ⟨#[105]⟩ = ⟨(B ++ [105]).toArray⟩ := cat2 B [105]
  have hz6 : (⟨(B ++ [105]).toArray⟩ : ByteArray).size ≤ 21 := by rw [Lib.size_eq]; simp; omega
  have hca : (⟨A.toArray⟩ : ByteArray) ++ ⟨#[43]⟩ = ⟨(A ++ [43]).toArray⟩ := cat2 A [43]
  have hz7 : (⟨(A ++ [43]).toArray⟩ : ByteArray).size ≤ 21 := by rw [Lib.size_eq]; simp; omega
  clear hA hB hR
  go_enter Tryd.func15, Tryd.ntmps15
  go_wp2_with fail
  refine (HA.out _).mono ?_
  rintro e w3 ⟨rfl, hb3⟩
  obtain ⟨hc3, hf3, hs3⟩ := bcell hb3 (by first | (simp only [World.size_alloc, World.size_setCell, World.size_drew]; rfl) | rfl)
  go_wp2_with fail
  go_ret
  refine ⟨?_, by (repeat' (first | (with_reducible exact Below.refl _ _) | (with_reducible assumption) | (with_reducible refine Below.alloc ?_ ?_ _) | (with_reducible refine bel_drewN ?_ _) | (with_reducible refine Below.drew ?_) | (with_reducible refine Below.setCell ?_ ?_ _) | (with_reducible refine bel_call ‹_› ?_ ?_) | go_size))⟩
  first
    | rfl
    | exact congrArg (fun s => Ending.returned (Value.string s)) (cat2 _ _)
    | exact congrArg (fun s => Ending.returned (Value.string s)) (by rw [cat2, cat2])

set_option maxRecDepth 100000 in
set_option maxHeartbeats 1000000 in
theorem rtext_b1a0 (a b : Int) (h1 : -1048576 ≤ a) (h2 : a ≤ 1048576) (h3 : -1048576 ≤ b) (h4 : b ≤ 1048576) (b0 : b = 1) (a0 : a = 0) (w : World) :
    Calls Tryd.prog 15 #[.agg #[.int .i64 a, .int .i64 b]] w fun e w' => e = .returned (.string ⟨(ztxt a b).toArray⟩) ∧ Below w.heap.size w w' := by
  subst b0
  subst a0
  have HA := Lib.hid (fun W => refDigits_any 0 (by omega) (by omega) W)
  have HB := Lib.hid (fun W => refDigits_any 1 (by omega) (by omega) W)
  have lA := sgL_len 0
  have lB := sgL_len 1
  obtain ⟨A, hA⟩ : ∃ A, sgL 0 = A := ⟨_, rfl⟩
  obtain ⟨B, hB⟩ : ∃ B, sgL 1 = B := ⟨_, rfl⟩
  have hR : ztxt 0 1 = [105] := by
    unfold ztxt tailL
    rw [hA, hB]
    rw [if_neg (by omega), if_pos rfl, if_pos rfl]
  rw [hR]
  rw [hA] at HA lA
  rw [hB] at HB lB
  have hz1 : (⟨A.toArray⟩ : ByteArray).size ≤ 20 := by rw [Lib.size_eq]; simp; omega
  have hz2 : (⟨B.toArray⟩ : ByteArray).size ≤ 20 := by rw [Lib.size_eq]; simp; omega
  have hz3 : (⟨#[105]⟩ : ByteArray).size = 1 := rfl
  have hz4 : (⟨#[43]⟩ : ByteArray).size = 1 := rfl
  have hz5 : (⟨#[45, 105]⟩ : ByteArray).size = 2 := rfl
  have hcat : (⟨B.toArray⟩ : ByteArray) ++ ⟨#[105]⟩ = ⟨(B ++ [105]).toArray⟩ := cat2 B [105]
  have hz6 : (⟨(B ++ [105]).toArray⟩ : ByteArray).size ≤ 21 := by rw [Lib.size_eq]; simp; omega
  have hca : (⟨A.toArray⟩ : ByteArray) ++ ⟨#[43]⟩ = ⟨(A ++ [43]).toArray⟩ := cat2 A [43]
  have hz7 : (⟨(A ++ [43]).toArray⟩ : ByteArray).size ≤ 21 := by rw [Lib.size_eq]; simp; omega
  clear hA hB hR
  go_enter Tryd.func15, Tryd.ntmps15
  go_wp2_with fail
  refine (HB.out _).mono ?_
  rintro e w2 ⟨rfl, hb2⟩
  obtain ⟨hc2, hf2, hs2⟩ := bcell hb2 (by first | (simp only [World.size_alloc, World.size_setCell, World.size_drew]; rfl) | rfl)
  go_wp2_with fail
  go_ret
  refine ⟨?_, by (repeat' (first | (with_reducible exact Below.refl _ _) | (with_reducible assumption) | (with_reducible refine Below.alloc ?_ ?_ _) | (with_reducible refine bel_drewN ?_ _) | (with_reducible refine Below.drew ?_) | (with_reducible refine Below.setCell ?_ ?_ _) | (with_reducible refine bel_call ‹_› ?_ ?_) | go_size))⟩
  first
    | rfl
    | exact congrArg (fun s => Ending.returned (Value.string s)) (cat2 _ _)
    | exact congrArg (fun s => Ending.returned (Value.string s)) (by rw [cat2, cat2])

set_option maxRecDepth 100000 in
set_option maxHeartbeats 1000000 in
theorem rtext_b1a1 (a b : Int) (h1 : -1048576 ≤ a) (h2 : a ≤ 1048576) (h3 : -1048576 ≤ b) (h4 : b ≤ 1048576) (b0 : b = 1) (a0 : a ≠ 0) (w : World) :
    Calls Tryd.prog 15 #[.agg #[.int .i64 a, .int .i64 b]] w fun e w' => e = .returned (.string ⟨(ztxt a b).toArray⟩) ∧ Below w.heap.size w w' := by
  subst b0
  have ta : (a == 0) = false := by simp [a0]
  have HA := Lib.hid (fun W => refDigits_any a (by omega) (by omega) W)
  have HB := Lib.hid (fun W => refDigits_any 1 (by omega) (by omega) W)
  have lA := sgL_len a
  have lB := sgL_len 1
  obtain ⟨A, hA⟩ : ∃ A, sgL a = A := ⟨_, rfl⟩
  obtain ⟨B, hB⟩ : ∃ B, sgL 1 = B := ⟨_, rfl⟩
  have hR : ztxt a 1 = A ++ [43] ++ [105] := by
    unfold ztxt tailL
    rw [hA, hB]
    rw [if_neg (by omega), if_neg a0, if_pos (by omega), if_pos rfl]
  rw [hR]
  rw [hA] at HA lA
  rw [hB] at HB lB
  have hz1 : (⟨A.toArray⟩ : ByteArray).size ≤ 20 := by rw [Lib.size_eq]; simp; omega
  have hz2 : (⟨B.toArray⟩ : ByteArray).size ≤ 20 := by rw [Lib.size_eq]; simp; omega
  have hz3 : (⟨#[105]⟩ : ByteArray).size = 1 := rfl
  have hz4 : (⟨#[43]⟩ : ByteArray).size = 1 := rfl
  have hz5 : (⟨#[45, 105]⟩ : ByteArray).size = 2 := rfl
  have hcat : (⟨B.toArray⟩ : ByteArray) ++ ⟨#[105]⟩ = ⟨(B ++ [105]).toArray⟩ := cat2 B [105]
  have hz6 : (⟨(B ++ [105]).toArray⟩ : ByteArray).size ≤ 21 := by rw [Lib.size_eq]; simp; omega
  have hca : (⟨A.toArray⟩ : ByteArray) ++ ⟨#[43]⟩ = ⟨(A ++ [43]).toArray⟩ := cat2 A [43]
  have hz7 : (⟨(A ++ [43]).toArray⟩ : ByteArray).size ≤ 21 := by rw [Lib.size_eq]; simp; omega
  clear hA hB hR
  go_enter Tryd.func15, Tryd.ntmps15
  go_wp2_with fail
  refine (HB.out _).mono ?_
  rintro e w2 ⟨rfl, hb2⟩
  obtain ⟨hc2, hf2, hs2⟩ := bcell hb2 (by first | (simp only [World.size_alloc, World.size_setCell, World.size_drew]; rfl) | rfl)
  go_wp2_with fail
  refine (HA.out _).mono ?_
  rintro e w3 ⟨rfl, hb3⟩
  obtain ⟨hc3, hf3, hs3⟩ := bcell hb3 (by first | (simp only [World.size_alloc, World.size_setCell, World.size_drew]; rfl) | rfl)
  go_wp2_with fail
  go_ret
  refine ⟨?_, by (repeat' (first | (with_reducible exact Below.refl _ _) | (with_reducible assumption) | (with_reducible refine Below.alloc ?_ ?_ _) | (with_reducible refine bel_drewN ?_ _) | (with_reducible refine Below.drew ?_) | (with_reducible refine Below.setCell ?_ ?_ _) | (with_reducible refine bel_call ‹_› ?_ ?_) | go_size))⟩
  first
    | rfl
    | exact congrArg (fun s => Ending.returned (Value.string s)) (cat2 _ _)
    | exact congrArg (fun s => Ending.returned (Value.string s)) (by rw [cat2, cat2])

set_option maxRecDepth 100000 in
set_option maxHeartbeats 1000000 in
theorem rtext_bm1a0 (a b : Int) (h1 : -1048576 ≤ a) (h2 : a ≤ 1048576) (h3 : -1048576 ≤ b) (h4 : b ≤ 1048576) (b0 : b = -1) (a0 : a = 0) (w : World) :
    Calls Tryd.prog 15 #[.agg #[.int .i64 a, .int .i64 b]] w fun e w' => e = .returned (.string ⟨(ztxt a b).toArray⟩) ∧ Below w.heap.size w w' := by
  subst b0
  subst a0
  have HA := Lib.hid (fun W => refDigits_any 0 (by omega) (by omega) W)
  have HB := Lib.hid (fun W => refDigits_any (-1) (by omega) (by omega) W)
  have lA := sgL_len 0
  have lB := sgL_len (-1)
  obtain ⟨A, hA⟩ : ∃ A, sgL 0 = A := ⟨_, rfl⟩
  obtain ⟨B, hB⟩ : ∃ B, sgL (-1) = B := ⟨_, rfl⟩
  have hR : ztxt 0 (-1) = [45, 105] := by
    unfold ztxt tailL
    rw [hA, hB]
    rw [if_neg (by omega), if_pos rfl, if_neg (by omega), if_pos rfl]
  rw [hR]
  rw [hA] at HA lA
  rw [hB] at HB lB
  have hz1 : (⟨A.toArray⟩ : ByteArray).size ≤ 20 := by rw [Lib.size_eq]; simp; omega
  have hz2 : (⟨B.toArray⟩ : ByteArray).size ≤ 20 := by rw [Lib.size_eq]; simp; omega
  have hz3 : (⟨#[105]⟩ : ByteArray).size = 1 := rfl
  have hz4 : (⟨#[43]⟩ : ByteArray).size = 1 := rfl
  have hz5 : (⟨#[45, 105]⟩ : ByteArray).size = 2 := rfl
  have hcat : (⟨B.toArray⟩ : ByteArray) ++ ⟨#[105]⟩ = ⟨(B ++ [105]).toArray⟩ := cat2 B [105]
  have hz6 : (⟨(B ++ [105]).toArray⟩ : ByteArray).size ≤ 21 := by rw [Lib.size_eq]; simp; omega
  have hca : (⟨A.toArray⟩ : ByteArray) ++ ⟨#[43]⟩ = ⟨(A ++ [43]).toArray⟩ := cat2 A [43]
  have hz7 : (⟨(A ++ [43]).toArray⟩ : ByteArray).size ≤ 21 := by rw [Lib.size_eq]; simp; omega
  clear hA hB hR
  go_enter Tryd.func15, Tryd.ntmps15
  go_wp2_with fail
  refine (HB.out _).mono ?_
  rintro e w2 ⟨rfl, hb2⟩
  obtain ⟨hc2, hf2, hs2⟩ := bcell hb2 (by first | (simp only [World.size_alloc, World.size_setCell, World.size_drew]; rfl) | rfl)
  go_wp2_with fail
  go_ret
  refine ⟨?_, by (repeat' (first | (with_reducible exact Below.refl _ _) | (with_reducible assumption) | (with_reducible refine Below.alloc ?_ ?_ _) | (with_reducible refine bel_drewN ?_ _) | (with_reducible refine Below.drew ?_) | (with_reducible refine Below.setCell ?_ ?_ _) | (with_reducible refine bel_call ‹_› ?_ ?_) | go_size))⟩
  first
    | rfl
    | exact congrArg (fun s => Ending.returned (Value.string s)) (cat2 _ _)
    | exact congrArg (fun s => Ending.returned (Value.string s)) (by rw [cat2, cat2])

set_option maxRecDepth 100000 in
set_option maxHeartbeats 1000000 in
theorem rtext_bm1a1 (a b : Int) (h1 : -1048576 ≤ a) (h2 : a ≤ 1048576) (h3 : -1048576 ≤ b) (h4 : b ≤ 1048576) (b0 : b = -1) (a0 : a ≠ 0) (w : World) :
    Calls Tryd.prog 15 #[.agg #[.int .i64 a, .int .i64 b]] w fun e w' => e = .returned (.string ⟨(ztxt a b).toArray⟩) ∧ Below w.heap.size w w' := by
  subst b0
  have ta : (a == 0) = false := by simp [a0]
  have HA := Lib.hid (fun W => refDigits_any a (by omega) (by omega) W)
  have HB := Lib.hid (fun W => refDigits_any (-1) (by omega) (by omega) W)
  have lA := sgL_len a
  have lB := sgL_len (-1)
  obtain ⟨A, hA⟩ : ∃ A, sgL a = A := ⟨_, rfl⟩
  obtain ⟨B, hB⟩ : ∃ B, sgL (-1) = B := ⟨_, rfl⟩
  have hR : ztxt a (-1) = A ++ [45, 105] := by
    unfold ztxt tailL
    rw [hA, hB]
    rw [if_neg (by omega), if_neg a0, if_neg (by omega), if_neg (by omega), if_pos rfl]
  rw [hR]
  rw [hA] at HA lA
  rw [hB] at HB lB
  have hz1 : (⟨A.toArray⟩ : ByteArray).size ≤ 20 := by rw [Lib.size_eq]; simp; omega
  have hz2 : (⟨B.toArray⟩ : ByteArray).size ≤ 20 := by rw [Lib.size_eq]; simp; omega
  have hz3 : (⟨#[105]⟩ : ByteArray).size = 1 := rfl
  have hz4 : (⟨#[43]⟩ : ByteArray).size = 1 := rfl
  have hz5 : (⟨#[45, 105]⟩ : ByteArray).size = 2 := rfl
  have hcat : (⟨B.toArray⟩ : ByteArray) ++ ⟨#[105]⟩ = ⟨(B ++ [105]).toArray⟩ := cat2 B [105]
  have hz6 : (⟨(B ++ [105]).toArray⟩ : ByteArray).size ≤ 21 := by rw [Lib.size_eq]; simp; omega
  have hca : (⟨A.toArray⟩ : ByteArray) ++ ⟨#[43]⟩ = ⟨(A ++ [43]).toArray⟩ := cat2 A [43]
  have hz7 : (⟨(A ++ [43]).toArray⟩ : ByteArray).size ≤ 21 := by rw [Lib.size_eq]; simp; omega
  clear hA hB hR
  go_enter Tryd.func15, Tryd.ntmps15
  go_wp2_with fail
  refine (HB.out _).mono ?_
  rintro e w2 ⟨rfl, hb2⟩
  obtain ⟨hc2, hf2, hs2⟩ := bcell hb2 (by first | (simp only [World.size_alloc, World.size_setCell, World.size_drew]; rfl) | rfl)
  go_wp2_with fail
  refine (HA.out _).mono ?_
  rintro e w3 ⟨rfl, hb3⟩
  obtain ⟨hc3, hf3, hs3⟩ := bcell hb3 (by first | (simp only [World.size_alloc, World.size_setCell, World.size_drew]; rfl) | rfl)
  go_wp2_with fail
  go_ret
  refine ⟨?_, by (repeat' (first | (with_reducible exact Below.refl _ _) | (with_reducible assumption) | (with_reducible refine Below.alloc ?_ ?_ _) | (with_reducible refine bel_drewN ?_ _) | (with_reducible refine Below.drew ?_) | (with_reducible refine Below.setCell ?_ ?_ _) | (with_reducible refine bel_call ‹_› ?_ ?_) | go_size))⟩
  first
    | rfl
    | exact congrArg (fun s => Ending.returned (Value.string s)) (cat2 _ _)
    | exact congrArg (fun s => Ending.returned (Value.string s)) (by rw [cat2, cat2])

set_option maxRecDepth 100000 in
set_option maxHeartbeats 1000000 in
theorem rtext_bpa0 (a b : Int) (h1 : -1048576 ≤ a) (h2 : a ≤ 1048576) (h3 : -1048576 ≤ b) (h4 : b ≤ 1048576) (b0 : 1 < b) (a0 : a = 0) (w : World) :
    Calls Tryd.prog 15 #[.agg #[.int .i64 a, .int .i64 b]] w fun e w' => e = .returned (.string ⟨(ztxt a b).toArray⟩) ∧ Below w.heap.size w w' := by
  have tb0 : (b == 0) = false := by simp; omega
  have tb1 : (b == 1) = false := by simp; omega
  have tb2 : (b == -1) = false := by simp; omega
  subst a0
  have HA := Lib.hid (fun W => refDigits_any 0 (by omega) (by omega) W)
  have HB := Lib.hid (fun W => refDigits_any b (by omega) (by omega) W)
  have lA := sgL_len 0
  have lB := sgL_len b
  obtain ⟨A, hA⟩ : ∃ A, sgL 0 = A := ⟨_, rfl⟩
  obtain ⟨B, hB⟩ : ∃ B, sgL b = B := ⟨_, rfl⟩
  have hR : ztxt 0 b = B ++ [105] := by
    unfold ztxt tailL
    rw [hA, hB]
    rw [if_neg (by omega), if_pos rfl, if_neg (by omega), if_neg (by omega)]
  rw [hR]
  rw [hA] at HA lA
  rw [hB] at HB lB
  have hz1 : (⟨A.toArray⟩ : ByteArray).size ≤ 20 := by rw [Lib.size_eq]; simp; omega
  have hz2 : (⟨B.toArray⟩ : ByteArray).size ≤ 20 := by rw [Lib.size_eq]; simp; omega
  have hz3 : (⟨#[105]⟩ : ByteArray).size = 1 := rfl
  have hz4 : (⟨#[43]⟩ : ByteArray).size = 1 := rfl
  have hz5 : (⟨#[45, 105]⟩ : ByteArray).size = 2 := rfl
  have hcat : (⟨B.toArray⟩ : ByteArray) ++ ⟨#[105]⟩ = ⟨(B ++ [105]).toArray⟩ := cat2 B [105]
  have hz6 : (⟨(B ++ [105]).toArray⟩ : ByteArray).size ≤ 21 := by rw [Lib.size_eq]; simp; omega
  have hca : (⟨A.toArray⟩ : ByteArray) ++ ⟨#[43]⟩ = ⟨(A ++ [43]).toArray⟩ := cat2 A [43]
  have hz7 : (⟨(A ++ [43]).toArray⟩ : ByteArray).size ≤ 21 := by rw [Lib.size_eq]; simp; omega
  clear hA hB hR
  go_enter Tryd.func15, Tryd.ntmps15
  go_wp2_with fail
  refine (HB.out _).mono ?_
  rintro e w2 ⟨rfl, hb2⟩
  obtain ⟨hc2, hf2, hs2⟩ := bcell hb2 (by first | (simp only [World.size_alloc, World.size_setCell, World.size_drew]; rfl) | rfl)
  go_wp2_with fail
  go_ret
  refine ⟨?_, by (repeat' (first | (with_reducible exact Below.refl _ _) | (with_reducible assumption) | (with_reducible refine Below.alloc ?_ ?_ _) | (with_reducible refine bel_drewN ?_ _) | (with_reducible refine Below.drew ?_) | (with_reducible refine Below.setCell ?_ ?_ _) | (with_reducible refine bel_call ‹_› ?_ ?_) | go_size))⟩
  first
    | rfl
    | exact congrArg (fun s => Ending.returned (Value.string s)) (cat2 _ _)
    | exact congrArg (fun s => Ending.returned (Value.string s)) (by rw [cat2, cat2])

set_option maxRecDepth 100000 in
set_option maxHeartbeats 1000000 in
theorem rtext_bpa1 (a b : Int) (h1 : -1048576 ≤ a) (h2 : a ≤ 1048576) (h3 : -1048576 ≤ b) (h4 : b ≤ 1048576) (b0 : 1 < b) (a0 : a ≠ 0) (w : World) :
    Calls Tryd.prog 15 #[.agg #[.int .i64 a, .int .i64 b]] w fun e w' => e = .returned (.string ⟨(ztxt a b).toArray⟩) ∧ Below w.heap.size w w' := by
  have tb0 : (b == 0) = false := by simp; omega
  have tb1 : (b == 1) = false := by simp; omega
  have tb2 : (b == -1) = false := by simp; omega
  have ta : (a == 0) = false := by simp [a0]
  have HA := Lib.hid (fun W => refDigits_any a (by omega) (by omega) W)
  have HB := Lib.hid (fun W => refDigits_any b (by omega) (by omega) W)
  have lA := sgL_len a
  have lB := sgL_len b
  obtain ⟨A, hA⟩ : ∃ A, sgL a = A := ⟨_, rfl⟩
  obtain ⟨B, hB⟩ : ∃ B, sgL b = B := ⟨_, rfl⟩
  have hR : ztxt a b = A ++ [43] ++ (B ++ [105]) := by
    unfold ztxt tailL
    rw [hA, hB]
    rw [if_neg (by omega), if_neg a0, if_pos (by omega), if_neg (by omega), if_neg (by omega)]
  rw [hR]
  rw [hA] at HA lA
  rw [hB] at HB lB
  have hz1 : (⟨A.toArray⟩ : ByteArray).size ≤ 20 := by rw [Lib.size_eq]; simp; omega
  have hz2 : (⟨B.toArray⟩ : ByteArray).size ≤ 20 := by rw [Lib.size_eq]; simp; omega
  have hz3 : (⟨#[105]⟩ : ByteArray).size = 1 := rfl
  have hz4 : (⟨#[43]⟩ : ByteArray).size = 1 := rfl
  have hz5 : (⟨#[45, 105]⟩ : ByteArray).size = 2 := rfl
  have hcat : (⟨B.toArray⟩ : ByteArray) ++ ⟨#[105]⟩ = ⟨(B ++ [105]).toArray⟩ := cat2 B [105]
  have hz6 : (⟨(B ++ [105]).toArray⟩ : ByteArray).size ≤ 21 := by rw [Lib.size_eq]; simp; omega
  have hca : (⟨A.toArray⟩ : ByteArray) ++ ⟨#[43]⟩ = ⟨(A ++ [43]).toArray⟩ := cat2 A [43]
  have hz7 : (⟨(A ++ [43]).toArray⟩ : ByteArray).size ≤ 21 := by rw [Lib.size_eq]; simp; omega
  clear hA hB hR
  go_enter Tryd.func15, Tryd.ntmps15
  go_wp2_with fail
  refine (HB.out _).mono ?_
  rintro e w2 ⟨rfl, hb2⟩
  obtain ⟨hc2, hf2, hs2⟩ := bcell hb2 (by first | (simp only [World.size_alloc, World.size_setCell, World.size_drew]; rfl) | rfl)
  go_wp2_with fail
  refine (HA.out _).mono ?_
  rintro e w3 ⟨rfl, hb3⟩
  obtain ⟨hc3, hf3, hs3⟩ := bcell hb3 (by first | (simp only [World.size_alloc, World.size_setCell, World.size_drew]; rfl) | rfl)
  go_wp2_with fail
  go_ret
  refine ⟨?_, by (repeat' (first | (with_reducible exact Below.refl _ _) | (with_reducible assumption) | (with_reducible refine Below.alloc ?_ ?_ _) | (with_reducible refine bel_drewN ?_ _) | (with_reducible refine Below.drew ?_) | (with_reducible refine Below.setCell ?_ ?_ _) | (with_reducible refine bel_call ‹_› ?_ ?_) | go_size))⟩
  first
    | rfl
    | exact congrArg (fun s => Ending.returned (Value.string s)) (cat2 _ _)
    | exact congrArg (fun s => Ending.returned (Value.string s)) (by rw [cat2, cat2])

set_option maxRecDepth 100000 in
set_option maxHeartbeats 1000000 in
theorem rtext_bna0 (a b : Int) (h1 : -1048576 ≤ a) (h2 : a ≤ 1048576) (h3 : -1048576 ≤ b) (h4 : b ≤ 1048576) (b0 : b < -1) (a0 : a = 0) (w : World) :
    Calls Tryd.prog 15 #[.agg #[.int .i64 a, .int .i64 b]] w fun e w' => e = .returned (.string ⟨(ztxt a b).toArray⟩) ∧ Below w.heap.size w w' := by
  have tb0 : (b == 0) = false := by simp; omega
  have tb1 : (b == 1) = false := by simp; omega
  have tb2 : (b == -1) = false := by simp; omega
  subst a0
  have HA := Lib.hid (fun W => refDigits_any 0 (by omega) (by omega) W)
  have HB := Lib.hid (fun W => refDigits_any b (by omega) (by omega) W)
  have lA := sgL_len 0
  have lB := sgL_len b
  obtain ⟨A, hA⟩ : ∃ A, sgL 0 = A := ⟨_, rfl⟩
  obtain ⟨B, hB⟩ : ∃ B, sgL b = B := ⟨_, rfl⟩
  have hR : ztxt 0 b = B ++ [105] := by
    unfold ztxt tailL
    rw [hA, hB]
    rw [if_neg (by omega), if_pos rfl, if_neg (by omega), if_neg (by omega)]
  rw [hR]
  rw [hA] at HA lA
  rw [hB] at HB lB
  have hz1 : (⟨A.toArray⟩ : ByteArray).size ≤ 20 := by rw [Lib.size_eq]; simp; omega
  have hz2 : (⟨B.toArray⟩ : ByteArray).size ≤ 20 := by rw [Lib.size_eq]; simp; omega
  have hz3 : (⟨#[105]⟩ : ByteArray).size = 1 := rfl
  have hz4 : (⟨#[43]⟩ : ByteArray).size = 1 := rfl
  have hz5 : (⟨#[45, 105]⟩ : ByteArray).size = 2 := rfl
  have hcat : (⟨B.toArray⟩ : ByteArray) ++ ⟨#[105]⟩ = ⟨(B ++ [105]).toArray⟩ := cat2 B [105]
  have hz6 : (⟨(B ++ [105]).toArray⟩ : ByteArray).size ≤ 21 := by rw [Lib.size_eq]; simp; omega
  have hca : (⟨A.toArray⟩ : ByteArray) ++ ⟨#[43]⟩ = ⟨(A ++ [43]).toArray⟩ := cat2 A [43]
  have hz7 : (⟨(A ++ [43]).toArray⟩ : ByteArray).size ≤ 21 := by rw [Lib.size_eq]; simp; omega
  clear hA hB hR
  go_enter Tryd.func15, Tryd.ntmps15
  go_wp2_with fail
  refine (HB.out _).mono ?_
  rintro e w2 ⟨rfl, hb2⟩
  obtain ⟨hc2, hf2, hs2⟩ := bcell hb2 (by first | (simp only [World.size_alloc, World.size_setCell, World.size_drew]; rfl) | rfl)
  go_wp2_with fail
  go_ret
  refine ⟨?_, by (repeat' (first | (with_reducible exact Below.refl _ _) | (with_reducible assumption) | (with_reducible refine Below.alloc ?_ ?_ _) | (with_reducible refine bel_drewN ?_ _) | (with_reducible refine Below.drew ?_) | (with_reducible refine Below.setCell ?_ ?_ _) | (with_reducible refine bel_call ‹_› ?_ ?_) | go_size))⟩
  first
    | rfl
    | exact congrArg (fun s => Ending.returned (Value.string s)) (cat2 _ _)
    | exact congrArg (fun s => Ending.returned (Value.string s)) (by rw [cat2, cat2])

set_option maxRecDepth 100000 in
set_option maxHeartbeats 1000000 in
theorem rtext_bna1 (a b : Int) (h1 : -1048576 ≤ a) (h2 : a ≤ 1048576) (h3 : -1048576 ≤ b) (h4 : b ≤ 1048576) (b0 : b < -1) (a0 : a ≠ 0) (w : World) :
    Calls Tryd.prog 15 #[.agg #[.int .i64 a, .int .i64 b]] w fun e w' => e = .returned (.string ⟨(ztxt a b).toArray⟩) ∧ Below w.heap.size w w' := by
  have tb0 : (b == 0) = false := by simp; omega
  have tb1 : (b == 1) = false := by simp; omega
  have tb2 : (b == -1) = false := by simp; omega
  have ta : (a == 0) = false := by simp [a0]
  have HA := Lib.hid (fun W => refDigits_any a (by omega) (by omega) W)
  have HB := Lib.hid (fun W => refDigits_any b (by omega) (by omega) W)
  have lA := sgL_len a
  have lB := sgL_len b
  obtain ⟨A, hA⟩ : ∃ A, sgL a = A := ⟨_, rfl⟩
  obtain ⟨B, hB⟩ : ∃ B, sgL b = B := ⟨_, rfl⟩
  have hR : ztxt a b = A ++ (B ++ [105]) := by
    unfold ztxt tailL
    rw [hA, hB]
    rw [if_neg (by omega), if_neg a0, if_neg (by omega), if_neg (by omega), if_neg (by omega)]
  rw [hR]
  rw [hA] at HA lA
  rw [hB] at HB lB
  have hz1 : (⟨A.toArray⟩ : ByteArray).size ≤ 20 := by rw [Lib.size_eq]; simp; omega
  have hz2 : (⟨B.toArray⟩ : ByteArray).size ≤ 20 := by rw [Lib.size_eq]; simp; omega
  have hz3 : (⟨#[105]⟩ : ByteArray).size = 1 := rfl
  have hz4 : (⟨#[43]⟩ : ByteArray).size = 1 := rfl
  have hz5 : (⟨#[45, 105]⟩ : ByteArray).size = 2 := rfl
  have hcat : (⟨B.toArray⟩ : ByteArray) ++ ⟨#[105]⟩ = ⟨(B ++ [105]).toArray⟩ := cat2 B [105]
  have hz6 : (⟨(B ++ [105]).toArray⟩ : ByteArray).size ≤ 21 := by rw [Lib.size_eq]; simp; omega
  have hca : (⟨A.toArray⟩ : ByteArray) ++ ⟨#[43]⟩ = ⟨(A ++ [43]).toArray⟩ := cat2 A [43]
  have hz7 : (⟨(A ++ [43]).toArray⟩ : ByteArray).size ≤ 21 := by rw [Lib.size_eq]; simp; omega
  clear hA hB hR
  go_enter Tryd.func15, Tryd.ntmps15
  go_wp2_with fail
  refine (HB.out _).mono ?_
  rintro e w2 ⟨rfl, hb2⟩
  obtain ⟨hc2, hf2, hs2⟩ := bcell hb2 (by first | (simp only [World.size_alloc, World.size_setCell, World.size_drew]; rfl) | rfl)
  go_wp2_with fail
  refine (HA.out _).mono ?_
  rintro e w3 ⟨rfl, hb3⟩
  obtain ⟨hc3, hf3, hs3⟩ := bcell hb3 (by first | (simp only [World.size_alloc, World.size_setCell, World.size_drew]; rfl) | rfl)
  go_wp2_with fail
  go_ret
  refine ⟨?_, by (repeat' (first | (with_reducible exact Below.refl _ _) | (with_reducible assumption) | (with_reducible refine Below.alloc ?_ ?_ _) | (with_reducible refine bel_drewN ?_ _) | (with_reducible refine Below.drew ?_) | (with_reducible refine Below.setCell ?_ ?_ _) | (with_reducible refine bel_call ‹_› ?_ ?_) | go_size))⟩
  first
    | rfl
    | exact congrArg (fun s => Ending.returned (Value.string s)) (cat2 _ _)
    | exact congrArg (fun s => Ending.returned (Value.string s)) (by rw [cat2, cat2])

theorem rtext_any (a b : Int) (h1 : -1048576 ≤ a) (h2 : a ≤ 1048576) (h3 : -1048576 ≤ b) (h4 : b ≤ 1048576) (w : World) :
    Calls Tryd.prog 15 #[.agg #[.int .i64 a, .int .i64 b]] w fun e w' => e = .returned (.string ⟨(ztxt a b).toArray⟩) ∧ Below w.heap.size w w' := by
  by_cases b0 : b = 0
  · exact rtext_b0 a b h1 h2 h3 h4 b0 w
  · by_cases a0 : a = 0
    · by_cases c1 : b = 1
      · exact rtext_b1a0 a b h1 h2 h3 h4 c1 a0 w
      · by_cases c2 : b = -1
        · exact rtext_bm1a0 a b h1 h2 h3 h4 c2 a0 w
        · rcases Int.lt_or_le b 0 with h | h
          · exact rtext_bna0 a b h1 h2 h3 h4 (by omega) a0 w
          · exact rtext_bpa0 a b h1 h2 h3 h4 (by omega) a0 w
    · by_cases c1 : b = 1
      · exact rtext_b1a1 a b h1 h2 h3 h4 c1 a0 w
      · by_cases c2 : b = -1
        · exact rtext_bm1a1 a b h1 h2 h3 h4 c2 a0 w
        · rcases Int.lt_or_le b 0 with h | h
          · exact rtext_bna1 a b h1 h2 h3 h4 (by omega) a0 w
          · exact rtext_bpa1 a b h1 h2 h3 h4 (by omega) a0 w
end Go.Proofs.YtaocbebgdbeffaaDoor
