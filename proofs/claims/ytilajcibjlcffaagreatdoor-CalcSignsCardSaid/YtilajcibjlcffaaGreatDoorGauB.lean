/- Whole complex numbers as texts: decimal, signed, Text. -/
import Derived.Test.YtilajcibjlcffaaGreatDoorGauA
set_option linter.unusedSimpArgs false
set_option linter.unusedVariables false

namespace Go.Proofs.YtilajcibjlcffaaGreatDoor.Gau
open Go.RowKit

theorem cat2 (X Y : List UInt8) : (⟨X.toArray⟩ : ByteArray) ++ ⟨Y.toArray⟩ = ⟨(X ++ Y).toArray⟩ := by
  apply ByteArray.ext
  simp
/-- A digit's letter. -/
def chr (d : Nat) : UInt8 := UInt8.ofNat (48 + d)
def dcF : Nat → Nat → List UInt8
  | 0, n => [chr n]
  | f + 1, n => if n < 10 then [chr n] else dcF f (n / 10) ++ [chr (n % 10)]
/-- A number's decimal letters. -/
def dcL (n : Nat) : List UInt8 := dcF 15 n
theorem dcF_len : ∀ f n, (dcF f n).length ≤ f + 1
  | 0, n => by simp [dcF]
  | f + 1, n => by
    rw [dcF]
    split
    · simp
    · have := dcF_len f (n / 10)
      simp
      omega

theorem chr_conv (n b : Nat) (W : World) (h : W.cell? ⟨b, 0, none⟩ = some (.int .u8 (48 + (n : Int)))) : (convert 90 9 (.slice (some ⟨b, 0, none⟩) 1 1)).run Tryz.prog W = .ok (.string ⟨[chr n].toArray⟩) W := by
  have hcv := run_convert_bytes_arg (P := Tryz.prog) W 90 5 Tryz.underlying90 Tryz.underlying5 b 0 1 1 [48 + (n : Int)] rfl (fun i hi => by
    obtain rfl : i = 0 := by omega
    exact h) 9 Tryz.underlying9
  rw [show strOfNums [48 + (n : Int)] = ⟨[chr n].toArray⟩ from rfl] at hcv
  exact hcv

set_option maxRecDepth 100000 in
set_option maxHeartbeats 1000000 in
theorem decimal_one (n : Nat) (h : n < 10) (w : World) : Calls Tryz.prog 107 #[.int .i64 n] w fun e w' => e = .returned (.string ⟨[chr n].toArray⟩) ∧ Below w.heap.size w w' := by
  have hcv := chr_conv n w.heap.size (w.alloc (.cells #[.int .u8 (48 + (n : Int))] 5)) (by go_simp)
  go_enter Tryz.func107, Tryz.ntmps107
  go_wp2_with fail
  go_ret
  exact ⟨rfl, by (repeat' (first | (with_reducible exact Below.refl _ _) | (with_reducible assumption) | (with_reducible refine Below.alloc ?_ ?_ _) | (with_reducible refine bel_drewN ?_ _) | (with_reducible refine Below.drew ?_) | (with_reducible refine Below.setCell ?_ ?_ _) | (with_reducible refine bel_call ‹_› ?_ ?_) | go_size))⟩

set_option maxRecDepth 100000 in
set_option maxHeartbeats 1000000 in
theorem decimal_f : ∀ (f n : Nat), f ≤ 15 → n < 10 ^ (f + 1) → ∀ w, Calls Tryz.prog 107 #[.int .i64 n] w fun e w' => e = .returned (.string ⟨(dcF f n).toArray⟩) ∧ Below w.heap.size w w'
  | 0, n, _, hn, w => decimal_one n (by omega) w
  | f + 1, n, hf, hn, w => by
    rw [dcF]
    by_cases h : n < 10
    · rw [if_pos h]
      exact decimal_one n h w
    · rw [if_neg h]
      have hq : n / 10 < 10 ^ (f + 1) := by
        rw [Nat.pow_succ] at hn
        omega
      have hnb : n ≤ 100000000000000000 := by
        have h1 : 10 ^ (f + 1 + 1) ≤ 10 ^ 17 := Nat.pow_le_pow_right (by omega) (by omega)
        omega
      have IH := Lib.hid (fun W => decimal_f f (n / 10) (by omega) hq W)
      have hlen := dcF_len f (n / 10)
      obtain ⟨A, hA⟩ : ∃ A, dcF f (n / 10) = A := ⟨_, rfl⟩
      obtain ⟨q, hqq⟩ : ∃ q, n / 10 = q := ⟨_, rfl⟩
      obtain ⟨d, hd⟩ : ∃ d, n % 10 = d := ⟨_, rfl⟩
      rw [hA] at IH hlen ⊢
      rw [hqq] at IH
      rw [hd]
      have hd10 : d < 10 := by omega
      have e1 : (n : Int) / 10 = (q : Int) := by omega
      have e2 : (n : Int) % 10 = (d : Int) := by omega
      have hz1 : (⟨A.toArray⟩ : ByteArray).size ≤ 20 := by rw [Lib.size_eq]; simp; omega
      have f1 : IntKind.i64.wrap (q : Int) = (q : Int) := IntWalk.i64_in _ (by omega)
      have f2 : (n : Int).tmod 10 = (d : Int) := by rw [Int.tmod_eq_emod_of_nonneg (by omega)]; exact e2
      have f3 : IntKind.i64.wrap (48 + (d : Int)) = 48 + (d : Int) := IntWalk.i64_in _ (by omega)
      have f4 : IntKind.u8.wrap (48 + (d : Int)) = 48 + (d : Int) := IntWalk.u8_in _ (by omega)
      clear hA hqq hd hq hn
      go_enter Tryz.func107, Tryz.ntmps107
      have hcv := chr_conv d
      have hz2 : (⟨[chr d].toArray⟩ : ByteArray).size = 1 := rfl
      have hcat := cat2 A [chr d]
      go_wp2_with fail
      go_region_with (go_at_call 107; refine (IH.out _).mono ?_; rintro e w1 ⟨rfl, hb⟩; obtain ⟨hc, hf, hz⟩ := bcell hb (by first | (simp only [World.size_alloc, World.size_setCell, World.size_drew]; rfl) | rfl))
      all_goals go_wp2_with fail
      all_goals go_ret
      all_goals exact ⟨rfl, by (repeat' (first | (with_reducible exact Below.refl _ _) | (with_reducible assumption) | (with_reducible refine Below.alloc ?_ ?_ _) | (with_reducible refine bel_drewN ?_ _) | (with_reducible refine Below.drew ?_) | (with_reducible refine Below.setCell ?_ ?_ _) | (with_reducible refine bel_call ‹_› ?_ ?_) | go_size))⟩
theorem decimal_any (n : Nat) (h : n ≤ 10000000000000) (w : World) : Calls Tryz.prog 107 #[.int .i64 n] w fun e w' => e = .returned (.string ⟨(dcL n).toArray⟩) ∧ Below w.heap.size w w' :=
  decimal_f 15 n (by omega) (Nat.lt_of_le_of_lt h (by decide)) w
theorem dcL_len (n : Nat) : (dcL n).length ≤ 16 := dcF_len 15 n

/-- A number's letters, with its sign. -/
def sgL (n : Int) : List UInt8 := (if n < 0 then [45] else []) ++ dcL n.natAbs
theorem sgL_len (n : Int) : (sgL n).length ≤ 17 := by
  have := dcL_len n.natAbs
  unfold sgL
  split <;> simp <;> omega
set_option maxRecDepth 100000 in
set_option maxHeartbeats 1000000 in
theorem signed_any (n : Int) (h1 : -10000000 ≤ n) (h2 : n ≤ 10000000) (w : World) : Calls Tryz.prog 94 #[.int .i64 n] w fun e w' => e = .returned (.string ⟨(sgL n).toArray⟩) ∧ Below w.heap.size w w' := by
  have hl := dcL_len n.natAbs
  have HD := Lib.hid (fun W => decimal_any n.natAbs (by omega) W)
  have hs : sgL n = (if n < 0 then [45] else []) ++ dcL n.natAbs := rfl
  obtain ⟨A, hA⟩ : ∃ A, dcL n.natAbs = A := ⟨_, rfl⟩
  rw [hA] at hs hl HD
  rw [hs]
  have hz1 : (⟨A.toArray⟩ : ByteArray).size ≤ 20 := by rw [Lib.size_eq]; simp; omega
  have hz2 : (⟨#[45]⟩ : ByteArray).size = 1 := rfl
  by_cases h0 : n < 0
  · rw [if_pos h0]
    obtain ⟨k, hk⟩ : ∃ k : Nat, n.natAbs = k := ⟨_, rfl⟩
    rw [hk] at HD
    have e1 : -n = (k : Int) := by omega
    have hcat : (⟨#[45]⟩ : ByteArray) ++ ⟨A.toArray⟩ = ⟨([45] ++ A).toArray⟩ := cat2 [45] A
    clear hA hs hk
    go_enter Tryz.func94, Tryz.ntmps94
    go_wp2_with fail
    refine (HD.out _).mono ?_
    rintro e w1 ⟨rfl, hb⟩
    go_wp2_with fail
    go_ret
    exact ⟨rfl, by (repeat' (first | (with_reducible exact Below.refl _ _) | (with_reducible assumption) | (with_reducible refine Below.alloc ?_ ?_ _) | (with_reducible refine bel_drewN ?_ _) | (with_reducible refine Below.drew ?_) | (with_reducible refine Below.setCell ?_ ?_ _) | (with_reducible refine bel_call ‹_› ?_ ?_) | go_size))⟩
  · rw [if_neg h0]
    obtain ⟨k, rfl⟩ : ∃ k : Nat, n = (k : Int) := ⟨n.natAbs, by omega⟩
    rw [Int.natAbs_natCast] at HD
    clear hA hs
    go_enter Tryz.func94, Tryz.ntmps94
    go_wp2_with fail
    refine (HD.out _).mono ?_
    rintro e w1 ⟨rfl, hb⟩
    go_wp2_with fail
    go_ret
    exact ⟨rfl, by (repeat' (first | (with_reducible exact Below.refl _ _) | (with_reducible assumption) | (with_reducible refine Below.alloc ?_ ?_ _) | (with_reducible refine bel_drewN ?_ _) | (with_reducible refine Below.drew ?_) | (with_reducible refine Below.setCell ?_ ?_ _) | (with_reducible refine bel_call ‹_› ?_ ?_) | go_size))⟩

/-- A number's text: its first part, and its second one with an i. -/
def tailL (b : Int) : List UInt8 := if b = 1 then [105] else if b = -1 then [45, 105] else sgL b ++ [105]
def ztxt (a b : Int) : List UInt8 := if b = 0 then sgL a else if a = 0 then tailL b else if 0 < b then sgL a ++ [43] ++ tailL b else sgL a ++ tailL b

set_option maxRecDepth 100000 in
set_option maxHeartbeats 1000000 in
theorem ztext_b0 (x y : Nat) (a b : Int) (hx : IsF x a) (hy : IsF y b) (h1 : -1048576 ≤ a) (h2 : a ≤ 1048576) (h3 : -1048576 ≤ b) (h4 : b ≤ 1048576) (b0 : b = 0) (w : World) :
    Calls Tryz.prog 66 #[.complex .f64 x y] w fun e w' => e = .returned (.string ⟨(ztxt a b).toArray⟩) ∧ Below w.heap.size w w' := by
  subst b0
  have HP := Lib.hid (fun W => parts_any x y a 0 hx hy W)
  have HA := Lib.hid (fun W => signed_any a (by omega) (by omega) W)
  have HB := Lib.hid (fun W => signed_any 0 (by omega) (by omega) W)
  have lA := sgL_len a
  have lB := sgL_len 0
  obtain ⟨A, hA⟩ : ∃ A, sgL a = A := ⟨_, rfl⟩
  obtain ⟨B, hB⟩ : ∃ B, sgL 0 = B := ⟨_, rfl⟩
  have hR : ztxt a 0 = A := by
    unfold ztxt tailL
    rw [hA, hB]
    rw [if_pos rfl]
  rw [hR]
  rw [hA] at HA lA
  rw [hB] at HB lB
  have hz1 : (⟨A.toArray⟩ : ByteArray).size ≤ 20 := by rw [Lib.size_eq]; simp; omega
  have hz2 : (⟨B.toArray⟩ : ByteArray).size ≤ 20 := by rw [Lib.size_eq]; simp; omega
  have hz3 : (⟨#[105]⟩ : ByteArray).size = 1 := rfl
  have hz4 : (⟨#[43]⟩ : ByteArray).size = 1 := rfl
  have hz5 : (⟨#[45, 105]⟩ : ByteArray).size = 2 := rfl
  have hcat : (⟨B.toArray⟩ : ByteArray) ++ ⟨#[105]⟩ = ⟨(B ++ [105]).toArray⟩ := cat2 B [105]
  have hz6 : (⟨(B ++ [105]).toArray⟩ : ByteArray).size ≤ 21 := by rw [Lib.size_eq]; simp; omega
  have hca : (⟨A.toArray⟩ : ByteArray) ++ ⟨#[43]⟩ = ⟨(A ++ [43]).toArray⟩ := cat2 A [43]
  have hz7 : (⟨(A ++ [43]).toArray⟩ : ByteArray).size ≤ 21 := by rw [Lib.size_eq]; simp; omega
  clear hA hB hx hy hR
  go_enter Tryz.func66, Tryz.ntmps66
  go_wp2_with fail
  refine (HP.out _).mono ?_
  rintro e w1 ⟨rfl, rfl⟩
  go_wp2_with fail
  refine (HB.out _).mono ?_
  rintro e w2 ⟨rfl, hb2⟩
  have hs2 := hb2.size
  go_wp2_with fail
  refine (HA.out _).mono ?_
  rintro e w3 ⟨rfl, hb3⟩
  go_wp2_with fail
  go_ret
  refine ⟨?_, bel_call hb3 hb2 (by omega)⟩
  first
    | rfl
    | exact congrArg (fun s => Ending.returned (Value.string s)) (cat2 _ _)
    | exact congrArg (fun s => Ending.returned (Value.string s)) (by rw [cat2, cat2])

set_option maxRecDepth 100000 in
set_option maxHeartbeats 1000000 in
theorem ztext_b1a0 (x y : Nat) (a b : Int) (hx : IsF x a) (hy : IsF y b) (h1 : -1048576 ≤ a) (h2 : a ≤ 1048576) (h3 : -1048576 ≤ b) (h4 : b ≤ 1048576) (b0 : b = 1) (a0 : a = 0) (w : World) :
    Calls Tryz.prog 66 #[.complex .f64 x y] w fun e w' => e = .returned (.string ⟨(ztxt a b).toArray⟩) ∧ Below w.heap.size w w' := by
  subst b0
  subst a0
  have HP := Lib.hid (fun W => parts_any x y 0 1 hx hy W)
  have HA := Lib.hid (fun W => signed_any 0 (by omega) (by omega) W)
  have HB := Lib.hid (fun W => signed_any 1 (by omega) (by omega) W)
  have lA := sgL_len 0
  have lB := sgL_len 1
  obtain ⟨A, hA⟩ : ∃ A, sgL 0 = A := ⟨_, rfl⟩
  obtain ⟨B, hB⟩ : ∃ B, sgL 1 = B := ⟨_, rfl⟩
  have hR : ztxt 0 1 = [105] := by
    unfold ztxt tailL
    rw [hA, hB]
    rw [if_neg (by omega), if_pos rfl, if_pos rfl]
  rw [hR]
  rw [hA] at HA lA
  rw [hB] at HB lB
  have hz1 : (⟨A.toArray⟩ : ByteArray).size ≤ 20 := by rw [Lib.size_eq]; simp; omega
  have hz2 : (⟨B.toArray⟩ : ByteArray).size ≤ 20 := by rw [Lib.size_eq]; simp; omega
  have hz3 : (⟨#[105]⟩ : ByteArray).size = 1 := rfl
  have hz4 : (⟨#[43]⟩ : ByteArray).size = 1 := rfl
  have hz5 : (⟨#[45, 105]⟩ : ByteArray).size = 2 := rfl
  have hcat : (⟨B.toArray⟩ : ByteArray) ++ ⟨#[105]⟩ = ⟨(B ++ [105]).toArray⟩ := cat2 B [105]
  have hz6 : (⟨(B ++ [105]).toArray⟩ : ByteArray).size ≤ 21 := by rw [Lib.size_eq]; simp; omega
  have hca : (⟨A.toArray⟩ : ByteArray) ++ ⟨#[43]⟩ = ⟨(A ++ [43]).toArray⟩ := cat2 A [43]
  have hz7 : (⟨(A ++ [43]).toArray⟩ : ByteArray).size ≤ 21 := by rw [Lib.size_eq]; simp; omega
  clear hA hB hx hy hR
  go_enter Tryz.func66, Tryz.ntmps66
  go_wp2_with fail
  refine (HP.out _).mono ?_
  rintro e w1 ⟨rfl, rfl⟩
  go_wp2_with fail
  refine (HB.out _).mono ?_
  rintro e w2 ⟨rfl, hb2⟩
  have hs2 := hb2.size
  go_wp2_with fail
  go_ret
  refine ⟨?_, hb2⟩
  first
    | rfl
    | exact congrArg (fun s => Ending.returned (Value.string s)) (cat2 _ _)
    | exact congrArg (fun s => Ending.returned (Value.string s)) (by rw [cat2, cat2])

set_option maxRecDepth 100000 in
set_option maxHeartbeats 1000000 in
theorem ztext_b1a1 (x y : Nat) (a b : Int) (hx : IsF x a) (hy : IsF y b) (h1 : -1048576 ≤ a) (h2 : a ≤ 1048576) (h3 : -1048576 ≤ b) (h4 : b ≤ 1048576) (b0 : b = 1) (a0 : a ≠ 0) (w : World) :
    Calls Tryz.prog 66 #[.complex .f64 x y] w fun e w' => e = .returned (.string ⟨(ztxt a b).toArray⟩) ∧ Below w.heap.size w w' := by
  subst b0
  have ta : (a == 0) = false := by simp [a0]
  have HP := Lib.hid (fun W => parts_any x y a 1 hx hy W)
  have HA := Lib.hid (fun W => signed_any a (by omega) (by omega) W)
  have HB := Lib.hid (fun W => signed_any 1 (by omega) (by omega) W)
  have lA := sgL_len a
  have lB := sgL_len 1
  obtain ⟨A, hA⟩ : ∃ A, sgL a = A := ⟨_, rfl⟩
  obtain ⟨B, hB⟩ : ∃ B, sgL 1 = B := ⟨_, rfl⟩
  have hR : ztxt a 1 = A ++ [43] ++ [105] := by
    unfold ztxt tailL
    rw [hA, hB]
    rw [if_neg (by omega), if_neg a0, if_pos (by omega), if_pos rfl]
  rw [hR]
  rw [hA] at HA lA
  rw [hB] at HB lB
  have hz1 : (⟨A.toArray⟩ : ByteArray).size ≤ 20 := by rw [Lib.size_eq]; simp; omega
  have hz2 : (⟨B.toArray⟩ : ByteArray).size ≤ 20 := by rw [Lib.size_eq]; simp; omega
  have hz3 : (⟨#[105]⟩ : ByteArray).size = 1 := rfl
  have hz4 : (⟨#[43]⟩ : ByteArray).size = 1 := rfl
  have hz5 : (⟨#[45, 105]⟩ : ByteArray).size = 2 := rfl
  have hcat : (⟨B.toArray⟩ : ByteArray) ++ ⟨#[105]⟩ = ⟨(B ++ [105]).toArray⟩ := cat2 B [105]
  have hz6 : (⟨(B ++ [105]).toArray⟩ : ByteArray).size ≤ 21 := by rw [Lib.size_eq]; simp; omega
  have hca : (⟨A.toArray⟩ : ByteArray) ++ ⟨#[43]⟩ = ⟨(A ++ [43]).toArray⟩ := cat2 A [43]
  have hz7 : (⟨(A ++ [43]).toArray⟩ : ByteArray).size ≤ 21 := by rw [Lib.size_eq]; simp; omega
  clear hA hB hx hy hR
  go_enter Tryz.func66, Tryz.ntmps66
  go_wp2_with fail
  refine (HP.out _).mono ?_
  rintro e w1 ⟨rfl, rfl⟩
  go_wp2_with fail
  refine (HB.out _).mono ?_
  rintro e w2 ⟨rfl, hb2⟩
  have hs2 := hb2.size
  go_wp2_with fail
  refine (HA.out _).mono ?_
  rintro e w3 ⟨rfl, hb3⟩
  go_wp2_with fail
  go_ret
  refine ⟨?_, bel_call hb3 hb2 (by omega)⟩
  first
    | rfl
    | exact congrArg (fun s => Ending.returned (Value.string s)) (cat2 _ _)
    | exact congrArg (fun s => Ending.returned (Value.string s)) (by rw [cat2, cat2])

set_option maxRecDepth 100000 in
set_option maxHeartbeats 1000000 in
theorem ztext_bm1a0 (x y : Nat) (a b : Int) (hx : IsF x a) (hy : IsF y b) (h1 : -1048576 ≤ a) (h2 : a ≤ 1048576) (h3 : -1048576 ≤ b) (h4 : b ≤ 1048576) (b0 : b = -1) (a0 : a = 0) (w : World) :
    Calls Tryz.prog 66 #[.complex .f64 x y] w fun e w' => e = .returned (.string ⟨(ztxt a b).toArray⟩) ∧ Below w.heap.size w w' := by
  subst b0
  subst a0
  have HP := Lib.hid (fun W => parts_any x y 0 (-1) hx hy W)
  have HA := Lib.hid (fun W => signed_any 0 (by omega) (by omega) W)
  have HB := Lib.hid (fun W => signed_any (-1) (by omega) (by omega) W)
  have lA := sgL_len 0
  have lB := sgL_len (-1)
  obtain ⟨A, hA⟩ : ∃ A, sgL 0 = A := ⟨_, rfl⟩
  obtain ⟨B, hB⟩ : ∃ B, sgL (-1) = B := ⟨_, rfl⟩
  have hR : ztxt 0 (-1) = [45, 105] := by
    unfold ztxt tailL
    rw [hA, hB]
    rw [if_neg (by omega), if_pos rfl, if_neg (by omega), if_pos rfl]
  rw [hR]
  rw [hA] at HA lA
  rw [hB] at HB lB
  have hz1 : (⟨A.toArray⟩ : ByteArray).size ≤ 20 := by rw [Lib.size_eq]; simp; omega
  have hz2 : (⟨B.toArray⟩ : ByteArray).size ≤ 20 := by rw [Lib.size_eq]; simp; omega
  have hz3 : (⟨#[105]⟩ : ByteArray).size = 1 := rfl
  have hz4 : (⟨#[43]⟩ : ByteArray).size = 1 := rfl
  have hz5 : (⟨#[45, 105]⟩ : ByteArray).size = 2 := rfl
  have hcat : (⟨B.toArray⟩ : ByteArray) ++ ⟨#[105]⟩ = ⟨(B ++ [105]).toArray⟩ := cat2 B [105]
  have hz6 : (⟨(B ++ [105]).toArray⟩ : ByteArray).size ≤ 21 := by rw [Lib.size_eq]; simp; omega
  have hca : (⟨A.toArray⟩ : ByteArray) ++ ⟨#[43]⟩ = ⟨(A ++ [43]).toArray⟩ := cat2 A [43]
  have hz7 : (⟨(A ++ [43]).toArray⟩ : ByteArray).size ≤ 21 := by rw [Lib.size_eq]; simp; omega
  clear hA hB hx hy hR
  go_enter Tryz.func66, Tryz.ntmps66
  go_wp2_with fail
  refine (HP.out _).mono ?_
  rintro e w1 ⟨rfl, rfl⟩
  go_wp2_with fail
  refine (HB.out _).mono ?_
  rintro e w2 ⟨rfl, hb2⟩
  have hs2 := hb2.size
  go_wp2_with fail
  go_ret
  refine ⟨?_, hb2⟩
  first
    | rfl
    | exact congrArg (fun s => Ending.returned (Value.string s)) (cat2 _ _)
    | exact congrArg (fun s => Ending.returned (Value.string s)) (by rw [cat2, cat2])

set_option maxRecDepth 100000 in
set_option maxHeartbeats 1000000 in
theorem ztext_bm1a1 (x y : Nat) (a b : Int) (hx : IsF x a) (hy : IsF y b) (h1 : -1048576 ≤ a) (h2 : a ≤ 1048576) (h3 : -1048576 ≤ b) (h4 : b ≤ 1048576) (b0 : b = -1) (a0 : a ≠ 0) (w : World) :
    Calls Tryz.prog 66 #[.complex .f64 x y] w fun e w' => e = .returned (.string ⟨(ztxt a b).toArray⟩) ∧ Below w.heap.size w w' := by
  subst b0
  have ta : (a == 0) = false := by simp [a0]
  have HP := Lib.hid (fun W => parts_any x y a (-1) hx hy W)
  have HA := Lib.hid (fun W => signed_any a (by omega) (by omega) W)
  have HB := Lib.hid (fun W => signed_any (-1) (by omega) (by omega) W)
  have lA := sgL_len a
  have lB := sgL_len (-1)
  obtain ⟨A, hA⟩ : ∃ A, sgL a = A := ⟨_, rfl⟩
  obtain ⟨B, hB⟩ : ∃ B, sgL (-1) = B := ⟨_, rfl⟩
  have hR : ztxt a (-1) = A ++ [45, 105] := by
    unfold ztxt tailL
    rw [hA, hB]
    rw [if_neg (by omega), if_neg a0, if_neg (by omega), if_neg (by omega), if_pos rfl]
  rw [hR]
  rw [hA] at HA lA
  rw [hB] at HB lB
  have hz1 : (⟨A.toArray⟩ : ByteArray).size ≤ 20 := by rw [Lib.size_eq]; simp; omega
  have hz2 : (⟨B.toArray⟩ : ByteArray).size ≤ 20 := by rw [Lib.size_eq]; simp; omega
  have hz3 : (⟨#[105]⟩ : ByteArray).size = 1 := rfl
  have hz4 : (⟨#[43]⟩ : ByteArray).size = 1 := rfl
  have hz5 : (⟨#[45, 105]⟩ : ByteArray).size = 2 := rfl
  have hcat : (⟨B.toArray⟩ : ByteArray) ++ ⟨#[105]⟩ = ⟨(B ++ [105]).toArray⟩ := cat2 B [105]
  have hz6 : (⟨(B ++ [105]).toArray⟩ : ByteArray).size ≤ 21 := by rw [Lib.size_eq]; simp; omega
  have hca : (⟨A.toArray⟩ : ByteArray) ++ ⟨#[43]⟩ = ⟨(A ++ [43]).toArray⟩ := cat2 A [43]
  have hz7 : (⟨(A ++ [43]).toArray⟩ : ByteArray).size ≤ 21 := by rw [Lib.size_eq]; simp; omega
  clear hA hB hx hy hR
  go_enter Tryz.func66, Tryz.ntmps66
  go_wp2_with fail
  refine (HP.out _).mono ?_
  rintro e w1 ⟨rfl, rfl⟩
  go_wp2_with fail
  refine (HB.out _).mono ?_
  rintro e w2 ⟨rfl, hb2⟩
  have hs2 := hb2.size
  go_wp2_with fail
  refine (HA.out _).mono ?_
  rintro e w3 ⟨rfl, hb3⟩
  go_wp2_with fail
  go_ret
  refine ⟨?_, bel_call hb3 hb2 (by omega)⟩
  first
    | rfl
    | exact congrArg (fun s => Ending.returned (Value.string s)) (cat2 _ _)
    | exact congrArg (fun s => Ending.returned (Value.string s)) (by rw [cat2, cat2])

set_option maxRecDepth 100000 in
set_option maxHeartbeats 1000000 in
theorem ztext_bpa0 (x y : Nat) (a b : Int) (hx : IsF x a) (hy : IsF y b) (h1 : -1048576 ≤ a) (h2 : a ≤ 1048576) (h3 : -1048576 ≤ b) (h4 : b ≤ 1048576) (b0 : 1 < b) (a0 : a = 0) (w : World) :
    Calls Tryz.prog 66 #[.complex .f64 x y] w fun e w' => e = .returned (.string ⟨(ztxt a b).toArray⟩) ∧ Below w.heap.size w w' := by
  have tb0 : (b == 0) = false := by simp; omega
  have tb1 : (b == 1) = false := by simp; omega
  have tb2 : (b == -1) = false := by simp; omega
  subst a0
  have HP := Lib.hid (fun W => parts_any x y 0 b hx hy W)
  have HA := Lib.hid (fun W => signed_any 0 (by omega) (by omega) W)
  have HB := Lib.hid (fun W => signed_any b (by omega) (by omega) W)
  have lA := sgL_len 0
  have lB := sgL_len b
  obtain ⟨A, hA⟩ : ∃ A, sgL 0 = A := ⟨_, rfl⟩
  obtain ⟨B, hB⟩ : ∃ B, sgL b = B := ⟨_, rfl⟩
  have hR : ztxt 0 b = B ++ [105] := by
    unfold ztxt tailL
    rw [hA, hB]
    rw [if_neg (by omega), if_pos rfl, if_neg (by omega), if_neg (by omega)]
  rw [hR]
  rw [hA] at HA lA
  rw [hB] at HB lB
  have hz1 : (⟨A.toArray⟩ : ByteArray).size ≤ 20 := by rw [Lib.size_eq]; simp; omega
  have hz2 : (⟨B.toArray⟩ : ByteArray).size ≤ 20 := by rw [Lib.size_eq]; simp; omega
  have hz3 : (⟨#[105]⟩ : ByteArray).size = 1 := rfl
  have hz4 : (⟨#[43]⟩ : ByteArray).size = 1 := rfl
  have hz5 : (⟨#[45, 105]⟩ : ByteArray).size = 2 := rfl
  have hcat : (⟨B.toArray⟩ : ByteArray) ++ ⟨#[105]⟩ = ⟨(B ++ [105]).toArray⟩ := cat2 B [105]
  have hz6 : (⟨(B ++ [105]).toArray⟩ : ByteArray).size ≤ 21 := by rw [Lib.size_eq]; simp; omega
  have hca : (⟨A.toArray⟩ : ByteArray) ++ ⟨#[43]⟩ = ⟨(A ++ [43]).toArray⟩ := cat2 A [43]
  have hz7 : (⟨(A ++ [43]).toArray⟩ : ByteArray).size ≤ 21 := by rw [Lib.size_eq]; simp; omega
  clear hA hB hx hy hR
  go_enter Tryz.func66, Tryz.ntmps66
  go_wp2_with fail
  refine (HP.out _).mono ?_
  rintro e w1 ⟨rfl, rfl⟩
  go_wp2_with fail
  refine (HB.out _).mono ?_
  rintro e w2 ⟨rfl, hb2⟩
  have hs2 := hb2.size
  go_wp2_with fail
  go_ret
  refine ⟨?_, hb2⟩
  first
    | rfl
    | exact congrArg (fun s => Ending.returned (Value.string s)) (cat2 _ _)
    | exact congrArg (fun s => Ending.returned (Value.string s)) (by rw [cat2, cat2])

set_option maxRecDepth 100000 in
set_option maxHeartbeats 1000000 in
theorem ztext_bpa1 (x y : Nat) (a b : Int) (hx : IsF x a) (hy : IsF y b) (h1 : -1048576 ≤ a) (h2 : a ≤ 1048576) (h3 : -1048576 ≤ b) (h4 : b ≤ 1048576) (b0 : 1 < b) (a0 : a ≠ 0) (w : World) :
    Calls Tryz.prog 66 #[.complex .f64 x y] w fun e w' => e = .returned (.string ⟨(ztxt a b).toArray⟩) ∧ Below w.heap.size w w' := by
  have tb0 : (b == 0) = false := by simp; omega
  have tb1 : (b == 1) = false := by simp; omega
  have tb2 : (b == -1) = false := by simp; omega
  have ta : (a == 0) = false := by simp [a0]
  have HP := Lib.hid (fun W => parts_any x y a b hx hy W)
  have HA := Lib.hid (fun W => signed_any a (by omega) (by omega) W)
  have HB := Lib.hid (fun W => signed_any b (by omega) (by omega) W)
  have lA := sgL_len a
  have lB := sgL_len b
  obtain ⟨A, hA⟩ : ∃ A, sgL a = A := ⟨_, rfl⟩
  obtain ⟨B, hB⟩ : ∃ B, sgL b = B := ⟨_, rfl⟩
  have hR : ztxt a b = A ++ [43] ++ (B ++ [105]) := by
    unfold ztxt tailL
    rw [hA, hB]
    rw [if_neg (by omega), if_neg a0, if_pos (by omega), if_neg (by omega), if_neg (by omega)]
  rw [hR]
  rw [hA] at HA lA
  rw [hB] at HB lB
  have hz1 : (⟨A.toArray⟩ : ByteArray).size ≤ 20 := by rw [Lib.size_eq]; simp; omega
  have hz2 : (⟨B.toArray⟩ : ByteArray).size ≤ 20 := by rw [Lib.size_eq]; simp; omega
  have hz3 : (⟨#[105]⟩ : ByteArray).size = 1 := rfl
  have hz4 : (⟨#[43]⟩ : ByteArray).size = 1 := rfl
  have hz5 : (⟨#[45, 105]⟩ : ByteArray).size = 2 := rfl
  have hcat : (⟨B.toArray⟩ : ByteArray) ++ ⟨#[105]⟩ = ⟨(B ++ [105]).toArray⟩ := cat2 B [105]
  have hz6 : (⟨(B ++ [105]).toArray⟩ : ByteArray).size ≤ 21 := by rw [Lib.size_eq]; simp; omega
  have hca : (⟨A.toArray⟩ : ByteArray) ++ ⟨#[43]⟩ = ⟨(A ++ [43]).toArray⟩ := cat2 A [43]
  have hz7 : (⟨(A ++ [43]).toArray⟩ : ByteArray).size ≤ 21 := by rw [Lib.size_eq]; simp; omega
  clear hA hB hx hy hR
  go_enter Tryz.func66, Tryz.ntmps66
  go_wp2_with fail
  refine (HP.out _).mono ?_
  rintro e w1 ⟨rfl, rfl⟩
  go_wp2_with fail
  refine (HB.out _).mono ?_
  rintro e w2 ⟨rfl, hb2⟩
  have hs2 := hb2.size
  go_wp2_with fail
  refine (HA.out _).mono ?_
  rintro e w3 ⟨rfl, hb3⟩
  go_wp2_with fail
  go_ret
  refine ⟨?_, bel_call hb3 hb2 (by omega)⟩
  first
    | rfl
    | exact congrArg (fun s => Ending.returned (Value.string s)) (cat2 _ _)
    | exact congrArg (fun s => Ending.returned (Value.string s)) (by rw [cat2, cat2])

set_option maxRecDepth 100000 in
set_option maxHeartbeats 1000000 in
theorem ztext_bna0 (x y : Nat) (a b : Int) (hx : IsF x a) (hy : IsF y b) (h1 : -1048576 ≤ a) (h2 : a ≤ 1048576) (h3 : -1048576 ≤ b) (h4 : b ≤ 1048576) (b0 : b < -1) (a0 : a = 0) (w : World) :
    Calls Tryz.prog 66 #[.complex .f64 x y] w fun e w' => e = .returned (.string ⟨(ztxt a b).toArray⟩) ∧ Below w.heap.size w w' := by
  have tb0 : (b == 0) = false := by simp; omega
  have tb1 : (b == 1) = false := by simp; omega
  have tb2 : (b == -1) = false := by simp; omega
  subst a0
  have HP := Lib.hid (fun W => parts_any x y 0 b hx hy W)
  have HA := Lib.hid (fun W => signed_any 0 (by omega) (by omega) W)
  have HB := Lib.hid (fun W => signed_any b (by omega) (by omega) W)
  have lA := sgL_len 0
  have lB := sgL_len b
  obtain ⟨A, hA⟩ : ∃ A, sgL 0 = A := ⟨_, rfl⟩
  obtain ⟨B, hB⟩ : ∃ B, sgL b = B := ⟨_, rfl⟩
  have hR : ztxt 0 b = B ++ [105] := by
    unfold ztxt tailL
    rw [hA, hB]
    rw [if_neg (by omega), if_pos rfl, if_neg (by omega), if_neg (by omega)]
  rw [hR]
  rw [hA] at HA lA
  rw [hB] at HB lB
  have hz1 : (⟨A.toArray⟩ : ByteArray).size ≤ 20 := by rw [Lib.size_eq]; simp; omega
  have hz2 : (⟨B.toArray⟩ : ByteArray).size ≤ 20 := by rw [Lib.size_eq]; simp; omega
  have hz3 : (⟨#[105]⟩ : ByteArray).size = 1 := rfl
  have hz4 : (⟨#[43]⟩ : ByteArray).size = 1 := rfl
  have hz5 : (⟨#[45, 105]⟩ : ByteArray).size = 2 := rfl
  have hcat : (⟨B.toArray⟩ : ByteArray) ++ ⟨#[105]⟩ = ⟨(B ++ [105]).toArray⟩ := cat2 B [105]
  have hz6 : (⟨(B ++ [105]).toArray⟩ : ByteArray).size ≤ 21 := by rw [Lib.size_eq]; simp; omega
  have hca : (⟨A.toArray⟩ : ByteArray) ++ ⟨#[43]⟩ = ⟨(A ++ [43]).toArray⟩ := cat2 A [43]
  have hz7 : (⟨(A ++ [43]).toArray⟩ : ByteArray).size ≤ 21 := by rw [Lib.size_eq]; simp; omega
  clear hA hB hx hy hR
  go_enter Tryz.func66, Tryz.ntmps66
  go_wp2_with fail
  refine (HP.out _).mono ?_
  rintro e w1 ⟨rfl, rfl⟩
  go_wp2_with fail
  refine (HB.out _).mono ?_
  rintro e w2 ⟨rfl, hb2⟩
  have hs2 := hb2.size
  go_wp2_with fail
  go_ret
  refine ⟨?_, hb2⟩
  first
    | rfl
    | exact congrArg (fun s => Ending.returned (Value.string s)) (cat2 _ _)
    | exact congrArg (fun s => Ending.returned (Value.string s)) (by rw [cat2, cat2])

set_option maxRecDepth 100000 in
set_option maxHeartbeats 1000000 in
theorem ztext_bna1 (x y : Nat) (a b : Int) (hx : IsF x a) (hy : IsF y b) (h1 : -1048576 ≤ a) (h2 : a ≤ 1048576) (h3 : -1048576 ≤ b) (h4 : b ≤ 1048576) (b0 : b < -1) (a0 : a ≠ 0) (w : World) :
    Calls Tryz.prog 66 #[.complex .f64 x y] w fun e w' => e = .returned (.string ⟨(ztxt a b).toArray⟩) ∧ Below w.heap.size w w' := by
  have tb0 : (b == 0) = false := by simp; omega
  have tb1 : (b == 1) = false := by simp; omega
  have tb2 : (b == -1) = false := by simp; omega
  have ta : (a == 0) = false := by simp [a0]
  have HP := Lib.hid (fun W => parts_any x y a b hx hy W)
  have HA := Lib.hid (fun W => signed_any a (by omega) (by omega) W)
  have HB := Lib.hid (fun W => signed_any b (by omega) (by omega) W)
  have lA := sgL_len a
  have lB := sgL_len b
  obtain ⟨A, hA⟩ : ∃ A, sgL a = A := ⟨_, rfl⟩
  obtain ⟨B, hB⟩ : ∃ B, sgL b = B := ⟨_, rfl⟩
  have hR : ztxt a b = A ++ (B ++ [105]) := by
    unfold ztxt tailL
    rw [hA, hB]
    rw [if_neg (by omega), if_neg a0, if_neg (by omega), if_neg (by omega), if_neg (by omega)]
  rw [hR]
  rw [hA] at HA lA
  rw [hB] at HB lB
  have hz1 : (⟨A.toArray⟩ : ByteArray).size ≤ 20 := by rw [Lib.size_eq]; simp; omega
  have hz2 : (⟨B.toArray⟩ : ByteArray).size ≤ 20 := by rw [Lib.size_eq]; simp; omega
  have hz3 : (⟨#[105]⟩ : ByteArray).size = 1 := rfl
  have hz4 : (⟨#[43]⟩ : ByteArray).size = 1 := rfl
  have hz5 : (⟨#[45, 105]⟩ : ByteArray).size = 2 := rfl
  have hcat : (⟨B.toArray⟩ : ByteArray) ++ ⟨#[105]⟩ = ⟨(B ++ [105]).toArray⟩ := cat2 B [105]
  have hz6 : (⟨(B ++ [105]).toArray⟩ : ByteArray).size ≤ 21 := by rw [Lib.size_eq]; simp; omega
  have hca : (⟨A.toArray⟩ : ByteArray) ++ ⟨#[43]⟩ = ⟨(A ++ [43]).toArray⟩ := cat2 A [43]
  have hz7 : (⟨(A ++ [43]).toArray⟩ : ByteArray).size ≤ 21 := by rw [Lib.size_eq]; simp; omega
  clear hA hB hx hy hR
  go_enter Tryz.func66, Tryz.ntmps66
  go_wp2_with fail
  refine (HP.out _).mono ?_
  rintro e w1 ⟨rfl, rfl⟩
  go_wp2_with fail
  refine (HB.out _).mono ?_
  rintro e w2 ⟨rfl, hb2⟩
  have hs2 := hb2.size
  go_wp2_with fail
  refine (HA.out _).mono ?_
  rintro e w3 ⟨rfl, hb3⟩
  go_wp2_with fail
  go_ret
  refine ⟨?_, bel_call hb3 hb2 (by omega)⟩
  first
    | rfl
    | exact congrArg (fun s => Ending.returned (Value.string s)) (cat2 _ _)
    | exact congrArg (fun s => Ending.returned (Value.string s)) (by rw [cat2, cat2])

theorem ztext_any (x y : Nat) (a b : Int) (hx : IsF x a) (hy : IsF y b) (h1 : -1048576 ≤ a) (h2 : a ≤ 1048576) (h3 : -1048576 ≤ b) (h4 : b ≤ 1048576) (w : World) :
    Calls Tryz.prog 66 #[.complex .f64 x y] w fun e w' => e = .returned (.string ⟨(ztxt a b).toArray⟩) ∧ Below w.heap.size w w' := by
  by_cases b0 : b = 0
  · exact ztext_b0 x y a b hx hy h1 h2 h3 h4 b0 w
  · by_cases a0 : a = 0
    · by_cases c1 : b = 1
      · exact ztext_b1a0 x y a b hx hy h1 h2 h3 h4 c1 a0 w
      · by_cases c2 : b = -1
        · exact ztext_bm1a0 x y a b hx hy h1 h2 h3 h4 c2 a0 w
        · rcases Int.lt_or_le b 0 with h | h
          · exact ztext_bna0 x y a b hx hy h1 h2 h3 h4 (by omega) a0 w
          · exact ztext_bpa0 x y a b hx hy h1 h2 h3 h4 (by omega) a0 w
    · by_cases c1 : b = 1
      · exact ztext_b1a1 x y a b hx hy h1 h2 h3 h4 c1 a0 w
      · by_cases c2 : b = -1
        · exact ztext_bm1a1 x y a b hx hy h1 h2 h3 h4 c2 a0 w
        · rcases Int.lt_or_le b 0 with h | h
          · exact ztext_bna1 x y a b hx hy h1 h2 h3 h4 (by omega) a0 w
          · exact ztext_bpa1 x y a b hx hy h1 h2 h3 h4 (by omega) a0 w
end Go.Proofs.YtilajcibjlcffaaGreatDoor.Gau
