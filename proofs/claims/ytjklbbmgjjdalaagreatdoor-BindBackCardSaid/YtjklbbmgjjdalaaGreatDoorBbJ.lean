/- Names of cells: stamp.Decimal, a1's Right, Col, Text, the document's Col, Right, Text, and both Names. -/
import Derived.Test.YtjklbbmgjjdalaaGreatDoorBbF
import Derived.Test.YtjklbbmgjjdalaaGreatDoorBbE
import Derived.Test.YtjklbbmgjjdalaaGreatDoorBbC
import Derived.Lib.QuietBelow
set_option linter.unusedSimpArgs false
set_option linter.unusedVariables false
namespace Go.Proofs.YtjklbbmgjjdalaaGreatDoor
open Go.RowKit Go.Joins
def rtC (c r : Int) : Bool := decide (1 ≤ c) && (decide (c ≤ 702) && (decide (1 ≤ r) && decide (r ≤ 9999)))
set_option maxRecDepth 100000 in
set_option maxHeartbeats 1000000 in
theorem cright_any (c r : Int) (w : World) : Calls Tryz.prog 53 #[.agg #[.int .i64 c, .int .i64 r]] w fun e w' => e = .returned (.bool (rtC c r)) ∧ Below w.heap.size w w' := by
  have hB : Hid (Below w.heap.size w (w.alloc (.cells #[.int .i64 c, .int .i64 r] 45))) := by unfold Hid; (repeat' (first | (with_reducible exact Below.refl _ _) | (with_reducible assumption) | (with_reducible refine Below.alloc ?_ ?_ _) | (with_reducible refine bel_drewN ?_ _) | (with_reducible refine Below.drew ?_) | (with_reducible refine Below.setCell ?_ ?_ _) | (with_reducible refine bel_call ‹_› ?_ ?_) | go_size))
  obtain ⟨O, hO⟩ : ∃ O, rtC c r = O := ⟨_, rfl⟩
  have HO : Hid (rtC c r = O) := hO
  rw [hO]
  clear hO
  by_cases h1 : 1 ≤ c
  · by_cases h2 : c ≤ 702
    · by_cases h3 : 1 ≤ r
      · by_cases h4 : r ≤ 9999
        · have HR : Hid (O = true) := by unfold Hid; rw [← HO.out]; unfold rtC; simp; omega
          go_enter Tryz.func53, Tryz.ntmps53
          go_wp2_with fail
          go_ret
          exact ⟨by rw [HR.out]; rfl, hB.out⟩
        · have HR : Hid (O = false) := by unfold Hid; rw [← HO.out]; unfold rtC; simp; omega
          go_enter Tryz.func53, Tryz.ntmps53
          go_wp2_with fail
          go_ret
          exact ⟨by rw [HR.out]; rfl, hB.out⟩
      · have HR : Hid (O = false) := by unfold Hid; rw [← HO.out]; unfold rtC; simp; omega
        go_enter Tryz.func53, Tryz.ntmps53
        go_wp2_with fail
        go_ret
        exact ⟨by rw [HR.out]; rfl, hB.out⟩
    · have HR : Hid (O = false) := by unfold Hid; rw [← HO.out]; unfold rtC; simp; omega
      go_enter Tryz.func53, Tryz.ntmps53
      go_wp2_with fail
      go_ret
      exact ⟨by rw [HR.out]; rfl, hB.out⟩
  · have HR : Hid (O = false) := by unfold Hid; rw [← HO.out]; unfold rtC; simp; omega
    go_enter Tryz.func53, Tryz.ntmps53
    go_wp2_with fail
    go_ret
    exact ⟨by rw [HR.out]; rfl, hB.out⟩
theorem conv_1 (x b : Nat) (hx : x < 256) (W : World) (h : W.cell? ⟨b, 0, none⟩ = some (.int .u8 (x : Int))) : (convert 65 9 (.slice (some ⟨b, 0, none⟩) 1 1)).run Tryz.prog W = .ok (.string ⟨[UInt8.ofNat x].toArray⟩) W := by
  have hcv := run_convert_bytes_arg (P := Tryz.prog) W 65 5 Tryz.underlying65 Tryz.underlying5 b 0 1 1 [(x : Int)] rfl (fun i hi => by
    obtain rfl : i = 0 := by omega
    exact h) 9 Tryz.underlying9
  rw [show strOfNums [(x : Int)] = ⟨[UInt8.ofNat x].toArray⟩ from rfl] at hcv
  exact hcv
theorem conv_2 (x y b : Nat) (W : World) (h : W.cell? ⟨b, 0, none⟩ = some (.int .u8 (x : Int))) (h' : W.cell? ⟨b, 1, none⟩ = some (.int .u8 (y : Int))) : (convert 65 9 (.slice (some ⟨b, 0, none⟩) 2 2)).run Tryz.prog W = .ok (.string ⟨[UInt8.ofNat x, UInt8.ofNat y].toArray⟩) W := by
  have hcv := run_convert_bytes_arg (P := Tryz.prog) W 65 5 Tryz.underlying65 Tryz.underlying5 b 0 2 2 [(x : Int), (y : Int)] rfl (fun i hi => by
    match i, hi with
    | 0, _ => exact h
    | 1, _ => exact h') 9 Tryz.underlying9
  rw [show strOfNums [(x : Int), (y : Int)] = ⟨[UInt8.ofNat x, UInt8.ofNat y].toArray⟩ from rfl] at hcv
  exact hcv
def colS (c : Int) : Bs := if c < 1 ∨ 702 < c then [] else if c ≤ 26 then [UInt8.ofNat (64 + c.toNat)] else [UInt8.ofNat (64 + (c.toNat - 1) / 26), UInt8.ofNat (65 + (c.toNat - 1) % 26)]
theorem colS_len (c : Int) : (colS c).length ≤ 2 := by
  unfold colS
  repeat' split
  all_goals simp
def cellS (c r : Int) : Bs := if rtC c r = true then colS c ++ dcL r.toNat else []
def cC (k : Int) : Int := Int.tdiv k 10000
def cR (k : Int) : Int := Int.tmod k 10000
set_option maxRecDepth 100000 in
set_option maxHeartbeats 1000000 in
theorem r7right_any (c r : Int) (w : World) : Calls Tryz.prog 107 #[.int .i64 c, .int .i64 r] w fun e w' => e = .returned (.bool (rtC c r)) ∧ Below w.heap.size w w' := by
  obtain ⟨O, hO⟩ : ∃ O, rtC c r = O := ⟨_, rfl⟩
  have HO : Hid (rtC c r = O) := hO
  rw [hO]
  clear hO
  by_cases h1 : 1 ≤ c
  · by_cases h2 : c ≤ 702
    · by_cases h3 : 1 ≤ r
      · by_cases h4 : r ≤ 9999
        · have HR : Hid (O = true) := by unfold Hid; rw [← HO.out]; unfold rtC; simp; omega
          go_enter Tryz.func107, Tryz.ntmps107
          go_wp2_with fail
          go_ret
          exact ⟨by rw [HR.out]; rfl, by (repeat' (first | (with_reducible exact Below.refl _ _) | (with_reducible assumption) | (with_reducible refine Below.alloc ?_ ?_ _) | (with_reducible refine bel_drewN ?_ _) | (with_reducible refine Below.drew ?_) | (with_reducible refine Below.setCell ?_ ?_ _) | (with_reducible refine bel_call ‹_› ?_ ?_) | go_size))⟩
        · have HR : Hid (O = false) := by unfold Hid; rw [← HO.out]; unfold rtC; simp; omega
          go_enter Tryz.func107, Tryz.ntmps107
          go_wp2_with fail
          go_ret
          exact ⟨by rw [HR.out]; rfl, by (repeat' (first | (with_reducible exact Below.refl _ _) | (with_reducible assumption) | (with_reducible refine Below.alloc ?_ ?_ _) | (with_reducible refine bel_drewN ?_ _) | (with_reducible refine Below.drew ?_) | (with_reducible refine Below.setCell ?_ ?_ _) | (with_reducible refine bel_call ‹_› ?_ ?_) | go_size))⟩
      · have HR : Hid (O = false) := by unfold Hid; rw [← HO.out]; unfold rtC; simp; omega
        go_enter Tryz.func107, Tryz.ntmps107
        go_wp2_with fail
        go_ret
        exact ⟨by rw [HR.out]; rfl, by (repeat' (first | (with_reducible exact Below.refl _ _) | (with_reducible assumption) | (with_reducible refine Below.alloc ?_ ?_ _) | (with_reducible refine bel_drewN ?_ _) | (with_reducible refine Below.drew ?_) | (with_reducible refine Below.setCell ?_ ?_ _) | (with_reducible refine bel_call ‹_› ?_ ?_) | go_size))⟩
    · have HR : Hid (O = false) := by unfold Hid; rw [← HO.out]; unfold rtC; simp; omega
      go_enter Tryz.func107, Tryz.ntmps107
      go_wp2_with fail
      go_ret
      exact ⟨by rw [HR.out]; rfl, by (repeat' (first | (with_reducible exact Below.refl _ _) | (with_reducible assumption) | (with_reducible refine Below.alloc ?_ ?_ _) | (with_reducible refine bel_drewN ?_ _) | (with_reducible refine Below.drew ?_) | (with_reducible refine Below.setCell ?_ ?_ _) | (with_reducible refine bel_call ‹_› ?_ ?_) | go_size))⟩
  · have HR : Hid (O = false) := by unfold Hid; rw [← HO.out]; unfold rtC; simp; omega
    go_enter Tryz.func107, Tryz.ntmps107
    go_wp2_with fail
    go_ret
    exact ⟨by rw [HR.out]; rfl, by (repeat' (first | (with_reducible exact Below.refl _ _) | (with_reducible assumption) | (with_reducible refine Below.alloc ?_ ?_ _) | (with_reducible refine bel_drewN ?_ _) | (with_reducible refine Below.drew ?_) | (with_reducible refine Below.setCell ?_ ?_ _) | (with_reducible refine bel_call ‹_› ?_ ?_) | go_size))⟩
set_option maxRecDepth 100000 in
set_option maxHeartbeats 2000000 in
theorem r7col_any (c : Int) (w : World) : Calls Tryz.prog 108 #[.int .i64 c] w fun e w' => e = .returned (.string ⟨(colS c).toArray⟩) ∧ Below w.heap.size w w' := by
  by_cases h1 : c < 1
  · rw [show colS c = [] from by unfold colS; rw [if_pos (by omega)]]
    go_enter Tryz.func108, Tryz.ntmps108
    go_wp2_with fail
    go_ret
    exact ⟨rfl, by (repeat' (first | (with_reducible exact Below.refl _ _) | (with_reducible assumption) | (with_reducible refine Below.alloc ?_ ?_ _) | (with_reducible refine bel_drewN ?_ _) | (with_reducible refine Below.drew ?_) | (with_reducible refine Below.setCell ?_ ?_ _) | (with_reducible refine bel_call ‹_› ?_ ?_) | go_size))⟩
  · by_cases h2 : 702 < c
    · rw [show colS c = [] from by unfold colS; rw [if_pos (by omega)]]
      go_enter Tryz.func108, Tryz.ntmps108
      go_wp2_with fail
      go_ret
      exact ⟨rfl, by (repeat' (first | (with_reducible exact Below.refl _ _) | (with_reducible assumption) | (with_reducible refine Below.alloc ?_ ?_ _) | (with_reducible refine bel_drewN ?_ _) | (with_reducible refine Below.drew ?_) | (with_reducible refine Below.setCell ?_ ?_ _) | (with_reducible refine bel_call ‹_› ?_ ?_) | go_size))⟩
    · obtain ⟨n, rfl⟩ : ∃ n : Nat, c = (n : Int) := ⟨c.toNat, by omega⟩
      by_cases h3 : n ≤ 26
      · have h3' : (n : Int) ≤ 26 := by omega
        have h27 : (n : Int) < 27 := by omega
        rw [show colS (n : Int) = [UInt8.ofNat (64 + n)] from by unfold colS; rw [if_neg (by omega), if_pos h3', Int.toNat_natCast]]
        obtain ⟨x, hx⟩ : ∃ x, 64 + n = x := ⟨_, rfl⟩
        have g1 : 64 + (n : Int) = (x : Int) := by omega
        have g3 : IntKind.i64.wrap (x : Int) = (x : Int) := IntWalk.i64_in _ (by omega)
        have g4 : IntKind.u8.wrap (x : Int) = (x : Int) := IntWalk.u8_in _ (by omega)
        have hcv := conv_1 x w.heap.size (by omega) (w.alloc (.cells #[.int .u8 (x : Int)] 5)) (by go_simp)
        rw [hx]
        clear hx
        go_enter Tryz.func108, Tryz.ntmps108
        go_wp2_with fail
        go_ret
        exact ⟨rfl, by (repeat' (first | (with_reducible exact Below.refl _ _) | (with_reducible assumption) | (with_reducible refine Below.alloc ?_ ?_ _) | (with_reducible refine bel_drewN ?_ _) | (with_reducible refine Below.drew ?_) | (with_reducible refine Below.setCell ?_ ?_ _) | (with_reducible refine bel_call ‹_› ?_ ?_) | go_size))⟩
      · have h3' : ¬ (n : Int) ≤ 26 := by omega
        have h27 : ¬ (n : Int) < 27 := by omega
        rw [show colS (n : Int) = [UInt8.ofNat (64 + (n - 1) / 26), UInt8.ofNat (65 + (n - 1) % 26)] from by unfold colS; rw [if_neg (by omega), if_neg h3', Int.toNat_natCast]]
        obtain ⟨m, hm⟩ : ∃ m, n - 27 = m := ⟨_, rfl⟩
        obtain ⟨q, hq⟩ : ∃ q, m / 26 = q := ⟨_, rfl⟩
        obtain ⟨d, hd⟩ : ∃ d, m % 26 = d := ⟨_, rfl⟩
        rw [show (n - 1) / 26 = q + 1 from by omega, show (n - 1) % 26 = d from by omega]
        have g0 : (n : Int) - 27 = (m : Int) := by omega
        have g1 : (m : Int).tdiv 26 = (q : Int) := by rw [Int.tdiv_eq_ediv_of_nonneg (by omega)]; omega
        have g1' : (m : Int) / 26 = (q : Int) := by omega
        have g2 : (m : Int).tmod 26 = (d : Int) := by rw [Int.tmod_eq_emod_of_nonneg (by omega)]; omega
        have g2' : (m : Int) % 26 = (d : Int) := by omega
        obtain ⟨x, hx⟩ : ∃ x, 65 + q = x := ⟨_, rfl⟩
        obtain ⟨y, hy⟩ : ∃ y, 65 + d = y := ⟨_, rfl⟩
        have g3 : 65 + (q : Int) = (x : Int) := by omega
        have g4 : 65 + (d : Int) = (y : Int) := by omega
        have g5 : IntKind.i64.wrap (m : Int) = (m : Int) := IntWalk.i64_in _ (by omega)
        have g6 : IntKind.i64.wrap (q : Int) = (q : Int) := IntWalk.i64_in _ (by omega)
        have g8 : IntKind.i64.wrap (x : Int) = (x : Int) := IntWalk.i64_in _ (by omega)
        have g9 : IntKind.i64.wrap (y : Int) = (y : Int) := IntWalk.i64_in _ (by omega)
        have g10 : IntKind.u8.wrap (x : Int) = (x : Int) := IntWalk.u8_in _ (by omega)
        have g11 : IntKind.u8.wrap (y : Int) = (y : Int) := IntWalk.u8_in _ (by omega)
        have g12 : IntKind.i64.wrap (d : Int) = (d : Int) := IntWalk.i64_in _ (by omega)
        have hcv := conv_2 x y w.heap.size (w.alloc (.cells #[.int .u8 (x : Int), .int .u8 (y : Int)] 5)) (by go_simp) (by go_simp)
        rw [show 64 + (q + 1) = x from by omega, hy]
        clear hx hy hq hd hm
        go_enter Tryz.func108, Tryz.ntmps108
        go_wp2_with fail
        go_ret
        exact ⟨rfl, by (repeat' (first | (with_reducible exact Below.refl _ _) | (with_reducible assumption) | (with_reducible refine Below.alloc ?_ ?_ _) | (with_reducible refine bel_drewN ?_ _) | (with_reducible refine Below.drew ?_) | (with_reducible refine Below.setCell ?_ ?_ _) | (with_reducible refine bel_call ‹_› ?_ ?_) | go_size))⟩
set_option maxRecDepth 100000 in
set_option maxHeartbeats 2000000 in
theorem r7text_any (c r : Int) (w : World) : Calls Tryz.prog 80 #[.int .i64 c, .int .i64 r] w fun e w' => e = .returned (.string ⟨(cellS c r).toArray⟩) ∧ Below w.heap.size w w' := by
  have HR := Lib.hid (fun W => r7right_any c r W)
  have HC := Lib.hid (fun W => r7col_any c W)
  have HL1 := colS_len c
  cases hrt : rtC c r with
  | false =>
    rw [hrt] at HR
    rw [show cellS c r = [] from by unfold cellS; rw [hrt]; rfl]
    clear hrt
    go_enter Tryz.func80, Tryz.ntmps80
    go_wp2_with fail
    refine (HR.out _).mono ?_
    rintro e w1 ⟨rfl, hb⟩
    go_wp2_with fail
    go_ret
    exact ⟨rfl, hb⟩
  | true =>
    rw [hrt] at HR
    have hr : 1 ≤ r ∧ r ≤ 9999 := by unfold rtC at hrt; simp at hrt; omega
    have HD := Lib.hid (fun W => ref2Digits_any r (by omega) (by omega) W)
    rw [show sgL r = dcL r.toNat from by unfold sgL; rw [if_neg (by omega), List.nil_append, show r.natAbs = r.toNat from by omega]] at HD
    have HL2 := dcL_len r.toNat
    rw [show cellS c r = colS c ++ dcL r.toNat from by unfold cellS; rw [hrt]; rfl]
    clear hrt
    have hcat : (⟨(colS c).toArray⟩ : ByteArray) ++ ⟨(dcL r.toNat).toArray⟩ = ⟨(colS c ++ dcL r.toNat).toArray⟩ := cat2 _ _
    generalize colS c ++ dcL r.toNat = Z at hcat ⊢
    generalize colS c = X at *
    generalize dcL r.toNat = Y at *
    have hz1 : (⟨X.toArray⟩ : ByteArray).size ≤ 2 := by rw [Lib.size_eq]; exact HL1
    have hz2 : (⟨Y.toArray⟩ : ByteArray).size ≤ 16 := by rw [Lib.size_eq]; exact HL2
    have hop : ∀ W, (Op.stringOp .add ⟨X.toArray⟩ ⟨Y.toArray⟩).run Tryz.prog W = .ok (.string ⟨Z.toArray⟩) W := fun W => by rw [← hcat]; exact run_string_add_sum W _ _ (by omega)
    clear HL1 HL2
    go_enter Tryz.func80, Tryz.ntmps80
    go_wp2_with fail
    refine (HR.out _).mono ?_
    rintro e w1 ⟨rfl, hb⟩
    go_wp2_with fail
    refine (HC.out _).mono ?_
    rintro e w2 ⟨rfl, hb2⟩
    have hB2 : Hid (Below w.heap.size w w2) := bel_call hb2 hb hb.size
    clear hb hb2
    go_wp2_with fail
    refine (HD.out _).mono ?_
    rintro e w3 ⟨rfl, hb3⟩
    have hB3 : Hid (Below w.heap.size w w3) := bel_call hb3 hB2.out hB2.out.size
    clear hb3
    go_wp2_with fail
    go_ret
    exact ⟨by first | rfl | (rw [← hcat]; rfl), hB3.out⟩
theorem cC_in {k : Int} (h1 : -9223372036854775808 ≤ k) (h2 : k ≤ 9223372036854775807) : -9223372036854775808 ≤ cC k ∧ cC k ≤ 9223372036854775807 ∧ -9223372036854775808 ≤ cR k ∧ cR k ≤ 9223372036854775807 := by
  have a := Int.tmod_lt_of_pos k (show (0 : Int) < 10000 by omega)
  have b := Int.lt_tmod_of_pos k (show (0 : Int) < 10000 by omega)
  have e := Int.mul_tdiv_add_tmod k 10000
  unfold cC cR
  omega
end Go.Proofs.YtjklbbmgjjdalaaGreatDoor
