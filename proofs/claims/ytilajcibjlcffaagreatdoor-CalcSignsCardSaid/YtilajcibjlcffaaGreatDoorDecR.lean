/- Text of the document's answer: the walk. -/
import Derived.Test.YtilajcibjlcffaaGreatDoorDecQ
set_option linter.unusedSimpArgs false
set_option linter.unusedVariables false

namespace Go.Proofs.YtilajcibjlcffaaGreatDoor
open Go.RowKit

theorem refDigits_1 (p : Option Addr) (n cap : Nat) (x : Nat) (hn : n ≤ 200) (w : World) (hA : RdN w p n cap (digs x)) :
    Calls Tryz.prog 101 #[.slice p n cap, .int .i64 1] w fun e w' => e = .returned (.string ⟨(dgText x 1).toArray⟩) ∧ Below w.heap.size w w' := refDigits_any p n cap x 1 hn (by omega) w hA
theorem refDigits_6 (p : Option Addr) (n cap : Nat) (x : Nat) (hn : n ≤ 200) (w : World) (hA : RdN w p n cap (digs x)) :
    Calls Tryz.prog 101 #[.slice p n cap, .int .i64 6] w fun e w' => e = .returned (.string ⟨(dgText x 6).toArray⟩) ∧ Below w.heap.size w w' := refDigits_any p n cap x 6 hn (by omega) w hA

set_option maxRecDepth 100000 in
set_option maxHeartbeats 1000000 in
theorem refText_core (d : Int) (mi : Bool) (x q r : Nat) (P : List UInt8)
    (FA : Hid (∀ W, Calls Tryz.prog 56 #[.int .i64 d] W (RetI mi x W)))
    (LA : Hid ((digs x).length ≤ 20)) (LQ : Hid ((digs q).length ≤ 20)) (LR : Hid ((digs r).length ≤ 20)) (LQ18 : Hid (q ≤ 18446744073709551615)) (LR18 : Hid (r ≤ 18446744073709551615)) (LM : Hid ((digs 1000000).length ≤ 7))
    (OV : Hid (∀ (p : Option Addr) (n cap : Nat) (p2 : Option Addr) (n2 cap2 : Nat), n ≤ 400 → n2 ≤ 400 → ∀ W, RdN W p n cap (digs x) → RdN W p2 n2 cap2 (digs 1000000) → Calls Tryz.prog 100 #[.slice p n cap, .slice p2 n2 cap2] W (RetN2 q r W)))
    (hP : P = (if mi then [45] else []) ++ dgText q 1) (R : List UInt8) (hR : R = P ++ (if 0 < r then 46 :: Lib.trimRightB (dgText r 6) 48 else [])) (w : World) :
    Calls Tryz.prog 84 #[.int .i64 d] w fun e w' => e = .returned (.string ⟨R.toArray⟩) ∧ Below w.heap.size w w' := by
  have HR := Lib.hid hR
  clear hR
  go_enter Tryz.func84, Tryz.ntmps84
  go_wp2_with fail
  refine (FA.out _).mono ?_
  rintro e w1 ⟨p1, n1, c1, rfl, h1, hb1⟩
  have hs1 := hb1.size
  have hn1 : n1 ≤ 20 := by rw [← h1.len]; exact LA.out
  have H1 := Lib.hid h1
  clear h1
  go_wp2_with fail
  go_region_held3 (fun w' => w'.cell? ⟨w1.heap.size, 0, none⟩ = some (.bool mi) ∧ w'.cell? ⟨w1.heap.size, 1, none⟩ = some (.slice p1 n1 c1)) (first | (go_simp; done) | go_keep)
    (first
      | (go_at_call 87; refine (of_mill _).mono ?_; rintro e w2 ⟨p2, n2, c2, rfl, h2, hb2, hf2⟩; obtain ⟨hc2, hfz2, hz2⟩ := bcell hb2 (by first | (simp only [World.size_alloc, World.size_setCell, World.size_drew]; rfl) | rfl); have hn2 : n2 ≤ 7 := (by rw [← h2.len]; exact LM.out); have H2 := Lib.hid h2; clear h2 hf2)
      | (go_at_call 100; refine (OV.out p1 n1 c1 p2 n2 c2 (by omega) (by omega) _ (H1.out.below (by (repeat' (first | (with_reducible exact Below.refl _ _) | (with_reducible assumption) | (with_reducible refine Below.alloc ?_ ?_ _) | (with_reducible refine bel_drewN ?_ _) | (with_reducible refine Below.drew ?_) | (with_reducible refine Below.setCell ?_ ?_ _) | (with_reducible refine bel_call ‹_› ?_ ?_) | go_size)))) (H2.out.below (by (repeat' (first | (with_reducible exact Below.refl _ _) | (with_reducible assumption) | (with_reducible refine Below.alloc ?_ ?_ _) | (with_reducible refine bel_drewN ?_ _) | (with_reducible refine Below.drew ?_) | (with_reducible refine Below.setCell ?_ ?_ _) | (with_reducible refine bel_call ‹_› ?_ ?_) | go_size))))).mono ?_; rintro e w3 ⟨p3, n3, c3, p4, n4, c4, rfl, h3, h4, hb3, hf3, hf4⟩; obtain ⟨hc3, hfz3, hz3⟩ := bcell hb3 (by first | (simp only [World.size_alloc, World.size_setCell, World.size_drew]; rfl) | rfl); have hn3 : n3 ≤ 20 := (by rw [← h3.len]; exact LQ.out); have HL4 := Lib.hid h4.len; have H3 := Lib.hid h3; have H4 := Lib.hid h4; clear h3 h4 hf3 hf4))
  go_wp2_with fail
  refine (refDigits_1 p3 n3 c3 q (by omega) _ (H3.out.below (by (repeat' (first | (with_reducible exact Below.refl _ _) | (with_reducible assumption) | (with_reducible refine Below.alloc ?_ ?_ _) | (with_reducible refine bel_drewN ?_ _) | (with_reducible refine Below.drew ?_) | (with_reducible refine Below.setCell ?_ ?_ _) | (with_reducible refine bel_call ‹_› ?_ ?_) | go_size))))).mono ?_
  rintro e w5 ⟨rfl, hb5⟩
  obtain ⟨hc5, hfz5, hz5⟩ := bcell hb5 (by first | (simp only [World.size_alloc, World.size_setCell, World.size_drew]; rfl) | rfl)
  have hbw : Below w.heap.size w w5 := by (repeat' (first | (with_reducible exact Below.refl _ _) | (with_reducible assumption) | (with_reducible refine Below.alloc ?_ ?_ _) | (with_reducible refine bel_drewN ?_ _) | (with_reducible refine Below.drew ?_) | (with_reducible refine Below.setCell ?_ ?_ _) | (with_reducible refine bel_call ‹_› ?_ ?_) | go_size))
  have H45 := Lib.hid (H4.out.below (show Below w3.heap.size w3 w5 by (repeat' (first | (with_reducible exact Below.refl _ _) | (with_reducible assumption) | (with_reducible refine Below.alloc ?_ ?_ _) | (with_reducible refine bel_drewN ?_ _) | (with_reducible refine Below.drew ?_) | (with_reducible refine Below.setCell ?_ ?_ _) | (with_reducible refine bel_call ‹_› ?_ ?_) | go_size))))
  have hAl := dgText_len q 1 (LQ18.out) (by omega)
  obtain ⟨A, hA⟩ : ∃ A, dgText q 1 = A := ⟨_, rfl⟩
  rw [hA] at hP hAl
  rw [hA]
  have hz1 : (⟨A.toArray⟩ : ByteArray).size ≤ 120 := by rw [Lib.size_eq]; simpa using hAl
  have hz2 : (⟨#[45]⟩ : ByteArray).size = 1 := rfl
  have hPl : P.length ≤ 121 := by rw [hP]; cases mi <;> simp <;> omega
  have hcell : w5.cell? ⟨w1.heap.size, 0, none⟩ = some (.bool mi) := by go_simp
  clear hA
  rcases Nat.eq_zero_or_pos r with hr | hr
  · have hn4 : n4 = 0 := by rw [← HL4.out, hr, digs_zero]; rfl
    subst hn4
    obtain rfl : R = P := by rw [HR.out, if_neg (by omega), List.append_nil]
    cases mi
    · obtain rfl : R = A := hP
      go_wp2_with fail
      go_ret
      exact ⟨rfl, hbw⟩
    · have hcat : (⟨#[45]⟩ : ByteArray) ++ ⟨A.toArray⟩ = ⟨R.toArray⟩ := by rw [hP]; exact cat2 [45] A
      go_wp2_with fail
      go_ret
      exact ⟨by rw [hP]; rfl, hbw⟩
  · have hne : Hid (r ≠ 0) := by unfold Hid; omega
    have hn4 : 0 < n4 := by
      rw [← HL4.out]
      rcases Nat.eq_zero_or_pos (digs r).length with h | h
      · exact absurd (digs_nil.1 (List.eq_nil_of_length_eq_zero h)) hne.out
      · exact h
    have hn44 : n4 ≤ 20 := by rw [← HL4.out]; exact LR.out
    have hn4z : (((n4 : Nat) : Int) == 0) = false := by simp; omega
    obtain ⟨T, hT⟩ : ∃ T, dgText r 6 = T := ⟨_, rfl⟩
    obtain ⟨B, hB⟩ : ∃ B, Lib.trimRightB T 48 = B := ⟨_, rfl⟩
    obtain ⟨G, hG⟩ := trim_split T 48
    obtain ⟨C, y, hC, hy⟩ := trim_last T 48 (by rw [← hT]; exact dgText_some hne.out)
    have hTl := dgText_len r 6 LR18.out (by omega)
    rw [hT] at hTl
    rw [hB] at hG hC
    have hBl : B.length + G ≤ 120 := by
      rw [hG] at hTl
      simpa using hTl
    have HRR : Hid (R = P ++ 46 :: B) := by unfold Hid; rw [HR.out, if_pos hr, hT, hB]
    have HC := Lib.hid hC
    have HT := Lib.hid hT
    have HG := Lib.hid hG
    have hB1 : 1 ≤ B.length := by rw [hC]; simp
    have hy1 : ((y.toNat : Int) == 48) = false := by
      have : y.toNat ≠ 48 := fun e => hy (UInt8.toNat_inj.1 e)
      simp; omega
    clear hr hT hB hG hC hTl HR hy hne
    have fin : ∀ (W : World) (z : ByteArray), Hid (z = ⟨B.toArray⟩) → Below w.heap.size w W → (Ending.returned (Value.string (⟨P.toArray⟩ ++ ⟨#[46]⟩ ++ z)) = .returned (.string ⟨R.toArray⟩) ∧ Below w.heap.size w W) := fun W z hz h => ⟨by rw [hz.out, HRR.out]; exact congrArg (fun s => Ending.returned (Value.string s)) (show (⟨P.toArray⟩ : ByteArray) ++ ⟨[46].toArray⟩ ++ ⟨B.toArray⟩ = _ by rw [cat2, cat2]; simp), h⟩
    have HF := Lib.hid fin
    clear fin
    have hcat : (⟨#[45]⟩ : ByteArray) ++ ⟨A.toArray⟩ = ⟨([45] ++ A).toArray⟩ := cat2 [45] A
    cases mi
    all_goals
      simp only [Bool.false_eq_true, if_true, if_false, List.nil_append] at hP
      have HP := Lib.hid hP
      clear hP
      go_wp2_with fail
      refine (refDigits_6 p4 n4 c4 r (by omega) _ H45.out).mono ?_
      rintro e w6 ⟨rfl, hb6⟩
      obtain ⟨hc6, hfz6, hz6⟩ := bcell hb6 (by first | (simp only [World.size_alloc, World.size_setCell, World.size_drew]; rfl) | rfl)
      have hbw6 : Below w.heap.size w w6 := by (repeat' (first | (with_reducible exact Below.refl _ _) | (with_reducible assumption) | (with_reducible refine Below.alloc ?_ ?_ _) | (with_reducible refine bel_drewN ?_ _) | (with_reducible refine Below.drew ?_) | (with_reducible refine Below.setCell ?_ ?_ _) | (with_reducible refine bel_call ‹_› ?_ ?_) | go_size))
      rw [HT.out]
      go_wp2_with fail
      go_loopg [7] G (fun g v7 wr => wr = w6 ∧ g ≤ G ∧ ∃ s : ByteArray, v7 = .string s ∧ s = ⟨(B ++ List.replicate g 48).toArray⟩)
      case atStart => exact ⟨rfl, Nat.le_refl _, _, rfl, by rw [← HG.out]⟩
      case round =>
        obtain ⟨rfl, hgG, s, rfl, hs⟩ := hrel
        by_cases hk0 : gk = 0
        · subst hk0
          have hsC : s = ⟨(C ++ [y]).toArray⟩ := by rw [hs, ← HC.out]; simp
          have hz : s.size = C.length + 1 := by rw [hsC, Lib.size_eq]; simp
          have hlt : C.length < s.size := by omega
          have hby : (((s[C.length]'hlt).toNat : Int) == 48) = false := by
            subst hsC
            rw [← hy1]
            simp [ByteArray.getElem_eq_getElem_data]
          have HS : Hid (s = ⟨B.toArray⟩) := by unfold Hid; rw [hs]; simp
          have hz2 : s.size ≤ 120 := by rw [HS.out, Lib.size_eq]; simp; omega
          clear hs hsC
          go_wp2_with fail
          go_ret
          have h := HF.out _ s HS hbw6
          rw [HP.out] at h
          exact h
        · obtain ⟨j, rfl⟩ : ∃ j, gk = j + 1 := ⟨gk - 1, by omega⟩
          have hl : (B ++ List.replicate (j + 1) 48 : List UInt8) = B ++ List.replicate j 48 ++ [48] := by
            rw [List.replicate_succ', List.append_assoc]
          obtain ⟨D, hD⟩ : ∃ D, (B ++ List.replicate j 48 : List UInt8) = D := ⟨_, rfl⟩
          have hsD : s = ⟨(D ++ [48]).toArray⟩ := by rw [hs, hl, hD]
          have hz : s.size = D.length + 1 := by rw [hsD, Lib.size_eq]; simp
          have hDl : D.length ≤ 120 := by rw [← hD]; simp; omega
          have hlt : D.length < s.size := by omega
          have hby : (((s[D.length]'hlt).toNat : Int) == 48) = true := by
            subst hsD
            simp [ByteArray.getElem_eq_getElem_data]
          have hex : Hid (s.extract 0 D.length = ⟨(B ++ List.replicate j 48).toArray⟩) := by
            unfold Hid
            rw [hD, hsD]
            apply ByteArray.ext
            simp
          have hz2 : s.size ≤ 121 := by omega
          clear hs hsD hl hD hk0
          go_wp2
          go_roundg j
          case measure => omega
          case rel => exact ⟨rfl, by omega, _, rfl, hex.out⟩

theorem refText_any (d : Int) (hlo : -9223372036854775808 ≤ d) (hhi : d ≤ 9223372036854775807) (w : World) :
    Calls Tryz.prog 84 #[.int .i64 d] w fun e w' => e = .returned (.string ⟨(txt d).toArray⟩) ∧ Below w.heap.size w w' := by
  have hq : d.natAbs / 1000000 ≤ 9223372036854775808 := Nat.le_trans (Nat.div_le_self _ _) (by omega)
  have hr : d.natAbs % 1000000 < 1000000 := Nat.mod_lt _ (by omega)
  refine refText_core d (decide (d < 0)) d.natAbs (d.natAbs / 1000000) (d.natAbs % 1000000) _ (Lib.hid (fun W => from_any d hlo hhi W)) (Lib.hid (digs_length_le (by omega))) (Lib.hid (digs_length_le (by omega))) (Lib.hid (digs_length_le (by omega))) (Lib.hid (by omega)) (Lib.hid (by omega)) (Lib.hid (digs_length_le (by omega)))
    (Lib.hid fun p n cap p2 n2 cap2 h1 h2 W h3 h4 => over_any p n cap d.natAbs p2 n2 cap2 1000000 h1 h2 (by omega) W h3 h4) rfl (txt d) ?_ w
  unfold txt
  simp only [decide_eq_true_eq]
end Go.Proofs.YtilajcibjlcffaaGreatDoor
