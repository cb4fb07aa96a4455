/- Text of the document's answer: the walk. Trees: the document's Quote and holds. Printed by gen_trexc.py. Trees: the document's Print: leaves. Printed by gen_trexc.py. -/
import Derived.Test.YtigmcoelkkihkaaGreatDoorPmU
import Derived.Deep.CutBlock
set_option linter.unusedSimpArgs false
set_option linter.unusedVariables false
namespace Go.Proofs.YtigmcoelkkihkaaGreatDoor
open Go.RowKit

theorem refDigits_1 (p : Option Addr) (n cap : Nat) (x : Nat) (hn : n ≤ 200) (w : World) (hA : RdN w p n cap (digs x)) :
    Calls Tryz.prog 81 #[.slice p n cap, .int .i64 1] w fun e w' => e = .returned (.string ⟨(dgText x 1).toArray⟩) ∧ Below w.heap.size w w' := refDigits_any p n cap x 1 hn (by omega) w hA
theorem refDigits_6 (p : Option Addr) (n cap : Nat) (x : Nat) (hn : n ≤ 200) (w : World) (hA : RdN w p n cap (digs x)) :
    Calls Tryz.prog 81 #[.slice p n cap, .int .i64 6] w fun e w' => e = .returned (.string ⟨(dgText x 6).toArray⟩) ∧ Below w.heap.size w w' := refDigits_any p n cap x 6 hn (by omega) w hA

set_option maxRecDepth 100000 in
set_option maxHeartbeats 1000000 in
theorem refText_core (d : Int) (mi : Bool) (x q r : Nat) (P : List UInt8)
    (FA : Hid (∀ W, Calls Tryz.prog 78 #[.int .i64 d] W (RetI mi x W)))
    (LA : Hid ((digs x).length ≤ 20)) (LQ : Hid ((digs q).length ≤ 20)) (LR : Hid ((digs r).length ≤ 20)) (LQ18 : Hid (q ≤ 18446744073709551615)) (LR18 : Hid (r ≤ 18446744073709551615)) (LM : Hid ((digs 1000000).length ≤ 7))
    (OV : Hid (∀ (p : Option Addr) (n cap : Nat) (p2 : Option Addr) (n2 cap2 : Nat), n ≤ 400 → n2 ≤ 400 → ∀ W, RdN W p n cap (digs x) → RdN W p2 n2 cap2 (digs 1000000) → Calls Tryz.prog 79 #[.slice p n cap, .slice p2 n2 cap2] W (RetN2 q r W)))
    (hP : P = (if mi then [45] else []) ++ dgText q 1) (R : List UInt8) (hR : R = P ++ (if 0 < r then 46 :: Lib.trimRightB (dgText r 6) 48 else [])) (w : World) :
    Calls Tryz.prog 48 #[.int .i64 d] w fun e w' => e = .returned (.string ⟨R.toArray⟩) ∧ Below w.heap.size w w' := by
  have HR := Lib.hid hR
  clear hR
  go_enter Tryz.func48, Tryz.ntmps48
  go_wp2_with fail
  refine (FA.out _).mono ?_
  rintro e w1 ⟨p1, n1, c1, rfl, h1, hb1⟩
  have hs1 := hb1.size
  have hn1 : n1 ≤ 20 := by rw [← h1.len]; exact LA.out
  have H1 := Lib.hid h1
  clear h1
  go_wp2_with fail
  go_region_held3 (fun w' => w'.cell? ⟨w1.heap.size, 0, none⟩ = some (.bool mi) ∧ w'.cell? ⟨w1.heap.size, 1, none⟩ = some (.slice p1 n1 c1)) (first | (go_simp; done) | go_keep)
    (first
      | (go_at_call 80; refine (of_mill _).mono ?_; rintro e w2 ⟨p2, n2, c2, rfl, h2, hb2, hf2⟩; obtain ⟨hc2, hfz2, hz2⟩ := bcell hb2 (by first | (simp only [World.size_alloc, World.size_setCell, World.size_drew]; rfl) | rfl); have hn2 : n2 ≤ 7 := (by rw [← h2.len]; exact LM.out); have H2 := Lib.hid h2; clear h2 hf2)
      | (go_at_call 79; refine (OV.out p1 n1 c1 p2 n2 c2 (by omega) (by omega) _ (H1.out.below (by (repeat' (first | (with_reducible exact Below.refl _ _) | (with_reducible assumption) | (with_reducible refine Below.alloc ?_ ?_ _) | (with_reducible refine bel_drewN ?_ _) | (with_reducible refine Below.drew ?_) | (with_reducible refine Below.setCell ?_ ?_ _) | (with_reducible refine bel_call ‹_› ?_ ?_) | go_size)))) (H2.out.below (by (repeat' (first | (with_reducible exact Below.refl _ _) | (with_reducible assumption) | (with_reducible refine Below.alloc ?_ ?_ _) | (with_reducible refine bel_drewN ?_ _) | (with_reducible refine Below.drew ?_) | (with_reducible refine Below.setCell ?_ ?_ _) | (with_reducible refine bel_call ‹_› ?_ ?_) | go_size))))).mono ?_; rintro e w3 ⟨p3, n3, c3, p4, n4, c4, rfl, h3, h4, hb3, hf3, hf4⟩; obtain ⟨hc3, hfz3, hz3⟩ := bcell hb3 (by first | (simp only [World.size_alloc, World.size_setCell, World.size_drew]; rfl) | rfl); have hn3 : n3 ≤ 20 := (by rw [← h3.len]; exact LQ.out); have HL4 := Lib.hid h4.len; have H3 := Lib.hid h3; have H4 := Lib.hid h4; clear h3 h4 hf3 hf4))
  go_wp2_with fail
  refine (refDigits_1 p3 n3 c3 q (by omega) _ (H3.out.below (by (repeat' (first | (with_reducible exact Below.refl _ _) | (with_reducible assumption) | (with_reducible refine Below.alloc ?_ ?_ _) | (with_reducible refine bel_drewN ?_ _) | (with_reducible refine Below.drew ?_) | (with_reducible refine Below.setCell ?_ ?_ _) | (with_reducible refine bel_call ‹_› ?_ ?_) | go_size))))).mono ?_
  rintro e w5 ⟨rfl, hb5⟩
  obtain ⟨hc5, hfz5, hz5⟩ := bcell hb5 (by first | (simp only [World.size_alloc, World.size_setCell, World.size_drew]; rfl) | rfl)
  have hbw : Below w.heap.size w w5 := by (repeat' (first | (with_reducible exact Below.refl _ _) | (with_reducible assumption) | (with_reducible refine Below.alloc ?_ ?_ _) | (with_reducible refine bel_drewN ?_ _) | (with_reducible refine Below.drew ?_) | (with_reducible refine Below.setCell ?_ ?_ _) | (with_reducible refine bel_call ‹_› ?_ ?_) | go_size))
  have H45 := Lib.hid (H4.out.below (show Below w3.heap.size w3 w5 by (repeat' (first | (with_reducible exact Below.refl _ _) | (with_reducible assumption) | (with_reducible refine Below.alloc ?_ ?_ _) | (with_reducible refine bel_drewN ?_ _) | (with_reducible refine Below.drew ?_) | (with_reducible refine Below.setCell ?_ ?_ _) | (with_reducible refine bel_call ‹_› ?_ ?_) | go_size))))
  have hAl := dgText_len q 1 (LQ18.out) (by omega)
  obtain ⟨A, hA⟩ : ∃ A, dgText q 1 = A := ⟨_, rfl⟩
  rw [hA] at hP hAl
  rw [hA]
  have hz1 : (⟨A.toArray⟩ : ByteArray).size ≤ 120 := by rw [Lib.size_eq]; simpa using hAl
  have hz2 : (⟨#[45]⟩ : ByteArray).size = 1 := rfl
  have hPl : P.length ≤ 121 := by rw [hP]; cases mi <;> simp <;> omega
  have hcell : w5.cell? ⟨w1.heap.size, 0, none⟩ = some (.bool mi) := by go_simp
  clear hA
  rcases Nat.eq_zero_or_pos r with hr | hr
  · have hn4 : n4 = 0 := by rw [← HL4.out, hr, digs_zero]; rfl
    subst hn4
    obtain rfl : R = P := by rw [HR.out, if_neg (by omega), List.append_nil]
    cases mi
    · obtain rfl : R = A := hP
      go_wp2_with fail
      go_ret
      exact ⟨rfl, hbw⟩
    · have hcat : (⟨#[45]⟩ : ByteArray) ++ ⟨A.toArray⟩ = ⟨R.toArray⟩ := by rw [hP]; exact cat2 [45] A
      go_wp2_with fail
      go_ret
      exact ⟨by rw [hP]; rfl, hbw⟩
  · have hne : Hid (r ≠ 0) := by unfold Hid; omega
    have hn4 : 0 < n4 := by
      rw [← HL4.out]
      rcases Nat.eq_zero_or_pos (digs r).length with h | h
      · exact absurd (digs_nil.1 (List.eq_nil_of_length_eq_zero h)) hne.out
      · exact h
    have hn44 : n4 ≤ 20 := by rw [← HL4.out]; exact LR.out
    have hn4z : (((n4 : Nat) : Int) == 0) = false := by simp; omega
    obtain ⟨T, hT⟩ : ∃ T, dgText r 6 = T := ⟨_, rfl⟩
    obtain ⟨B, hB⟩ : ∃ B, Lib.trimRightB T 48 = B := ⟨_, rfl⟩
    obtain ⟨G, hG⟩ := trim_split T 48
    obtain ⟨C, y, hC, hy⟩ := trim_last T 48 (by rw [← hT]; exact dgText_some hne.out)
    have hTl := dgText_len r 6 LR18.out (by omega)
    rw [hT] at hTl
    rw [hB] at hG hC
    have hBl : B.length + G ≤ 120 := by
      rw [hG] at hTl
      simpa using hTl
    have HRR : Hid (R = P ++ 46 :: B) := by unfold Hid; rw [HR.out, if_pos hr, hT, hB]
    have HC := Lib.hid hC
    have HT := Lib.hid hT
    have HG := Lib.hid hG
    have hB1 : 1 ≤ B.length := by rw [hC]; simp
    have hy1 : ((y.toNat : Int) == 48) = false := by
      have : y.toNat ≠ 48 := fun e => hy (UInt8.toNat_inj.1 e)
      simp; omega
    clear hr hT hB hG hC hTl HR hy hne
    have fin : ∀ (W : World) (z : ByteArray), Hid (z = ⟨B.toArray⟩) → Below w.heap.size w W → (Ending.returned (Value.string (⟨P.toArray⟩ ++ ⟨#[46]⟩ ++ z)) = .returned (.string ⟨R.toArray⟩) ∧ Below w.heap.size w W) := fun W z hz h => ⟨by rw [hz.out, HRR.out]; exact congrArg (fun s => Ending.returned (Value.string s)) (show (⟨P.toArray⟩ : ByteArray) ++ ⟨[46].toArray⟩ ++ ⟨B.toArray⟩ = _ by rw [cat2, cat2]; simp), h⟩
    have HF := Lib.hid fin
    clear fin
    have hcat : (⟨#[45]⟩ : ByteArray) ++ ⟨A.toArray⟩ = ⟨([45] ++ A).toArray⟩ := cat2 [45] A
    cases mi
    all_goals
      simp only [Bool.false_eq_true, if_true, if_false, List.nil_append] at hP
      have HP := Lib.hid hP
      clear hP
      go_wp2_with fail
      refine (refDigits_6 p4 n4 c4 r (by omega) _ H45.out).mono ?_
      rintro e w6 ⟨rfl, hb6⟩
      obtain ⟨hc6, hfz6, hz6⟩ := bcell hb6 (by first | (simp only [World.size_alloc, World.size_setCell, World.size_drew]; rfl) | rfl)
      have hbw6 : Below w.heap.size w w6 := by (repeat' (first | (with_reducible exact Below.refl _ _) | (with_reducible assumption) | (with_reducible refine Below.alloc ?_ ?_ _) | (with_reducible refine bel_drewN ?_ _) | (with_reducible refine Below.drew ?_) | (with_reducible refine Below.setCell ?_ ?_ _) | (with_reducible refine bel_call ‹_› ?_ ?_) | go_size))
      rw [HT.out]
      go_wp2_with fail
      go_loopg [7] G (fun g v7 wr => wr = w6 ∧ g ≤ G ∧ ∃ s : ByteArray, v7 = .string s ∧ s = ⟨(B ++ List.replicate g 48).toArray⟩)
      case atStart => exact ⟨rfl, Nat.le_refl _, _, rfl, by rw [← HG.out]⟩
      case round =>
        obtain ⟨rfl, hgG, s, rfl, hs⟩ := hrel
        by_cases hk0 : gk = 0
        · subst hk0
          have hsC : s = ⟨(C ++ [y]).toArray⟩ := by rw [hs, ← HC.out]; simp
          have hz : s.size = C.length + 1 := by rw [hsC, Lib.size_eq]; simp
          have hlt : C.length < s.size := by omega
          have hby : (((s[C.length]'hlt).toNat : Int) == 48) = false := by
            subst hsC
            rw [← hy1]
            simp [ByteArray.getElem_eq_getElem_data]
          have HS : Hid (s = ⟨B.toArray⟩) := by unfold Hid; rw [hs]; simp
          have hz2 : s.size ≤ 120 := by rw [HS.out, Lib.size_eq]; simp; omega
          clear hs hsC
          go_wp2_with fail
          go_ret
          have h := HF.out _ s HS hbw6
          rw [HP.out] at h
          exact h
        · obtain ⟨j, rfl⟩ : ∃ j, gk = j + 1 := ⟨gk - 1, by omega⟩
          have hl : (B ++ List.replicate (j + 1) 48 : List UInt8) = B ++ List.replicate j 48 ++ [48] := by
            rw [List.replicate_succ', List.append_assoc]
          obtain ⟨D, hD⟩ : ∃ D, (B ++ List.replicate j 48 : List UInt8) = D := ⟨_, rfl⟩
          have hsD : s = ⟨(D ++ [48]).toArray⟩ := by rw [hs, hl, hD]
          have hz : s.size = D.length + 1 := by rw [hsD, Lib.size_eq]; simp
          have hDl : D.length ≤ 120 := by rw [← hD]; simp; omega
          have hlt : D.length < s.size := by omega
          have hby : (((s[D.length]'hlt).toNat : Int) == 48) = true := by
            subst hsD
            simp [ByteArray.getElem_eq_getElem_data]
          have hex : Hid (s.extract 0 D.length = ⟨(B ++ List.replicate j 48).toArray⟩) := by
            unfold Hid
            rw [hD, hsD]
            apply ByteArray.ext
            simp
          have hz2 : s.size ≤ 121 := by omega
          clear hs hsD hl hD hk0
          go_wp2
          go_roundg j
          case measure => omega
          case rel => exact ⟨rfl, by omega, _, rfl, hex.out⟩

theorem refText_any (d : Int) (hlo : -9223372036854775808 ≤ d) (hhi : d ≤ 9223372036854775807) (w : World) :
    Calls Tryz.prog 48 #[.int .i64 d] w fun e w' => e = .returned (.string ⟨(txt d).toArray⟩) ∧ Below w.heap.size w w' := by
  have hq : d.natAbs / 1000000 ≤ 9223372036854775808 := Nat.le_trans (Nat.div_le_self _ _) (by omega)
  have hr : d.natAbs % 1000000 < 1000000 := Nat.mod_lt _ (by omega)
  refine refText_core d (decide (d < 0)) d.natAbs (d.natAbs / 1000000) (d.natAbs % 1000000) _ (Lib.hid (fun W => from_any d hlo hhi W)) (Lib.hid (digs_length_le (by omega))) (Lib.hid (digs_length_le (by omega))) (Lib.hid (digs_length_le (by omega))) (Lib.hid (by omega)) (Lib.hid (by omega)) (Lib.hid (digs_length_le (by omega)))
    (Lib.hid fun p n cap p2 n2 cap2 h1 h2 W h3 h4 => over_any p n cap d.natAbs p2 n2 cap2 1000000 h1 h2 (by omega) W h3 h4) rfl (txt d) ?_ w
  unfold txt
  simp only [decide_eq_true_eq]
end Go.Proofs.YtigmcoelkkihkaaGreatDoor
namespace Go.Proofs.YtigmcoelkkihkaaGreatDoor
open Go.RowKit Go.Joins

def nx (L : List UInt8) (i : Nat) : Nat := (L.getD i 0).toNat
theorem nx_lt (L : List UInt8) (i : Nat) : nx L i < 256 := (L.getD i 0).toNat_lt
theorem nx_get {L : List UInt8} {i : Nat} (h : i < L.length) : nx L i = L[i].toNat := by simp [nx, List.getD, h]
theorem nx_str (s : ByteArray) (i : Nat) (h : i < s.size) : ((s[i].toNat : Nat) : Int) = (nx s.data.toList i : Int) := by
  have hl : i < s.data.toList.length := by rw [← Lib.size_eq]; exact h
  rw [nx_get hl]
  simp [ByteArray.getElem_eq_getElem_data]
theorem u8_eta (c : UInt8) : UInt8.ofNat c.toNat = c := by simp
theorem ext_one (s : ByteArray) (j : Nat) (h : j < s.size) : s.extract j (j + 1) = ⟨[UInt8.ofNat (nx s.data.toList j)].toArray⟩ := by
  have hl : j < s.data.toList.length := by rw [← Lib.size_eq]; exact h
  rw [nx_get hl, u8_eta]
  apply ByteArray.ext
  apply Array.ext'
  rw [ByteArray.data_extract, Array.toList_extract, List.extract_eq_take_drop, List.drop_eq_getElem_cons hl, show j + 1 - j = 1 by omega]
  rfl
theorem size_of (X : List UInt8) : (⟨X.toArray⟩ : ByteArray).size = X.length := by rw [Lib.size_eq]
theorem dblT_snoc : ∀ (l : List UInt8) (c : UInt8), dblT (l ++ [c]) = dblT l ++ (if c = 34 then [34, 34] else [c])
  | [], c => by
    show dblT [c] = _
    unfold dblT
    split <;> rfl
  | d :: r, c => by
    show dblT (d :: (r ++ [c])) = _
    unfold dblT
    rw [dblT_snoc r c]
    split <;> rfl

set_option maxRecDepth 100000 in
set_option maxHeartbeats 2000000 in
theorem refQuote_any (s : ByteArray) (hs : s.size ≤ 1100000) (w : World) :
    Calls Tryz.prog 49 #[.string s] w fun e w' => e = .returned (.string ⟨(quoT s.data.toList).toArray⟩) ∧ w = w' := by
  go_enter Tryz.func49, Tryz.ntmps49
  go_wp2_with fail
  go_loop [3, 4] (fun t v => ∃ (k : Nat) (x : ByteArray), v = .int .i64 k ∧ t = .string x ∧ k ≤ s.size ∧ x = ⟨(34 :: dblT (s.data.toList.take k)).toArray⟩) (fun _ v => s.size - (intOf v).toNat)
  case atStart => exact ⟨0, _, rfl, rfl, by omega, rfl⟩
  case round =>
    obtain ⟨k, x, rfl, rfl, hk, hx⟩ := hrel
    have hxs : x.size ≤ 3300000 := by
      rw [hx, size_of]
      have h1 := dblT_len (s.data.toList.take k)
      have h2 : (s.data.toList.take k).length ≤ k := List.length_take_le _ _
      simp
      omega
    have HX := Lib.hid hx
    clear hx
    have hz2 : (⟨#[34]⟩ : ByteArray).size = 1 := rfl
    rcases Nat.lt_or_ge k s.size with hlt | hge
    · have hlt' : k < s.data.toList.length := by rw [← Lib.size_eq]; exact hlt
      obtain ⟨c, hc⟩ : ∃ c, nx s.data.toList k = c := ⟨_, rfl⟩
      have hb1 := nx_str s k hlt
      rw [hc] at hb1
      have hx1 := ext_one s k hlt
      rw [hc] at hx1
      have hz3 : (s.extract k (k + 1)).size = 1 := by rw [hx1]; rfl
      have hts : s.data.toList.take (k + 1) = s.data.toList.take k ++ [UInt8.ofNat c] := by
        rw [List.take_succ_eq_append_getElem hlt', ← hc, nx_get hlt', u8_eta]
      by_cases h34 : c = 34
      · have e1 : (((s[k].toNat : Nat) : Int) == 34) = true := by rw [hb1, h34]; rfl
        have HN : Hid (x ++ ⟨#[34]⟩ ++ s.extract k (k + 1) = ⟨(34 :: dblT (s.data.toList.take (k + 1))).toArray⟩) := by
          unfold Hid
          rw [HX.out, hx1, show (⟨#[34]⟩ : ByteArray) = ⟨[34].toArray⟩ from rfl, cat2, cat2, hts, dblT_snoc, h34]
          rw [if_pos (by decide)]
          simp
          try decide
        have hz4 : (x ++ ⟨#[34]⟩).size ≤ 3300001 := by rw [HX.out, show (⟨#[34]⟩ : ByteArray) = ⟨[34].toArray⟩ from rfl, cat2, size_of]; have h := hxs; rw [HX.out, size_of] at h; simp at h ⊢; omega
        clear hc hb1 h34 hx1 hts
        go_wp2_with fail
        go_round
        case rel => exact ⟨k + 1, _, by go_num, rfl, by omega, HN.out⟩
        case measure => simp [intOf]; omega
      · have e1 : (((s[k].toNat : Nat) : Int) == 34) = false := by rw [hb1]; simp; omega
        have hc256 : c < 256 := by rw [← hc]; exact nx_lt _ _
        have HN : Hid (x ++ s.extract k (k + 1) = ⟨(34 :: dblT (s.data.toList.take (k + 1))).toArray⟩) := by
          unfold Hid
          rw [HX.out, hx1, cat2, hts, dblT_snoc, if_neg]
          · simp
          · intro e
            have := congrArg UInt8.toNat e
            simp at this
            omega
        clear hc hb1 h34 hx1 hts
        go_wp2_with fail
        go_round
        case rel => exact ⟨k + 1, _, by go_num, rfl, by omega, HN.out⟩
        case measure => simp [intOf]; omega
    · have HN : Hid (x ++ ⟨#[34]⟩ = ⟨(quoT s.data.toList).toArray⟩) := by
        unfold Hid quoT
        rw [HX.out, List.take_of_length_le (by rw [← Lib.size_eq]; exact hge), show (⟨#[34]⟩ : ByteArray) = ⟨[34].toArray⟩ from rfl, cat2]
        simp
      go_wp2_with fail
      go_ret
      exact ⟨by rw [← HN.out]; rfl, rfl⟩


set_option maxRecDepth 100000 in
set_option maxHeartbeats 2000000 in
theorem holds_any (n : Nd) (p : Option Addr) (len cap : Nat) (w : World) : Calls Tryz.prog 50 #[.agg (ndA n p len cap)] w fun e w' => e = .returned (.int .i64 (hdS n.kind n.text)) ∧ Below w.heap.size w w' := by
  have hA0 : Hid (NdB tRn (w.alloc (.cells (ndA n p len cap) tRn)) w.heap.size n p len cap) := heap_alloc_new w _
  have hAB : Hid (Below w.heap.size w (w.alloc (.cells (ndA n p len cap) tRn))) := by unfold Hid; (repeat' (first | (with_reducible exact Below.refl _ _) | (with_reducible assumption) | (with_reducible refine Below.alloc ?_ ?_ _) | (with_reducible refine bel_drewN ?_ _) | (with_reducible refine Below.drew ?_) | (with_reducible refine Below.setCell ?_ ?_ _) | (with_reducible refine bel_call ‹_› ?_ ?_) | go_size))
  have HLV := Lib.hid (fun W => rlevel_any ⟨n.text.toArray⟩ W)
  rw [show (⟨n.text.toArray⟩ : ByteArray).data.toList = n.text from rfl] at HLV
  obtain ⟨O, hO⟩ : ∃ O, hdS n.kind n.text = O := ⟨_, rfl⟩
  have HO : Hid (O = if n.kind = 6 then lvS n.text else if n.kind = 5 then 5 else 6) := by unfold Hid; rw [← hO]; rfl
  rw [hO]
  clear hO
  generalize lvS n.text = lv at HLV HO
  rw [ndA_eq]
  go_enter Tryz.func50, Tryz.ntmps50
  go_upto_region 1 with fail
  have e0 : w.alloc (.cells #[.int .i64 n.kind, .int .i64 n.num, .string ⟨n.text.toArray⟩, .int .i64 n.frm, .int .i64 n.tor, .slice p len cap] tRn) = w.alloc (.cells (ndA n p len cap) tRn) := rfl
  rw [e0]
  clear e0
  generalize w.alloc (.cells (ndA n p len cap) tRn) = w0 at hA0 hAB ⊢
  obtain ⟨c0, c1, c2, c3, c4, c5⟩ := hA0.out.cells
  by_cases h6 : n.kind = 6
  · rw [h6] at c0
    go_wp2_with fail
    refine (HLV.out _).mono ?_
    rintro e w3 ⟨rfl, hb3⟩
    have hB3 := bel_call hb3 hAB.out hAB.out.size
    go_wp2_with fail
    go_ret
    exact ⟨by rw [HO.out, if_pos h6]; rfl, hB3⟩
  · by_cases h5 : n.kind = 5
    · rw [h5] at c0
      go_wp2_with fail
      go_ret
      exact ⟨by rw [HO.out, if_neg h6, if_pos h5]; rfl, hAB.out⟩
    · go_wp2_with fail
      go_ret
      exact ⟨by rw [HO.out, if_neg h6, if_neg h5]; rfl, hAB.out⟩
end Go.Proofs.YtigmcoelkkihkaaGreatDoor
namespace Go.Proofs.YtigmcoelkkihkaaGreatDoor
open Go.RowKit Go.Joins

/-- What stands within a node's brackets. -/
def bdN (n : Nd) : Bs := prB nmS n.kind n.num n.text n.frm n.tor (prAt nmS n.args 0 5) (prAt nmS n.args 0 (lvS n.text)) (prAt nmS n.args 1 (lvS n.text + 1)) (prT nmS n.args)
theorem prN_bd (n : Nd) (least : Int) : prN nmS n least = if hdS n.kind n.text < least then 40 :: (bdN n ++ [41]) else bdN n := by cases n; rw [prN]; rfl
theorem bdN_len (n : Nd) (hok : OkN n) : (bdN n).length ≤ wtN n := by
  have h := prN_len nmS_len txt_lenT n hok 0
  have h0 : ¬ hdS n.kind n.text < 0 := by
    have := lvS_lo n.text
    unfold hdS
    split
    · omega
    · split <;> omega
  rw [prN_bd, if_neg h0] at h
  exact h
theorem nmN_kind (n : Nd) : (nmN nmS n).kind = n.kind := by cases n; rw [nmN]; rfl
theorem nmN_num (n : Nd) : (nmN nmS n).num = n.num := by cases n; rw [nmN]; rfl
theorem nmN_args (n : Nd) : (nmN nmS n).args = nmL nmS n.args := by cases n; rw [nmN]; rfl
theorem nmN_text (n : Nd) : (nmN nmS n).text = if n.kind = 3 then nmS n.frm else if n.kind = 4 then nmS n.frm ++ 58 :: nmS n.tor else n.text := by cases n; rw [nmN]; rfl
theorem nmN_holds (n : Nd) : hdS (nmN nmS n).kind (nmN nmS n).text = hdS n.kind n.text := by
  rw [nmN_kind, nmN_text]
  unfold hdS
  split
  · rw [if_neg (by omega), if_neg (by omega)]
  · rfl
theorem nmL_get : ∀ (a : List Nd) (i : Nat), (nmL nmS a)[i]? = a[i]?.map (nmN nmS)
  | [], i => by rw [nmL]; simp
  | c :: r, 0 => by rw [nmL]; simp
  | c :: r, i + 1 => by rw [nmL]; simpa using nmL_get r i
theorem nmL_len : ∀ a : List Nd, (nmL nmS a).length = a.length
  | [] => by rw [nmL]
  | c :: r => by rw [nmL, List.length_cons, List.length_cons, nmL_len r]
def RPrintC (q : Nd → Prop) (d : Nat) : Prop := ∀ (n : Nd) (p : Option Addr) (len cap : Nat) (least lv : Int) (w : World), q n → RdT w w.heap.size d (nmN nmS n) p len → OkN n → rtN n lv = true → 0 ≤ least → least ≤ 5 → wtN n ≤ 2200000 →
    Calls Tryz.prog 27 #[.agg (ndA (nmN nmS n) p len cap), .int .i64 least] w fun e w' => e = .returned (.string ⟨(prN nmS n least).toArray⟩) ∧ Below w.heap.size w w'

set_option maxRecDepth 100000 in
set_option maxHeartbeats 8000000 in
theorem rprint_1 (d : Nat) : RPrintC (fun n => n.kind = 1) d := by
  intro n p len cap least lv w hq hrd hok hrt hl0 hl1 hwt
  have hk : n.kind = 1 := hq
  have hA0 : Hid (NdB tRn (w.alloc (.cells (ndA (nmN nmS n) p len cap) tRn)) w.heap.size (nmN nmS n) p len cap) := heap_alloc_new w _
  have hAB : Hid (Below w.heap.size w (w.alloc (.cells (ndA (nmN nmS n) p len cap) tRn))) := by unfold Hid; (repeat' (first | (with_reducible exact Below.refl _ _) | (with_reducible assumption) | (with_reducible refine Below.alloc ?_ ?_ _) | (with_reducible refine bel_drewN ?_ _) | (with_reducible refine Below.drew ?_) | (with_reducible refine Below.setCell ?_ ?_ _) | (with_reducible refine bel_call ‹_› ?_ ?_) | go_size))
  have HHO := Lib.hid (fun W => holds_any (nmN nmS n) p len cap W)
  rw [nmN_holds] at HHO
  rw [prN_bd]
  have hbl := bdN_len n hok
  have HKM : Hid ((nmN nmS n).kind = n.kind) := nmN_kind n
  rw [hk] at HKM
  have HBD : Hid (bdN n = txt (nmN nmS n).num) := by unfold Hid bdN prB; rw [nmN_num]; rw [hk]; simp
  have HT := Lib.hid (fun W => refText_any n.num hok.num.1 hok.num.2 W)
  rw [← nmN_num] at HT
  obtain ⟨X, hX⟩ : ∃ X, bdN n = X := ⟨_, rfl⟩
  have HX := Lib.hid hX
  rw [hX] at hbl ⊢
  clear hX
  obtain ⟨h, hh⟩ : ∃ h, hdS n.kind n.text = h := ⟨_, rfl⟩
  rw [hh] at HHO ⊢
  clear hh
  generalize nmN nmS n = m at *
  rw [ndA_eq] at HHO ⊢
  go_enter Tryz.func27, Tryz.ntmps27
  go_upto_region 1 with fail
  have e0 : w.alloc (.cells #[.int .i64 m.kind, .int .i64 m.num, .string ⟨m.text.toArray⟩, .int .i64 m.frm, .int .i64 m.tor, .slice p len cap] tRn) = w.alloc (.cells (ndA m p len cap) tRn) := rfl
  rw [e0]
  clear e0
  generalize w.alloc (.cells (ndA m p len cap) tRn) = w0 at hA0 hAB ⊢
  have hXs : (⟨X.toArray⟩ : ByteArray).size ≤ 2200000 := by rw [Lib.size_eq]; exact Nat.le_trans hbl hwt
  obtain ⟨c0, c1, c2, c3, c4, c5⟩ := hA0.out.cells
  rw [HKM.out] at c0
  go_upto_block 0 with fail
  go_cut [5] (fun v wx => v = .string ⟨X.toArray⟩ ∧ Below w.heap.size w wx ∧ NdB tRn wx w.heap.size m p len cap)
  case first =>
    go_wp2_with fail
    refine (HT.out _).mono ?_
    rintro e w1 ⟨rfl, hb⟩
    have hB1 : Hid (Below w.heap.size w w1) := bel_call hb hAB.out hAB.out.size
    have hN1 := Lib.hid (hA0.out.below hb)
    clear hb c0 c1 c2 c3 c4 c5 hA0 hAB HT HHO
    go_wp2_with fail
    go_meet
    exact ⟨by rw [← HX.out, HBD.out], hB1.out, hN1.out⟩
  case rest =>
    obtain ⟨hv, hB, hN⟩ := hcut
    subst hv
    have hBw := Lib.hid hB
    have hNw := Lib.hid hN
    clear hB hN hA0 hAB HX HKM c0 c1 c2 c3 c4 c5
    obtain ⟨c0, c1, c2, c3, c4, c5⟩ := hNw.out.cells
    have z1 : (⟨#[40]⟩ : ByteArray).size = 1 := rfl
    have z2 : (⟨#[41]⟩ : ByteArray).size = 1 := rfl
    have h1 : (⟨#[40]⟩ : ByteArray) ++ ⟨X.toArray⟩ = ⟨(40 :: X).toArray⟩ := cat2 [40] X
    have h2 : (⟨(40 :: X).toArray⟩ : ByteArray) ++ ⟨#[41]⟩ = ⟨(40 :: (X ++ [41])).toArray⟩ := cat2 (40 :: X) [41]
    have z3 : (⟨(40 :: X).toArray⟩ : ByteArray).size ≤ 2200001 := by rw [Lib.size_eq]; have := hXs; rw [Lib.size_eq] at this; simpa using this
    by_cases hl : h < least
    · go_wp2_with fail
      refine (HHO.out _).mono ?_
      rintro e w1 ⟨rfl, hb⟩
      have hB1 := bel_call hb hBw.out hBw.out.size
      clear hb hBw hNw c0 c1 c2 c3 c4 c5 HHO
      go_wp2_with fail
      go_ret
      exact ⟨by first | rfl | (rw [if_pos hl]; done) | (rw [if_pos hl]; rfl) | (rw [if_pos hl, ← h2, ← h1]; rfl), hB1⟩
    · go_wp2_with fail
      refine (HHO.out _).mono ?_
      rintro e w1 ⟨rfl, hb⟩
      have hB1 := bel_call hb hBw.out hBw.out.size
      clear hb hBw hNw c0 c1 c2 c3 c4 c5 HHO
      go_wp2_with fail
      go_ret
      exact ⟨by first | rfl | (rw [if_neg hl]; done) | (rw [if_neg hl]; rfl), hB1⟩

set_option maxRecDepth 100000 in
set_option maxHeartbeats 8000000 in
theorem rprint_2 (d : Nat) : RPrintC (fun n => n.kind = 2) d := by
  intro n p len cap least lv w hq hrd hok hrt hl0 hl1 hwt
  have hk : n.kind = 2 := hq
  have hA0 : Hid (NdB tRn (w.alloc (.cells (ndA (nmN nmS n) p len cap) tRn)) w.heap.size (nmN nmS n) p len cap) := heap_alloc_new w _
  have hAB : Hid (Below w.heap.size w (w.alloc (.cells (ndA (nmN nmS n) p len cap) tRn))) := by unfold Hid; (repeat' (first | (with_reducible exact Below.refl _ _) | (with_reducible assumption) | (with_reducible refine Below.alloc ?_ ?_ _) | (with_reducible refine bel_drewN ?_ _) | (with_reducible refine Below.drew ?_) | (with_reducible refine Below.setCell ?_ ?_ _) | (with_reducible refine bel_call ‹_› ?_ ?_) | go_size))
  have HHO := Lib.hid (fun W => holds_any (nmN nmS n) p len cap W)
  rw [nmN_holds] at HHO
  rw [prN_bd]
  have hbl := bdN_len n hok
  have HKM : Hid ((nmN nmS n).kind = n.kind) := nmN_kind n
  rw [hk] at HKM
  have HBD : Hid (bdN n = quoT (nmN nmS n).text) := by unfold Hid bdN prB; rw [show (nmN nmS n).text = n.text from by rw [nmN_text, if_neg (by omega), if_neg (by omega)]]; rw [hk]; simp
  have hts : (⟨n.text.toArray⟩ : ByteArray).size ≤ 1100000 := by rw [Lib.size_eq]; rw [wtN_eq] at hwt; simp; omega
  have HT := Lib.hid (fun W => refQuote_any ⟨n.text.toArray⟩ hts W)
  rw [show (⟨n.text.toArray⟩ : ByteArray).data.toList = n.text from rfl] at HT
  have htx : (nmN nmS n).text = n.text := by rw [nmN_text, if_neg (by omega), if_neg (by omega)]
  rw [← htx] at HT
  clear htx hts
  obtain ⟨X, hX⟩ : ∃ X, bdN n = X := ⟨_, rfl⟩
  have HX := Lib.hid hX
  rw [hX] at hbl ⊢
  clear hX
  obtain ⟨h, hh⟩ : ∃ h, hdS n.kind n.text = h := ⟨_, rfl⟩
  rw [hh] at HHO ⊢
  clear hh
  generalize nmN nmS n = m at *
  rw [ndA_eq] at HHO ⊢
  go_enter Tryz.func27, Tryz.ntmps27
  go_upto_region 1 with fail
  have e0 : w.alloc (.cells #[.int .i64 m.kind, .int .i64 m.num, .string ⟨m.text.toArray⟩, .int .i64 m.frm, .int .i64 m.tor, .slice p len cap] tRn) = w.alloc (.cells (ndA m p len cap) tRn) := rfl
  rw [e0]
  clear e0
  generalize w.alloc (.cells (ndA m p len cap) tRn) = w0 at hA0 hAB ⊢
  have hXs : (⟨X.toArray⟩ : ByteArray).size ≤ 2200000 := by rw [Lib.size_eq]; exact Nat.le_trans hbl hwt
  obtain ⟨c0, c1, c2, c3, c4, c5⟩ := hA0.out.cells
  rw [HKM.out] at c0
  go_upto_block 0 with fail
  go_cut [5] (fun v wx => v = .string ⟨X.toArray⟩ ∧ Below w.heap.size w wx ∧ NdB tRn wx w.heap.size m p len cap)
  case first =>
    go_wp2_with fail
    refine (HT.out _).mono ?_
    rintro e w1 ⟨rfl, hw⟩
    have hb : Below w0.heap.size w0 w1 := by rw [← hw]; exact Below.refl _ _
    clear hw
    have hB1 : Hid (Below w.heap.size w w1) := bel_call hb hAB.out hAB.out.size
    have hN1 := Lib.hid (hA0.out.below hb)
    clear hb c0 c1 c2 c3 c4 c5 hA0 hAB HT HHO
    go_wp2_with fail
    go_meet
    exact ⟨by rw [← HX.out, HBD.out], hB1.out, hN1.out⟩
  case rest =>
    obtain ⟨hv, hB, hN⟩ := hcut
    subst hv
    have hBw := Lib.hid hB
    have hNw := Lib.hid hN
    clear hB hN hA0 hAB HX HKM c0 c1 c2 c3 c4 c5
    obtain ⟨c0, c1, c2, c3, c4, c5⟩ := hNw.out.cells
    have z1 : (⟨#[40]⟩ : ByteArray).size = 1 := rfl
    have z2 : (⟨#[41]⟩ : ByteArray).size = 1 := rfl
    have h1 : (⟨#[40]⟩ : ByteArray) ++ ⟨X.toArray⟩ = ⟨(40 :: X).toArray⟩ := cat2 [40] X
    have h2 : (⟨(40 :: X).toArray⟩ : ByteArray) ++ ⟨#[41]⟩ = ⟨(40 :: (X ++ [41])).toArray⟩ := cat2 (40 :: X) [41]
    have z3 : (⟨(40 :: X).toArray⟩ : ByteArray).size ≤ 2200001 := by rw [Lib.size_eq]; have := hXs; rw [Lib.size_eq] at this; simpa using this
    by_cases hl : h < least
    · go_wp2_with fail
      refine (HHO.out _).mono ?_
      rintro e w1 ⟨rfl, hb⟩
      have hB1 := bel_call hb hBw.out hBw.out.size
      clear hb hBw hNw c0 c1 c2 c3 c4 c5 HHO
      go_wp2_with fail
      go_ret
      exact ⟨by first | rfl | (rw [if_pos hl]; done) | (rw [if_pos hl]; rfl) | (rw [if_pos hl, ← h2, ← h1]; rfl), hB1⟩
    · go_wp2_with fail
      refine (HHO.out _).mono ?_
      rintro e w1 ⟨rfl, hb⟩
      have hB1 := bel_call hb hBw.out hBw.out.size
      clear hb hBw hNw c0 c1 c2 c3 c4 c5 HHO
      go_wp2_with fail
      go_ret
      exact ⟨by first | rfl | (rw [if_neg hl]; done) | (rw [if_neg hl]; rfl), hB1⟩

set_option maxRecDepth 100000 in
set_option maxHeartbeats 8000000 in
theorem rprint_3 (d : Nat) : RPrintC (fun n => n.kind = 3) d := by
  intro n p len cap least lv w hq hrd hok hrt hl0 hl1 hwt
  have hk : n.kind = 3 := hq
  have hA0 : Hid (NdB tRn (w.alloc (.cells (ndA (nmN nmS n) p len cap) tRn)) w.heap.size (nmN nmS n) p len cap) := heap_alloc_new w _
  have hAB : Hid (Below w.heap.size w (w.alloc (.cells (ndA (nmN nmS n) p len cap) tRn))) := by unfold Hid; (repeat' (first | (with_reducible exact Below.refl _ _) | (with_reducible assumption) | (with_reducible refine Below.alloc ?_ ?_ _) | (with_reducible refine bel_drewN ?_ _) | (with_reducible refine Below.drew ?_) | (with_reducible refine Below.setCell ?_ ?_ _) | (with_reducible refine bel_call ‹_› ?_ ?_) | go_size))
  have HHO := Lib.hid (fun W => holds_any (nmN nmS n) p len cap W)
  rw [nmN_holds] at HHO
  rw [prN_bd]
  have hbl := bdN_len n hok
  have HKM : Hid ((nmN nmS n).kind = n.kind) := nmN_kind n
  rw [hk] at HKM
  have HBD : Hid (bdN n = nmS n.frm) := by unfold Hid bdN prB; rw [hk]; simp
  have HTX : Hid ((nmN nmS n).text = nmS n.frm) := by unfold Hid; rw [nmN_text, if_pos hk]
  obtain ⟨X, hX⟩ : ∃ X, bdN n = X := ⟨_, rfl⟩
  have HX := Lib.hid hX
  rw [hX] at hbl ⊢
  clear hX
  obtain ⟨h, hh⟩ : ∃ h, hdS n.kind n.text = h := ⟨_, rfl⟩
  rw [hh] at HHO ⊢
  clear hh
  generalize nmN nmS n = m at *
  rw [ndA_eq] at HHO ⊢
  go_enter Tryz.func27, Tryz.ntmps27
  go_upto_region 1 with fail
  have e0 : w.alloc (.cells #[.int .i64 m.kind, .int .i64 m.num, .string ⟨m.text.toArray⟩, .int .i64 m.frm, .int .i64 m.tor, .slice p len cap] tRn) = w.alloc (.cells (ndA m p len cap) tRn) := rfl
  rw [e0]
  clear e0
  generalize w.alloc (.cells (ndA m p len cap) tRn) = w0 at hA0 hAB ⊢
  have hXs : (⟨X.toArray⟩ : ByteArray).size ≤ 2200000 := by rw [Lib.size_eq]; exact Nat.le_trans hbl hwt
  obtain ⟨c0, c1, c2, c3, c4, c5⟩ := hA0.out.cells
  rw [HKM.out] at c0
  go_upto_block 0 with fail
  go_cut [5] (fun v wx => v = .string ⟨X.toArray⟩ ∧ Below w.heap.size w wx ∧ NdB tRn wx w.heap.size m p len cap)
  case first =>
    go_wp2_with fail
    go_meet
    exact ⟨by rw [← HX.out, HBD.out, ← HTX.out], hAB.out, hA0.out⟩
  case rest =>
    obtain ⟨hv, hB, hN⟩ := hcut
    subst hv
    have hBw := Lib.hid hB
    have hNw := Lib.hid hN
    clear hB hN hA0 hAB HX HKM c0 c1 c2 c3 c4 c5
    obtain ⟨c0, c1, c2, c3, c4, c5⟩ := hNw.out.cells
    have z1 : (⟨#[40]⟩ : ByteArray).size = 1 := rfl
    have z2 : (⟨#[41]⟩ : ByteArray).size = 1 := rfl
    have h1 : (⟨#[40]⟩ : ByteArray) ++ ⟨X.toArray⟩ = ⟨(40 :: X).toArray⟩ := cat2 [40] X
    have h2 : (⟨(40 :: X).toArray⟩ : ByteArray) ++ ⟨#[41]⟩ = ⟨(40 :: (X ++ [41])).toArray⟩ := cat2 (40 :: X) [41]
    have z3 : (⟨(40 :: X).toArray⟩ : ByteArray).size ≤ 2200001 := by rw [Lib.size_eq]; have := hXs; rw [Lib.size_eq] at this; simpa using this
    by_cases hl : h < least
    · go_wp2_with fail
      refine (HHO.out _).mono ?_
      rintro e w1 ⟨rfl, hb⟩
      have hB1 := bel_call hb hBw.out hBw.out.size
      clear hb hBw hNw c0 c1 c2 c3 c4 c5 HHO
      go_wp2_with fail
      go_ret
      exact ⟨by first | rfl | (rw [if_pos hl]; done) | (rw [if_pos hl]; rfl) | (rw [if_pos hl, ← h2, ← h1]; rfl), hB1⟩
    · go_wp2_with fail
      refine (HHO.out _).mono ?_
      rintro e w1 ⟨rfl, hb⟩
      have hB1 := bel_call hb hBw.out hBw.out.size
      clear hb hBw hNw c0 c1 c2 c3 c4 c5 HHO
      go_wp2_with fail
      go_ret
      exact ⟨by first | rfl | (rw [if_neg hl]; done) | (rw [if_neg hl]; rfl), hB1⟩

set_option maxRecDepth 100000 in
set_option maxHeartbeats 8000000 in
theorem rprint_4 (d : Nat) : RPrintC (fun n => n.kind = 4) d := by
  intro n p len cap least lv w hq hrd hok hrt hl0 hl1 hwt
  have hk : n.kind = 4 := hq
  have hA0 : Hid (NdB tRn (w.alloc (.cells (ndA (nmN nmS n) p len cap) tRn)) w.heap.size (nmN nmS n) p len cap) := heap_alloc_new w _
  have hAB : Hid (Below w.heap.size w (w.alloc (.cells (ndA (nmN nmS n) p len cap) tRn))) := by unfold Hid; (repeat' (first | (with_reducible exact Below.refl _ _) | (with_reducible assumption) | (with_reducible refine Below.alloc ?_ ?_ _) | (with_reducible refine bel_drewN ?_ _) | (with_reducible refine Below.drew ?_) | (with_reducible refine Below.setCell ?_ ?_ _) | (with_reducible refine bel_call ‹_› ?_ ?_) | go_size))
  have HHO := Lib.hid (fun W => holds_any (nmN nmS n) p len cap W)
  rw [nmN_holds] at HHO
  rw [prN_bd]
  have hbl := bdN_len n hok
  have HKM : Hid ((nmN nmS n).kind = n.kind) := nmN_kind n
  rw [hk] at HKM
  have HBD : Hid (bdN n = nmS n.frm ++ 58 :: nmS n.tor) := by unfold Hid bdN prB; rw [hk]; simp
  have HTX : Hid ((nmN nmS n).text = nmS n.frm ++ 58 :: nmS n.tor) := by unfold Hid; rw [nmN_text, if_neg (by omega), if_pos hk]
  obtain ⟨X, hX⟩ : ∃ X, bdN n = X := ⟨_, rfl⟩
  have HX := Lib.hid hX
  rw [hX] at hbl ⊢
  clear hX
  obtain ⟨h, hh⟩ : ∃ h, hdS n.kind n.text = h := ⟨_, rfl⟩
  rw [hh] at HHO ⊢
  clear hh
  generalize nmN nmS n = m at *
  rw [ndA_eq] at HHO ⊢
  go_enter Tryz.func27, Tryz.ntmps27
  go_upto_region 1 with fail
  have e0 : w.alloc (.cells #[.int .i64 m.kind, .int .i64 m.num, .string ⟨m.text.toArray⟩, .int .i64 m.frm, .int .i64 m.tor, .slice p len cap] tRn) = w.alloc (.cells (ndA m p len cap) tRn) := rfl
  rw [e0]
  clear e0
  generalize w.alloc (.cells (ndA m p len cap) tRn) = w0 at hA0 hAB ⊢
  have hXs : (⟨X.toArray⟩ : ByteArray).size ≤ 2200000 := by rw [Lib.size_eq]; exact Nat.le_trans hbl hwt
  obtain ⟨c0, c1, c2, c3, c4, c5⟩ := hA0.out.cells
  rw [HKM.out] at c0
  go_upto_block 0 with fail
  go_cut [5] (fun v wx => v = .string ⟨X.toArray⟩ ∧ Below w.heap.size w wx ∧ NdB tRn wx w.heap.size m p len cap)
  case first =>
    go_wp2_with fail
    go_meet
    exact ⟨by rw [← HX.out, HBD.out, ← HTX.out], hAB.out, hA0.out⟩
  case rest =>
    obtain ⟨hv, hB, hN⟩ := hcut
    subst hv
    have hBw := Lib.hid hB
    have hNw := Lib.hid hN
    clear hB hN hA0 hAB HX HKM c0 c1 c2 c3 c4 c5
    obtain ⟨c0, c1, c2, c3, c4, c5⟩ := hNw.out.cells
    have z1 : (⟨#[40]⟩ : ByteArray).size = 1 := rfl
    have z2 : (⟨#[41]⟩ : ByteArray).size = 1 := rfl
    have h1 : (⟨#[40]⟩ : ByteArray) ++ ⟨X.toArray⟩ = ⟨(40 :: X).toArray⟩ := cat2 [40] X
    have h2 : (⟨(40 :: X).toArray⟩ : ByteArray) ++ ⟨#[41]⟩ = ⟨(40 :: (X ++ [41])).toArray⟩ := cat2 (40 :: X) [41]
    have z3 : (⟨(40 :: X).toArray⟩ : ByteArray).size ≤ 2200001 := by rw [Lib.size_eq]; have := hXs; rw [Lib.size_eq] at this; simpa using this
    by_cases hl : h < least
    · go_wp2_with fail
      refine (HHO.out _).mono ?_
      rintro e w1 ⟨rfl, hb⟩
      have hB1 := bel_call hb hBw.out hBw.out.size
      clear hb hBw hNw c0 c1 c2 c3 c4 c5 HHO
      go_wp2_with fail
      go_ret
      exact ⟨by first | rfl | (rw [if_pos hl]; done) | (rw [if_pos hl]; rfl) | (rw [if_pos hl, ← h2, ← h1]; rfl), hB1⟩
    · go_wp2_with fail
      refine (HHO.out _).mono ?_
      rintro e w1 ⟨rfl, hb⟩
      have hB1 := bel_call hb hBw.out hBw.out.size
      clear hb hBw hNw c0 c1 c2 c3 c4 c5 HHO
      go_wp2_with fail
      go_ret
      exact ⟨by first | rfl | (rw [if_neg hl]; done) | (rw [if_neg hl]; rfl), hB1⟩

set_option maxRecDepth 100000 in
set_option maxHeartbeats 8000000 in
theorem rprint_8 (d : Nat) : RPrintC (fun n => n.kind = 8) d := by
  intro n p len cap least lv w hq hrd hok hrt hl0 hl1 hwt
  have hk : n.kind = 8 := hq
  have hA0 : Hid (NdB tRn (w.alloc (.cells (ndA (nmN nmS n) p len cap) tRn)) w.heap.size (nmN nmS n) p len cap) := heap_alloc_new w _
  have hAB : Hid (Below w.heap.size w (w.alloc (.cells (ndA (nmN nmS n) p len cap) tRn))) := by unfold Hid; (repeat' (first | (with_reducible exact Below.refl _ _) | (with_reducible assumption) | (with_reducible refine Below.alloc ?_ ?_ _) | (with_reducible refine bel_drewN ?_ _) | (with_reducible refine Below.drew ?_) | (with_reducible refine Below.setCell ?_ ?_ _) | (with_reducible refine bel_call ‹_› ?_ ?_) | go_size))
  have HHO := Lib.hid (fun W => holds_any (nmN nmS n) p len cap W)
  rw [nmN_holds] at HHO
  rw [prN_bd]
  have hbl := bdN_len n hok
  have HKM : Hid ((nmN nmS n).kind = n.kind) := nmN_kind n
  rw [hk] at HKM
  have HBD : Hid (bdN n = refBs) := by unfold Hid bdN prB; rw [hk]; simp
  obtain ⟨X, hX⟩ : ∃ X, bdN n = X := ⟨_, rfl⟩
  have HX := Lib.hid hX
  rw [hX] at hbl ⊢
  clear hX
  obtain ⟨h, hh⟩ : ∃ h, hdS n.kind n.text = h := ⟨_, rfl⟩
  rw [hh] at HHO ⊢
  clear hh
  generalize nmN nmS n = m at *
  rw [ndA_eq] at HHO ⊢
  go_enter Tryz.func27, Tryz.ntmps27
  go_upto_region 1 with fail
  have e0 : w.alloc (.cells #[.int .i64 m.kind, .int .i64 m.num, .string ⟨m.text.toArray⟩, .int .i64 m.frm, .int .i64 m.tor, .slice p len cap] tRn) = w.alloc (.cells (ndA m p len cap) tRn) := rfl
  rw [e0]
  clear e0
  generalize w.alloc (.cells (ndA m p len cap) tRn) = w0 at hA0 hAB ⊢
  have hXs : (⟨X.toArray⟩ : ByteArray).size ≤ 2200000 := by rw [Lib.size_eq]; exact Nat.le_trans hbl hwt
  obtain ⟨c0, c1, c2, c3, c4, c5⟩ := hA0.out.cells
  rw [HKM.out] at c0
  go_upto_block 0 with fail
  go_cut [5] (fun v wx => v = .string ⟨X.toArray⟩ ∧ Below w.heap.size w wx ∧ NdB tRn wx w.heap.size m p len cap)
  case first =>
    go_wp2_with fail
    go_meet
    exact ⟨by rw [← HX.out, HBD.out]; rfl, hAB.out, hA0.out⟩
  case rest =>
    obtain ⟨hv, hB, hN⟩ := hcut
    subst hv
    have hBw := Lib.hid hB
    have hNw := Lib.hid hN
    clear hB hN hA0 hAB HX HKM c0 c1 c2 c3 c4 c5
    obtain ⟨c0, c1, c2, c3, c4, c5⟩ := hNw.out.cells
    have z1 : (⟨#[40]⟩ : ByteArray).size = 1 := rfl
    have z2 : (⟨#[41]⟩ : ByteArray).size = 1 := rfl
    have h1 : (⟨#[40]⟩ : ByteArray) ++ ⟨X.toArray⟩ = ⟨(40 :: X).toArray⟩ := cat2 [40] X
    have h2 : (⟨(40 :: X).toArray⟩ : ByteArray) ++ ⟨#[41]⟩ = ⟨(40 :: (X ++ [41])).toArray⟩ := cat2 (40 :: X) [41]
    have z3 : (⟨(40 :: X).toArray⟩ : ByteArray).size ≤ 2200001 := by rw [Lib.size_eq]; have := hXs; rw [Lib.size_eq] at this; simpa using this
    by_cases hl : h < least
    · go_wp2_with fail
      refine (HHO.out _).mono ?_
      rintro e w1 ⟨rfl, hb⟩
      have hB1 := bel_call hb hBw.out hBw.out.size
      clear hb hBw hNw c0 c1 c2 c3 c4 c5 HHO
      go_wp2_with fail
      go_ret
      exact ⟨by first | rfl | (rw [if_pos hl]; done) | (rw [if_pos hl]; rfl) | (rw [if_pos hl, ← h2, ← h1]; rfl), hB1⟩
    · go_wp2_with fail
      refine (HHO.out _).mono ?_
      rintro e w1 ⟨rfl, hb⟩
      have hB1 := bel_call hb hBw.out hBw.out.size
      clear hb hBw hNw c0 c1 c2 c3 c4 c5 HHO
      go_wp2_with fail
      go_ret
      exact ⟨by first | rfl | (rw [if_neg hl]; done) | (rw [if_neg hl]; rfl), hB1⟩
end Go.Proofs.YtigmcoelkkihkaaGreatDoor
