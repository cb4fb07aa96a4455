/- Tidying: the document's Trim, and the walk of StrsTidies. -/
import Derived.Test.YtcmpeppjopdeaaaDoorStrK
set_option linter.unusedSimpArgs false
set_option linter.unusedVariables false
namespace Go.Proofs.YtcmpeppjopdeaaaDoor
open Go.RowKit

set_option maxRecDepth 100000 in
set_option maxHeartbeats 4000000 in
theorem refTrim_any (s : ByteArray) (hs : s.size ≤ 10000) (w : World) :
    Calls Tryd.prog 6 #[.string s] w fun e w' => e = .returned (.string ⟨(trimL s.data.toList).toArray⟩) ∧ w = w' := by
  have hl : s.data.toList.length = s.size := by rw [← Lib.size_eq]
  have HLS := Lib.hid hl
  clear hl
  go_enter Tryd.func6, Tryd.ntmps6
  go_wp2_with fail
  go_loop [3, 4] (fun o v => ∃ (k : Nat) (x : ByteArray) (O : List UInt8) (b : Bool), v = .int .i64 k ∧ o = .string x ∧ x = ⟨O.toArray⟩ ∧ trG O b (s.data.toList.drop k) = trimL s.data.toList ∧ O.length ≤ 2 * k ∧ (k = 0 → O = []) ∧ (0 < k → (b = decide (nx s.data.toList (k - 1) = 32))) ∧ k ≤ s.size) (fun _ v => s.size - (intOf v).toNat)
  case atStart => exact ⟨0, _, [], true, rfl, rfl, rfl, rfl, by simp, fun _ => rfl, fun h => absurd h (by omega), by omega⟩
  case round =>
    obtain ⟨k, x, O, b, rfl, rfl, hx, ht, hol, hO0, hb, hk⟩ := hrel
    have HX := Lib.hid hx
    have HT := Lib.hid ht
    have HO0 := Lib.hid hO0
    have HBB := Lib.hid hb
    have hxs : x.size ≤ 100000 := by rw [hx, size_of]; omega
    have hxe : x.toList = O := by rw [hx, ByteArray.toList_eq]
    have HXE := Lib.hid hxe
    clear hx ht hO0 hb hxe
    rcases Nat.lt_or_ge k s.size with hlt | hge
    · have hlt' : k < s.data.toList.length := by rw [HLS.out]; exact hlt
      have hb1 := nx_str s k hlt
      have hx1 := ext_one s k hlt
      rw [nx_get hlt', u8_eta] at hx1
      have HX1 := Lib.hid hx1
      have hz3 : (s.extract k (k + 1)).size = 1 := by rw [hx1]; rfl
      have hz4 : (⟨#[32]⟩ : ByteArray).size = 1 := rfl
      obtain ⟨c, hc⟩ : ∃ c, nx s.data.toList k = c := ⟨_, rfl⟩
      rw [hc] at hb1
      have HC := Lib.hid hc
      have hcc := hc
      rw [nx_get hlt'] at hcc
      have HCC := Lib.hid hcc
      clear hc hcc hx1
      by_cases h32 : c = 32
      · have e1 : (((s[k].toNat : Nat) : Int) != 32) = false := by rw [hb1, h32]; rfl
        have HE : Hid (s.data.toList[k]'hlt' = 32) := by unfold Hid; exact UInt8.toNat.inj (by rw [HCC.out, h32]; rfl)
        have HT2 : Hid (trG O true (s.data.toList.drop (k + 1)) = trimL s.data.toList) := by
          have h := HT.out
          rw [List.drop_eq_getElem_cons hlt', HE.out] at h
          exact h
        have hcb : true = decide (nx s.data.toList (k + 1 - 1) = 32) := by rw [show k + 1 - 1 = k by omega, HC.out, h32]; rfl
        have HCB := Lib.hid hcb
        clear HT h32 hcb
        go_wp2_with fail
        go_round
        case rel => exact ⟨k + 1, _, O, true, by go_num, rfl, HX.out, HT2.out, by omega, by omega, fun _ => HCB.out, by omega⟩
        case measure => simp [intOf]; omega
      · have e1 : (((s[k].toNat : Nat) : Int) != 32) = true := by rw [hb1]; simp; omega
        have HNE : Hid (¬ (s.data.toList[k]'hlt') = 32) := by unfold Hid; intro e; rw [e] at HCC; exact h32 HCC.out.symm
        rcases Nat.eq_zero_or_pos k with hk0 | hk0
        · subst hk0
          have hO := HO0.out rfl
          subst hO
          have HT2 : Hid (trG ([] ++ [s.data.toList[0]'hlt']) false (s.data.toList.drop (0 + 1)) = trimL s.data.toList) := by
            have h := HT.out
            rw [List.drop_eq_getElem_cons hlt'] at h
            unfold trG at h
            rw [if_neg HNE.out] at h
            cases b <;> exact h
          have HX2 : Hid (x ++ s.extract 0 (0 + 1) = ⟨([] ++ [s.data.toList[0]'hlt']).toArray⟩) := by unfold Hid; rw [HX.out, HX1.out, cat2]
          have hbn : false = decide (nx s.data.toList (0 + 1 - 1) = 32) := by rw [show 0 + 1 - 1 = 0 by omega, HC.out]; exact (decide_eq_false h32).symm
          have hol2 : ([] ++ [s.data.toList[0]'hlt']).length ≤ 2 * (0 + 1) := by simp at hol ⊢ <;> omega
          have HBNN := Lib.hid hbn
          have HOL2 := Lib.hid hol2
          clear HT hbn hol2
          go_wp2_with fail
          go_round
          case rel => exact ⟨0 + 1, _, [] ++ [s.data.toList[0]'hlt'], false, by go_num, rfl, HX2.out, HT2.out, HOL2.out, fun h => absurd h (by omega), fun _ => HBNN.out, by omega⟩
          case measure => simp [intOf] <;> omega
        · have hk0' : (0 : Int) < (k : Int) := by omega
          have hpv := nx_str s (k - 1) (by omega)
          obtain ⟨p, hp⟩ : ∃ p, nx s.data.toList (k - 1) = p := ⟨_, rfl⟩
          rw [hp] at hpv
          have hbb := HBB.out hk0
          rw [hp] at hbb
          by_cases hp32 : p = 32
          · have e2 : (((s[k - 1].toNat : Nat) : Int) == 32) = true := by rw [hpv, hp32]; rfl
            have hbt : b = true := by rw [hbb, hp32]; rfl
            have HBT := Lib.hid hbt
            clear hp hbb hbt
            cases O with
            | nil =>
              have he3 : x.toList = [] := HXE.out
              have he : x.toList.isEmpty = true := by rw [he3]; rfl
              have he2 : (!x.toList.isEmpty) = false := by rw [he]; rfl
              have HT2 : Hid (trG ([] ++ [s.data.toList[k]'hlt']) false (s.data.toList.drop (k + 1)) = trimL s.data.toList) := by
                have h := HT.out
                rw [List.drop_eq_getElem_cons hlt'] at h
                unfold trG at h
                rw [if_neg HNE.out, HBT.out] at h
                exact h
              have HX2 : Hid (x ++ s.extract k (k + 1) = ⟨([] ++ [s.data.toList[k]'hlt']).toArray⟩) := by unfold Hid; rw [HX.out, HX1.out, cat2]
              have hbn : false = decide (nx s.data.toList (k + 1 - 1) = 32) := by rw [show k + 1 - 1 = k by omega, HC.out]; exact (decide_eq_false h32).symm
              have hol2 : ([] ++ [s.data.toList[k]'hlt']).length ≤ 2 * (k + 1) := by simp at hol ⊢ <;> omega
              have HBNN := Lib.hid hbn
              have HOL2 := Lib.hid hol2
              clear HT hbn hol2
              go_wp2_with fail
              go_round
              case rel => exact ⟨k + 1, _, [] ++ [s.data.toList[k]'hlt'], false, by go_num, rfl, HX2.out, HT2.out, HOL2.out, fun h => absurd h (by omega), fun _ => HBNN.out, by omega⟩
              case measure => simp [intOf] <;> omega
            | cons y ys =>
              have he : x.toList.isEmpty = false := by rw [HXE.out]; rfl
              have he2 : (!x.toList.isEmpty) = true := by rw [he]; rfl
              have hz5 : (x ++ ⟨#[32]⟩).size ≤ 100001 := by rw [HX.out, show (⟨#[32]⟩ : ByteArray) = ⟨[32].toArray⟩ from rfl, cat2, size_of]; have h := hxs; rw [HX.out, size_of] at h; simp at h ⊢; omega
              have HT2 : Hid (trG ((y :: ys) ++ [32] ++ [s.data.toList[k]'hlt']) false (s.data.toList.drop (k + 1)) = trimL s.data.toList) := by
                have h := HT.out
                rw [List.drop_eq_getElem_cons hlt'] at h
                unfold trG at h
                rw [if_neg HNE.out, HBT.out] at h
                exact h
              have HX2 : Hid (x ++ ⟨#[32]⟩ ++ s.extract k (k + 1) = ⟨((y :: ys) ++ [32] ++ [s.data.toList[k]'hlt']).toArray⟩) := by unfold Hid; rw [HX.out, HX1.out, show (⟨#[32]⟩ : ByteArray) = ⟨[32].toArray⟩ from rfl, cat2, cat2]
              have hbn : false = decide (nx s.data.toList (k + 1 - 1) = 32) := by rw [show k + 1 - 1 = k by omega, HC.out]; exact (decide_eq_false h32).symm
              have hol2 : ((y :: ys) ++ [32] ++ [s.data.toList[k]'hlt']).length ≤ 2 * (k + 1) := by simp at hol ⊢ <;> omega
              have HBNN := Lib.hid hbn
              have HOL2 := Lib.hid hol2
              clear HT hbn hol2
              go_wp2_with fail
              go_round
              case rel => exact ⟨k + 1, _, (y :: ys) ++ [32] ++ [s.data.toList[k]'hlt'], false, by go_num, rfl, HX2.out, HT2.out, HOL2.out, fun h => absurd h (by omega), fun _ => HBNN.out, by omega⟩
              case measure => simp [intOf] <;> omega
          · have e2 : (((s[k - 1].toNat : Nat) : Int) == 32) = false := by rw [hpv]; simp; omega
            have hbt : b = false := by rw [hbb]; simp [hp32]
            have HBT := Lib.hid hbt
            clear hp hbb hbt
            have HT2 : Hid (trG (O ++ [s.data.toList[k]'hlt']) false (s.data.toList.drop (k + 1)) = trimL s.data.toList) := by
              have h := HT.out
              rw [List.drop_eq_getElem_cons hlt'] at h
              unfold trG at h
              rw [if_neg HNE.out, HBT.out] at h
              exact h
            have HX2 : Hid (x ++ s.extract k (k + 1) = ⟨(O ++ [s.data.toList[k]'hlt']).toArray⟩) := by unfold Hid; rw [HX.out, HX1.out, cat2]
            have hbn : false = decide (nx s.data.toList (k + 1 - 1) = 32) := by rw [show k + 1 - 1 = k by omega, HC.out]; exact (decide_eq_false h32).symm
            have hol2 : (O ++ [s.data.toList[k]'hlt']).length ≤ 2 * (k + 1) := by simp at hol ⊢ <;> omega
            have HBNN := Lib.hid hbn
            have HOL2 := Lib.hid hol2
            clear HT hbn hol2
            go_wp2_with fail
            go_round
            case rel => exact ⟨k + 1, _, O ++ [s.data.toList[k]'hlt'], false, by go_num, rfl, HX2.out, HT2.out, HOL2.out, fun h => absurd h (by omega), fun _ => HBNN.out, by omega⟩
            case measure => simp [intOf] <;> omega
    · have HN : Hid (x = ⟨(trimL s.data.toList).toArray⟩) := by
        have h := HT.out
        rw [List.drop_of_length_le (by rw [HLS.out]; exact hge)] at h
        have h2 : O = trimL s.data.toList := h
        unfold Hid
        rw [HX.out, h2]
      go_wp2_with fail
      go_ret
      exact ⟨ret_s HN.out, rfl⟩

set_option maxRecDepth 100000 in
set_option maxHeartbeats 2000000 in
theorem tidies_walk (s : ByteArray) (w : World) (hsh : w.ShapedOpen Tryd.prog) :
    Calls Tryd.prog 3 #[.string s] w fun e w' => e = .returned (.bool true) ∧ Below w.heap.size w w' := by
  have HSH := Lib.hid hsh
  clear hsh
  by_cases h4 : s.size ≤ 400
  · have h4' : (s.size : Int) ≤ 400 := by omega
    have HT := Lib.hid (trim_any s (by omega) w HSH.out)
    have HRT := Lib.hid (fun W => refTrim_any s (by omega) W)
    have HP := Lib.hid (fun W => proper_any s (by omega) W)
    have HRP := Lib.hid (fun W => refProper_any s (by omega) W)
    have HCL := Lib.hid (fun W => clean_any s (by omega) W)
    have HRC := Lib.hid (fun W => refClean_any s (by omega) W)
    generalize (⟨(trimL s.data.toList).toArray⟩ : ByteArray) = X1 at HT HRT
    generalize (⟨(prL s.data.toList).toArray⟩ : ByteArray) = X2 at HP HRP
    generalize (⟨(cleanL s.data.toList).toArray⟩ : ByteArray) = X3 at HCL HRC
    have e1 : (X1.toList == X1.toList) = true := by simp
    have e2 : (X2.toList == X2.toList) = true := by simp
    have e3 : (X3.toList == X3.toList) = true := by simp
    go_enter Tryd.func3, Tryd.ntmps3
    go_wp2_with fail
    refine HT.out.mono ?_
    rintro e w1 ⟨rfl, hb1⟩
    have HB1 := Lib.hid hb1
    clear hb1
    go_wp2_with fail
    refine (HRT.out _).mono ?_
    rintro e w2 ⟨rfl, rfl⟩
    go_wp2_with fail
    refine (HP.out _).mono ?_
    rintro e w3 ⟨rfl, hb3⟩
    have HB3 : Hid (Below w.heap.size w w3) := HB1.out.trans (hb3.mono HB1.out.size)
    clear hb3
    go_wp2_with fail
    refine (HRP.out _).mono ?_
    rintro e w4 ⟨rfl, hb4⟩
    have HB4 : Hid (Below w.heap.size w w4) := HB3.out.trans (hb4.mono HB3.out.size)
    clear hb4
    go_wp2_with fail
    refine (HCL.out _).mono ?_
    rintro e w5 ⟨rfl, hb5⟩
    have HB5 : Hid (Below w.heap.size w w5) := HB4.out.trans (hb5.mono HB4.out.size)
    clear hb5
    go_wp2_with fail
    refine (HRC.out _).mono ?_
    rintro e w6 ⟨rfl, rfl⟩
    go_wp2_with fail
    refine (awake_any _).mono ?_
    rintro e w7 ⟨rfl, hb7⟩
    have HB7 : Hid (Below w.heap.size w w7) := HB5.out.trans (hb7.mono HB5.out.size)
    clear hb7
    go_wp2_with fail
    go_ret
    exact ⟨rfl, HB7.out⟩
  · have h4' : (400 : Int) < (s.size : Int) := by omega
    go_enter Tryd.func3, Tryd.ntmps3
    go_wp2_with fail
    refine (awake_any _).mono ?_
    rintro e w7 ⟨rfl, hb7⟩
    go_wp2_with fail
    go_ret
    exact ⟨rfl, hb7⟩
end Go.Proofs.YtcmpeppjopdeaaaDoor
