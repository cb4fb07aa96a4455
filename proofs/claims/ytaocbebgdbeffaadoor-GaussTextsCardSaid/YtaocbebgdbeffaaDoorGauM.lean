/- The document's answer read: whole. -/
import Derived.Test.YtaocbebgdbeffaaDoorGauL
set_option linter.unusedSimpArgs false
set_option linter.unusedVariables false
namespace Go.Proofs.YtaocbebgdbeffaaDoor
open Go.RowKit

/-- The digits from a place on, so many at most: their number, and the place behind. -/
def wD (L : List UInt8) : Nat → Nat → Nat → Nat × Nat
  | 0, i, n => (n, i)
  | f + 1, i, n => if i < L.length ∧ 48 ≤ byt L i ∧ byt L i ≤ 57 then wD L f (i + 1) (n * 10 + (byt L i - 48)) else (n, i)
theorem wD_yes {L : List UInt8} {f i n : Nat} (h1 : i < L.length) (h2 : 48 ≤ byt L i) (h3 : byt L i ≤ 57) : wD L (f + 1) i n = wD L f (i + 1) (n * 10 + (byt L i - 48)) := by
  rw [wD, if_pos ⟨h1, h2, h3⟩]
theorem wD_no {L : List UInt8} {f i n : Nat} (h : ¬ (i < L.length ∧ 48 ≤ byt L i ∧ byt L i ≤ 57)) : wD L f i n = (n, i) := by
  cases f with
  | zero => rfl
  | succ f => rw [wD, if_neg h]
theorem wD_ge (L : List UInt8) : ∀ f i n, i ≤ (wD L f i n).2
  | 0, i, n => Nat.le_refl _
  | f + 1, i, n => by
    rw [wD]
    split
    · have := wD_ge L f (i + 1) (n * 10 + (byt L i - 48))
      omega
    · exact Nat.le_refl _
theorem wD_le (L : List UInt8) : ∀ f i n, i ≤ L.length → (wD L f i n).2 ≤ L.length
  | 0, i, n, h => h
  | f + 1, i, n, h => by
    rw [wD]
    split
    · rename_i h2
      exact wD_le L f (i + 1) (n * 10 + (byt L i - 48)) (by omega)
    · exact h
theorem wD_lt (L : List UInt8) : ∀ f i n k, n < 10 ^ k → (wD L f i n).1 < 10 ^ (k + f)
  | 0, i, n, k, h => h
  | f + 1, i, n, k, h => by
    rw [wD]
    split
    · rename_i h2
      have := wD_lt L f (i + 1) (n * 10 + (byt L i - 48)) (k + 1) (by rw [Nat.pow_succ]; omega)
      rw [show k + (f + 1) = k + 1 + f from by omega]
      exact this
    · exact Nat.lt_of_lt_of_le h (Nat.pow_le_pow_right (by omega) (by omega))
/-- Where the digits begin. -/
def wF (L : List UInt8) (a : Nat) : Nat := if a < L.length ∧ (byt L a = 45 ∨ byt L a = 43) then a + 1 else a
def wN (L : List UInt8) (a : Nat) : Nat := if (wD L 8 (wF L a) 0).2 = wF L a then 1 else (wD L 8 (wF L a) 0).1
def wV (L : List UInt8) (a : Nat) : Int := if a < L.length ∧ byt L a = 45 then -(wN L a : Int) else (wN L a : Int)
def wE (L : List UInt8) (a : Nat) : Nat := (wD L 8 (wF L a) 0).2
theorem wF_le {L : List UInt8} {a : Nat} (h : a ≤ L.length) : wF L a ≤ L.length := by
  unfold wF
  split <;> omega
theorem wE_le {L : List UInt8} {a : Nat} (h : a ≤ L.length) : wE L a ≤ L.length := wD_le L _ _ _ (wF_le h)
theorem wN_lt (L : List UInt8) (a : Nat) : wN L a < 100000000 := by
  have := wD_lt L 8 (wF L a) 0 0 (by omega)
  unfold wN
  split
  · omega
  · omega
theorem wV_b (L : List UInt8) (a : Nat) : -100000000 < wV L a ∧ wV L a < 100000000 := by
  have := wN_lt L a
  unfold wV
  split <;> omega
theorem byt_str (s : ByteArray) (i : Nat) (h : i < s.size) : s[i].toNat = byt s.data.toList i := by
  unfold byt
  have : i < s.data.size := h
  simp [ByteArray.getElem_eq_getElem_data, List.getD, h]

set_option maxRecDepth 100000 in
set_option maxHeartbeats 2000000 in
theorem whole_any (s : ByteArray) (hs : s.size ≤ 1000) (a : Nat) (ha : a ≤ s.size) (w : World) :
    Calls Tryd.prog 28 #[.string s, .int .i64 a] w fun e w' => e = .returned (.tuple #[.int .i64 (wV s.data.toList a), .int .i64 (wE s.data.toList a)]) ∧ Below w.heap.size w w' := by
  obtain ⟨L, hL⟩ : ∃ L, s.data.toList = L := ⟨_, rfl⟩
  have hLs : s.size = L.length := by rw [← hL, Lib.size_eq]
  have HB := Lib.hid (fun i (h : i < s.size) => byt_str s i h)
  rw [hL] at HB ⊢
  obtain ⟨F, hF⟩ : ∃ F, wF L a = F := ⟨_, rfl⟩
  obtain ⟨P, hP⟩ : ∃ P, wD L 8 F 0 = P := ⟨_, rfl⟩
  have HV : Hid (wE L a = P.2 ∧ wV L a = if a < L.length ∧ byt L a = 45 then -((if P.2 = F then 1 else P.1 : Nat) : Int) else ((if P.2 = F then 1 else P.1 : Nat) : Int)) := by
    unfold Hid wE wV wN
    rw [hF, hP]
    exact ⟨rfl, rfl⟩
  have HP := Lib.hid hP
  have hPF : F ≤ P.2 := by rw [← hP]; exact wD_ge L _ _ _
  have hPl : P.2 ≤ L.length := by rw [← hP, ← hF]; exact wD_le L _ _ _ (wF_le (by omega))
  have hPn : P.1 < 100000000 := by rw [← hP]; have := wD_lt L 8 F 0 0 (by omega); omega
  obtain ⟨rV, hrV⟩ : ∃ x, wV L a = x := ⟨_, rfl⟩
  obtain ⟨rE, hrE⟩ : ∃ x, wE L a = x := ⟨_, rfl⟩
  rw [hrV, hrE] at HV ⊢
  have HF := Lib.hid hF
  clear hP hF hrV hrE hL
  rcases Nat.lt_or_ge a s.size with hlt | hge
  · have hb := HB.out a hlt
    by_cases h45 : byt L a = 45
    · have hF1 : F = a + 1 := by rw [← HF.out]; unfold wF; rw [if_pos ⟨by omega, .inl h45⟩]
      have HM := Lib.hid (show a < L.length ∧ byt L a = 45 from ⟨by omega, h45⟩)
      have e45 : ((s[a].toNat : Nat) : Int) = 45 := by omega
      subst hF1
      clear hb h45
      go_enter Tryd.func28, Tryd.ntmps28
      go_wp2_with fail
      go_loopg [1, 6] (L.length - (a + 1)) (fun g v1 v6 wr => wr = w ∧ ∃ (i n : Nat), v1 = .int .i64 i ∧ v6 = .int .i64 n ∧ a + 1 ≤ i ∧ i ≤ a + 1 + 8 ∧ i + g = L.length ∧ n < 10 ^ (i - (a + 1)) ∧ wD L (8 - (i - (a + 1))) i n = P)
      case atStart => exact ⟨rfl, a + 1, 0, by go_num, rfl, by omega, by omega, by omega, Nat.pow_pos (by omega), by rw [Nat.sub_self]; exact HP.out⟩
      case round =>
        obtain ⟨rfl, i, n, rfl, rfl, hi1, hi2, hig, hn, hrest⟩ := hrel
        have hn8 : n < 100000000 := Nat.lt_of_lt_of_le hn (Nat.pow_le_pow_right (n := 10) (by omega) (show i - (a + 1) ≤ 8 by omega))
        rcases Nat.lt_or_ge i s.size with hlt2 | hge2
        · have hc := HB.out i hlt2
          by_cases h48 : (48 : Int) ≤ ((s[i].toNat : Nat) : Int)
          · by_cases h57 : ((s[i].toNat : Nat) : Int) ≤ 57
            · by_cases h8 : i < a + 1 + 8
              · have HX : Hid (n * 10 + (byt L i - 48) < 10 ^ (i + 1 - (a + 1)) ∧ wD L (8 - (i + 1 - (a + 1))) (i + 1) (n * 10 + (byt L i - 48)) = P) := by
                  unfold Hid
                  refine ⟨?_, ?_⟩
                  · rw [show i + 1 - (a + 1) = (i - (a + 1)) + 1 from by omega, Nat.pow_succ]
                    omega
                  · rw [← hrest, show 8 - (i - (a + 1)) = (8 - (i + 1 - (a + 1))) + 1 from by omega, wD_yes (by omega) (by omega) (by omega)]
                obtain ⟨c, hcc⟩ : ∃ c, byt L i = c := ⟨_, rfl⟩
                rw [hcc] at HX hc
                have hc1 : ((s[i].toNat : Nat) : Int) = (c : Int) := by omega
                have hc2 : 48 ≤ c := by omega
                have hc3 : c ≤ 57 := by omega
                have hw : IntKind.u8.wrap ((c : Int) - 48) = (c : Int) - 48 := IntWalk.u8_in _ (by omega)
                clear hc hcc hrest hn h48 h57
                go_wp2
                go_roundg (gk - 1)
                case measure => omega
                case rel => exact ⟨rfl, i + 1, n * 10 + (c - 48), by go_num, by first | go_num | (congr 1; omega), by omega, by omega, by omega, HX.out.1, HX.out.2⟩
              · have HX : Hid (P = (n, i)) := by
                  unfold Hid
                  rw [← hrest, show 8 - (i - (a + 1)) = 0 from by omega]
                  all_goals rfl
                by_cases hi0 : i = a + 1
                · have HR : Hid (rE = a + 1 ∧ rV = -1) := by
                    have h1 := HV.out
                    rw [HX.out] at h1
                    refine ⟨by rw [h1.1]; exact hi0, ?_⟩
                    rw [h1.2, if_pos HM.out, if_pos hi0]
                    all_goals rfl
                  subst hi0
                  clear hrest
                  go_wp2_with fail
                  all_goals
                    go_ret2
                    exact ⟨by rw [HR.out.1, HR.out.2]; first | done | rfl | (simp; done), Below.refl _ _⟩
                · have HR : Hid (rE = i ∧ rV = -(n : Int)) := by
                    have h1 := HV.out
                    rw [HX.out] at h1
                    refine ⟨h1.1, ?_⟩
                    rw [h1.2, if_pos HM.out, if_neg hi0]
                  have hib : ((i : Int) == (a : Int) + 1) = false := by simp; omega
                  clear hrest
                  go_wp2_with fail
                  all_goals
                    go_ret2
                    exact ⟨by rw [HR.out.1, HR.out.2]; first | done | rfl, Below.refl _ _⟩
            · have HX : Hid (P = (n, i)) := by
                unfold Hid
                rw [← hrest, wD_no (by omega)]
              by_cases hi0 : i = a + 1
              · have HR : Hid (rE = a + 1 ∧ rV = -1) := by
                  have h1 := HV.out
                  rw [HX.out] at h1
                  refine ⟨by rw [h1.1]; exact hi0, ?_⟩
                  rw [h1.2, if_pos HM.out, if_pos hi0]
                  all_goals rfl
                subst hi0
                clear hrest
                go_wp2_with fail
                all_goals
                  go_ret2
                  exact ⟨by rw [HR.out.1, HR.out.2]; first | done | rfl | (simp; done), Below.refl _ _⟩
              · have HR : Hid (rE = i ∧ rV = -(n : Int)) := by
                  have h1 := HV.out
                  rw [HX.out] at h1
                  refine ⟨h1.1, ?_⟩
                  rw [h1.2, if_pos HM.out, if_neg hi0]
                have hib : ((i : Int) == (a : Int) + 1) = false := by simp; omega
                clear hrest
                go_wp2_with fail
                all_goals
                  go_ret2
                  exact ⟨by rw [HR.out.1, HR.out.2]; first | done | rfl, Below.refl _ _⟩
          · have HX : Hid (P = (n, i)) := by
              unfold Hid
              rw [← hrest, wD_no (by omega)]
            by_cases hi0 : i = a + 1
            · have HR : Hid (rE = a + 1 ∧ rV = -1) := by
                have h1 := HV.out
                rw [HX.out] at h1
                refine ⟨by rw [h1.1]; exact hi0, ?_⟩
                rw [h1.2, if_pos HM.out, if_pos hi0]
                all_goals rfl
              subst hi0
              clear hrest
              go_wp2_with fail
              all_goals
                go_ret2
                exact ⟨by rw [HR.out.1, HR.out.2]; first | done | rfl | (simp; done), Below.refl _ _⟩
            · have HR : Hid (rE = i ∧ rV = -(n : Int)) := by
                have h1 := HV.out
                rw [HX.out] at h1
                refine ⟨h1.1, ?_⟩
                rw [h1.2, if_pos HM.out, if_neg hi0]
              have hib : ((i : Int) == (a : Int) + 1) = false := by simp; omega
              clear hrest
              go_wp2_with fail
              all_goals
                go_ret2
                exact ⟨by rw [HR.out.1, HR.out.2]; first | done | rfl, Below.refl _ _⟩
        · have HX : Hid (P = (n, i)) := by
            unfold Hid
            rw [← hrest, wD_no (by omega)]
          by_cases hi0 : i = a + 1
          · have HR : Hid (rE = a + 1 ∧ rV = -1) := by
              have h1 := HV.out
              rw [HX.out] at h1
              refine ⟨by rw [h1.1]; exact hi0, ?_⟩
              rw [h1.2, if_pos HM.out, if_pos hi0]
              all_goals rfl
            subst hi0
            clear hrest
            go_wp2_with fail
            all_goals
              go_ret2
              exact ⟨by rw [HR.out.1, HR.out.2]; first | done | rfl | (simp; done), Below.refl _ _⟩
          · have HR : Hid (rE = i ∧ rV = -(n : Int)) := by
              have h1 := HV.out
              rw [HX.out] at h1
              refine ⟨h1.1, ?_⟩
              rw [h1.2, if_pos HM.out, if_neg hi0]
            have hib : ((i : Int) == (a : Int) + 1) = false := by simp; omega
            clear hrest
            go_wp2_with fail
            all_goals
              go_ret2
              exact ⟨by rw [HR.out.1, HR.out.2]; first | done | rfl, Below.refl _ _⟩
    · have HM := Lib.hid (show ¬ (a < L.length ∧ byt L a = 45) from fun h => h45 h.2)
      by_cases h43 : byt L a = 43
      · have hF1 : F = a + 1 := by rw [← HF.out]; unfold wF; rw [if_pos ⟨by omega, .inr h43⟩]
        have e43 : ((s[a].toNat : Nat) : Int) = 43 := by omega
        subst hF1
        clear hb h45 h43
        go_enter Tryd.func28, Tryd.ntmps28
        go_wp2_with fail
        go_loopg [1, 6] (L.length - (a + 1)) (fun g v1 v6 wr => wr = w ∧ ∃ (i n : Nat), v1 = .int .i64 i ∧ v6 = .int .i64 n ∧ a + 1 ≤ i ∧ i ≤ a + 1 + 8 ∧ i + g = L.length ∧ n < 10 ^ (i - (a + 1)) ∧ wD L (8 - (i - (a + 1))) i n = P)
        case atStart => exact ⟨rfl, a + 1, 0, by go_num, rfl, by omega, by omega, by omega, Nat.pow_pos (by omega), by rw [Nat.sub_self]; exact HP.out⟩
        case round =>
          obtain ⟨rfl, i, n, rfl, rfl, hi1, hi2, hig, hn, hrest⟩ := hrel
          have hn8 : n < 100000000 := Nat.lt_of_lt_of_le hn (Nat.pow_le_pow_right (n := 10) (by omega) (show i - (a + 1) ≤ 8 by omega))
          rcases Nat.lt_or_ge i s.size with hlt2 | hge2
          · have hc := HB.out i hlt2
            by_cases h48 : (48 : Int) ≤ ((s[i].toNat : Nat) : Int)
            · by_cases h57 : ((s[i].toNat : Nat) : Int) ≤ 57
              · by_cases h8 : i < a + 1 + 8
                · have HX : Hid (n * 10 + (byt L i - 48) < 10 ^ (i + 1 - (a + 1)) ∧ wD L (8 - (i + 1 - (a + 1))) (i + 1) (n * 10 + (byt L i - 48)) = P) := by
                    unfold Hid
                    refine ⟨?_, ?_⟩
                    · rw [show i + 1 - (a + 1) = (i - (a + 1)) + 1 from by omega, Nat.pow_succ]
                      omega
                    · rw [← hrest, show 8 - (i - (a + 1)) = (8 - (i + 1 - (a + 1))) + 1 from by omega, wD_yes (by omega) (by omega) (by omega)]
                  obtain ⟨c, hcc⟩ : ∃ c, byt L i = c := ⟨_, rfl⟩
                  rw [hcc] at HX hc
                  have hc1 : ((s[i].toNat : Nat) : Int) = (c : Int) := by omega
                  have hc2 : 48 ≤ c := by omega
                  have hc3 : c ≤ 57 := by omega
                  have hw : IntKind.u8.wrap ((c : Int) - 48) = (c : Int) - 48 := IntWalk.u8_in _ (by omega)
                  clear hc hcc hrest hn h48 h57
                  go_wp2
                  go_roundg (gk - 1)
                  case measure => omega
                  case rel => exact ⟨rfl, i + 1, n * 10 + (c - 48), by go_num, by first | go_num | (congr 1; omega), by omega, by omega, by omega, HX.out.1, HX.out.2⟩
                · have HX : Hid (P = (n, i)) := by
                    unfold Hid
                    rw [← hrest, show 8 - (i - (a + 1)) = 0 from by omega]
                    all_goals rfl
                  by_cases hi0 : i = a + 1
                  · have HR : Hid (rE = a + 1 ∧ rV = 1) := by
                      have h1 := HV.out
                      rw [HX.out] at h1
                      refine ⟨by rw [h1.1]; exact hi0, ?_⟩
                      rw [h1.2, if_neg HM.out, if_pos hi0]
                      all_goals rfl
                    subst hi0
                    clear hrest
                    go_wp2_with fail
                    all_goals
                      go_ret2
                      exact ⟨by rw [HR.out.1, HR.out.2]; first | done | rfl | (simp; done), Below.refl _ _⟩
                  · have HR : Hid (rE = i ∧ rV = (n : Int)) := by
                      have h1 := HV.out
                      rw [HX.out] at h1
                      refine ⟨h1.1, ?_⟩
                      rw [h1.2, if_neg HM.out, if_neg hi0]
                    have hib : ((i : Int) == (a : Int) + 1) = false := by simp; omega
                    clear hrest
                    go_wp2_with fail
                    all_goals
                      go_ret2
                      exact ⟨by rw [HR.out.1, HR.out.2]; first | done | rfl, Below.refl _ _⟩
              · have HX : Hid (P = (n, i)) := by
                  unfold Hid
                  rw [← hrest, wD_no (by omega)]
                by_cases hi0 : i = a + 1
                · have HR : Hid (rE = a + 1 ∧ rV = 1) := by
                    have h1 := HV.out
                    rw [HX.out] at h1
                    refine ⟨by rw [h1.1]; exact hi0, ?_⟩
                    rw [h1.2, if_neg HM.out, if_pos hi0]
                    all_goals rfl
                  subst hi0
                  clear hrest
                  go_wp2_with fail
                  all_goals
                    go_ret2
                    exact ⟨by rw [HR.out.1, HR.out.2]; first | done | rfl | (simp; done), Below.refl _ _⟩
                · have HR : Hid (rE = i ∧ rV = (n : Int)) := by
                    have h1 := HV.out
                    rw [HX.out] at h1
                    refine ⟨h1.1, ?_⟩
                    rw [h1.2, if_neg HM.out, if_neg hi0]
                  have hib : ((i : Int) == (a : Int) + 1) = false := by simp; omega
                  clear hrest
                  go_wp2_with fail
                  all_goals
                    go_ret2
                    exact ⟨by rw [HR.out.1, HR.out.2]; first | done | rfl, Below.refl _ _⟩
            · have HX : Hid (P = (n, i)) := by
                unfold Hid
                rw [← hrest, wD_no (by omega)]
              by_cases hi0 : i = a + 1
              · have HR : Hid (rE = a + 1 ∧ rV = 1) := by
                  have h1 := HV.out
                  rw [HX.out] at h1
                  refine ⟨by rw [h1.1]; exact hi0, ?_⟩
                  rw [h1.2, if_neg HM.out, if_pos hi0]
                  all_goals rfl
                subst hi0
                clear hrest
                go_wp2_with fail
                all_goals
                  go_ret2
                  exact ⟨by rw [HR.out.1, HR.out.2]; first | done | rfl | (simp; done), Below.refl _ _⟩
              · have HR : Hid (rE = i ∧ rV = (n : Int)) := by
                  have h1 := HV.out
                  rw [HX.out] at h1
                  refine ⟨h1.1, ?_⟩
                  rw [h1.2, if_neg HM.out, if_neg hi0]
                have hib : ((i : Int) == (a : Int) + 1) = false := by simp; omega
                clear hrest
                go_wp2_with fail
                all_goals
                  go_ret2
                  exact ⟨by rw [HR.out.1, HR.out.2]; first | done | rfl, Below.refl _ _⟩
          · have HX : Hid (P = (n, i)) := by
              unfold Hid
              rw [← hrest, wD_no (by omega)]
            by_cases hi0 : i = a + 1
            · have HR : Hid (rE = a + 1 ∧ rV = 1) := by
                have h1 := HV.out
                rw [HX.out] at h1
                refine ⟨by rw [h1.1]; exact hi0, ?_⟩
                rw [h1.2, if_neg HM.out, if_pos hi0]
                all_goals rfl
              subst hi0
              clear hrest
              go_wp2_with fail
              all_goals
                go_ret2
                exact ⟨by rw [HR.out.1, HR.out.2]; first | done | rfl | (simp; done), Below.refl _ _⟩
            · have HR : Hid (rE = i ∧ rV = (n : Int)) := by
                have h1 := HV.out
                rw [HX.out] at h1
                refine ⟨h1.1, ?_⟩
                rw [h1.2, if_neg HM.out, if_neg hi0]
              have hib : ((i : Int) == (a : Int) + 1) = false := by simp; omega
              clear hrest
              go_wp2_with fail
              all_goals
                go_ret2
                exact ⟨by rw [HR.out.1, HR.out.2]; first | done | rfl, Below.refl _ _⟩
      · have hF1 : F = a := by rw [← HF.out]; unfold wF; rw [if_neg (by omega)]
        have e45 : (((s[a].toNat : Nat) : Int) == 45) = false := by simp; omega
        have e43 : (((s[a].toNat : Nat) : Int) == 43) = false := by simp; omega
        subst hF1
        clear hb h45 h43
        go_enter Tryd.func28, Tryd.ntmps28
        go_wp2_with fail
        go_loopg [1, 6] (L.length - (F)) (fun g v1 v6 wr => wr = w ∧ ∃ (i n : Nat), v1 = .int .i64 i ∧ v6 = .int .i64 n ∧ F ≤ i ∧ i ≤ F + 8 ∧ i + g = L.length ∧ n < 10 ^ (i - (F)) ∧ wD L (8 - (i - (F))) i n = P)
        case atStart => exact ⟨rfl, F, 0, by go_num, rfl, by omega, by omega, by omega, Nat.pow_pos (by omega), by rw [Nat.sub_self]; exact HP.out⟩
        case round =>
          obtain ⟨rfl, i, n, rfl, rfl, hi1, hi2, hig, hn, hrest⟩ := hrel
          have hn8 : n < 100000000 := Nat.lt_of_lt_of_le hn (Nat.pow_le_pow_right (n := 10) (by omega) (show i - (F) ≤ 8 by omega))
          rcases Nat.lt_or_ge i s.size with hlt2 | hge2
          · have hc := HB.out i hlt2
            by_cases h48 : (48 : Int) ≤ ((s[i].toNat : Nat) : Int)
            · by_cases h57 : ((s[i].toNat : Nat) : Int) ≤ 57
              · by_cases h8 : i < F + 8
                · have HX : Hid (n * 10 + (byt L i - 48) < 10 ^ (i + 1 - (F)) ∧ wD L (8 - (i + 1 - (F))) (i + 1) (n * 10 + (byt L i - 48)) = P) := by
                    unfold Hid
                    refine ⟨?_, ?_⟩
                    · rw [show i + 1 - (F) = (i - (F)) + 1 from by omega, Nat.pow_succ]
                      omega
                    · rw [← hrest, show 8 - (i - (F)) = (8 - (i + 1 - (F))) + 1 from by omega, wD_yes (by omega) (by omega) (by omega)]
                  obtain ⟨c, hcc⟩ : ∃ c, byt L i = c := ⟨_, rfl⟩
                  rw [hcc] at HX hc
                  have hc1 : ((s[i].toNat : Nat) : Int) = (c : Int) := by omega
                  have hc2 : 48 ≤ c := by omega
                  have hc3 : c ≤ 57 := by omega
                  have hw : IntKind.u8.wrap ((c : Int) - 48) = (c : Int) - 48 := IntWalk.u8_in _ (by omega)
                  clear hc hcc hrest hn h48 h57
                  go_wp2
                  go_roundg (gk - 1)
                  case measure => omega
                  case rel => exact ⟨rfl, i + 1, n * 10 + (c - 48), by go_num, by first | go_num | (congr 1; omega), by omega, by omega, by omega, HX.out.1, HX.out.2⟩
                · have HX : Hid (P = (n, i)) := by
                    unfold Hid
                    rw [← hrest, show 8 - (i - (F)) = 0 from by omega]
                    all_goals rfl
                  by_cases hi0 : i = F
                  · have HR : Hid (rE = F ∧ rV = 1) := by
                      have h1 := HV.out
                      rw [HX.out] at h1
                      refine ⟨by rw [h1.1]; exact hi0, ?_⟩
                      rw [h1.2, if_neg HM.out, if_pos hi0]
                      all_goals rfl
                    subst hi0
                    clear hrest
                    go_wp2_with fail
                    all_goals
                      go_ret2
                      exact ⟨by rw [HR.out.1, HR.out.2]; first | done | rfl | (simp; done), Below.refl _ _⟩
                  · have HR : Hid (rE = i ∧ rV = (n : Int)) := by
                      have h1 := HV.out
                      rw [HX.out] at h1
                      refine ⟨h1.1, ?_⟩
                      rw [h1.2, if_neg HM.out, if_neg hi0]
                    have hib : ((i : Int) == (F : Int)) = false := by simp; omega
                    clear hrest
                    go_wp2_with fail
                    all_goals
                      go_ret2
                      exact ⟨by rw [HR.out.1, HR.out.2]; first | done | rfl, Below.refl _ _⟩
              · have HX : Hid (P = (n, i)) := by
                  unfold Hid
                  rw [← hrest, wD_no (by omega)]
                by_cases hi0 : i = F
                · have HR : Hid (rE = F ∧ rV = 1) := by
                    have h1 := HV.out
                    rw [HX.out] at h1
                    refine ⟨by rw [h1.1]; exact hi0, ?_⟩
                    rw [h1.2, if_neg HM.out, if_pos hi0]
                    all_goals rfl
                  subst hi0
                  clear hrest
                  go_wp2_with fail
                  all_goals
                    go_ret2
                    exact ⟨by rw [HR.out.1, HR.out.2]; first | done | rfl | (simp; done), Below.refl _ _⟩
                · have HR : Hid (rE = i ∧ rV = (n : Int)) := by
                    have h1 := HV.out
                    rw [HX.out] at h1
                    refine ⟨h1.1, ?_⟩
                    rw [h1.2, if_neg HM.out, if_neg hi0]
                  have hib : ((i : Int) == (F : Int)) = false := by simp; omega
                  clear hrest
                  go_wp2_with fail
                  all_goals
                    go_ret2
                    exact ⟨by rw [HR.out.1, HR.out.2]; first | done | rfl, Below.refl _ _⟩
            · have HX : Hid (P = (n, i)) := by
                unfold Hid
                rw [← hrest, wD_no (by omega)]
              by_cases hi0 : i = F
              · have HR : Hid (rE = F ∧ rV = 1) := by
                  have h1 := HV.out
                  rw [HX.out] at h1
                  refine ⟨by rw [h1.1]; exact hi0, ?_⟩
                  rw [h1.2, if_neg HM.out, if_pos hi0]
                  all_goals rfl
                subst hi0
                clear hrest
                go_wp2_with fail
                all_goals
                  go_ret2
                  exact ⟨by rw [HR.out.1, HR.out.2]; first | done | rfl | (simp; done), Below.refl _ _⟩
              · have HR : Hid (rE = i ∧ rV = (n : Int)) := by
                  have h1 := HV.out
                  rw [HX.out] at h1
                  refine ⟨h1.1, ?_⟩
                  rw [h1.2, if_neg HM.out, if_neg hi0]
                have hib : ((i : Int) == (F : Int)) = false := by simp; omega
                clear hrest
                go_wp2_with fail
                all_goals
                  go_ret2
                  exact ⟨by rw [HR.out.1, HR.out.2]; first | done | rfl, Below.refl _ _⟩
          · have HX : Hid (P = (n, i)) := by
              unfold Hid
              rw [← hrest, wD_no (by omega)]
            by_cases hi0 : i = F
            · have HR : Hid (rE = F ∧ rV = 1) := by
                have h1 := HV.out
                rw [HX.out] at h1
                refine ⟨by rw [h1.1]; exact hi0, ?_⟩
                rw [h1.2, if_neg HM.out, if_pos hi0]
                all_goals rfl
              subst hi0
              clear hrest
              go_wp2_with fail
              all_goals
                go_ret2
                exact ⟨by rw [HR.out.1, HR.out.2]; first | done | rfl | (simp; done), Below.refl _ _⟩
            · have HR : Hid (rE = i ∧ rV = (n : Int)) := by
                have h1 := HV.out
                rw [HX.out] at h1
                refine ⟨h1.1, ?_⟩
                rw [h1.2, if_neg HM.out, if_neg hi0]
              have hib : ((i : Int) == (F : Int)) = false := by simp; omega
              clear hrest
              go_wp2_with fail
              all_goals
                go_ret2
                exact ⟨by rw [HR.out.1, HR.out.2]; first | done | rfl, Below.refl _ _⟩
  · have HM := Lib.hid (show ¬ (a < L.length ∧ byt L a = 45) from fun h => by omega)
    have hF1 : F = a := by rw [← HF.out]; unfold wF; rw [if_neg (by omega)]
    subst hF1
    go_enter Tryd.func28, Tryd.ntmps28
    go_wp2_with fail
    go_loopg [1, 6] (L.length - (F)) (fun g v1 v6 wr => wr = w ∧ ∃ (i n : Nat), v1 = .int .i64 i ∧ v6 = .int .i64 n ∧ F ≤ i ∧ i ≤ F + 8 ∧ i + g = L.length ∧ n < 10 ^ (i - (F)) ∧ wD L (8 - (i - (F))) i n = P)
    case atStart => exact ⟨rfl, F, 0, by go_num, rfl, by omega, by omega, by omega, Nat.pow_pos (by omega), by rw [Nat.sub_self]; exact HP.out⟩
    case round =>
      obtain ⟨rfl, i, n, rfl, rfl, hi1, hi2, hig, hn, hrest⟩ := hrel
      have hn8 : n < 100000000 := Nat.lt_of_lt_of_le hn (Nat.pow_le_pow_right (n := 10) (by omega) (show i - (F) ≤ 8 by omega))
      rcases Nat.lt_or_ge i s.size with hlt2 | hge2
      · exfalso
        omega
      · have HX : Hid (P = (n, i)) := by
          unfold Hid
          rw [← hrest, wD_no (by omega)]
        by_cases hi0 : i = F
        · have HR : Hid (rE = F ∧ rV = 1) := by
            have h1 := HV.out
            rw [HX.out] at h1
            refine ⟨by rw [h1.1]; exact hi0, ?_⟩
            rw [h1.2, if_neg HM.out, if_pos hi0]
            all_goals rfl
          subst hi0
          clear hrest
          go_wp2_with fail
          all_goals
            go_ret2
            exact ⟨by rw [HR.out.1, HR.out.2]; first | done | rfl | (simp; done), Below.refl _ _⟩
        · have HR : Hid (rE = i ∧ rV = (n : Int)) := by
            have h1 := HV.out
            rw [HX.out] at h1
            refine ⟨h1.1, ?_⟩
            rw [h1.2, if_neg HM.out, if_neg hi0]
          have hib : ((i : Int) == (F : Int)) = false := by simp; omega
          clear hrest
          go_wp2_with fail
          all_goals
            go_ret2
            exact ⟨by rw [HR.out.1, HR.out.2]; first | done | rfl, Below.refl _ _⟩
end Go.Proofs.YtaocbebgdbeffaaDoor
