/- Quote: contracts in both texts, the plain law, the walk of TokenQuotes. -/
import Derived.Test.YtipnedgmmpdpjaaDoorTokM
import Derived.Lib.ReplaceLaws
set_option linter.unusedSimpArgs false
set_option linter.unusedVariables false
namespace Go.Proofs.YtipnedgmmpdpjaaDoor
open Go.RowKit

/-- Each quote twice. -/
def dbl : List UInt8 → List UInt8
  | [] => []
  | c :: r => if c = 34 then 34 :: 34 :: dbl r else c :: dbl r
def quoted34 (l : List UInt8) : List UInt8 := 34 :: (dbl l ++ [34])
theorem dbl_len : ∀ l : List UInt8, (dbl l).length ≤ 2 * l.length
  | [] => by simp [dbl]
  | c :: r => by
    have := dbl_len r
    unfold dbl
    split <;> simp <;> omega
theorem dbl_snoc : ∀ (l : List UInt8) (c : UInt8), dbl (l ++ [c]) = dbl l ++ (if c = 34 then [34, 34] else [c])
  | [], c => by
    show dbl [c] = _
    unfold dbl
    split <;> rfl
  | d :: r, c => by
    show dbl (d :: (r ++ [c])) = _
    unfold dbl
    rw [dbl_snoc r c]
    split <;> rfl
theorem rk_other (new : List UInt8) (b : UInt8) (hb : b ≠ 34) (l : List UInt8) : ∀ k, Lib.replaceK [34] new k (b :: l) = b :: Lib.replaceK [34] new k l := by
  intro k
  cases k with
  | zero => rfl
  | succ k =>
    have hp : List.isPrefixOf [(34 : UInt8)] (b :: l) = false := by
      simp [List.isPrefixOf]
      intro e
      exact hb e.symm
    have hi : Lib.index (b :: l) [34] = if Lib.index l [34] == -1 then -1 else Lib.index l [34] + 1 := by
      conv => lhs; unfold Lib.index
      rw [hp]
      rfl
    have hge := Lib.index_ge l [34]
    by_cases h : (Lib.index l [34] == -1) = true
    · rw [Lib.replaceK, Lib.replaceK, hi, if_pos h, if_pos h]
      rfl
    · have h2 : ¬ ((Lib.index l [34] + 1) == -1) = true := by
        intro e
        have := beq_iff_eq.1 e
        omega
      rw [Lib.replaceK, Lib.replaceK, hi, if_neg h, if_neg h2, if_neg h]
      obtain ⟨n, hn⟩ : ∃ n : Nat, Lib.index l [34] = (n : Int) := by
        have : Lib.index l [34] ≠ -1 := fun e => h (by rw [e]; rfl)
        exact ⟨(Lib.index l [34]).toNat, by omega⟩
      rw [hn, show ((n : Int) + 1).toNat = n + 1 by omega, show ((n : Int)).toNat = n by omega]
      simp
theorem rk_hit (new : List UInt8) (l : List UInt8) (k : Nat) : Lib.replaceK [34] new (k + 1) (34 :: l) = new ++ Lib.replaceK [34] new k l := by
  have hi : Lib.index (34 :: l) [34] = ((0 : Nat) : Int) := by unfold Lib.index; simp [List.isPrefixOf]
  rw [Lib.replaceK_hit [34] new k (34 :: l) 0 hi]
  simp
theorem rk_dbl : ∀ l : List UInt8, Lib.replaceK [34] [34, 34] (l.count 34) l = dbl l
  | [] => rfl
  | c :: r => by
    by_cases h : c = 34
    · subst h
      rw [List.count_cons_self, rk_hit, rk_dbl r]
      simp [dbl]
    · rw [List.count_cons_of_ne h, rk_other _ c h, rk_dbl r]
      simp [dbl, h]
theorem replaceAll_dbl (l : List UInt8) : Lib.replaceAll l [34] [34, 34] = dbl l := by
  unfold Lib.replaceAll Lib.replace Lib.replaceNum
  rw [if_neg (by decide), if_pos (.inl (by omega)), Lib.count_one]
  exact rk_dbl l

theorem quo_dbl : ∀ l : List UInt8, quo (dbl l ++ [34]) = some (l, (dbl l).length + 1)
  | [] => by simp [dbl, quo]
  | c :: r => by
    have ih := quo_dbl r
    by_cases h : c = 34
    · subst h
      have e : dbl (34 :: r) = 34 :: 34 :: dbl r := by simp [dbl]
      rw [e]
      show quo (34 :: 34 :: (dbl r ++ [34])) = _
      rw [quo, if_pos (by decide), if_pos (by decide), ih]
      simp
    · have e : dbl (c :: r) = c :: dbl r := by simp [dbl, h]
      rw [e]
      have hc : c.toNat ≠ 34 := fun e => h (UInt8.toNat.inj e)
      show quo (c :: (dbl r ++ [34])) = _
      cases hd : dbl r ++ [34] with
      | nil => simp at hd
      | cons d q =>
        rw [quo, if_neg hc, ← hd, ih]
        simp
theorem spl_quoted (l : List UInt8) : spl (quoted34 l) 0 = (some [(2, l, 0)], 0) := by
  have hn : nx (quoted34 l) 0 = 34 := rfl
  have ht : tok (quoted34 l) 0 = some (2, l, (dbl l).length + 1 + 1) := by
    unfold tok
    rw [hn, if_neg (by decide), if_neg (by decide), if_pos rfl]
    have e : (quoted34 l).drop (0 + 1) = dbl l ++ [34] := rfl
    rw [e, quo_dbl]
  rw [spl_some (quoted34 l) 0 (by simp [quoted34]) (by rw [hn]; decide) ht, spl_end _ _ (by simp [quoted34])]
  rfl

theorem countB_one (s : ByteArray) : Lib.countB s ⟨#[34]⟩ ≤ s.size := by
  have := Lib.countB_mul_le ⟨#[34]⟩ (by decide) s.size s (Nat.le_refl _)
  have e : (⟨#[34]⟩ : ByteArray).size = 1 := rfl
  rw [e, Nat.mul_one] at this
  exact this

set_option maxRecDepth 100000 in
set_option maxHeartbeats 1000000 in
theorem quote_any (s : ByteArray) (hs : s.size ≤ 100000) (w : World) (hsh : w.ShapedOpen Tryd.prog) :
    Calls Tryd.prog 5 #[.string s] w fun e w' => e = .returned (.string ⟨(quoted34 s.data.toList).toArray⟩) ∧ Below w.heap.size w w' := by
  have hc := countB_one s
  have HC := Lib.hid (Tryd.strings_ReplaceAll_shaped s ⟨#[34]⟩ ⟨#[34, 34]⟩ w hsh (by omega) (by decide) (by have e : (⟨#[34, 34]⟩ : ByteArray).size = 2 := rfl; rw [e]; omega))
  have e1 : Lib.replaceAll s.data.toList (⟨#[34]⟩ : ByteArray).data.toList (⟨#[34, 34]⟩ : ByteArray).data.toList = dbl s.data.toList := replaceAll_dbl _
  rw [e1] at HC
  have hl : (dbl s.data.toList).length ≤ 200000 := by have := dbl_len s.data.toList; rw [← Lib.size_eq] at this; omega
  obtain ⟨D, hD⟩ : ∃ D, dbl s.data.toList = D := ⟨_, rfl⟩
  rw [hD] at HC hl
  have HD : Hid (quoted34 s.data.toList = 34 :: (D ++ [34])) := by unfold Hid quoted34; rw [hD]
  have hz1 : (⟨D.toArray⟩ : ByteArray).size ≤ 200000 := by rw [size_of]; exact hl
  have hz2 : (⟨#[34]⟩ : ByteArray).size = 1 := rfl
  have HX : Hid ((⟨#[34]⟩ : ByteArray) ++ ⟨D.toArray⟩ ++ ⟨#[34]⟩ = ⟨(34 :: (D ++ [34])).toArray⟩) := by
    unfold Hid
    rw [show (⟨#[34]⟩ : ByteArray) = ⟨[34].toArray⟩ from rfl, cat2, cat2]
    rfl
  have hz3 : ((⟨#[34]⟩ : ByteArray) ++ ⟨D.toArray⟩).size ≤ 200001 := by
    rw [show (⟨#[34]⟩ : ByteArray) = ⟨[34].toArray⟩ from rfl, cat2, size_of]
    simp
    omega
  clear hc e1 hD hsh
  go_enter Tryd.func5, Tryd.ntmps5
  go_wp2_with fail
  refine HC.out.mono ?_
  rintro e w1 ⟨rfl, hb⟩
  go_wp2_with fail
  go_ret
  exact ⟨by rw [HD.out, ← HX.out]; rfl, hb⟩

set_option maxRecDepth 100000 in
set_option maxHeartbeats 1000000 in
theorem refQuote_any (s : ByteArray) (hs : s.size ≤ 100000) (w : World) :
    Calls Tryd.prog 7 #[.string s] w fun e w' => e = .returned (.string ⟨(quoted34 s.data.toList).toArray⟩) ∧ w = w' := by
  go_enter Tryd.func7, Tryd.ntmps7
  go_wp2_with fail
  go_loop [3, 4] (fun t v => ∃ (k : Nat) (x : ByteArray), v = .int .i64 k ∧ t = .string x ∧ k ≤ s.size ∧ x = ⟨(34 :: dbl (s.data.toList.take k)).toArray⟩) (fun _ v => s.size - (intOf v).toNat)
  case atStart => exact ⟨0, _, rfl, rfl, by omega, rfl⟩
  case round =>
    obtain ⟨k, x, rfl, rfl, hk, hx⟩ := hrel
    have hxs : x.size ≤ 300000 := by
      rw [hx, size_of]
      have h1 := dbl_len (s.data.toList.take k)
      have h2 : (s.data.toList.take k).length ≤ k := List.length_take_le _ _
      simp
      omega
    have HX := Lib.hid hx
    clear hx
    have hz2 : (⟨#[34]⟩ : ByteArray).size = 1 := rfl
    rcases Nat.lt_or_ge k s.size with hlt | hge
    · have hlt' : k < s.data.toList.length := by rw [← Lib.size_eq]; exact hlt
      obtain ⟨c, hc⟩ : ∃ c, nx s.data.toList k = c := ⟨_, rfl⟩
      have hb1 := nx_str s k hlt
      rw [hc] at hb1
      have hx1 := ext_one s k hlt
      rw [hc] at hx1
      have hz3 : (s.extract k (k + 1)).size = 1 := by rw [hx1]; rfl
      have hts : s.data.toList.take (k + 1) = s.data.toList.take k ++ [UInt8.ofNat c] := by
        rw [List.take_succ_eq_append_getElem hlt', ← hc, nx_get hlt', u8_eta]
      by_cases h34 : c = 34
      · have e1 : (((s[k].toNat : Nat) : Int) == 34) = true := by rw [hb1, h34]; rfl
        have HN : Hid (x ++ ⟨#[34]⟩ ++ s.extract k (k + 1) = ⟨(34 :: dbl (s.data.toList.take (k + 1))).toArray⟩) := by
          unfold Hid
          rw [HX.out, hx1, show (⟨#[34]⟩ : ByteArray) = ⟨[34].toArray⟩ from rfl, cat2, cat2, hts, dbl_snoc, h34]
          rw [if_pos (by decide)]
          simp
          try decide
        have hz4 : (x ++ ⟨#[34]⟩).size ≤ 300001 := by rw [HX.out, show (⟨#[34]⟩ : ByteArray) = ⟨[34].toArray⟩ from rfl, cat2, size_of]; have h := hxs; rw [HX.out, size_of] at h; simp at h ⊢; omega
        clear hc hb1 h34 hx1 hts
        go_wp2_with fail
        go_round
        case rel => exact ⟨k + 1, _, by go_num, rfl, by omega, HN.out⟩
        case measure => simp [intOf]; omega
      · have e1 : (((s[k].toNat : Nat) : Int) == 34) = false := by rw [hb1]; simp; omega
        have hc256 : c < 256 := by rw [← hc]; exact nx_lt _ _
        have HN : Hid (x ++ s.extract k (k + 1) = ⟨(34 :: dbl (s.data.toList.take (k + 1))).toArray⟩) := by
          unfold Hid
          rw [HX.out, hx1, cat2, hts, dbl_snoc, if_neg]
          · simp
          · intro e
            have := congrArg UInt8.toNat e
            simp at this
            omega
        clear hc hb1 h34 hx1 hts
        go_wp2_with fail
        go_round
        case rel => exact ⟨k + 1, _, by go_num, rfl, by omega, HN.out⟩
        case measure => simp [intOf]; omega
    · have HN : Hid (x ++ ⟨#[34]⟩ = ⟨(quoted34 s.data.toList).toArray⟩) := by
        unfold Hid quoted34
        rw [HX.out, List.take_of_length_le (by rw [← Lib.size_eq]; exact hge), show (⟨#[34]⟩ : ByteArray) = ⟨[34].toArray⟩ from rfl, cat2]
        simp
      go_wp2_with fail
      go_ret
      exact ⟨by rw [← HN.out]; rfl, rfl⟩

theorem lit_one (w : World) (s : ByteArray) : RdT (w.alloc (.cells #[.int .i64 2, .string s, .int .i64 0] tRk)) (some ⟨w.heap.size, 0, none⟩) 1 1 [(2, s.data.toList, 0)] := by
  refine ⟨rfl, Nat.le_refl _, by unfold maxLen; omega, .inr ⟨w.heap.size, rfl, by simp, fun j x hx => ?_⟩⟩
  have hj : j < 1 := (List.getElem?_eq_some_iff.1 hx).1
  simp only [World.cell?, heap_alloc_new]
  match j, hj with
  | 0, _ => cases hx; exact ⟨rfl, rfl, rfl⟩

set_option maxRecDepth 100000 in
set_option maxHeartbeats 2000000 in
theorem quotes_walk (s : ByteArray) (w : World) (hsh : w.ShapedOpen Tryd.prog) : Calls Tryd.prog 3 #[.string s] w fun e w' => e = .returned (.bool true) ∧ Below w.heap.size w w' := by
  have HSH := Lib.hid hsh
  clear hsh
  by_cases h6 : s.size ≤ 600
  · have h6' : (s.size : Int) ≤ 600 := by omega
    have HSPL := Lib.hid (spl_quoted s.data.toList)
    have hql : (quoted34 s.data.toList).length ≤ 2000 := by
      have := dbl_len s.data.toList
      rw [← Lib.size_eq] at this
      simp [quoted34]
      omega
    obtain ⟨Q, hQ⟩ : ∃ Q : ByteArray, Q = ⟨(quoted34 s.data.toList).toArray⟩ := ⟨_, rfl⟩
    have hQs : Q.size ≤ 2000 := by rw [hQ, size_of]; exact hql
    have HQT := Lib.hid (show spl Q.data.toList 0 = (some [(2, s.data.toList, 0)], 0) by rw [hQ]; exact HSPL.out)
    have HQA := Lib.hid (quote_any s (by omega) w HSH.out)
    have HQB := Lib.hid (fun W => refQuote_any s (by omega) W)
    rw [← hQ] at HQA HQB
    have he : (Q.toList == Q.toList) = true := by simp
    clear hQ hql
    go_enter Tryd.func3, Tryd.ntmps3
    go_wp2_with fail
    refine HQA.out.mono ?_
    rintro e w1 ⟨rfl, hb1⟩
    have hz1 := hb1.size
    have HB1 := Lib.hid hb1
    clear hb1
    go_wp2_with fail
    refine (split_any Q _ (by omega) HQT.out _).mono ?_
    rintro e w2 ⟨hb2, p, cap, rfl, hr⟩
    have HR := Lib.hid hr
    have hz2 := hb2.size
    have HB2 : Hid (Below w.heap.size w w2) := HB1.out.trans (hb2.mono hz1)
    clear hr hb2
    go_wp2_with fail
    refine (HQB.out _).mono ?_
    rintro e w3 ⟨rfl, rfl⟩
    go_wp2_with fail
    refine (same_yes p 1 cap _ 1 [(2, s.data.toList, 0)] (by omega) _ (HR.out.below ((Below.refl _ _).alloc (Nat.le_refl _) _)) (lit_one w2 s)).mono ?_
    rintro e w4 ⟨rfl, hb4⟩
    have HB4 : Hid (Below w.heap.size w w4) := (HB2.out.alloc HB2.out.size _).trans (hb4.mono (by have := HB2.out.size; simp; omega))
    clear hb4
    go_wp2_with fail
    refine (awake_any _).mono ?_
    rintro e w5 ⟨rfl, hb5⟩
    have HB5 : Hid (Below w.heap.size w w5) := HB4.out.trans (hb5.mono HB4.out.size)
    clear hb5
    go_wp2_with fail
    go_ret
    exact ⟨rfl, HB5.out⟩
  · have h6' : (600 : Int) < (s.size : Int) := by omega
    go_enter Tryd.func3, Tryd.ntmps3
    go_wp2_with fail
    refine (awake_any _).mono ?_
    rintro e w4 ⟨rfl, hb4⟩
    go_wp2_with fail
    go_ret
    exact ⟨rfl, hb4⟩
end Go.Proofs.YtipnedgmmpdpjaaDoor
