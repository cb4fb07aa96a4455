/- Contract of the document's Split. -/
import Derived.Test.YtjklbbmgjjdalaaGreatDoorBbR
set_option linter.unusedSimpArgs false
set_option linter.unusedVariables false
namespace Go.Proofs.YtjklbbmgjjdalaaGreatDoor.Tks
open Go.RowKit
set_option maxRecDepth 100000 in
set_option maxHeartbeats 4000000 in
theorem refSplit_any (s : ByteArray) (R : Option (List Tk) × Nat) (hs : s.size ≤ 100000) (hR : spl s.data.toList 0 = R) (w : World) :
    Calls Tryz.prog 50 #[.string s] w (RetS (.bool true) (.bool false) R w) := by
  obtain ⟨i0, hi, hz0, hz1', hz2⟩ := info_parts info_rk
  have HR := Lib.hid hR
  clear hR
  go_enter Tryz.func50, Tryz.ntmps50
  go_wp2_with fail
  go_loopw [5, 6] (fun v a wr => ∃ (k : Nat) (acc : List Tk), a = .int .i64 k ∧ k ≤ s.size ∧ acc.length ≤ k ∧ sm acc (spl s.data.toList k) = R ∧ wr.ownsRow w.heap.size tRk 3 v acc.length (acc.flatMap tkc) ∧ Below w.heap.size w wr) (fun _ a _ => s.size - (intOf a).toNat)
  case atStart => exact ⟨0, [], rfl, by omega, by simp, by rw [sm_nil]; exact HR.out, World.ownsRow_nil _ _ _ _, Below.refl _ _⟩
  case round =>
    obtain ⟨j, acc, rfl, hjs, hal, hq, hown, hbl⟩ := hrel
    have HQ := Lib.hid hq
    have HOWN := Lib.hid hown
    have HBL := Lib.hid hbl
    have hzz := hbl.size
    clear hq hown hbl HR
    rcases Nat.lt_or_ge j s.size with hlt | hge
    · have hlt' : j < s.data.toList.length := by rw [← Lib.size_eq]; exact hlt
      obtain ⟨c, hc⟩ : ∃ c, nx s.data.toList j = c := ⟨_, rfl⟩
      have hb1 := nx_str s j hlt
      rw [hc] at hb1
      by_cases h32 : c = 32
      · have HS1 : Hid (sm acc (spl s.data.toList (j + 1)) = R) := by
          unfold Hid
          rw [← spl_blank s.data.toList j (by omega)]
          exact HQ.out
        have e1 : (((s[j].toNat : Nat) : Int) == 32) = true := by rw [hb1, h32]; rfl
        clear hc h32 hb1
        go_wp2_with fail
        go_roundw
        case rel => exact ⟨j + 1, acc, by go_num, by omega, by omega, HS1.out, HOWN.out, HBL.out⟩
        case measure => simp [intOf]; omega
      · have e1 : (((s[j].toNat : Nat) : Int) == 32) = false := by rw [hb1]; simp; omega
        cases ht : tok s.data.toList j with
        | none =>
          have HR1 : Hid (R = (none, j)) := by
            have h := HQ.out
            rw [spl_none s.data.toList j hlt' (by omega) ht] at h
            exact h.symm
          have HT := Lib.hid ht
          clear hc h32 hb1 ht
          go_wp2_with fail
          refine (refOne_any s j hs hlt _).mono ?_
          rintro e w1 ⟨hb1, ve, rfl, hv⟩
          rw [HT.out] at hv
          obtain ⟨k', t', a', rfl⟩ := hv
          have hz1 := hb1.size
          have HBL2 : Hid (Below w.heap.size w w1) := HBL.out.trans (hb1.mono (by omega))
          have HBL3 : Hid (Below w.heap.size w (w1.alloc (.cells #[.int .i64 k', .string t', .int .i64 a'] tRk))) := HBL2.out.alloc (by omega) _
          clear hb1
          go_wp2_with fail
          go_ret3
          exact rets_none HR1.out HBL3.out
        | some x =>
          obtain ⟨k', t', n⟩ := x
          have hpos := tok_pos hlt' ht
          rw [← Lib.size_eq] at hpos
          have HR1 : Hid (sm (acc ++ [(k', t', j)]) (spl s.data.toList (j + n)) = R) := by
            have h := HQ.out
            rw [spl_some s.data.toList j hlt' (by omega) ht, sm_sm] at h
            exact h
          have HT := Lib.hid ht
          have hn0 : (((n : Nat) : Int) == 0) = false := by simp; omega
          clear hc h32 hb1 ht
          go_wp2_with fail
          refine (refOne_any s j hs hlt _).mono ?_
          rintro e w1 ⟨hb1, ve, rfl, hv⟩
          rw [HT.out] at hv
          have hv : ve = .tuple #[.agg #[.int .i64 k', .string ⟨t'.toArray⟩, .int .i64 j], .int .i64 ((0 + n : Nat) : Int)] := hv
          rw [Nat.zero_add] at hv
          subst hv
          have hz1 := hb1.size
          have HBL2 : Hid (Below w.heap.size w w1) := HBL.out.trans (hb1.mono (by omega))
          have HBL3 : Hid (Below w.heap.size w (w1.alloc (.cells #[.int .i64 k', .string ⟨t'.toArray⟩, .int .i64 j] tRk))) := HBL2.out.alloc (by omega) _
          obtain ⟨v, hveq⟩ : ∃ v, v = u5 := ⟨_, rfl⟩
          subst hveq
          have HO3 : Hid ((w1.alloc (.cells #[.int .i64 k', .string ⟨t'.toArray⟩, .int .i64 j] tRk)).ownsRow w.heap.size tRk 3 v acc.length (acc.flatMap tkc)) := own_below (own_below HOWN.out hb1) ((Below.refl _ _).alloc (Nat.le_refl _) _)
          clear hb1
          go_wp2_with (at_builtin; refine wpList_append_own _ rfl _ _ _ rfl w.heap.size tRk i0 (.agg #[.int .i64 0, .string ⟨#[]⟩, .int .i64 0]) 3 32 Tryz.underlying108 hi hz0 hz1' hz2 rfl (by decide) _ acc.length (acc.flatMap tkc) rfl (HO3.out.alloc _) ⟨w1.heap.size + 1, 0, none⟩ 1 1 (tkc (k', t', j)) rfl rfl ?c1 ?c2 ?c3 ?c4 ?c5 ?_)
          case c1 => have := news3 (w1.alloc (.cells #[.int .i64 k', .string ⟨t'.toArray⟩, .int .i64 j] tRk)) (.int .i64 k') (.string ⟨t'.toArray⟩) (.int .i64 j) tRk; simp only [World.size_alloc] at this; exact this
          case c2 => exact one3 _
          case c3 => unfold maxLen; omega
          case c4 => omega
          case c5 => simp; omega
          intro v' w2 hown2 hgrow2 _
          have HO4 : Hid (w2.ownsRow w.heap.size tRk 3 v' (acc ++ [(k', t', j)]).length ((acc ++ [(k', t', j)]).flatMap tkc)) := by
            unfold Hid
            rw [tk_snoc, List.length_append]
            exact hown2
          have HBL4 : Hid (Below w.heap.size w w2) := (HBL3.out.alloc (by simp; omega) _).grown hgrow2 (by simp; omega) (fun k hk => (HO3.out.lt k hk).1)
          clear hown2 hgrow2
          go_wp2_with fail
          go_roundw
          case rel => exact ⟨j + n, acc ++ [(k', t', j)], by go_num, by omega, by simp; omega, HR1.out, HO4.out, HBL4.out⟩
          case measure => simp [intOf]; omega
    · obtain rfl : j = s.size := by omega
      have HR1 : Hid (R = (some acc, 0)) := by
        have h := HQ.out
        rw [spl_end s.data.toList _ (by rw [← Lib.size_eq]; omega)] at h
        rw [← h]
        simp [sm, Hid]
      go_wp2_with fail
      go_ret3
      exact rets_some HR1.out HOWN.out HBL.out
end Go.Proofs.YtjklbbmgjjdalaaGreatDoor.Tks
