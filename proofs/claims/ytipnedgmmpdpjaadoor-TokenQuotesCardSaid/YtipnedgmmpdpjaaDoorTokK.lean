/- Contract of the program's Split. -/
import Derived.Test.YtipnedgmmpdpjaaDoorTokJ
set_option linter.unusedSimpArgs false
set_option linter.unusedVariables false
namespace Go.Proofs.YtipnedgmmpdpjaaDoor
open Go.RowKit

set_option maxRecDepth 100000 in
set_option maxHeartbeats 4000000 in
theorem split_any (s : ByteArray) (R : Option (List Tk) × Nat) (hs : s.size ≤ 100000) (hR : spl s.data.toList 0 = R) (w : World) :
    Calls Tryd.prog 6 #[.string s] w (RetS (.int .i64 0) (.int .i64 21) R w) := by
  obtain ⟨i0, hi, hz0, hz1', hz2⟩ := info_parts info_tk
  have HR := Lib.hid hR
  clear hR
  go_enter Tryd.func6, Tryd.ntmps6
  go_wp2_with fail
  refine wp_scope_many (fun l a' wr => l = 0 ∧ ∃ (k : Nat) (acc : List Tk) (v : Value), k ≤ s.size ∧ acc.length ≤ k ∧ sm acc (spl s.data.toList k) = R ∧ wr.ownsRow w.heap.size tTk 3 v acc.length (acc.flatMap tkc) ∧ Below w.heap.size w wr ∧ ∃ u1 u7 u8 u9 u10 u11 u12 u13 u14 u15 u16 u17 u18 u19 u20 u21 u22 u23 u24 u25 u26 u27 u28 u29 u30 u31 u32 u33 : Value, a' = { tmps := #[.string s, u1, .slice none 0 0, .int .i64 0, .int .i64 0, v, .int .i64 k, u7, u8, u9, u10, u11, u12, u13, u14, u15, u16, u17, u18, u19, u20, u21, u22, u23, u24, u25, u26, u27, u28, u29, u30, u31, u32, u33], defers := [] }) (fun _ a' _ => 600000 - (intOf (a'.tmps.getD 6 undef)).toNat) 600001 ?_ ?_
  · go_wp2_with fail
    go_step3
    go_wp2_with fail
    refine (show ∀ (c : Code) (Q : Exit → Act → World → Prop), (∀ (k : Nat) (acc : List Tk) (v : Value) (wr : World), k ≤ s.size → acc.length ≤ k → sm acc (spl s.data.toList k) = R → wr.ownsRow w.heap.size tTk 3 v acc.length (acc.flatMap tkc) → Below w.heap.size w wr → c.wp Tryd.prog Q { tmps := #[.string s, undef, .slice none 0 0, .int .i64 0, .int .i64 0, v, .int .i64 k, undef, undef, undef, undef, undef, undef, undef, undef, undef, undef, undef, undef, undef, undef, undef, undef, undef, undef, undef, undef, undef, undef, undef, undef, undef, undef, undef], defers := [] } wr) → c.wp Tryd.prog Q { tmps := #[.string s, undef, .slice none 0 0, .int .i64 0, .int .i64 0, .slice none 0 0, .int .i64 0, undef, undef, undef, undef, undef, undef, undef, undef, undef, undef, undef, undef, undef, undef, undef, undef, undef, undef, undef, undef, undef, undef, undef, undef, undef, undef, undef], defers := [] } w from fun c Q key => key 0 [] (.slice none 0 0) w (by omega) (by simp) (by rw [sm_nil]; exact HR.out) (World.ownsRow_nil _ _ _ _) (Below.refl _ _)) _ _ ?_
    intro k acc v wr hks hal hq hown hbl
    have HQ := Lib.hid hq
    have HOWN := Lib.hid hown
    have HBL := Lib.hid hbl
    have hzz := hbl.size
    clear hq hown hbl HR
    go_wp2_with fail
    go_loopw [6] (fun a wx => ∃ j : Nat, a = .int .i64 j ∧ k ≤ j ∧ j ≤ s.size ∧ spl s.data.toList j = spl s.data.toList k ∧ wx = wr) (fun a _ => s.size - (intOf a).toNat)
    case atStart => exact ⟨k, rfl, by omega, by omega, rfl, rfl⟩
    case round =>
      obtain ⟨j, rfl, hkj, hjs, hsj, hwx⟩ := hrel
      subst hwx
      obtain ⟨c, hc⟩ : ∃ c, nx s.data.toList j = c := ⟨_, rfl⟩
      by_cases h32 : c = 32
      · have hj1 : j + 1 ≤ s.size := by
          have := lt_of_nx (L := s.data.toList) (i := j) (by omega)
          rw [← Lib.size_eq] at this
          omega
        have HS1 : Hid (spl s.data.toList (j + 1) = spl s.data.toList k) := by
          unfold Hid
          rw [← spl_blank s.data.toList j (by omega)]
          exact hsj
        have e1 : (((c : Nat) : Int) == 32) = true := by rw [h32]; rfl
        have HC := Lib.hid hc
        clear hc h32 hsj
        go_wp2_with fail
        refine (next_z s _ j c hs (by omega) HC.out _).mono ?_
        rintro e w1 ⟨rfl, rfl⟩
        go_wp2_with fail
        go_roundw
        case rel => exact ⟨j + 1, by go_num, by omega, hj1, HS1.out, by first | rfl | trivial⟩
        case measure => simp [intOf]; omega
      · have e1 : (((c : Nat) : Int) == 32) = false := by simp; omega
        have HQ2 : Hid (sm acc (spl s.data.toList j) = R) := by unfold Hid; rw [hsj]; exact HQ.out
        have HC := Lib.hid hc
        clear hsj
        rcases Nat.lt_or_ge j s.size with hlt | hge
        · have hlt' : j < s.data.toList.length := by rw [← Lib.size_eq]; exact hlt
          have hne : (((j : Nat) : Int) == (s.size : Int)) = false := by simp; omega
          cases ht : tok s.data.toList j with
          | none =>
            have HR1 : Hid (R = (none, j)) := by
              have h := HQ2.out
              rw [spl_none s.data.toList j hlt' (by omega) ht] at h
              exact h.symm
            have HT := Lib.hid ht
            clear hc h32 ht
            go_wp2_with fail
            refine (next_z s _ j c hs (by omega) HC.out _).mono ?_
            rintro e w1 ⟨rfl, rfl⟩
            go_wp2_with fail
            refine (one_any s j hs hlt _).mono ?_
            rintro e w1 ⟨hb1, ve, rfl, hv⟩
            rw [HT.out] at hv
            obtain ⟨k', t', a', rfl⟩ := hv
            have hz1 := hb1.size
            have HBL2 : Hid (Below w.heap.size w w1) := HBL.out.trans (hb1.mono (by omega))
            have HBL3 : Hid (Below w.heap.size w (w1.alloc (.cells #[.int .i64 k', .string t', .int .i64 a'] tTk))) := HBL2.out.alloc (by omega) _
            clear hb1
            go_wp2_with fail
            simp only [jumps_ret]
            go_ret3
            exact rets_none HR1.out HBL3.out
          | some x =>
            obtain ⟨k', t', n⟩ := x
            have hpos := tok_pos hlt' ht
            rw [← Lib.size_eq] at hpos
            have HR1 : Hid (sm (acc ++ [(k', t', j)]) (spl s.data.toList (j + n)) = R) := by
              have h := HQ2.out
              rw [spl_some s.data.toList j hlt' (by omega) ht, sm_sm] at h
              exact h
            have HT := Lib.hid ht
            have hn0 : (((j + n : Nat) : Int) == 0) = false := by simp; omega
            clear hc h32 ht
            go_wp2_with fail
            refine (next_z s _ j c hs (by omega) HC.out _).mono ?_
            rintro e w1 ⟨rfl, rfl⟩
            go_wp2_with fail
            refine (one_any s j hs hlt _).mono ?_
            rintro e w1 ⟨hb1, ve, rfl, hv⟩
            rw [HT.out] at hv
            have hv : ve = .tuple #[.agg #[.int .i64 k', .string ⟨t'.toArray⟩, .int .i64 j], .int .i64 ((j + n : Nat) : Int)] := hv
            subst hv
            have hz1 := hb1.size
            have HBL2 : Hid (Below w.heap.size w w1) := HBL.out.trans (hb1.mono (by omega))
            have HBL3 : Hid (Below w.heap.size w (w1.alloc (.cells #[.int .i64 k', .string ⟨t'.toArray⟩, .int .i64 j] tTk))) := HBL2.out.alloc (by omega) _
            have HO3 : Hid ((w1.alloc (.cells #[.int .i64 k', .string ⟨t'.toArray⟩, .int .i64 j] tTk)).ownsRow w.heap.size tTk 3 v acc.length (acc.flatMap tkc)) := own_below (own_below HOWN.out hb1) ((Below.refl _ _).alloc (Nat.le_refl _) _)
            clear hb1
            obtain ⟨z, hz⟩ : ∃ z, j + n = z := ⟨_, rfl⟩
            rw [hz] at hn0 HR1
            rw [hz]
            have hzs : z ≤ s.size := by omega
            have hjz : j + 1 ≤ z := by omega
            clear hz hpos
            go_wp2_with (at_builtin; refine wpList_append_own _ rfl _ _ _ rfl w.heap.size tTk i0 (.agg #[.int .i64 0, .string ⟨#[]⟩, .int .i64 0]) 3 32 Tryd.underlying24 hi hz0 hz1' hz2 rfl (by decide) _ acc.length (acc.flatMap tkc) rfl (HO3.out.alloc _) ⟨w1.heap.size + 1, 0, none⟩ 1 1 (tkc (k', t', j)) rfl rfl ?c1 ?c2 ?c3 ?c4 ?c5 ?_)
            case c1 => have := news3 (w1.alloc (.cells #[.int .i64 k', .string ⟨t'.toArray⟩, .int .i64 j] tTk)) (.int .i64 k') (.string ⟨t'.toArray⟩) (.int .i64 j) tTk; simp only [World.size_alloc] at this; exact this
            case c2 => exact one3 _
            case c3 => unfold maxLen; omega
            case c4 => omega
            case c5 => simp; omega
            intro v' w2 hown2 hgrow2 _
            have HO4 : Hid (w2.ownsRow w.heap.size tTk 3 v' (acc ++ [(k', t', j)]).length ((acc ++ [(k', t', j)]).flatMap tkc)) := by
              unfold Hid
              rw [tk_snoc, List.length_append]
              exact hown2
            have HBL4 : Hid (Below w.heap.size w w2) := (HBL3.out.alloc (by simp; omega) _).grown hgrow2 (by simp; omega) (fun k hk => (HO3.out.lt k hk).1)
            clear hown2 hgrow2
            go_wp2_with fail
            go_step3
            refine ⟨⟨rfl, z, acc ++ [(k', t', j)], v', hzs, by simp; omega, HR1.out, HO4.out, HBL4.out, ⟨_, _, _, _, _, _, _, _, _, _, _, _, _, _, _, _, _, _, _, _, _, _, _, _, _, _, _, _, by first | rfl | go_num⟩⟩, by simp [intOf]; omega⟩
        · obtain rfl : j = s.size := by omega
          have HR1 : Hid (R = (some acc, 0)) := by
            have h := HQ2.out
            rw [spl_end s.data.toList _ (by rw [← Lib.size_eq]; omega)] at h
            rw [← h]
            simp [sm, Hid]
          clear hc h32
          go_wp2_with fail
          refine (next_z s _ s.size c hs rfl HC.out _).mono ?_
          rintro e w1 ⟨rfl, rfl⟩
          go_wp2_with fail
          simp only [jumps_ret]
          go_ret3
          exact rets_some HR1.out HOWN.out HBL.out

  · rintro l a' wr ⟨rfl, k, acc, v, hks, hal, hq, hown, hbl, ⟨u1, u7, u8, u9, u10, u11, u12, u13, u14, u15, u16, u17, u18, u19, u20, u21, u22, u23, u24, u25, u26, u27, u28, u29, u30, u31, u32, u33, rfl⟩⟩
    refine ⟨_, rfl, ?_⟩
    have HQ := Lib.hid hq
    have HOWN := Lib.hid hown
    have HBL := Lib.hid hbl
    have hzz := hbl.size
    clear hq hown hbl HR
    go_wp2_with fail
    go_loopw [6] (fun a wx => ∃ j : Nat, a = .int .i64 j ∧ k ≤ j ∧ j ≤ s.size ∧ spl s.data.toList j = spl s.data.toList k ∧ wx = wr) (fun a _ => s.size - (intOf a).toNat)
    case atStart => exact ⟨k, rfl, by omega, by omega, rfl, rfl⟩
    case round =>
      obtain ⟨j, rfl, hkj, hjs, hsj, hwx⟩ := hrel
      subst hwx
      obtain ⟨c, hc⟩ : ∃ c, nx s.data.toList j = c := ⟨_, rfl⟩
      by_cases h32 : c = 32
      · have hj1 : j + 1 ≤ s.size := by
          have := lt_of_nx (L := s.data.toList) (i := j) (by omega)
          rw [← Lib.size_eq] at this
          omega
        have HS1 : Hid (spl s.data.toList (j + 1) = spl s.data.toList k) := by
          unfold Hid
          rw [← spl_blank s.data.toList j (by omega)]
          exact hsj
        have e1 : (((c : Nat) : Int) == 32) = true := by rw [h32]; rfl
        have HC := Lib.hid hc
        clear hc h32 hsj
        go_wp2_with fail
        refine (next_z s _ j c hs (by omega) HC.out _).mono ?_
        rintro e w1 ⟨rfl, rfl⟩
        go_wp2_with fail
        go_roundw
        case rel => exact ⟨j + 1, by go_num, by omega, hj1, HS1.out, by first | rfl | trivial⟩
        case measure => simp [intOf]; omega
      · have e1 : (((c : Nat) : Int) == 32) = false := by simp; omega
        have HQ2 : Hid (sm acc (spl s.data.toList j) = R) := by unfold Hid; rw [hsj]; exact HQ.out
        have HC := Lib.hid hc
        clear hsj
        rcases Nat.lt_or_ge j s.size with hlt | hge
        · have hlt' : j < s.data.toList.length := by rw [← Lib.size_eq]; exact hlt
          have hne : (((j : Nat) : Int) == (s.size : Int)) = false := by simp; omega
          cases ht : tok s.data.toList j with
          | none =>
            have HR1 : Hid (R = (none, j)) := by
              have h := HQ2.out
              rw [spl_none s.data.toList j hlt' (by omega) ht] at h
              exact h.symm
            have HT := Lib.hid ht
            clear hc h32 ht
            go_wp2_with fail
            refine (next_z s _ j c hs (by omega) HC.out _).mono ?_
            rintro e w1 ⟨rfl, rfl⟩
            go_wp2_with fail
            refine (one_any s j hs hlt _).mono ?_
            rintro e w1 ⟨hb1, ve, rfl, hv⟩
            rw [HT.out] at hv
            obtain ⟨k', t', a', rfl⟩ := hv
            have hz1 := hb1.size
            have HBL2 : Hid (Below w.heap.size w w1) := HBL.out.trans (hb1.mono (by omega))
            have HBL3 : Hid (Below w.heap.size w (w1.alloc (.cells #[.int .i64 k', .string t', .int .i64 a'] tTk))) := HBL2.out.alloc (by omega) _
            clear hb1
            go_wp2_with fail
            simp only [jumps_ret]
            go_ret3
            exact rets_none HR1.out HBL3.out
          | some x =>
            obtain ⟨k', t', n⟩ := x
            have hpos := tok_pos hlt' ht
            rw [← Lib.size_eq] at hpos
            have HR1 : Hid (sm (acc ++ [(k', t', j)]) (spl s.data.toList (j + n)) = R) := by
              have h := HQ2.out
              rw [spl_some s.data.toList j hlt' (by omega) ht, sm_sm] at h
              exact h
            have HT := Lib.hid ht
            have hn0 : (((j + n : Nat) : Int) == 0) = false := by simp; omega
            clear hc h32 ht
            go_wp2_with fail
            refine (next_z s _ j c hs (by omega) HC.out _).mono ?_
            rintro e w1 ⟨rfl, rfl⟩
            go_wp2_with fail
            refine (one_any s j hs hlt _).mono ?_
            rintro e w1 ⟨hb1, ve, rfl, hv⟩
            rw [HT.out] at hv
            have hv : ve = .tuple #[.agg #[.int .i64 k', .string ⟨t'.toArray⟩, .int .i64 j], .int .i64 ((j + n : Nat) : Int)] := hv
            subst hv
            have hz1 := hb1.size
            have HBL2 : Hid (Below w.heap.size w w1) := HBL.out.trans (hb1.mono (by omega))
            have HBL3 : Hid (Below w.heap.size w (w1.alloc (.cells #[.int .i64 k', .string ⟨t'.toArray⟩, .int .i64 j] tTk))) := HBL2.out.alloc (by omega) _
            have HO3 : Hid ((w1.alloc (.cells #[.int .i64 k', .string ⟨t'.toArray⟩, .int .i64 j] tTk)).ownsRow w.heap.size tTk 3 v acc.length (acc.flatMap tkc)) := own_below (own_below HOWN.out hb1) ((Below.refl _ _).alloc (Nat.le_refl _) _)
            clear hb1
            obtain ⟨z, hz⟩ : ∃ z, j + n = z := ⟨_, rfl⟩
            rw [hz] at hn0 HR1
            rw [hz]
            have hzs : z ≤ s.size := by omega
            have hjz : j + 1 ≤ z := by omega
            clear hz hpos
            go_wp2_with (at_builtin; refine wpList_append_own _ rfl _ _ _ rfl w.heap.size tTk i0 (.agg #[.int .i64 0, .string ⟨#[]⟩, .int .i64 0]) 3 32 Tryd.underlying24 hi hz0 hz1' hz2 rfl (by decide) _ acc.length (acc.flatMap tkc) rfl (HO3.out.alloc _) ⟨w1.heap.size + 1, 0, none⟩ 1 1 (tkc (k', t', j)) rfl rfl ?c1 ?c2 ?c3 ?c4 ?c5 ?_)
            case c1 => have := news3 (w1.alloc (.cells #[.int .i64 k', .string ⟨t'.toArray⟩, .int .i64 j] tTk)) (.int .i64 k') (.string ⟨t'.toArray⟩) (.int .i64 j) tTk; simp only [World.size_alloc] at this; exact this
            case c2 => exact one3 _
            case c3 => unfold maxLen; omega
            case c4 => omega
            case c5 => simp; omega
            intro v' w2 hown2 hgrow2 _
            have HO4 : Hid (w2.ownsRow w.heap.size tTk 3 v' (acc ++ [(k', t', j)]).length ((acc ++ [(k', t', j)]).flatMap tkc)) := by
              unfold Hid
              rw [tk_snoc, List.length_append]
              exact hown2
            have HBL4 : Hid (Below w.heap.size w w2) := (HBL3.out.alloc (by simp; omega) _).grown hgrow2 (by simp; omega) (fun k hk => (HO3.out.lt k hk).1)
            clear hown2 hgrow2
            go_wp2_with fail
            go_step3
            refine ⟨⟨rfl, z, acc ++ [(k', t', j)], v', hzs, by simp; omega, HR1.out, HO4.out, HBL4.out, ⟨_, _, _, _, _, _, _, _, _, _, _, _, _, _, _, _, _, _, _, _, _, _, _, _, _, _, _, _, by first | rfl | go_num⟩⟩, by simp [intOf]; omega⟩
        · obtain rfl : j = s.size := by omega
          have HR1 : Hid (R = (some acc, 0)) := by
            have h := HQ2.out
            rw [spl_end s.data.toList _ (by rw [← Lib.size_eq]; omega)] at h
            rw [← h]
            simp [sm, Hid]
          clear hc h32
          go_wp2_with fail
          refine (next_z s _ s.size c hs rfl HC.out _).mono ?_
          rintro e w1 ⟨rfl, rfl⟩
          go_wp2_with fail
          simp only [jumps_ret]
          go_ret3
          exact rets_some HR1.out HOWN.out HBL.out

end Go.Proofs.YtipnedgmmpdpjaaDoor
