/- Contract of the program's Split. The parser in memory: its block, its tokens; 'is'. The parser: 'sign'. -/
import Derived.Test.YtigmcoelkkihkaaGreatDoorPmQ
import Derived.Test.YtigmcoelkkihkaaGreatDoorPmN
import Derived.Test.YtigmcoelkkihkaaGreatDoorPmM
set_option linter.unusedSimpArgs false
set_option linter.unusedVariables false
namespace Go.Proofs.YtigmcoelkkihkaaGreatDoor.Tks
open Go.RowKit

set_option maxRecDepth 100000 in
set_option maxHeartbeats 4000000 in
theorem split_any (s : ByteArray) (R : Option (List Tk) × Nat) (hs : s.size ≤ 100000) (hR : spl s.data.toList 0 = R) (w : World) :
    Calls Tryz.prog 23 #[.string s] w (RetS (.int .i64 0) (.int .i64 21) R w) := by
  obtain ⟨i0, hi, hz0, hz1', hz2⟩ := info_parts info_tk
  have HR := Lib.hid hR
  clear hR
  go_enter Tryz.func23, Tryz.ntmps23
  go_wp2_with fail
  refine wp_scope_many (fun l a' wr => l = 0 ∧ ∃ (k : Nat) (acc : List Tk) (v : Value), k ≤ s.size ∧ acc.length ≤ k ∧ sm acc (spl s.data.toList k) = R ∧ wr.ownsRow w.heap.size tTk 3 v acc.length (acc.flatMap tkc) ∧ Below w.heap.size w wr ∧ ∃ u1 u7 u8 u9 u10 u11 u12 u13 u14 u15 u16 u17 u18 u19 u20 u21 u22 u23 u24 u25 u26 u27 u28 u29 u30 u31 u32 u33 : Value, a' = { tmps := #[.string s, u1, .slice none 0 0, .int .i64 0, .int .i64 0, v, .int .i64 k, u7, u8, u9, u10, u11, u12, u13, u14, u15, u16, u17, u18, u19, u20, u21, u22, u23, u24, u25, u26, u27, u28, u29, u30, u31, u32, u33], defers := [] }) (fun _ a' _ => 600000 - (intOf (a'.tmps.getD 6 undef)).toNat) 600001 ?_ ?_
  · go_wp2_with fail
    go_step3
    go_wp2_with fail
    refine (show ∀ (c : Code) (Q : Exit → Act → World → Prop), (∀ (k : Nat) (acc : List Tk) (v : Value) (wr : World), k ≤ s.size → acc.length ≤ k → sm acc (spl s.data.toList k) = R → wr.ownsRow w.heap.size tTk 3 v acc.length (acc.flatMap tkc) → Below w.heap.size w wr → c.wp Tryz.prog Q { tmps := #[.string s, undef, .slice none 0 0, .int .i64 0, .int .i64 0, v, .int .i64 k, undef, undef, undef, undef, undef, undef, undef, undef, undef, undef, undef, undef, undef, undef, undef, undef, undef, undef, undef, undef, undef, undef, undef, undef, undef, undef, undef], defers := [] } wr) → c.wp Tryz.prog Q { tmps := #[.string s, undef, .slice none 0 0, .int .i64 0, .int .i64 0, .slice none 0 0, .int .i64 0, undef, undef, undef, undef, undef, undef, undef, undef, undef, undef, undef, undef, undef, undef, undef, undef, undef, undef, undef, undef, undef, undef, undef, undef, undef, undef, undef], defers := [] } w from fun c Q key => key 0 [] (.slice none 0 0) w (by omega) (by simp) (by rw [sm_nil]; exact HR.out) (World.ownsRow_nil _ _ _ _) (Below.refl _ _)) _ _ ?_
    intro k acc v wr hks hal hq hown hbl
    have HQ := Lib.hid hq
    have HOWN := Lib.hid hown
    have HBL := Lib.hid hbl
    have hzz := hbl.size
    clear hq hown hbl HR
    go_wp2_with fail
    go_loopw [6] (fun a wx => ∃ j : Nat, a = .int .i64 j ∧ k ≤ j ∧ j ≤ s.size ∧ spl s.data.toList j = spl s.data.toList k ∧ wx = wr) (fun a _ => s.size - (intOf a).toNat)
    case atStart => exact ⟨k, rfl, by omega, by omega, rfl, rfl⟩
    case round =>
      obtain ⟨j, rfl, hkj, hjs, hsj, hwx⟩ := hrel
      subst hwx
      obtain ⟨c, hc⟩ : ∃ c, nx s.data.toList j = c := ⟨_, rfl⟩
      by_cases h32 : c = 32
      · have hj1 : j + 1 ≤ s.size := by
          have := lt_of_nx (L := s.data.toList) (i := j) (by omega)
          rw [← Lib.size_eq] at this
          omega
        have HS1 : Hid (spl s.data.toList (j + 1) = spl s.data.toList k) := by
          unfold Hid
          rw [← spl_blank s.data.toList j (by omega)]
          exact hsj
        have e1 : (((c : Nat) : Int) == 32) = true := by rw [h32]; rfl
        have HC := Lib.hid hc
        clear hc h32 hsj
        go_wp2_with fail
        refine (next_z s _ j c hs (by omega) HC.out _).mono ?_
        rintro e w1 ⟨rfl, rfl⟩
        go_wp2_with fail
        go_roundw
        case rel => exact ⟨j + 1, by go_num, by omega, hj1, HS1.out, by first | rfl | trivial⟩
        case measure => simp [intOf]; omega
      · have e1 : (((c : Nat) : Int) == 32) = false := by simp; omega
        have HQ2 : Hid (sm acc (spl s.data.toList j) = R) := by unfold Hid; rw [hsj]; exact HQ.out
        have HC := Lib.hid hc
        clear hsj
        rcases Nat.lt_or_ge j s.size with hlt | hge
        · have hlt' : j < s.data.toList.length := by rw [← Lib.size_eq]; exact hlt
          have hne : (((j : Nat) : Int) == (s.size : Int)) = false := by simp; omega
          cases ht : tok s.data.toList j with
          | none =>
            have HR1 : Hid (R = (none, j)) := by
              have h := HQ2.out
              rw [spl_none s.data.toList j hlt' (by omega) ht] at h
              exact h.symm
            have HT := Lib.hid ht
            clear hc h32 ht
            go_wp2_with fail
            refine (next_z s _ j c hs (by omega) HC.out _).mono ?_
            rintro e w1 ⟨rfl, rfl⟩
            go_wp2_with fail
            refine (one_any s j hs hlt _).mono ?_
            rintro e w1 ⟨hb1, ve, rfl, hv⟩
            rw [HT.out] at hv
            obtain ⟨k', t', a', rfl⟩ := hv
            have hz1 := hb1.size
            have HBL2 : Hid (Below w.heap.size w w1) := HBL.out.trans (hb1.mono (by omega))
            have HBL3 : Hid (Below w.heap.size w (w1.alloc (.cells #[.int .i64 k', .string t', .int .i64 a'] tTk))) := HBL2.out.alloc (by omega) _
            clear hb1
            go_wp2_with fail
            simp only [jumps_ret]
            go_ret3
            exact rets_none HR1.out HBL3.out
          | some x =>
            obtain ⟨k', t', n⟩ := x
            have hpos := tok_pos hlt' ht
            rw [← Lib.size_eq] at hpos
            have HR1 : Hid (sm (acc ++ [(k', t', j)]) (spl s.data.toList (j + n)) = R) := by
              have h := HQ2.out
              rw [spl_some s.data.toList j hlt' (by omega) ht, sm_sm] at h
              exact h
            have HT := Lib.hid ht
            have hn0 : (((j + n : Nat) : Int) == 0) = false := by simp; omega
            clear hc h32 ht
            go_wp2_with fail
            refine (next_z s _ j c hs (by omega) HC.out _).mono ?_
            rintro e w1 ⟨rfl, rfl⟩
            go_wp2_with fail
            refine (one_any s j hs hlt _).mono ?_
            rintro e w1 ⟨hb1, ve, rfl, hv⟩
            rw [HT.out] at hv
            have hv : ve = .tuple #[.agg #[.int .i64 k', .string ⟨t'.toArray⟩, .int .i64 j], .int .i64 ((j + n : Nat) : Int)] := hv
            subst hv
            have hz1 := hb1.size
            have HBL2 : Hid (Below w.heap.size w w1) := HBL.out.trans (hb1.mono (by omega))
            have HBL3 : Hid (Below w.heap.size w (w1.alloc (.cells #[.int .i64 k', .string ⟨t'.toArray⟩, .int .i64 j] tTk))) := HBL2.out.alloc (by omega) _
            have HO3 : Hid ((w1.alloc (.cells #[.int .i64 k', .string ⟨t'.toArray⟩, .int .i64 j] tTk)).ownsRow w.heap.size tTk 3 v acc.length (acc.flatMap tkc)) := own_below (own_below HOWN.out hb1) ((Below.refl _ _).alloc (Nat.le_refl _) _)
            clear hb1
            obtain ⟨z, hz⟩ : ∃ z, j + n = z := ⟨_, rfl⟩
            rw [hz] at hn0 HR1
            rw [hz]
            have hzs : z ≤ s.size := by omega
            have hjz : j + 1 ≤ z := by omega
            clear hz hpos
            go_wp2_with (at_builtin; refine wpList_append_own _ rfl _ _ _ rfl w.heap.size tTk i0 (.agg #[.int .i64 0, .string ⟨#[]⟩, .int .i64 0]) 3 32 Tryz.underlying58 hi hz0 hz1' hz2 rfl (by decide) _ acc.length (acc.flatMap tkc) rfl (HO3.out.alloc _) ⟨w1.heap.size + 1, 0, none⟩ 1 1 (tkc (k', t', j)) rfl rfl ?c1 ?c2 ?c3 ?c4 ?c5 ?_)
            case c1 => have := news3 (w1.alloc (.cells #[.int .i64 k', .string ⟨t'.toArray⟩, .int .i64 j] tTk)) (.int .i64 k') (.string ⟨t'.toArray⟩) (.int .i64 j) tTk; simp only [World.size_alloc] at this; exact this
            case c2 => exact one3 _
            case c3 => unfold maxLen; omega
            case c4 => omega
            case c5 => simp; omega
            intro v' w2 hown2 hgrow2 _
            have HO4 : Hid (w2.ownsRow w.heap.size tTk 3 v' (acc ++ [(k', t', j)]).length ((acc ++ [(k', t', j)]).flatMap tkc)) := by
              unfold Hid
              rw [tk_snoc, List.length_append]
              exact hown2
            have HBL4 : Hid (Below w.heap.size w w2) := (HBL3.out.alloc (by simp; omega) _).grown hgrow2 (by simp; omega) (fun k hk => (HO3.out.lt k hk).1)
            clear hown2 hgrow2
            go_wp2_with fail
            go_step3
            refine ⟨⟨rfl, z, acc ++ [(k', t', j)], v', hzs, by simp; omega, HR1.out, HO4.out, HBL4.out, ⟨_, _, _, _, _, _, _, _, _, _, _, _, _, _, _, _, _, _, _, _, _, _, _, _, _, _, _, _, by first | rfl | go_num⟩⟩, by simp [intOf]; omega⟩
        · obtain rfl : j = s.size := by omega
          have HR1 : Hid (R = (some acc, 0)) := by
            have h := HQ2.out
            rw [spl_end s.data.toList _ (by rw [← Lib.size_eq]; omega)] at h
            rw [← h]
            simp [sm, Hid]
          clear hc h32
          go_wp2_with fail
          refine (next_z s _ s.size c hs rfl HC.out _).mono ?_
          rintro e w1 ⟨rfl, rfl⟩
          go_wp2_with fail
          simp only [jumps_ret]
          go_ret3
          exact rets_some HR1.out HOWN.out HBL.out

  · rintro l a' wr ⟨rfl, k, acc, v, hks, hal, hq, hown, hbl, ⟨u1, u7, u8, u9, u10, u11, u12, u13, u14, u15, u16, u17, u18, u19, u20, u21, u22, u23, u24, u25, u26, u27, u28, u29, u30, u31, u32, u33, rfl⟩⟩
    refine ⟨_, rfl, ?_⟩
    have HQ := Lib.hid hq
    have HOWN := Lib.hid hown
    have HBL := Lib.hid hbl
    have hzz := hbl.size
    clear hq hown hbl HR
    go_wp2_with fail
    go_loopw [6] (fun a wx => ∃ j : Nat, a = .int .i64 j ∧ k ≤ j ∧ j ≤ s.size ∧ spl s.data.toList j = spl s.data.toList k ∧ wx = wr) (fun a _ => s.size - (intOf a).toNat)
    case atStart => exact ⟨k, rfl, by omega, by omega, rfl, rfl⟩
    case round =>
      obtain ⟨j, rfl, hkj, hjs, hsj, hwx⟩ := hrel
      subst hwx
      obtain ⟨c, hc⟩ : ∃ c, nx s.data.toList j = c := ⟨_, rfl⟩
      by_cases h32 : c = 32
      · have hj1 : j + 1 ≤ s.size := by
          have := lt_of_nx (L := s.data.toList) (i := j) (by omega)
          rw [← Lib.size_eq] at this
          omega
        have HS1 : Hid (spl s.data.toList (j + 1) = spl s.data.toList k) := by
          unfold Hid
          rw [← spl_blank s.data.toList j (by omega)]
          exact hsj
        have e1 : (((c : Nat) : Int) == 32) = true := by rw [h32]; rfl
        have HC := Lib.hid hc
        clear hc h32 hsj
        go_wp2_with fail
        refine (next_z s _ j c hs (by omega) HC.out _).mono ?_
        rintro e w1 ⟨rfl, rfl⟩
        go_wp2_with fail
        go_roundw
        case rel => exact ⟨j + 1, by go_num, by omega, hj1, HS1.out, by first | rfl | trivial⟩
        case measure => simp [intOf]; omega
      · have e1 : (((c : Nat) : Int) == 32) = false := by simp; omega
        have HQ2 : Hid (sm acc (spl s.data.toList j) = R) := by unfold Hid; rw [hsj]; exact HQ.out
        have HC := Lib.hid hc
        clear hsj
        rcases Nat.lt_or_ge j s.size with hlt | hge
        · have hlt' : j < s.data.toList.length := by rw [← Lib.size_eq]; exact hlt
          have hne : (((j : Nat) : Int) == (s.size : Int)) = false := by simp; omega
          cases ht : tok s.data.toList j with
          | none =>
            have HR1 : Hid (R = (none, j)) := by
              have h := HQ2.out
              rw [spl_none s.data.toList j hlt' (by omega) ht] at h
              exact h.symm
            have HT := Lib.hid ht
            clear hc h32 ht
            go_wp2_with fail
            refine (next_z s _ j c hs (by omega) HC.out _).mono ?_
            rintro e w1 ⟨rfl, rfl⟩
            go_wp2_with fail
            refine (one_any s j hs hlt _).mono ?_
            rintro e w1 ⟨hb1, ve, rfl, hv⟩
            rw [HT.out] at hv
            obtain ⟨k', t', a', rfl⟩ := hv
            have hz1 := hb1.size
            have HBL2 : Hid (Below w.heap.size w w1) := HBL.out.trans (hb1.mono (by omega))
            have HBL3 : Hid (Below w.heap.size w (w1.alloc (.cells #[.int .i64 k', .string t', .int .i64 a'] tTk))) := HBL2.out.alloc (by omega) _
            clear hb1
            go_wp2_with fail
            simp only [jumps_ret]
            go_ret3
            exact rets_none HR1.out HBL3.out
          | some x =>
            obtain ⟨k', t', n⟩ := x
            have hpos := tok_pos hlt' ht
            rw [← Lib.size_eq] at hpos
            have HR1 : Hid (sm (acc ++ [(k', t', j)]) (spl s.data.toList (j + n)) = R) := by
              have h := HQ2.out
              rw [spl_some s.data.toList j hlt' (by omega) ht, sm_sm] at h
              exact h
            have HT := Lib.hid ht
            have hn0 : (((j + n : Nat) : Int) == 0) = false := by simp; omega
            clear hc h32 ht
            go_wp2_with fail
            refine (next_z s _ j c hs (by omega) HC.out _).mono ?_
            rintro e w1 ⟨rfl, rfl⟩
            go_wp2_with fail
            refine (one_any s j hs hlt _).mono ?_
            rintro e w1 ⟨hb1, ve, rfl, hv⟩
            rw [HT.out] at hv
            have hv : ve = .tuple #[.agg #[.int .i64 k', .string ⟨t'.toArray⟩, .int .i64 j], .int .i64 ((j + n : Nat) : Int)] := hv
            subst hv
            have hz1 := hb1.size
            have HBL2 : Hid (Below w.heap.size w w1) := HBL.out.trans (hb1.mono (by omega))
            have HBL3 : Hid (Below w.heap.size w (w1.alloc (.cells #[.int .i64 k', .string ⟨t'.toArray⟩, .int .i64 j] tTk))) := HBL2.out.alloc (by omega) _
            have HO3 : Hid ((w1.alloc (.cells #[.int .i64 k', .string ⟨t'.toArray⟩, .int .i64 j] tTk)).ownsRow w.heap.size tTk 3 v acc.length (acc.flatMap tkc)) := own_below (own_below HOWN.out hb1) ((Below.refl _ _).alloc (Nat.le_refl _) _)
            clear hb1
            obtain ⟨z, hz⟩ : ∃ z, j + n = z := ⟨_, rfl⟩
            rw [hz] at hn0 HR1
            rw [hz]
            have hzs : z ≤ s.size := by omega
            have hjz : j + 1 ≤ z := by omega
            clear hz hpos
            go_wp2_with (at_builtin; refine wpList_append_own _ rfl _ _ _ rfl w.heap.size tTk i0 (.agg #[.int .i64 0, .string ⟨#[]⟩, .int .i64 0]) 3 32 Tryz.underlying58 hi hz0 hz1' hz2 rfl (by decide) _ acc.length (acc.flatMap tkc) rfl (HO3.out.alloc _) ⟨w1.heap.size + 1, 0, none⟩ 1 1 (tkc (k', t', j)) rfl rfl ?c1 ?c2 ?c3 ?c4 ?c5 ?_)
            case c1 => have := news3 (w1.alloc (.cells #[.int .i64 k', .string ⟨t'.toArray⟩, .int .i64 j] tTk)) (.int .i64 k') (.string ⟨t'.toArray⟩) (.int .i64 j) tTk; simp only [World.size_alloc] at this; exact this
            case c2 => exact one3 _
            case c3 => unfold maxLen; omega
            case c4 => omega
            case c5 => simp; omega
            intro v' w2 hown2 hgrow2 _
            have HO4 : Hid (w2.ownsRow w.heap.size tTk 3 v' (acc ++ [(k', t', j)]).length ((acc ++ [(k', t', j)]).flatMap tkc)) := by
              unfold Hid
              rw [tk_snoc, List.length_append]
              exact hown2
            have HBL4 : Hid (Below w.heap.size w w2) := (HBL3.out.alloc (by simp; omega) _).grown hgrow2 (by simp; omega) (fun k hk => (HO3.out.lt k hk).1)
            clear hown2 hgrow2
            go_wp2_with fail
            go_step3
            refine ⟨⟨rfl, z, acc ++ [(k', t', j)], v', hzs, by simp; omega, HR1.out, HO4.out, HBL4.out, ⟨_, _, _, _, _, _, _, _, _, _, _, _, _, _, _, _, _, _, _, _, _, _, _, _, _, _, _, _, by first | rfl | go_num⟩⟩, by simp [intOf]; omega⟩
        · obtain rfl : j = s.size := by omega
          have HR1 : Hid (R = (some acc, 0)) := by
            have h := HQ2.out
            rw [spl_end s.data.toList _ (by rw [← Lib.size_eq]; omega)] at h
            rw [← h]
            simp [sm, Hid]
          clear hc h32
          go_wp2_with fail
          refine (next_z s _ s.size c hs rfl HC.out _).mono ?_
          rintro e w1 ⟨rfl, rfl⟩
          go_wp2_with fail
          simp only [jumps_ret]
          go_ret3
          exact rets_some HR1.out HOWN.out HBL.out

end Go.Proofs.YtigmcoelkkihkaaGreatDoor.Tks
namespace Go.Proofs.YtigmcoelkkihkaaGreatDoor
open Go.RowKit Go.Joins

abbrev tPs : TypeId := 63
/-- The parser stands at a token, and has found no fault. -/
def Psr (w : World) (b : Nat) (q : Option Addr) (nT cT i : Nat) : Prop := BlkC w b #[.slice q nT cT, .int .i64 i, .int .i64 0] tPs
/-- The tokens in memory, in a block that is not the parser's. -/
def TkR (w : World) (b : Nat) (q : Option Addr) (Ts : List Tks.Tk) : Prop := Ts = [] ∨ ∃ g, q = some ⟨g, 0, none⟩ ∧ g ≠ b ∧ g < w.heap.size ∧ ∀ (j : Nat) (x : Tks.Tk), Ts[j]? = some x → w.cell? ⟨g, j * 3, none⟩ = some (.int .i64 x.1) ∧ w.cell? ⟨g, j * 3 + 1, none⟩ = some (.string ⟨x.2.1.toArray⟩) ∧ w.cell? ⟨g, j * 3 + 2, none⟩ = some (.int .i64 (x.2.2 : Int))
theorem TkR.off {w w' : World} {b : Nat} {q : Option Addr} {Ts : List Tks.Tk} (h : TkR w b q Ts) (ho : Off b w w') : TkR w' b q Ts := by
  rcases h with h | ⟨g, h1, h2, h3, h4⟩
  · exact .inl h
  · refine .inr ⟨g, h1, h2, Nat.lt_of_lt_of_le h3 ho.size, fun j x hx => ?_⟩
    obtain ⟨k1, k2, k3⟩ := h4 j x hx
    exact ⟨ho.cell h2 k1, ho.cell h2 k2, ho.cell h2 k3⟩
theorem TkR.at {w : World} {b : Nat} {q : Option Addr} {Ts : List Tks.Tk} (h : TkR w b q Ts) {j : Nat} {x : Tks.Tk} (hx : Ts[j]? = some x) : ∃ g, q = some ⟨g, 0, none⟩ ∧ g ≠ b ∧ g < w.heap.size ∧ w.cell? ⟨g, j * 3, none⟩ = some (.int .i64 x.1) ∧ w.cell? ⟨g, j * 3 + 1, none⟩ = some (.string ⟨x.2.1.toArray⟩) ∧ w.cell? ⟨g, j * 3 + 2, none⟩ = some (.int .i64 (x.2.2 : Int)) := by
  rcases h with h | ⟨g, h1, h2, h3, h4⟩
  · rw [h] at hx; cases hx
  · exact ⟨g, h1, h2, h3, h4 j x hx⟩
theorem Psr.set {w : World} {b : Nat} {q : Option Addr} {nT cT i : Nat} (h : Psr w b q nT cT i) (j : Nat) : Psr (w.setCell ⟨b, 1, none⟩ (.int .i64 j)) b q nT cT j := block_setCell h _
theorem Psr.setz {w : World} {b : Nat} {q : Option Addr} {nT cT i : Nat} (h : Psr w b q nT cT i) (z : Int) (j : Nat) (e : z = (j : Int)) : Psr (w.setCell ⟨b, 1, none⟩ (.int .i64 z)) b q nT cT j := by rw [e]; exact h.set j
theorem Psr.below {w w' : World} {b : Nat} {q : Option Addr} {nT cT i : Nat} (h : Psr w b q nT cT i) (hb : Below w.heap.size w w') : Psr w' b q nT cT i := BlkC.below h hb
theorem Psr.cells {w : World} {b : Nat} {q : Option Addr} {nT cT i : Nat} (h : Psr w b q nT cT i) : w.cell? ⟨b, 0, none⟩ = some (.slice q nT cT) ∧ w.cell? ⟨b, 1, none⟩ = some (.int .i64 i) ∧ w.cell? ⟨b, 2, none⟩ = some (.int .i64 0) ∧ w.frozen? ⟨b, 1, none⟩ = false := ⟨BlkC.cell h 0 _ rfl, BlkC.cell h 1 _ rfl, BlkC.cell h 2 _ rfl, BlkC.fz h 1⟩
/-- Does this sign stand at a place? -/
def isB (Ts : List Tks.Tk) (i : Nat) (s : Bs) : Bool := match Ts[i]? with
  | some x => decide (x.1 = 4) && decide (x.2.1 = s)
  | none => false
/-- What 'is' answers. -/
def IsP (b : Nat) (q : Option Addr) (nT cT i : Nat) (R : Bool) (w : World) (e : Ending) (w' : World) : Prop := e = .returned (.bool R) ∧ Psr w' b q nT cT (if R = true then i + 1 else i) ∧ Off b w w'
set_option maxRecDepth 100000 in
set_option maxHeartbeats 4000000 in
theorem is_any (b : Nat) (q : Option Addr) (cT i : Nat) (Ts : List Tks.Tk) (s : Bs) (w : World) (hp : Psr w b q Ts.length cT i) (ht : TkR w b q Ts) (hl : Ts.length ≤ 1000) :
    Calls Tryz.prog 75 #[.pointer (some ⟨b, 0, none⟩), .string ⟨s.toArray⟩] w (IsP b q Ts.length cT i (isB Ts i s) w) := by
  obtain ⟨p0, p1, p2, pf⟩ := hp.cells
  have HP := Lib.hid hp
  have r0 := cell_regrown p0
  have r1 := cell_regrown p1
  have hBR : ∀ dd os, Below w.heap.size w (Go.Sort.grow (redrawn w dd) os) := fun dd os => below_regrown w dd os
  obtain ⟨n, hn⟩ : ∃ n, Ts.length = n := ⟨_, rfl⟩
  cases hx : Ts[i]? with
  | none =>
    have hi : ¬ (i : Int) < (n : Int) := by
      have := List.getElem?_eq_none_iff.1 hx
      omega
    rw [show isB Ts i s = false from by unfold isB; rw [hx]]
    rw [hn] at r0 HP ⊢
    clear hp ht p0 p1 p2 pf hx hn
    go_enter Tryz.func75, Tryz.ntmps75
    go_upto_region 1 with fail
    refine wp_region_quiet_below (by kernel_rfl) (by kernel_rfl) ?_
    repeat (go_big_quiet_step (fail))
    refine wpQuiet_nil ?_
    intro _ hw'
    obtain ⟨⟨dz, osz⟩, hw''⟩ := hw'
    subst hw''
    have HPz := Lib.hid (HP.out.below (hBR dz osz))
    have hbz := hBR dz osz
    clear r0 r1 hBR
    go_wp2_with fail
    go_ret
    exact ⟨rfl, HPz.out, Off.of_below hbz⟩
  | some x =>
    have hi : (i : Int) < (n : Int) := by
      have := (List.getElem?_eq_some_iff.1 hx).1
      omega
    have hi2 : i < n := by omega
    obtain ⟨g, rfl, hgb, _, k0, k1, _⟩ := ht.at hx
    have r2 := cell_regrown k0
    have r3 := cell_regrown k1
    obtain ⟨kx, tx, ax⟩ := x
    simp only at r2 r3
    have hib : isB Ts i s = (decide (kx = 4) && decide (tx = s)) := by unfold isB; rw [hx]
    rw [hib]
    rw [hn] at r0 HP hl ⊢
    clear hp ht p0 p1 p2 pf hx hib k0 k1
    by_cases hk : kx = 4
    · subst hk
      by_cases hs : tx = s
      · subst hs
        rw [decide_eq_true rfl, decide_eq_true rfl]
        go_enter Tryz.func75, Tryz.ntmps75
        go_upto_region 1 with fail
        refine wp_region_quiet_below (by kernel_rfl) (by kernel_rfl) ?_
        repeat (go_big_quiet_step (fail))
        refine wpQuiet_nil ?_
        intro _ hw'
        obtain ⟨⟨dz, osz⟩, hw''⟩ := hw'
        subst hw''
        have HPz := Lib.hid (HP.out.below (hBR dz osz))
        have HOz := Lib.hid (Off.of_below (b := b) (hBR dz osz))
        clear r0 r1 r2 r3 hBR
        generalize Go.Sort.grow (redrawn w dz) osz = wz at HPz HOz ⊢
        obtain ⟨_, c1, _, cf⟩ := HPz.out.cells
        have f1 : IntKind.i64.wrap ((i : Int) + 1) = (i : Int) + 1 := IntWalk.i64_in _ (by omega)
        go_wp2_with fail
        go_ret
        exact ⟨rfl, HPz.out.setz ((i : Int) + 1) (i + 1) (by omega), HOz.out.set _ _⟩
      · rw [decide_eq_false hs]
        have hse : (tx == s) = false := by simpa using hs
        go_enter Tryz.func75, Tryz.ntmps75
        go_upto_region 1 with fail
        refine wp_region_quiet_below (by kernel_rfl) (by kernel_rfl) ?_
        repeat (go_big_quiet_step (fail))
        refine wpQuiet_nil ?_
        intro _ hw'
        obtain ⟨⟨dz, osz⟩, hw''⟩ := hw'
        subst hw''
        have HPz := Lib.hid (HP.out.below (hBR dz osz))
        have HOz := Lib.hid (Off.of_below (b := b) (hBR dz osz))
        clear r0 r1 r2 r3 hBR
        go_wp2_with fail
        go_ret
        exact ⟨rfl, HPz.out, HOz.out⟩
    · rw [decide_eq_false hk]
      have hke : (kx == 4) = false := by simpa using hk
      go_enter Tryz.func75, Tryz.ntmps75
      go_upto_region 1 with fail
      refine wp_region_quiet_below (by kernel_rfl) (by kernel_rfl) ?_
      repeat (go_big_quiet_step (fail))
      refine wpQuiet_nil ?_
      intro _ hw'
      obtain ⟨⟨dz, osz⟩, hw''⟩ := hw'
      subst hw''
      have HPz := Lib.hid (HP.out.below (hBR dz osz))
      have HOz := Lib.hid (Off.of_below (b := b) (hBR dz osz))
      clear r0 r1 r2 r3 hBR
      go_wp2_with fail
      go_ret
      exact ⟨rfl, HPz.out, HOz.out⟩
end Go.Proofs.YtigmcoelkkihkaaGreatDoor
namespace Go.Proofs.YtigmcoelkkihkaaGreatDoor
open Go.RowKit Go.Joins

/-- The sign of a level that stands at a place; empty: none. -/
def sgO (Ts : List Tks.Tk) (i : Nat) (lv : Int) : Bs := match Ts[i]? with
  | some x => if x.1 = 4 ∧ x.2.1 ∈ sgS lv then x.2.1 else []
  | none => []
theorem sgO_yes {Ts : List Tks.Tk} {i : Nat} {lv : Int} {s : Bs} (h : isB Ts i s = true) (hs : s ∈ sgS lv) : sgO Ts i lv = s := by
  unfold isB at h
  unfold sgO
  cases hx : Ts[i]? with
  | none => rw [hx] at h; cases h
  | some x =>
    rw [hx] at h
    simp only [Bool.and_eq_true, decide_eq_true_eq] at h
    obtain ⟨h1, rfl⟩ := h
    simp only [h1, hs, and_self, if_true]
theorem sgO_no {Ts : List Tks.Tk} {i : Nat} {lv : Int} (h : ∀ s ∈ sgS lv, isB Ts i s = false) : sgO Ts i lv = [] := by
  unfold sgO
  cases hx : Ts[i]? with
  | none => rfl
  | some x =>
    simp only []
    split
    · rename_i hh
      have := h _ hh.2
      unfold isB at this
      rw [hx] at this
      simp [hh.1] at this
    · rfl
theorem sgS_ne (lv : Int) : ∀ s ∈ sgS lv, s ≠ [] := by
  intro s hs
  unfold sgS at hs
  repeat' split at hs
  all_goals simp [sg1, sg2, sg3, sg4] at hs
  all_goals (rcases hs with rfl | rfl | rfl | rfl | rfl | rfl) <;> simp
theorem sgS_l10 (lv : Int) : (sgS lv).length ≤ 10 := by
  unfold sgS
  repeat' split
  all_goals simp [sg1, sg2, sg3, sg4]
/-- A row of strings is not the parser's block. -/
theorem psr_ne {w : World} {b : Nat} {q : Option Addr} {nT cT i : Nat} (h : Psr w b q nT cT i) {g o : Nat} {x : ByteArray} (hc : w.cell? ⟨g, o, none⟩ = some (.string x)) : g ≠ b := by
  rintro rfl
  have hb : w.heap[g]? = some (.cells #[.slice q nT cT, .int .i64 i, .int .i64 0] tPs (0, 0)) := h
  rw [cell_of_block hb] at hc
  match o, hc with
  | 0, hc => cases hc
  | 1, hc => cases hc
  | 2, hc => cases hc
  | o + 3, hc => simp at hc
/-- What 'sign' answers. -/
def SgP (b : Nat) (q : Option Addr) (nT cT i : Nat) (O : Bs) (w : World) (e : Ending) (w' : World) : Prop := e = .returned (.string ⟨O.toArray⟩) ∧ Psr w' b q nT cT (if O = [] then i else i + 1) ∧ Off b w w'
set_option maxRecDepth 100000 in
set_option maxHeartbeats 4000000 in
theorem psign_any (b : Nat) (q : Option Addr) (cT i : Nat) (Ts : List Tks.Tk) (lv : Int) (w : World) (hp : Psr w b q Ts.length cT i) (ht : TkR w b q Ts) (hl : Ts.length ≤ 1000) :
    Calls Tryz.prog 47 #[.pointer (some ⟨b, 0, none⟩), .int .i64 lv] w (SgP b q Ts.length cT i (sgO Ts i lv) w) := by
  have HSG := Lib.hid (fun W => signs_any lv W)
  have HIS := Lib.hid (fun s W hp' ht' => is_any b q cT i Ts s W hp' ht' hl)
  have HP := Lib.hid hp
  have HT := Lib.hid ht
  obtain ⟨O, hO⟩ : ∃ O, sgO Ts i lv = O := ⟨_, rfl⟩
  have HY : Hid (∀ s ∈ sgS lv, isB Ts i s = true → O = s) := fun s hs h => by rw [← hO]; exact sgO_yes h hs
  have HN : Hid ((∀ s ∈ sgS lv, isB Ts i s = false) → O = []) := fun h => by rw [← hO]; exact sgO_no h
  have HNE := Lib.hid (sgS_ne lv)
  have h10 := sgS_l10 lv
  obtain ⟨n, hn⟩ : ∃ n, Ts.length = n := ⟨_, rfl⟩
  rw [hO]
  clear hO hp ht
  obtain ⟨L, hL⟩ : ∃ L, sgS lv = L := ⟨_, rfl⟩
  rw [hL] at HSG HY HN HNE h10
  rw [hn] at HP HIS ⊢
  clear hL hn hl
  go_enter Tryz.func47, Tryz.ntmps47
  go_wp2_with fail
  refine (HSG.out _).mono ?_
  rintro e w1 ⟨⟨p, cap, rfl, hrd⟩, hb1⟩
  have HRD := Lib.hid hrd
  have HP1 := Lib.hid (HP.out.below hb1)
  have HO1 := Lib.hid (Off.of_below (b := b) hb1)
  have HT1 := Lib.hid (HT.out.off HO1.out)
  obtain ⟨m, hm⟩ : ∃ m, L.length = m := ⟨_, rfl⟩
  have HLM := Lib.hid hm
  rw [hm] at HRD h10 ⊢
  clear hrd hb1 hm HSG HP HT
  go_wp2_with fail
  go_loopg [10] m (fun g v10 wr => ∃ j : Nat, j + g = m ∧ v10 = .int .i64 j ∧ Psr wr b q n cT i ∧ Off b w1 wr ∧ ∀ k : Nat, k < j → isB Ts i (L.getD k []) = false)
  case atStart => exact ⟨0, by omega, rfl, HP1.out, Off.refl _ _, fun k hk => by omega⟩
  case round =>
    obtain ⟨j, hjg, rfl, hpr, hor, hno⟩ := hrel
    have HPR := Lib.hid hpr
    have HOR := Lib.hid hor
    have HNO := Lib.hid hno
    clear hpr hor hno
    by_cases hj : j < m
    · have hjj : (j : Int) < (m : Int) := by omega
      obtain ⟨g, off, rfl, _, hc1⟩ := cell_st HRD.out hj
      have hgb := psr_ne HP1.out hc1
      have hc := HOR.out.cell hgb hc1
      have HME : Hid (L.getD j [] ∈ L) := by
        unfold Hid
        rw [List.getD_eq_getElem?_getD, List.getElem?_eq_getElem (by rw [HLM.out]; exact hj)]
        exact List.getElem_mem _
      have HN2 : Hid (isB Ts i (L.getD j []) = false → ∀ k : Nat, k < j + 1 → isB Ts i (L.getD k []) = false) := fun h k hk => by
        by_cases hkj : k < j
        · exact HNO.out k hkj
        · obtain rfl : k = j := by omega
          exact h
      have HCI := Lib.hid (HIS.out (L.getD j []) wr HPR.out (HT1.out.off HOR.out))
      have HYJ := Lib.hid (HY.out (L.getD j []) HME.out)
      have HNJ := Lib.hid (HNE.out (L.getD j []) HME.out)
      generalize L.getD j [] = x at hc HCI HYJ HNJ HN2
      clear hc1 HME
      go_wp2_with fail
      refine HCI.out.mono ?_
      rintro e w2 ⟨rfl, hp2, ho2⟩
      cases hib : isB Ts i x with
      | true =>
        rw [hib, if_pos rfl] at hp2
        have HPE : Hid (Psr w2 b q n cT (if O = [] then i else i + 1)) := by
          unfold Hid
          rw [HYJ.out hib, if_neg HNJ.out]
          exact hp2
        have HOE : Hid (Off b w w2) := HO1.out.trans (HOR.out.trans ho2)
        have HOX : Hid (O = x) := HYJ.out hib
        clear hib hp2 ho2 hc
        go_wp2_with fail
        go_ret
        exact ⟨by rw [HOX.out]; rfl, HPE.out, HOE.out⟩
      | false =>
        rw [hib, if_neg (by simp)] at hp2
        have HPE := Lib.hid hp2
        have HOE : Hid (Off b w1 w2) := HOR.out.trans ho2
        have HNX := Lib.hid (HN2.out hib)
        clear hib hp2 ho2 hc
        go_wp2_with fail
        go_roundg (gk - 1)
        case measure => omega
        case rel => exact ⟨j + 1, by omega, by go_num, HPE.out, HOE.out, HNX.out⟩
    · obtain rfl : j = m := by omega
      have hjj : ¬ (j : Int) < (j : Int) := by omega
      have HON : Hid (O = []) := HN.out (fun s hs => by
        obtain ⟨k, hk, e⟩ := List.mem_iff_getElem.1 hs
        have := HNO.out k (by rw [HLM.out] at hk; exact hk)
        rw [List.getD_eq_getElem?_getD, List.getElem?_eq_getElem hk] at this
        rw [← e]
        exact this)
      have HPE : Hid (Psr wr b q n cT (if O = [] then i else i + 1)) := by
        unfold Hid
        rw [HON.out, if_pos rfl]
        exact HPR.out
      have HOE : Hid (Off b w wr) := HO1.out.trans HOR.out
      go_wp2_with fail
      go_ret
      exact ⟨by rw [HON.out]; rfl, HPE.out, HOE.out⟩
end Go.Proofs.YtigmcoelkkihkaaGreatDoor
