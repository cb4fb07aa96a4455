/- Conditions: a pattern is read, the program's way and the document's. -/
import Derived.Test.YtpggidkcifnhjaaDoorMatE
set_option linter.unusedSimpArgs false
set_option linter.unusedVariables false

namespace Go.Proofs.YtpggidkcifnhjaaDoor
open Go.RowKit

theorem info_sign : (Tryd.prog.info? 75).map (fun i => (i.zero, i.size, i.bytes)) = some (some (.agg #[.int .i64 0, .int .u8 0]), 2, 16) := by kernel_rfl
theorem sgE_one (x : Sg) : ∀ u ∈ sgE x, u.oneCell' = true := by
  intro u hu
  simp only [sgE, List.mem_cons, List.not_mem_nil, or_false] at hu
  rcases hu with rfl | rfl <;> rfl
/-- Where in ?*~ a byte stands. -/
def qst (c : Nat) : Int := if c = 63 then 0 else if c = 42 then 1 else if c = 126 then 2 else -1
set_option maxRecDepth 100000 in
theorem qst_is : ∀ c : Fin 256, Lib.indexByte (⟨#[63, 42, 126]⟩ : ByteArray).data.toList ((c.val : Int)).toNat.toUInt8 = qst c.val := by decide
theorem indexByte_q (c : Nat) (hc : c < 256) (w : World) : Calls Tryd.prog 34 #[.string ⟨#[63, 42, 126]⟩, .int .u8 (c : Int)] w fun e w' => e = .returned (.int .i64 (qst c)) ∧ w = w' :=
  (Tryd.strings_IndexByte ⟨#[63, 42, 126]⟩ (c : Int) w).mono fun e w' h => ⟨h.1.trans (by rw [qst_is ⟨c, hc⟩]), h.2.symm⟩

set_option maxRecDepth 100000 in
set_option maxHeartbeats 8000000 in
theorem pattern_any (s : ByteArray) (hs : s.size ≤ 1000) (w : World) :
    Calls Tryd.prog 15 #[.string s] w fun e w' => (∃ v, e = .returned v ∧ w'.ownsRow w.heap.size 75 2 v (sgs s.data.toList).length ((sgs s.data.toList).flatMap sgE)) ∧ Below w.heap.size w w' := by
  obtain ⟨i0, hi, hz0, hz1, hz2⟩ := info_of info_sign
  have hbs : ∀ i (h : i < s.size), ((s[i].toNat : Nat) : Int) = (btN s.data.toList i : Int) := fun i h => btN_str s i h
  have hsz : s.data.toList.length = s.size := (Lib.size_eq s).symm
  obtain ⟨L, hL⟩ : ∃ L, s.data.toList = L := ⟨_, rfl⟩
  rw [hL] at hbs hsz ⊢
  have HBS := Lib.hid hbs
  have HSZ := Lib.hid hsz
  have HLE := Lib.hid (sgs_len L)
  clear hL hbs hsz
  go_enter Tryd.func15, Tryd.ntmps15
  go_wp2_with fail
  go_loopg [3, 4] s.size (fun g v3 v4 wr => ∃ (i : Nat) (P : List Sg), i ≤ s.size ∧ s.size ≤ i + g ∧ v4 = .int .i64 i ∧ P ++ sgT L i = sgs L ∧ wr.ownsRow w.heap.size 75 2 v3 P.length (P.flatMap sgE) ∧ Below w.heap.size w wr)
  case atStart => exact ⟨0, [], by omega, by omega, rfl, by unfold sgT sgs; rw [Nat.sub_zero, List.nil_append], World.ownsRow_nil _ _ _ _, Below.refl _ _⟩
  case round =>
    obtain ⟨i, P, hi1, hig, rfl, hP, hown, hbel⟩ := hrel
    have hzr := hbel.size
    have HP := Lib.hid hP
    have HO := Lib.hid hown
    have hPl : P.length ≤ 1000 := by
      have := congrArg List.length hP
      rw [List.length_append] at this
      have := HLE.out
      have := HSZ.out
      omega
    by_cases hlt : i < s.size
    · have hb := HBS.out i hlt
      obtain ⟨c, hc⟩ : ∃ c, btN L i = c := ⟨_, rfl⟩
      have hc256 : c < 256 := by rw [← hc]; exact btN_lt L i
      rw [hc] at hb
      have HC := Lib.hid hc
      clear hP hown hc
      have fin : ∀ (wx : World) (v' : Value) (x : Sg) (j : Nat), sgT L i = x :: sgT L j → wx.ownsRow w.heap.size 75 2 v' (P.length + 1) (P.flatMap sgE ++ sgE x) → (P ++ [x]) ++ sgT L j = sgs L ∧ wx.ownsRow w.heap.size 75 2 v' (P ++ [x]).length ((P ++ [x]).flatMap sgE) := fun wx v' x j h1 h2 => ⟨by rw [← HP.out, h1]; simp, by rw [flat_snoc, List.length_append]; exact h2⟩
      have FIN := Lib.hid fin
      clear fin
      by_cases htl : c = 126 ∧ (i + 1 < s.size ∧ (btN L (i + 1) = 63 ∨ btN L (i + 1) = 42 ∨ btN L (i + 1) = 126))
      · obtain ⟨h1, h2, h3⟩ := htl
        subst h1
        have hb2 := HBS.out (i + 1) h2
        obtain ⟨d, hd⟩ : ∃ d, btN L (i + 1) = d := ⟨_, rfl⟩
        have hd256 : d < 256 := by rw [← hd]; exact btN_lt L (i + 1)
        rw [hd] at hb2 h3
        have hq : (0 : Int) ≤ qst d := by rcases h3 with rfl | rfl | rfl <;> decide
        have HLAW := Lib.hid (sgT_tilde (L := L) (i := i) HC.out (by rw [HSZ.out]; exact h2) (by rw [hd]; exact h3))
        rw [hd] at HLAW
        have HQ := Lib.hid (fun W => indexByte_q d hd256 W)
        clear hd h3
        have h2i : (i : Int) + 1 < (s.size : Int) := by omega
        go_wp2_with fail
        refine (HQ.out _).mono ?_
        rintro e wa ⟨rfl, rfl⟩
        go_wp2_with (at_builtin; refine wpList_append_own _ rfl _ _ _ rfl w.heap.size 75 i0 (.agg #[.int .i64 0, .int .u8 0]) 2 16 Tryd.underlying30 hi hz0 hz1 hz2 rfl (by decide) _ _ _ rfl (HO.out.alloc _) ⟨wr.heap.size, 0, none⟩ 1 1 (sgE (0, d)) rfl rfl ?c1 ?c2 ?c3 ?c4 ?c5 ?_)
        case c1 => first | exact new2 wr _ _ _ | exact fun j u h => h
        case c2 => exact sgE_one _
        case c3 => unfold maxLen; omega
        case c4 => omega
        case c5 => first | omega | (simp; omega)
        intro v' w4 hown4 hgrow4 _
        have hb4 : Below w.heap.size w w4 := (hbel.alloc (by omega) _).grown hgrow4 (by simp; omega) (fun k hk => (HO.out.lt k hk).1)
        have HF := Lib.hid (FIN.out w4 v' (0, d) (i + 2) (HLAW.out) hown4)
        clear hown4 hgrow4
        go_wp2_with fail
        go_roundg (gk - 1)
        case measure => omega
        case rel => exact ⟨i + 2, P ++ [(0, d)], by omega, by omega, by first | rfl | go_num, HF.out.1, HF.out.2, hb4⟩

      · have HLAW := Lib.hid (sgT_one (L := L) (i := i) (by rw [HSZ.out]; exact hlt) (by rw [HC.out, HSZ.out]; exact htl))
        rw [HC.out] at HLAW
        by_cases h126 : c = 126
        · subst h126
          have HLAW1 : Hid (sgT L i = (0, 126) :: sgT L (i + 1)) := HLAW.out
          by_cases h2 : i + 1 < s.size
          · have hb2 := HBS.out (i + 1) h2
            obtain ⟨d, hd⟩ : ∃ d, btN L (i + 1) = d := ⟨_, rfl⟩
            have hd256 : d < 256 := by rw [← hd]; exact btN_lt L (i + 1)
            rw [hd] at hb2
            have hq : ¬ (0 : Int) ≤ qst d := by
              have : ¬ (d = 63 ∨ d = 42 ∨ d = 126) := fun h => htl ⟨rfl, h2, by rw [hd]; exact h⟩
              unfold qst
              rw [if_neg (by omega), if_neg (by omega), if_neg (by omega)]
              decide
            have HQ := Lib.hid (fun W => indexByte_q d hd256 W)
            clear hd htl
            have h2i : (i : Int) + 1 < (s.size : Int) := by omega
            go_wp2_with fail
            refine (HQ.out _).mono ?_
            rintro e wa ⟨rfl, rfl⟩
            go_wp2_with (at_builtin; refine wpList_append_own _ rfl _ _ _ rfl w.heap.size 75 i0 (.agg #[.int .i64 0, .int .u8 0]) 2 16 Tryd.underlying30 hi hz0 hz1 hz2 rfl (by decide) _ _ _ rfl (HO.out.alloc _) ⟨wr.heap.size, 0, none⟩ 1 1 (sgE (0, 126)) rfl rfl ?c1 ?c2 ?c3 ?c4 ?c5 ?_)
            case c1 => first | exact new2 wr _ _ _ | exact fun j u h => h
            case c2 => exact sgE_one _
            case c3 => unfold maxLen; omega
            case c4 => omega
            case c5 => first | omega | (simp; omega)
            intro v' w4 hown4 hgrow4 _
            have hb4 : Below w.heap.size w w4 := (hbel.alloc (by omega) _).grown hgrow4 (by simp; omega) (fun k hk => (HO.out.lt k hk).1)
            have HF := Lib.hid (FIN.out w4 v' (0, 126) (i + 1) (HLAW1.out) hown4)
            clear hown4 hgrow4
            go_wp2_with fail
            go_roundg (gk - 1)
            case measure => omega
            case rel => exact ⟨i + 1, P ++ [(0, 126)], by omega, by omega, by first | rfl | go_num, HF.out.1, HF.out.2, hb4⟩

          · have h2i : ¬ (i : Int) + 1 < (s.size : Int) := by omega
            clear htl
            go_wp2_with (at_builtin; refine wpList_append_own _ rfl _ _ _ rfl w.heap.size 75 i0 (.agg #[.int .i64 0, .int .u8 0]) 2 16 Tryd.underlying30 hi hz0 hz1 hz2 rfl (by decide) _ _ _ rfl (HO.out.alloc _) ⟨wr.heap.size, 0, none⟩ 1 1 (sgE (0, 126)) rfl rfl ?c1 ?c2 ?c3 ?c4 ?c5 ?_)
            case c1 => first | exact new2 wr _ _ _ | exact fun j u h => h
            case c2 => exact sgE_one _
            case c3 => unfold maxLen; omega
            case c4 => omega
            case c5 => first | omega | (simp; omega)
            intro v' w4 hown4 hgrow4 _
            have hb4 : Below w.heap.size w w4 := (hbel.alloc (by omega) _).grown hgrow4 (by simp; omega) (fun k hk => (HO.out.lt k hk).1)
            have HF := Lib.hid (FIN.out w4 v' (0, 126) (i + 1) (HLAW1.out) hown4)
            clear hown4 hgrow4
            go_wp2_with fail
            go_roundg (gk - 1)
            case measure => omega
            case rel => exact ⟨i + 1, P ++ [(0, 126)], by omega, by omega, by first | rfl | go_num, HF.out.1, HF.out.2, hb4⟩

        · have e126 : ((c : Int) == 126) = false := by simp; omega
          clear htl
          by_cases h63 : c = 63
          · subst h63
            go_wp2_with (at_builtin; refine wpList_append_own _ rfl _ _ _ rfl w.heap.size 75 i0 (.agg #[.int .i64 0, .int .u8 0]) 2 16 Tryd.underlying30 hi hz0 hz1 hz2 rfl (by decide) _ _ _ rfl (HO.out.alloc _) ⟨wr.heap.size, 0, none⟩ 1 1 (sgE (1, 0)) rfl rfl ?c1 ?c2 ?c3 ?c4 ?c5 ?_)
            case c1 => first | exact new2 wr _ _ _ | exact fun j u h => h
            case c2 => exact sgE_one _
            case c3 => unfold maxLen; omega
            case c4 => omega
            case c5 => first | omega | (simp; omega)
            intro v' w4 hown4 hgrow4 _
            have hb4 : Below w.heap.size w w4 := (hbel.alloc (by omega) _).grown hgrow4 (by simp; omega) (fun k hk => (HO.out.lt k hk).1)
            have HF := Lib.hid (FIN.out w4 v' (1, 0) (i + 1) (HLAW.out) hown4)
            clear hown4 hgrow4
            go_wp2_with fail
            go_roundg (gk - 1)
            case measure => omega
            case rel => exact ⟨i + 1, P ++ [(1, 0)], by omega, by omega, by first | rfl | go_num, HF.out.1, HF.out.2, hb4⟩

          · by_cases h42 : c = 42
            · subst h42
              go_wp2_with (at_builtin; refine wpList_append_own _ rfl _ _ _ rfl w.heap.size 75 i0 (.agg #[.int .i64 0, .int .u8 0]) 2 16 Tryd.underlying30 hi hz0 hz1 hz2 rfl (by decide) _ _ _ rfl (HO.out.alloc _) ⟨wr.heap.size, 0, none⟩ 1 1 (sgE (2, 0)) rfl rfl ?c1 ?c2 ?c3 ?c4 ?c5 ?_)
              case c1 => first | exact new2 wr _ _ _ | exact fun j u h => h
              case c2 => exact sgE_one _
              case c3 => unfold maxLen; omega
              case c4 => omega
              case c5 => first | omega | (simp; omega)
              intro v' w4 hown4 hgrow4 _
              have hb4 : Below w.heap.size w w4 := (hbel.alloc (by omega) _).grown hgrow4 (by simp; omega) (fun k hk => (HO.out.lt k hk).1)
              have HF := Lib.hid (FIN.out w4 v' (2, 0) (i + 1) (HLAW.out) hown4)
              clear hown4 hgrow4
              go_wp2_with fail
              go_roundg (gk - 1)
              case measure => omega
              case rel => exact ⟨i + 1, P ++ [(2, 0)], by omega, by omega, by first | rfl | go_num, HF.out.1, HF.out.2, hb4⟩

            · have e63 : ((c : Int) == 63) = false := by simp; omega
              have e42 : ((c : Int) == 42) = false := by simp; omega
              have HLAW3 : Hid (sgT L i = (0, c) :: sgT L (i + 1)) := by
                have := HLAW.out
                rw [if_neg h63, if_neg h42] at this
                exact this
              go_wp2_with (at_builtin; refine wpList_append_own _ rfl _ _ _ rfl w.heap.size 75 i0 (.agg #[.int .i64 0, .int .u8 0]) 2 16 Tryd.underlying30 hi hz0 hz1 hz2 rfl (by decide) _ _ _ rfl (HO.out.alloc _) ⟨wr.heap.size, 0, none⟩ 1 1 (sgE (0, c)) rfl rfl ?c1 ?c2 ?c3 ?c4 ?c5 ?_)
              case c1 => first | exact new2 wr _ _ _ | exact fun j u h => h
              case c2 => exact sgE_one _
              case c3 => unfold maxLen; omega
              case c4 => omega
              case c5 => first | omega | (simp; omega)
              intro v' w4 hown4 hgrow4 _
              have hb4 : Below w.heap.size w w4 := (hbel.alloc (by omega) _).grown hgrow4 (by simp; omega) (fun k hk => (HO.out.lt k hk).1)
              have HF := Lib.hid (FIN.out w4 v' (0, c) (i + 1) (HLAW3.out) hown4)
              clear hown4 hgrow4
              go_wp2_with fail
              go_roundg (gk - 1)
              case measure => omega
              case rel => exact ⟨i + 1, P ++ [(0, c)], by omega, by omega, by first | rfl | go_num, HF.out.1, HF.out.2, hb4⟩


    · have hil : i = s.size := by omega
      have hPs : P = sgs L := by
        have := HP.out
        rw [sgT_end (by rw [HSZ.out]; omega), List.append_nil] at this
        exact this
      subst hPs
      clear hP hown
      go_wp2_with fail
      go_ret
      exact ⟨⟨_, rfl, HO.out⟩, hbel⟩
end Go.Proofs.YtpggidkcifnhjaaDoor
