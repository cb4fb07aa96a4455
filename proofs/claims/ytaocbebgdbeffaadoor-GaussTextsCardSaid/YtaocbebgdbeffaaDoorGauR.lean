/- strings.LastIndexAny of the two signs: short strings, and all. -/
import Derived.Test.YtaocbebgdbeffaaDoorGauP
import Derived.Outline
set_option linter.unusedSimpArgs false
set_option linter.unusedVariables false
namespace Go.Proofs.YtaocbebgdbeffaaDoor
open Go.RowKit

set_option maxRecDepth 100000 in
set_option maxHeartbeats 2000000 in
theorem lastAny_one (s : ByteArray) (h1 : s.size = 1) (w : World) :
    Calls Tryd.prog 26 #[.string s, .string ⟨#[43, 45]⟩] w fun e w' => e = .returned (.int .i64 (lpm s.data.toList s.size)) ∧ Below w.heap.size w w' := by
  have h0 : 0 < s.size := by omega
  obtain ⟨c, hc⟩ : ∃ c, (s[0]'h0).toNat = c := ⟨_, rfl⟩
  have hcb : byt s.data.toList 0 = c := by rw [← hc, byt_str s 0 h0]
  have hc2 : c < 256 := by rw [← hcb]; exact byt_lt _ _
  have hl : lpm s.data.toList s.size = if c = 43 ∨ c = 45 then 0 else -1 := by
    rw [h1, lpm, hcb]
    rfl
  rw [hl]
  clear hl hcb
  by_cases h128 : 128 ≤ c
  · rw [if_neg (by omega)]
    have hci : ((s[0]'h0).toNat : Int) = (c : Int) := by omega
    have HI := Lib.hid (fun W => indexRune_pm 65533 (by omega) (by omega) W)
    rw [show pmR 65533 = -1 from rfl] at HI
    clear hc
    go_enter Tryd.func26, Tryd.ntmps26
    go_wp2_with fail
    refine (HI.out _).mono ?_
    rintro e w1 ⟨rfl, hb⟩
    go_wp2_with fail
    go_ret
    exact ⟨rfl, hb⟩
  · have hci : ((s[0]'h0).toNat : Int) = (c : Int) := by omega
    have HI := Lib.hid (fun W => indexRune_pm (c : Int) (by omega) (by omega) W)
    have hnc : ¬ (128 : Int) ≤ (c : Int) := by omega
    by_cases hp : c = 43 ∨ c = 45
    · rw [if_pos hp]
      have hg : (0 : Int) ≤ pmR (c : Int) := (pmR_ge _).2 (by omega)
      clear hc
      go_enter Tryd.func26, Tryd.ntmps26
      go_wp2_with fail
      refine (HI.out _).mono ?_
      rintro e w1 ⟨rfl, hb⟩
      go_wp2_with fail
      go_ret
      exact ⟨rfl, hb⟩
    · rw [if_neg hp]
      have hg : ¬ (0 : Int) ≤ pmR (c : Int) := fun h => hp (by have := (pmR_ge _).1 h; omega)
      clear hc
      go_enter Tryd.func26, Tryd.ntmps26
      go_wp2_with fail
      refine (HI.out _).mono ?_
      rintro e w1 ⟨rfl, hb⟩
      go_wp2_with fail
      go_ret
      exact ⟨rfl, hb⟩

theorem dl_any (s : ByteArray) (d : Nat × Nat) (hs : s.size ≤ 1000) (hd : Lib.decodeLastL s.data.toList = d) (w : World) (hT : Lib.Utf8Tabs 1 2 w) : Calls Tryd.prog 38 #[.string s] w fun e w' => e = .returned (.tuple #[.int .i32 (d.1 : Nat), .int .i64 (d.2 : Nat)]) ∧ Below w.heap.size w w' := by
  subst hd
  exact Tryd.utf8_DecodeLastRuneInString s w (by omega) hT

set_option maxRecDepth 100000 in
set_option maxHeartbeats 2000000 in
theorem lastAny_short (s : ByteArray) (h1 : s.size ≠ 1) (h8 : s.size ≤ 8) (w : World) (hT : Lib.Utf8Tabs 1 2 w) (hg : 2 < w.heap.size) :
    Calls Tryd.prog 26 #[.string s, .string ⟨#[43, 45]⟩] w fun e w' => e = .returned (.int .i64 (lpm s.data.toList s.size)) ∧ Below w.heap.size w w' := by
  have HU := Lib.hid (fun W => su_any (s.size : Int) false (decide_eq_false (by omega)) W)
  have HT := Lib.hid hT
  have h1n : ((s.size : Int) == 1) = false := by simp; omega
  have hsl : s.data.toList.length = s.size := (Lib.size_eq s).symm
  obtain ⟨L, hL⟩ : ∃ L, s.data.toList = L := ⟨_, rfl⟩
  rw [hL] at hsl ⊢
  have HL := Lib.hid hL
  have HSL := Lib.hid hsl
  clear hT hL hsl
  go_enter Tryd.func26, Tryd.ntmps26
  go_wp2_with fail
  refine (HU.out _).mono ?_
  rintro e w1 ⟨rfl, rfl⟩
  go_wp2_with fail
  go_loopg [13] s.size (fun g s13 wx => ∃ i : Nat, i ≤ g ∧ i ≤ s.size ∧ s13 = .int .i64 i ∧ lpm L s.size = lpm L i ∧ Below w.heap.size w wx)
  case atStart => exact ⟨s.size, by omega, by omega, rfl, rfl, Below.refl _ _⟩
  case round =>
    obtain ⟨i, hig, his, rfl, hl, hb⟩ := hrel
    have HX := Lib.hid hl
    clear hl
    by_cases hi0 : i = 0
    · subst hi0
      go_wp2_with fail
      go_ret
      exact ⟨by rw [HX.out]; rfl, hb⟩
    · have hpos : (0 : Int) < (i : Int) := by omega
      obtain ⟨d, hd⟩ : ∃ d, Lib.decodeLastL (L.take i) = d := ⟨_, rfl⟩
      have hlast := last_pm L i (by omega) (by have := HSL.out; omega)
      rw [hd] at hlast
      obtain ⟨u, hu⟩ : ∃ u, s.extract 0 i = u := ⟨_, rfl⟩
      have hul : u.data.toList = L.take i := by
        rw [← hu, Lib.extract_data, HL.out]
        simp
      have hus : u.size = i := by
        have := Lib.size_eq u
        rw [hul, List.length_take, HSL.out] at this
        omega
      have HD := Lib.hid (dl_any u d (by omega) (by rw [hul]; exact hd))
      have hT2 := utf8Tabs_below HT.out hb (by show 1 < _; omega) (by show 2 < _; omega)
      have HT2 := Lib.hid hT2
      have HF : Hid (1 ≤ d.2 ∧ d.2 ≤ i ∧ d.1 ≤ 1114111 ∧ ((d.1 = 43 ∨ d.1 = 45) → lpm L i = ((i - d.2 : Nat) : Int)) ∧ (¬ (d.1 = 43 ∨ d.1 = 45) → lpm L i = lpm L (i - d.2))) := by
        have hr := Lib.decodeLastL_rune (L.take i)
        rw [hd] at hr
        rcases hlast with ⟨ha, hde⟩ | ⟨ha, h1, h2, h3⟩
        · rw [hde]
          have e : i = i - 1 + 1 := by omega
          refine ⟨Nat.le_refl 1, by show 1 ≤ i; omega, by show byt L (i - 1) ≤ _; omega, fun h => ?_, fun h => ?_⟩
          · show lpm L i = ((i - 1 : Nat) : Int)
            rw [e, lpm_yes (by simpa using h)]
            simp
          · show lpm L i = lpm L (i - 1)
            rw [e, lpm_no (by simpa using h)]
            simp
        · refine ⟨h1, h2, hr, fun h => by omega, fun h => ?_⟩
          have := lpm_skip (L := L) (i := i - d.2) d.2 (fun j a b => by have := h3 j a (by omega); omega)
          rw [show i - d.2 + d.2 = i from by omega] at this
          exact this
      obtain ⟨r, z⟩ := d
      simp only at HF HD
      obtain ⟨f1, f2, f3, f4, f5⟩ := HF.out
      have HF4 := Lib.hid f4
      have HF5 := Lib.hid f5
      have HI := Lib.hid (fun W => indexRune_pm (r : Int) (by omega) (by omega) W)
      clear hlast hd hul hus f4 f5 HF hT2
      by_cases hp : r = 43 ∨ r = 45
      · have hg : (0 : Int) ≤ pmR (r : Int) := (pmR_ge _).2 (by omega)
        go_wp2_with fail
        refine (HD.out _ HT2.out).mono ?_
        rintro e w1 ⟨rfl, hb1⟩
        go_wp2_with fail
        refine (HI.out _).mono ?_
        rintro e w2 ⟨rfl, hb2⟩
        go_wp2_with fail
        go_ret
        exact ⟨by rw [HX.out, HF4.out hp]; (show Ending.returned (.int .i64 ((i : Int) - (z : Int))) = _); congr 2; exact (Int.ofNat_sub f2).symm, (hb.trans (hb1.mono hb.size)).trans (hb2.mono (by have := hb.size; have := hb1.size; omega))⟩
      · have hg : ¬ (0 : Int) ≤ pmR (r : Int) := fun h => hp (by have := (pmR_ge _).1 h; omega)
        go_wp2_with fail
        refine (HD.out _ HT2.out).mono ?_
        rintro e w1 ⟨rfl, hb1⟩
        go_wp2_with fail
        refine (HI.out _).mono ?_
        rintro e w2 ⟨rfl, hb2⟩
        go_wp2_with fail
        go_roundg (gk - 1)
        case measure => omega
        case rel => exact ⟨i - z, by omega, by omega, by first | rfl | (congr 1; exact (Int.ofNat_sub f2).symm), by rw [HX.out, HF5.out hp], (hb.trans (hb1.mono hb.size)).trans (hb2.mono (by have := hb.size; have := hb1.size; omega))⟩
theorem lastAny_any (s : ByteArray) (hs : s.size ≤ 1000) (w : World) (hT : Lib.Utf8Tabs 1 2 w) (hg : 2 < w.heap.size) :
    Calls Tryd.prog 26 #[.string s, .string ⟨#[43, 45]⟩] w fun e w' => e = .returned (.int .i64 (lpm s.data.toList s.size)) ∧ Below w.heap.size w w' := by
  by_cases h8 : 8 < s.size
  · exact lastAny_great s h8 hs w
  · by_cases h1 : s.size = 1
    · exact lastAny_one s h1 w
    · exact lastAny_short s h1 (by omega) w hT hg
end Go.Proofs.YtaocbebgdbeffaaDoor
