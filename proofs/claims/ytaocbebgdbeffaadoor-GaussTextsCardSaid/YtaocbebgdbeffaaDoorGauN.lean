/- The document's answer read: Parse. -/
import Derived.Test.YtaocbebgdbeffaaDoorGauM
set_option linter.unusedSimpArgs false
set_option linter.unusedVariables false
namespace Go.Proofs.YtaocbebgdbeffaaDoor
open Go.RowKit

/-- May the parts be? -/
abbrev Fit (a b : Int) : Prop := -1048576 ≤ a ∧ a ≤ 1048576 ∧ -1048576 ≤ b ∧ b ≤ 1048576
/-- The parts that the document's Parse reads. -/
def prX (L : List UInt8) : Int × Int :=
  if wE L 0 < L.length ∧ byt L (wE L 0) = 105 then (0, wV L 0) else if wE L 0 < L.length then (wV L 0, wV L (wE L 0)) else (wV L 0, 0)
/-- Are they it? -/
def prOk (L : List UInt8) : Bool := decide (Fit (prX L).1 (prX L).2) && decide (ztxt (prX L).1 (prX L).2 = L)
def prV (L : List UInt8) : Int × Int := if prOk L then prX L else (0, 0)

theorem fits_lit (a b : Int) (r : Bool) (h : decide (Fit a b) = r) (w : World) : Calls Tryd.prog 8 #[.agg #[.int .i64 a, .int .i64 b]] w fun e w' => e = .returned (.bool r) ∧ Below w.heap.size w w' := by
  subst h
  exact fits_any a b w

set_option maxRecDepth 100000 in
set_option maxHeartbeats 2000000 in
theorem refParse_any (s : ByteArray) (hs : s.size ≤ 1000) (w : World) :
    Calls Tryd.prog 12 #[.string s] w fun e w' => e = .returned (.tuple #[.agg #[.int .i64 (prV s.data.toList).1, .int .i64 (prV s.data.toList).2], .bool (prOk s.data.toList)]) ∧ Below w.heap.size w w' := by
  obtain ⟨L, hL⟩ : ∃ L, s.data.toList = L := ⟨_, rfl⟩
  have hLs : s.size = L.length := by rw [← hL, Lib.size_eq]
  have hsl : s.toList = L := by rw [← hL, Lib.toList_data]
  have HW := Lib.hid (fun a ha W => whole_any s hs a ha W)
  have HB := Lib.hid (fun i (h : i < s.size) => byt_str s i h)
  rw [hL] at HB HW ⊢
  have hE := wE_le (L := L) (a := 0) (by omega)
  have HV : Hid (prV L = if prOk L then prX L else (0, 0)) := rfl
  have HO : Hid (prOk L = (decide (Fit (prX L).1 (prX L).2) && decide (ztxt (prX L).1 (prX L).2 = L))) := rfl
  have HX : Hid (prX L = if wE L 0 < L.length ∧ byt L (wE L 0) = 105 then (0, wV L 0) else if wE L 0 < L.length then (wV L 0, wV L (wE L 0)) else (wV L 0, 0)) := rfl
  obtain ⟨A, hA⟩ : ∃ x, wV L 0 = x := ⟨_, rfl⟩
  obtain ⟨E, hE2⟩ : ∃ x, wE L 0 = x := ⟨_, rfl⟩
  obtain ⟨B, hB⟩ : ∃ x, wV L E = x := ⟨_, rfl⟩
  have HW0 := Lib.hid (fun W => HW.out 0 (by omega) W)
  rw [hE2] at hE HX
  have HWE := Lib.hid (fun W => HW.out E (by omega) W)
  rw [hA, hE2] at HW0
  rw [hB] at HWE
  rw [hA, hB] at HX
  obtain ⟨rV, hrV⟩ : ∃ x, prV L = x := ⟨_, rfl⟩
  obtain ⟨rO, hrO⟩ : ∃ x, prOk L = x := ⟨_, rfl⟩
  obtain ⟨X, hXX⟩ : ∃ x, prX L = x := ⟨_, rfl⟩
  rw [hrV, hrO, hXX] at HV
  rw [hrO, hXX] at HO
  rw [hXX] at HX
  rw [hrV, hrO]
  clear hrV hrO hXX hA hE2 hB hL HW
  obtain ⟨xa, xb⟩ := X
  obtain ⟨ra, rb⟩ := rV
  obtain ⟨f, hf⟩ : ∃ f, decide (Fit xa xb) = f := ⟨_, rfl⟩
  have HF := Lib.hid (fun W => fits_lit xa xb f hf W)
  have fin0 : rO = false → Hid (rO = false ∧ ra = 0 ∧ rb = 0) := fun h => by
    have h1 := HV.out
    rw [h, if_neg (by decide)] at h1
    simp only [Prod.mk.injEq] at h1
    exact ⟨h, h1.1, h1.2⟩
  have HT : f = true → Hid (∀ W, Calls Tryd.prog 15 #[.agg #[.int .i64 xa, .int .i64 xb]] W fun e w' => e = .returned (.string ⟨(ztxt xa xb).toArray⟩) ∧ Below W.heap.size W w') := fun h => by
    rw [h] at hf
    have h2 := of_decide_eq_true hf
    exact Lib.hid (fun W => rtext_any xa xb h2.1 h2.2.1 h2.2.2.1 h2.2.2.2 W)
  have HO2 : Hid (rO = (f && decide (ztxt xa xb = L))) := by rw [← hf]; exact HO
  obtain ⟨T, hT⟩ : ∃ T, ztxt xa xb = T := ⟨_, rfl⟩
  rw [hT] at HT HO2
  have hTs : (⟨T.toArray⟩ : ByteArray).toList = T := by rw [Lib.toList_data]
  clear hf hT HO
  have step : ∀ (w1 : World), Below w.heap.size w w1 → Hid (Below w.heap.size w w1) := fun w1 h => h
  rcases Nat.lt_or_ge E s.size with hlt | hge
  · have hb := HB.out E hlt
    by_cases h105 : byt L E = 105
    · have hX := HX.out
      rw [if_pos ⟨by omega, h105⟩] at hX
      simp only [Prod.mk.injEq] at hX
      obtain ⟨hx1, hx2⟩ := hX
      subst hx1 hx2
      have e1 : ((s[E].toNat : Nat) : Int) = 105 := by omega
      clear hb h105 HX HWE
      cases f
      · have HR := fin0 (by rw [HO2.out]; rfl)
        clear fin0 HT HO2
        go_enter Tryd.func12, Tryd.ntmps12
        go_wp2_with fail
        refine (HW0.out _).mono ?_
        rintro e w1 ⟨rfl, hb1⟩
        obtain ⟨hc1, hf1, hs1⟩ := bcell hb1 (by first | (simp only [World.size_alloc, World.size_setCell, World.size_drew]; rfl) | rfl)
        go_wp2_with fail
        refine (HF.out _).mono ?_
        rintro e w3 ⟨rfl, hb3⟩
        obtain ⟨hc3, hf3, hs3⟩ := bcell hb3 (by first | (simp only [World.size_alloc, World.size_setCell, World.size_drew]; rfl) | rfl)
        go_wp2_with fail
        rw [HR.out.1, HR.out.2.1, HR.out.2.2]
        refine bodyPost_ret (v := .tuple #[.agg #[.int .i64 _, .int .i64 _], .bool _]) (by simp only [results, Tryd.results12]; go_simp) rfl ⟨rfl, by (repeat' (first | (with_reducible exact Below.refl _ _) | (with_reducible assumption) | (with_reducible refine Below.alloc ?_ ?_ _) | (with_reducible refine bel_drewN ?_ _) | (with_reducible refine Below.drew ?_) | (with_reducible refine Below.setCell ?_ ?_ _) | (with_reducible refine bel_call ‹_› ?_ ?_) | go_size))⟩
      · have HTT := HT rfl
        by_cases hTL : T = L
        · have HR : Hid (rO = true ∧ ra = 0 ∧ rb = xb) := by
            have h0 : rO = true := by rw [HO2.out, decide_eq_true hTL]; rfl
            have h1 := HV.out
            rw [h0, if_pos rfl] at h1
            simp only [Prod.mk.injEq] at h1
            exact ⟨h0, h1.1, h1.2⟩
          have eT : (T == s.toList) = true := by rw [hsl, hTL]; simp
          clear fin0 HT HO2 hTL hTs hsl
          go_enter Tryd.func12, Tryd.ntmps12
          go_wp2_with fail
          refine (HW0.out _).mono ?_
          rintro e w1 ⟨rfl, hb1⟩
          obtain ⟨hc1, hf1, hs1⟩ := bcell hb1 (by first | (simp only [World.size_alloc, World.size_setCell, World.size_drew]; rfl) | rfl)
          go_wp2_with fail
          refine (HF.out _).mono ?_
          rintro e w3 ⟨rfl, hb3⟩
          obtain ⟨hc3, hf3, hs3⟩ := bcell hb3 (by first | (simp only [World.size_alloc, World.size_setCell, World.size_drew]; rfl) | rfl)
          go_wp2_with fail
          refine (HTT.out _).mono ?_
          rintro e w4 ⟨rfl, hb4⟩
          obtain ⟨hc4, hf4, hs4⟩ := bcell hb4 (by first | (simp only [World.size_alloc, World.size_setCell, World.size_drew]; rfl) | rfl)
          go_wp2_with fail
          rw [HR.out.1, HR.out.2.1, HR.out.2.2]
          refine bodyPost_ret (v := .tuple #[.agg #[.int .i64 _, .int .i64 _], .bool _]) (by simp only [results, Tryd.results12]; go_simp) rfl ⟨rfl, by (repeat' (first | (with_reducible exact Below.refl _ _) | (with_reducible assumption) | (with_reducible refine Below.alloc ?_ ?_ _) | (with_reducible refine bel_drewN ?_ _) | (with_reducible refine Below.drew ?_) | (with_reducible refine Below.setCell ?_ ?_ _) | (with_reducible refine bel_call ‹_› ?_ ?_) | go_size))⟩
        · have HR := fin0 (by rw [HO2.out, decide_eq_false hTL]; rfl)
          have eT : (T == s.toList) = false := by rw [hsl]; simp [hTL]
          clear fin0 HT HO2 hTL hTs hsl
          go_enter Tryd.func12, Tryd.ntmps12
          go_wp2_with fail
          refine (HW0.out _).mono ?_
          rintro e w1 ⟨rfl, hb1⟩
          obtain ⟨hc1, hf1, hs1⟩ := bcell hb1 (by first | (simp only [World.size_alloc, World.size_setCell, World.size_drew]; rfl) | rfl)
          go_wp2_with fail
          refine (HF.out _).mono ?_
          rintro e w3 ⟨rfl, hb3⟩
          obtain ⟨hc3, hf3, hs3⟩ := bcell hb3 (by first | (simp only [World.size_alloc, World.size_setCell, World.size_drew]; rfl) | rfl)
          go_wp2_with fail
          refine (HTT.out _).mono ?_
          rintro e w4 ⟨rfl, hb4⟩
          obtain ⟨hc4, hf4, hs4⟩ := bcell hb4 (by first | (simp only [World.size_alloc, World.size_setCell, World.size_drew]; rfl) | rfl)
          go_wp2_with fail
          rw [HR.out.1, HR.out.2.1, HR.out.2.2]
          refine bodyPost_ret (v := .tuple #[.agg #[.int .i64 _, .int .i64 _], .bool _]) (by simp only [results, Tryd.results12]; go_simp) rfl ⟨rfl, by (repeat' (first | (with_reducible exact Below.refl _ _) | (with_reducible assumption) | (with_reducible refine Below.alloc ?_ ?_ _) | (with_reducible refine bel_drewN ?_ _) | (with_reducible refine Below.drew ?_) | (with_reducible refine Below.setCell ?_ ?_ _) | (with_reducible refine bel_call ‹_› ?_ ?_) | go_size))⟩
    · have hX := HX.out
      rw [if_neg (fun h => h105 h.2), if_pos (by omega)] at hX
      simp only [Prod.mk.injEq] at hX
      obtain ⟨hx1, hx2⟩ := hX
      subst hx1 hx2
      have e1 : (((s[E].toNat : Nat) : Int) == 105) = false := by simp; omega
      clear hb h105 HX
      cases f
      · have HR := fin0 (by rw [HO2.out]; rfl)
        clear fin0 HT HO2
        go_enter Tryd.func12, Tryd.ntmps12
        go_wp2_with fail
        refine (HW0.out _).mono ?_
        rintro e w1 ⟨rfl, hb1⟩
        obtain ⟨hc1, hf1, hs1⟩ := bcell hb1 (by first | (simp only [World.size_alloc, World.size_setCell, World.size_drew]; rfl) | rfl)
        go_wp2_with fail
        refine (HWE.out _).mono ?_
        rintro e w2 ⟨rfl, hb2⟩
        obtain ⟨hc2, hf2, hs2⟩ := bcell hb2 (by first | (simp only [World.size_alloc, World.size_setCell, World.size_drew]; rfl) | rfl)
        go_wp2_with fail
        refine (HF.out _).mono ?_
        rintro e w3 ⟨rfl, hb3⟩
        obtain ⟨hc3, hf3, hs3⟩ := bcell hb3 (by first | (simp only [World.size_alloc, World.size_setCell, World.size_drew]; rfl) | rfl)
        go_wp2_with fail
        rw [HR.out.1, HR.out.2.1, HR.out.2.2]
        refine bodyPost_ret (v := .tuple #[.agg #[.int .i64 _, .int .i64 _], .bool _]) (by simp only [results, Tryd.results12]; go_simp) rfl ⟨rfl, by (repeat' (first | (with_reducible exact Below.refl _ _) | (with_reducible assumption) | (with_reducible refine Below.alloc ?_ ?_ _) | (with_reducible refine bel_drewN ?_ _) | (with_reducible refine Below.drew ?_) | (with_reducible refine Below.setCell ?_ ?_ _) | (with_reducible refine bel_call ‹_› ?_ ?_) | go_size))⟩
      · have HTT := HT rfl
        by_cases hTL : T = L
        · have HR : Hid (rO = true ∧ ra = xa ∧ rb = xb) := by
            have h0 : rO = true := by rw [HO2.out, decide_eq_true hTL]; rfl
            have h1 := HV.out
            rw [h0, if_pos rfl] at h1
            simp only [Prod.mk.injEq] at h1
            exact ⟨h0, h1.1, h1.2⟩
          have eT : (T == s.toList) = true := by rw [hsl, hTL]; simp
          clear fin0 HT HO2 hTL hTs hsl
          go_enter Tryd.func12, Tryd.ntmps12
          go_wp2_with fail
          refine (HW0.out _).mono ?_
          rintro e w1 ⟨rfl, hb1⟩
          obtain ⟨hc1, hf1, hs1⟩ := bcell hb1 (by first | (simp only [World.size_alloc, World.size_setCell, World.size_drew]; rfl) | rfl)
          go_wp2_with fail
          refine (HWE.out _).mono ?_
          rintro e w2 ⟨rfl, hb2⟩
          obtain ⟨hc2, hf2, hs2⟩ := bcell hb2 (by first | (simp only [World.size_alloc, World.size_setCell, World.size_drew]; rfl) | rfl)
          go_wp2_with fail
          refine (HF.out _).mono ?_
          rintro e w3 ⟨rfl, hb3⟩
          obtain ⟨hc3, hf3, hs3⟩ := bcell hb3 (by first | (simp only [World.size_alloc, World.size_setCell, World.size_drew]; rfl) | rfl)
          go_wp2_with fail
          refine (HTT.out _).mono ?_
          rintro e w4 ⟨rfl, hb4⟩
          obtain ⟨hc4, hf4, hs4⟩ := bcell hb4 (by first | (simp only [World.size_alloc, World.size_setCell, World.size_drew]; rfl) | rfl)
          go_wp2_with fail
          rw [HR.out.1, HR.out.2.1, HR.out.2.2]
          refine bodyPost_ret (v := .tuple #[.agg #[.int .i64 _, .int .i64 _], .bool _]) (by simp only [results, Tryd.results12]; go_simp) rfl ⟨rfl, by (repeat' (first | (with_reducible exact Below.refl _ _) | (with_reducible assumption) | (with_reducible refine Below.alloc ?_ ?_ _) | (with_reducible refine bel_drewN ?_ _) | (with_reducible refine Below.drew ?_) | (with_reducible refine Below.setCell ?_ ?_ _) | (with_reducible refine bel_call ‹_› ?_ ?_) | go_size))⟩
        · have HR := fin0 (by rw [HO2.out, decide_eq_false hTL]; rfl)
          have eT : (T == s.toList) = false := by rw [hsl]; simp [hTL]
          clear fin0 HT HO2 hTL hTs hsl
          go_enter Tryd.func12, Tryd.ntmps12
          go_wp2_with fail
          refine (HW0.out _).mono ?_
          rintro e w1 ⟨rfl, hb1⟩
          obtain ⟨hc1, hf1, hs1⟩ := bcell hb1 (by first | (simp only [World.size_alloc, World.size_setCell, World.size_drew]; rfl) | rfl)
          go_wp2_with fail
          refine (HWE.out _).mono ?_
          rintro e w2 ⟨rfl, hb2⟩
          obtain ⟨hc2, hf2, hs2⟩ := bcell hb2 (by first | (simp only [World.size_alloc, World.size_setCell, World.size_drew]; rfl) | rfl)
          go_wp2_with fail
          refine (HF.out _).mono ?_
          rintro e w3 ⟨rfl, hb3⟩
          obtain ⟨hc3, hf3, hs3⟩ := bcell hb3 (by first | (simp only [World.size_alloc, World.size_setCell, World.size_drew]; rfl) | rfl)
          go_wp2_with fail
          refine (HTT.out _).mono ?_
          rintro e w4 ⟨rfl, hb4⟩
          obtain ⟨hc4, hf4, hs4⟩ := bcell hb4 (by first | (simp only [World.size_alloc, World.size_setCell, World.size_drew]; rfl) | rfl)
          go_wp2_with fail
          rw [HR.out.1, HR.out.2.1, HR.out.2.2]
          refine bodyPost_ret (v := .tuple #[.agg #[.int .i64 _, .int .i64 _], .bool _]) (by simp only [results, Tryd.results12]; go_simp) rfl ⟨rfl, by (repeat' (first | (with_reducible exact Below.refl _ _) | (with_reducible assumption) | (with_reducible refine Below.alloc ?_ ?_ _) | (with_reducible refine bel_drewN ?_ _) | (with_reducible refine Below.drew ?_) | (with_reducible refine Below.setCell ?_ ?_ _) | (with_reducible refine bel_call ‹_› ?_ ?_) | go_size))⟩
  · have hX := HX.out
    rw [if_neg (by omega), if_neg (by omega)] at hX
    simp only [Prod.mk.injEq] at hX
    obtain ⟨hx1, hx2⟩ := hX
    subst hx1 hx2
    clear HX HWE
    cases f
    · have HR := fin0 (by rw [HO2.out]; rfl)
      clear fin0 HT HO2
      go_enter Tryd.func12, Tryd.ntmps12
      go_wp2_with fail
      refine (HW0.out _).mono ?_
      rintro e w1 ⟨rfl, hb1⟩
      obtain ⟨hc1, hf1, hs1⟩ := bcell hb1 (by first | (simp only [World.size_alloc, World.size_setCell, World.size_drew]; rfl) | rfl)
      go_wp2_with fail
      refine (HF.out _).mono ?_
      rintro e w3 ⟨rfl, hb3⟩
      obtain ⟨hc3, hf3, hs3⟩ := bcell hb3 (by first | (simp only [World.size_alloc, World.size_setCell, World.size_drew]; rfl) | rfl)
      go_wp2_with fail
      rw [HR.out.1, HR.out.2.1, HR.out.2.2]
      refine bodyPost_ret (v := .tuple #[.agg #[.int .i64 _, .int .i64 _], .bool _]) (by simp only [results, Tryd.results12]; go_simp) rfl ⟨rfl, by (repeat' (first | (with_reducible exact Below.refl _ _) | (with_reducible assumption) | (with_reducible refine Below.alloc ?_ ?_ _) | (with_reducible refine bel_drewN ?_ _) | (with_reducible refine Below.drew ?_) | (with_reducible refine Below.setCell ?_ ?_ _) | (with_reducible refine bel_call ‹_› ?_ ?_) | go_size))⟩
    · have HTT := HT rfl
      by_cases hTL : T = L
      · have HR : Hid (rO = true ∧ ra = xa ∧ rb = 0) := by
          have h0 : rO = true := by rw [HO2.out, decide_eq_true hTL]; rfl
          have h1 := HV.out
          rw [h0, if_pos rfl] at h1
          simp only [Prod.mk.injEq] at h1
          exact ⟨h0, h1.1, h1.2⟩
        have eT : (T == s.toList) = true := by rw [hsl, hTL]; simp
        clear fin0 HT HO2 hTL hTs hsl
        go_enter Tryd.func12, Tryd.ntmps12
        go_wp2_with fail
        refine (HW0.out _).mono ?_
        rintro e w1 ⟨rfl, hb1⟩
        obtain ⟨hc1, hf1, hs1⟩ := bcell hb1 (by first | (simp only [World.size_alloc, World.size_setCell, World.size_drew]; rfl) | rfl)
        go_wp2_with fail
        refine (HF.out _).mono ?_
        rintro e w3 ⟨rfl, hb3⟩
        obtain ⟨hc3, hf3, hs3⟩ := bcell hb3 (by first | (simp only [World.size_alloc, World.size_setCell, World.size_drew]; rfl) | rfl)
        go_wp2_with fail
        refine (HTT.out _).mono ?_
        rintro e w4 ⟨rfl, hb4⟩
        obtain ⟨hc4, hf4, hs4⟩ := bcell hb4 (by first | (simp only [World.size_alloc, World.size_setCell, World.size_drew]; rfl) | rfl)
        go_wp2_with fail
        rw [HR.out.1, HR.out.2.1, HR.out.2.2]
        refine bodyPost_ret (v := .tuple #[.agg #[.int .i64 _, .int .i64 _], .bool _]) (by simp only [results, Tryd.results12]; go_simp) rfl ⟨rfl, by (repeat' (first | (with_reducible exact Below.refl _ _) | (with_reducible assumption) | (with_reducible refine Below.alloc ?_ ?_ _) | (with_reducible refine bel_drewN ?_ _) | (with_reducible refine Below.drew ?_) | (with_reducible refine Below.setCell ?_ ?_ _) | (with_reducible refine bel_call ‹_› ?_ ?_) | go_size))⟩
      · have HR := fin0 (by rw [HO2.out, decide_eq_false hTL]; rfl)
        have eT : (T == s.toList) = false := by rw [hsl]; simp [hTL]
        clear fin0 HT HO2 hTL hTs hsl
        go_enter Tryd.func12, Tryd.ntmps12
        go_wp2_with fail
        refine (HW0.out _).mono ?_
        rintro e w1 ⟨rfl, hb1⟩
        obtain ⟨hc1, hf1, hs1⟩ := bcell hb1 (by first | (simp only [World.size_alloc, World.size_setCell, World.size_drew]; rfl) | rfl)
        go_wp2_with fail
        refine (HF.out _).mono ?_
        rintro e w3 ⟨rfl, hb3⟩
        obtain ⟨hc3, hf3, hs3⟩ := bcell hb3 (by first | (simp only [World.size_alloc, World.size_setCell, World.size_drew]; rfl) | rfl)
        go_wp2_with fail
        refine (HTT.out _).mono ?_
        rintro e w4 ⟨rfl, hb4⟩
        obtain ⟨hc4, hf4, hs4⟩ := bcell hb4 (by first | (simp only [World.size_alloc, World.size_setCell, World.size_drew]; rfl) | rfl)
        go_wp2_with fail
        rw [HR.out.1, HR.out.2.1, HR.out.2.2]
        refine bodyPost_ret (v := .tuple #[.agg #[.int .i64 _, .int .i64 _], .bool _]) (by simp only [results, Tryd.results12]; go_simp) rfl ⟨rfl, by (repeat' (first | (with_reducible exact Below.refl _ _) | (with_reducible assumption) | (with_reducible refine Below.alloc ?_ ?_ _) | (with_reducible refine bel_drewN ?_ _) | (with_reducible refine Below.drew ?_) | (with_reducible refine Below.setCell ?_ ?_ _) | (with_reducible refine bel_call ‹_› ?_ ?_) | go_size))⟩
end Go.Proofs.YtaocbebgdbeffaaDoor
