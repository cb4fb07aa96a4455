/- Conditions: Parse. -/
import Derived.Test.YtpggidkcifnhjaaDoorMatP
import Derived.Deep.CutBlock
set_option linter.unusedSimpArgs false
set_option linter.unusedVariables false

namespace Go.Proofs.YtpggidkcifnhjaaDoor
open Go.RowKit

/-- Which sign a text begins with, and what stands behind it. -/
def prC (L : List UInt8) : Nat × List UInt8 :=
  if Lib.hasPrefix L [60, 62] then (0, Lib.trimPrefix L [60, 62]) else if Lib.hasPrefix L [60, 61] then (1, Lib.trimPrefix L [60, 61]) else if Lib.hasPrefix L [62, 61] then (2, Lib.trimPrefix L [62, 61])
  else if Lib.hasPrefix L [60] then (3, Lib.trimPrefix L [60]) else if Lib.hasPrefix L [62] then (4, Lib.trimPrefix L [62]) else if Lib.hasPrefix L [61] then (5, Lib.trimPrefix L [61]) else (5, L)
theorem cutp_any (s x : ByteArray) (w : World) : Calls Tryd.prog 13 #[.string s, .string x] w fun e w' => e = .returned (.tuple #[.string ⟨(Lib.trimPrefix s.data.toList x.data.toList).toArray⟩, .bool (Lib.hasPrefix s.data.toList x.data.toList)]) ∧ w = w' :=
  (Tryd.strings_CutPrefix s x w).mono fun e w' h => ⟨h.1, h.2.symm⟩

theorem prsV_no (L : List UInt8) : prsOk L = false → prsV L = 0 := fun h => by unfold prsV; rw [h]; rfl
theorem trim_len (L P : List UInt8) : (Lib.trimPrefix L P).length ≤ L.length := by
  unfold Lib.trimPrefix
  split
  · simp
  · exact Nat.le_refl _
theorem prC_len (L : List UInt8) : (prC L).2.length ≤ L.length := by
  unfold prC
  repeat' split
  all_goals first | exact trim_len _ _ | exact Nat.le_refl _
theorem prC_lt (L : List UInt8) : (prC L).1 < 6 := by
  unfold prC
  repeat' split
  all_goals (simp only; omega)
/-- A condition that is made lies in memory: its sign, and nothing else yet; where the result goes, too. -/
def PrC (w wx : World) (q : Nat) : Prop :=
  wx.cell? ⟨w.heap.size + 1, 0, none⟩ = some (.string (sgB q)) ∧ wx.cell? ⟨w.heap.size + 1, 1, none⟩ = some (.bool false) ∧ wx.cell? ⟨w.heap.size + 1, 2, none⟩ = some (.int .i64 0) ∧ wx.cell? ⟨w.heap.size + 1, 3, none⟩ = some (.slice none 0 0)
  ∧ (wx.cell? ⟨w.heap.size, 0, none⟩ = some (.string ByteArray.empty) ∧ wx.cell? ⟨w.heap.size, 1, none⟩ = some (.bool false) ∧ wx.cell? ⟨w.heap.size, 2, none⟩ = some (.int .i64 0) ∧ wx.cell? ⟨w.heap.size, 3, none⟩ = some (.slice none 0 0))
  ∧ wx.frozen? ⟨w.heap.size + 1, 0, none⟩ = false ∧ wx.frozen? ⟨w.heap.size + 1, 1, none⟩ = false ∧ wx.frozen? ⟨w.heap.size + 1, 2, none⟩ = false ∧ wx.frozen? ⟨w.heap.size + 1, 3, none⟩ = false
  ∧ wx.frozen? ⟨w.heap.size, 0, none⟩ = false ∧ wx.frozen? ⟨w.heap.size, 1, none⟩ = false ∧ wx.frozen? ⟨w.heap.size, 2, none⟩ = false ∧ wx.frozen? ⟨w.heap.size, 3, none⟩ = false
section
variable {α : Type} {enc : α → List Value} {sz : Nat}
theorem RdG.set {w : World} {p : Option Addr} {n : Nat} {L : List α} (h : RdG enc sz w p n L) {q : Addr} (hq : ∀ b off, p = Option.some ⟨b, off, none⟩ → b ≠ q.block) (v : Value) : RdG enc sz (w.setCell q v) p n L := by
  obtain ⟨h1, h4⟩ := h
  refine ⟨h1, ?_⟩
  rcases h4 with h4 | ⟨b, off, h5, h6, h7⟩
  · exact .inl h4
  · refine .inr ⟨b, off, h5, by simpa [World.setCell] using h6, fun j x hx k u hu => ?_⟩
    exact (World.cell?_of_block (a := ⟨b, off + j * sz + k, none⟩) (Below.heap_setCell w q v b (hq b off h5))).trans (h7 j x hx k u hu)
end

set_option maxRecDepth 100000 in
set_option maxHeartbeats 4000000 in
theorem mparse_any (s : ByteArray) (hs : s.size ≤ 800) (w : World) (hsh : w.ShapedOpen Tryd.prog) :
    Calls Tryd.prog 7 #[.string s] w fun e w' => (∃ p cap, e = .returned (.agg #[.string (sgB (prC s.data.toList).1), .bool (prsOk (prC s.data.toList).2), .int .i64 (prsV (prC s.data.toList).2), .slice p (if prsOk (prC s.data.toList).2 then [] else sgs (prC s.data.toList).2).length cap]) ∧ RdG sgE 2 w' p (if prsOk (prC s.data.toList).2 then [] else sgs (prC s.data.toList).2).length (if prsOk (prC s.data.toList).2 then [] else sgs (prC s.data.toList).2)) ∧ Below w.heap.size w w' := by
  obtain ⟨L, hL⟩ : ∃ L, s.data.toList = L := ⟨_, rfl⟩
  have HC0 := Lib.hid (fun W => cutp_any s ⟨#[60, 62]⟩ W)
  have HC1 := Lib.hid (fun W => cutp_any s ⟨#[60, 61]⟩ W)
  have HC2 := Lib.hid (fun W => cutp_any s ⟨#[62, 61]⟩ W)
  have HC3 := Lib.hid (fun W => cutp_any s ⟨#[60]⟩ W)
  have HC4 := Lib.hid (fun W => cutp_any s ⟨#[62]⟩ W)
  have HC5 := Lib.hid (fun W => cutp_any s ⟨#[61]⟩ W)
  rw [hL] at HC0 HC1 HC2 HC3 HC4 HC5 ⊢
  obtain ⟨b0, hb0⟩ : ∃ b, Lib.hasPrefix L (⟨#[60, 62]⟩ : ByteArray).data.toList = b := ⟨_, rfl⟩
  obtain ⟨T0, hT0⟩ : ∃ T, Lib.trimPrefix L (⟨#[60, 62]⟩ : ByteArray).data.toList = T := ⟨_, rfl⟩
  rw [hb0, hT0] at HC0
  obtain ⟨b1, hb1⟩ : ∃ b, Lib.hasPrefix L (⟨#[60, 61]⟩ : ByteArray).data.toList = b := ⟨_, rfl⟩
  obtain ⟨T1, hT1⟩ : ∃ T, Lib.trimPrefix L (⟨#[60, 61]⟩ : ByteArray).data.toList = T := ⟨_, rfl⟩
  rw [hb1, hT1] at HC1
  obtain ⟨b2, hb2⟩ : ∃ b, Lib.hasPrefix L (⟨#[62, 61]⟩ : ByteArray).data.toList = b := ⟨_, rfl⟩
  obtain ⟨T2, hT2⟩ : ∃ T, Lib.trimPrefix L (⟨#[62, 61]⟩ : ByteArray).data.toList = T := ⟨_, rfl⟩
  rw [hb2, hT2] at HC2
  obtain ⟨b3, hb3⟩ : ∃ b, Lib.hasPrefix L (⟨#[60]⟩ : ByteArray).data.toList = b := ⟨_, rfl⟩
  obtain ⟨T3, hT3⟩ : ∃ T, Lib.trimPrefix L (⟨#[60]⟩ : ByteArray).data.toList = T := ⟨_, rfl⟩
  rw [hb3, hT3] at HC3
  obtain ⟨b4, hb4⟩ : ∃ b, Lib.hasPrefix L (⟨#[62]⟩ : ByteArray).data.toList = b := ⟨_, rfl⟩
  obtain ⟨T4, hT4⟩ : ∃ T, Lib.trimPrefix L (⟨#[62]⟩ : ByteArray).data.toList = T := ⟨_, rfl⟩
  rw [hb4, hT4] at HC4
  obtain ⟨b5, hb5⟩ : ∃ b, Lib.hasPrefix L (⟨#[61]⟩ : ByteArray).data.toList = b := ⟨_, rfl⟩
  obtain ⟨T5, hT5⟩ : ∃ T, Lib.trimPrefix L (⟨#[61]⟩ : ByteArray).data.toList = T := ⟨_, rfl⟩
  rw [hb5, hT5] at HC5
  have HP : Hid (prC L = if b0 then (0, T0) else if b1 then (1, T1) else if b2 then (2, T2) else if b3 then (3, T3) else if b4 then (4, T4) else if b5 then (5, T5) else (5, L)) := by
    unfold Hid prC
    rw [← hb0, ← hb1, ← hb2, ← hb3, ← hb4, ← hb5, ← hT0, ← hT1, ← hT2, ← hT3, ← hT4, ← hT5]
  obtain ⟨q, R, hqR⟩ : ∃ q R, prC L = (q, R) := ⟨_, _, rfl⟩
  rw [hqR] at HP ⊢
  simp only
  have hRl : R.length ≤ 800 := by
    have h1 := prC_len L
    rw [hqR] at h1
    have h2 : L.length = s.size := by rw [← hL, ← Lib.size_eq]
    simp only at h1
    omega
  have HD : Hid (∀ W, Below w.heap.size w W → Calls Tryd.prog 14 #[.string ⟨R.toArray⟩] W fun e w' => e = .returned (.tuple #[.int .i64 (prsV R), .bool (prsOk R)]) ∧ Below W.heap.size W w') := fun W hW => parse_any ⟨R.toArray⟩ (by rw [Lib.size_eq]; simp; omega) W (shaped_below hsh hW)
  have HPT : Hid (∀ W, Calls Tryd.prog 15 #[.string ⟨R.toArray⟩] W fun e w' => (∃ v, e = .returned v ∧ w'.ownsRow W.heap.size 75 2 v (sgs R).length ((sgs R).flatMap sgE)) ∧ Below W.heap.size W w') := fun W => pattern_any ⟨R.toArray⟩ (by rw [Lib.size_eq]; simp; omega) W
  have HNN := Lib.hid (prsV_no R)
  have HSL : Hid (s = ⟨L.toArray⟩) := by unfold Hid; rw [← hL]
  obtain ⟨m, hm⟩ : ∃ m, prsV R = m := ⟨_, rfl⟩
  obtain ⟨ok, hok⟩ : ∃ ok, prsOk R = ok := ⟨_, rfl⟩
  rw [hm, hok] at HD HNN
  rw [hm, hok]
  clear hm hok
  clear hb0 hb1 hb2 hb3 hb4 hb5 hT0 hT1 hT2 hT3 hT4 hT5
  have hix0 : ∀ W, (Instr.index 42 (.agg #[.string ⟨#[60, 62]⟩, .string ⟨#[60, 61]⟩, .string ⟨#[62, 61]⟩, .string ⟨#[60]⟩, .string ⟨#[62]⟩, .string ⟨#[61]⟩]) (.int .i64 0)).run Tryd.prog W = .ok (.string ⟨#[60, 62]⟩) W := fun _ => by kernel_rfl
  have hix1 : ∀ W, (Instr.index 42 (.agg #[.string ⟨#[60, 62]⟩, .string ⟨#[60, 61]⟩, .string ⟨#[62, 61]⟩, .string ⟨#[60]⟩, .string ⟨#[62]⟩, .string ⟨#[61]⟩]) (.int .i64 1)).run Tryd.prog W = .ok (.string ⟨#[60, 61]⟩) W := fun _ => by kernel_rfl
  have hix2 : ∀ W, (Instr.index 42 (.agg #[.string ⟨#[60, 62]⟩, .string ⟨#[60, 61]⟩, .string ⟨#[62, 61]⟩, .string ⟨#[60]⟩, .string ⟨#[62]⟩, .string ⟨#[61]⟩]) (.int .i64 2)).run Tryd.prog W = .ok (.string ⟨#[62, 61]⟩) W := fun _ => by kernel_rfl
  have hix3 : ∀ W, (Instr.index 42 (.agg #[.string ⟨#[60, 62]⟩, .string ⟨#[60, 61]⟩, .string ⟨#[62, 61]⟩, .string ⟨#[60]⟩, .string ⟨#[62]⟩, .string ⟨#[61]⟩]) (.int .i64 3)).run Tryd.prog W = .ok (.string ⟨#[60]⟩) W := fun _ => by kernel_rfl
  have hix4 : ∀ W, (Instr.index 42 (.agg #[.string ⟨#[60, 62]⟩, .string ⟨#[60, 61]⟩, .string ⟨#[62, 61]⟩, .string ⟨#[60]⟩, .string ⟨#[62]⟩, .string ⟨#[61]⟩]) (.int .i64 4)).run Tryd.prog W = .ok (.string ⟨#[62]⟩) W := fun _ => by kernel_rfl
  have hix5 : ∀ W, (Instr.index 42 (.agg #[.string ⟨#[60, 62]⟩, .string ⟨#[60, 61]⟩, .string ⟨#[62, 61]⟩, .string ⟨#[60]⟩, .string ⟨#[62]⟩, .string ⟨#[61]⟩]) (.int .i64 5)).run Tryd.prog W = .ok (.string ⟨#[61]⟩) W := fun _ => by kernel_rfl
  go_enter Tryd.func7, Tryd.ntmps7
  go_upto_block 0 with fail
  go_cut [0] (fun v0 wx => v0 = .string ⟨R.toArray⟩ ∧ PrC w wx q ∧ w.heap.size + 1 < wx.heap.size ∧ Below w.heap.size w wx)
  case first =>
    go_wp2_with fail
    refine wp_loop_rounds 7 ?_
    rw [rounds_succ]
    go_wp2_with fail
    refine (HC0.out _).mono ?_
    rintro e w1 ⟨rfl, rfl⟩
    cases b0
    · go_wp2_with fail
      rw [rounds_succ]
      go_wp2_with fail
      refine (HC1.out _).mono ?_
      rintro e w1 ⟨rfl, rfl⟩
      cases b1
      · go_wp2_with fail
        rw [rounds_succ]
        go_wp2_with fail
        refine (HC2.out _).mono ?_
        rintro e w1 ⟨rfl, rfl⟩
        cases b2
        · go_wp2_with fail
          rw [rounds_succ]
          go_wp2_with fail
          refine (HC3.out _).mono ?_
          rintro e w1 ⟨rfl, rfl⟩
          cases b3
          · go_wp2_with fail
            rw [rounds_succ]
            go_wp2_with fail
            refine (HC4.out _).mono ?_
            rintro e w1 ⟨rfl, rfl⟩
            cases b4
            · go_wp2_with fail
              rw [rounds_succ]
              go_wp2_with fail
              refine (HC5.out _).mono ?_
              rintro e w1 ⟨rfl, rfl⟩
              cases b5
              · go_wp2_with fail
                rw [rounds_succ]
                go_wp2_with fail
                go_meet
                obtain ⟨rfl, rfl⟩ : q = 5 ∧ R = L := by have := HP.out; simpa using this
                exact ⟨by rw [HSL.out], ⟨by first | (go_simp; done) | (go_simp; rfl), by go_simp, by go_simp, by go_simp, ⟨by first | (go_simp; done) | (go_simp; rfl), by go_simp, by go_simp, by go_simp⟩, by go_simp, by go_simp, by go_simp, by go_simp, by go_simp, by go_simp, by go_simp, by go_simp⟩, by simp, by (repeat' (first | (with_reducible exact Below.refl _ _) | (with_reducible assumption) | (with_reducible refine Below.alloc ?_ ?_ _) | (with_reducible refine bel_drewN ?_ _) | (with_reducible refine Below.drew ?_) | (with_reducible refine Below.setCell ?_ ?_ _) | (with_reducible refine bel_call ‹_› ?_ ?_) | go_size))⟩

              · go_wp2_with fail
                go_meet
                obtain ⟨rfl, rfl⟩ : q = 5 ∧ R = T5 := by have := HP.out; simpa using this
                exact ⟨rfl, ⟨by first | (go_simp; done) | (go_simp; rfl), by go_simp, by go_simp, by go_simp, ⟨by first | (go_simp; done) | (go_simp; rfl), by go_simp, by go_simp, by go_simp⟩, by go_simp, by go_simp, by go_simp, by go_simp, by go_simp, by go_simp, by go_simp, by go_simp⟩, by simp, by (repeat' (first | (with_reducible exact Below.refl _ _) | (with_reducible assumption) | (with_reducible refine Below.alloc ?_ ?_ _) | (with_reducible refine bel_drewN ?_ _) | (with_reducible refine Below.drew ?_) | (with_reducible refine Below.setCell ?_ ?_ _) | (with_reducible refine bel_call ‹_› ?_ ?_) | go_size))⟩

            · go_wp2_with fail
              go_meet
              obtain ⟨rfl, rfl⟩ : q = 4 ∧ R = T4 := by have := HP.out; simpa using this
              exact ⟨rfl, ⟨by first | (go_simp; done) | (go_simp; rfl), by go_simp, by go_simp, by go_simp, ⟨by first | (go_simp; done) | (go_simp; rfl), by go_simp, by go_simp, by go_simp⟩, by go_simp, by go_simp, by go_simp, by go_simp, by go_simp, by go_simp, by go_simp, by go_simp⟩, by simp, by (repeat' (first | (with_reducible exact Below.refl _ _) | (with_reducible assumption) | (with_reducible refine Below.alloc ?_ ?_ _) | (with_reducible refine bel_drewN ?_ _) | (with_reducible refine Below.drew ?_) | (with_reducible refine Below.setCell ?_ ?_ _) | (with_reducible refine bel_call ‹_› ?_ ?_) | go_size))⟩

          · go_wp2_with fail
            go_meet
            obtain ⟨rfl, rfl⟩ : q = 3 ∧ R = T3 := by have := HP.out; simpa using this
            exact ⟨rfl, ⟨by first | (go_simp; done) | (go_simp; rfl), by go_simp, by go_simp, by go_simp, ⟨by first | (go_simp; done) | (go_simp; rfl), by go_simp, by go_simp, by go_simp⟩, by go_simp, by go_simp, by go_simp, by go_simp, by go_simp, by go_simp, by go_simp, by go_simp⟩, by simp, by (repeat' (first | (with_reducible exact Below.refl _ _) | (with_reducible assumption) | (with_reducible refine Below.alloc ?_ ?_ _) | (with_reducible refine bel_drewN ?_ _) | (with_reducible refine Below.drew ?_) | (with_reducible refine Below.setCell ?_ ?_ _) | (with_reducible refine bel_call ‹_› ?_ ?_) | go_size))⟩

        · go_wp2_with fail
          go_meet
          obtain ⟨rfl, rfl⟩ : q = 2 ∧ R = T2 := by have := HP.out; simpa using this
          exact ⟨rfl, ⟨by first | (go_simp; done) | (go_simp; rfl), by go_simp, by go_simp, by go_simp, ⟨by first | (go_simp; done) | (go_simp; rfl), by go_simp, by go_simp, by go_simp⟩, by go_simp, by go_simp, by go_simp, by go_simp, by go_simp, by go_simp, by go_simp, by go_simp⟩, by simp, by (repeat' (first | (with_reducible exact Below.refl _ _) | (with_reducible assumption) | (with_reducible refine Below.alloc ?_ ?_ _) | (with_reducible refine bel_drewN ?_ _) | (with_reducible refine Below.drew ?_) | (with_reducible refine Below.setCell ?_ ?_ _) | (with_reducible refine bel_call ‹_› ?_ ?_) | go_size))⟩

      · go_wp2_with fail
        go_meet
        obtain ⟨rfl, rfl⟩ : q = 1 ∧ R = T1 := by have := HP.out; simpa using this
        exact ⟨rfl, ⟨by first | (go_simp; done) | (go_simp; rfl), by go_simp, by go_simp, by go_simp, ⟨by first | (go_simp; done) | (go_simp; rfl), by go_simp, by go_simp, by go_simp⟩, by go_simp, by go_simp, by go_simp, by go_simp, by go_simp, by go_simp, by go_simp, by go_simp⟩, by simp, by (repeat' (first | (with_reducible exact Below.refl _ _) | (with_reducible assumption) | (with_reducible refine Below.alloc ?_ ?_ _) | (with_reducible refine bel_drewN ?_ _) | (with_reducible refine Below.drew ?_) | (with_reducible refine Below.setCell ?_ ?_ _) | (with_reducible refine bel_call ‹_› ?_ ?_) | go_size))⟩

    · go_wp2_with fail
      go_meet
      obtain ⟨rfl, rfl⟩ : q = 0 ∧ R = T0 := by have := HP.out; simpa using this
      exact ⟨rfl, ⟨by first | (go_simp; done) | (go_simp; rfl), by go_simp, by go_simp, by go_simp, ⟨by first | (go_simp; done) | (go_simp; rfl), by go_simp, by go_simp, by go_simp⟩, by go_simp, by go_simp, by go_simp, by go_simp, by go_simp, by go_simp, by go_simp, by go_simp⟩, by simp, by (repeat' (first | (with_reducible exact Below.refl _ _) | (with_reducible assumption) | (with_reducible refine Below.alloc ?_ ?_ _) | (with_reducible refine bel_drewN ?_ _) | (with_reducible refine Below.drew ?_) | (with_reducible refine Below.setCell ?_ ?_ _) | (with_reducible refine bel_call ‹_› ?_ ?_) | go_size))⟩
  case rest =>
    obtain ⟨rfl, ⟨c0, c1, c2, c3, ⟨r0, r1, r2, r3⟩, f0, f1, f2, f3, g0, g1, g2, g3⟩, hzx, hbx⟩ := hcut
    clear HC0 HC1 HC2 HC3 HC4 HC5 HP HSL hix0 hix1 hix2 hix3 hix4 hix5
    obtain ⟨wx, rfl⟩ : ∃ wx : World, wx = wc := ⟨_, rfl⟩
    clear hqR hL
    have HDx := Lib.hid (HD.out _ hbx)
    clear HD
    go_wp2_with fail
    refine HDx.out.mono ?_
    rintro e w1 ⟨rfl, hb1⟩
    obtain ⟨hc1, hf1, hz1⟩ := bcell hb1 (by rfl)
    cases ok
    · obtain rfl := HNN.out rfl
      go_wp2_with fail
      refine (HPT.out _).mono ?_
      rintro e w2 ⟨⟨v, rfl, hown⟩, hb2⟩
      obtain ⟨pp, cc, rfl, _, _, hrd, hor⟩ := RdG.of_own sgE_len rfl hown
      have hpb : ∀ b off, pp = some ⟨b, off, none⟩ → w.heap.size + 1 < b := fun b off e => by
        rcases hor with h | ⟨r, h1, h2, h3⟩
        · injection h with h; rw [h] at e; cases e
        · rw [h1] at e; cases e; have := hb1.size; omega
      obtain ⟨hc2, hf2, hz2⟩ := bcell hb2 (by rfl)
      have HRD := Lib.hid hrd
      have HPB := Lib.hid hpb
      clear hrd hpb hown hor HNN HPT HDx
      go_wp2_with fail
      refine bodyPost_ret (v := .agg #[.string (sgB q), .bool false, .int .i64 0, .slice pp (sgs R).length cc]) (by simp only [results, Tryd.results7]; go_simp) rfl ⟨⟨pp, ⟨cc, rfl⟩, ?_⟩, by (repeat' (first | (with_reducible exact Below.refl _ _) | (with_reducible assumption) | (with_reducible refine Below.alloc ?_ ?_ _) | (with_reducible refine bel_drewN ?_ _) | (with_reducible refine Below.drew ?_) | (with_reducible refine Below.setCell ?_ ?_ _) | (with_reducible refine bel_call ‹_› ?_ ?_) | go_size))⟩
      exact ((((HRD.out.set (fun b off e => by have := HPB.out b off e; simp only; omega) _).set (fun b off e => by have := HPB.out b off e; simp only; omega) _).set (fun b off e => by have := HPB.out b off e; simp only; omega) _).set (fun b off e => by have := HPB.out b off e; simp only; omega) _).set (fun b off e => by have := HPB.out b off e; simp only; omega) _
    · go_wp2_with fail
      refine bodyPost_ret (v := .agg #[.string (sgB q), .bool true, .int .i64 m, .slice none 0 0]) (by simp only [results, Tryd.results7]; go_simp) rfl ⟨⟨none, ⟨0, rfl⟩, RdG.nil _ _ _ _⟩, by (repeat' (first | (with_reducible exact Below.refl _ _) | (with_reducible assumption) | (with_reducible refine Below.alloc ?_ ?_ _) | (with_reducible refine bel_drewN ?_ _) | (with_reducible refine Below.drew ?_) | (with_reducible refine Below.setCell ?_ ?_ _) | (with_reducible refine bel_call ‹_› ?_ ?_) | go_size))⟩
end Go.Proofs.YtpggidkcifnhjaaDoor
