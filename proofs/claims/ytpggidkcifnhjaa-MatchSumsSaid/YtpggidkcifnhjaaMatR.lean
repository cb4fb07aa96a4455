/- Conditions: the document's Parse. -/
import Derived.Test.YtpggidkcifnhjaaMatQ
set_option linter.unusedSimpArgs false
set_option linter.unusedVariables false
namespace Go.Proofs.Ytpggidkcifnhjaa
open Go.RowKit

theorem piece_at (s x : ByteArray) (h : x.size ≤ s.size) : ((s.extract 0 x.size).toList == x.toList) = Lib.hasPrefix s.data.toList x.data.toList := by
  have := Lib.piece_eq_occAt s x 0 (by omega)
  rw [Nat.zero_add] at this
  rw [← beq_toListBytes, this]
  rfl
theorem pre_len {L P : List UInt8} (h : Lib.hasPrefix L P = true) : P.length ≤ L.length := by
  unfold Lib.hasPrefix at h
  exact (List.isPrefixOf_iff_prefix.1 h).length_le
theorem prC_hit (L : List UInt8) (i : Nat) (hi : i < 6) (hno : ∀ j, j < i → Lib.hasPrefix L (sgB j).data.toList = false) (h : Lib.hasPrefix L (sgB i).data.toList = true) : prC L = (i, L.drop (sgB i).size) := by
  have ht : Lib.trimPrefix L (sgB i).data.toList = L.drop (sgB i).size := by
    unfold Lib.trimPrefix
    rw [if_pos h, ← Lib.size_eq]
  rw [← ht]
  unfold prC
  obtain rfl | rfl | rfl | rfl | rfl | rfl : i = 0 ∨ i = 1 ∨ i = 2 ∨ i = 3 ∨ i = 4 ∨ i = 5 := by omega
  all_goals
    try (have h0 : Lib.hasPrefix L [60, 62] = false := hno 0 (by decide); rw [h0])
    try (have h0 : Lib.hasPrefix L [60, 61] = false := hno 1 (by decide); rw [h0])
    try (have h0 : Lib.hasPrefix L [62, 61] = false := hno 2 (by decide); rw [h0])
    try (have h0 : Lib.hasPrefix L [60] = false := hno 3 (by decide); rw [h0])
    try (have h0 : Lib.hasPrefix L [62] = false := hno 4 (by decide); rw [h0])
    simp only [sgB] at h ⊢
    simp [h]
theorem prC_none (L : List UInt8) (hno : ∀ j, j < 6 → Lib.hasPrefix L (sgB j).data.toList = false) : prC L = (5, L) := by
  have h0 : Lib.hasPrefix L [60, 62] = false := hno 0 (by decide)
  have h1 : Lib.hasPrefix L [60, 61] = false := hno 1 (by decide)
  have h2 : Lib.hasPrefix L [62, 61] = false := hno 2 (by decide)
  have h3 : Lib.hasPrefix L [60] = false := hno 3 (by decide)
  have h4 : Lib.hasPrefix L [62] = false := hno 4 (by decide)
  have h5 : Lib.hasPrefix L [61] = false := hno 5 (by decide)
  unfold prC
  rw [h0, h1, h2, h3, h4, h5]
  rfl
theorem ext_data (a : ByteArray) (l : List UInt8) (h : a.data.toList = l) : a = ⟨l.toArray⟩ := by subst h; simp
/-- The world where the document's loop over the signs begins. -/
abbrev RpW (w : World) : World := (((w.alloc (.cells #[.string ⟨#[]⟩, .bool false, .int .i64 0, .slice none 0 0] 34)).alloc (.cells #[.string ⟨#[61]⟩, .bool false, .int .i64 0, .slice none 0 0] 34)).alloc (.cells #[.string ⟨#[60, 62]⟩, .string ⟨#[60, 61]⟩, .string ⟨#[62, 61]⟩, .string ⟨#[60]⟩, .string ⟨#[62]⟩, .string ⟨#[61]⟩] 9))
theorem rpw_size (w : World) : (RpW w).heap.size = w.heap.size + 3 := by simp [RpW]
theorem rpw_sign (w : World) (i : Nat) (hi : i < 6) : (RpW w).cell? ⟨w.heap.size + 1 + 1, i, none⟩ = some (.string (sgB i)) := by
  obtain rfl | rfl | rfl | rfl | rfl | rfl : i = 0 ∨ i = 1 ∨ i = 2 ∨ i = 3 ∨ i = 4 ∨ i = 5 := by omega
  all_goals (simp only [sgB]; go_simp)
theorem rpw_prc (w : World) : PrC w (RpW w) 5 := by
  unfold PrC
  simp only [sgB]
  refine ⟨?_, ?_, ?_, ?_, ⟨?_, ?_, ?_, ?_⟩, ?_, ?_, ?_, ?_, ?_, ?_, ?_, ?_⟩
  all_goals first | (go_simp; done) | (go_simp; rfl)
theorem PrC.below {w wx wy : World} {q : Nat} (h : PrC w wx q) (hb : Below wx.heap.size wx wy) (hz : w.heap.size + 1 < wx.heap.size) : PrC w wy q := by
  have k0 : ∀ o, wy.cell? ⟨w.heap.size, o, none⟩ = wx.cell? ⟨w.heap.size, o, none⟩ := fun o => hb.cell (p := ⟨w.heap.size, o, none⟩) (by show w.heap.size < _; omega)
  have k1 : ∀ o, wy.cell? ⟨w.heap.size + 1, o, none⟩ = wx.cell? ⟨w.heap.size + 1, o, none⟩ := fun o => hb.cell (p := ⟨w.heap.size + 1, o, none⟩) hz
  have k2 : ∀ o, wy.frozen? ⟨w.heap.size, o, none⟩ = wx.frozen? ⟨w.heap.size, o, none⟩ := fun o => hb.frozen (p := ⟨w.heap.size, o, none⟩) (by show w.heap.size < _; omega)
  have k3 : ∀ o, wy.frozen? ⟨w.heap.size + 1, o, none⟩ = wx.frozen? ⟨w.heap.size + 1, o, none⟩ := fun o => hb.frozen (p := ⟨w.heap.size + 1, o, none⟩) hz
  unfold PrC at h ⊢
  simp only [k0, k1, k2, k3]
  exact h
theorem PrC.sign {w wx : World} {q : Nat} (h : PrC w wx q) (j : Nat) : PrC w (wx.setCell ⟨w.heap.size + 1, 0, none⟩ (.string (sgB j))) j := by
  obtain ⟨c0, c1, c2, c3, ⟨r0, r1, r2, r3⟩, f0, f1, f2, f3, g0, g1, g2, g3⟩ := h
  unfold PrC
  refine ⟨?_, ?_, ?_, ?_, ⟨?_, ?_, ?_, ?_⟩, ?_, ?_, ?_, ?_, ?_, ?_, ?_, ?_⟩
  all_goals first | (go_simp; done) | (go_simp; assumption)
theorem sgB_size (i : Nat) : (sgB i).size = 1 ∨ (sgB i).size = 2 := by
  unfold sgB
  split
  all_goals first | exact .inl rfl | exact .inr rfl

set_option maxRecDepth 100000 in
set_option maxHeartbeats 4000000 in
theorem rparse_any (s : ByteArray) (hs : s.size ≤ 800) (w : World) :
    Calls Try.prog 7 #[.string s] w fun e w' => (∃ p cap, e = .returned (.agg #[.string (sgB (prC s.data.toList).1), .bool (prsOk (prC s.data.toList).2), .int .i64 (prsV (prC s.data.toList).2), .slice p (if prsOk (prC s.data.toList).2 then [] else (sgs (prC s.data.toList).2).map low).length cap]) ∧ RdG sgE 2 w' p (if prsOk (prC s.data.toList).2 then [] else (sgs (prC s.data.toList).2).map low).length (if prsOk (prC s.data.toList).2 then [] else (sgs (prC s.data.toList).2).map low)) ∧ Below w.heap.size w w' := by
  obtain ⟨L, hL⟩ : ∃ L, s.data.toList = L := ⟨_, rfl⟩
  rw [hL]
  have hsz : L.length = s.size := by rw [← hL, ← Lib.size_eq]
  have HPC : Hid (∀ x : ByteArray, x.size ≤ s.size → ((s.extract 0 x.size).toList == x.toList) = Lib.hasPrefix L x.data.toList) := fun x hx => by rw [piece_at s x hx, hL]
  have HEX : Hid (∀ k, k ≤ s.size → s.extract k s.size = ⟨(L.drop k).toArray⟩) := fun k hk => ext_data _ _ (by rw [Lib.extract_data, hL, List.take_of_length_le (by rw [List.length_drop, hsz]; exact Nat.le_refl _)])
  have HHIT := Lib.hid (prC_hit L)
  have HNONE := Lib.hid (prC_none L)
  have HLT := Lib.hid (prC_lt L)
  have HLN := Lib.hid (prC_len L)
  have HSL : Hid (s = ⟨L.toArray⟩) := by unfold Hid; rw [← hL]
  have HSZ := Lib.hid hsz
  clear hL hsz
  obtain ⟨q, R, hqR⟩ : ∃ q R, prC L = (q, R) := ⟨_, _, rfl⟩
  rw [hqR] at HHIT HNONE HLT HLN ⊢
  simp only at HLN HLT ⊢
  have hRl : R.length ≤ 800 := by have := HLN.out; have := HSZ.out; omega
  have HD : Hid (∀ W, Calls Try.prog 20 #[.string ⟨R.toArray⟩] W fun e w' => e = .returned (.tuple #[.int .i64 (prsV R), .bool (prsOk R)]) ∧ Below W.heap.size W w') := fun W => by
    have := refParse_any ⟨R.toArray⟩ (by rw [Lib.size_eq]; simp; omega) W
    rw [prs_ok, prs_v] at this
    exact this
  have HPT : Hid (∀ W, Calls Try.prog 21 #[.string ⟨R.toArray⟩] W fun e w' => (∃ v, e = .returned v ∧ w'.ownsRow W.heap.size 67 2 v ((sgs R).map low).length (((sgs R).map low).flatMap sgE)) ∧ Below W.heap.size W w') := fun W => signs_any ⟨R.toArray⟩ (by rw [Lib.size_eq]; simp; omega) W
  have HNN := Lib.hid (prsV_no R)
  clear hqR
  obtain ⟨m, hm⟩ : ∃ m, prsV R = m := ⟨_, rfl⟩
  obtain ⟨ok, hok⟩ : ∃ ok, prsOk R = ok := ⟨_, rfl⟩
  rw [hm, hok] at HD HNN
  rw [hm, hok]
  clear hm hok
  have HB2 := Lib.hid sgB_size
  go_enter Try.func7, Try.ntmps7
  go_upto_block 0 with fail
  go_cut [0] (fun v0 wx => v0 = .string ⟨R.toArray⟩ ∧ PrC w wx q ∧ w.heap.size + 1 < wx.heap.size ∧ Below w.heap.size w wx)
  case first =>
    go_wp2_with fail
    go_loopg [0, 5] 6 (fun g v0 v5 wr => ∃ i : Nat, i + g = 6 ∧ v5 = .int .i64 i ∧ v0 = .string s ∧ (∀ j, j < i → Lib.hasPrefix L (sgB j).data.toList = false) ∧ Below (RpW w).heap.size (RpW w) wr)
    case atStart => exact ⟨0, by omega, rfl, rfl, fun j hj => by omega, Below.refl _ _⟩
    case round =>
      obtain ⟨i, hig, rfl, rfl, hno, hbel⟩ := hrel
      have hzr := hbel.size
      rw [rpw_size] at hzr
      have HNO := Lib.hid hno
      have HBW : Hid (Below w.heap.size w wr) := bel_call hbel (by (repeat' (first | (with_reducible exact Below.refl _ _) | (with_reducible assumption) | (with_reducible refine Below.alloc ?_ ?_ _) | (with_reducible refine bel_drewN ?_ _) | (with_reducible refine Below.drew ?_) | (with_reducible refine Below.setCell ?_ ?_ _) | (with_reducible refine bel_call ‹_› ?_ ?_) | go_size))) (by rw [rpw_size]; omega)
      have HPR := Lib.hid ((rpw_prc w).below hbel (by rw [rpw_size]; omega))
      by_cases hlt : i < 6
      · have hli : (i : Int) < 6 := by omega
        have hi0 : (0 : Int) ≤ (i : Int) := by omega
        have q0 : wr.cell? ⟨w.heap.size + 1 + 1, i, none⟩ = some (.string (sgB i)) := (hbel.cell (p := ⟨w.heap.size + 1 + 1, i, none⟩) (by rw [rpw_size]; show w.heap.size + 1 + 1 < _; omega)).trans (rpw_sign w i hlt)
        have HBEL := Lib.hid hbel
        have hx2 := HB2.out i
        have hp := HPC.out (sgB i)
        have hh := HHIT.out i hlt hno
        obtain ⟨x, hx⟩ : ∃ x, sgB i = x := ⟨_, rfl⟩
        obtain ⟨b, hb⟩ : ∃ b, Lib.hasPrefix L (sgB i).data.toList = b := ⟨_, rfl⟩
        have HNX : Hid (b = false → ∀ j, j < i + 1 → Lib.hasPrefix L (sgB j).data.toList = false) := fun h j hj => by
          by_cases hji : j = i
          · subst hji; rw [hb, h]
          · exact HNO.out j (by omega)
        have hpl := fun h => pre_len (L := L) (P := (sgB i).data.toList) h
        rw [← Lib.size_eq] at hpl
        rw [hb] at hp hh hpl
        rw [hx] at q0 hx2 hp hh hpl
        have HPL := Lib.hid hpl
        have HH := Lib.hid hh
        have HP := Lib.hid hp
        have HX := Lib.hid hx
        have HLL : Hid (L.length = s.size) := HSZ
        clear hx hb hbel hno hp hh hpl
        by_cases hxs : x.size ≤ s.size
        · have hxi : (x.size : Int) ≤ (s.size : Int) := by omega
          have hp := HP.out hxs
          cases b
          · go_wp2_with fail
            go_quiet (fail)
            go_wp2_with fail
            go_roundg (gk - 1)
            case measure => omega
            case rel => exact ⟨i + 1, by omega, by go_num, rfl, HNX.out (by first | trivial | rfl), bel_drewN HBEL.out _⟩
          · have hR := HH.out rfl
            obtain ⟨rfl, rfl⟩ : q = i ∧ R = L.drop x.size := by simpa using hR
            obtain ⟨c0, _, _, _, _, f0, _⟩ := HPR.out
            go_wp2_with fail
            go_quiet (fail)
            go_wp2_with fail
            go_meet
            refine ⟨?_, ?_, ?_, ?_⟩
            · rw [← HEX.out _ hxs]
            · have := (HPR.out.below (bel_drewN (Below.refl _ _) nq) (by omega)).sign q
              rw [HX.out] at this
              exact this
            · simp [World.setCell]; omega
            · exact (bel_drewN HBW.out nq).setCell (by simp) _
        · have hxi : ¬ (x.size : Int) ≤ (s.size : Int) := by omega
          obtain rfl : b = false := by
            cases b
            · rfl
            · exact absurd (HPL.out rfl) (by rw [HLL.out]; exact hxs)
          go_wp2_with fail
          go_quiet (fail)
          go_wp2_with fail
          go_roundg (gk - 1)
          case measure => omega
          case rel => exact ⟨i + 1, by omega, by go_num, rfl, HNX.out (by first | trivial | rfl), bel_drewN HBEL.out _⟩
      · obtain ⟨rfl, rfl⟩ : q = 5 ∧ R = L := by
          have := HNONE.out (fun j hj => HNO.out j (by omega))
          simpa using this
        have hli : ¬ (i : Int) < 6 := by omega
        go_wp2_with fail
        go_meet
        exact ⟨by rw [HSL.out], HPR.out, by omega, HBW.out⟩
  case rest =>
    obtain ⟨rfl, ⟨c0, c1, c2, c3, ⟨r0, r1, r2, r3⟩, f0, f1, f2, f3, g0, g1, g2, g3⟩, hzx, hbx⟩ := hcut
    clear HPC HEX HHIT HNONE HLT HLN HSL HSZ HB2
    obtain ⟨wx, rfl⟩ : ∃ wx : World, wx = wc := ⟨_, rfl⟩
    go_wp2_with fail
    refine (HD.out _).mono ?_
    rintro e w1 ⟨rfl, hb1⟩
    obtain ⟨hc1, hf1, hz1⟩ := bcell hb1 (by rfl)
    cases ok
    · obtain rfl := HNN.out rfl
      go_wp2_with fail
      refine (HPT.out _).mono ?_
      rintro e w2 ⟨⟨v, rfl, hown⟩, hb2⟩
      obtain ⟨pp, cc, rfl, _, _, hrd, hor⟩ := RdG.of_own sgE_len rfl hown
      have hpb : ∀ b off, pp = some ⟨b, off, none⟩ → w.heap.size + 1 < b := fun b off e => by
        rcases hor with h | ⟨r, h1, h2, h3⟩
        · injection h with h; rw [h] at e; cases e
        · rw [h1] at e; cases e; have := hb1.size; simp [World.setCell] at h2; omega
      obtain ⟨hc2, hf2, hz2⟩ := bcell hb2 (by simp only [World.size_setCell]; rfl)
      have HRD := Lib.hid hrd
      have HPB := Lib.hid hpb
      clear hrd hpb hown hor HNN HPT HD
      obtain ⟨ln, hln⟩ : ∃ ln, ((sgs R).map low).length = ln := ⟨_, rfl⟩
      have HRD2 : Hid (RdG sgE 2 w2 pp ln ((sgs R).map low)) := hln ▸ HRD.out
      rw [hln]
      go_wp2_with fail
      refine bodyPost_ret (v := .agg #[.string (sgB q), .bool false, .int .i64 0, .slice pp ln cc]) (by simp only [results, Try.results7]; go_simp) rfl ⟨⟨pp, ⟨cc, rfl⟩, ?_⟩, by (repeat' (first | (with_reducible exact Below.refl _ _) | (with_reducible assumption) | (with_reducible refine Below.alloc ?_ ?_ _) | (with_reducible refine bel_drewN ?_ _) | (with_reducible refine Below.drew ?_) | (with_reducible refine Below.setCell ?_ ?_ _) | (with_reducible refine bel_call ‹_› ?_ ?_) | go_size))⟩
      exact ((((HRD2.out.set (fun b off e => by have := HPB.out b off e; simp only; omega) _).set (fun b off e => by have := HPB.out b off e; simp only; omega) _).set (fun b off e => by have := HPB.out b off e; simp only; omega) _).set (fun b off e => by have := HPB.out b off e; simp only; omega) _).set (fun b off e => by have := HPB.out b off e; simp only; omega) _
    · go_wp2_with fail
      refine bodyPost_ret (v := .agg #[.string (sgB q), .bool true, .int .i64 m, .slice none 0 0]) (by simp only [results, Try.results7]; go_simp) rfl ⟨⟨none, ⟨0, rfl⟩, RdG.nil _ _ _ _⟩, by (repeat' (first | (with_reducible exact Below.refl _ _) | (with_reducible assumption) | (with_reducible refine Below.alloc ?_ ?_ _) | (with_reducible refine bel_drewN ?_ _) | (with_reducible refine Below.drew ?_) | (with_reducible refine Below.setCell ?_ ?_ _) | (with_reducible refine bel_call ‹_› ?_ ?_) | go_size))⟩
end Go.Proofs.Ytpggidkcifnhjaa
