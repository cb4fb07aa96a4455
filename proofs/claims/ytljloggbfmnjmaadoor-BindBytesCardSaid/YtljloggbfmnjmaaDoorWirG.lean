/- Wire: the document's reader in memory: num. -/
import Derived.Test.YtljloggbfmnjmaaDoorWirF
import Derived.Test.YtljloggbfmnjmaaDoorWirD
set_option linter.unusedSimpArgs false
set_option linter.unusedVariables false
namespace Go.Proofs.YtljloggbfmnjmaaDoor
open Go.RowKit Go.Joins

abbrev tR2 : TypeId := 73
/-- The document's reader: what is left; none: it is bad (and holds whatever bytes). -/
def RRd (w : World) (b : Nat) (S : Option (List UInt8)) : Prop := ∃ p n cap bad L, BlkC w b #[.slice p n cap, .bool bad] tR2 ∧ L.length ≤ 100000 ∧ RdU w b p n cap L ∧ S = if bad = true then none else some L
theorem RRd.below {w w' : World} {b : Nat} {S : Option (List UInt8)} (h : RRd w b S) (hb : Below w.heap.size w w') : RRd w' b S := by
  obtain ⟨p, n, cap, bad, L, h1, h2, h3, h4⟩ := h
  exact ⟨p, n, cap, bad, L, h1.below hb, h2, h3.below hb, h4⟩
theorem RRd.lt {w : World} {b : Nat} {S : Option (List UInt8)} (h : RRd w b S) : b < w.heap.size := by
  obtain ⟨p, n, cap, bad, L, h1, h2⟩ := h
  exact lt_some h1
theorem intR_none (m : Nat) : intR m none = (0, none) := rfl
theorem intR_bad' (m : Nat) {L : List UInt8} (h : numD L = none) : intR m (some L) = (0, none) := by show (match intD m L with | none => (0, none) | some (v, r) => (v, some r) : Nat × Option (List UInt8)) = _; unfold intD; rw [h]
theorem intR_great {m v : Nat} {L r : List UInt8} (h : numD L = some (v, r)) (hm : m < v) : intR m (some L) = (0, none) := by show (match intD m L with | none => (0, none) | some (v, r) => (v, some r) : Nat × Option (List UInt8)) = _; unfold intD; rw [h]; simp [hm]
theorem intR_good {m v : Nat} {L r : List UInt8} (h : numD L = some (v, r)) (hm : ¬ m < v) : intR m (some L) = (v, some r) := by show (match intD m L with | none => (0, none) | some (v, r) => (v, some r) : Nat × Option (List UInt8)) = _; unfold intD; rw [h]; simp [hm]
/-- A number without a bound. -/
theorem intR_num (S : Option (List UInt8)) : intR 18446744073709551615 S = numR S := by
  cases S with
  | none => rfl
  | some L =>
    cases h : numD L with
    | none => rw [intR_bad' _ h]; show _ = (match numD L with | none => (0, none) | some (v, r) => (v, some r) : Nat × Option (List UInt8)); rw [h]
    | some x =>
      obtain ⟨v, r⟩ := x
      have := numD_lt h
      rw [intR_good h (by omega)]
      show _ = (match numD L with | none => (0, none) | some (v, r) => (v, some r) : Nat × Option (List UInt8)); rw [h]
def RNumP (b : Nat) (R : Nat × Option (List UInt8)) (w : World) (e : Ending) (w' : World) : Prop := e = .returned (.int .u64 (R.1 : Nat)) ∧ RRd w' b R.2 ∧ Off b w w'
set_option maxRecDepth 100000 in
set_option maxHeartbeats 4000000 in
theorem rnumr_any (b : Nat) (S : Option (List UInt8)) (most : Nat) (w : World) (h : RRd w b S) (R : Nat × Option (List UInt8)) (hR : intR most S = R) :
    Calls Tryd.prog 31 #[.pointer (some ⟨b, 0, none⟩), .int .u64 most] w (RNumP b R w) := by
  obtain ⟨p, n, cap, bad, L, h1, hL, hU, hS⟩ := h
  have hl : L.length = n := hU.1
  have hnc : n ≤ cap := hU.2.1
  have hcm : cap ≤ maxLen := hU.2.2.1
  unfold maxLen at hcm
  have c0 : w.cell? ⟨b, 0, none⟩ = some (.slice p n cap) := h1.cell 0 _ rfl
  have HT := Lib.hid (rtake_any p n cap b L (by omega) w hU)
  have HB := Lib.hid h1
  have HU := Lib.hid hU
  have HLN := Lib.hid hl
  have HLL := Lib.hid hL
  have hcs := Lib.hid hU.2.2.2
  clear h1 hU hl hL c0
  have HBAD : Hid (R = (0, none) → ∀ (W : World) (v : Value), BlkC W b #[v, .bool true] tR2 → v = .slice p n cap → RdU W b p n cap L → ∀ e, e = .returned (.int .u64 0) → Off b w W → RNumP b R w e W) := fun hz W v hW hv hU' e he ho => by
    subst hz
    subst hv
    exact ⟨he, ⟨p, n, cap, true, L, hW, HLL.out, hU', rfl⟩, ho⟩
  unfold TkP at HT
  obtain ⟨⟨tv, tk⟩, ht⟩ : ∃ x, takD L = x := ⟨_, rfl⟩
  rw [ht] at HT
  have HTD := Lib.hid ht
  have HR := Lib.hid hR
  have HS := Lib.hid hS
  clear ht hR hS
  have c0 : w.cell? ⟨b, 0, none⟩ = some (.slice p n cap) := HB.out.cell 0 _ rfl
  go_enter Tryd.func31, Tryd.ntmps31
  go_wp2_with fail
  refine HT.out.mono ?_
  rintro e w1 ⟨rfl, hb1⟩
  have HB1 := Lib.hid (HB.out.below hb1)
  have HU1 := Lib.hid (HU.out.below hb1)
  have HO1 : Hid (Off b w w1) := Off.of_below hb1
  have c0 : w1.cell? ⟨b, 0, none⟩ = some (.slice p n cap) := HB1.out.cell 0 _ rfl
  have c1 : w1.cell? ⟨b, 1, none⟩ = some (.bool bad) := HB1.out.cell 1 _ rfl
  have f0 := HB1.out.fz 0
  have f1 := HB1.out.fz 1
  clear hb1 HT HB
  cases bad with
  | true =>
    have hz : R = (0, none) := by rw [← HR.out, HS.out]; rfl
    have HZ := Lib.hid hz
    clear hz HR HS HTD
    go_wp2_with fail
    go_ret
    exact HBAD.out HZ.out _ _ (show BlkC (w1.setCell ⟨b, 1, none⟩ (.bool true)) b #[.slice p n cap, .bool true] tR2 from block_setCell HB1.out (.bool true)) rfl (HU1.out.off ((Off.refl b w1).set 1 _) (Nat.le_refl _)) _ rfl (HO1.out.set _ _)
  | false =>
    have hS2 : S = some L := HS.out
    subst hS2
    cases hv : numD L with
    | none =>
      have hz : R = (0, none) := by rw [← HR.out, intR_bad' _ hv]
      have HZ := Lib.hid hz
      have hk0 : tk = 0 := by have h := HTD.out; unfold takD at h; rw [hv] at h; exact (Prod.mk.inj h).2.symm
      subst hk0
      clear hz HR HS HTD hv
      go_wp2_with fail
      go_ret
      exact HBAD.out HZ.out _ _ (show BlkC (w1.setCell ⟨b, 1, none⟩ (.bool true)) b #[.slice p n cap, .bool true] tR2 from block_setCell HB1.out (.bool true)) rfl (HU1.out.off ((Off.refl b w1).set 1 _) (Nat.le_refl _)) _ rfl (HO1.out.set _ _)
    | some x =>
      obtain ⟨v, r⟩ := x
      have hrl := numL_le _ _ _ _ _ hv
      have hrd := numL_drop _ _ _ _ _ hv
      have hlt := numD_lt hv
      have hkk := HTD.out
      unfold takD at hkk
      rw [hv] at hkk
      obtain ⟨hk1, hk2⟩ := Prod.mk.inj hkk
      obtain rfl : v = tv := hk1
      replace hk2 : L.length - r.length = tk := hk2
      rw [hk2] at hrd
      have hln := HLN.out
      have hk0 : 0 < tk := by omega
      have hkn : tk ≤ n := by omega
      have hk0i : ((tk : Int) == 0) = false := by simp; omega
      by_cases hm : most < v
      · have hz : R = (0, none) := by rw [← HR.out, intR_great hv hm]
        have HZ := Lib.hid hz
        have hmi : (most : Int) < (v : Int) := by omega
        clear hz HR HS HTD hv hkk hk2 hrd hrl hm
        go_wp2_with fail
        go_ret
        exact HBAD.out HZ.out _ _ (show BlkC (w1.setCell ⟨b, 1, none⟩ (.bool true)) b #[.slice p n cap, .bool true] tR2 from block_setCell HB1.out (.bool true)) rfl (HU1.out.off ((Off.refl b w1).set 1 _) (Nat.le_refl _)) _ rfl (HO1.out.set _ _)
      · have hz : R = (v, some r) := by rw [← HR.out, intR_good hv hm]
        have HZ := Lib.hid hz
        have hmi : ¬ (most : Int) < (v : Int) := by omega
        have hrlen : r.length ≤ 100000 := by have := HLL.out; omega
        have HRD := Lib.hid hrd
        have HRL := Lib.hid hrlen
        clear hz HR HS HTD hv hkk hk2 hrd hrl hm hrlen
        rcases hcs.out with ⟨_, h0, _⟩ | ⟨b', off, rfl, _, _, _⟩
        · omega
        by_cases hce : cap = tk
        · subst hce
          obtain rfl : n = cap := by omega
          have HDR : Hid (RdU w1 b (some ⟨b', off, none⟩) 0 0 r) := by
            have := HU1.out.drop n (Nat.le_refl _) off (.inr rfl)
            rw [Nat.sub_self] at this
            rw [HRD.out]
            exact this
          go_wp2_with fail
          go_ret
          rw [HZ.out]
          exact ⟨rfl, ⟨_, 0, 0, false, r, block_setCell HB1.out _, HRL.out, HDR.out.off ((Off.refl b w1).set 0 _) (Nat.le_refl _), rfl⟩, HO1.out.set _ _⟩
        · have hvl2 : (tk : Int) < (cap : Int) := by omega
          have hknI : (tk : Int) ≤ (n : Int) := by omega
          have HDR := Lib.hid (HU1.out.drop tk (by omega) (off + tk) (.inl rfl))
          clear hce
          go_wp2_with fail
          go_ret
          rw [HZ.out]
          exact ⟨rfl, ⟨_, _, _, false, r, block_setCell HB1.out _, HRL.out, by rw [HRD.out]; exact HDR.out.off ((Off.refl b w1).set 0 _) (Nat.le_refl _), rfl⟩, HO1.out.set _ _⟩
end Go.Proofs.YtljloggbfmnjmaaDoor
