/- strings.LastIndexAny of the two signs, at every string. -/
import Derived.Test.YtaocbebgdbeffaaDoorGauO
import Derived.Lib.TrimUEq
import Derived.Outline
set_option linter.unusedSimpArgs false
set_option linter.unusedVariables false
namespace Go.Proofs.YtaocbebgdbeffaaDoor
open Go.RowKit

/-- The last of the two signs among the first k bytes. -/
def lpm (L : List UInt8) : Nat → Int
  | 0 => -1
  | k + 1 => if byt L k = 43 ∨ byt L k = 45 then (k : Int) else lpm L k
theorem lpm_yes {L : List UInt8} {k : Nat} (h : byt L k = 43 ∨ byt L k = 45) : lpm L (k + 1) = (k : Int) := by rw [lpm, if_pos h]
theorem lpm_no {L : List UInt8} {k : Nat} (h : ¬ (byt L k = 43 ∨ byt L k = 45)) : lpm L (k + 1) = lpm L k := by rw [lpm, if_neg h]
theorem lpm_skip {L : List UInt8} {i : Nat} : ∀ n, (∀ j, i ≤ j → j < i + n → ¬ (byt L j = 43 ∨ byt L j = 45)) → lpm L (i + n) = lpm L i
  | 0, _ => rfl
  | n + 1, h => by
    rw [← Nat.add_assoc, lpm_no (h (i + n) (by omega) (by omega))]
    exact lpm_skip n fun j h1 h2 => h j h1 (by omega)

theorem set_pm (x : UInt8) : (⟨#[43, 45]⟩ : ByteArray).data.toList.contains x = decide (x.toNat = 43 ∨ x.toNat = 45) := by
  rw [Bool.eq_iff_iff]
  simp [← UInt8.toNat_inj]
theorem pm_low : ∀ (j : Nat) b, (⟨#[43, 45]⟩ : ByteArray).data.toList[j]? = some b → b.toNat < 128
  | 0, b, h => by cases h; decide
  | 1, b, h => by cases h; decide
  | n + 2, b, h => by cases h
theorem utf8Tabs_below {g3 g4 B : Nat} {w w' : World} (h : Lib.Utf8Tabs g3 g4 w) (hb : Below B w w') (h3 : g3 < B) (h4 : g4 < B) : Lib.Utf8Tabs g3 g4 w' := by
  refine ⟨fun c hc => ?_, fun i hi => ⟨?_, ?_⟩⟩
  · rw [hb.cell (p := ⟨g3, c, none⟩) h3]
    exact h.1 c hc
  · rw [hb.cell (p := ⟨g4, 2 * i, none⟩) h4]
    exact (h.2 i hi).1
  · rw [hb.cell (p := ⟨g4, 2 * i + 1, none⟩) h4]
    exact (h.2 i hi).2

theorem su_any (n : Int) (b : Bool) (h : decide (8 < n) = b) (w : World) : Calls Tryd.prog 35 #[.int .i64 n] w fun e w' => e = .returned (.bool b) ∧ w = w' :=
  (Tryd.strings_shouldUseASCIISet n w).mono fun _ _ h' => ⟨by rw [h'.1, h], h'.2.symm⟩
set_option maxRecDepth 100000 in
set_option maxHeartbeats 2000000 in
theorem lastAny_great (s : ByteArray) (h8 : 8 < s.size) (hs : s.size ≤ 1000) (w : World) :
    Calls Tryd.prog 26 #[.string s, .string ⟨#[43, 45]⟩] w fun e w' => e = .returned (.int .i64 (lpm s.data.toList s.size)) ∧ Below w.heap.size w w' := by
  have hz8 : (8 : Int) < (s.size : Int) := by omega
  have HU := Lib.hid (fun W => su_any (s.size : Int) true (decide_eq_true hz8) W)
  have h1 : ((s.size : Int) == 1) = false := by simp; omega
  have hM := Lib.hid (Tryd.strings_makeASCIISet (fun _ => by kernel_rfl) ⟨#[43, 45]⟩ w (by decide) pm_low)
  have hzs : ∀ W, (zeroValue 68).run Tryd.prog W = .ok (.agg (Array.replicate 256 (.bool false))) W := fun _ => by kernel_rfl
  have hsc : (storeCells ⟨w.heap.size + 1, 0, none⟩ (Lib.setCells (⟨#[43, 45]⟩ : ByteArray).data.toList).toList 0).run Tryd.prog ((w.alloc (.cells (Lib.setCells (⟨#[43, 45]⟩ : ByteArray).data.toList) 68)).alloc (.cells (Array.replicate 256 (.bool false)) 68)) = .ok () ((w.alloc (.cells (Lib.setCells (⟨#[43, 45]⟩ : ByteArray).data.toList) 68)).alloc (.cells (Lib.setCells (⟨#[43, 45]⟩ : ByteArray).data.toList) 68)) := by
    have := run_storeCells_new (P := Tryd.prog) (w.alloc (.cells (Lib.setCells (⟨#[43, 45]⟩ : ByteArray).data.toList) 68)) 68 (Array.replicate 256 (.bool false)) (Lib.setCells (⟨#[43, 45]⟩ : ByteArray).data.toList) (by rw [Lib.setCells_size]; kernel_rfl) (by rw [Lib.setCells_size, Array.size_replicate]) (Lib.setCells_one _)
    simpa using this
  have hsz := Lib.setCells_size (⟨#[43, 45]⟩ : ByteArray).data.toList
  have hcellAt : ∀ x : UInt8, ((w.alloc (.cells (Lib.setCells (⟨#[43, 45]⟩ : ByteArray).data.toList) 68)).alloc (.cells (Lib.setCells (⟨#[43, 45]⟩ : ByteArray).data.toList) 68)).cell? ⟨w.heap.size + 1, x.toNat, none⟩ = some (.bool (decide (x.toNat = 43 ∨ x.toNat = 45))) := fun x => by
    rw [World.cell?_alloc_at _ _ _ _ (by simp), Lib.setCells_at, set_pm]
  obtain ⟨C, hC⟩ : ∃ C, Lib.setCells (⟨#[43, 45]⟩ : ByteArray).data.toList = C := ⟨_, rfl⟩
  rw [hC] at hM hsc hsz hcellAt
  have HC := Lib.hid hcellAt
  clear hcellAt hC
  have HL : Hid (∀ i (h : i < s.size), ((s[i]'h).toNat : Nat) = byt s.data.toList i) := fun i h => byt_str s i h
  obtain ⟨L, hL⟩ : ∃ L, s.data.toList = L := ⟨_, rfl⟩
  rw [hL] at HL ⊢
  clear hL
  go_enter Tryd.func26, Tryd.ntmps26
  go_wp2_with fail
  refine (HU.out _).mono ?_
  rintro e w1 ⟨rfl, rfl⟩
  go_wp2_with fail
  refine hM.out.mono ?_
  rintro e w1 ⟨rfl, rfl⟩
  go_wp2_with fail
  clear hzs hsc hsz hM HU h1 hz8
  obtain ⟨W1, hW1⟩ : ∃ W1, (w.alloc (.cells C 68)).alloc (.cells C 68) = W1 := ⟨_, rfl⟩
  have hb : Below w.heap.size w W1 := by rw [← hW1]; (repeat' (first | (with_reducible exact Below.refl _ _) | (with_reducible assumption) | (with_reducible refine Below.alloc ?_ ?_ _) | (with_reducible refine bel_drewN ?_ _) | (with_reducible refine Below.drew ?_) | (with_reducible refine Below.setCell ?_ ?_ _) | (with_reducible refine bel_call ‹_› ?_ ?_) | go_size))
  rw [hW1] at HC ⊢
  clear hW1
  go_loopg [8] s.size (fun g s8 wx => wx = W1 ∧ g ≤ s.size ∧ s8 = .int .i64 ((g : Int) - 1) ∧ lpm L s.size = lpm L g)
  case atStart => exact ⟨rfl, by omega, rfl, rfl⟩
  case round =>
    obtain ⟨rfl, hg, rfl, hl⟩ := hrel
    have HX := Lib.hid hl
    clear hl
    cases gk with
    | zero =>
      have h0 : ¬ (0 : Int) ≤ ((0 : Nat) : Int) - 1 := by omega
      go_wp2
      go_ret
      exact ⟨by rw [HX.out]; rfl, hb⟩
    | succ g =>
      have hi : g < s.size := by omega
      have e1 : (((g + 1 : Nat) : Int)) - 1 = (g : Int) := by omega
      rw [e1]
      obtain ⟨x, hx⟩ : ∃ x : UInt8, s[g]'hi = x := ⟨_, rfl⟩
      have hxn := HL.out g hi
      rw [hx] at hxn
      have HXN := Lib.hid hxn
      clear hxn
      have hcx := HC.out x
      by_cases hin : x.toNat = 43 ∨ x.toNat = 45
      · rw [decide_eq_true hin] at hcx
        go_wp2_with (go_at_call 37; refine (Tryd.asciiSet_contains _ x _ _ hcx).mono ?_; rintro e w' ⟨rfl, rfl⟩)
        go_ret
        exact ⟨by rw [HX.out, lpm_yes (by rw [← HXN.out]; exact hin)]; rfl, hb⟩
      · rw [decide_eq_false hin] at hcx
        go_wp2_with (go_at_call 37; refine (Tryd.asciiSet_contains _ x _ _ hcx).mono ?_; rintro e w' ⟨rfl, rfl⟩)
        go_roundg g
        case measure => omega
        case rel => exact ⟨rfl, by omega, rfl, by rw [HX.out, lpm_no (by rw [← HXN.out]; exact hin)]⟩

theorem decN_hi (n b0 b1 b2 b3 : Nat) (h0 : 128 ≤ b0) : 128 ≤ (Lib.decodeN n b0 b1 b2 b3).1 ∧
    ((Lib.decodeN n b0 b1 b2 b3).2 = 1 ∨ ((Lib.decodeN n b0 b1 b2 b3).2 = 2 ∧ b1 / 64 = 2) ∨ ((Lib.decodeN n b0 b1 b2 b3).2 = 3 ∧ b1 / 64 = 2 ∧ b2 / 64 = 2) ∨ ((Lib.decodeN n b0 b1 b2 b3).2 = 4 ∧ b1 / 64 = 2 ∧ b2 / 64 = 2 ∧ b3 / 64 = 2)) := by
  unfold Lib.decodeN
  rw [if_neg (by omega)]
  repeat' split
  all_goals
    simp only [true_and, and_true, true_or, or_true, reduceCtorEq, false_and, Nat.reduceEqDiff, false_or, or_false]
    omega
/-- The last rune of the first i bytes: a byte below 128, or bytes of 128 and more alone. -/
theorem last_pm (L : List UInt8) (i : Nat) (hi : 0 < i) (hil : i ≤ L.length) :
    (byt L (i - 1) < 128 ∧ Lib.decodeLastL (L.take i) = (byt L (i - 1), 1)) ∨
    (128 ≤ (Lib.decodeLastL (L.take i)).1 ∧ 1 ≤ (Lib.decodeLastL (L.take i)).2 ∧ (Lib.decodeLastL (L.take i)).2 ≤ i ∧ ∀ j, i - (Lib.decodeLastL (L.take i)).2 ≤ j → j < i → 128 ≤ byt L j) := by
  rcases Lib.last_cases L i hi hil with ⟨h1, h2⟩ | ⟨h1, h2⟩ | ⟨h1, st, hst, h2, h3⟩
  · exact .inl ⟨h1, h2⟩
  · refine .inr ?_
    rw [h2]
    exact ⟨by decide, by decide, by show 1 ≤ i; omega, fun j a b => by
      have : i - 1 ≤ j := a
      obtain rfl : j = i - 1 := by omega
      exact h1⟩
  · refine .inr ?_
    rw [h2]
    have hw := Lib.decodeL_width ((L.take i).drop st)
    have g : ∀ k, st + k < i → (((L.take i).drop st).getD k 0).toNat = byt L (st + k) := fun k hk => by
      rw [Lib.getD_dropU, Lib.getD_takeU L i _ hk]
      rfl
    rw [Lib.decodeL_N] at h3 hw ⊢
    by_cases hb0 : 128 ≤ (((L.take i).drop st).getD 0 0).toNat
    · have hh := decN_hi ((L.take i).drop st).length _ (((L.take i).drop st).getD 1 0).toNat (((L.take i).drop st).getD 2 0).toNat (((L.take i).drop st).getD 3 0).toNat hb0
      refine ⟨hh.1, hw, by omega, fun j a b => ?_⟩
      obtain ⟨d, hd⟩ : ∃ d, (Lib.decodeN ((L.take i).drop st).length (((L.take i).drop st).getD 0 0).toNat (((L.take i).drop st).getD 1 0).toNat (((L.take i).drop st).getD 2 0).toNat (((L.take i).drop st).getD 3 0).toNat) = d := ⟨_, rfl⟩
      rw [hd] at hh h3 hw a
      have hj : j = st ∨ j = st + 1 ∨ j = st + 2 ∨ j = st + 3 := by omega
      rcases hj with rfl | rfl | rfl | rfl
      · rw [g 0 (by omega)] at hb0
        exact hb0
      · rw [g 1 (by omega)] at hh
        omega
      · rw [g 2 (by omega)] at hh
        omega
      · rw [g 3 (by omega)] at hh
        omega
    · exfalso
      rw [Lib.decodeN_ascii _ _ _ _ _ (by omega)] at h3
      have h3' : st + 1 = i := h3
      rw [g 0 (by omega)] at hb0
      have : (L.getD (i - 1) 0).toNat = byt L (st + 0) := by rw [← h3']; rfl
      omega
theorem pmR_ge (r : Int) : (0 ≤ pmR r ↔ (r = 43 ∨ r = 45)) := by
  unfold pmR
  repeat' split
  all_goals omega
end Go.Proofs.YtaocbebgdbeffaaDoor
