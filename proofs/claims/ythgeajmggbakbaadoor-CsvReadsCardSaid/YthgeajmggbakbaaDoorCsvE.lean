/- strings.ContainsAny of csv's four signs; does a text need quotes? -/
import Derived.Test.YthgeajmggbakbaaDoorCsvD
set_option linter.unusedSimpArgs false
set_option linter.unusedVariables false
namespace Go.Proofs.YthgeajmggbakbaaDoor
open Go.RowKit

/-- A byte as a number. -/
def btN (L : Bs) (j : Nat) : Nat := (L.getD j 0).toNat
theorem btN_lt (L : Bs) (j : Nat) : btN L j < 256 := by unfold btN; exact (L.getD j 0).toNat_lt
theorem btN_str (s : ByteArray) (i : Nat) (h : i < s.size) : (s[i].toNat : Nat) = btN s.data.toList i := by
  have hl : i < s.data.toList.length := by rw [← Lib.size_eq]; exact h
  unfold btN
  rw [List.getD_eq_getElem?_getD, List.getElem?_eq_getElem hl]
  rfl
theorem btN_get {L : Bs} {i : Nat} (h : i < L.length) : btN L i = L[i].toNat := by simp [btN, List.getD, h]
theorem no_q (L : Bs) : hasQ L = false ↔ ∀ j, j < L.length → isQ (btN L j) = false := by
  rw [hasQ_any, List.any_eq_false]
  constructor
  · intro h j hj
    rw [btN_get hj]
    have := h L[j] (List.getElem_mem hj)
    simpa using this
  · intro h x hx
    obtain ⟨j, hj, rfl⟩ := List.mem_iff_getElem.1 hx
    have := h j hj
    rw [btN_get hj] at this
    simp [this]
theorem yes_q (L : Bs) (j : Nat) (hj : j < L.length) (h : isQ (btN L j) = true) : hasQ L = true := by
  cases hq : hasQ L
  · rw [(no_q L).1 hq j hj] at h; cases h
  · rfl
theorem su_any (n : Int) (b : Bool) (h : decide (8 < n) = b) (w : World) : Calls Tryd.prog 42 #[.int .i64 n] w fun e w' => e = .returned (.bool b) ∧ w = w' :=
  (Tryd.strings_shouldUseASCIISet n w).mono fun _ _ h' => ⟨by rw [h'.1, h], h'.2.symm⟩
/-- An index, or below 0: is there one? -/
def AnyR (b : Bool) (e : Ending) : Prop := ∃ z : Int, e = .returned (.int .i64 z) ∧ decide (0 ≤ z) = b

set_option maxRecDepth 100000 in
set_option maxHeartbeats 2000000 in
theorem indexAny_small (s : ByteArray) (h8 : s.size ≤ 8) (w : World) :
    Calls Tryd.prog 32 #[.string s, .string ⟨#[44, 34, 13, 10]⟩] w fun e w' => AnyR (hasQ s.data.toList) e ∧ Below w.heap.size w w' := by
  have hz8 : ¬ (8 : Int) < (s.size : Int) := by omega
  have HU := Lib.hid (fun W => su_any (s.size : Int) false (decide_eq_false hz8) W)
  have HRB := Lib.hid (rune_bytes s)
  have HBT := Lib.hid (btN_str s)
  have HSZ : Hid (s.data.toList.length = s.size) := (Lib.size_eq s).symm
  obtain ⟨L, hL⟩ : ∃ L, s.data.toList = L := ⟨_, rfl⟩
  rw [hL] at HBT HSZ ⊢
  have HNO := Lib.hid (no_q L)
  have HYES := Lib.hid (yes_q L)
  clear hL
  go_enter Tryd.func32, Tryd.ntmps32
  go_wp2_with fail
  refine (HU.out _).mono ?_
  rintro e w1 ⟨rfl, rfl⟩
  go_wp2_with fail
  go_loopg [] s.size (fun g wr => ∃ i : Nat, i ≤ s.size ∧ s.size ≤ i + g ∧ wr.heap[w.heap.size]? = some (.stringIter s i) ∧ (∀ j, j < i → isQ (btN L j) = false) ∧ Below w.heap.size w wr)
  case atStart => exact ⟨0, by omega, by omega, World.iter_heap w s 0, fun j hj => by omega, Below.alloc (Below.refl _ _) (Nat.le_refl _) _⟩
  case round =>
    obtain ⟨i, hi1, hig, hit, hno, hbel⟩ := hrel
    have HN := Lib.hid hno
    have HB := Lib.hid hbel
    have HIT := Lib.hid hit
    have hzr := hbel.size
    clear hno hbel
    by_cases hlt : i < s.size
    · have nx := next_at (P := Tryd.prog) wr w.heap.size s i hit hlt
      obtain ⟨r1, r2, r3, r4⟩ := HRB.out i hlt
      have hIR := Lib.hid (fun W => indexRune_cs ((Utf8.decode s i).1 : Int) (by omega) (by omega) W)
      have hpos := csR_pos (Utf8.decode s i).1
      obtain ⟨r, hr⟩ : ∃ r, (Utf8.decode s i).1 = r := ⟨_, rfl⟩
      obtain ⟨n, hn⟩ : ∃ n, (Utf8.decode s i).2 = n := ⟨_, rfl⟩
      rw [hr] at nx hIR r3 r4 hpos
      rw [hn] at nx r1 r2 r4
      obtain ⟨z, hz⟩ : ∃ z, csR (r : Int) = z := ⟨_, rfl⟩
      rw [hz] at hIR hpos
      have hiL : i < L.length := by rw [HSZ.out]; exact hlt
      have hcase : (isQ r = true ∧ isQ (btN L i) = true) ∨ (isQ r = false ∧ ∀ j, i ≤ j → j < i + n → isQ (btN L j) = false) := by
        rcases r4 with ⟨a1, a2, a3⟩ | ⟨a1, a2⟩
        · have : r = btN L i := by rw [← HBT.out i hlt]; exact a2
          cases hq : isQ r
          · right
            refine ⟨rfl, fun j h1 h2 => ?_⟩
            obtain rfl : j = i := by omega
            rw [← this, hq]
          · left
            exact ⟨rfl, by rw [← this, hq]⟩
        · right
          refine ⟨isQ_high a1, fun j h1 h2 => ?_⟩
          have hj : j < s.size := by omega
          have := a2 j hj h1 h2
          rw [HBT.out j hj] at this
          exact isQ_high this
      have HIT2 := Lib.hid (putIter_at (pos := i + n) HIT.out)
      have HB2 := Lib.hid (putIter_below (s := s) (pos := i + n) HB.out (Nat.le_refl _))
      have hzp : w.heap.size ≤ (putIter wr w.heap.size s (i + n)).heap.size := HB2.out.size
      obtain ⟨wp, hwp⟩ : ∃ W, putIter wr w.heap.size s (i + n) = W := ⟨_, rfl⟩
      rw [hwp] at nx HIT2 HB2 hzp
      clear hr hn hz hwp r4 hit
      rcases hcase with ⟨hc1, hc2⟩ | ⟨hc1, hc2⟩
      · rw [hc1] at hpos
        have hzi : 0 ≤ z := by simpa using hpos
        have HQ := Lib.hid (HYES.out i hiL hc2)
        clear hpos hc1 hc2
        go_wp2_with fail
        refine (hIR.out _).mono ?_
        rintro e w1 ⟨rfl, hb1⟩
        go_wp2_with fail
        go_ret
        exact ⟨⟨_, rfl, by rw [HQ.out]; simp⟩, bel_call hb1 HB2.out hzp⟩
      · rw [hc1] at hpos
        have hzi : ¬ 0 ≤ z := by simpa using hpos
        have HNN : Hid (∀ j, j < i + n → isQ (btN L j) = false) := fun j hj => by
          by_cases h : j < i
          · exact HN.out j h
          · exact hc2 j (by omega) hj
        clear hpos hc1 hc2
        go_wp2_with fail
        refine (hIR.out _).mono ?_
        rintro e w1 ⟨rfl, hb1⟩
        have hit1 : w1.heap[w.heap.size]? = some (.stringIter s (i + n)) := by
          have hl : w.heap.size < wp.heap.size := by
            rcases Nat.lt_or_ge w.heap.size wp.heap.size with h | h
            · exact h
            · have := HIT2.out; rw [Array.getElem?_eq_none h] at this; cases this
          rw [hb1.block _ hl]; exact HIT2.out
        have HI1 := Lib.hid hit1
        clear hit1
        go_wp2_with fail
        go_roundg (gk - n)
        case measure => omega
        case rel => exact ⟨i + n, by omega, by omega, HI1.out, HNN.out, bel_call hb1 HB2.out hzp⟩
    · have nx := next_end (P := Tryd.prog) wr w.heap.size s i hit hlt
      have HQ : Hid (hasQ L = false) := HNO.out.2 (fun j hj => HN.out j (by have := HSZ.out; omega))
      clear hit
      go_wp2_with fail
      go_ret
      exact ⟨⟨_, rfl, by rw [HQ.out]; rfl⟩, HB.out⟩
theorem cs_low : ∀ (j : Nat) b, (⟨#[44, 34, 13, 10]⟩ : ByteArray).data.toList[j]? = some b → b.toNat < 128
  | 0, b, h => by cases h; decide
  | 1, b, h => by cases h; decide
  | 2, b, h => by cases h; decide
  | 3, b, h => by cases h; decide
  | n + 4, b, h => by cases h
theorem indexAny_any (s : ByteArray) (hs : s.size ≤ 1100000) (w : World) :
    Calls Tryd.prog 32 #[.string s, .string ⟨#[44, 34, 13, 10]⟩] w fun e w' => AnyR (hasQ s.data.toList) e ∧ Below w.heap.size w w' := by
  by_cases h8 : s.size ≤ 8
  · exact indexAny_small s h8 w
  · refine (Tryd.strings_IndexAny_long (fun _ => by kernel_rfl) s ⟨#[44, 34, 13, 10]⟩ w (by decide) (by omega) (by omega) (by decide) cs_low).mono fun e w' h => ⟨⟨_, h.1, indexAny_cs _⟩, ?_⟩
    rw [h.2]
    (repeat' (first | (with_reducible exact Below.refl _ _) | (with_reducible assumption) | (with_reducible refine Below.alloc ?_ ?_ _) | (with_reducible refine bel_drewN ?_ _) | (with_reducible refine Below.drew ?_) | (with_reducible refine Below.setCell ?_ ?_ _) | (with_reducible refine bel_call ‹_› ?_ ?_) | go_size))
set_option maxRecDepth 100000 in
set_option maxHeartbeats 2000000 in
theorem plain_any (s : ByteArray) (hs : s.size ≤ 1100000) (w : World) :
    Calls Tryd.prog 17 #[.string s] w fun e w' => e = .returned (.bool (!hasQ s.data.toList)) ∧ Below w.heap.size w w' := by
  have HC : Hid (∀ W, Calls Tryd.prog 26 #[.string s, .string ⟨#[44, 34, 13, 10]⟩] W fun e w' => e = .returned (.bool (hasQ s.data.toList)) ∧ Below W.heap.size W w') := fun W => by
    have HI := Lib.hid (fun W => indexAny_any s hs W)
    obtain ⟨b, hb⟩ : ∃ b, hasQ s.data.toList = b := ⟨_, rfl⟩
    rw [hb] at HI ⊢
    clear hb
    go_enter Tryd.func26, Tryd.ntmps26
    go_wp2_with fail
    refine (HI.out _).mono ?_
    rintro e w1 ⟨⟨z, rfl, hz⟩, hb1⟩
    cases b
    · have hz : ¬ 0 ≤ z := by simpa using hz
      go_wp2_with fail
      go_ret
      exact ⟨by simp [hz], hb1⟩
    · have hz : 0 ≤ z := by simpa using hz
      go_wp2_with fail
      go_ret
      exact ⟨by simp [hz], hb1⟩
  go_enter Tryd.func17, Tryd.ntmps17
  go_wp2_with fail
  refine (HC.out _).mono ?_
  rintro e w1 ⟨rfl, hb1⟩
  go_wp2_with fail
  go_ret
  exact ⟨rfl, hb1⟩
end Go.Proofs.YthgeajmggbakbaaDoor
