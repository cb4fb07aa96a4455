/- Finding: contracts of Find and Search in both texts, and of small letters. -/
import Derived.Test.YtcmpeppjopdeaaaDoorStrD
import Derived.Lib.IndexEntry
import Derived.Lib.IndexBytes
set_option linter.unusedSimpArgs false
set_option linter.unusedVariables false

namespace Go.Proofs.YtcmpeppjopdeaaaDoor
open Go.RowKit

theorem shaped_below {P : Program} {w w' : World} (h : w.ShapedOpen P) (hb : Below w.heap.size w w') : w'.ShapedOpen P := h.keptBut (hb.frame (fun _ => False)) (fun _ h => h.elim)

/-- Where W stands in L from a place on; below 0: nowhere. -/
def fi (L W : List UInt8) (i : Nat) : Int := if Lib.index (L.drop i) W = -1 then -1 else (i : Int) + Lib.index (L.drop i) W
theorem index_short : ∀ (l sub : List UInt8), l.length < sub.length → Lib.index l sub = -1
  | [], sub, h => by
    unfold Lib.index
    cases sub with
    | nil => simp at h
    | cons => rfl
  | b :: l, sub, h => by
    have hp : sub.isPrefixOf (b :: l) = false := by
      cases hx : sub.isPrefixOf (b :: l) with
      | false => rfl
      | true => have := (List.isPrefixOf_iff_prefix.1 hx).length_le; omega
    unfold Lib.index
    rw [hp, index_short l sub (by simp at h; omega)]
    rfl
theorem index_le : ∀ (l sub : List UInt8), Lib.index l sub ≤ l.length
  | [], sub => by unfold Lib.index; split <;> simp
  | b :: l, sub => by
    have := index_le l sub
    unfold Lib.index
    split
    · simp; omega
    · split
      · simp; omega
      · simp; omega
theorem fi_hit (L W : List UInt8) (i : Nat) (hp : W.isPrefixOf (L.drop i) = true) : fi L W i = i := by
  have h : Lib.index (L.drop i) W = 0 := by
    cases hd : L.drop i with
    | nil =>
      rw [hd] at hp
      cases W with
      | nil => rfl
      | cons => simp [List.isPrefixOf] at hp
    | cons b l =>
      rw [hd] at hp
      unfold Lib.index
      rw [if_pos hp]
  unfold fi
  rw [h, if_neg (by omega)]
  omega
theorem fi_miss (L W : List UInt8) (i : Nat) (hi : i < L.length) (hp : W.isPrefixOf (L.drop i) = false) : fi L W i = fi L W (i + 1) := by
  have h : Lib.index (L.drop i) W = if Lib.index (L.drop (i + 1)) W == -1 then -1 else Lib.index (L.drop (i + 1)) W + 1 := by
    rw [List.drop_eq_getElem_cons hi] at hp ⊢
    conv => lhs; unfold Lib.index
    rw [hp]
    rfl
  have hg := Lib.index_ge (L.drop (i + 1)) W
  unfold fi
  rw [h]
  by_cases hx : Lib.index (L.drop (i + 1)) W = -1
  · rw [hx]; rfl
  · have hb : (Lib.index (L.drop (i + 1)) W == -1) = false := by simpa using hx
    rw [hb, if_neg hx]
    simp only [Bool.false_eq_true, if_false]
    rw [if_neg (by omega)]
    omega
theorem fi_end (L W : List UInt8) (i : Nat) (hi : L.length < i + W.length) (hw : i ≤ L.length ∨ 1 ≤ W.length) : fi L W i = -1 := by
  unfold fi
  rw [index_short _ _ (by rw [List.length_drop]; omega), if_pos rfl]
theorem fi_cases (L W : List UInt8) (i : Nat) (hi : i ≤ L.length) : (fi L W i = -1 ∧ Lib.index (L.drop i) W = -1) ∨ ∃ k : Nat, fi L W i = (k : Int) ∧ Lib.index (L.drop i) W = (k : Int) - (i : Int) ∧ i ≤ k ∧ k ≤ L.length := by
  have hg := Lib.index_ge (L.drop i) W
  have hl := index_le (L.drop i) W
  rw [List.length_drop] at hl
  unfold fi
  by_cases h : Lib.index (L.drop i) W = -1
  · left; rw [if_pos h]; exact ⟨rfl, h⟩
  · right
    refine ⟨((i : Int) + Lib.index (L.drop i) W).toNat, ?_, ?_, ?_, ?_⟩
    · rw [if_neg h]; omega
    · omega
    · omega
    · omega

theorem piece_eq (s x : ByteArray) (i : Nat) (h : i + x.size ≤ s.size) : ((s.extract i (i + x.size)).toList == x.toList) = x.data.toList.isPrefixOf (s.data.toList.drop i) := by
  rw [← beq_toListBytes, Lib.piece_eq_occAt s x i h]
  rfl
theorem tail_list (s : ByteArray) (i : Nat) (h : i ≤ s.size) : (s.extract i s.size).data.toList = s.data.toList.drop i := by
  rw [ext_list s i s.size (s.size - i) (by omega), List.take_of_length_le]
  rw [List.length_drop, ← Lib.size_eq]
  exact Nat.le_refl _

/-- What Find hands back. -/
def RetF (fr : Int) (L W : List UInt8) (e : Ending) : Prop := ∃ a c, e = .returned (.tuple #[.int .i64 a, .int .i64 c]) ∧ ((fr < 1 ∨ (L.length : Int) + 1 < fr) ∧ a = 0 ∧ c = 1 ∨ (1 ≤ fr ∧ fr ≤ (L.length : Int) + 1 ∧ a = fi L W (fr - 1).toNat + 1 ∧ ((fi L W (fr - 1).toNat = -1 ∧ c = 6) ∨ (0 ≤ fi L W (fr - 1).toNat ∧ fi L W (fr - 1).toNat ≤ L.length ∧ c = 0))))

def lowc (c : Nat) : Nat := if 65 ≤ c ∧ c ≤ 90 then c + 32 else c
def lowL (L : List UInt8) : List UInt8 := L.map fun c => UInt8.ofNat (lowc c.toNat)
theorem lowL_len (L : List UInt8) : (lowL L).length = L.length := by simp [lowL]
theorem lowc_lt (c : Nat) (h : c < 256) : lowc c < 256 := by unfold lowc; split <;> omega
theorem nx_low (L : List UInt8) (i : Nat) (h : i < L.length) : nx (lowL L) i = lowc (nx L i) := by
  rw [nx_get (by rw [lowL_len]; exact h), nx_get h]
  simp only [lowL, List.getElem_map]
  have := lowc_lt L[i].toNat (UInt8.toNat_lt _)
  simp
  omega
theorem low_str (L : List UInt8) : strOfNums ((lowL L).map fun c => (c.toNat : Int)) = ⟨(lowL L).toArray⟩ := by
  unfold strOfNums
  congr 2
  rw [List.map_map]
  conv => rhs; rw [← List.map_id (lowL L)]
  congr 1
  funext c
  simp

/-- Block r is a row of bytes, f of each place below n. -/
def RowB (w : World) (r n : Nat) (f : Nat → Nat) : Prop := ∃ (cs : Array Value) (lo hi : Nat), w.heap[r]? = some (.cells cs 5 (lo, hi)) ∧ (∀ j, j < n → cs[j]? = some (.int .u8 (f j : Int))) ∧ ∀ j, j < n → ¬ (lo ≤ j ∧ j < hi)
theorem RowB.cell {w : World} {r n : Nat} {f : Nat → Nat} (h : RowB w r n f) {j : Nat} (hj : j < n) : w.cell? ⟨r, j, none⟩ = some (.int .u8 (f j : Int)) := by
  obtain ⟨cs, lo, hi, h1, h2, h3⟩ := h
  simp [World.cell?, h1, h2 j hj]
theorem RowB.free {w : World} {r n : Nat} {f : Nat → Nat} (h : RowB w r n f) {j : Nat} (hj : j < n) : w.frozen? ⟨r, j, none⟩ = false := by
  obtain ⟨cs, lo, hi, h1, h2, h3⟩ := h
  have := h3 j hj
  simp [World.frozen?, h1]
  omega
theorem RowB.set {w : World} {r n : Nat} {f : Nat → Nat} (h : RowB w r n f) {j : Nat} (hj : j < n) (v : Nat) {g : Nat → Nat} (hg : ∀ x, x < n → g x = if x = j then v else f x) : RowB (w.setCell ⟨r, j, none⟩ (.int .u8 (v : Int))) r n g := by
  obtain ⟨cs, lo, hi, h1, h2, h3⟩ := h
  refine ⟨cs.setIfInBounds j (.int .u8 (v : Int)), lo, hi, ?_, fun x hx => ?_, h3⟩
  · simp [World.setCell, Array.getElem?_modify, h1]
  · rw [hg x hx, Array.getElem?_setIfInBounds]
    have hjs : j < cs.size := (Array.getElem?_eq_some_iff.1 (h2 j hj)).1
    by_cases hxj : x = j
    · subst hxj
      simp [hjs]
    · rw [if_neg hxj, if_neg (fun e => hxj e.symm)]
      exact h2 x hx
theorem RowB.congr {w : World} {r n : Nat} {f g : Nat → Nat} (h : RowB w r n f) (hg : ∀ x, x < n → g x = f x) : RowB w r n g := by
  obtain ⟨cs, lo, hi, h1, h2, h3⟩ := h
  exact ⟨cs, lo, hi, h1, fun x hx => by rw [hg x hx]; exact h2 x hx, h3⟩
theorem bytes_row (W : World) (s : ByteArray) : RowB (Lib.bytesWorld W 5 s) W.heap.size s.size (nx s.data.toList) := by
  have key : ∀ j, j < s.size → (Lib.bytesCells W 5 s)[j]? = some (.int .u8 (nx s.data.toList j : Int)) := fun j hj => by
    have h := bytes_cell W s j hj
    simp only [World.cell?, Lib.bytesWorld_at_new] at h
    exact h
  refine ⟨_, _, _, Lib.bytesWorld_at_new W 5 s, key, fun j hj => ?_⟩
  have := (Array.getElem?_eq_some_iff.1 (key j hj)).1
  omega

set_option maxRecDepth 100000 in
set_option maxHeartbeats 2000000 in
theorem small_any (s : ByteArray) (hs : s.size ≤ 100000) (w : World) :
    Calls Tryd.prog 15 #[.string s] w fun e w' => e = .returned (.string ⟨(lowL s.data.toList).toArray⟩) ∧ Below w.heap.size w w' := by
  have hconv := Lib.run_convert_string_bytes (P := Tryd.prog) w 9 32 5 s Tryd.underlying9 Tryd.underlying32 Tryd.underlying5
  have hrow0 := bytes_row w s
  have hbel0 := bytes_below w s
  generalize Lib.bytesWorld w 5 s = W0 at hconv hrow0 hbel0
  have HR0 := Lib.hid hrow0
  have HB0 := Lib.hid hbel0
  have hz0 := hbel0.size
  have hl : s.data.toList.length = s.size := by rw [← Lib.size_eq]
  obtain ⟨L, hL⟩ : ∃ L, s.data.toList = L := ⟨_, rfl⟩
  rw [hL] at HR0 hl ⊢
  have HL := Lib.hid hl
  clear hrow0 hbel0 hL hl
  go_enter Tryd.func15, Tryd.ntmps15
  go_wp2_with fail
  clear hconv
  go_loopw [10] (fun v wr => ∃ k : Nat, v = .int .i64 k ∧ k ≤ s.size ∧ RowB wr w.heap.size s.size (fun x => if x < k then lowc (nx L x) else nx L x) ∧ Below w.heap.size w wr) (fun v _ => s.size - (intOf v).toNat)
  case atStart => exact ⟨0, rfl, by omega, HR0.out.congr (fun x hx => by simp), HB0.out⟩
  case round =>
    obtain ⟨k, rfl, hk, hrow, hbel⟩ := hrel
    have HROW := Lib.hid hrow
    have HBEL := Lib.hid hbel
    rcases Nat.lt_or_ge k s.size with hlt | hge
    · have hki : (k : Int) < (s.size : Int) := by omega
      have c1 := hrow.cell hlt
      have f1 := hrow.free hlt
      obtain ⟨c, hc⟩ : ∃ c, nx L k = c := ⟨_, rfl⟩
      rw [if_neg (by omega), hc] at c1
      have hc256 : c < 256 := by rw [← hc]; exact nx_lt _ _
      have HC := Lib.hid hc
      clear hrow hbel hc
      by_cases h1 : (65 : Int) ≤ (c : Int)
      · by_cases h2 : (c : Int) ≤ 90
        · have HN := Lib.hid (HROW.out.set hlt (c + 32) (g := fun x => if x < k + 1 then lowc (nx L x) else nx L x) (fun x hx => by
            by_cases h : x = k
            · subst h
              have e : lowc (nx L x) = c + 32 := by rw [HC.out]; unfold lowc; rw [if_pos (by omega)]
              rw [if_pos (by omega), if_pos rfl, e]
            · rw [if_neg h]
              by_cases h3 : x < k
              · rw [if_pos (by omega), if_pos h3]
              · rw [if_neg (by omega), if_neg h3]))
          have HBN := Lib.hid (HBEL.out.setCell (p := ⟨w.heap.size, k, none⟩) (Nat.le_refl _) (.int .u8 ((c + 32 : Nat) : Int)))
          have e9 : (c : Int) + 97 - 65 = ((c + 32 : Nat) : Int) := by omega
          have E9 := Lib.hid e9
          clear e9
          go_wp2_with fail
          rw [E9.out]
          go_roundw
          case rel => exact ⟨k + 1, by go_num, by omega, HN.out, HBN.out⟩
          case measure => simp [intOf]; omega
        · have HN := Lib.hid (HROW.out.congr (g := fun x => if x < k + 1 then lowc (nx L x) else nx L x) (fun x hx => by
            by_cases h : x = k
            · subst h
              have e : lowc (nx L x) = nx L x := by rw [HC.out]; unfold lowc; rw [if_neg (by omega)]
              rw [if_pos (by omega), if_neg (by omega), e]
            · by_cases h3 : x < k
              · rw [if_pos (by omega), if_pos h3]
              · rw [if_neg (by omega), if_neg h3]))
          go_wp2_with fail
          go_roundw
          case rel => exact ⟨k + 1, by go_num, by omega, HN.out, HBEL.out⟩
          case measure => simp [intOf]; omega
      · have HN := Lib.hid (HROW.out.congr (g := fun x => if x < k + 1 then lowc (nx L x) else nx L x) (fun x hx => by
          by_cases h : x = k
          · subst h
            have e : lowc (nx L x) = nx L x := by rw [HC.out]; unfold lowc; rw [if_neg (by omega)]
            rw [if_pos (by omega), if_neg (by omega), e]
          · by_cases h3 : x < k
            · rw [if_pos (by omega), if_pos h3]
            · rw [if_neg (by omega), if_neg h3]))
        go_wp2_with fail
        go_roundw
        case rel => exact ⟨k + 1, by go_num, by omega, HN.out, HBEL.out⟩
        case measure => simp [intOf]; omega
    · have hki : (s.size : Int) ≤ (k : Int) := by omega
      have hcell : ∀ i, i < s.size → wr.cell? ⟨w.heap.size, 0 + i, none⟩ = some (.int .u8 (((lowL L).map fun c => (c.toNat : Int)).getD i 0)) := fun i hi => by
        rw [Nat.zero_add, hrow.cell hi, if_pos (by omega), ← nx_low L i (by rw [HL.out]; exact hi)]
        congr 2
        rw [nx_get (by rw [lowL_len, HL.out]; exact hi)]
        simp [List.getD, lowL_len, HL.out, hi]
      have hcv := run_convert_bytes_arg (P := Tryd.prog) wr 32 5 Tryd.underlying32 Tryd.underlying5 w.heap.size 0 s.size (grownCap w s.size 0 5) ((lowL L).map fun c => (c.toNat : Int)) (by rw [List.length_map, lowL_len, HL.out]) hcell 9 Tryd.underlying9
      rw [low_str] at hcv
      clear hrow hbel hcell
      go_wp2_with fail
      go_ret
      exact ⟨rfl, HBEL.out⟩
end Go.Proofs.YtcmpeppjopdeaaaDoor
