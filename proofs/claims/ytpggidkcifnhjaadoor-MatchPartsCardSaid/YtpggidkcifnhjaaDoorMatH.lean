/- Conditions: texts in small letters. -/
import Derived.Test.YtpggidkcifnhjaaDoorMatG
import Derived.Laws.BytesArg
set_option linter.unusedSimpArgs false
set_option linter.unusedVariables false

namespace Go.Proofs.YtpggidkcifnhjaaDoor
open Go.RowKit

/-- Block r begins with a row of values that may be written, whatever its marks behind. -/
def RowM (w : World) (r n : Nat) (f : Nat → Value) : Prop := ∃ (cs : Array Value) (t : TypeId) (lo hi : Nat), w.heap[r]? = some (.cells cs t (lo, hi)) ∧ n ≤ lo ∧ ∀ j, j < n → cs[j]? = some (f j)
theorem RowM.lt {w : World} {r n : Nat} {f : Nat → Value} (h : RowM w r n f) : r < w.heap.size := by
  obtain ⟨cs, t, lo, hi, h1, _⟩ := h
  rcases Nat.lt_or_ge r w.heap.size with h' | h'
  · exact h'
  · rw [Array.getElem?_eq_none h'] at h1; cases h1
theorem RowM.cell {w : World} {r n : Nat} {f : Nat → Value} (h : RowM w r n f) {j : Nat} (hj : j < n) : w.cell? ⟨r, j, none⟩ = some (f j) := by
  obtain ⟨cs, t, lo, hi, h1, _, h2⟩ := h
  simp [World.cell?, h1, h2 j hj]
theorem RowM.free {w : World} {r n : Nat} {f : Nat → Value} (h : RowM w r n f) {j : Nat} (hj : j < n) : w.frozen? ⟨r, j, none⟩ = false := by
  obtain ⟨cs, t, lo, hi, h1, h3, h2⟩ := h
  simp [World.frozen?, h1]
  omega
theorem RowM.below {w w' : World} {r n : Nat} {f : Nat → Value} (h : RowM w r n f) (hb : Below w.heap.size w w') : RowM w' r n f := by
  have hl := h.lt
  obtain ⟨cs, t, lo, hi, h1, h2⟩ := h
  exact ⟨cs, t, lo, hi, (hb.block r hl).trans h1, h2⟩
theorem RowM.set {w : World} {r n : Nat} {f : Nat → Value} (h : RowM w r n f) {j : Nat} (hj : j < n) (v : Value) {g : Nat → Value} (hg : ∀ x, x < n → g x = if x = j then v else f x) : RowM (w.setCell ⟨r, j, none⟩ v) r n g := by
  obtain ⟨cs, t, lo, hi, h1, h3, h2⟩ := h
  refine ⟨cs.setIfInBounds j v, t, lo, hi, ?_, h3, fun x hx => ?_⟩
  · simp [World.setCell, Array.getElem?_modify, h1]
  · rw [hg x hx, Array.getElem?_setIfInBounds]
    have hjs : j < cs.size := (Array.getElem?_eq_some_iff.1 (h2 j hj)).1
    by_cases hxj : x = j
    · subst hxj
      simp [hjs]
    · rw [if_neg hxj, if_neg (fun e => hxj e.symm)]
      exact h2 x hx
theorem RowM.congr {w : World} {r n : Nat} {f g : Nat → Value} (h : RowM w r n f) (hg : ∀ x, x < n → g x = f x) : RowM w r n g := by
  obtain ⟨cs, t, lo, hi, h1, h3, h2⟩ := h
  exact ⟨cs, t, lo, hi, h1, h3, fun x hx => by rw [hg x hx]; exact h2 x hx⟩
theorem RowM.of_bytes (W : World) (s : ByteArray) : RowM (Lib.bytesWorld W 5 s) W.heap.size s.size (fun j => .int .u8 (btN s.data.toList j : Int)) := by
  refine ⟨_, _, _, _, Lib.bytesWorld_at_new W _ s, ?_, fun j hj => ?_⟩
  · simp [Lib.bytesCells]
  · have := bytes_cell W s j hj
    rw [World.cell?, Lib.bytesWorld_at_new] at this
    exact this

/-- A text in small letters. -/
def lowL (T : List UInt8) : List UInt8 := T.map fun c => UInt8.ofNat (lowN c.toNat)
theorem nums_of (n : Nat) (f : Nat → Nat) (B : List UInt8) (hB : B.length = n) (h : ∀ j (hj : j < n), UInt8.ofNat (f j) = B[j]'(by omega)) : strOfNums ((List.range n).map fun j => (f j : Int)) = ⟨B.toArray⟩ := by
  unfold strOfNums
  congr 1
  apply Array.ext'
  simp only [List.map_map]
  apply List.ext_getElem
  · simp [hB]
  · intro i h1 h2
    have hi : i < n := by simpa using h1
    simp only [List.getElem_map, List.getElem_range, Function.comp, Int.toNat_natCast]
    exact h i hi
theorem range_getD (n : Nat) (f : Nat → Nat) {j : Nat} (h : j < n) : ((List.range n).map fun j => (f j : Int)).getD j 0 = (f j : Int) := by
  rw [List.getD_eq_getElem?_getD, List.getElem?_map, List.getElem?_range h]
  rfl

set_option maxRecDepth 100000 in
set_option maxHeartbeats 4000000 in
theorem small_any (s : ByteArray) (hs : s.size ≤ 1000) (w : World) :
    Calls Tryd.prog 20 #[.string s] w fun e w' => e = .returned (.string ⟨(lowL s.data.toList).toArray⟩) ∧ Below w.heap.size w w' := by
  have hconv := fun (W : World) => Lib.run_convert_string_bytes (P := Tryd.prog) W 9 77 5 s Tryd.underlying9 Tryd.underlying77 Tryd.underlying5
  have HRB := Lib.hid (RowM.of_bytes w s)
  have HBB := Lib.hid (bytes_below w s)
  have hsz : s.data.toList.length = s.size := (Lib.size_eq s).symm
  obtain ⟨T, hT⟩ : ∃ T, s.data.toList = T := ⟨_, rfl⟩
  rw [hT] at HRB hsz ⊢
  have hback : ∀ (W : World) (cap : Nat), (∀ j, j < s.size → W.cell? ⟨w.heap.size, j, none⟩ = some (.int .u8 ((lowN (btN T j) : Nat) : Int))) → (convert 77 9 (.slice (some ⟨w.heap.size, 0, none⟩) s.size cap)).run Tryd.prog W = .ok (.string ⟨(lowL T).toArray⟩) W := fun W cap hc => by
    have := run_convert_bytes_arg (P := Tryd.prog) W 77 5 Tryd.underlying77 Tryd.underlying5 w.heap.size 0 s.size cap ((List.range s.size).map fun j => ((lowN (btN T j) : Nat) : Int)) (by simp) (fun i hi => by rw [range_getD _ (fun j => lowN (btN T j)) hi, Nat.zero_add]; exact hc i hi) 9 Tryd.underlying9
    rw [nums_of s.size (fun j => lowN (btN T j)) (lowL T) (by simp [lowL, hsz]) (fun j hj => by simp [lowL, btN_get (show j < T.length by omega)])] at this
    exact this
  have HBK := Lib.hid hback
  clear hT hback hsz
  go_enter Tryd.func20, Tryd.ntmps20
  go_wp2_with fail
  have hzb : w.heap.size < (Lib.bytesWorld w 5 s).heap.size := by rw [Lib.bytesWorld_size]; omega
  clear hconv
  generalize Lib.bytesWorld w 5 s = W1 at HRB HBB hzb ⊢
  go_loopg [10] s.size (fun g v10 wr => ∃ k : Nat, k + g = s.size ∧ v10 = .int .i64 k ∧ RowM wr w.heap.size s.size (fun j => .int .u8 (if j < k then (lowN (btN T j) : Int) else (btN T j : Int))) ∧ Below w.heap.size w wr)
  case atStart => exact ⟨0, by omega, rfl, HRB.out.congr (fun x hx => by rw [if_neg (by omega)]), HBB.out⟩
  case round =>
    obtain ⟨k, hkg, rfl, hrow, hbel⟩ := hrel
    have HROW := Lib.hid hrow
    have HBEL := Lib.hid hbel
    have hzr := hrow.lt
    by_cases hlt : k < s.size
    · have hki : (k : Int) < (s.size : Int) := by omega
      have q1 := hrow.cell hlt
      rw [if_neg (by omega)] at q1
      have f1 := hrow.free hlt
      obtain ⟨c, hc⟩ : ∃ c, btN T k = c := ⟨_, rfl⟩
      have hc256 : c < 256 := by rw [← hc]; exact btN_lt T k
      rw [hc] at q1
      have HC := Lib.hid hc
      have HLO := Lib.hid (fun W => lower_any c hc256 W)
      clear hrow hbel hc
      go_wp2_with fail
      refine (HLO.out _).mono ?_
      rintro e wa ⟨rfl, rfl⟩
      go_wp2_with fail
      go_roundg (gk - 1)
      case measure => omega
      case rel => exact ⟨k + 1, by omega, by go_num, HROW.out.set hlt _ (fun x hx => by
        by_cases h : x = k
        · subst h
          rw [if_pos (by omega), if_pos rfl, HC.out]
        · rw [if_neg h]
          by_cases h2 : x < k
          · rw [if_pos (by omega), if_pos h2]
          · rw [if_neg (by omega), if_neg h2]), HBEL.out.setCell (Nat.le_refl _) _⟩
    · have hki : ¬ (k : Int) < (s.size : Int) := by omega
      have hb := fun cap => HBK.out wr cap (fun j hj => by
        have := hrow.cell hj
        rw [if_pos (by omega)] at this
        exact this)
      clear hrow hbel
      go_wp2_with fail
      go_ret
      exact ⟨rfl, HBEL.out⟩
end Go.Proofs.YtpggidkcifnhjaaDoor
