/- Numfmt: bytes of texts; which bytes are a pattern's signs, in both texts; where they begin and end. -/
import Derived.Test.YteknbdodihfbeaaDoorBase
import Derived.Test.YteknbdodihfbeaaDoorShelf
import Derived.Test.YteknbdodihfbeaaDoorDecE
import Derived.Laws.BytesArg
import Derived.Laws.RangeString
import Derived.Lib.ConvBytes
import Derived.Lib.SmallJoins
import Derived.Deep.DeepCutAuto
import Derived.Deep.LoopGhost
import Derived.Deep.CutBlock
import Derived.Lib.Hide
set_option linter.unusedSimpArgs false
set_option linter.unusedVariables false
namespace Go.Proofs.YteknbdodihfbeaaDoor
open Go.RowKit Go.Joins

abbrev Bs := List UInt8
def btN (L : Bs) (j : Nat) : Nat := (L.getD j 0).toNat
theorem btN_lt (L : Bs) (j : Nat) : btN L j < 256 := by unfold btN; exact (L.getD j 0).toNat_lt
theorem btN_get {L : Bs} {i : Nat} (h : i < L.length) : btN L i = L[i].toNat := by simp [btN, List.getD, h]
theorem btN_str (s : ByteArray) (i : Nat) (h : i < s.size) : (s[i].toNat : Nat) = btN s.data.toList i := by
  have hl : i < s.data.toList.length := by rw [Lib.size_eq] at h; exact h
  unfold btN
  rw [List.getD_eq_getElem?_getD, List.getElem?_eq_getElem hl]
  rfl
theorem bytes_cell (W : World) (s : ByteArray) : ∀ j, j < s.size → (Lib.bytesWorld W 5 s).cell? ⟨W.heap.size, j, none⟩ = some (.int .u8 (btN s.data.toList j : Int)) := fun j hj => Lib.bytesWorld_cell W _ s j hj
theorem bytes_below (W : World) (s : ByteArray) : Below W.heap.size W (Lib.bytesWorld W 5 s) := ⟨rfl, rfl, rfl, by rw [Lib.bytesWorld_size]; omega, fun k hk => Lib.bytesWorld_at_old W _ s k hk⟩
/-- Is a byte one of a pattern's own? -/
def sgB (c : Nat) : Bool := decide (c = 48) || (decide (c = 35) || (decide (c = 44) || (decide (c = 46) || decide (c = 37))))
set_option maxRecDepth 100000 in
theorem sgB_is : ∀ c : Fin 256, decide (0 ≤ Lib.indexByte (⟨#[48, 35, 44, 46, 37]⟩ : ByteArray).data.toList ((c.val : Int)).toNat.toUInt8) = sgB c.val := by decide
set_option maxRecDepth 100000 in
set_option maxHeartbeats 1000000 in
theorem nsign_any (c : Nat) (hc : c < 256) (w : World) : Calls Tryd.prog 17 #[.int .u8 (c : Int)] w fun e w' => e = .returned (.bool (sgB c)) ∧ w = w' := by
  have hs := sgB_is ⟨c, hc⟩
  have HI := Lib.hid (Tryd.strings_IndexByte ⟨#[48, 35, 44, 46, 37]⟩ (c : Int) w)
  obtain ⟨k, hk⟩ : ∃ k, Lib.indexByte (⟨#[48, 35, 44, 46, 37]⟩ : ByteArray).data.toList ((c : Int)).toNat.toUInt8 = k := ⟨_, rfl⟩
  rw [hk] at HI
  simp only [hk] at hs
  clear hk
  go_enter Tryd.func17, Tryd.ntmps17
  go_wp2_with fail
  refine HI.out.mono ?_
  rintro e w1 ⟨rfl, rfl⟩
  have HSS := Lib.hid hs
  clear hs
  go_wp2_with fail
  go_ret
  exact ⟨by rw [← HSS.out]; rfl, rfl⟩
set_option maxRecDepth 100000 in
set_option maxHeartbeats 1000000 in
theorem rsign_any (c : Nat) (w : World) : Calls Tryd.prog 18 #[.int .u8 (c : Int)] w fun e w' => e = .returned (.bool (sgB c)) ∧ w = w' := by
  obtain ⟨O, hO⟩ : ∃ O, sgB c = O := ⟨_, rfl⟩
  have HO : Hid (sgB c = O) := hO
  rw [hO]
  clear hO
  by_cases h1 : c = 48
  · subst h1
    have HR : Hid (O = true) := HO.out.symm
    go_enter Tryd.func18, Tryd.ntmps18
    go_wp2_with fail
    go_ret
    exact ⟨by rw [HR.out]; rfl, rfl⟩
  · have h1i : ((c : Int) == 48) = false := by simp; omega
    by_cases h2 : c = 35
    · subst h2
      have HR : Hid (O = true) := HO.out.symm
      go_enter Tryd.func18, Tryd.ntmps18
      go_wp2_with fail
      go_ret
      exact ⟨by rw [HR.out]; rfl, rfl⟩
    · have h2i : ((c : Int) == 35) = false := by simp; omega
      by_cases h3 : c = 44
      · subst h3
        have HR : Hid (O = true) := HO.out.symm
        go_enter Tryd.func18, Tryd.ntmps18
        go_wp2_with fail
        go_ret
        exact ⟨by rw [HR.out]; rfl, rfl⟩
      · have h3i : ((c : Int) == 44) = false := by simp; omega
        by_cases h4 : c = 46
        · subst h4
          have HR : Hid (O = true) := HO.out.symm
          go_enter Tryd.func18, Tryd.ntmps18
          go_wp2_with fail
          go_ret
          exact ⟨by rw [HR.out]; rfl, rfl⟩
        · have h4i : ((c : Int) == 46) = false := by simp; omega
          by_cases h5 : c = 37
          · subst h5
            have HR : Hid (O = true) := HO.out.symm
            go_enter Tryd.func18, Tryd.ntmps18
            go_wp2_with fail
            go_ret
            exact ⟨by rw [HR.out]; rfl, rfl⟩
          · have h5i : ((c : Int) == 37) = false := by simp; omega
            have HR : Hid (O = false) := by unfold Hid; rw [← HO.out]; unfold sgB; simp [h1, h2, h3, h4, h5]
            clear h1 h2 h3 h4 h5
            go_enter Tryd.func18, Tryd.ntmps18
            go_wp2_with fail
            go_ret
            exact ⟨by rw [HR.out]; rfl, rfl⟩
/-- How many bytes from a place on are (or are no) signs. -/
def rnS (v : Bool) (L : Bs) : Nat := (L.takeWhile fun c => sgB c.toNat == v).length
theorem rnS_step {v : Bool} {L : Bs} {i : Nat} (h : i < L.length) (hs : sgB (btN L i) = v) : rnS v (L.drop i) = rnS v (L.drop (i + 1)) + 1 := by
  rw [btN_get h] at hs
  unfold rnS
  rw [List.drop_eq_getElem_cons h, List.takeWhile_cons_of_pos (by rw [hs]; simp)]
  rfl
theorem rnS_stop {v : Bool} {L : Bs} {i : Nat} (h : i < L.length) (hs : sgB (btN L i) ≠ v) : rnS v (L.drop i) = 0 := by
  rw [btN_get h] at hs
  unfold rnS
  rw [List.drop_eq_getElem_cons h, List.takeWhile_cons_of_neg (by simpa using hs)]
  rfl
theorem rnS_end {v : Bool} {L : Bs} {i : Nat} (h : L.length ≤ i) : rnS v (L.drop i) = 0 := by
  unfold rnS
  rw [List.drop_eq_nil_of_le h]
  rfl
/-- Where the signs begin, and end. -/
def frN (L : Bs) : Nat := rnS false L
def toN (L : Bs) : Nat := frN L + rnS true (L.drop (frN L))
set_option maxRecDepth 100000 in
set_option maxHeartbeats 2000000 in
theorem core_any (s : ByteArray) (hs : s.size ≤ 1000) (w : World) : Calls Tryd.prog 12 #[.string s] w fun e w' => e = .returned (.tuple #[.int .i64 (frN s.data.toList : Nat), .int .i64 (toN s.data.toList : Nat)]) ∧ w = w' := by
  have hbs : ∀ i (h : i < s.size), ((s[i].toNat : Nat) : Int) = (btN s.data.toList i : Int) := fun i h => by rw [btN_str s i h]
  have HBS := Lib.hid hbs
  have HSZ : Hid (s.data.toList.length = s.size) := (Lib.size_eq s).symm
  have HSG := Lib.hid (fun i W => nsign_any (btN s.data.toList i) (btN_lt _ _) W)
  generalize s.data.toList = L at HBS HSZ HSG ⊢
  clear hbs
  obtain ⟨F, hF⟩ : ∃ F, frN L = F := ⟨_, rfl⟩
  obtain ⟨T, hT⟩ : ∃ T, toN L = T := ⟨_, rfl⟩
  have HF : Hid (0 + rnS false (L.drop 0) = F) := by unfold Hid; rw [List.drop_zero, Nat.zero_add]; exact hF
  have HT : Hid (F + rnS true (L.drop F) = T) := by unfold Hid; rw [← hF]; exact hT
  have HFL : Hid (F ≤ s.size) := by
    unfold Hid
    rw [← hF, ← HSZ.out]
    exact (List.takeWhile_prefix _).length_le
  rw [hF, hT]
  clear hF hT
  go_enter Tryd.func12, Tryd.ntmps12
  go_upto_block 0 with fail
  go_cut [4] (fun v wx => v = .int .i64 (F : Nat) ∧ wx = w)
  case first =>
    go_wp2_with fail
    go_loopg [4] (s.size - 0) (fun g v4 wr => wr = w ∧ ∃ i : Nat, i + g = s.size ∧ v4 = .int .i64 i ∧ i + rnS false (L.drop i) = F)
    case atStart => exact ⟨rfl, 0, by omega, rfl, HF.out⟩
    case round =>
      obtain ⟨rfl, i, hig, rfl, hr⟩ := hrel
      have HR := Lib.hid hr
      clear hr
      by_cases hlt : i < s.size
      · have hli : (i : Int) < (s.size : Int) := by omega
        have hb := HBS.out i hlt
        have HS := Lib.hid (fun W => HSG.out i W)
        obtain ⟨c, hc⟩ : ∃ c, btN L i = c := ⟨_, rfl⟩
        rw [hc] at hb HS
        obtain ⟨o, ho⟩ : ∃ o, sgB c = o := ⟨_, rfl⟩
        rw [ho] at HS
        have HO : Hid (sgB (btN L i) = o) := by unfold Hid; rw [hc]; exact ho
        clear hc ho
        cases o
        · have HR2 : Hid (i + 1 + rnS false (L.drop (i + 1)) = F) := by
            unfold Hid
            rw [← HR.out, rnS_step (by rw [HSZ.out]; exact hlt) HO.out]
            omega
          go_wp2_with fail
          refine (HS.out _).mono ?_
          rintro e w1 ⟨rfl, rfl⟩
          go_wp2_with fail
          go_roundg (gk - 1)
          case measure => omega
          case rel => exact ⟨rfl, i + 1, by omega, by go_num, HR2.out⟩
        · have HR2 : Hid (i = F) := by
            unfold Hid
            rw [← HR.out, rnS_stop (by rw [HSZ.out]; exact hlt) (by rw [HO.out]; simp)]
            omega
          go_wp2_with fail
          refine (HS.out _).mono ?_
          rintro e w1 ⟨rfl, rfl⟩
          go_wp2_with fail
          go_meet
          exact ⟨by rw [HR2.out], rfl⟩
      · obtain rfl : i = s.size := by omega
        have hli : ¬ (s.size : Int) < (s.size : Int) := by omega
        have HR2 : Hid (s.size = F) := by
          unfold Hid
          rw [← HR.out, rnS_end (by rw [HSZ.out]; exact Nat.le_refl _)]
          omega
        go_wp2_with fail
        go_meet
        exact ⟨by rw [HR2.out], rfl⟩
  case rest =>
    obtain ⟨rfl, rfl⟩ := hcut
    have hF : F ≤ s.size := HFL.out
    go_upto_block 2 with fail
    go_cut [5] (fun v wx => v = .int .i64 (T : Nat) ∧ wx = wc)
    case first =>
      go_wp2_with fail
      go_loopg [5] (s.size - F) (fun g v5 wr => wr = wc ∧ ∃ i : Nat, i + g = s.size ∧ v5 = .int .i64 i ∧ i + rnS true (L.drop i) = T)
      case atStart => exact ⟨rfl, F, by omega, rfl, HT.out⟩
      case round =>
        obtain ⟨rfl, i, hig, rfl, hr⟩ := hrel
        have HR := Lib.hid hr
        clear hr
        by_cases hlt : i < s.size
        · have hli : (i : Int) < (s.size : Int) := by omega
          have hb := HBS.out i hlt
          have HS := Lib.hid (fun W => HSG.out i W)
          obtain ⟨c, hc⟩ : ∃ c, btN L i = c := ⟨_, rfl⟩
          rw [hc] at hb HS
          obtain ⟨o, ho⟩ : ∃ o, sgB c = o := ⟨_, rfl⟩
          rw [ho] at HS
          have HO : Hid (sgB (btN L i) = o) := by unfold Hid; rw [hc]; exact ho
          clear hc ho
          cases o
          · have HR2 : Hid (i = T) := by
              unfold Hid
              rw [← HR.out, rnS_stop (by rw [HSZ.out]; exact hlt) (by rw [HO.out]; simp)]
              omega
            go_wp2_with fail
            refine (HS.out _).mono ?_
            rintro e w1 ⟨rfl, rfl⟩
            go_wp2_with fail
            go_meet
            exact ⟨by rw [HR2.out], rfl⟩
          · have HR2 : Hid (i + 1 + rnS true (L.drop (i + 1)) = T) := by
              unfold Hid
              rw [← HR.out, rnS_step (by rw [HSZ.out]; exact hlt) HO.out]
              omega
            go_wp2_with fail
            refine (HS.out _).mono ?_
            rintro e w1 ⟨rfl, rfl⟩
            go_wp2_with fail
            go_roundg (gk - 1)
            case measure => omega
            case rel => exact ⟨rfl, i + 1, by omega, by go_num, HR2.out⟩
        · obtain rfl : i = s.size := by omega
          have hli : ¬ (s.size : Int) < (s.size : Int) := by omega
          have HR2 : Hid (s.size = T) := by
            unfold Hid
            rw [← HR.out, rnS_end (by rw [HSZ.out]; exact Nat.le_refl _)]
            omega
          go_wp2_with fail
          go_meet
          exact ⟨by rw [HR2.out], rfl⟩
    case rest =>
      obtain ⟨rfl, rfl⟩ := hcut
      go_wp2_with fail
      go_ret2
      exact ⟨rfl, rfl⟩
end Go.Proofs.YteknbdodihfbeaaDoor
