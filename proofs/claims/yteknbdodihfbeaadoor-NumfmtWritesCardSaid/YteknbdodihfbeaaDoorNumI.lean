/- Numfmt: the program's grouped; Repeat of a nought. -/
import Derived.Test.YteknbdodihfbeaaDoorNumH
import Derived.Test.YteknbdodihfbeaaDoorNumD
set_option linter.unusedSimpArgs false
set_option linter.unusedVariables false
namespace Go.Proofs.YteknbdodihfbeaaDoor
open Go.RowKit Go.Joins

theorem rep_zero (c : Nat) (hc : c ≤ 1000) (w : World) : Calls Tryd.prog 23 #[.string ⟨#[48]⟩, .int .i64 c] w fun e w' => e = .returned (.string ⟨(List.replicate c 48).toArray⟩) ∧ Below w.heap.size w w' := by
  have h1 : (⟨#[48]⟩ : ByteArray).size = 1 := rfl
  have h := Tryd.strings_Repeat ⟨#[48]⟩ c w (by omega) (by rw [h1]; omega)
  have e : Lib.repeatL (⟨#[48]⟩ : ByteArray).data.toList c = List.replicate c 48 := by
    show Lib.repeatL [48] c = _
    clear h hc
    induction c with
    | zero => rfl
    | succ c ih => rw [Lib.repeatL, ih]; rfl
  rw [e] at h
  exact h
theorem ba_of (s : ByteArray) : (⟨s.data.toList.toArray⟩ : ByteArray) = s := by
  apply ByteArray.ext
  simp
theorem ba_data (X Y : ByteArray) : (X ++ Y).data.toList = X.data.toList ++ Y.data.toList := by rw [ByteArray.data_append, Array.toList_append]
theorem grp_step (s o : ByteArray) (m : Nat) (h : s.size = m + 3) (hm : 0 < m) : grp true (s.extract 0 m).data.toList ++ ((⟨#[44]⟩ ++ s.extract m (m + 3)) ++ o : ByteArray).data.toList = grp true s.data.toList ++ o.data.toList ∧ (s.extract 0 m).size = m ∧ ((⟨#[44]⟩ ++ s.extract m (m + 3)) ++ o : ByteArray).size = 4 + o.size := by
  have hl : s.data.toList.length = m + 3 := by rw [← Lib.size_eq]; exact h
  rw [mid_bytes s 0 m, mid_bytes s m (m + 3)]
  refine ⟨?_, ?_, ?_⟩
  · rw [ba_data, ba_data]
    show grp true ((s.data.toList.drop 0).take (m - 0)) ++ ([44] ++ (s.data.toList.drop m).take (m + 3 - m) ++ o.data.toList) = _
    generalize s.data.toList = a at hl
    rw [List.drop_zero, Nat.sub_zero, show m + 3 - m = 3 by omega, List.take_of_length_le (l := a.drop m) (i := 3) (by simp; omega)]
    have h3 : (a.drop m).length = 3 := by simp; omega
    obtain ⟨x, y, z, hd⟩ : ∃ x y z, a.drop m = [x, y, z] := by
      match h : a.drop m, h3 with
      | [x, y, z], _ => exact ⟨x, y, z, rfl⟩
    have ha : a = a.take m ++ [x, y, z] := by rw [← hd, List.take_append_drop]
    have hne : a.take m ≠ [] := by
      intro e
      have h1 := congrArg List.length e
      rw [List.length_take] at h1
      have h2 : ([] : Bs).length = 0 := rfl
      omega
    rw [hd]
    conv => rhs; rw [ha]
    rw [grp_three x y z _ true (.inr hne)]
    simp
  · rw [Lib.size_eq]
    show ((s.data.toList.drop 0).take (m - 0)).length = m
    rw [List.length_take, List.length_drop]
    omega
  · rw [Lib.size_eq, ba_data, ba_data, List.length_append, List.length_append, ← Lib.size_eq o]
    show 1 + ((s.data.toList.drop m).take (m + 3 - m)).length + o.size = 4 + o.size
    rw [List.length_take, List.length_drop]
    omega
set_option maxRecDepth 100000 in
set_option maxHeartbeats 1000000 in
theorem grouped_any (L : Bs) (hL : L.length ≤ 1000) (R : Bs) (hR : grp true L = R) (w : World) : Calls Tryd.prog 24 #[.string ⟨L.toArray⟩] w fun e w' => e = .returned (.string ⟨R.toArray⟩) ∧ w = w' := by
  have HR := Lib.hid hR
  clear hR
  go_enter Tryd.func24, Tryd.ntmps24
  go_wp2_with fail
  go_loopg [0, 3] L.length (fun g v0 v3 wr => wr = w ∧ ∃ s o : ByteArray, v0 = .string s ∧ v3 = .string o ∧ s.size = g ∧ grp true s.data.toList ++ o.data.toList = R ∧ 4 * g + 3 * o.size ≤ 4 * L.length)
  case atStart => exact ⟨rfl, ⟨L.toArray⟩, ⟨#[]⟩, rfl, rfl, by rw [Lib.size_eq], by rw [← HR.out]; simp, by show 4 * L.length + 3 * 0 ≤ _; omega⟩
  case round =>
    obtain ⟨rfl, s, o, rfl, rfl, hsz, hgr, hbd⟩ := hrel
    have HG := Lib.hid hgr
    have HZ := Lib.hid hsz
    clear hgr hsz
    by_cases hlt : 3 < gk
    · obtain ⟨m, rfl⟩ : ∃ m, gk = m + 3 := ⟨gk - 3, by omega⟩
      have HS := Lib.hid (grp_step s o m HZ.out (by omega))
      have hz : s.size = m + 3 := HZ.out
      have hli : (3 : Int) < (m : Int) + 3 := by omega
      go_wp2_with fail
      go_roundg m
      case measure => omega
      case rel => exact ⟨rfl, _, _, rfl, rfl, HS.out.2.1, by rw [HS.out.1]; exact HG.out, by rw [HS.out.2.2]; omega⟩
    · have hli : ¬ (3 : Int) < (s.size : Int) := by rw [HZ.out]; omega
      have hz2 : s.size ≤ 1000 := by rw [HZ.out]; omega
      have HF : Hid (s ++ o = ⟨R.toArray⟩) := by
        unfold Hid
        rw [← HG.out, grp_few _ (by rw [← Lib.size_eq, HZ.out]; omega)]
        apply ByteArray.ext
        simp
      go_wp2_with fail
      go_ret
      exact ⟨by rw [HF.out]; rfl, rfl⟩
end Go.Proofs.YteknbdodihfbeaaDoor
