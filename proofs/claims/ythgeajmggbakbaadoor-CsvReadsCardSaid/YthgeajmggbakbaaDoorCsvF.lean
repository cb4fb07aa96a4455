/- CSV: a cell is written, the program's way and the document's. -/
import Derived.Test.YthgeajmggbakbaaDoorCsvE
import Derived.Lib.Replace
import Derived.Lib.ReplaceLaws
set_option linter.unusedSimpArgs false
set_option linter.unusedVariables false
namespace Go.Proofs.YthgeajmggbakbaaDoor
open Go.RowKit

theorem ix_no {b : UInt8} (l : Bs) (h : b ≠ 34) : Lib.index (b :: l) [34] = if Lib.index l [34] == -1 then -1 else Lib.index l [34] + 1 := by
  rw [Lib.index, if_neg]
  simp [List.isPrefixOf, h.symm]
theorem ix_yes (l : Bs) : Lib.index (34 :: l) [34] = 0 := by
  rw [Lib.index, if_pos]
  simp [List.isPrefixOf]
theorem cnt_yes (l : Bs) : Lib.count (34 :: l) [34] = 1 + Lib.count l [34] := by
  have := Lib.count_hit (s := 34 :: l) (sub := [34]) (i := 0) (by simp) (ix_yes l)
  simpa using this
theorem cnt_no {b : UInt8} (l : Bs) (h : b ≠ 34) : Lib.count (b :: l) [34] = Lib.count l [34] := by
  have hx := ix_no l h
  by_cases hm : Lib.index l [34] = -1
  · rw [hm] at hx
    rw [Lib.count_miss hm, Lib.count_miss hx]
  · rw [if_neg (by simpa using hm)] at hx
    have hge := Lib.index_ge l [34]
    obtain ⟨i, hi⟩ : ∃ i : Nat, Lib.index l [34] = i := ⟨(Lib.index l [34]).toNat, by omega⟩
    rw [hi] at hx
    rw [Lib.count_hit (by simp) hi, Lib.count_hit (i := i + 1) (by simp) (by rw [hx]; omega)]
    simp
theorem rep_no {b : UInt8} (l : Bs) (h : b ≠ 34) (k : Nat) : Lib.replaceK [34] [34, 34] k (b :: l) = b :: Lib.replaceK [34] [34, 34] k l := by
  cases k with
  | zero => rfl
  | succ k =>
    have hx := ix_no l h
    by_cases hm : Lib.index l [34] = -1
    · rw [hm] at hx
      have hx : Lib.index (b :: l) [34] = -1 := hx
      rw [Lib.replaceK, Lib.replaceK, if_pos (by rw [hx]; rfl), if_pos (by rw [hm]; rfl)]
    · rw [if_neg (by simpa using hm)] at hx
      have hge := Lib.index_ge l [34]
      obtain ⟨i, hi⟩ : ∃ i : Nat, Lib.index l [34] = i := ⟨(Lib.index l [34]).toNat, by omega⟩
      rw [hi] at hx
      rw [Lib.replaceK_hit _ _ _ _ i hi, Lib.replaceK_hit _ _ _ _ (i + 1) (by rw [hx]; omega)]
      simp
theorem rep_is : ∀ (L : Bs) (k : Nat), Lib.count L [34] ≤ k → Lib.replaceK [34] [34, 34] k L = dblL L
  | [], 0, _ => rfl
  | [], k + 1, _ => by rw [Lib.replaceK, if_pos (by rfl)]; rfl
  | b :: l, k, h => by
    by_cases hb : b = 34
    · subst hb
      rw [cnt_yes] at h
      obtain ⟨k', rfl⟩ : ∃ k', k = k' + 1 := ⟨k - 1, by omega⟩
      rw [Lib.replaceK_hit _ _ _ _ 0 (ix_yes l), dblL_q]
      simp only [List.take_zero, List.nil_append, Nat.zero_add, List.length_singleton, List.drop_succ_cons, List.drop_zero]
      rw [rep_is l k' (by omega)]
      rfl
    · rw [cnt_no l hb] at h
      rw [rep_no l hb, rep_is l k h, dblL_n l hb]
theorem replaceAll_is (L : Bs) : Lib.replaceAll L [34] [34, 34] = dblL L := by
  unfold Lib.replaceAll Lib.replace
  rw [if_neg (by decide)]
  exact rep_is L _ (by unfold Lib.replaceNum; rw [if_pos (by omega)]; exact Nat.le_refl _)
theorem replaceAll_any (s : ByteArray) (hs : s.size ≤ 1100000) (w : World) (hsh : w.ShapedOpen Tryd.prog) :
    Calls Tryd.prog 18 #[.string s, .string ⟨#[34]⟩, .string ⟨#[34, 34]⟩] w fun e w' => e = .returned (.string ⟨(dblL s.data.toList).toArray⟩) ∧ Below w.heap.size w w' := by
  have hc := Lib.countB_mul_le ⟨#[34]⟩ (by decide) s.size s (Nat.le_refl _)
  rw [show (⟨#[34]⟩ : ByteArray).size = 1 from rfl] at hc
  refine (Tryd.strings_ReplaceAll_shaped s ⟨#[34]⟩ ⟨#[34, 34]⟩ w hsh (by omega) (by decide) (by rw [show (⟨#[34, 34]⟩ : ByteArray).size = 2 from rfl]; omega)).mono fun e w' h => ⟨?_, h.2⟩
  rw [h.1]
  congr 4
  exact replaceAll_is _

set_option maxRecDepth 100000 in
set_option maxHeartbeats 2000000 in
theorem cell_any (s : ByteArray) (hs : s.size ≤ 1100000) (w : World) (hsh : w.ShapedOpen Tryd.prog) :
    Calls Tryd.prog 8 #[.string s] w fun e w' => e = .returned (.string ⟨(cellL s.data.toList).toArray⟩) ∧ Below w.heap.size w w' := by
  have HP := Lib.hid (fun W => plain_any s hs W)
  have HR : Hid (∀ W, Below w.heap.size w W → Calls Tryd.prog 18 #[.string s, .string ⟨#[34]⟩, .string ⟨#[34, 34]⟩] W fun e w' => e = .returned (.string ⟨(dblL s.data.toList).toArray⟩) ∧ Below W.heap.size W w') := fun W hW => replaceAll_any s hs W (hsh.keptBut (hW.frame (fun _ => False)) (fun _ h => h.elim))
  have HS : Hid (s = ⟨s.data.toList.toArray⟩) := by unfold Hid; simp
  have hlen : s.data.toList.length = s.size := (Lib.size_eq s).symm
  obtain ⟨L, hL⟩ : ∃ L, s.data.toList = L := ⟨_, rfl⟩
  rw [hL] at HP HR HS hlen ⊢
  have hd := dblL_len L
  have h1 : (⟨#[34]⟩ : ByteArray) ++ ⟨(dblL L).toArray⟩ = ⟨(34 :: dblL L).toArray⟩ := cat_l [34] (dblL L)
  have h2 : (⟨(34 :: dblL L).toArray⟩ : ByteArray) ++ ⟨#[34]⟩ = ⟨(34 :: dblL L ++ [34]).toArray⟩ := cat_l (34 :: dblL L) [34]
  have hop1 : ∀ W, (Op.stringOp .add ⟨#[34]⟩ ⟨(dblL L).toArray⟩).run Tryd.prog W = .ok (.string ⟨(34 :: dblL L).toArray⟩) W := fun W => by rw [← h1]; exact run_string_add_sum W ⟨#[34]⟩ _ (by have hz : (⟨#[34]⟩ : ByteArray).size = 1 := rfl; have hz2 := size_l (dblL L); omega)
  have hop2 : ∀ W, (Op.stringOp .add ⟨(34 :: dblL L).toArray⟩ ⟨#[34]⟩).run Tryd.prog W = .ok (.string ⟨(34 :: dblL L ++ [34]).toArray⟩) W := fun W => by rw [← h2]; exact run_string_add_sum W _ ⟨#[34]⟩ (by have hz : (⟨#[34]⟩ : ByteArray).size = 1 := rfl; have hz2 := size_l (34 :: dblL L); rw [List.length_cons] at hz2; omega)
  have HC : Hid (cellL L = if hasQ L then 34 :: dblL L ++ [34] else L) := by unfold Hid cellL; rfl
  obtain ⟨C, hC⟩ : ∃ C, cellL L = C := ⟨_, rfl⟩
  obtain ⟨q, hq⟩ : ∃ q, hasQ L = q := ⟨_, rfl⟩
  obtain ⟨D, hD⟩ : ∃ D : ByteArray, (⟨(dblL L).toArray⟩ : ByteArray) = D := ⟨_, rfl⟩
  obtain ⟨E, hE⟩ : ∃ E : ByteArray, (⟨(34 :: dblL L).toArray⟩ : ByteArray) = E := ⟨_, rfl⟩
  obtain ⟨F, hF⟩ : ∃ F : ByteArray, (⟨(34 :: dblL L ++ [34]).toArray⟩ : ByteArray) = F := ⟨_, rfl⟩
  rw [hC, hq] at HC
  rw [hq] at HP
  rw [hD] at HR hop1
  rw [hE] at hop1 hop2
  rw [hF] at hop2
  rw [hC]
  have HF : Hid (q = true → (⟨C.toArray⟩ : ByteArray) = F) := fun h => by rw [HC.out, h, ← hF]; rfl
  have HG : Hid (q = false → (⟨C.toArray⟩ : ByteArray) = s) := fun h => by rw [HC.out, h]; exact HS.out.symm
  clear hL hlen hd h1 h2 hC hq hD hE hF HC HS
  cases q
  · clear hop1 hop2 HR HF
    go_enter Tryd.func8, Tryd.ntmps8
    go_wp2_with fail
    refine (HP.out _).mono ?_
    rintro e w1 ⟨rfl, hb1⟩
    go_wp2_with fail
    go_ret
    exact ⟨congrArg Ending.returned (congrArg Value.string (HG.out (by first | trivial | rfl)).symm), hb1⟩
  · go_enter Tryd.func8, Tryd.ntmps8
    go_wp2_with fail
    refine (HP.out _).mono ?_
    rintro e w1 ⟨rfl, hb1⟩
    go_wp2_with fail
    refine (HR.out _ hb1).mono ?_
    rintro e w2 ⟨rfl, hb2⟩
    go_wp2_with fail
    go_ret
    exact ⟨congrArg Ending.returned (congrArg Value.string (HF.out (by first | trivial | rfl)).symm), bel_call hb2 hb1 hb1.size⟩
end Go.Proofs.YthgeajmggbakbaaDoor
