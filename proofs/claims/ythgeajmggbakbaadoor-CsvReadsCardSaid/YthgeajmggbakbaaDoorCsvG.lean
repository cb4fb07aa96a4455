/- CSV: a cell is written, the document's way. -/
import Derived.Test.YthgeajmggbakbaaDoorCsvF
set_option linter.unusedSimpArgs false
set_option linter.unusedVariables false
namespace Go.Proofs.YthgeajmggbakbaaDoor
open Go.RowKit

theorem shaped_below {P : Program} {w w' : World} (h : w.ShapedOpen P) (hb : Below w.heap.size w w') : w'.ShapedOpen P := h.keptBut (hb.frame (fun _ => False)) (fun _ h => h.elim)
theorem ext_data (a : ByteArray) (l : Bs) (h : a.data.toList = l) : a = ⟨l.toArray⟩ := by subst h; simp
theorem ext_one (s : ByteArray) (j : Nat) (h : j < s.size) : s.extract j (j + 1) = ⟨#[UInt8.ofNat (btN s.data.toList j)]⟩ := by
  have hl : j < s.data.toList.length := by rw [← Lib.size_eq]; exact h
  apply ext_data _ [UInt8.ofNat (btN s.data.toList j)]
  rw [Lib.extract_data, btN_get hl, show j + 1 - j = 1 from by omega, List.drop_eq_getElem_cons hl]
  simp
theorem isQ_yes {c : Nat} (h : isQ c = true) : c = 44 ∨ c = 34 ∨ c = 13 ∨ c = 10 := by
  unfold isQ at h
  simp only [Bool.or_eq_true, decide_eq_true_eq] at h
  omega
theorem isQ_not {c : Nat} (h : isQ c = false) : c ≠ 44 ∧ c ≠ 34 ∧ c ≠ 13 ∧ c ≠ 10 := by
  unfold isQ at h
  simp only [Bool.or_eq_false_iff, decide_eq_false_iff_not] at h
  omega

set_option maxRecDepth 100000 in
set_option maxHeartbeats 2000000 in
theorem rhas_any (s : ByteArray) (hs : s.size ≤ 1100000) (w : World) :
    Calls Tryd.prog 19 #[.string s] w fun e w' => e = .returned (.bool (hasQ s.data.toList)) ∧ w = w' := by
  have HBT := Lib.hid (btN_str s)
  have HSZ : Hid (s.data.toList.length = s.size) := (Lib.size_eq s).symm
  obtain ⟨L, hL⟩ : ∃ L, s.data.toList = L := ⟨_, rfl⟩
  rw [hL] at HBT HSZ ⊢
  have HNO := Lib.hid (no_q L)
  have HYES := Lib.hid (yes_q L)
  clear hL
  obtain ⟨q, hq⟩ : ∃ q, hasQ L = q := ⟨_, rfl⟩
  rw [hq] at HNO HYES ⊢
  clear hq
  go_enter Tryd.func19, Tryd.ntmps19
  go_wp2_with fail
  go_loopg [3] s.size (fun g v3 wr => ∃ i : Nat, i + g = s.size ∧ v3 = .int .i64 i ∧ (∀ j, j < i → isQ (btN L j) = false) ∧ wr = w)
  case atStart => exact ⟨0, by omega, rfl, fun j hj => by omega, rfl⟩
  case round =>
    obtain ⟨i, hig, rfl, hno, rfl⟩ := hrel
    have HN := Lib.hid hno
    clear hno
    by_cases hlt : i < s.size
    · have hli : (i : Int) < (s.size : Int) := by omega
      have hi0 : (0 : Int) ≤ (i : Int) := by omega
      have hb : ((s[i].toNat : Nat) : Int) = (btN L i : Int) := by rw [HBT.out i hlt]
      obtain ⟨c, hc⟩ : ∃ c, btN L i = c := ⟨_, rfl⟩
      have HQ1 := Lib.hid (HYES.out i (by rw [HSZ.out]; exact hlt))
      rw [hc] at hb HQ1
      cases hx : isQ c
      · have HNN : Hid (∀ j, j < i + 1 → isQ (btN L j) = false) := fun j hj => by
          by_cases h : j < i
          · exact HN.out j h
          · obtain rfl : j = i := by omega
            rw [hc, hx]
        obtain ⟨h1, h2, h3, h4⟩ := isQ_not hx
        have e1 : ((c : Int) == 44) = false := by simp; omega
        have e2 : ((c : Int) == 34) = false := by simp; omega
        have e3 : ((c : Int) == 13) = false := by simp; omega
        have e4 : ((c : Int) == 10) = false := by simp; omega
        clear hc hx h1 h2 h3 h4
        go_wp2_with fail
        go_roundg (gk - 1)
        case measure => omega
        case rel => exact ⟨i + 1, by omega, by go_num, HNN.out, rfl⟩
      · obtain rfl : q = true := HQ1.out hx
        have hcs := isQ_yes hx
        clear hc hx
        rcases hcs with rfl | rfl | rfl | rfl
        all_goals
          go_wp2_with fail
          go_ret
          exact ⟨rfl, rfl⟩
    · obtain rfl : q = false := HNO.out.2 (fun j hj => HN.out j (by have := HSZ.out; omega))
      have hli : ¬ (i : Int) < (s.size : Int) := by omega
      go_wp2_with fail
      go_ret
      exact ⟨rfl, rfl⟩

theorem dbl_take (L : Bs) (i : Nat) (h : i < L.length) : dblL (L.take (i + 1)) = dblL (L.take i) ++ (if btN L i = 34 then [34, 34] else [UInt8.ofNat (btN L i)]) := by
  rw [List.take_succ_eq_append_getElem h, btN_get h]
  unfold dblL
  rw [List.flatMap_append, List.flatMap_cons, List.flatMap_nil, List.append_nil]
  congr 1
  by_cases hc : L[i] = 34
  · rw [hc]; rfl
  · rw [if_neg hc, if_neg (fun e => hc (by rw [← UInt8.toNat_inj]; exact e))]
    simp
set_option maxRecDepth 100000 in
set_option maxHeartbeats 2000000 in
theorem rcell_any (s : ByteArray) (hs : s.size ≤ 1100000) (w : World) :
    Calls Tryd.prog 9 #[.string s] w fun e w' => e = .returned (.string ⟨(cellL s.data.toList).toArray⟩) ∧ w = w' := by
  have HH := Lib.hid (fun W => rhas_any s hs W)
  have HBT := Lib.hid (btN_str s)
  have HEX := Lib.hid (ext_one s)
  have HSZ : Hid (s.data.toList.length = s.size) := (Lib.size_eq s).symm
  have HS : Hid (s = ⟨s.data.toList.toArray⟩) := by unfold Hid; simp
  obtain ⟨L, hL⟩ : ∃ L, s.data.toList = L := ⟨_, rfl⟩
  rw [hL] at HH HBT HEX HSZ HS ⊢
  have HC : Hid (cellL L = if hasQ L then 34 :: (dblL L ++ [34]) else L) := by unfold Hid cellL; rfl
  obtain ⟨q, hq⟩ : ∃ q, hasQ L = q := ⟨_, rfl⟩
  rw [hq] at HH HC
  clear hL hq
  cases q
  · have HC2 : Hid ((⟨(cellL L).toArray⟩ : ByteArray) = s) := by unfold Hid; rw [HC.out]; exact HS.out.symm
    clear HC
    go_enter Tryd.func9, Tryd.ntmps9
    go_wp2_with fail
    refine (HH.out _).mono ?_
    rintro e w1 ⟨rfl, rfl⟩
    go_wp2_with fail
    go_ret
    exact ⟨congrArg Ending.returned (congrArg Value.string HC2.out.symm), rfl⟩
  · have HC2 : Hid (cellL L = 34 :: (dblL L ++ [34])) := HC.out
    clear HC HS
    go_enter Tryd.func9, Tryd.ntmps9
    go_wp2_with fail
    refine (HH.out _).mono ?_
    rintro e w1 ⟨rfl, rfl⟩
    go_wp2_with fail
    go_loopg [3, 4] s.size (fun g v3 v4 wr => ∃ i : Nat, i + g = s.size ∧ v4 = .int .i64 i ∧ v3 = .string ⟨(34 :: dblL (L.take i)).toArray⟩ ∧ wr = w)
    case atStart => exact ⟨0, by omega, rfl, rfl, rfl⟩
    case round =>
      obtain ⟨i, hig, rfl, rfl, rfl⟩ := hrel
      have hdl : (dblL (L.take i)).length ≤ 2200000 := by
        have h1 := dblL_len (L.take i)
        rw [List.length_take] at h1
        have := HSZ.out
        omega
      have hEl : (⟨(34 :: dblL (L.take i)).toArray⟩ : ByteArray).size ≤ 2200001 := by rw [size_l, List.length_cons]; omega
      by_cases hlt : i < s.size
      · have hli : (i : Int) < (s.size : Int) := by omega
        have hi0 : (0 : Int) ≤ (i : Int) := by omega
        have hi1 : (i : Int) + 1 ≤ (s.size : Int) := by omega
        have hi2 : (i : Int) ≤ (i : Int) + 1 := by omega
        have hb : ((s[i].toNat : Nat) : Int) = (btN L i : Int) := by rw [HBT.out i hlt]
        have hx := HEX.out i hlt
        have ht := dbl_take L i (by rw [HSZ.out]; exact hlt)
        obtain ⟨c, hc⟩ : ∃ c, btN L i = c := ⟨_, rfl⟩
        rw [hc] at hb hx ht
        obtain ⟨E, hE⟩ : ∃ E : ByteArray, (⟨(34 :: dblL (L.take i)).toArray⟩ : ByteArray) = E := ⟨_, rfl⟩
        rw [hE] at hEl ⊢
        have hs1 : (⟨#[UInt8.ofNat c]⟩ : ByteArray).size = 1 := rfl
        by_cases hc34 : c = 34
        · subst hc34
          have hx : s.extract i (i + 1) = ⟨#[34]⟩ := hx
          rw [if_pos rfl] at ht
          have HN : Hid (E ++ ⟨#[34]⟩ ++ ⟨#[34]⟩ = ⟨(34 :: dblL (L.take (i + 1))).toArray⟩) := by
            unfold Hid
            rw [ht, ← hE]
            show (⟨(34 :: dblL (L.take i)).toArray⟩ : ByteArray) ++ ⟨[34].toArray⟩ ++ ⟨[34].toArray⟩ = _
            rw [cat_l, cat_l]
            simp
          have hop1 : ∀ W, (Op.stringOp .add E ⟨#[34]⟩).run Tryd.prog W = .ok (.string (E ++ ⟨#[34]⟩)) W := fun W => run_string_add_sum W _ ⟨#[34]⟩ (by have hz : (⟨#[34]⟩ : ByteArray).size = 1 := rfl; omega)
          have hz2 : (E ++ ⟨#[34]⟩).size = E.size + 1 := by rw [ByteArray.size_append]; rfl
          obtain ⟨E2, hE2⟩ : ∃ E2 : ByteArray, E ++ ⟨#[34]⟩ = E2 := ⟨_, rfl⟩
          rw [hE2] at HN hop1 hz2
          have hop2 : ∀ W, (Op.stringOp .add E2 ⟨#[34]⟩).run Tryd.prog W = .ok (.string (E2 ++ ⟨#[34]⟩)) W := fun W => run_string_add_sum W _ ⟨#[34]⟩ (by have hz : (⟨#[34]⟩ : ByteArray).size = 1 := rfl; omega)
          rw [HN.out] at hop2
          clear hc ht hE hE2 hz2 hs1
          go_wp2_with fail
          go_roundg (gk - 1)
          case measure => omega
          case rel => exact ⟨i + 1, by omega, by go_num, rfl, rfl⟩
        · rw [if_neg hc34] at ht
          have HN : Hid (E ++ ⟨#[UInt8.ofNat c]⟩ = ⟨(34 :: dblL (L.take (i + 1))).toArray⟩) := by
            unfold Hid
            rw [ht, ← hE]
            show (⟨(34 :: dblL (L.take i)).toArray⟩ : ByteArray) ++ ⟨[UInt8.ofNat c].toArray⟩ = _
            rw [cat_l]
            simp
          have hop1 : ∀ W, (Op.stringOp .add E ⟨#[UInt8.ofNat c]⟩).run Tryd.prog W = .ok (.string (E ++ ⟨#[UInt8.ofNat c]⟩)) W := fun W => run_string_add_sum W _ _ (by omega)
          rw [HN.out] at hop1
          have hcf : ((c : Int) == 34) = false := by simp; omega
          clear hc ht hE hs1 hc34
          go_wp2_with fail
          go_roundg (gk - 1)
          case measure => omega
          case rel => exact ⟨i + 1, by omega, by go_num, rfl, rfl⟩
      · have hli : ¬ (i : Int) < (s.size : Int) := by omega
        have ht : L.take i = L := List.take_of_length_le (by rw [HSZ.out]; omega)
        rw [ht] at hEl ⊢
        have HN : Hid ((⟨(34 :: dblL L).toArray⟩ : ByteArray) ++ ⟨#[34]⟩ = ⟨(cellL L).toArray⟩) := by
          unfold Hid
          rw [HC2.out]
          show (⟨(34 :: dblL L).toArray⟩ : ByteArray) ++ ⟨[34].toArray⟩ = _
          rw [cat_l]
          simp
        obtain ⟨E, hE⟩ : ∃ E : ByteArray, (⟨(34 :: dblL L).toArray⟩ : ByteArray) = E := ⟨_, rfl⟩
        rw [hE] at HN hEl ⊢
        have hop1 : ∀ W, (Op.stringOp .add E ⟨#[34]⟩).run Tryd.prog W = .ok (.string (E ++ ⟨#[34]⟩)) W := fun W => run_string_add_sum W _ ⟨#[34]⟩ (by have hz : (⟨#[34]⟩ : ByteArray).size = 1 := rfl; omega)
        rw [HN.out] at hop1
        clear ht hE HC2
        go_wp2_with fail
        go_ret
        exact ⟨rfl, rfl⟩
end Go.Proofs.YthgeajmggbakbaaDoor
