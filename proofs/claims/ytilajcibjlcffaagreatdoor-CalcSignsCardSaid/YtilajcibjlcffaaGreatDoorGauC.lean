/- Whole complex numbers read: number. -/
import Derived.Test.YtilajcibjlcffaaGreatDoorGauB
import Derived.Deep.DeepCutAuto
import Derived.Deep.LoopGhost
set_option linter.unusedSimpArgs false
set_option linter.unusedVariables false

namespace Go.Proofs.YtilajcibjlcffaaGreatDoor.Gau
open Go.RowKit

/-- A byte as a number. -/
def byt (L : List UInt8) (j : Nat) : Nat := (L.getD j 0).toNat
theorem byt_lt (L : List UInt8) (j : Nat) : byt L j < 256 := by unfold byt; exact (L.getD j 0).toNat_lt
theorem drop_byte (L : List UInt8) (j : Nat) (h : j < L.length) : L.drop j = UInt8.ofNat (byt L j) :: L.drop (j + 1) := by
  rw [List.drop_eq_getElem_cons h]
  congr 1
  simp [byt, List.getD, h]

/-- The letters of a number, none too great on the way. -/
def nmF : List UInt8 → Nat → Option Nat
  | [], n => some n
  | c :: r, n => if 48 ≤ c.toNat ∧ c.toNat ≤ 57 ∧ n ≤ 1048576 then nmF r (10 * n + (c.toNat - 48)) else none
theorem nm_yes (n c : Nat) (L : List UInt8) (hc : c < 256) (h : 48 ≤ c ∧ c ≤ 57 ∧ n ≤ 1048576) : nmF (UInt8.ofNat c :: L) n = nmF L (10 * n + (c - 48)) := by
  have e : (UInt8.ofNat c).toNat = c := by simp; omega
  rw [nmF, e, if_pos h]
theorem nm_no (n c : Nat) (L : List UInt8) (hc : c < 256) (h : ¬ (48 ≤ c ∧ c ≤ 57 ∧ n ≤ 1048576)) : nmF (UInt8.ofNat c :: L) n = none := by
  have e : (UInt8.ofNat c).toNat = c := by simp; omega
  rw [nmF, e, if_neg h]
/-- What number tells. -/
def nbOk (L : List UInt8) : Bool :=
  match nmF (Lib.trimPrefix L [45]) 0 with
  | none => false
  | some n => !(Lib.trimPrefix L [45]).isEmpty && (decide (n ≤ 1048576) && (!(decide (1 < (Lib.trimPrefix L [45]).length) && decide (byt (Lib.trimPrefix L [45]) 0 = 48)) && !(Lib.hasPrefix L [45] && decide (n = 0))))
def nbV (L : List UInt8) : Int := if nbOk L then (if Lib.hasPrefix L [45] then -(((nmF (Lib.trimPrefix L [45]) 0).getD 0 : Nat) : Int) else (((nmF (Lib.trimPrefix L [45]) 0).getD 0 : Nat) : Int)) else 0

theorem cutMinus (s : ByteArray) (mi : Bool) (R : List UInt8) (h1 : Lib.hasPrefix s.data.toList [45] = mi) (h2 : Lib.trimPrefix s.data.toList [45] = R) (w : World) :
    Calls Tryz.prog 76 #[.string s, .string ⟨#[45]⟩] w fun e w' => e = .returned (.tuple #[.string ⟨R.toArray⟩, .bool mi]) ∧ w = w' := by
  subst h1 h2
  exact (Tryz.strings_CutPrefix s ⟨#[45]⟩ w).mono fun e w' ⟨h1, h2⟩ => ⟨h1, h2.symm⟩

set_option maxRecDepth 100000 in
set_option maxHeartbeats 1000000 in
theorem number_any (s : ByteArray) (hs : s.size ≤ 100000) (w : World) :
    Calls Tryz.prog 104 #[.string s] w fun e w' => e = .returned (.tuple #[.int .i64 (nbV s.data.toList), .bool (nbOk s.data.toList)]) ∧ Below w.heap.size w w' := by
  obtain ⟨mi, hmi⟩ : ∃ mi, Lib.hasPrefix s.data.toList [45] = mi := ⟨_, rfl⟩
  obtain ⟨R, hR⟩ : ∃ R, Lib.trimPrefix s.data.toList [45] = R := ⟨_, rfl⟩
  have HCP := Lib.hid (fun W => cutMinus s mi R hmi hR W)
  have hRl : R.length ≤ 100000 := by
    have h1 : (Lib.trimPrefix s.data.toList [45]).length ≤ s.data.toList.length := by
      unfold Lib.trimPrefix
      split <;> simp
    rw [hR, ← Lib.size_eq] at h1
    omega
  have HV : Hid (nbOk s.data.toList = (match nmF R 0 with
      | none => false
      | some n => !R.isEmpty && (decide (n ≤ 1048576) && (!(decide (1 < R.length) && decide (byt R 0 = 48)) && !(mi && decide (n = 0))))) ∧
      nbV s.data.toList = if nbOk s.data.toList then (if mi then -(((nmF R 0).getD 0 : Nat) : Int) else (((nmF R 0).getD 0 : Nat) : Int)) else 0) := by
    unfold Hid nbV nbOk
    rw [hR, hmi]
    exact ⟨rfl, rfl⟩
  obtain ⟨vV, hvV⟩ : ∃ x, nbV s.data.toList = x := ⟨_, rfl⟩
  obtain ⟨vO, hvO⟩ : ∃ x, nbOk s.data.toList = x := ⟨_, rfl⟩
  rw [hvV, hvO] at HV ⊢
  clear hvV hvO hmi hR
  have HNO : Hid (vO = false → vV = 0) := by
    unfold Hid
    intro h
    rw [HV.out.2, h]
    rfl
  obtain ⟨t, ht⟩ : ∃ t : ByteArray, t = ⟨R.toArray⟩ := ⟨_, rfl⟩
  rw [← ht] at HCP
  have htl : t.size = R.length := by rw [ht, Lib.size_eq]
  have hconv : ∀ W : World, _ := fun W => Lib.run_convert_string_bytes (P := Tryz.prog) W 9 90 5 t Tryz.underlying9 Tryz.underlying90 Tryz.underlying5
  obtain ⟨W0, hW0⟩ : ∃ W0, Lib.bytesWorld w 5 t = W0 := ⟨_, rfl⟩
  have hcell : ∀ j, j < R.length → W0.cell? ⟨w.heap.size, 0 + j, none⟩ = some (.int .u8 (byt R j : Int)) := fun j hj => by
    have e : t.data.toList = R := by rw [ht]
    rw [← hW0, Nat.zero_add, Lib.bytesWorld_cell w _ t j (by rw [htl]; exact hj)]
    unfold byt
    rw [e]
  have hbel : Below w.heap.size w W0 := by
    rw [← hW0]
    exact ⟨rfl, rfl, rfl, by rw [Lib.bytesWorld_size]; omega, fun k hk => Lib.bytesWorld_at_old w _ t k hk⟩
  have hconv1 := hconv w
  rw [hW0] at hconv1
  have HC := Lib.hid hcell
  clear hcell hconv hW0
  have htb : 0 < R.length → ∃ h : 0 < t.size, ((t[0]'h).toNat : Int) = (byt R 0 : Int) := fun h => ⟨by omega, by
    subst ht
    unfold byt
    simp [ByteArray.getElem_eq_getElem_data, List.getD, h]⟩
  have HTB := Lib.hid htb
  have HT := Lib.hid ht
  clear htb ht
  go_enter Tryz.func104, Tryz.ntmps104
  go_wp2_with fail
  refine (HCP.out _).mono ?_
  rintro e w1 ⟨rfl, rfl⟩
  go_wp2_with fail
  clear hconv1
  go_loopg [6, 17] R.length (fun g v6 v17 wr => wr = W0 ∧ ∃ i n : Nat, i + g = R.length ∧ v17 = .int .i64 i ∧ v6 = .int .i64 n ∧ n ≤ 10485769 ∧ nmF R 0 = nmF (R.drop i) n)
  case atStart => exact ⟨rfl, 0, 0, by omega, rfl, rfl, by omega, rfl⟩
  case round =>
    obtain ⟨rfl, i, n, hi, rfl, rfl, hn, hnm⟩ := hrel
    have HNM := Lib.hid hnm
    clear hnm
    by_cases hgo : i < R.length
    · obtain ⟨c, hc⟩ : ∃ c, byt R i = c := ⟨_, rfl⟩
      have hc256 : c < 256 := by rw [← hc]; exact byt_lt R i
      have c1 : wr.cell? ⟨w.heap.size, i, none⟩ = some (.int .u8 (c : Int)) := by
        have := HC.out i hgo
        rw [Nat.zero_add, hc] at this
        exact this
      have hdrop := drop_byte R i hgo
      rw [hc] at hdrop
      have HD := Lib.hid hdrop
      clear hc hdrop
      have fin : (¬ (48 ≤ c ∧ c ≤ 57 ∧ n ≤ 1048576)) → Hid (vO = false ∧ vV = 0) := fun h => by
        have h1 : nmF R 0 = none := by rw [HNM.out, HD.out, nm_no n c _ hc256 h]
        have h2 : vO = false := by rw [HV.out.1, h1]
        exact ⟨h2, HNO.out h2⟩
      by_cases h48 : c < 48
      · have HF := fin (by omega)
        clear fin
        go_wp2
        go_ret2
        exact ⟨by rw [HF.out.1, HF.out.2]; rfl, hbel⟩
      · by_cases h57 : 57 < c
        · have HF := fin (by omega)
          clear fin
          go_wp2
          go_ret2
          exact ⟨by rw [HF.out.1, HF.out.2]; rfl, hbel⟩
        · by_cases hM : 1048576 < n
          · have HF := fin (by omega)
            clear fin
            go_wp2
            go_ret2
            exact ⟨by rw [HF.out.1, HF.out.2]; rfl, hbel⟩
          · have hnx : Hid (nmF R 0 = nmF (R.drop (i + 1)) (10 * n + (c - 48))) := by unfold Hid; rw [HNM.out, HD.out, nm_yes n c _ hc256 (by omega)]
            clear fin
            go_wp2
            go_roundg (gk - 1)
            case measure => omega
            case rel => exact ⟨rfl, i + 1, 10 * n + (c - 48), by omega, by go_num, by first | go_num | (congr 1; omega), by omega, hnx.out⟩
    · have hnm : nmF R 0 = some n := by rw [HNM.out, List.drop_of_length_le (by omega)]; rfl
      have hO := HV.out.1
      have hVv := HV.out.2
      rw [hnm] at hO hVv
      simp only [Option.getD_some] at hO hVv
      have HO := Lib.hid hO
      have HVV := Lib.hid hVv
      clear hO hVv hnm
      have htz : t.size ≤ 100000 := by omega
      by_cases hR0 : R.length = 0
      · have hr : R = [] := List.eq_nil_of_length_eq_zero hR0
        have h2 : vO = false := by rw [HO.out, hr]; rfl
        have HF := Lib.hid (And.intro h2 (HNO.out h2))
        have hteq : t = ⟨#[]⟩ := by rw [HT.out, hr]
        subst hteq
        go_wp2_with fail
        go_ret2
        exact ⟨by rw [HF.out.1, HF.out.2]; rfl, hbel⟩
      · have htn : t.toList ≠ [] := by
          intro e
          have e2 : t.size = 0 := by rw [Lib.size_eq, ← Lib.toList_data, e]; rfl
          omega
        have hne1 : (t.toList == []) = false := by simp [htn]
        have hne2 : t.toList.isEmpty = false := by simp [htn]
        obtain ⟨h0t, h0b⟩ := HTB.out (by omega)
        have hRne : R.isEmpty = false := by
          cases R with
          | nil => simp at hR0
          | cons a r => rfl
        obtain ⟨b0, hb0⟩ : ∃ b0, byt R 0 = b0 := ⟨_, rfl⟩
        rw [hb0] at h0b
        rw [hRne, hb0] at HO
        have hO2 : vO = (decide (n ≤ 1048576) && (!(decide (1 < R.length) && decide (b0 = 48)) && !(mi && decide (n = 0)))) := HO.out
        have HO2 := Lib.hid hO2
        have badF : vO = false → Hid (vO = false ∧ vV = 0) := fun h => ⟨h, HNO.out h⟩
        clear htn hb0 hRne hO2
        by_cases hM : 1048576 < n
        · have HF := badF (by rw [HO2.out, decide_eq_false (by omega)]; rfl)
          clear badF
          go_wp2_with fail
          go_ret2
          exact ⟨by rw [HF.out.1, HF.out.2]; rfl, hbel⟩
        · have hM2 : n ≤ 1048576 := by omega
          by_cases hlen : 1 < R.length
          · have hlen2 : (1 : Int) < (R.length : Int) := by omega
            by_cases h48 : b0 = 48
            · have e48 : (((t[0]'h0t).toNat : Int) == 48) = true := by rw [h0b, h48]; first | done | rfl
              have HF := badF (by rw [HO2.out, decide_eq_true hM2, decide_eq_true hlen, decide_eq_true h48]; rfl)
              clear h0b badF
              go_wp2_with fail
              go_ret2
              exact ⟨by rw [HF.out.1, HF.out.2]; rfl, hbel⟩
            · have e48 : (((t[0]'h0t).toNat : Int) == 48) = false := by rw [h0b]; simp; omega
              have hA : (decide (1 < R.length) && decide (b0 = 48)) = false := by rw [decide_eq_false h48]; simp
              clear h0b
              by_cases hn0 : n = 0
              · subst hn0
                cases mi
                · have HG : Hid (vO = true ∧ vV = 0) := by
                    have h1 : vO = true := by rw [HO2.out, decide_eq_true hM2, hA]; rfl
                    exact ⟨h1, by rw [HVV.out, h1]; rfl⟩
                  clear hA badF
                  go_wp2_with fail
                  go_ret2
                  exact ⟨by rw [HG.out.1, HG.out.2]; rfl, hbel⟩
                · have HF := badF (by rw [HO2.out, decide_eq_true hM2, hA]; rfl)
                  clear hA badF
                  go_wp2_with fail
                  go_ret2
                  exact ⟨by rw [HF.out.1, HF.out.2]; rfl, hbel⟩
              · have hn1 : ((n : Int) == 0) = false := by simp; omega
                cases mi
                · have HG : Hid (vO = true ∧ vV = (n : Int)) := by
                    have h1 : vO = true := by rw [HO2.out, decide_eq_true hM2, hA, decide_eq_false hn0]; rfl
                    exact ⟨h1, by rw [HVV.out, h1]; rfl⟩
                  clear hA badF
                  go_wp2_with fail
                  go_ret2
                  exact ⟨by rw [HG.out.1, HG.out.2]; rfl, hbel⟩
                · have HG : Hid (vO = true ∧ vV = -(n : Int)) := by
                    have h1 : vO = true := by rw [HO2.out, decide_eq_true hM2, hA, decide_eq_false hn0]; rfl
                    exact ⟨h1, by rw [HVV.out, h1]; rfl⟩
                  clear hA badF
                  go_wp2_with fail
                  go_ret2
                  exact ⟨by rw [HG.out.1, HG.out.2]; rfl, hbel⟩
          · have hlen2 : ¬ (1 : Int) < (R.length : Int) := by omega
            have hA : (decide (1 < R.length) && decide (b0 = 48)) = false := by rw [decide_eq_false hlen]; simp
            clear h0b
            by_cases hn0 : n = 0
            · subst hn0
              cases mi
              · have HG : Hid (vO = true ∧ vV = 0) := by
                  have h1 : vO = true := by rw [HO2.out, decide_eq_true hM2, hA]; rfl
                  exact ⟨h1, by rw [HVV.out, h1]; rfl⟩
                clear hA badF
                go_wp2_with fail
                go_ret2
                exact ⟨by rw [HG.out.1, HG.out.2]; rfl, hbel⟩
              · have HF := badF (by rw [HO2.out, decide_eq_true hM2, hA]; rfl)
                clear hA badF
                go_wp2_with fail
                go_ret2
                exact ⟨by rw [HF.out.1, HF.out.2]; rfl, hbel⟩
            · have hn1 : ((n : Int) == 0) = false := by simp; omega
              cases mi
              · have HG : Hid (vO = true ∧ vV = (n : Int)) := by
                  have h1 : vO = true := by rw [HO2.out, decide_eq_true hM2, hA, decide_eq_false hn0]; rfl
                  exact ⟨h1, by rw [HVV.out, h1]; rfl⟩
                clear hA badF
                go_wp2_with fail
                go_ret2
                exact ⟨by rw [HG.out.1, HG.out.2]; rfl, hbel⟩
              · have HG : Hid (vO = true ∧ vV = -(n : Int)) := by
                  have h1 : vO = true := by rw [HO2.out, decide_eq_true hM2, hA, decide_eq_false hn0]; rfl
                  exact ⟨h1, by rw [HVV.out, h1]; rfl⟩
                clear hA badF
                go_wp2_with fail
                go_ret2
                exact ⟨by rw [HG.out.1, HG.out.2]; rfl, hbel⟩
end Go.Proofs.YtilajcibjlcffaaGreatDoor.Gau
