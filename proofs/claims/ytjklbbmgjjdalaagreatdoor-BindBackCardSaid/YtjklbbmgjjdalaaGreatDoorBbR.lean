/- Contracts of the document's run, begins and quoted, and of the signs. Contracts of the document's quoted and of the program's sign. Contract of the program's one: the token at a place. Contract of the document's one: the token at a place. Slices of tokens in memory, and what Split hands back. -/
import Derived.Test.YtjklbbmgjjdalaaGreatDoorBbP
import Derived.Lib.IndexEntry
import Derived.RegionTactic
import Derived.ChangeAlike
import Derived.OwnWalk
import Derived.Laws.AppendOwnNone
import Derived.Laws.OwnMore
import Derived.Laws.MakeOwn
set_option linter.unusedSimpArgs false
set_option linter.unusedVariables false
namespace Go.Proofs.YtjklbbmgjjdalaaGreatDoor.Tks
open Go.RowKit
set_option maxRecDepth 100000 in
set_option maxHeartbeats 2000000 in
theorem run_dg (s : ByteArray) (i N : Nat) (hs : s.size ≤ 100000) (hi : i ≤ 100000) (hN : runN dgB s.data.toList i = N) (w : World) :
    Calls Tryz.prog 88 #[.string s, .int .i64 i, .bool false] w fun e w' => e = .returned (.int .i64 N) ∧ w = w' := by
  have hN1 : N ≤ 100000 := by have := run_le dgB s.data.toList i; rw [← Lib.size_eq] at this; omega
  have HN := Lib.hid hN
  clear hN
  go_enter Tryz.func88, Tryz.ntmps88
  go_wp2_with fail
  go_loop [7] (fun v => ∃ k : Nat, v = .int .i64 k ∧ k ≤ N ∧ k + runN dgB s.data.toList (i + k) = N) (fun v => N - (intOf v).toNat)
  case atStart => exact ⟨0, rfl, by omega, by have := HN.out; simpa using this⟩
  case round =>
    obtain ⟨k, rfl, hk, hr⟩ := hrel
    have HR := Lib.hid hr
    clear hr
    rcases Nat.lt_or_ge (i + k) s.size with hlt | hge
    · obtain ⟨c, hc⟩ : ∃ c, nx s.data.toList (i + k) = c := ⟨_, rfl⟩
      have hb1 := nx_str s (i + k) hlt
      rw [hc] at hb1
      by_cases h1 : (48 : Int) ≤ ((s[i + k].toNat : Nat) : Int)
      · by_cases h2 : ((s[i + k].toNat : Nat) : Int) ≤ 57
        · have H : Hid (k + 1 + runN dgB s.data.toList (i + k + 1) = N) := by
            have h1 := run_yes (p := dgB) (by decide) hc (by simp [dgB]; omega)
            have h2 := HR.out
            unfold Hid
            omega
          have hkN : k + 1 ≤ N := by have := H.out; omega
          clear hc hb1
          go_wp2_with fail
          go_round
          case rel => exact ⟨k + 1, by go_num, hkN, by rw [show i + (k + 1) = i + k + 1 by omega]; exact H.out⟩
          case measure => simp [intOf]; omega
        · have H : Hid (k = N) := by
            have h1 := run_no (p := dgB) (by decide) hc (by simp [dgB]; omega)
            have h2 := HR.out
            unfold Hid
            omega
          clear hc hb1
          go_wp2_with fail
          go_ret
          exact ⟨ret_i64 (by rw [H.out]), rfl⟩
      · have H : Hid (k = N) := by
          have h1 := run_no (p := dgB) (by decide) hc (by simp [dgB]; omega)
          have h2 := HR.out
          unfold Hid
          omega
        clear hc hb1
        go_wp2_with fail
        go_ret
        exact ⟨ret_i64 (by rw [H.out]), rfl⟩
    · have H : Hid (k = N) := by
        have h1 := run_no (p := dgB) (by decide) (L := s.data.toList) (k := i + k) (nx_end (by rw [← Lib.size_eq]; exact hge)) (by decide)
        have h2 := HR.out
        unfold Hid
        omega
      go_wp2_with fail
      go_ret
      exact ⟨ret_i64 (by rw [H.out]), rfl⟩
set_option maxRecDepth 100000 in
set_option maxHeartbeats 2000000 in
theorem run_nm (s : ByteArray) (i N : Nat) (hs : s.size ≤ 100000) (hi : i ≤ 100000) (hN : runN nmB s.data.toList i = N) (w : World) :
    Calls Tryz.prog 88 #[.string s, .int .i64 i, .bool true] w fun e w' => e = .returned (.int .i64 N) ∧ w = w' := by
  have hN1 : N ≤ 100000 := by have := run_le nmB s.data.toList i; rw [← Lib.size_eq] at this; omega
  have HN := Lib.hid hN
  clear hN
  go_enter Tryz.func88, Tryz.ntmps88
  go_wp2_with fail
  go_loop [7] (fun v => ∃ k : Nat, v = .int .i64 k ∧ k ≤ N ∧ k + runN nmB s.data.toList (i + k) = N) (fun v => N - (intOf v).toNat)
  case atStart => exact ⟨0, rfl, by omega, by have := HN.out; simpa using this⟩
  case round =>
    obtain ⟨k, rfl, hk, hr⟩ := hrel
    have HR := Lib.hid hr
    clear hr
    rcases Nat.lt_or_ge (i + k) s.size with hlt | hge
    · obtain ⟨c, hc⟩ : ∃ c, nx s.data.toList (i + k) = c := ⟨_, rfl⟩
      have hb1 := nx_str s (i + k) hlt
      rw [hc] at hb1
      by_cases h1 : (48 : Int) ≤ ((s[i + k].toNat : Nat) : Int)
      · by_cases h2 : ((s[i + k].toNat : Nat) : Int) ≤ 57
        · have H : Hid (k + 1 + runN nmB s.data.toList (i + k + 1) = N) := by
            have h1 := run_yes (p := nmB) (by decide) hc (by simp [nmB, upB, dgB]; omega)
            have h2 := HR.out
            unfold Hid
            omega
          have hkN : k + 1 ≤ N := by have := H.out; omega
          clear hc hb1
          go_wp2_with fail
          go_round
          case rel => exact ⟨k + 1, by go_num, hkN, by rw [show i + (k + 1) = i + k + 1 by omega]; exact H.out⟩
          case measure => simp [intOf]; omega
        · by_cases h3 : (65 : Int) ≤ ((s[i + k].toNat : Nat) : Int)
          · by_cases h4 : ((s[i + k].toNat : Nat) : Int) ≤ 90
            · have H : Hid (k + 1 + runN nmB s.data.toList (i + k + 1) = N) := by
                have h1 := run_yes (p := nmB) (by decide) hc (by simp [nmB, upB, dgB]; omega)
                have h2 := HR.out
                unfold Hid
                omega
              have hkN : k + 1 ≤ N := by have := H.out; omega
              clear hc hb1
              go_wp2_with fail
              go_round
              case rel => exact ⟨k + 1, by go_num, hkN, by rw [show i + (k + 1) = i + k + 1 by omega]; exact H.out⟩
              case measure => simp [intOf]; omega
            · have H : Hid (k = N) := by
                have h1 := run_no (p := nmB) (by decide) hc (by simp [nmB, upB, dgB]; omega)
                have h2 := HR.out
                unfold Hid
                omega
              clear hc hb1
              go_wp2_with fail
              go_ret
              exact ⟨ret_i64 (by rw [H.out]), rfl⟩
          · have H : Hid (k = N) := by
              have h1 := run_no (p := nmB) (by decide) hc (by simp [nmB, upB, dgB]; omega)
              have h2 := HR.out
              unfold Hid
              omega
            clear hc hb1
            go_wp2_with fail
            go_ret
            exact ⟨ret_i64 (by rw [H.out]), rfl⟩
      · have H : Hid (k = N) := by
          have h1 := run_no (p := nmB) (by decide) hc (by simp [nmB, upB, dgB]; omega)
          have h2 := HR.out
          unfold Hid
          omega
        clear hc hb1
        go_wp2_with fail
        go_ret
        exact ⟨ret_i64 (by rw [H.out]), rfl⟩
    · have H : Hid (k = N) := by
        have h1 := run_no (p := nmB) (by decide) (L := s.data.toList) (k := i + k) (nx_end (by rw [← Lib.size_eq]; exact hge)) (by decide)
        have h2 := HR.out
        unfold Hid
        omega
      go_wp2_with fail
      go_ret
      exact ⟨ret_i64 (by rw [H.out]), rfl⟩
theorem piece_eq (s x : ByteArray) (i : Nat) (h : i + x.size ≤ s.size) : ((s.extract i (i + x.size)).toList == x.toList) = Lib.hasPrefix (s.data.toList.drop i) x.data.toList := by
  rw [← beq_toListBytes, Lib.piece_eq_occAt s x i h]
  rfl
theorem prefix_short {l p : List UInt8} (h : l.length < p.length) : Lib.hasPrefix l p = false := by
  cases hp : Lib.hasPrefix l p with
  | false => rfl
  | true => exact absurd (hasPrefix_len hp) (by omega)
set_option maxHeartbeats 400000 in
theorem begins_any (s x : ByteArray) (z : Int) (i : Nat) (b : Bool) (hs : s.size ≤ 100000) (hx : x.size ≤ 100000) (hz : z = i) (hi : i ≤ s.size) (hb : Lib.hasPrefix (s.data.toList.drop i) x.data.toList = b) (w : World) :
    Calls Tryz.prog 89 #[.string s, .int .i64 z, .string x] w fun e w' => e = .returned (.bool b) ∧ w = w' := by
  subst hz
  by_cases h : x.size ≤ s.size - i
  · have HE := Lib.hid ((piece_eq s x i (by omega)).trans hb)
    have h1 : (x.size : Int) ≤ (s.size : Int) - (i : Int) := by omega
    clear hb
    go_enter Tryz.func89, Tryz.ntmps89
    go_wp2
    go_ret
    exact ⟨ret_b HE.out, rfl⟩
  · have HE := Lib.hid (show false = b by rw [← hb, prefix_short (by rw [List.length_drop, ← Lib.size_eq, ← Lib.size_eq]; omega)])
    have h1 : (s.size : Int) - (i : Int) < (x.size : Int) := by omega
    clear hb
    go_enter Tryz.func89, Tryz.ntmps89
    go_wp2
    go_ret
    exact ⟨ret_b HE.out, rfl⟩
theorem two34 (L : List UInt8) (j : Nat) (h : nx L j = 34) : Lib.hasPrefix (L.drop j) [34, 34] = decide (nx L (j + 1) = 34) := by
  have h0 := lt_of_nx (L := L) (i := j) (by omega)
  rw [nx_get h0] at h
  have e34 : L[j] = 34 := by rw [← u8_eta L[j], h]; rfl
  rw [List.drop_eq_getElem_cons h0, e34]
  rcases Nat.lt_or_ge (j + 1) L.length with h1 | h1
  · rw [nx_get h1, List.drop_eq_getElem_cons h1]
    simp only [Lib.hasPrefix, List.isPrefixOf, beq_self_eq_true, Bool.true_and, Bool.and_true]
    by_cases h2 : L[j + 1].toNat = 34
    · have : L[j + 1] = 34 := by rw [← u8_eta L[j + 1], h2]; rfl
      simp [this]
    · have : ¬ (34 : UInt8) = L[j + 1] := by intro e; rw [← e] at h2; exact h2 (by decide)
      simp [h2, this]
  · rw [nx_end h1, List.drop_of_length_le h1]
    simp [Lib.hasPrefix, List.isPrefixOf]
end Go.Proofs.YtjklbbmgjjdalaaGreatDoor.Tks
namespace Go.Proofs.YtjklbbmgjjdalaaGreatDoor.Tks
open Go.RowKit
theorem cat2 (X Y : List UInt8) : (⟨X.toArray⟩ : ByteArray) ++ ⟨Y.toArray⟩ = ⟨(X ++ Y).toArray⟩ := by
  apply ByteArray.ext
  simp
theorem ext_one (s : ByteArray) (j : Nat) (h : j < s.size) : s.extract j (j + 1) = ⟨[UInt8.ofNat (nx s.data.toList j)].toArray⟩ := by
  have hl : j < s.data.toList.length := by rw [← Lib.size_eq]; exact h
  rw [nx_get hl, u8_eta]
  apply ByteArray.ext
  apply Array.ext'
  rw [ByteArray.data_extract, Array.toList_extract, List.extract_eq_take_drop, List.drop_eq_getElem_cons hl, show j + 1 - j = 1 by omega]
  rfl
theorem size_of (X : List UInt8) : (⟨X.toArray⟩ : ByteArray).size = X.length := by rw [Lib.size_eq]
def RetQR (R : Option (List UInt8 × Nat)) (W : World) (e : Ending) (w' : World) : Prop := W = w' ∧ (match R with | none => e = .returned (.tuple #[.string ⟨#[]⟩, .int .i64 0]) | some (t, m) => e = .returned (.tuple #[.string ⟨t.toArray⟩, .int .i64 ((1 + m : Nat) : Int)]))
theorem retqr_none {R : Option (List UInt8 × Nat)} {W : World} (h : R = none) : RetQR R W (.returned (.tuple #[.string ⟨#[]⟩, .int .i64 0])) W := by subst h; exact ⟨rfl, rfl⟩
theorem retqr_some {m : Nat} {z : Int} {t : List UInt8} {R : Option (List UInt8 × Nat)} {W : World} (h : R = some (t, m)) (hz : z = ((1 + m : Nat) : Int)) : RetQR R W (.returned (.tuple #[.string ⟨t.toArray⟩, .int .i64 z])) W := by subst h hz; exact ⟨rfl, rfl⟩
set_option maxRecDepth 100000 in
set_option maxHeartbeats 2000000 in
theorem refQuoted_any (s : ByteArray) (i : Nat) (R : Option (List UInt8 × Nat)) (hs : s.size ≤ 100000) (hi : i < s.size) (hR : quo (s.data.toList.drop (i + 1)) = R) (w : World) :
    Calls Tryz.prog 90 #[.string s, .int .i64 i] w (RetQR R w) := by
  have HR := Lib.hid hR
  clear hR
  go_enter Tryz.func90, Tryz.ntmps90
  go_wp2_with fail
  go_loop [6, 7] (fun t v => ∃ (j : Nat) (acc : List UInt8), v = .int .i64 j ∧ t = .string ⟨acc.toArray⟩ ∧ i + 1 ≤ j ∧ j ≤ s.size ∧ acc.length + i + 1 ≤ j ∧ qm acc (j - (i + 1)) (quo (s.data.toList.drop j)) = R) (fun _ v => s.size - (intOf v).toNat)
  case atStart => exact ⟨i + 1, [], by go_num, rfl, by omega, by omega, by simp, by rw [Nat.sub_self, qm_nil]; exact HR.out⟩
  case round =>
    obtain ⟨j, acc, rfl, rfl, hij, hjs, hal, hq⟩ := hrel
    have HQ := Lib.hid hq
    clear hq HR
    have hz1 : (⟨acc.toArray⟩ : ByteArray).size ≤ 100000 := by rw [size_of]; omega
    have HSZ := Lib.hid (size_of acc)
    rcases Nat.lt_or_ge j s.size with hlt | hge
    · obtain ⟨c, hc⟩ : ∃ c, nx s.data.toList j = c := ⟨_, rfl⟩
      have hb1 := nx_str s j hlt
      rw [hc] at hb1
      have hlt' : j < s.data.toList.length := by rw [← Lib.size_eq]; exact hlt
      by_cases h34 : c = 34
      · have e1 : (((s[j].toNat : Nat) : Int) == 34) = true := by rw [hb1, h34]; rfl
        have hp := two34 s.data.toList j (by omega)
        by_cases h2 : nx s.data.toList (j + 1) = 34
        · have hlt2 : j + 1 < s.size := by
            have := lt_of_nx (L := s.data.toList) (i := j + 1) (by omega)
            rw [← Lib.size_eq] at this
            exact this
          have HP : Hid (Lib.hasPrefix (s.data.toList.drop j) (⟨#[34, 34]⟩ : ByteArray).data.toList = true) := by unfold Hid; rw [show (⟨#[34, 34]⟩ : ByteArray).data.toList = [34, 34] from rfl, hp]; simp [h2]
          have HQ2 : Hid (qm (acc ++ [34]) (j + 1 + 1 - (i + 1)) (quo (s.data.toList.drop (j + 1 + 1))) = R) := by
            have h3 := quo_two s.data.toList j (by omega) h2
            have h4 := HQ.out
            rw [h3, qm_qm] at h4
            unfold Hid
            rw [show j + 1 + 1 - (i + 1) = 2 + (j - (i + 1)) by omega]
            exact h4
          have HCT := Lib.hid (cat2 acc [34])
          have hz2 : (⟨#[34]⟩ : ByteArray).size = 1 := rfl
          clear hc hb1 h34 hp h2
          go_wp2_with fail
          refine (begins_any s ⟨#[34, 34]⟩ _ j true hs (by show (2 : Nat) ≤ 100000; omega) rfl (by omega) HP.out _).mono ?_
          rintro e w1 ⟨rfl, rfl⟩
          go_wp2_with fail
          go_round
          case rel => exact ⟨j + 1 + 1, acc ++ [34], by go_num, by rw [← HCT.out], by omega, by omega, by simp; omega, HQ2.out⟩
          case measure => simp [intOf]; omega
        · have HP : Hid (Lib.hasPrefix (s.data.toList.drop j) (⟨#[34, 34]⟩ : ByteArray).data.toList = false) := by unfold Hid; rw [show (⟨#[34, 34]⟩ : ByteArray).data.toList = [34, 34] from rfl, hp]; simp [h2]
          have HRS : Hid (R = some (acc, 1 + (j - (i + 1)))) := by
            have h3 := quo_close s.data.toList j (by omega) h2
            have h4 := HQ.out
            rw [h3] at h4
            unfold Hid
            rw [← h4]
            simp [qm]
          clear hc hb1 h34 hp h2
          go_wp2_with fail
          refine (begins_any s ⟨#[34, 34]⟩ _ j false hs (by show (2 : Nat) ≤ 100000; omega) rfl (by omega) HP.out _).mono ?_
          rintro e w1 ⟨rfl, rfl⟩
          go_wp2_with fail
          go_ret2
          exact retqr_some HRS.out (by omega)
      · have e1 : (((s[j].toNat : Nat) : Int) == 34) = false := by rw [hb1]; simp; omega
        have HQ2 : Hid (qm (acc ++ [UInt8.ofNat c]) (j + 1 - (i + 1)) (quo (s.data.toList.drop (j + 1))) = R) := by
          have h3 := quo_other s.data.toList j hlt' (by omega)
          have h4 := HQ.out
          rw [h3, qm_qm, hc] at h4
          unfold Hid
          rw [show j + 1 - (i + 1) = 1 + (j - (i + 1)) by omega]
          exact h4
        have hx1 := ext_one s j hlt
        rw [hc] at hx1
        have HCT : Hid ((⟨acc.toArray⟩ : ByteArray) ++ s.extract j (j + 1) = ⟨(acc ++ [UInt8.ofNat c]).toArray⟩) := by unfold Hid; rw [hx1, cat2]
        have hz2 : (s.extract j (j + 1)).size = 1 := by rw [hx1]; rfl
        clear hc hb1 h34 hx1
        go_wp2_with fail
        go_round
        case rel => exact ⟨j + 1, acc ++ [UInt8.ofNat c], by go_num, by rw [← HCT.out], by omega, by omega, by simp; omega, HQ2.out⟩
        case measure => simp [intOf]; omega
    · have HRN : Hid (R = none) := by
        have h4 := HQ.out
        rw [quo_end _ _ (by rw [← Lib.size_eq]; exact hge)] at h4
        exact h4.symm
      go_wp2_with fail
      go_ret2
      exact retqr_none HRN.out
def sgB (k : Nat) : ByteArray := ⟨(sgs.getD k []).toArray⟩
theorem sg_at {k : Nat} (h : k < 15) : sgs.drop k = sgs.getD k [] :: sgs.drop (k + 1) := by
  have h' : k < sgs.length := h
  rw [List.drop_eq_getElem_cons h']
  simp [List.getD, h']
theorem sg_len (k : Nat) : (sgB k).size ≤ 2 := by
  unfold sgB
  rw [size_of]
  rcases Nat.lt_or_ge k 15 with h | h
  · match k, h with
    | 0, _ | 1, _ | 2, _ | 3, _ | 4, _ | 5, _ | 6, _ | 7, _ | 8, _ | 9, _ | 10, _ | 11, _ | 12, _ | 13, _ | 14, _ => decide
  · have : sgs[k]? = none := List.getElem?_eq_none h
    simp [List.getD, this]
end Go.Proofs.YtjklbbmgjjdalaaGreatDoor.Tks
namespace Go.Proofs.YtjklbbmgjjdalaaGreatDoor.Tks
open Go.RowKit
def TokV (R : Option (Int × List UInt8 × Nat)) (i base : Nat) (v : Value) : Prop := match R with
  | none => ∃ k t a, v = .tuple #[.agg #[.int .i64 k, .string t, .int .i64 a], .int .i64 0]
  | some (k, t, n) => v = .tuple #[.agg #[.int .i64 k, .string ⟨t.toArray⟩, .int .i64 i], .int .i64 ((base + n : Nat) : Int)]
def RetO (R : Option (Int × List UInt8 × Nat)) (i base : Nat) (W : World) (e : Ending) (w' : World) : Prop := Below W.heap.size W w' ∧ ∃ v, e = .returned v ∧ TokV R i base v
theorem reto_none {R : Option (Int × List UInt8 × Nat)} {i base : Nat} {W w' : World} {k a : Int} {t : ByteArray} (h : R = none) (hb : Below W.heap.size W w') : RetO R i base W (.returned (.tuple #[.agg #[.int .i64 k, .string t, .int .i64 a], .int .i64 0])) w' := by subst h; exact ⟨hb, _, rfl, k, t, a, rfl⟩
theorem reto_some {R : Option (Int × List UInt8 × Nat)} {i base n : Nat} {W w' : World} {k a z : Int} {t : ByteArray} {T : List UInt8} (h : R = some (k, T, n)) (ht : t = ⟨T.toArray⟩) (ha : a = i) (hz : z = ((base + n : Nat) : Int)) (hb : Below W.heap.size W w') : RetO R i base W (.returned (.tuple #[.agg #[.int .i64 k, .string t, .int .i64 a], .int .i64 z])) w' := by subst h ht ha hz; exact ⟨hb, _, rfl, rfl⟩
theorem ext_list (s : ByteArray) (i j n : Nat) (h : j = i + n) : s.extract i j = ⟨((s.data.toList.drop i).take n).toArray⟩ := by
  subst h
  apply ByteArray.ext
  apply Array.ext'
  rw [ByteArray.data_extract, Array.toList_extract, List.extract_eq_take_drop]
  simp
def qTok : Option (List UInt8 × Nat) → Option (Int × List UInt8 × Nat) | some (t, n) => some (2, t, n + 1) | none => none
end Go.Proofs.YtjklbbmgjjdalaaGreatDoor.Tks
namespace Go.Proofs.YtjklbbmgjjdalaaGreatDoor.Tks
open Go.RowKit
theorem one46 (L : List UInt8) (j : Nat) : Lib.hasPrefix (L.drop j) [46] = decide (nx L j = 46) := by
  rcases Nat.lt_or_ge j L.length with h1 | h1
  · rw [nx_get h1, List.drop_eq_getElem_cons h1]
    simp only [Lib.hasPrefix, List.isPrefixOf, Bool.and_true]
    by_cases h2 : L[j].toNat = 46
    · have : L[j] = 46 := by rw [← u8_eta L[j], h2]; rfl
      simp [this]
    · have : ¬ (46 : UInt8) = L[j] := by intro e; rw [← e] at h2; exact h2 (by decide)
      simp [h2, this]
  · rw [nx_end h1, List.drop_of_length_le h1]
    simp [Lib.hasPrefix, List.isPrefixOf]
theorem run_z (s : ByteArray) (z : Int) (i N : Nat) (hs : s.size ≤ 100000) (hi : i ≤ 100000) (hz : z = i) (hN : runN dgB s.data.toList i = N) (w : World) :
    Calls Tryz.prog 88 #[.string s, .int .i64 z, .bool false] w fun e w' => e = .returned (.int .i64 N) ∧ w = w' := by subst hz; exact run_dg s i N hs hi hN w
theorem run_0 (s : ByteArray) (i : Nat) (hs : s.size ≤ 100000) (hi : i ≤ 100000) (hN : runN dgB s.data.toList i = 0) (w : World) :
    Calls Tryz.prog 88 #[.string s, .int .i64 i, .bool false] w fun e w' => e = .returned (.int .i64 0) ∧ w = w' := run_dg s i 0 hs hi hN w
theorem run_n0 (s : ByteArray) (i : Nat) (hs : s.size ≤ 100000) (hi : i ≤ 100000) (hN : runN nmB s.data.toList i = 0) (w : World) :
    Calls Tryz.prog 88 #[.string s, .int .i64 i, .bool true] w fun e w' => e = .returned (.int .i64 0) ∧ w = w' := run_nm s i 0 hs hi hN w
set_option maxRecDepth 100000 in
set_option maxHeartbeats 2000000 in
theorem rone_digit (s : ByteArray) (i : Nat) (hs : s.size ≤ 100000) (hi : i < s.size) (c : Nat) (hc : nx s.data.toList i = c) (hd : dgB c = true) (w : World) :
    Calls Tryz.prog 69 #[.string s, .int .i64 i] w (RetO (tok s.data.toList i) i 0 w) := by
  have hb1 := nx_str s i hi
  rw [hc] at hb1
  obtain ⟨n, hn⟩ : ∃ n, runN dgB s.data.toList i = n := ⟨_, rfl⟩
  have hn1 : 1 ≤ n := by have := run_yes (p := dgB) (by decide) hc hd; omega
  have hnl : n ≤ s.size - i := by have := run_le dgB s.data.toList i; rw [hn, ← Lib.size_eq] at this; exact this
  have HRN := Lib.hid (fun W => run_z s i i n hs (by omega) rfl hn W)
  have HB := Lib.hid hb1
  have hpt := one46 s.data.toList (i + n)
  have hpos : (0 : Int) < (n : Int) := by omega
  by_cases h46 : nx s.data.toList (i + n) = 46
  · have HP : Hid (Lib.hasPrefix (s.data.toList.drop (i + n)) (⟨#[46]⟩ : ByteArray).data.toList = true) := by unfold Hid; rw [show (⟨#[46]⟩ : ByteArray).data.toList = [46] from rfl, hpt]; simp [h46]
    have hin : i + n < s.size := by
      have := lt_of_nx (L := s.data.toList) (i := i + n) (by omega)
      rw [← Lib.size_eq] at this
      exact this
    obtain ⟨m, hm⟩ : ∃ m, runN dgB s.data.toList (i + n + 1) = m := ⟨_, rfl⟩
    have hml : m ≤ s.size - (i + n + 1) := by have := run_le dgB s.data.toList (i + n + 1); rw [hm, ← Lib.size_eq] at this; exact this
    have HRM := Lib.hid (fun W => run_z s (((i : Int) + (n : Int)) + 1) (i + n + 1) m hs (by omega) (by omega) hm W)
    by_cases hm0 : m = 0
    · have HT : Hid (tok s.data.toList i = none) := by
        unfold Hid tok
        rw [hc, if_pos hd, if_pos]
        unfold numN
        rw [hn, if_pos h46, hm, if_pos hm0]
      subst hm0
      clear hc hd hn hpt h46 hm
      go_enter Tryz.func69, Tryz.ntmps69
      go_wp2_with fail
      refine (HRN.out _).mono ?_
      rintro e w1 ⟨rfl, rfl⟩
      go_wp2_with fail
      refine (begins_any s ⟨#[46]⟩ _ (i + n) true hs (by show (1 : Nat) ≤ 100000; omega) (by omega) (by omega) HP.out _).mono ?_
      rintro e w1 ⟨rfl, rfl⟩
      go_wp2_with fail
      refine (HRM.out _).mono ?_
      rintro e w1 ⟨rfl, rfl⟩
      go_wp2_with fail
      refine bodyPost_ret (v := .tuple #[.agg #[.int .i64 0, .string ⟨#[]⟩, .int .i64 0], .int .i64 0]) (by simp [results, Tryz.results69, go_sem]) rfl (reto_none HT.out ((Below.refl _ _).alloc (Nat.le_refl _) _))
    · have HNM : Hid (numN s.data.toList i = n + 1 + m) := by unfold Hid numN; rw [hn, if_pos h46, hm, if_neg hm0]
      have HT : Hid (tok s.data.toList i = some (1, (s.data.toList.drop i).take (n + 1 + m), n + 1 + m)) := by
        unfold Hid tok
        rw [hc, if_pos hd, HNM.out, if_neg (by omega)]
      have hm0' : (((m : Nat) : Int) == 0) = false := by simp; omega
      have HX := Lib.hid (ext_list s i (i + n + 1 + m) (n + 1 + m) (by omega))
      clear hc hd hn hpt h46 hm hm0 HNM
      go_enter Tryz.func69, Tryz.ntmps69
      go_wp2_with fail
      refine (HRN.out _).mono ?_
      rintro e w1 ⟨rfl, rfl⟩
      go_wp2_with fail
      refine (begins_any s ⟨#[46]⟩ _ (i + n) true hs (by show (1 : Nat) ≤ 100000; omega) (by omega) (by omega) HP.out _).mono ?_
      rintro e w1 ⟨rfl, rfl⟩
      go_wp2_with fail
      refine (HRM.out _).mono ?_
      rintro e w1 ⟨rfl, rfl⟩
      go_wp2_with fail
      refine bodyPost_ret (v := .tuple #[.agg #[.int .i64 1, .string (s.extract i (i + n + 1 + m)), .int .i64 i], .int .i64 ((n : Int) + 1 + (m : Int))]) (by simp [results, Tryz.results69, go_sem]) rfl (reto_some HT.out HX.out rfl (by omega) ((Below.refl _ _).alloc (Nat.le_refl _) _))
  · have HP : Hid (Lib.hasPrefix (s.data.toList.drop (i + n)) (⟨#[46]⟩ : ByteArray).data.toList = false) := by unfold Hid; rw [show (⟨#[46]⟩ : ByteArray).data.toList = [46] from rfl, hpt]; simp [h46]
    have HT : Hid (tok s.data.toList i = some (1, (s.data.toList.drop i).take n, n)) := by
      unfold Hid tok
      have e : numN s.data.toList i = n := by unfold numN; rw [hn, if_neg h46]
      rw [hc, if_pos hd, e, if_neg (by omega)]
    have HX := Lib.hid (ext_list s i (i + n) n rfl)
    clear hc hd hn hpt h46
    go_enter Tryz.func69, Tryz.ntmps69
    go_wp2_with fail
    refine (HRN.out _).mono ?_
    rintro e w1 ⟨rfl, rfl⟩
    go_wp2_with fail
    refine (begins_any s ⟨#[46]⟩ _ (i + n) false hs (by show (1 : Nat) ≤ 100000; omega) (by omega) (by omega) HP.out _).mono ?_
    rintro e w1 ⟨rfl, rfl⟩
    go_wp2_with fail
    refine bodyPost_ret (v := .tuple #[.agg #[.int .i64 1, .string (s.extract i (i + n)), .int .i64 i], .int .i64 n]) (by simp [results, Tryz.results69, go_sem]) rfl (reto_some HT.out HX.out rfl (by omega) ((Below.refl _ _).alloc (Nat.le_refl _) _))
set_option maxRecDepth 100000 in
set_option maxHeartbeats 2000000 in
theorem rone_letter (s : ByteArray) (i : Nat) (hs : s.size ≤ 100000) (hi : i < s.size) (c : Nat) (hc : nx s.data.toList i = c) (hd : dgB c = false) (hu : upB c = true) (w : World) :
    Calls Tryz.prog 69 #[.string s, .int .i64 i] w (RetO (tok s.data.toList i) i 0 w) := by
  have hb1 := nx_str s i hi
  rw [hc] at hb1
  have HR0 := Lib.hid (fun W => run_0 s i hs (by omega) (run_no (p := dgB) (by decide) hc hd) W)
  obtain ⟨n, hn⟩ : ∃ n, runN nmB s.data.toList i = n := ⟨_, rfl⟩
  have hn1 : 1 ≤ n := by have := run_yes (p := nmB) (by decide) hc (by simp [nmB, hu]); omega
  have hnl : n ≤ s.size - i := by have := run_le nmB s.data.toList i; rw [hn, ← Lib.size_eq] at this; exact this
  have HRN := Lib.hid (fun W => run_nm s i n hs (by omega) hn W)
  have HT : Hid (tok s.data.toList i = some (3, (s.data.toList.drop i).take n, n)) := by unfold Hid tok; rw [hc, if_neg (by simp [hd]), if_pos hu, hn]
  have HX := Lib.hid (ext_list s i (i + n) n rfl)
  have HB := Lib.hid hb1
  have hpos : (0 : Int) < (n : Int) := by omega
  clear hc hd hu hn
  go_enter Tryz.func69, Tryz.ntmps69
  go_wp2_with fail
  refine (HR0.out _).mono ?_
  rintro e w1 ⟨rfl, rfl⟩
  go_wp2_with fail
  refine (HRN.out _).mono ?_
  rintro e w1 ⟨rfl, rfl⟩
  go_wp2_with fail
  refine bodyPost_ret (v := .tuple #[.agg #[.int .i64 3, .string (s.extract i (i + n)), .int .i64 i], .int .i64 n]) (by simp [results, Tryz.results69, go_sem]) rfl (reto_some HT.out HX.out rfl (by omega) ((Below.refl _ _).alloc (Nat.le_refl _) _))
set_option maxRecDepth 100000 in
set_option maxHeartbeats 2000000 in
theorem rone_quote (s : ByteArray) (i : Nat) (hs : s.size ≤ 100000) (hi : i < s.size) (c : Nat) (hc : nx s.data.toList i = c) (hq : c = 34) (w : World) :
    Calls Tryz.prog 69 #[.string s, .int .i64 i] w (RetO (tok s.data.toList i) i 0 w) := by
  have hb1 := nx_str s i hi
  rw [hc] at hb1
  have hd : dgB c = false := by rw [hq]; decide
  have hu : upB c = false := by rw [hq]; decide
  have HR0 := Lib.hid (fun W => run_0 s i hs (by omega) (run_no (p := dgB) (by decide) hc hd) W)
  have HR1 := Lib.hid (fun W => run_n0 s i hs (by omega) (run_no (p := nmB) (by decide) hc (by simp [nmB, hd, hu])) W)
  have e34 : (((s[i].toNat : Nat) : Int) == 34) = true := by rw [hb1, hq]; rfl
  obtain ⟨R, hR⟩ : ∃ R, quo (s.data.toList.drop (i + 1)) = R := ⟨_, rfl⟩
  have HQ := Lib.hid (fun W => refQuoted_any s i R hs hi hR W)
  have HT : Hid (tok s.data.toList i = qTok R) := by unfold Hid tok; rw [hc, if_neg (by simp [hd]), if_neg (by simp [hu]), if_pos hq, ← hR]; rfl
  clear hc hd hu hq hR hb1
  cases R with
  | none =>
    go_enter Tryz.func69, Tryz.ntmps69
    go_wp2_with fail
    refine (HR0.out _).mono ?_
    rintro e w1 ⟨rfl, rfl⟩
    go_wp2_with fail
    refine (HR1.out _).mono ?_
    rintro e w1 ⟨rfl, rfl⟩
    go_wp2_with fail
    refine (HQ.out _).mono ?_
    rintro e w1 ⟨rfl, he⟩
    have he : e = .returned (.tuple #[.string ⟨#[]⟩, .int .i64 0]) := he
    subst he
    go_wp2_with fail
    refine bodyPost_ret (v := .tuple #[.agg #[.int .i64 2, .string ⟨#[]⟩, .int .i64 i], .int .i64 0]) (by simp [results, Tryz.results69, go_sem]) rfl (reto_none HT.out ((Below.refl _ _).alloc (Nat.le_refl _) _))
  | some x =>
    obtain ⟨T, m⟩ := x
    go_enter Tryz.func69, Tryz.ntmps69
    go_wp2_with fail
    refine (HR0.out _).mono ?_
    rintro e w1 ⟨rfl, rfl⟩
    go_wp2_with fail
    refine (HR1.out _).mono ?_
    rintro e w1 ⟨rfl, rfl⟩
    go_wp2_with fail
    refine (HQ.out _).mono ?_
    rintro e w1 ⟨rfl, he⟩
    have he : e = .returned (.tuple #[.string ⟨T.toArray⟩, .int .i64 ((1 + m : Nat) : Int)]) := he
    subst he
    go_wp2_with fail
    refine bodyPost_ret (v := .tuple #[.agg #[.int .i64 2, .string ⟨T.toArray⟩, .int .i64 i], .int .i64 ((1 + m : Nat) : Int)]) (by simp [results, Tryz.results69, go_sem]) rfl (reto_some HT.out rfl rfl (by omega) ((Below.refl _ _).alloc (Nat.le_refl _) _))
set_option maxRecDepth 100000 in
set_option maxHeartbeats 2000000 in
theorem rone_ref (s : ByteArray) (i : Nat) (hs : s.size ≤ 100000) (hi : i < s.size) (c : Nat) (hc : nx s.data.toList i = c) (hd : dgB c = false) (hu : upB c = false) (hq : c ≠ 34) (hp : Lib.hasPrefix (s.data.toList.drop i) sREF = true) (w : World) :
    Calls Tryz.prog 69 #[.string s, .int .i64 i] w (RetO (tok s.data.toList i) i 0 w) := by
  have hb1 := nx_str s i hi
  rw [hc] at hb1
  have HR0 := Lib.hid (fun W => run_0 s i hs (by omega) (run_no (p := dgB) (by decide) hc hd) W)
  have HR1 := Lib.hid (fun W => run_n0 s i hs (by omega) (run_no (p := nmB) (by decide) hc (by simp [nmB, hd, hu])) W)
  have e34 : (((s[i].toNat : Nat) : Int) == 34) = false := by rw [hb1]; simp; omega
  have HP : Hid (Lib.hasPrefix (s.data.toList.drop i) (⟨#[35, 82, 69, 70, 33]⟩ : ByteArray).data.toList = true) := hp
  have HT : Hid (tok s.data.toList i = some (5, sREF, 5)) := by unfold Hid tok; rw [hc, if_neg (by simp [hd]), if_neg (by simp [hu]), if_neg hq, if_pos hp]
  clear hc hd hu hq hp hb1
  go_enter Tryz.func69, Tryz.ntmps69
  go_wp2_with fail
  refine (HR0.out _).mono ?_
  rintro e w1 ⟨rfl, rfl⟩
  go_wp2_with fail
  refine (HR1.out _).mono ?_
  rintro e w1 ⟨rfl, rfl⟩
  go_wp2_with fail
  refine (begins_any s ⟨#[35, 82, 69, 70, 33]⟩ _ i true hs (by show (5 : Nat) ≤ 100000; omega) rfl (by omega) HP.out _).mono ?_
  rintro e w1 ⟨rfl, rfl⟩
  go_wp2_with fail
  refine bodyPost_ret (v := .tuple #[.agg #[.int .i64 5, .string ⟨#[35, 82, 69, 70, 33]⟩, .int .i64 i], .int .i64 5]) (by simp [results, Tryz.results69, go_sem]) rfl (reto_some HT.out rfl rfl (by omega) ((Below.refl _ _).alloc (Nat.le_refl _) _))
theorem sg_ne : ∀ k, k < 15 → sgs.getD k [] ≠ [] := by decide
theorem cells3f {w : World} {b : Nat} {a0 a1 a2 : Value} {t : TypeId} (h : w.heap[b]? = some (.cells #[a0, a1, a2] t (0, 0))) : w.cell? ⟨b, 0, none⟩ = some a0 ∧ w.cell? ⟨b, 1, none⟩ = some a1 ∧ w.cell? ⟨b, 2, none⟩ = some a2 ∧ ∀ k, w.frozen? ⟨b, k, none⟩ = false := by
  refine ⟨?_, ?_, ?_, fun k => ?_⟩
  all_goals simp [World.cell?, World.frozen?, h]
set_option maxRecDepth 100000 in
set_option maxHeartbeats 1000000 in
theorem signs_any (w : World) : Calls Tryz.prog 91 #[] w fun e w' => e = .returned (.slice (some ⟨w.heap.size, 0, none⟩) 15 15) ∧ Below w.heap.size w w' ∧ w'.heap.size = w.heap.size + 1 ∧ ∀ k, k < 15 → w'.cell? ⟨w.heap.size, k, none⟩ = some (.string (sgB k)) := by
  go_enter Tryz.func91, Tryz.ntmps91
  go_wp2_with fail
  go_ret
  refine ⟨rfl, (Below.refl _ _).alloc (Nat.le_refl _) _, by simp, fun k hk => ?_⟩
  simp only [World.cell?, heap_alloc_new]
  match k, hk with
  | 0, _ | 1, _ | 2, _ | 3, _ | 4, _ | 5, _ | 6, _ | 7, _ | 8, _ | 9, _ | 10, _ | 11, _ | 12, _ | 13, _ | 14, _ => rfl
set_option maxRecDepth 100000 in
set_option maxHeartbeats 2000000 in
theorem rone_sign (s : ByteArray) (i : Nat) (hs : s.size ≤ 100000) (hi : i < s.size) (c : Nat) (hc : nx s.data.toList i = c) (hd : dgB c = false) (hu : upB c = false) (hq : c ≠ 34) (hp : Lib.hasPrefix (s.data.toList.drop i) sREF = false) (w : World) :
    Calls Tryz.prog 69 #[.string s, .int .i64 i] w (RetO (tok s.data.toList i) i 0 w) := by
  have hb1 := nx_str s i hi
  rw [hc] at hb1
  have HR0 := Lib.hid (fun W => run_0 s i hs (by omega) (run_no (p := dgB) (by decide) hc hd) W)
  have HR1 := Lib.hid (fun W => run_n0 s i hs (by omega) (run_no (p := nmB) (by decide) hc (by simp [nmB, hd, hu])) W)
  have e34 : (((s[i].toNat : Nat) : Int) == 34) = false := by rw [hb1]; simp; omega
  have HP : Hid (Lib.hasPrefix (s.data.toList.drop i) (⟨#[35, 82, 69, 70, 33]⟩ : ByteArray).data.toList = false) := hp
  obtain ⟨R, hR⟩ : ∃ R, sgn (s.data.toList.drop i) = R := ⟨_, rfl⟩
  have HT : Hid (tok s.data.toList i = if R = [] then none else some (4, R, R.length)) := by unfold Hid tok; rw [hc, if_neg (by simp [hd]), if_neg (by simp [hu]), if_neg hq, if_neg (by simp [hp]), hR]
  have HR := Lib.hid hR
  clear hc hd hu hq hp hR hb1
  go_enter Tryz.func69, Tryz.ntmps69
  go_wp2_with fail
  refine (HR0.out _).mono ?_
  rintro e w1 ⟨rfl, rfl⟩
  go_wp2_with fail
  refine (HR1.out _).mono ?_
  rintro e w1 ⟨rfl, rfl⟩
  go_wp2_with fail
  refine (begins_any s ⟨#[35, 82, 69, 70, 33]⟩ _ i false hs (by show (5 : Nat) ≤ 100000; omega) rfl (by omega) HP.out _).mono ?_
  rintro e w1 ⟨rfl, rfl⟩
  go_wp2_with fail
  refine (signs_any _).mono ?_
  rintro e w1 ⟨rfl, hb, hz, hcl⟩
  have HBL := Lib.hid hb
  have HCL := Lib.hid hcl
  have hbx := (hb.block w.heap.size (by simp)).trans (heap_alloc_new w _)
  obtain ⟨hc0, hc1, hc2, hf0⟩ := cells3f hbx
  have hbl : Below w.heap.size w w1 := by (repeat' (first | (with_reducible exact Below.refl _ _) | (with_reducible assumption) | (with_reducible refine Below.alloc ?_ ?_ _) | (with_reducible refine bel_drewN ?_ _) | (with_reducible refine Below.drew ?_) | (with_reducible refine Below.setCell ?_ ?_ _) | (with_reducible refine bel_call ‹_› ?_ ?_) | go_size))
  have HB0 := Lib.hid hbl
  simp only [World.size_alloc] at hz hcl HCL
  clear hb hcl hbl hbx
  go_wp2_with fail
  go_loop [11] (fun v => ∃ k : Nat, v = .int .i64 k ∧ k ≤ 15 ∧ ((sgs.drop k).find? fun x => Lib.hasPrefix (s.data.toList.drop i) x).getD [] = R) (fun v => 15 - (intOf v).toNat)
  case atStart => exact ⟨0, rfl, by omega, HR.out⟩
  case round =>
    obtain ⟨k, rfl, hk, hq⟩ := hrel
    have HQ := Lib.hid hq
    clear hq HR
    rcases Nat.lt_or_ge k 15 with hlt | hge
    · have hck := HCL.out k hlt
      obtain ⟨b, hb⟩ : ∃ b, Lib.hasPrefix (s.data.toList.drop i) (sgB k).data.toList = b := ⟨_, rfl⟩
      have hsg := sg_len k
      have HPRE := Lib.hid (fun W => begins_any s (sgB k) i i b hs (by omega) rfl (by omega) hb W)
      have hq2 := HQ.out
      have hbb : Lib.hasPrefix (s.data.toList.drop i) (sgs.getD k []) = b := hb
      rw [sg_at hlt, List.find?_cons, hbb] at hq2
      cases b with
      | true =>
        have HE : Hid (sgB k = ⟨R.toArray⟩) := by rw [← hq2]; rfl
        have HE2 : Hid ((sgB k).size = R.length) := by rw [HE.out, size_of]; rfl
        have HT2 : Hid (tok s.data.toList i = some (4, R, R.length)) := by
          have h1 := HT.out
          have h2 : R ≠ [] := by
            rw [← hq2]
            exact sg_ne k hlt
          rw [if_neg h2] at h1
          exact h1
        clear hq2 hb hbb
        go_wp2_with fail
        refine (HPRE.out _).mono ?_
        rintro e w2 ⟨rfl, rfl⟩
        go_wp2_with fail
        go_region
        all_goals
          go_wp2_with fail
          refine bodyPost_ret (v := .tuple #[.agg #[.int .i64 4, .string (sgB k), .int .i64 i], .int .i64 (sgB k).size]) (by simp [results, Tryz.results69, go_sem, hc0, hc1, hc2, hz, hf0]) rfl (reto_some HT2.out HE.out rfl (by rw [HE2.out]; omega) (((HB0.out.setCell (Nat.le_refl _) _).setCell (Nat.le_refl _) _).setCell (Nat.le_refl _) _).drew)
      | false =>
        have HE := Lib.hid hq2
        clear hq2 hb hbb
        go_wp2_with fail
        refine (HPRE.out _).mono ?_
        rintro e w2 ⟨rfl, rfl⟩
        go_wp2_with fail
        go_round
        case rel => exact ⟨k + 1, by go_num, by omega, HE.out⟩
        case measure => simp [intOf]; omega
    · have HE : Hid (tok s.data.toList i = none) := by
        obtain rfl : k = 15 := by omega
        have h : [] = R := HQ.out
        have h1 := HT.out
        rw [if_pos h.symm] at h1
        exact h1
      go_wp2_with fail
      refine bodyPost_ret (v := .tuple #[.agg #[.int .i64 0, .string ⟨#[]⟩, .int .i64 0], .int .i64 0]) (by simp [results, Tryz.results69, go_sem, hc0, hc1, hc2, hz, hf0]) rfl (reto_none HE.out (((HB0.out.setCell (Nat.le_refl _) _).setCell (Nat.le_refl _) _).setCell (Nat.le_refl _) _))
theorem refOne_any (s : ByteArray) (i : Nat) (hs : s.size ≤ 100000) (hi : i < s.size) (w : World) :
    Calls Tryz.prog 69 #[.string s, .int .i64 i] w (RetO (tok s.data.toList i) i 0 w) := by
  obtain ⟨c, hc⟩ : ∃ c, nx s.data.toList i = c := ⟨_, rfl⟩
  cases hd : dgB c with
  | true => exact rone_digit s i hs hi c hc hd w
  | false =>
    cases hu : upB c with
    | true => exact rone_letter s i hs hi c hc hd hu w
    | false =>
      by_cases hq : c = 34
      · exact rone_quote s i hs hi c hc hq w
      · cases hp : Lib.hasPrefix (s.data.toList.drop i) sREF with
        | true => exact rone_ref s i hs hi c hc hd hu hq hp w
        | false => exact rone_sign s i hs hi c hc hd hu hq hp w
end Go.Proofs.YtjklbbmgjjdalaaGreatDoor.Tks
namespace Go.Proofs.YtjklbbmgjjdalaaGreatDoor.Tks
open Go.RowKit
abbrev tRk : TypeId := 136
def tkc (x : Tk) : List Value := [.int .i64 x.1, .string ⟨x.2.1.toArray⟩, .int .i64 (x.2.2 : Int)]
theorem info_rk : (Tryz.prog.info? 136).map (fun i => (i.zero, i.size, i.bytes)) = some (some (.agg #[.int .i64 0, .string ⟨#[]⟩, .int .i64 0]), 3, 32) := by kernel_rfl
theorem news3 (w : World) (a b c : Value) (t : TypeId) : ∀ j u, [a, b, c][j]? = some u → (w.alloc (.cells #[a, b, c] t)).cell? ((⟨w.heap.size, 0, none⟩ : Addr).add j) = some u := by
  intro j u hj
  match j, hj with
  | 0, hj => simp at hj; subst hj; simp [Addr.add]
  | 1, hj => simp at hj; subst hj; simp [Addr.add]
  | 2, hj => simp at hj; subst hj; simp [Addr.add]
theorem one3 (x : Tk) : ∀ u ∈ tkc x, u.oneCell' = true := by
  intro u hu
  simp only [tkc, List.mem_cons, List.not_mem_nil, or_false] at hu
  rcases hu with rfl | rfl | rfl
  all_goals rfl
theorem tk_snoc (Ts : List Tk) (q : Tk) : (Ts ++ [q]).flatMap tkc = Ts.flatMap tkc ++ tkc q := by rw [List.flatMap_append]; simp [List.flatMap_cons]
theorem tk_at (Ts : List Tk) : ∀ (i : Nat) (x : Tk), Ts[i]? = some x → ∀ k, k < 3 → (Ts.flatMap tkc)[i * 3 + k]? = (tkc x)[k]? := by
  induction Ts with
  | nil => intro i x hx; simp at hx
  | cons q Ts ih =>
    intro i x hx k hk
    have hc : (tkc q).length = 3 := rfl
    cases i with
    | zero =>
      simp only [List.getElem?_cons_zero, Option.some.injEq] at hx
      subst hx
      rw [List.flatMap_cons, List.getElem?_append_left (by rw [hc]; omega)]
      congr 1
      omega
    | succ i =>
      rw [List.getElem?_cons_succ] at hx
      rw [List.flatMap_cons, List.getElem?_append_right (by rw [hc]; omega), hc]
      have := ih i x hx k hk
      rw [← this]
      congr 1
      omega
def RdT (w : World) (p : Option Addr) (n cap : Nat) (Ts : List Tk) : Prop :=
  Ts.length = n ∧ n ≤ cap ∧ cap ≤ maxLen ∧
  ((p = none ∧ n = 0 ∧ cap = 0) ∨ ∃ b, p = some ⟨b, 0, none⟩ ∧ b < w.heap.size ∧ ∀ (j : Nat) (x : Tk), Ts[j]? = some x → w.cell? ⟨b, j * 3, none⟩ = some (.int .i64 x.1) ∧ w.cell? ⟨b, j * 3 + 1, none⟩ = some (.string ⟨x.2.1.toArray⟩) ∧ w.cell? ⟨b, j * 3 + 2, none⟩ = some (.int .i64 (x.2.2 : Int)))
theorem RdT.nil (w : World) : RdT w none 0 0 [] := ⟨rfl, Nat.le_refl _, Nat.zero_le _, .inl ⟨rfl, rfl, rfl⟩⟩
theorem RdT.below {w w' : World} {p : Option Addr} {n cap : Nat} {Ts : List Tk} (h : RdT w p n cap Ts) (hb : Below w.heap.size w w') : RdT w' p n cap Ts := by
  obtain ⟨h1, h2, h3, h4⟩ := h
  refine ⟨h1, h2, h3, ?_⟩
  rcases h4 with h4 | ⟨b, h5, h6, h7⟩
  · exact .inl h4
  · refine .inr ⟨b, h5, Nat.lt_of_lt_of_le h6 hb.size, fun j x hx => ?_⟩
    obtain ⟨k1, k2, k3⟩ := h7 j x hx
    exact ⟨(hb.cell (p := ⟨b, j * 3, none⟩) h6).trans k1, (hb.cell (p := ⟨b, j * 3 + 1, none⟩) h6).trans k2, (hb.cell (p := ⟨b, j * 3 + 2, none⟩) h6).trans k3⟩
theorem RdT.of_own {w : World} {base : Nat} {e : TypeId} {v : Value} {Ts : List Tk} (h : w.ownsRow base e 3 v Ts.length (Ts.flatMap tkc)) : ∃ p cap, v = .slice p Ts.length cap ∧ RdT w p Ts.length cap Ts := by
  obtain ⟨hl, ⟨hv, h0⟩ | ⟨r, cap, cur, rfl, hg, hh, hn', hm, hs, ht⟩⟩ := h
  · have : Ts = [] := List.eq_nil_of_length_eq_zero h0
    subst this
    exact ⟨none, 0, hv, RdT.nil w⟩
  · refine ⟨some ⟨r, 0, none⟩, cap, rfl, rfl, hn', hm, .inr ⟨r, rfl, ?_, fun j x hx => ?_⟩⟩
    · rcases Nat.lt_or_ge r w.heap.size with h' | h'
      · exact h'
      · rw [Array.getElem?_eq_none h'] at hh; cases hh
    · have hj := (List.getElem?_eq_some_iff.1 hx).1
      have key : ∀ k u, k < 3 → (tkc x)[k]? = some u → w.cell? ⟨r, j * 3 + k, none⟩ = some u := by
        intro k u hk hu
        rw [← tk_at Ts j x hx k hk, ← ht, List.getElem?_take, if_pos (by omega)] at hu
        simp only [World.cell?, hh]
        simpa using hu
      exact ⟨key 0 _ (by omega) rfl, key 1 _ (by omega) rfl, key 2 _ (by omega) rfl⟩
theorem own_below {w w' : World} {base e size n : Nat} {v : Value} {xs : List Value} (h : w.ownsRow base e size v n xs) (hb : Below w.heap.size w w') : w'.ownsRow base e size v n xs := by
  obtain ⟨h1, h2⟩ := h
  refine ⟨h1, ?_⟩
  rcases h2 with h2 | ⟨g, cap, cur, hv, hg, hh, r⟩
  · exact .inl h2
  · refine .inr ⟨g, cap, cur, hv, hg, ?_, r⟩
    rw [hb.block g (by
      rcases Nat.lt_or_ge g w.heap.size with h' | h'
      · exact h'
      · rw [Array.getElem?_eq_none h'] at hh; cases hh)]
    exact hh
def sm (p : List Tk) : Option (List Tk) × Nat → Option (List Tk) × Nat
  | (some r, x) => (some (p ++ r), x)
  | (none, x) => (none, x)
theorem sm_nil (x : Option (List Tk) × Nat) : sm [] x = x := by
  obtain ⟨o, y⟩ := x
  cases o <;> rfl
theorem sm_sm (p q : List Tk) (x : Option (List Tk) × Nat) : sm p (sm q x) = sm (p ++ q) x := by
  obtain ⟨o, y⟩ := x
  cases o <;> simp [sm]
theorem spl_blank (L : List UInt8) (i : Nat) (h : nx L i = 32) : spl L i = spl L (i + 1) := by
  rw [spl_step L i (lt_of_nx (by omega)), if_pos h]
theorem spl_none (L : List UInt8) (i : Nat) (hi : i < L.length) (h : nx L i ≠ 32) (ht : tok L i = none) : spl L i = (none, i) := by
  rw [spl_step L i hi, if_neg h, ht]
theorem spl_some (L : List UInt8) (i : Nat) (hi : i < L.length) (h : nx L i ≠ 32) {k : Int} {t : List UInt8} {n : Nat} (ht : tok L i = some (k, t, n)) : spl L i = sm [(k, t, i)] (spl L (i + n)) := by
  rw [spl_step L i hi, if_neg h, ht]
  simp only []
  cases hs : spl L (i + n) with
  | mk o y => cases o <;> rfl
def RetS (ok er : Value) (R : Option (List Tk) × Nat) (W : World) (e : Ending) (w' : World) : Prop := Below W.heap.size W w' ∧ match R with
  | (some Ts, _) => ∃ p cap, e = .returned (.tuple #[.slice p Ts.length cap, .int .i64 0, ok]) ∧ RdT w' p Ts.length cap Ts
  | (none, x) => e = .returned (.tuple #[.slice none 0 0, .int .i64 (x : Int), er])
theorem rets_some {ok er : Value} {R : Option (List Tk) × Nat} {W w' : World} {Ts : List Tk} {x : Nat} {v : Value} {e : TypeId} {base : Nat} (h : R = (some Ts, x)) (hown : w'.ownsRow base e 3 v Ts.length (Ts.flatMap tkc)) (hb : Below W.heap.size W w') : RetS ok er R W (.returned (.tuple #[v, .int .i64 0, ok])) w' := by
  subst h
  obtain ⟨p, cap, rfl, hr⟩ := RdT.of_own hown
  exact ⟨hb, p, cap, rfl, hr⟩
theorem rets_none {ok er : Value} {R : Option (List Tk) × Nat} {W w' : World} {x : Nat} (h : R = (none, x)) (hb : Below W.heap.size W w') : RetS ok er R W (.returned (.tuple #[.slice none 0 0, .int .i64 (x : Int), er])) w' := by
  subst h
  exact ⟨hb, rfl⟩
end Go.Proofs.YtjklbbmgjjdalaaGreatDoor.Tks
