/- Trees: the document's Level; names of functions. -/
import Derived.Test.YtljloggbfmnjmaaDoorTreB
set_option linter.unusedSimpArgs false
set_option linter.unusedVariables false

namespace Go.Proofs.YtljloggbfmnjmaaDoor
open Go.RowKit Go.Joins

set_option maxRecDepth 100000 in
set_option maxHeartbeats 4000000 in
theorem rlevel_any (s : ByteArray) (w : World) : Calls Tryd.prog 49 #[.string s] w fun e w' => e = .returned (.int .i64 (lvS s.data.toList)) ∧ Below w.heap.size w w' := by
  have HSG := Lib.hid (fun k W => rsigns_any k W)
  have HLE := Lib.hid sgS_len
  have HTO : Hid (s.toList = s.data.toList) := by
    unfold Hid
    conv => lhs; rw [show s = ⟨(s.data.toList).toArray⟩ from by simp]
    rw [Lib.toList_data]
  generalize s.data.toList = L at HTO ⊢
  obtain ⟨O, hO⟩ : ∃ O, lvS L = O := ⟨_, rfl⟩
  have HO := Lib.hid hO
  rw [hO]
  clear hO
  go_enter Tryd.func49, Tryd.ntmps49
  go_wp2_with fail
  go_loopg [3] 4 (fun g v3 wr => ∃ k : Nat, k + g = 5 ∧ 1 ≤ k ∧ v3 = .int .i64 (k : Int) ∧ (∀ j : Nat, 1 ≤ j → j < k → L ∉ sgS (j : Int)) ∧ Below w.heap.size w wr)
  case atStart => exact ⟨1, by omega, by omega, rfl, fun j h1 h2 => by omega, Below.refl _ _⟩
  case round =>
    obtain ⟨k, hkg, hk1, rfl, hno, hbel⟩ := hrel
    have HNO := Lib.hid hno
    have HBL := Lib.hid hbel
    clear hno hbel
    by_cases hk : k ≤ 4
    · have hki : (k : Int) ≤ 4 := by omega
      go_wp2_with fail
      refine (HSG.out _ _).mono ?_
      rintro e w1 ⟨⟨p, cap, rfl, hrd⟩, hb1⟩
      have HB1 : Hid (Below w.heap.size w w1) := bel_call hb1 HBL.out HBL.out.size
      have HRD := Lib.hid hrd
      have hle := HLE.out (k : Int)
      have HAT : Hid (O = (k : Int) ∨ L ∉ sgS (k : Int)) := by
        unfold Hid
        by_cases hm : L ∈ sgS (k : Int)
        · exact .inl (by rw [← HO.out]; exact lvS_at hk1 hk HNO.out hm)
        · exact .inr hm
      have HYE : Hid (L ∈ sgS (k : Int) → O = (k : Int)) := fun hm => by rw [← HO.out]; exact lvS_at hk1 hk HNO.out hm
      have HN2 : Hid (L ∉ sgS (k : Int) → ∀ j : Nat, 1 ≤ j → j < k + 1 → L ∉ sgS (j : Int)) := fun hm j h1 h2 => by
        by_cases h : j < k
        · exact HNO.out j h1 h
        · obtain rfl : j = k := by omega
          exact hm
      clear hrd hb1 HNO HO
      generalize sgS (k : Int) = S at HRD HYE HN2 hle HAT ⊢
      obtain ⟨n, hn⟩ : ∃ n, S.length = n := ⟨_, rfl⟩
      have HN := Lib.hid hn
      rw [hn] at HRD hle ⊢
      clear hn
      go_wp2_with fail
      go_loopg [5] n (fun g v5 wr2 => ∃ i : Nat, i + g = n ∧ v5 = .int .i64 (i : Int) ∧ (∀ j : Nat, j < i → S.getD j [] ≠ L) ∧ wr2 = w1)
      case atStart => exact ⟨0, by omega, rfl, fun j h => by omega, rfl⟩
      case round =>
        obtain ⟨i, hig, rfl, hne, rfl⟩ := hrel
        have HNE := Lib.hid hne
        clear hne
        by_cases hi : i < n
        · have hii : (i : Int) < (n : Int) := by omega
          obtain ⟨b, off, rfl, _, hc⟩ := cell_st HRD.out hi
          have HME : Hid (S.getD i [] ∈ S) := by
            unfold Hid
            rw [List.getD_eq_getElem?_getD, List.getElem?_eq_getElem (by rw [HN.out]; exact hi)]
            exact List.getElem_mem _
          have HSi : Hid (∀ j : Nat, S.getD i [] ≠ L → j < i + 1 → S.getD j [] ≠ L) := fun j h1 h2 => by
            by_cases h : j < i
            · exact HNE.out j h
            · obtain rfl : j = i := by omega
              exact h1
          generalize S.getD i [] = x at hc HME HSi
          by_cases hx : x = L
          · have HON : Hid (O = (k : Int)) := HYE.out (by rw [← hx]; exact HME.out)
            have hq : (x == s.toList) = true := by rw [HTO.out]; simpa using hx
            clear hx
            go_wp2_with fail
            go_ret
            exact ⟨by rw [HON.out]; rfl, HB1.out⟩
          · have HS2 : Hid (∀ j : Nat, j < i + 1 → S.getD j [] ≠ L) := fun j h => HSi.out j hx h
            have hq : (x == s.toList) = false := by rw [HTO.out]; simpa using hx
            clear hx
            go_wp2_with fail
            go_roundg (gk - 1)
            case measure => omega
            case rel => exact ⟨i + 1, by omega, by go_num, HS2.out, rfl⟩
        · obtain rfl : i = n := by omega
          have hii : ¬ (i : Int) < (i : Int) := by omega
          have HNM : Hid (L ∉ S) := fun hm => by
            obtain ⟨j, hj, e⟩ := List.mem_iff_getElem.1 hm
            have := HNE.out j (by rw [HN.out] at hj; exact hj)
            rw [List.getD_eq_getElem?_getD, List.getElem?_eq_getElem hj] at this
            exact this e
          go_wp2_with fail
          go_roundg (4 - k)
          case measure => omega
          case rel => exact ⟨k + 1, by omega, by omega, by go_num, HN2.out HNM.out, HB1.out⟩
    · have hki : ¬ (k : Int) ≤ 4 := by omega
      have HON : Hid (O = 0) := by unfold Hid; rw [← HO.out]; exact lvS_no (fun j h1 h2 => HNO.out j h1 (by omega))
      go_wp2_with fail
      go_ret
      exact ⟨by rw [HON.out]; rfl, HBL.out⟩

def btN (L : Bs) (j : Nat) : Nat := (L.getD j 0).toNat
theorem btN_lt (L : Bs) (j : Nat) : btN L j < 256 := by unfold btN; exact (L.getD j 0).toNat_lt
theorem btN_get {L : Bs} {i : Nat} (h : i < L.length) : btN L i = L[i].toNat := by simp [btN, List.getD, h]
theorem btN_str (s : ByteArray) (i : Nat) (h : i < s.size) : (s[i].toNat : Nat) = btN s.data.toList i := by
  have hl : i < s.data.toList.length := by rw [Lib.size_eq] at h; exact h
  unfold btN
  rw [List.getD_eq_getElem?_getD, List.getElem?_eq_getElem hl]
  rfl
theorem bytes_cell (W : World) (s : ByteArray) : ∀ j, j < s.size → (Lib.bytesWorld W 5 s).cell? ⟨W.heap.size, j, none⟩ = some (.int .u8 (btN s.data.toList j : Int)) := fun j hj => Lib.bytesWorld_cell W _ s j hj
theorem bytes_below (W : World) (s : ByteArray) : Below W.heap.size W (Lib.bytesWorld W 5 s) := ⟨rfl, rfl, rfl, by rw [Lib.bytesWorld_size]; omega, fun k hk => Lib.bytesWorld_at_old W _ s k hk⟩
/-- May a byte stand there in a name? -/
def okB (i c : Nat) : Bool := (decide (65 ≤ c) && decide (c ≤ 90)) || (decide (0 < i) && (decide (48 ≤ c) && decide (c ≤ 57)))
/-- May a text name a function? -/
def nameB (L : Bs) : Bool := decide (∀ i, i < L.length → okB i (btN L i) = true) && (decide (L ≠ []) && decide (L.length ≤ 32))
theorem nameB_no {L : Bs} {i : Nat} (h : i < L.length) (h2 : okB i (btN L i) = false) : nameB L = false := by
  unfold nameB
  rw [decide_eq_false (fun hh => by rw [hh i h] at h2; cases h2)]
  rfl
theorem nameB_all {L : Bs} (h : ∀ i, i < L.length → okB i (btN L i) = true) : nameB L = (decide (0 < L.length) && decide (L.length ≤ 32)) := by
  unfold nameB
  rw [decide_eq_true h, Bool.true_and]
  congr 1
  cases L <;> simp

set_option maxRecDepth 100000 in
set_option maxHeartbeats 8000000 in
theorem name_any (s : ByteArray) (hs : s.size ≤ maxLen) (w : World) : Calls Tryd.prog 47 #[.string s] w fun e w' => e = .returned (.bool (nameB s.data.toList)) ∧ Below w.heap.size w w' := by
  have hs2 : s.size ≤ 9223372036854775807 := by unfold maxLen at hs; omega
  clear hs
  have HSZ : Hid (s.data.toList.length = s.size) := (Lib.size_eq s).symm
  have HBC := Lib.hid (fun W => bytes_cell W s)
  have HTO : Hid (s.toList = s.data.toList) := by
    unfold Hid
    conv => lhs; rw [show s = ⟨(s.data.toList).toArray⟩ from by simp]
    rw [Lib.toList_data]
  have HNO := Lib.hid (fun i => @nameB_no s.data.toList i)
  have HAL := Lib.hid (@nameB_all s.data.toList)
  generalize s.data.toList = L at HSZ HBC HTO HNO HAL ⊢
  obtain ⟨O, hO⟩ : ∃ O, nameB L = O := ⟨_, rfl⟩
  have HO := Lib.hid hO
  rw [hO]
  clear hO
  have hconv := fun (W : World) => Lib.run_convert_string_bytes (P := Tryd.prog) W 9 42 5 s Tryd.underlying9 Tryd.underlying42 Tryd.underlying5
  go_enter Tryd.func47, Tryd.ntmps47
  go_wp2_with fail
  have hbw := Lib.hid (bytes_below w s)
  have hbc := Lib.hid (HBC.out w)
  generalize Lib.bytesWorld w 5 s = W1 at hbw hbc ⊢
  clear hconv HBC
  go_loopg [8] s.size (fun g v8 wr => ∃ i : Nat, i + g = s.size ∧ v8 = .int .i64 i ∧ (∀ j, j < i → okB j (btN L j) = true) ∧ wr = W1)
  case atStart => exact ⟨0, by omega, rfl, fun j h => by omega, rfl⟩
  case round =>
    obtain ⟨i, hig, rfl, hall, rfl⟩ := hrel
    have HALL := Lib.hid hall
    clear hall
    by_cases hlt : i < s.size
    · have hli : (i : Int) < (s.size : Int) := by omega
      have hc := hbc.out i hlt
      have hd := btN_lt L i
      have HNB : Hid (okB i (btN L i) = false → O = false) := by
        have h1 := HNO.out i (by rw [HSZ.out]; exact hlt)
        rw [HO.out] at h1
        exact h1
      have HYB : Hid (okB i (btN L i) = true → ∀ j, j < i + 1 → okB j (btN L j) = true) := fun h j hj => by
        by_cases h2 : j < i
        · exact HALL.out j h2
        · obtain rfl : j = i := by omega
          exact h
      generalize btN L i = c at hc hd HNB HYB
      go_upto_region 4 with fail
      obtain ⟨ok, hok⟩ : ∃ ok, okB i c = ok := ⟨_, rfl⟩
      have HOK := Lib.hid hok
      rw [hok] at HNB HYB
      clear hok
      go_cut [30] (fun v wx => v = .bool (!ok) ∧ wx = wr)
      case first =>
        clear HNB HYB HALL HNO HAL HO HTO
        by_cases ha : c < 65
        · by_cases hi0 : i = 0
          · have HK : Hid (ok = false) := by unfold Hid; rw [← HOK.out]; unfold okB; simp; omega
            subst hi0
            go_wp2_with fail
            go_meet
            exact ⟨by rw [HK.out]; first | rfl | (simp; done) | (simp; omega), rfl⟩
          · have hi1 : ¬ (i : Int) = 0 := by omega
            by_cases hb : c < 48
            · have HK : Hid (ok = false) := by unfold Hid; rw [← HOK.out]; unfold okB; simp; omega
              go_wp2_with fail
              go_meet
              exact ⟨by rw [HK.out]; first | rfl | (simp; done) | (simp; omega), rfl⟩
            · by_cases he : 57 < c
              · have HK : Hid (ok = false) := by unfold Hid; rw [← HOK.out]; unfold okB; simp; omega
                go_wp2_with fail
                go_meet
                exact ⟨by rw [HK.out]; first | rfl | (simp; done) | (simp; omega), rfl⟩
              · have HK : Hid (ok = true) := by unfold Hid; rw [← HOK.out]; unfold okB; simp; omega
                go_wp2_with fail
                go_meet
                exact ⟨by rw [HK.out]; first | rfl | (simp; done) | (simp; omega), rfl⟩
        · by_cases he : 90 < c
          · by_cases hi0 : i = 0
            · have HK : Hid (ok = false) := by unfold Hid; rw [← HOK.out]; unfold okB; simp; omega
              subst hi0
              go_wp2_with fail
              go_meet
              exact ⟨by rw [HK.out]; first | rfl | (simp; done) | (simp; omega), rfl⟩
            · have hi1 : ¬ (i : Int) = 0 := by omega
              have HK : Hid (ok = false) := by unfold Hid; rw [← HOK.out]; unfold okB; simp; omega
              go_wp2_with fail
              go_meet
              exact ⟨by rw [HK.out]; first | rfl | (simp; done) | (simp; omega), rfl⟩
          · have HK : Hid (ok = true) := by unfold Hid; rw [← HOK.out]; unfold okB; simp; omega
            go_wp2_with fail
            go_meet
            exact ⟨by rw [HK.out]; first | rfl | (simp; done) | (simp; omega), rfl⟩
      case rest =>
        obtain ⟨rfl, rfl⟩ := hcut
        cases ok
        · have HF : Hid (O = false) := HNB.out rfl
          go_wp2_with fail
          go_ret
          exact ⟨by rw [HF.out]; rfl, hbw.out⟩
        · have HY : Hid (∀ j, j < i + 1 → okB j (btN L j) = true) := HYB.out rfl
          go_wp2_with fail
          go_roundg (gk - 1)
          case measure => omega
          case rel => exact ⟨i + 1, by omega, by go_num, HY.out, rfl⟩
    · obtain rfl : i = s.size := by omega
      have hli : ¬ (s.size : Int) < (s.size : Int) := by omega
      have HON : Hid (O = (decide (0 < s.size) && decide (s.size ≤ 32))) := by
        unfold Hid
        rw [← HO.out, HAL.out (fun j hj => HALL.out j (by rw [HSZ.out] at hj; exact hj)), HSZ.out]
      have HEM : Hid (0 < s.size ∨ s = ⟨#[]⟩) := by
        unfold Hid
        by_cases h : 0 < s.size
        · exact .inl h
        · refine .inr (ByteArray.ext (Array.eq_empty_of_size_eq_zero ?_))
          have : s.data.size = s.size := rfl
          omega
      clear HO HAL HNO HALL
      rcases HEM.out with h0 | h0
      · have hne : s.toList.isEmpty = false := by
          rw [HTO.out]
          have := HSZ.out
          cases L with
          | nil => simp at this; omega
          | cons c r => rfl
        by_cases h32 : s.size ≤ 32
        · have h3 : (s.size : Int) ≤ 32 := by omega
          have HON2 : Hid (O = true) := by unfold Hid; rw [HON.out, decide_eq_true h0, decide_eq_true h32]; rfl
          go_wp2_with fail
          go_ret
          exact ⟨by rw [HON2.out]; rfl, hbw.out⟩
        · have h3 : ¬ (s.size : Int) ≤ 32 := by omega
          have HON2 : Hid (O = false) := by unfold Hid; rw [HON.out, decide_eq_false h32, Bool.and_false]
          go_wp2_with fail
          go_ret
          exact ⟨by rw [HON2.out]; rfl, hbw.out⟩
      · subst h0
        have HON2 : Hid (O = false) := by unfold Hid; rw [HON.out]; rfl
        go_wp2_with fail
        go_ret
        exact ⟨by rw [HON2.out]; rfl, hbw.out⟩

set_option maxRecDepth 100000 in
set_option maxHeartbeats 8000000 in
theorem rname_any (s : ByteArray) (hs : s.size ≤ maxLen) (w : World) : Calls Tryd.prog 50 #[.string s] w fun e w' => e = .returned (.bool (nameB s.data.toList)) ∧ Below w.heap.size w w' := by
  have hs2 : s.size ≤ 9223372036854775807 := by unfold maxLen at hs; omega
  clear hs
  have HSZ : Hid (s.data.toList.length = s.size) := (Lib.size_eq s).symm
  have HBT := Lib.hid (btN_str s)
  have HNO := Lib.hid (fun i => @nameB_no s.data.toList i)
  have HAL := Lib.hid (@nameB_all s.data.toList)
  generalize s.data.toList = L at HSZ HBT HNO HAL ⊢
  obtain ⟨O, hO⟩ : ∃ O, nameB L = O := ⟨_, rfl⟩
  have HO := Lib.hid hO
  rw [hO]
  clear hO
  go_enter Tryd.func50, Tryd.ntmps50
  go_wp2_with fail
  go_loopg [3] s.size (fun g v3 wr => ∃ i : Nat, i + g = s.size ∧ v3 = .int .i64 i ∧ (∀ j, j < i → okB j (btN L j) = true) ∧ wr = w)
  case atStart => exact ⟨0, by omega, rfl, fun j h => by omega, rfl⟩
  case round =>
    obtain ⟨i, hig, rfl, hall, rfl⟩ := hrel
    have HALL := Lib.hid hall
    clear hall
    by_cases hlt : i < s.size
    · have hli : (i : Int) < (s.size : Int) := by omega
      have hi0 : (0 : Int) ≤ (i : Int) := by omega
      have hb := HBT.out i hlt
      have hd := btN_lt L i
      have HNB : Hid (okB i (btN L i) = false → O = false) := by
        have h1 := HNO.out i (by rw [HSZ.out]; exact hlt)
        rw [HO.out] at h1
        exact h1
      have HYB : Hid (okB i (btN L i) = true → ∀ j, j < i + 1 → okB j (btN L j) = true) := fun h j hj => by
        by_cases h2 : j < i
        · exact HALL.out j h2
        · obtain rfl : j = i := by omega
          exact h
      generalize btN L i = c at hb hd HNB HYB
      have hbi : (((s[i]'hlt).toNat : Nat) : Int) = (c : Int) := by rw [hb]
      clear hb
      go_upto_region 4 with fail
      obtain ⟨ok, hok⟩ : ∃ ok, okB i c = ok := ⟨_, rfl⟩
      have HOK := Lib.hid hok
      rw [hok] at HNB HYB
      clear hok
      go_cut [37] (fun v wx => v = .bool (!ok) ∧ wx = wr)
      case first =>
        clear HNB HYB HALL HNO HAL HO HBT
        by_cases ha : c < 65
        · have ha2 : ¬ 65 ≤ (c : Int) := by omega
          by_cases hb : c < 48
          · have hb2 : ¬ 48 ≤ (c : Int) := by omega
            have HK : Hid (ok = false) := by unfold Hid; rw [← HOK.out]; unfold okB; simp; omega
            go_wp2_with fail
            go_meet
            exact ⟨by rw [HK.out]; first | rfl | (simp; done) | (simp; omega), rfl⟩
          · have hb2 : 48 ≤ (c : Int) := by omega
            by_cases he : 57 < c
            · have he2 : ¬ (c : Int) ≤ 57 := by omega
              have HK : Hid (ok = false) := by unfold Hid; rw [← HOK.out]; unfold okB; simp; omega
              go_wp2_with fail
              go_meet
              exact ⟨by rw [HK.out]; first | rfl | (simp; done) | (simp; omega), rfl⟩
            · have he2 : (c : Int) ≤ 57 := by omega
              by_cases hi1 : i = 0
              · have HK : Hid (ok = false) := by unfold Hid; rw [← HOK.out]; unfold okB; simp; omega
                subst hi1
                go_wp2_with fail
                go_meet
                exact ⟨by rw [HK.out]; first | rfl | (simp; done) | (simp; omega), rfl⟩
              · have hi2 : 0 < (i : Int) := by omega
                have HK : Hid (ok = true) := by unfold Hid; rw [← HOK.out]; unfold okB; simp; omega
                go_wp2_with fail
                go_meet
                exact ⟨by rw [HK.out]; first | rfl | (simp; done) | (simp; omega), rfl⟩
        · have ha2 : 65 ≤ (c : Int) := by omega
          by_cases he : 90 < c
          · have he2 : ¬ (c : Int) ≤ 90 := by omega
            have he3 : 48 ≤ (c : Int) := by omega
            have he4 : ¬ (c : Int) ≤ 57 := by omega
            have HK : Hid (ok = false) := by unfold Hid; rw [← HOK.out]; unfold okB; simp; omega
            go_wp2_with fail
            go_meet
            exact ⟨by rw [HK.out]; first | rfl | (simp; done) | (simp; omega), rfl⟩
          · have he2 : (c : Int) ≤ 90 := by omega
            have HK : Hid (ok = true) := by unfold Hid; rw [← HOK.out]; unfold okB; simp; omega
            go_wp2_with fail
            go_meet
            exact ⟨by rw [HK.out]; first | rfl | (simp; done) | (simp; omega), rfl⟩
      case rest =>
        obtain ⟨rfl, rfl⟩ := hcut
        cases ok
        · have HF : Hid (O = false) := HNB.out rfl
          go_wp2_with fail
          go_ret
          exact ⟨by rw [HF.out]; rfl, Below.refl _ _⟩
        · have HY : Hid (∀ j, j < i + 1 → okB j (btN L j) = true) := HYB.out rfl
          go_wp2_with fail
          go_roundg (gk - 1)
          case measure => omega
          case rel => exact ⟨i + 1, by omega, by go_num, HY.out, rfl⟩
    · obtain rfl : i = s.size := by omega
      have hli : ¬ (s.size : Int) < (s.size : Int) := by omega
      have HON : Hid (O = (decide (0 < s.size) && decide (s.size ≤ 32))) := by
        unfold Hid
        rw [← HO.out, HAL.out (fun j hj => HALL.out j (by rw [HSZ.out] at hj; exact hj)), HSZ.out]
      clear HO HAL HNO HALL
      by_cases h0 : 0 < s.size
      · have h1 : 1 ≤ (s.size : Int) := by omega
        by_cases h32 : s.size ≤ 32
        · have h3 : (s.size : Int) ≤ 32 := by omega
          have HON2 : Hid (O = true) := by unfold Hid; rw [HON.out, decide_eq_true h0, decide_eq_true h32]; rfl
          go_wp2_with fail
          go_ret
          exact ⟨by rw [HON2.out]; rfl, Below.refl _ _⟩
        · have h3 : ¬ (s.size : Int) ≤ 32 := by omega
          have HON2 : Hid (O = false) := by unfold Hid; rw [HON.out, decide_eq_false h32, Bool.and_false]
          go_wp2_with fail
          go_ret
          exact ⟨by rw [HON2.out]; rfl, Below.refl _ _⟩
      · have h1 : ¬ 1 ≤ (s.size : Int) := by omega
        have HON2 : Hid (O = false) := by unfold Hid; rw [HON.out, decide_eq_false h0]; rfl
        go_wp2_with fail
        go_ret
        exact ⟨by rw [HON2.out]; rfl, Below.refl _ _⟩
end Go.Proofs.YtljloggbfmnjmaaDoor
