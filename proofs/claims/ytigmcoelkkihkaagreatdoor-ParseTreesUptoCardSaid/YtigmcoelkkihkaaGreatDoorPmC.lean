/- Trees: the document's Level; names of functions. Trees: Depth, and the document's Depth and Size. Trees: which trees may be: the program's right, Right. -/
import Derived.Test.YtigmcoelkkihkaaGreatDoorPmB
set_option linter.unusedSimpArgs false
set_option linter.unusedVariables false
namespace Go.Proofs.YtigmcoelkkihkaaGreatDoor
open Go.RowKit Go.Joins

set_option maxRecDepth 100000 in
set_option maxHeartbeats 4000000 in
theorem rlevel_any (s : ByteArray) (w : World) : Calls Tryz.prog 30 #[.string s] w fun e w' => e = .returned (.int .i64 (lvS s.data.toList)) ∧ Below w.heap.size w w' := by
  have HSG := Lib.hid (fun k W => rsigns_any k W)
  have HLE := Lib.hid sgS_len
  have HTO : Hid (s.toList = s.data.toList) := by
    unfold Hid
    conv => lhs; rw [show s = ⟨(s.data.toList).toArray⟩ from by simp]
    rw [Lib.toList_data]
  generalize s.data.toList = L at HTO ⊢
  obtain ⟨O, hO⟩ : ∃ O, lvS L = O := ⟨_, rfl⟩
  have HO := Lib.hid hO
  rw [hO]
  clear hO
  go_enter Tryz.func30, Tryz.ntmps30
  go_wp2_with fail
  go_loopg [3] 4 (fun g v3 wr => ∃ k : Nat, k + g = 5 ∧ 1 ≤ k ∧ v3 = .int .i64 (k : Int) ∧ (∀ j : Nat, 1 ≤ j → j < k → L ∉ sgS (j : Int)) ∧ Below w.heap.size w wr)
  case atStart => exact ⟨1, by omega, by omega, rfl, fun j h1 h2 => by omega, Below.refl _ _⟩
  case round =>
    obtain ⟨k, hkg, hk1, rfl, hno, hbel⟩ := hrel
    have HNO := Lib.hid hno
    have HBL := Lib.hid hbel
    clear hno hbel
    by_cases hk : k ≤ 4
    · have hki : (k : Int) ≤ 4 := by omega
      go_wp2_with fail
      refine (HSG.out _ _).mono ?_
      rintro e w1 ⟨⟨p, cap, rfl, hrd⟩, hb1⟩
      have HB1 : Hid (Below w.heap.size w w1) := bel_call hb1 HBL.out HBL.out.size
      have HRD := Lib.hid hrd
      have hle := HLE.out (k : Int)
      have HAT : Hid (O = (k : Int) ∨ L ∉ sgS (k : Int)) := by
        unfold Hid
        by_cases hm : L ∈ sgS (k : Int)
        · exact .inl (by rw [← HO.out]; exact lvS_at hk1 hk HNO.out hm)
        · exact .inr hm
      have HYE : Hid (L ∈ sgS (k : Int) → O = (k : Int)) := fun hm => by rw [← HO.out]; exact lvS_at hk1 hk HNO.out hm
      have HN2 : Hid (L ∉ sgS (k : Int) → ∀ j : Nat, 1 ≤ j → j < k + 1 → L ∉ sgS (j : Int)) := fun hm j h1 h2 => by
        by_cases h : j < k
        · exact HNO.out j h1 h
        · obtain rfl : j = k := by omega
          exact hm
      clear hrd hb1 HNO HO
      generalize sgS (k : Int) = S at HRD HYE HN2 hle HAT ⊢
      obtain ⟨n, hn⟩ : ∃ n, S.length = n := ⟨_, rfl⟩
      have HN := Lib.hid hn
      rw [hn] at HRD hle ⊢
      clear hn
      go_wp2_with fail
      go_loopg [5] n (fun g v5 wr2 => ∃ i : Nat, i + g = n ∧ v5 = .int .i64 (i : Int) ∧ (∀ j : Nat, j < i → S.getD j [] ≠ L) ∧ wr2 = w1)
      case atStart => exact ⟨0, by omega, rfl, fun j h => by omega, rfl⟩
      case round =>
        obtain ⟨i, hig, rfl, hne, rfl⟩ := hrel
        have HNE := Lib.hid hne
        clear hne
        by_cases hi : i < n
        · have hii : (i : Int) < (n : Int) := by omega
          obtain ⟨b, off, rfl, _, hc⟩ := cell_st HRD.out hi
          have HME : Hid (S.getD i [] ∈ S) := by
            unfold Hid
            rw [List.getD_eq_getElem?_getD, List.getElem?_eq_getElem (by rw [HN.out]; exact hi)]
            exact List.getElem_mem _
          have HSi : Hid (∀ j : Nat, S.getD i [] ≠ L → j < i + 1 → S.getD j [] ≠ L) := fun j h1 h2 => by
            by_cases h : j < i
            · exact HNE.out j h
            · obtain rfl : j = i := by omega
              exact h1
          generalize S.getD i [] = x at hc HME HSi
          by_cases hx : x = L
          · have HON : Hid (O = (k : Int)) := HYE.out (by rw [← hx]; exact HME.out)
            have hq : (x == s.toList) = true := by rw [HTO.out]; simpa using hx
            clear hx
            go_wp2_with fail
            go_ret
            exact ⟨by rw [HON.out]; rfl, HB1.out⟩
          · have HS2 : Hid (∀ j : Nat, j < i + 1 → S.getD j [] ≠ L) := fun j h => HSi.out j hx h
            have hq : (x == s.toList) = false := by rw [HTO.out]; simpa using hx
            clear hx
            go_wp2_with fail
            go_roundg (gk - 1)
            case measure => omega
            case rel => exact ⟨i + 1, by omega, by go_num, HS2.out, rfl⟩
        · obtain rfl : i = n := by omega
          have hii : ¬ (i : Int) < (i : Int) := by omega
          have HNM : Hid (L ∉ S) := fun hm => by
            obtain ⟨j, hj, e⟩ := List.mem_iff_getElem.1 hm
            have := HNE.out j (by rw [HN.out] at hj; exact hj)
            rw [List.getD_eq_getElem?_getD, List.getElem?_eq_getElem hj] at this
            exact this e
          go_wp2_with fail
          go_roundg (4 - k)
          case measure => omega
          case rel => exact ⟨k + 1, by omega, by omega, by go_num, HN2.out HNM.out, HB1.out⟩
    · have hki : ¬ (k : Int) ≤ 4 := by omega
      have HON : Hid (O = 0) := by unfold Hid; rw [← HO.out]; exact lvS_no (fun j h1 h2 => HNO.out j h1 (by omega))
      go_wp2_with fail
      go_ret
      exact ⟨by rw [HON.out]; rfl, HBL.out⟩

def btN (L : Bs) (j : Nat) : Nat := (L.getD j 0).toNat
theorem btN_lt (L : Bs) (j : Nat) : btN L j < 256 := by unfold btN; exact (L.getD j 0).toNat_lt
theorem btN_get {L : Bs} {i : Nat} (h : i < L.length) : btN L i = L[i].toNat := by simp [btN, List.getD, h]
theorem btN_str (s : ByteArray) (i : Nat) (h : i < s.size) : (s[i].toNat : Nat) = btN s.data.toList i := by
  have hl : i < s.data.toList.length := by rw [Lib.size_eq] at h; exact h
  unfold btN
  rw [List.getD_eq_getElem?_getD, List.getElem?_eq_getElem hl]
  rfl
theorem bytes_cell (W : World) (s : ByteArray) : ∀ j, j < s.size → (Lib.bytesWorld W 5 s).cell? ⟨W.heap.size, j, none⟩ = some (.int .u8 (btN s.data.toList j : Int)) := fun j hj => Lib.bytesWorld_cell W _ s j hj
theorem bytes_below (W : World) (s : ByteArray) : Below W.heap.size W (Lib.bytesWorld W 5 s) := ⟨rfl, rfl, rfl, by rw [Lib.bytesWorld_size]; omega, fun k hk => Lib.bytesWorld_at_old W _ s k hk⟩
/-- May a byte stand there in a name? -/
def okB (i c : Nat) : Bool := (decide (65 ≤ c) && decide (c ≤ 90)) || (decide (0 < i) && (decide (48 ≤ c) && decide (c ≤ 57)))
/-- May a text name a function? -/
def nameB (L : Bs) : Bool := decide (∀ i, i < L.length → okB i (btN L i) = true) && (decide (L ≠ []) && decide (L.length ≤ 32))
theorem nameB_no {L : Bs} {i : Nat} (h : i < L.length) (h2 : okB i (btN L i) = false) : nameB L = false := by
  unfold nameB
  rw [decide_eq_false (fun hh => by rw [hh i h] at h2; cases h2)]
  rfl
theorem nameB_all {L : Bs} (h : ∀ i, i < L.length → okB i (btN L i) = true) : nameB L = (decide (0 < L.length) && decide (L.length ≤ 32)) := by
  unfold nameB
  rw [decide_eq_true h, Bool.true_and]
  congr 1
  cases L <;> simp

set_option maxRecDepth 100000 in
set_option maxHeartbeats 8000000 in
theorem name_any (s : ByteArray) (hs : s.size ≤ maxLen) (w : World) : Calls Tryz.prog 126 #[.string s] w fun e w' => e = .returned (.bool (nameB s.data.toList)) ∧ Below w.heap.size w w' := by
  have hs2 : s.size ≤ 9223372036854775807 := by unfold maxLen at hs; omega
  clear hs
  have HSZ : Hid (s.data.toList.length = s.size) := (Lib.size_eq s).symm
  have HBC := Lib.hid (fun W => bytes_cell W s)
  have HTO : Hid (s.toList = s.data.toList) := by
    unfold Hid
    conv => lhs; rw [show s = ⟨(s.data.toList).toArray⟩ from by simp]
    rw [Lib.toList_data]
  have HNO := Lib.hid (fun i => @nameB_no s.data.toList i)
  have HAL := Lib.hid (@nameB_all s.data.toList)
  generalize s.data.toList = L at HSZ HBC HTO HNO HAL ⊢
  obtain ⟨O, hO⟩ : ∃ O, nameB L = O := ⟨_, rfl⟩
  have HO := Lib.hid hO
  rw [hO]
  clear hO
  have hconv := fun (W : World) => Lib.run_convert_string_bytes (P := Tryz.prog) W 9 84 5 s Tryz.underlying9 Tryz.underlying84 Tryz.underlying5
  go_enter Tryz.func126, Tryz.ntmps126
  go_wp2_with fail
  have hbw := Lib.hid (bytes_below w s)
  have hbc := Lib.hid (HBC.out w)
  generalize Lib.bytesWorld w 5 s = W1 at hbw hbc ⊢
  clear hconv HBC
  go_loopg [8] s.size (fun g v8 wr => ∃ i : Nat, i + g = s.size ∧ v8 = .int .i64 i ∧ (∀ j, j < i → okB j (btN L j) = true) ∧ wr = W1)
  case atStart => exact ⟨0, by omega, rfl, fun j h => by omega, rfl⟩
  case round =>
    obtain ⟨i, hig, rfl, hall, rfl⟩ := hrel
    have HALL := Lib.hid hall
    clear hall
    by_cases hlt : i < s.size
    · have hli : (i : Int) < (s.size : Int) := by omega
      have hc := hbc.out i hlt
      have hd := btN_lt L i
      have HNB : Hid (okB i (btN L i) = false → O = false) := by
        have h1 := HNO.out i (by rw [HSZ.out]; exact hlt)
        rw [HO.out] at h1
        exact h1
      have HYB : Hid (okB i (btN L i) = true → ∀ j, j < i + 1 → okB j (btN L j) = true) := fun h j hj => by
        by_cases h2 : j < i
        · exact HALL.out j h2
        · obtain rfl : j = i := by omega
          exact h
      generalize btN L i = c at hc hd HNB HYB
      go_upto_region 4 with fail
      obtain ⟨ok, hok⟩ : ∃ ok, okB i c = ok := ⟨_, rfl⟩
      have HOK := Lib.hid hok
      rw [hok] at HNB HYB
      clear hok
      go_cut [30] (fun v wx => v = .bool (!ok) ∧ wx = wr)
      case first =>
        clear HNB HYB HALL HNO HAL HO HTO
        by_cases ha : c < 65
        · by_cases hi0 : i = 0
          · have HK : Hid (ok = false) := by unfold Hid; rw [← HOK.out]; unfold okB; simp; omega
            subst hi0
            go_wp2_with fail
            go_meet
            exact ⟨by rw [HK.out]; first | rfl | (simp; done) | (simp; omega), rfl⟩
          · have hi1 : ¬ (i : Int) = 0 := by omega
            by_cases hb : c < 48
            · have HK : Hid (ok = false) := by unfold Hid; rw [← HOK.out]; unfold okB; simp; omega
              go_wp2_with fail
              go_meet
              exact ⟨by rw [HK.out]; first | rfl | (simp; done) | (simp; omega), rfl⟩
            · by_cases he : 57 < c
              · have HK : Hid (ok = false) := by unfold Hid; rw [← HOK.out]; unfold okB; simp; omega
                go_wp2_with fail
                go_meet
                exact ⟨by rw [HK.out]; first | rfl | (simp; done) | (simp; omega), rfl⟩
              · have HK : Hid (ok = true) := by unfold Hid; rw [← HOK.out]; unfold okB; simp; omega
                go_wp2_with fail
                go_meet
                exact ⟨by rw [HK.out]; first | rfl | (simp; done) | (simp; omega), rfl⟩
        · by_cases he : 90 < c
          · by_cases hi0 : i = 0
            · have HK : Hid (ok = false) := by unfold Hid; rw [← HOK.out]; unfold okB; simp; omega
              subst hi0
              go_wp2_with fail
              go_meet
              exact ⟨by rw [HK.out]; first | rfl | (simp; done) | (simp; omega), rfl⟩
            · have hi1 : ¬ (i : Int) = 0 := by omega
              have HK : Hid (ok = false) := by unfold Hid; rw [← HOK.out]; unfold okB; simp; omega
              go_wp2_with fail
              go_meet
              exact ⟨by rw [HK.out]; first | rfl | (simp; done) | (simp; omega), rfl⟩
          · have HK : Hid (ok = true) := by unfold Hid; rw [← HOK.out]; unfold okB; simp; omega
            go_wp2_with fail
            go_meet
            exact ⟨by rw [HK.out]; first | rfl | (simp; done) | (simp; omega), rfl⟩
      case rest =>
        obtain ⟨rfl, rfl⟩ := hcut
        cases ok
        · have HF : Hid (O = false) := HNB.out rfl
          go_wp2_with fail
          go_ret
          exact ⟨by rw [HF.out]; rfl, hbw.out⟩
        · have HY : Hid (∀ j, j < i + 1 → okB j (btN L j) = true) := HYB.out rfl
          go_wp2_with fail
          go_roundg (gk - 1)
          case measure => omega
          case rel => exact ⟨i + 1, by omega, by go_num, HY.out, rfl⟩
    · obtain rfl : i = s.size := by omega
      have hli : ¬ (s.size : Int) < (s.size : Int) := by omega
      have HON : Hid (O = (decide (0 < s.size) && decide (s.size ≤ 32))) := by
        unfold Hid
        rw [← HO.out, HAL.out (fun j hj => HALL.out j (by rw [HSZ.out] at hj; exact hj)), HSZ.out]
      have HEM : Hid (0 < s.size ∨ s = ⟨#[]⟩) := by
        unfold Hid
        by_cases h : 0 < s.size
        · exact .inl h
        · refine .inr (ByteArray.ext (Array.eq_empty_of_size_eq_zero ?_))
          have : s.data.size = s.size := rfl
          omega
      clear HO HAL HNO HALL
      rcases HEM.out with h0 | h0
      · have hne : s.toList.isEmpty = false := by
          rw [HTO.out]
          have := HSZ.out
          cases L with
          | nil => simp at this; omega
          | cons c r => rfl
        by_cases h32 : s.size ≤ 32
        · have h3 : (s.size : Int) ≤ 32 := by omega
          have HON2 : Hid (O = true) := by unfold Hid; rw [HON.out, decide_eq_true h0, decide_eq_true h32]; rfl
          go_wp2_with fail
          go_ret
          exact ⟨by rw [HON2.out]; rfl, hbw.out⟩
        · have h3 : ¬ (s.size : Int) ≤ 32 := by omega
          have HON2 : Hid (O = false) := by unfold Hid; rw [HON.out, decide_eq_false h32, Bool.and_false]
          go_wp2_with fail
          go_ret
          exact ⟨by rw [HON2.out]; rfl, hbw.out⟩
      · subst h0
        have HON2 : Hid (O = false) := by unfold Hid; rw [HON.out]; rfl
        go_wp2_with fail
        go_ret
        exact ⟨by rw [HON2.out]; rfl, hbw.out⟩

set_option maxRecDepth 100000 in
set_option maxHeartbeats 8000000 in
theorem rname_any (s : ByteArray) (hs : s.size ≤ maxLen) (w : World) : Calls Tryz.prog 31 #[.string s] w fun e w' => e = .returned (.bool (nameB s.data.toList)) ∧ Below w.heap.size w w' := by
  have hs2 : s.size ≤ 9223372036854775807 := by unfold maxLen at hs; omega
  clear hs
  have HSZ : Hid (s.data.toList.length = s.size) := (Lib.size_eq s).symm
  have HBT := Lib.hid (btN_str s)
  have HNO := Lib.hid (fun i => @nameB_no s.data.toList i)
  have HAL := Lib.hid (@nameB_all s.data.toList)
  generalize s.data.toList = L at HSZ HBT HNO HAL ⊢
  obtain ⟨O, hO⟩ : ∃ O, nameB L = O := ⟨_, rfl⟩
  have HO := Lib.hid hO
  rw [hO]
  clear hO
  go_enter Tryz.func31, Tryz.ntmps31
  go_wp2_with fail
  go_loopg [3] s.size (fun g v3 wr => ∃ i : Nat, i + g = s.size ∧ v3 = .int .i64 i ∧ (∀ j, j < i → okB j (btN L j) = true) ∧ wr = w)
  case atStart => exact ⟨0, by omega, rfl, fun j h => by omega, rfl⟩
  case round =>
    obtain ⟨i, hig, rfl, hall, rfl⟩ := hrel
    have HALL := Lib.hid hall
    clear hall
    by_cases hlt : i < s.size
    · have hli : (i : Int) < (s.size : Int) := by omega
      have hi0 : (0 : Int) ≤ (i : Int) := by omega
      have hb := HBT.out i hlt
      have hd := btN_lt L i
      have HNB : Hid (okB i (btN L i) = false → O = false) := by
        have h1 := HNO.out i (by rw [HSZ.out]; exact hlt)
        rw [HO.out] at h1
        exact h1
      have HYB : Hid (okB i (btN L i) = true → ∀ j, j < i + 1 → okB j (btN L j) = true) := fun h j hj => by
        by_cases h2 : j < i
        · exact HALL.out j h2
        · obtain rfl : j = i := by omega
          exact h
      generalize btN L i = c at hb hd HNB HYB
      have hbi : (((s[i]'hlt).toNat : Nat) : Int) = (c : Int) := by rw [hb]
      clear hb
      go_upto_region 4 with fail
      obtain ⟨ok, hok⟩ : ∃ ok, okB i c = ok := ⟨_, rfl⟩
      have HOK := Lib.hid hok
      rw [hok] at HNB HYB
      clear hok
      go_cut [37] (fun v wx => v = .bool (!ok) ∧ wx = wr)
      case first =>
        clear HNB HYB HALL HNO HAL HO HBT
        by_cases ha : c < 65
        · have ha2 : ¬ 65 ≤ (c : Int) := by omega
          by_cases hb : c < 48
          · have hb2 : ¬ 48 ≤ (c : Int) := by omega
            have HK : Hid (ok = false) := by unfold Hid; rw [← HOK.out]; unfold okB; simp; omega
            go_wp2_with fail
            go_meet
            exact ⟨by rw [HK.out]; first | rfl | (simp; done) | (simp; omega), rfl⟩
          · have hb2 : 48 ≤ (c : Int) := by omega
            by_cases he : 57 < c
            · have he2 : ¬ (c : Int) ≤ 57 := by omega
              have HK : Hid (ok = false) := by unfold Hid; rw [← HOK.out]; unfold okB; simp; omega
              go_wp2_with fail
              go_meet
              exact ⟨by rw [HK.out]; first | rfl | (simp; done) | (simp; omega), rfl⟩
            · have he2 : (c : Int) ≤ 57 := by omega
              by_cases hi1 : i = 0
              · have HK : Hid (ok = false) := by unfold Hid; rw [← HOK.out]; unfold okB; simp; omega
                subst hi1
                go_wp2_with fail
                go_meet
                exact ⟨by rw [HK.out]; first | rfl | (simp; done) | (simp; omega), rfl⟩
              · have hi2 : 0 < (i : Int) := by omega
                have HK : Hid (ok = true) := by unfold Hid; rw [← HOK.out]; unfold okB; simp; omega
                go_wp2_with fail
                go_meet
                exact ⟨by rw [HK.out]; first | rfl | (simp; done) | (simp; omega), rfl⟩
        · have ha2 : 65 ≤ (c : Int) := by omega
          by_cases he : 90 < c
          · have he2 : ¬ (c : Int) ≤ 90 := by omega
            have he3 : 48 ≤ (c : Int) := by omega
            have he4 : ¬ (c : Int) ≤ 57 := by omega
            have HK : Hid (ok = false) := by unfold Hid; rw [← HOK.out]; unfold okB; simp; omega
            go_wp2_with fail
            go_meet
            exact ⟨by rw [HK.out]; first | rfl | (simp; done) | (simp; omega), rfl⟩
          · have he2 : (c : Int) ≤ 90 := by omega
            have HK : Hid (ok = true) := by unfold Hid; rw [← HOK.out]; unfold okB; simp; omega
            go_wp2_with fail
            go_meet
            exact ⟨by rw [HK.out]; first | rfl | (simp; done) | (simp; omega), rfl⟩
      case rest =>
        obtain ⟨rfl, rfl⟩ := hcut
        cases ok
        · have HF : Hid (O = false) := HNB.out rfl
          go_wp2_with fail
          go_ret
          exact ⟨by rw [HF.out]; rfl, Below.refl _ _⟩
        · have HY : Hid (∀ j, j < i + 1 → okB j (btN L j) = true) := HYB.out rfl
          go_wp2_with fail
          go_roundg (gk - 1)
          case measure => omega
          case rel => exact ⟨i + 1, by omega, by go_num, HY.out, rfl⟩
    · obtain rfl : i = s.size := by omega
      have hli : ¬ (s.size : Int) < (s.size : Int) := by omega
      have HON : Hid (O = (decide (0 < s.size) && decide (s.size ≤ 32))) := by
        unfold Hid
        rw [← HO.out, HAL.out (fun j hj => HALL.out j (by rw [HSZ.out] at hj; exact hj)), HSZ.out]
      clear HO HAL HNO HALL
      by_cases h0 : 0 < s.size
      · have h1 : 1 ≤ (s.size : Int) := by omega
        by_cases h32 : s.size ≤ 32
        · have h3 : (s.size : Int) ≤ 32 := by omega
          have HON2 : Hid (O = true) := by unfold Hid; rw [HON.out, decide_eq_true h0, decide_eq_true h32]; rfl
          go_wp2_with fail
          go_ret
          exact ⟨by rw [HON2.out]; rfl, Below.refl _ _⟩
        · have h3 : ¬ (s.size : Int) ≤ 32 := by omega
          have HON2 : Hid (O = false) := by unfold Hid; rw [HON.out, decide_eq_false h32, Bool.and_false]
          go_wp2_with fail
          go_ret
          exact ⟨by rw [HON2.out]; rfl, Below.refl _ _⟩
      · have h1 : ¬ 1 ≤ (s.size : Int) := by omega
        have HON2 : Hid (O = false) := by unfold Hid; rw [HON.out, decide_eq_false h0]; rfl
        go_wp2_with fail
        go_ret
        exact ⟨by rw [HON2.out]; rfl, Below.refl _ _⟩
end Go.Proofs.YtigmcoelkkihkaaGreatDoor
namespace Go.Proofs.YtigmcoelkkihkaaGreatDoor
open Go.RowKit Go.Joins

/-- What a program's tree may be: texts and rows that a machine has, numbers of 64 bits. -/
inductive OkN : Nd → Prop
  | mk (k u : Int) (t : Bs) (f o : Int) (a : List Nd) (h1 : t.length ≤ 9223372036854775807) (h2 : a.length ≤ 9223372036854775807) (h3 : -9223372036854775808 ≤ u ∧ u ≤ 9223372036854775807) (h4 : -9223372036854775808 ≤ f ∧ f ≤ 9223372036854775807) (h5 : -9223372036854775808 ≤ o ∧ o ≤ 9223372036854775807) (h6 : ∀ c ∈ a, OkN c) : OkN (.mk k u t f o a)
theorem OkN.child {n c : Nd} (h : OkN n) (hc : c ∈ n.args) : OkN c := by cases h with | mk k u t f o a h1 h2 h3 h4 h5 h6 => exact h6 c hc
theorem OkN.text {n : Nd} (h : OkN n) : n.text.length ≤ 9223372036854775807 := by cases h with | mk k u t f o a h1 h2 h3 h4 h5 h6 => exact h1
theorem OkN.len {n : Nd} (h : OkN n) : n.args.length ≤ 9223372036854775807 := by cases h with | mk k u t f o a h1 h2 h3 h4 h5 h6 => exact h2
theorem OkN.num {n : Nd} (h : OkN n) : -9223372036854775808 ≤ n.num ∧ n.num ≤ 9223372036854775807 := by cases h with | mk k u t f o a h1 h2 h3 h4 h5 h6 => exact h3
theorem OkN.frm {n : Nd} (h : OkN n) : -9223372036854775808 ≤ n.frm ∧ n.frm ≤ 9223372036854775807 := by cases h with | mk k u t f o a h1 h2 h3 h4 h5 h6 => exact h4
theorem OkN.tor {n : Nd} (h : OkN n) : -9223372036854775808 ≤ n.tor ∧ n.tor ≤ 9223372036854775807 := by cases h with | mk k u t f o a h1 h2 h3 h4 h5 h6 => exact h5
abbrev tRn : TypeId := 25
def ndA (n : Nd) (p : Option Addr) (len cap : Nat) : Array Value := #[.int .i64 n.kind, .int .i64 n.num, .string ⟨n.text.toArray⟩, .int .i64 n.frm, .int .i64 n.tor, .slice p len cap]
theorem ndA_eq (n : Nd) (p : Option Addr) (len cap : Nat) : Value.agg (ndA n p len cap) = .agg #[.int .i64 n.kind, .int .i64 n.num, .string ⟨n.text.toArray⟩, .int .i64 n.frm, .int .i64 n.tor, .slice p len cap] := rfl
/-- A node in a block of its own. -/
def NdB (t : TypeId) (w : World) (b : Nat) (n : Nd) (p : Option Addr) (len cap : Nat) : Prop := w.heap[b]? = some (.cells (ndA n p len cap) t (0, 0))
theorem NdB.below {t : TypeId} {w w' : World} {b : Nat} {n : Nd} {p : Option Addr} {len cap : Nat} (h : NdB t w b n p len cap) (hb : Below w.heap.size w w') : NdB t w' b n p len cap := (hb.block b (lt_some h)).trans h
theorem NdB.cells {t : TypeId} {w : World} {b : Nat} {n : Nd} {p : Option Addr} {len cap : Nat} (h : NdB t w b n p len cap) : w.cell? ⟨b, 0, none⟩ = some (.int .i64 n.kind) ∧ w.cell? ⟨b, 1, none⟩ = some (.int .i64 n.num) ∧ w.cell? ⟨b, 2, none⟩ = some (.string ⟨n.text.toArray⟩) ∧ w.cell? ⟨b, 3, none⟩ = some (.int .i64 n.frm) ∧ w.cell? ⟨b, 4, none⟩ = some (.int .i64 n.tor) ∧ w.cell? ⟨b, 5, none⟩ = some (.slice p len cap) := by
  refine ⟨?_, ?_, ?_, ?_, ?_, ?_⟩
  all_goals
    rw [cell_of_block h]
    rfl
theorem dpL_ge : ∀ (a : List Nd) (m : Nat), m ≤ dpL a m
  | [], m => by rw [dpL]; exact Nat.le_refl _
  | c :: r, m => by
    rw [dpL]
    exact Nat.le_trans (Nat.le_max_left _ _) (dpL_ge r _)
theorem dpL_at {a : List Nd} {i m : Nat} {c : Nd} (h : a[i]? = some c) : dpL (a.drop i) m = dpL (a.drop (i + 1)) (max m (dpN c)) := by
  obtain ⟨hi, e⟩ := List.getElem?_eq_some_iff.1 h
  rw [List.drop_eq_getElem_cons hi, dpL, e]
theorem mem_at {a : List Nd} {i : Nat} {c : Nd} (h : a[i]? = some c) : c ∈ a := List.mem_of_getElem? h

def RDepthC (d : Nat) : Prop := ∀ (n : Nd) (p : Option Addr) (len cap : Nat) (w : World), RdT w w.heap.size d n p len → OkN n → dpN n ≤ 1000000 → Calls Tryz.prog 20 #[.agg (ndA n p len cap)] w fun e w' => e = .returned (.int .i64 (dpN n : Nat)) ∧ Below w.heap.size w w'
set_option maxRecDepth 100000 in
set_option maxHeartbeats 4000000 in
theorem rdepth_s (d : Nat) (IH : ∀ d', d = d' + 1 → RDepthC d') : RDepthC d := by
  intro n p len cap w hrd hok hdp
  have hA0 : Hid (NdB tRn (w.alloc (.cells (ndA n p len cap) tRn)) w.heap.size n p len cap) := heap_alloc_new w _
  have hAB : Hid (Below w.heap.size w (w.alloc (.cells (ndA n p len cap) tRn))) := by unfold Hid; (repeat' (first | (with_reducible exact Below.refl _ _) | (with_reducible assumption) | (with_reducible refine Below.alloc ?_ ?_ _) | (with_reducible refine bel_drewN ?_ _) | (with_reducible refine Below.drew ?_) | (with_reducible refine Below.setCell ?_ ?_ _) | (with_reducible refine bel_call ‹_› ?_ ?_) | go_size))
  have HRD := Lib.hid hrd
  have HIH := Lib.hid IH
  have HDP : Hid (dpN n = dpL (n.args.drop 0) 0 + 1) := by unfold Hid; rw [dpN_eq]; rfl
  have hlen := hok.len
  rw [hrd.len] at hlen
  have HAL := Lib.hid hrd.len
  have HOK := Lib.hid (fun c hc => OkN.child (c := c) hok hc)
  generalize dpN n = D at HDP hdp ⊢
  rw [ndA_eq]
  clear hrd IH hok
  go_enter Tryz.func20, Tryz.ntmps20
  go_upto_region 1 with fail
  have e0 : w.alloc (.cells #[.int .i64 n.kind, .int .i64 n.num, .string ⟨n.text.toArray⟩, .int .i64 n.frm, .int .i64 n.tor, .slice p len cap] tRn) = w.alloc (.cells (ndA n p len cap) tRn) := rfl
  rw [e0]
  clear e0
  generalize w.alloc (.cells (ndA n p len cap) tRn) = w0 at hA0 hAB ⊢
  obtain ⟨c0, c1, c2, c3, c4, c5⟩ := hA0.out.cells
  clear c0 c1 c2 c3 c4 c5
  go_wp2_with fail
  go_loopg [3, 4] len (fun g v3 v4 wr => ∃ i m : Nat, i + g = len ∧ v4 = .int .i64 i ∧ v3 = .int .i64 (m : Int) ∧ D = dpL (n.args.drop i) m + 1 ∧ NdB tRn wr w.heap.size n p len cap ∧ Below w.heap.size w wr)
  case atStart => exact ⟨0, 0, by omega, rfl, rfl, HDP.out, hA0.out, hAB.out⟩
  case round =>
    obtain ⟨i, m, hig, rfl, rfl, hD, hnb, hbel⟩ := hrel
    have HD := Lib.hid hD
    have HBL := Lib.hid hbel
    have HNB := Lib.hid hnb
    have hzr := hbel.size
    have hm : m ≤ 1000000 := by have := dpL_ge (n.args.drop i) m; omega
    clear hD hbel HDP hnb hA0 hAB
    obtain ⟨c0, c1, c2, c3, c4, c5⟩ := HNB.out.cells
    by_cases hlt : i < len
    · have hli : (i : Int) < (len : Int) := by omega
      obtain ⟨d', b, off, c, p', l', c', hd, rfl, hbN, hc, hrc, q0, q1, q2, q3, q4, q5⟩ := (HRD.out.below HBL.out).at hlt
      have HC : Hid (RDepthC d') := HIH.out d' hd
      have HCO := Lib.hid (HOK.out c (mem_at hc))
      have HD2 : Hid (D = dpL (n.args.drop (i + 1)) (max m (dpN c)) + 1) := by unfold Hid; rw [HD.out, dpL_at hc]
      have hcd : dpN c ≤ 1000000 := by
        have := dpL_ge (n.args.drop (i + 1)) (max m (dpN c))
        have := HD2.out
        omega
      have HCC := Lib.hid (HC.out c p' l' c' wr (hrc.mono HBL.out.size) HCO.out hcd)
      rw [ndA_eq] at HCC
      generalize dpN c = k at HCC HD2 hcd
      clear HC hc hrc HD hd
      go_wp2_with fail
      refine HCC.out.mono ?_
      rintro e w3 ⟨rfl, hb3⟩
      have hB3 : Hid (Below w.heap.size w w3) := bel_call hb3 HBL.out hzr
      have hN3 := Lib.hid (HNB.out.below hb3)
      clear hb3 c0 c1 c2 c3 c4 c5 q0 q1 q2 q3 q4 q5 HNB HBL HCC
      by_cases hkm : m < k
      · have hki : (m : Int) < (k : Int) := by omega
        go_wp2_with fail
        go_roundg (gk - 1)
        case measure => omega
        case rel => exact ⟨i + 1, k, by omega, by go_num, rfl, by rw [HD2.out, Nat.max_eq_right (by omega)], hN3.out, hB3.out⟩
      · have hki : ¬ (m : Int) < (k : Int) := by omega
        go_wp2_with fail
        go_roundg (gk - 1)
        case measure => omega
        case rel => exact ⟨i + 1, m, by omega, by go_num, rfl, by rw [HD2.out, Nat.max_eq_left (by omega)], hN3.out, hB3.out⟩
    · obtain rfl : i = len := by omega
      have hli : ¬ (i : Int) < (i : Int) := by omega
      have HDE : Hid (D = m + 1) := by
        unfold Hid
        rw [HD.out, List.drop_eq_nil_of_le (by rw [HAL.out]; exact Nat.le_refl _), dpL]
      go_wp2_with fail
      go_ret
      exact ⟨by rw [HDE.out]; first | rfl | (simp; done), HBL.out⟩
theorem rdepth_any : ∀ d, RDepthC d
  | 0 => rdepth_s 0 (fun d' h => by omega)
  | d + 1 => rdepth_s (d + 1) (fun d' h => (show d = d' from by omega) ▸ rdepth_any d)
theorem szL_at {a : List Nd} {i : Nat} {c : Nd} {k m : Int} (h : a[i]? = some c) : szL (a.drop i) k m = if k ≤ m then szL (a.drop (i + 1)) (k + szN c (m - k)) m else k := by
  obtain ⟨hi, e⟩ := List.getElem?_eq_some_iff.1 h
  rw [List.drop_eq_getElem_cons hi, szL, e]
def SizeC (d : Nat) : Prop := ∀ (n : Nd) (p : Option Addr) (len cap : Nat) (m : Int) (w : World), RdT w w.heap.size d n p len → OkN n → -1 ≤ m → m ≤ 100000 → Calls Tryz.prog 12 #[.agg (ndA n p len cap), .int .i64 m] w fun e w' => e = .returned (.int .i64 (szN n m)) ∧ Below w.heap.size w w'
set_option maxRecDepth 100000 in
set_option maxHeartbeats 4000000 in
theorem size_s (d : Nat) (IH : ∀ d', d = d' + 1 → SizeC d') : SizeC d := by
  intro n p len cap m w hrd hok hm0 hm1
  have hA0 : Hid (NdB tRn (w.alloc (.cells (ndA n p len cap) tRn)) w.heap.size n p len cap) := heap_alloc_new w _
  have hAB : Hid (Below w.heap.size w (w.alloc (.cells (ndA n p len cap) tRn))) := by unfold Hid; (repeat' (first | (with_reducible exact Below.refl _ _) | (with_reducible assumption) | (with_reducible refine Below.alloc ?_ ?_ _) | (with_reducible refine bel_drewN ?_ _) | (with_reducible refine Below.drew ?_) | (with_reducible refine Below.setCell ?_ ?_ _) | (with_reducible refine bel_call ‹_› ?_ ?_) | go_size))
  have HRD := Lib.hid hrd
  have HIH := Lib.hid IH
  have HDP : Hid (szN n m = szL (n.args.drop 0) 1 m) := by unfold Hid; rw [szN_eq]; rfl
  have hlen := hok.len
  rw [hrd.len] at hlen
  have HAL := Lib.hid hrd.len
  have HOK := Lib.hid (fun c hc => OkN.child (c := c) hok hc)
  generalize szN n m = D at HDP ⊢
  rw [ndA_eq]
  clear hrd IH hok
  go_enter Tryz.func12, Tryz.ntmps12
  go_upto_region 1 with fail
  have e0 : w.alloc (.cells #[.int .i64 n.kind, .int .i64 n.num, .string ⟨n.text.toArray⟩, .int .i64 n.frm, .int .i64 n.tor, .slice p len cap] tRn) = w.alloc (.cells (ndA n p len cap) tRn) := rfl
  rw [e0]
  clear e0
  generalize w.alloc (.cells (ndA n p len cap) tRn) = w0 at hA0 hAB ⊢
  go_wp2_with fail
  go_loopg [5, 6] len (fun g v5 v6 wr => ∃ (i : Nat) (k : Int), i + g = len ∧ v6 = .int .i64 i ∧ v5 = .int .i64 k ∧ 1 ≤ k ∧ k ≤ max m 0 + 1 ∧ D = szL (n.args.drop i) k m ∧ NdB tRn wr w.heap.size n p len cap ∧ Below w.heap.size w wr)
  case atStart => exact ⟨0, 1, by omega, rfl, rfl, by omega, by omega, HDP.out, hA0.out, hAB.out⟩
  case round =>
    obtain ⟨i, k, hig, rfl, rfl, hk1, hk2, hD, hnb, hbel⟩ := hrel
    have HD := Lib.hid hD
    have HBL := Lib.hid hbel
    have HNB := Lib.hid hnb
    have hzr := hbel.size
    clear hD hbel HDP hnb hA0 hAB
    obtain ⟨c0, c1, c2, c3, c4, c5⟩ := HNB.out.cells
    by_cases hlt : i < len
    · have hli : (i : Int) < (len : Int) := by omega
      obtain ⟨d', b, off, c, p', l', c', hd, rfl, hbN, hc, hrc, q0, q1, q2, q3, q4, q5⟩ := (HRD.out.below HBL.out).at hlt
      by_cases hkm : k ≤ m
      · have HC : Hid (SizeC d') := HIH.out d' hd
        have HCO := Lib.hid (HOK.out c (mem_at hc))
        have HD2 : Hid (D = szL (n.args.drop (i + 1)) (k + szN c (m - k)) m) := by unfold Hid; rw [HD.out, szL_at hc, if_pos hkm]
        have hcz := szN_le c (m - k)
        have HCC := Lib.hid (HC.out c p' l' c' (m - k) wr (hrc.mono HBL.out.size) HCO.out (by omega) (by omega))
        rw [ndA_eq] at HCC
        generalize szN c (m - k) = z at HCC HD2 hcz
        clear HC hc hrc HD hd
        go_wp2_with fail
        refine HCC.out.mono ?_
        rintro e w3 ⟨rfl, hb3⟩
        have hB3 : Hid (Below w.heap.size w w3) := bel_call hb3 HBL.out hzr
        have hN3 := Lib.hid (HNB.out.below hb3)
        clear hb3 c0 c1 c2 c3 c4 c5 q0 q1 q2 q3 q4 q5 HNB HBL HCC
        go_wp2_with fail
        go_roundg (gk - 1)
        case measure => omega
        case rel => exact ⟨i + 1, k + z, by omega, by go_num, by first | rfl | go_num, by omega, by omega, HD2.out, hN3.out, hB3.out⟩
      · have HDE : Hid (D = k) := by unfold Hid; rw [HD.out, szL_at hc, if_neg hkm]
        clear hc hrc
        go_wp2_with fail
        go_ret
        exact ⟨by rw [HDE.out]; rfl, HBL.out⟩
    · obtain rfl : i = len := by omega
      have hli : ¬ (i : Int) < (i : Int) := by omega
      have HDE : Hid (D = k) := by
        unfold Hid
        rw [HD.out, List.drop_eq_nil_of_le (by rw [HAL.out]; exact Nat.le_refl _), szL]
      go_wp2_with fail
      go_ret
      exact ⟨by rw [HDE.out]; rfl, HBL.out⟩
theorem size_any : ∀ d, SizeC d
  | 0 => size_s 0 (fun d' h => by omega)
  | d + 1 => size_s (d + 1) (fun d' h => (show d = d' from by omega) ▸ size_any d)
end Go.Proofs.YtigmcoelkkihkaaGreatDoor
namespace Go.Proofs.YtigmcoelkkihkaaGreatDoor
open Go.RowKit Go.Joins

def loK (k : Int) : Nat := if k = 5 then 1 else if k = 6 then 2 else 0
def hiK (k : Int) : Nat := if k = 5 then 1 else if k = 6 then 2 else if k = 7 then 16 else 0
def arB (k : Int) (len : Nat) : Bool := decide (loK k ≤ len) && decide (len ≤ hiK k)
def tagB (n : Nd) : Bool := if n.kind = 1 then decide (0 ≤ n.num) else if n.kind = 6 then decide (lvS n.text ≠ 0) else if n.kind = 7 then nameB n.text else true
/-- May a node be, its parts aside? -/
def headB (n : Nd) (lv : Int) : Bool := decide (1 ≤ lv) && (decide (1 ≤ n.kind) && (decide (n.kind ≤ 8) && arB n.kind n.args.length))
mutual
def rtN : Nd → Int → Bool
  | .mk k u t f o a, lv => (headB (.mk k u t f o a) lv && tagB (.mk k u t f o a)) && rtL a (lv - 1)
def rtL : List Nd → Int → Bool
  | [], _ => true
  | c :: r, lv => rtN c lv && rtL r lv
end
theorem rtN_eq (n : Nd) (lv : Int) : rtN n lv = ((headB n lv && tagB n) && rtL n.args (lv - 1)) := by cases n; rw [rtN]; rfl
theorem rtL_at {a : List Nd} {i : Nat} {c : Nd} {lv : Int} (h : a[i]? = some c) : rtL (a.drop i) lv = (rtN c lv && rtL (a.drop (i + 1)) lv) := by
  obtain ⟨hi, e⟩ := List.getElem?_eq_some_iff.1 h
  rw [List.drop_eq_getElem_cons hi, rtL, e]

end Go.Proofs.YtigmcoelkkihkaaGreatDoor
