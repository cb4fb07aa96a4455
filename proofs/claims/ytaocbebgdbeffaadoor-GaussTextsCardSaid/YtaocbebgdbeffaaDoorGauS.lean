/- Parse of whole complex numbers: the walk in general. -/
import Derived.Test.YtaocbebgdbeffaaDoorGauR
import Derived.Test.YtaocbebgdbeffaaDoorGauQ
import Derived.Outline
set_option linter.unusedSimpArgs false
set_option linter.unusedVariables false
namespace Go.Proofs.YtaocbebgdbeffaaDoor
open Go.RowKit

/-- What Parse answers to a text that ends with an i: its front, and the two texts that are read. -/
def pgOk (L RE IM : List UInt8) : Bool := nbOk RE && (nbOk IM && decide (ztxt (nbV RE) (nbV IM) = L))
def pgV (L RE IM : List UInt8) : Int × Int := if pgOk L RE IM then (nbV RE, nbV IM) else (0, 0)
/-- Which texts these are. -/
def pgParts (F RE IM0 IM : List UInt8) : Prop :=
  ((lpm F F.length ≤ 0 ∧ RE = [48] ∧ IM0 = F) ∨ (0 < lpm F F.length ∧ RE = F.take (lpm F F.length).toNat ∧ IM0 = Lib.trimPrefix (F.drop (lpm F F.length).toNat) [43])) ∧
  ((IM0 = [] ∧ IM = [49]) ∨ (IM0 = [45] ∧ IM = [45, 49]) ∨ (IM0 ≠ [] ∧ IM0 ≠ [45] ∧ IM = IM0))
theorem lpm_lt (L : List UInt8) : ∀ k, lpm L k < (k : Int)
  | 0 => by rw [lpm]; omega
  | k + 1 => by
    rw [lpm]
    split
    · omega
    · have := lpm_lt L k
      omega
theorem nbV_b (L : List UInt8) : -1048576 ≤ nbV L ∧ nbV L ≤ 1048576 := by
  cases h : nbOk L with
  | true => exact (nbOk_yes h).2
  | false => rw [nbOk_no h]; omega
theorem trim_len (L : List UInt8) : (Lib.trimPrefix L [43]).length ≤ L.length := by
  unfold Lib.trimPrefix
  split <;> simp
theorem number_lit (L : List UInt8) (hs : L.length ≤ 100000) (v : Int) (o : Bool) (h1 : nbV L = v) (h2 : nbOk L = o) (w : World) : Calls Tryd.prog 25 #[.string ⟨L.toArray⟩] w fun e w' => e = .returned (.tuple #[.int .i64 v, .bool o]) ∧ Below w.heap.size w w' := by
  subst h1 h2
  exact number_any ⟨L.toArray⟩ (by rw [Lib.size_eq]; exact hs) w
theorem ztext_lit (v u : Int) (T : List UInt8) (h1 : -1048576 ≤ v ∧ v ≤ 1048576) (h2 : -1048576 ≤ u ∧ u ≤ 1048576) (h : ztxt v u = T) (w : World) : Calls Tryd.prog 14 #[.complex .f64 (floatOfInt .f64 v) (floatOfInt .f64 u)] w fun e w' => e = .returned (.string ⟨T.toArray⟩) ∧ Below w.heap.size w w' := by
  subst h
  exact ztext_any _ _ v u (isF_of (by unfold M53; omega)) (isF_of (by unfold M53; omega)) h1.1 h1.2 h2.1 h2.2 w

set_option maxRecDepth 100000 in
set_option maxHeartbeats 4000000 in
theorem parse_i (s : ByteArray) (F RE IM0 IM : List UInt8) (hs : s.size ≤ 1000) (hF : s.data.toList = F ++ [105]) (hp : pgParts F RE IM0 IM) (w : World) (hT : Lib.Utf8Tabs 1 2 w) (hg : 2 < w.heap.size) :
    Calls Tryd.prog 11 #[.string s] w fun e w' => e = .returned (.tuple #[.complex .f64 (floatOfInt .f64 (pgV s.data.toList RE IM).1) (floatOfInt .f64 (pgV s.data.toList RE IM).2), .bool (pgOk s.data.toList RE IM)]) ∧ Below w.heap.size w w' := by
  have HCS : Hid (∀ W, Calls Tryd.prog 24 #[.string s, .string ⟨#[105]⟩] W fun e w' => e = .returned (.tuple #[.string ⟨F.toArray⟩, .bool true]) ∧ W = w') := fun W => (Tryd.strings_CutSuffix s ⟨#[105]⟩ W (by omega)).mono fun e w' h => ⟨h.1.trans (by
    rw [hF]
    simp [Lib.trimSuffix, Lib.hasSuffix]), h.2.symm⟩
  have hFl : F.length ≤ 1000 := by
    have := Lib.size_eq s
    rw [hF, List.length_append] at this
    omega
  have hFsz : (⟨F.toArray⟩ : ByteArray).size = F.length := by rw [Lib.size_eq]
  obtain ⟨at', hat⟩ : ∃ at', lpm F F.length = at' := ⟨_, rfl⟩
  have hatlt := lpm_lt F F.length
  have HLA : Hid (Calls Tryd.prog 26 #[.string ⟨F.toArray⟩, .string ⟨#[43, 45]⟩] w fun e w' => e = .returned (.int .i64 at') ∧ Below w.heap.size w w') := by
    unfold Hid
    rw [← hat]
    have := lastAny_any ⟨F.toArray⟩ (by omega) w hT hg
    rw [hFsz] at this
    exact this
  have hsl : s.toList = F ++ [105] := by rw [← hF, Lib.toList_data]
  obtain ⟨hp1, hp2⟩ := hp
  rw [hat] at hp1 hatlt
  clear hT hat
  obtain ⟨L, hL⟩ : ∃ L, s.data.toList = L := ⟨_, rfl⟩
  rw [hL]
  have hREl : RE.length ≤ 1001 := by
    rcases hp1 with ⟨_, h, _⟩ | ⟨_, h, _⟩
    · rw [h]; decide
    · rw [h, List.length_take]; omega
  have hIM0l : IM0.length ≤ 1000 := by
    rcases hp1 with ⟨_, _, h⟩ | ⟨_, _, h⟩
    · rw [h]; exact hFl
    · rw [h]
      have := trim_len (F.drop at'.toNat)
      rw [List.length_drop] at this
      omega
  have hIMl : IM.length ≤ 1001 := by
    rcases hp2 with ⟨_, h⟩ | ⟨_, h⟩ | ⟨_, _, h⟩
    · rw [h]; decide
    · rw [h]; decide
    · rw [h]; omega
  have HP1 := Lib.hid hp1
  have HP2 := Lib.hid hp2
  obtain ⟨f, hf⟩ : ∃ f : ByteArray, (⟨F.toArray⟩ : ByteArray) = f := ⟨_, rfl⟩
  rw [hf] at HCS HLA hFsz
  have HFS := Lib.hid hFsz
  have HF := Lib.hid hf
  have HLs := Lib.hid hsl
  have HLL := Lib.hid hL
  have HFF := Lib.hid hF
  clear hp1 hp2 hFsz hsl hL hF hf
  obtain ⟨vr, hvr⟩ : ∃ v, nbV RE = v := ⟨_, rfl⟩
  obtain ⟨or, hor⟩ : ∃ v, nbOk RE = v := ⟨_, rfl⟩
  obtain ⟨vi, hvi⟩ : ∃ v, nbV IM = v := ⟨_, rfl⟩
  obtain ⟨oi, hoi⟩ : ∃ v, nbOk IM = v := ⟨_, rfl⟩
  obtain ⟨T, hT⟩ : ∃ T, ztxt vr vi = T := ⟨_, rfl⟩
  have HN1 := Lib.hid (fun W => number_lit RE (by omega) vr or hvr hor W)
  have HN2 := Lib.hid (fun W => number_lit IM (by omega) vi oi hvi hoi W)
  have b1 := nbV_b RE
  have b2 := nbV_b IM
  rw [hvr] at b1
  rw [hvi] at b2
  have HTX := Lib.hid (fun W => ztext_lit vr vi T b1 b2 hT W)
  have HV : Hid (pgOk L RE IM = (or && (oi && decide (T = L))) ∧ pgV L RE IM = if (or && (oi && decide (T = L))) then (vr, vi) else (0, 0)) := by
    unfold Hid pgV pgOk
    rw [hvr, hor, hvi, hoi, hT]
    exact ⟨rfl, rfl⟩
  obtain ⟨O, hO⟩ : ∃ O, pgOk L RE IM = O := ⟨_, rfl⟩
  obtain ⟨V, hV⟩ : ∃ V, pgV L RE IM = V := ⟨_, rfl⟩
  rw [hO, hV] at HV ⊢
  clear hvr hor hvi hoi hT hO hV
  go_enter Tryd.func11, Tryd.ntmps11
  go_wp2_with fail
  refine (HCS.out _).mono ?_
  rintro e w1 ⟨rfl, rfl⟩
  go_wp2_with fail
  refine HLA.out.mono ?_
  rintro e w1 ⟨rfl, hb1⟩
  have hz1 := hb1.size
  go_upto_if 36 with fail
  go_cut [0, 9, 10] (fun v0 v9 v10 wx => v0 = .string s ∧ v9 = .string ⟨RE.toArray⟩ ∧ v10 = .string ⟨IM0.toArray⟩ ∧ Below w.heap.size w wx)
  case first =>
    rcases HP1.out with ⟨h0, rfl, rfl⟩ | ⟨h0, hRE, hIM⟩
    · have hn0 : ¬ (0 : Int) < at' := by omega
      go_wp2_with fail
      go_meet
      exact ⟨rfl, rfl, by rw [HF.out], hb1⟩
    · obtain ⟨k, rfl⟩ : ∃ k : Nat, at' = (k : Int) := ⟨at'.toNat, by omega⟩
      rw [Int.toNat_natCast] at hRE hIM
      have hkl : k ≤ F.length := by omega
      have hfs := HFS.out
      have hf := HF.out
      have hx1 : f.extract 0 k = ⟨RE.toArray⟩ := by
        apply ByteArray.ext
        rw [← hf, hRE]
        simp
      obtain ⟨u, hu⟩ : ∃ u, f.extract k f.size = u := ⟨_, rfl⟩
      have hud : u.data.toList = F.drop k := by
        rw [← hu, Lib.extract_data, hfs, ← hf]
        exact List.take_of_length_le (by simp)
      have HTP : Hid (∀ W, Calls Tryd.prog 27 #[.string u, .string ⟨#[43]⟩] W fun e w' => e = .returned (.string ⟨IM0.toArray⟩) ∧ w' = W) := fun W => (Tryd.strings_TrimPrefix u ⟨#[43]⟩ W).mono fun e w' h => ⟨h.1.trans (by rw [hud, hIM]), h.2⟩
      have hki : (k : Int) ≤ (f.size : Int) := by omega
      clear hud hRE hIM hf hfs
      go_wp2_with fail
      go_quiet ((go_at_call 27; exact Calls.quiet_of_same (HTP.out _)))
      all_goals
        go_wp2_with fail
        go_meet
        exact ⟨by first | rfl | go_simp, by first | rfl | go_simp, by first | rfl | go_simp, by (repeat' (first | (with_reducible exact Below.refl _ _) | (with_reducible assumption) | (with_reducible refine Below.alloc ?_ ?_ _) | (with_reducible refine bel_drewN ?_ _) | (with_reducible refine Below.drew ?_) | (with_reducible refine Below.setCell ?_ ?_ _) | (with_reducible refine bel_call ‹_› ?_ ?_) | go_size))⟩
  case rest =>
    obtain ⟨rfl, rfl, rfl, hb2⟩ := hcut
    clear hb1 hz1
    go_upto_region 9 with fail
    go_cut [0, 9, 10, 49] (fun v0 v9 v10 v49 wx => v0 = .string s ∧ v9 = .string ⟨RE.toArray⟩ ∧ v10 = .string ⟨IM0.toArray⟩ ∧ v49 = .bool (decide (IM0 = [] ∨ IM0 = [45])) ∧ wx = wc)
    case first =>
      rcases HP2.out with ⟨rfl, h2⟩ | ⟨rfl, h2⟩ | ⟨h1, h2, h3⟩
      · clear h2
        go_wp2_with fail
        go_meet
        exact ⟨rfl, rfl, rfl, rfl, rfl⟩
      · clear h2
        go_wp2_with fail
        go_meet
        exact ⟨rfl, rfl, rfl, rfl, rfl⟩
      · obtain ⟨m, hm⟩ : ∃ m : ByteArray, m = ⟨IM0.toArray⟩ := ⟨_, rfl⟩
        have hm1 : m.toList = IM0 := by rw [Lib.toList_data, hm]
        have hne1 : (m.toList == []) = false := by rw [hm1]; simp [h1]
        have hne2 : m.toList.isEmpty = false := by rw [hm1]; simp [h1]
        have hne3 : (m.toList == [45]) = false := by rw [hm1]; simp [h2]
        have hd : decide (IM0 = [] ∨ IM0 = [45]) = false := decide_eq_false (by simp [h1, h2])
        rw [← hm]
        have HD := Lib.hid hd
        have HM := Lib.hid hm
        clear hm1 hm h3 hd
        go_wp2_with fail
        go_meet
        exact ⟨rfl, rfl, by rw [← HM.out], by rw [HD.out], rfl⟩
    case rest =>
      obtain ⟨rfl, rfl, rfl, rfl, rfl⟩ := hcut
      go_upto_if 49 with fail
      go_cut [0, 9, 10] (fun v0 v9 v10 wx => v0 = .string s ∧ v9 = .string ⟨RE.toArray⟩ ∧ v10 = .string ⟨IM.toArray⟩ ∧ Below w.heap.size w wx)
      case first =>
        rcases HP2.out with ⟨rfl, rfl⟩ | ⟨rfl, rfl⟩ | ⟨h1, h2, rfl⟩
        · rw [show decide (([] : List UInt8) = [] ∨ ([] : List UInt8) = [45]) = true from rfl]
          go_wp2_with fail
          go_meet
          exact ⟨rfl, rfl, rfl, hb2⟩
        · rw [show decide (([45] : List UInt8) = [] ∨ ([45] : List UInt8) = [45]) = true from rfl]
          go_wp2_with fail
          go_meet
          exact ⟨rfl, rfl, rfl, hb2⟩
        · have hd := decide_eq_false (show ¬ (IM = [] ∨ IM = [45]) from by simp [h1, h2])
          rw [hd]
          clear hd
          go_wp2_with fail
          go_meet
          exact ⟨rfl, rfl, rfl, hb2⟩
      case rest =>
        obtain ⟨rfl, rfl, rfl, hb3⟩ := hcut
        go_wp2_with fail
        refine (HN1.out _).mono ?_
        rintro e w4 ⟨rfl, hb4⟩
        go_wp2_with fail
        refine (HN2.out _).mono ?_
        rintro e w5 ⟨rfl, hb5⟩
        have hb6 : Below w.heap.size w w5 := (hb3.trans (hb4.mono hb3.size)).trans (hb5.mono (by have := hb3.size; have := hb4.size; omega))
        clear hb2 hb3 hb4 hb5
        cases or
        · obtain ⟨rfl, rfl⟩ : O = false ∧ V = (0, 0) := HV.out
          clear HV
          go_wp2_with fail
          go_ret2
          exact ⟨rfl, hb6⟩
        · cases oi
          · obtain ⟨rfl, rfl⟩ : O = false ∧ V = (0, 0) := HV.out
            clear HV
            go_wp2_with fail
            go_ret2
            exact ⟨rfl, hb6⟩
          · by_cases hTL : T = L
            · have h1 := HV.out
              rw [decide_eq_true hTL] at h1
              obtain ⟨rfl, rfl⟩ : O = true ∧ V = (vr, vi) := h1
              have hse : s = ⟨T.toArray⟩ := by
                apply ByteArray.ext
                rw [hTL, ← HLL.out]
              subst hse
              clear HV hTL
              go_wp2_with fail
              refine (HTX.out _).mono ?_
              rintro e w7 ⟨rfl, hb7⟩
              go_wp2_with fail
              go_ret2
              exact ⟨rfl, hb6.trans (hb7.mono hb6.size)⟩
            · have h1 := HV.out
              rw [decide_eq_false hTL] at h1
              obtain ⟨rfl, rfl⟩ : O = false ∧ V = (0, 0) := h1
              obtain ⟨tt, htt⟩ : ∃ tt : ByteArray, tt = ⟨T.toArray⟩ := ⟨_, rfl⟩
              have hne : tt ≠ s := by
                intro h
                apply hTL
                rw [← HLL.out, ← h, htt]
              have hne1 : (tt.toList == s.toList) = false := by
                rw [Lib.toList_data, Lib.toList_data]
                simp
                intro h
                exact hne (ByteArray.ext h)
              rw [← htt] at HTX
              clear HV hTL htt
              go_wp2_with fail
              refine (HTX.out _).mono ?_
              rintro e w7 ⟨rfl, hb7⟩
              go_wp2_with fail
              go_ret2
              exact ⟨rfl, hb6.trans (hb7.mono hb6.size)⟩
end Go.Proofs.YtaocbebgdbeffaaDoor
