/- Script: the document's Number, num. -/
import Derived.Test.YtddoghjopihkpaaDoorScrX
import Derived.Test.YtddoghjopihkpaaDoorQuick
set_option linter.unusedSimpArgs false
set_option linter.unusedVariables false
namespace Go.Proofs.YtddoghjopihkpaaDoor
open Go.RowKit Go.Joins

theorem nmF_pre (L : Bs) (i m : Nat) (h : i < L.length) (hm : nmF 0 (L.take (i + 1)) = some m) : ∃ v, nmF 0 (L.take i) = some v ∧ 48 ≤ btN L i ∧ btN L i ≤ 57 ∧ m = 10 * v + (btN L i - 48) ∧ m ≤ 1048576 := by
  rw [List.take_succ_eq_append_getElem h, nmF_snoc] at hm
  cases hv : nmF 0 (L.take i) with
  | none => rw [hv] at hm; cases hm
  | some v =>
    rw [hv] at hm
    simp only [Option.bind_some, nmF] at hm
    rw [btN_get h]
    split at hm
    · rename_i hc
      cases hm
      exact ⟨v, rfl, hc.1, hc.2.1, rfl, hc.2.2⟩
    · cases hm
theorem nmb_fold {L : Bs} {m : Nat} (h : nmb L = some m) : nmF 0 L = some m := by
  unfold nmb at h
  split at h
  · cases h
  · split at h
    · cases h
    · exact h
theorem nmb_long {L : Bs} (h : 18 < L.length) : nmb L = none := by
  cases hm : nmb L with
  | none => rfl
  | some m =>
    have := dcL_len m
    rw [← nmb_inv hm] at this
    omega
theorem nmb_val {L : Bs} {V : Int} (hV : ∀ m, nmF 0 L = some m → V = (m : Int)) (hno : V < 0 ∨ 1048576 < V ∨ (0 ≤ V ∧ V ≤ 1048576 ∧ sgL V ≠ L)) : nmb L = none := by
  cases hm : nmb L with
  | none => rfl
  | some m =>
    have e := hV m (nmb_fold hm)
    have hle := nmb_le hm
    rcases hno with h | h | ⟨_, _, h⟩
    · omega
    · omega
    · exfalso
      apply h
      rw [e, sgN]
      exact (nmb_inv hm).symm
theorem nmb_yes {L : Bs} {V : Int} (h0 : 0 ≤ V) (h1 : V ≤ 1048576) (h : sgL V = L) : nmb L = some V.toNat := by
  obtain ⟨v, rfl⟩ : ∃ v : Nat, V = (v : Int) := ⟨V.toNat, by omega⟩
  rw [sgN] at h
  rw [← h]
  exact nmb_dc v (by omega)

set_option maxRecDepth 100000 in
set_option maxHeartbeats 8000000 in
theorem rnumber_any (s : ByteArray) (hs : s.size ≤ 100000) (w : World) : Calls Tryd.prog 29 #[.string s, .int .i64 1048576] w fun e w' => e = .returned (.tuple #[.int .i64 (((nmb s.data.toList).getD 0 : Nat) : Int), .bool (nmb s.data.toList).isSome]) ∧ Below w.heap.size w w' := by
  have HSZ : Hid (s.data.toList.length = s.size) := (Lib.size_eq s).symm
  have HBT := Lib.hid (btN_str s)
  have HPR := Lib.hid (nmF_pre s.data.toList)
  have HLG := Lib.hid (@nmb_long s.data.toList)
  have HVA := Lib.hid (fun V => @nmb_val s.data.toList V)
  have HYE := Lib.hid (fun V => @nmb_yes s.data.toList V)
  have HTO : Hid (s.toList = s.data.toList) := by
    unfold Hid
    conv => lhs; rw [show s = ⟨(s.data.toList).toArray⟩ from by simp]
    rw [Lib.toList_data]
  generalize hLL : s.data.toList = L at HSZ HBT HPR HLG HVA HYE HTO
  clear hLL
  obtain ⟨O, hO⟩ : ∃ O, nmb L = O := ⟨_, rfl⟩
  have HO := Lib.hid hO
  rw [hO]
  clear hO
  go_enter Tryd.func29, Tryd.ntmps29
  go_wp2_with fail
  go_loopg [6, 7] s.size (fun g v6 v7 wr => ∃ (i : Nat) (V : Int), i + g = s.size ∧ i ≤ 18 ∧ i ≤ s.size ∧ v7 = .int .i64 i ∧ v6 = .int .i64 V ∧ (∀ m, nmF 0 (L.take i) = some m → V = (m : Int)) ∧ wr = w)
  case atStart => exact ⟨0, 0, by omega, by omega, by omega, rfl, rfl, fun m hm => by cases hm; rfl, rfl⟩
  case round =>
    obtain ⟨i, V, hig, hi18, hin, rfl, rfl, hV, rfl⟩ := hrel
    have HV := Lib.hid hV
    clear hV
    by_cases hgo : i < s.size ∧ i < 18
    · obtain ⟨hlt, h18⟩ := hgo
      have hli : (i : Int) < (s.size : Int) := by omega
      have hl18 : (i : Int) < 18 := by omega
      have hi0 : (0 : Int) ≤ (i : Int) := by omega
      have hb := HBT.out i hlt
      have hb256 := btN_lt L i
      have HN : Hid (∀ m, nmF 0 (L.take (i + 1)) = some m → IntKind.i64.wrap (IntKind.i64.wrap (IntKind.i64.wrap (V * 10) + (btN L i : Int)) - 48) = (m : Int)) := by
        intro m hm
        obtain ⟨v, h1, h2, h3, h4, h5⟩ := HPR.out i m (by rw [HSZ.out]; exact hlt) hm
        have e := HV.out v h1
        rw [e, IntWalk.i64_in ((v : Int) * 10) (by omega), IntWalk.i64_in ((v : Int) * 10 + (btN L i : Int)) (by omega), IntWalk.i64_in _ (by omega)]
        omega
      generalize btN L i = c at hb HN hb256
      have hbi : (((s[i]'hlt).toNat : Nat) : Int) = (c : Int) := by rw [hb]
      clear hb
      generalize hX : IntKind.i64.wrap (IntKind.i64.wrap (IntKind.i64.wrap (V * 10) + (c : Int)) - 48) = X at HN
      have hcc : IntKind.i64.wrap (c : Int) = (c : Int) := IntWalk.i64_in _ (by omega)
      go_wp2_with fail
      go_roundg (gk - 1)
      case measure => omega
      case rel => exact ⟨i + 1, X, by omega, by omega, by omega, by go_num, by first | rfl | (rw [← hX]; rfl) | (rw [← hX]; simp only [IntKind.wrap_i64, wrap64]), HN.out, rfl⟩
    · by_cases hl : 18 < s.size
      · have hli : (18 : Int) < (s.size : Int) := by omega
        obtain rfl : i = 18 := by omega
        have HX := Lib.hid (HLG.out (by rw [HSZ.out]; omega))
        have hOn := Lib.hid (HO.out.symm.trans HX.out)
        go_wp2_with fail
        go_ret2
        exact ⟨by rw [hOn.out]; rfl, Below.refl _ _⟩
      · obtain rfl : i = s.size := by omega
        have hlx : ¬ (18 : Int) < (s.size : Int) := by omega
        have hli : ¬ (s.size : Int) < (s.size : Int) := by omega
        have HVF : Hid (∀ m, nmF 0 L = some m → V = (m : Int)) := by
          unfold Hid
          intro m hm
          exact HV.out m (by rw [List.take_of_length_le (by rw [HSZ.out]; exact Nat.le_refl _)]; exact hm)
        clear HV HPR HBT HLG
        by_cases hn : V < 0
        · have HX := Lib.hid (HVA.out V HVF.out (.inl hn))
          have hOn := Lib.hid (HO.out.symm.trans HX.out)
          go_wp2_with fail
          go_ret2
          exact ⟨by rw [hOn.out]; rfl, Below.refl _ _⟩
        · by_cases hm : 1048576 < V
          · have HX := Lib.hid (HVA.out V HVF.out (.inr (.inl hm)))
            have hOn := Lib.hid (HO.out.symm.trans HX.out)
            go_wp2_with fail
            go_ret2
            exact ⟨by rw [hOn.out]; rfl, Below.refl _ _⟩
          · have HD := Lib.hid (fun W => refDigits_any V (by omega) (by omega) W)
            by_cases hq : sgL V = L
            · have HX := Lib.hid (HYE.out V (by omega) (by omega) hq)
              have hVV : Hid (((V.toNat : Nat) : Int) = V) := by unfold Hid; omega
              have hOn := Lib.hid (HO.out.symm.trans HX.out)
              rw [hq] at HD
              have hqq : ((⟨L.toArray⟩ : ByteArray).toList == s.toList) = true := by rw [Lib.toList_data, HTO.out]; simp
              clear hq HVF HVA HYE
              generalize (⟨L.toArray⟩ : ByteArray) = D at HD hqq
              go_wp2_with fail
              refine (HD.out _).mono ?_
              rintro e w2 ⟨rfl, hb2⟩
              go_wp2_with fail
              go_ret2
              exact ⟨by rw [hOn.out]; simp only [Option.getD_some, Option.isSome_some]; rw [hVV.out]; rfl, hb2⟩
            · have HX := Lib.hid (HVA.out V HVF.out (.inr (.inr ⟨by omega, by omega, hq⟩)))
              have hOn := Lib.hid (HO.out.symm.trans HX.out)
              have hqq : ((⟨(sgL V).toArray⟩ : ByteArray).toList == s.toList) = false := by rw [Lib.toList_data, HTO.out]; simpa using hq
              clear hq HVF HVA HYE
              generalize (⟨(sgL V).toArray⟩ : ByteArray) = D at HD hqq
              go_wp2_with fail
              refine (HD.out _).mono ?_
              rintro e w2 ⟨rfl, hb2⟩
              go_wp2_with fail
              go_ret2
              exact ⟨by rw [hOn.out]; rfl, hb2⟩
set_option maxRecDepth 100000 in
set_option maxHeartbeats 1000000 in
theorem rnum_any (L : Bs) (hL : L.length ≤ 100000) (w : World) : Calls Tryd.prog 19 #[.string ⟨L.toArray⟩] w fun e w' => e = .returned (.int .i64 (numS L)) ∧ Below w.heap.size w w' := by
  have HN := Lib.hid (rnumber_any ⟨L.toArray⟩ (by rw [sizeL]; exact hL) w)
  rw [show (⟨L.toArray⟩ : ByteArray).data.toList = L from rfl] at HN
  unfold numS
  generalize (((nmb L).getD 0 : Nat) : Int) = v at HN ⊢
  generalize (nmb L).isSome = b at HN
  generalize (⟨L.toArray⟩ : ByteArray) = A at HN ⊢
  go_enter Tryd.func19, Tryd.ntmps19
  go_wp2_with fail
  refine HN.out.mono ?_
  rintro e w1 ⟨rfl, hb⟩
  go_wp2_with fail
  go_ret
  exact ⟨rfl, hb⟩
end Go.Proofs.YtddoghjopihkpaaDoor
