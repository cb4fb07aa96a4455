/- Tidying: the document's Proper. -/
import Derived.Test.YtcmpeppjopdeaaaDoorStrI
set_option linter.unusedSimpArgs false
set_option linter.unusedVariables false
namespace Go.Proofs.YtcmpeppjopdeaaaDoor
open Go.RowKit

set_option maxRecDepth 100000 in
set_option maxHeartbeats 4000000 in
theorem refProper_any (s : ByteArray) (hs : s.size ≤ 100000) (w : World) :
    Calls Tryd.prog 8 #[.string s] w fun e w' => e = .returned (.string ⟨(prL s.data.toList).toArray⟩) ∧ Below w.heap.size w w' := by
  have hl : s.data.toList.length = s.size := by rw [← Lib.size_eq]
  have HLS := Lib.hid hl
  clear hl
  go_enter Tryd.func8, Tryd.ntmps8
  go_wp2_with fail
  go_loopw [3, 4] (fun o v wr => ∃ (k : Nat) (x : ByteArray), v = .int .i64 k ∧ o = .string x ∧ k ≤ s.size ∧ x = ⟨((prL s.data.toList).take k).toArray⟩ ∧ Below w.heap.size w wr) (fun _ v _ => s.size - (intOf v).toNat)
  case atStart => exact ⟨0, _, rfl, rfl, by omega, rfl, Below.refl _ _⟩
  case round =>
    obtain ⟨k, x, rfl, rfl, hk, hx, hbel⟩ := hrel
    have hxs : x.size ≤ 100000 := by rw [hx, size_of]; simp; omega
    have HX := Lib.hid hx
    have HB := Lib.hid hbel
    have hzz := hbel.size
    clear hx hbel
    rcases Nat.lt_or_ge k s.size with hlt | hge
    · obtain ⟨c, hc⟩ : ∃ c, lowc (nx s.data.toList k) = c := ⟨_, rfl⟩
      have hc256 : c < 256 := by rw [← hc]; exact lowc_lt _ (nx_lt _ _)
      have hx1 := ext_one s k hlt
      have hQ : (⟨(lowL (s.extract k (k + 1)).data.toList).toArray⟩ : ByteArray) = ⟨[UInt8.ofNat c].toArray⟩ := by
        rw [hx1]
        show (⟨(lowL [UInt8.ofNat (nx s.data.toList k)]).toArray⟩ : ByteArray) = _
        have := nx_lt s.data.toList k
        simp only [lowL, List.map_cons, List.map_nil]
        rw [show (UInt8.ofNat (nx s.data.toList k)).toNat = nx s.data.toList k by simp; omega, hc]
      have hsk : (s.extract k (k + 1)).size ≤ 100000 := by rw [hx1, size_of]; simp
      have HSMK := Lib.hid (fun W => refSmall_any (s.extract k (k + 1)) hsk W)
      rw [hQ] at HSMK
      obtain ⟨Q, hQQ⟩ : ∃ Q : ByteArray, Q = ⟨[UInt8.ofNat c].toArray⟩ := ⟨_, rfl⟩
      rw [← hQQ] at HSMK
      have hQs : Q.size = 1 := by rw [hQQ]; rfl
      have hQ0 : 0 < Q.size := by omega
      have hq0 := nx_str Q 0 hQ0
      have hq1 : nx Q.data.toList 0 = c := by rw [hQQ]; show (UInt8.ofNat c).toNat = c; simp; omega
      rw [hq1] at hq0
      have hcv := fun (W : World) (v : Int) => run_convert_bytes_arg (P := Tryd.prog) (W.alloc (.cells #[.int .u8 v] 5)) 32 5 Tryd.underlying32 Tryd.underlying5 W.heap.size 0 1 1 [v] rfl (fun i hi => by
        obtain rfl : i = 0 := by omega
        go_simp) 9 Tryd.underlying9
      clear hQ hsk hx1 hq1 hQQ
      cases hlb : letB c with
      | false =>
        have hd : prc s.data.toList k = c := by unfold prc; rw [hc, hlb]; rfl
        have HN : Hid (x ++ ⟨[UInt8.ofNat (c)].toArray⟩ = ⟨((prL s.data.toList).take (k + 1)).toArray⟩) := by
          unfold Hid
          rw [HX.out, cat2, prL_snoc _ k (by rw [HLS.out]; exact hlt), hd]
        have hz2 : (⟨[UInt8.ofNat (c)].toArray⟩ : ByteArray).size = 1 := rfl
        have hcv1 := fun (W : World) => hcv W (c : Int)
        simp only [show strOfNums [(c : Int)] = ⟨[UInt8.ofNat c].toArray⟩ from rfl] at hcv1
        have HLB := Lib.hid hlb
        clear hcv hd hlb hc 
        go_wp2_with fail
        refine (HSMK.out _).mono ?_
        rintro e w2 ⟨rfl, hb2⟩
        have HB2 : Hid (Below w.heap.size w w2) := HB.out.trans (hb2.mono hzz)
        have HBN : ∀ o, Hid (Below w.heap.size w (w2.alloc o)) := fun o => HB2.out.alloc HB2.out.size o
        clear hb2
        go_wp2_with fail
        refine (refLetter_any c false HLB.out _).mono ?_
        rintro e w3 ⟨rfl, rfl⟩
        go_wp2_with fail
        go_roundw
        case rel => exact ⟨k + 1, _, by go_num, rfl, by omega, HN.out, (HBN _).out⟩
        case measure => simp [intOf]; omega
      | true =>
        have hc97 := low_let (c := nx s.data.toList k) (by rw [hc]; exact hlb)
        rw [hc] at hc97
        obtain ⟨h97, h122⟩ := hc97
        rcases Nat.eq_zero_or_pos k with hk0 | hk0
        · have e0 : (((k : Nat) : Int) == 0) = true := by rw [hk0]; rfl
          have hd : prc s.data.toList k = c - 32 := by unfold prc; rw [hc, hlb, hk0]; simp
          have HN : Hid (x ++ ⟨[UInt8.ofNat (c - 32)].toArray⟩ = ⟨((prL s.data.toList).take (k + 1)).toArray⟩) := by
            unfold Hid
            rw [HX.out, cat2, prL_snoc _ k (by rw [HLS.out]; exact hlt), hd]
          have hz2 : (⟨[UInt8.ofNat (c - 32)].toArray⟩ : ByteArray).size = 1 := rfl
          have hcv1 := fun (W : World) => hcv W ((c : Int) - 32)
          simp only [show strOfNums [(c : Int) - 32] = ⟨[UInt8.ofNat (c - 32)].toArray⟩ by unfold strOfNums; simp only [List.map_cons, List.map_nil]; rw [show ((c : Int) - 32).toNat = c - 32 by omega]] at hcv1
          have HLB := Lib.hid hlb
          clear hcv hd hlb hc hk0
          go_wp2_with fail
          refine (HSMK.out _).mono ?_
          rintro e w2 ⟨rfl, hb2⟩
          have HB2 : Hid (Below w.heap.size w w2) := HB.out.trans (hb2.mono hzz)
          have HBN : ∀ o, Hid (Below w.heap.size w (w2.alloc o)) := fun o => HB2.out.alloc HB2.out.size o
          clear hb2
          go_wp2_with fail
          refine (refLetter_any c true HLB.out _).mono ?_
          rintro e w3 ⟨rfl, rfl⟩
          go_wp2_with fail
          go_roundw
          case rel => exact ⟨k + 1, _, by go_num, rfl, by omega, HN.out, (HBN _).out⟩
          case measure => simp [intOf]; omega
        · have e0 : (((k : Nat) : Int) == 0) = false := by simp; omega
          have hpv := nx_str s (k - 1) (by omega)
          obtain ⟨p, hp⟩ : ∃ p, nx s.data.toList (k - 1) = p := ⟨_, rfl⟩
          rw [hp] at hpv
          cases hlb2 : letB p with
          | true =>
            have hd : prc s.data.toList k = c := by unfold prc; rw [hc, hlb, hp, hlb2, decide_eq_false (by omega)]; rfl
            have HN : Hid (x ++ ⟨[UInt8.ofNat (c)].toArray⟩ = ⟨((prL s.data.toList).take (k + 1)).toArray⟩) := by
              unfold Hid
              rw [HX.out, cat2, prL_snoc _ k (by rw [HLS.out]; exact hlt), hd]
            have hz2 : (⟨[UInt8.ofNat (c)].toArray⟩ : ByteArray).size = 1 := rfl
            have hcv1 := fun (W : World) => hcv W (c : Int)
            simp only [show strOfNums [(c : Int)] = ⟨[UInt8.ofNat c].toArray⟩ from rfl] at hcv1
            have HLB := Lib.hid hlb
            have HLB2 := Lib.hid hlb2
            clear hcv hd hlb hc hp hlb2
            go_wp2_with fail
            refine (HSMK.out _).mono ?_
            rintro e w2 ⟨rfl, hb2⟩
            have HB2 : Hid (Below w.heap.size w w2) := HB.out.trans (hb2.mono hzz)
            have HBN : ∀ o, Hid (Below w.heap.size w (w2.alloc o)) := fun o => HB2.out.alloc HB2.out.size o
            clear hb2
            go_wp2_with fail
            refine (refLetter_any c true HLB.out _).mono ?_
            rintro e w3 ⟨rfl, rfl⟩
            go_wp2_with fail
            refine (refLetter_any p true HLB2.out _).mono ?_
            rintro e w3 ⟨rfl, rfl⟩
            go_wp2_with fail
            go_roundw
            case rel => exact ⟨k + 1, _, by go_num, rfl, by omega, HN.out, (HBN _).out⟩
            case measure => simp [intOf]; omega
          | false =>
            have hd : prc s.data.toList k = c - 32 := by unfold prc; rw [hc, hlb, hp, hlb2, decide_eq_false (by omega)]; simp
            have HN : Hid (x ++ ⟨[UInt8.ofNat (c - 32)].toArray⟩ = ⟨((prL s.data.toList).take (k + 1)).toArray⟩) := by
              unfold Hid
              rw [HX.out, cat2, prL_snoc _ k (by rw [HLS.out]; exact hlt), hd]
            have hz2 : (⟨[UInt8.ofNat (c - 32)].toArray⟩ : ByteArray).size = 1 := rfl
            have hcv1 := fun (W : World) => hcv W ((c : Int) - 32)
            simp only [show strOfNums [(c : Int) - 32] = ⟨[UInt8.ofNat (c - 32)].toArray⟩ by unfold strOfNums; simp only [List.map_cons, List.map_nil]; rw [show ((c : Int) - 32).toNat = c - 32 by omega]] at hcv1
            have HLB := Lib.hid hlb
            have HLB2 := Lib.hid hlb2
            clear hcv hd hlb hc hp hlb2
            go_wp2_with fail
            refine (HSMK.out _).mono ?_
            rintro e w2 ⟨rfl, hb2⟩
            have HB2 : Hid (Below w.heap.size w w2) := HB.out.trans (hb2.mono hzz)
            have HBN : ∀ o, Hid (Below w.heap.size w (w2.alloc o)) := fun o => HB2.out.alloc HB2.out.size o
            clear hb2
            go_wp2_with fail
            refine (refLetter_any c true HLB.out _).mono ?_
            rintro e w3 ⟨rfl, rfl⟩
            go_wp2_with fail
            refine (refLetter_any p false HLB2.out _).mono ?_
            rintro e w3 ⟨rfl, rfl⟩
            go_wp2_with fail
            go_roundw
            case rel => exact ⟨k + 1, _, by go_num, rfl, by omega, HN.out, (HBN _).out⟩
            case measure => simp [intOf]; omega
    · have HN : Hid (x = ⟨(prL s.data.toList).toArray⟩) := by
        unfold Hid
        rw [HX.out, List.take_of_length_le (by rw [prL_len, HLS.out]; exact hge)]
      go_wp2_with fail
      go_ret
      exact ⟨ret_s HN.out, HB.out⟩
end Go.Proofs.YtcmpeppjopdeaaaDoor
