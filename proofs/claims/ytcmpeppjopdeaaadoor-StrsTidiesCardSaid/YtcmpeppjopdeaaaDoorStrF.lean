/- Finding: small letters in the document's text, Search, and the walk of StrsFinds. -/
import Derived.Test.YtcmpeppjopdeaaaDoorStrE
set_option linter.unusedSimpArgs false
set_option linter.unusedVariables false

namespace Go.Proofs.YtcmpeppjopdeaaaDoor
open Go.RowKit

theorem low_snoc (L : List UInt8) (k : Nat) (h : k < L.length) : lowL (L.take (k + 1)) = lowL (L.take k) ++ [UInt8.ofNat (lowc (nx L k))] := by
  rw [List.take_succ_eq_append_getElem h, nx_get h]
  unfold lowL
  rw [List.map_append]
  rfl

set_option maxRecDepth 100000 in
set_option maxHeartbeats 2000000 in
theorem refSmall_any (s : ByteArray) (hs : s.size ≤ 100000) (w : World) :
    Calls Tryd.prog 17 #[.string s] w fun e w' => e = .returned (.string ⟨(lowL s.data.toList).toArray⟩) ∧ Below w.heap.size w w' := by
  have hl : s.data.toList.length = s.size := by rw [← Lib.size_eq]
  have HLS := Lib.hid hl
  clear hl
  go_enter Tryd.func17, Tryd.ntmps17
  go_wp2_with fail
  go_loopw [3, 4] (fun o v wr => ∃ (k : Nat) (x : ByteArray), v = .int .i64 k ∧ o = .string x ∧ k ≤ s.size ∧ x = ⟨(lowL (s.data.toList.take k)).toArray⟩ ∧ Below w.heap.size w wr) (fun _ v _ => s.size - (intOf v).toNat)
  case atStart => exact ⟨0, _, rfl, rfl, by omega, rfl, Below.refl _ _⟩
  case round =>
    obtain ⟨k, x, rfl, rfl, hk, hx, hbel⟩ := hrel
    have hxs : x.size ≤ 100000 := by rw [hx, size_of, lowL_len]; simp; omega
    have HX := Lib.hid hx
    have HB := Lib.hid hbel
    have hzz := hbel.size
    clear hx hbel
    rcases Nat.lt_or_ge k s.size with hlt | hge
    · have hb1 := nx_str s k hlt
      obtain ⟨c, hc⟩ : ∃ c, nx s.data.toList k = c := ⟨_, rfl⟩
      have hc256 : c < 256 := by rw [← hc]; exact nx_lt _ _
      rw [hc] at hb1
      obtain ⟨d, hd⟩ : ∃ d, lowc c = d := ⟨_, rfl⟩
      have HN : Hid (x ++ ⟨[UInt8.ofNat d].toArray⟩ = ⟨(lowL (s.data.toList.take (k + 1))).toArray⟩) := by
        unfold Hid
        rw [HX.out, cat2, low_snoc _ k (by rw [HLS.out]; exact hlt), hc, hd]
      have hcv := fun (v : Int) => run_convert_bytes_arg (P := Tryd.prog) (wr.alloc (.cells #[.int .u8 v] 5)) 32 5 Tryd.underlying32 Tryd.underlying5 wr.heap.size 0 1 1 [v] rfl (fun i hi => by
        obtain rfl : i = 0 := by omega
        go_simp) 9 Tryd.underlying9
      have hz2 : (⟨[UInt8.ofNat d].toArray⟩ : ByteArray).size = 1 := rfl
      have HBN : ∀ o, Hid (Below w.heap.size w (wr.alloc o)) := fun o => HB.out.alloc hzz o
      by_cases h1 : (65 : Int) ≤ (c : Int)
      · by_cases h2 : (c : Int) ≤ 90
        · have hdc : d = c + 32 := by rw [← hd]; unfold lowc; rw [if_pos (by omega)]
          have hcv1 := hcv ((c : Int) + 32)
          rw [show strOfNums [(c : Int) + 32] = ⟨[UInt8.ofNat d].toArray⟩ by unfold strOfNums; rw [hdc]; simp only [List.map_cons, List.map_nil]; rw [show ((c : Int) + 32).toNat = c + 32 by omega]] at hcv1
          have g1 : (65 : Int) ≤ ((s[k].toNat : Nat) : Int) := by omega
          have g2 : ((s[k].toNat : Nat) : Int) ≤ 90 := by omega
          clear hcv hc hd hdc
          go_wp2_with fail
          go_roundw
          case rel => exact ⟨k + 1, _, by go_num, rfl, by omega, HN.out, (HBN _).out⟩
          case measure => simp [intOf]; omega
        · have hdc : d = c := by rw [← hd]; unfold lowc; rw [if_neg (by omega)]
          have hcv1 := hcv (c : Int)
          rw [show strOfNums [(c : Int)] = ⟨[UInt8.ofNat d].toArray⟩ by unfold strOfNums; rw [hdc]; rfl] at hcv1
          clear hcv hc hd hdc
          go_wp2_with fail
          go_roundw
          case rel => exact ⟨k + 1, _, by go_num, rfl, by omega, HN.out, (HBN _).out⟩
          case measure => simp [intOf]; omega
      · have hdc : d = c := by rw [← hd]; unfold lowc; rw [if_neg (by omega)]
        have hcv1 := hcv (c : Int)
        rw [show strOfNums [(c : Int)] = ⟨[UInt8.ofNat d].toArray⟩ by unfold strOfNums; rw [hdc]; rfl] at hcv1
        clear hcv hc hd hdc
        go_wp2_with fail
        go_roundw
        case rel => exact ⟨k + 1, _, by go_num, rfl, by omega, HN.out, (HBN _).out⟩
        case measure => simp [intOf]; omega
    · have HN : Hid (x = ⟨(lowL s.data.toList).toArray⟩) := by
        unfold Hid
        rw [HX.out, List.take_of_length_le (by rw [HLS.out]; exact hge)]
      go_wp2_with fail
      go_ret
      exact ⟨ret_s HN.out, HB.out⟩

end Go.Proofs.YtcmpeppjopdeaaaDoor
