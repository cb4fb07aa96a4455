/- Finding: small letters in the document's text, Search, and the walk of StrsFinds. -/
import Derived.Test.YtcmpeppjopdeaaaStrE
set_option linter.unusedSimpArgs false
set_option linter.unusedVariables false
namespace Go.Proofs.Ytcmpeppjopdeaaa
open Go.RowKit

theorem low_snoc (L : List UInt8) (k : Nat) (h : k < L.length) : lowL (L.take (k + 1)) = lowL (L.take k) ++ [UInt8.ofNat (lowc (nx L k))] := by
  rw [List.take_succ_eq_append_getElem h, nx_get h]
  unfold lowL
  rw [List.map_append]
  rfl

set_option maxRecDepth 100000 in
set_option maxHeartbeats 2000000 in
theorem refSmall_any (s : ByteArray) (hs : s.size ≤ 100000) (w : World) :
    Calls Try.prog 16 #[.string s] w fun e w' => e = .returned (.string ⟨(lowL s.data.toList).toArray⟩) ∧ Below w.heap.size w w' := by
  have hl : s.data.toList.length = s.size := by rw [← Lib.size_eq]
  have HLS := Lib.hid hl
  clear hl
  go_enter Try.func16, Try.ntmps16
  go_wp2_with fail
  go_loopw [3, 4] (fun o v wr => ∃ (k : Nat) (x : ByteArray), v = .int .i64 k ∧ o = .string x ∧ k ≤ s.size ∧ x = ⟨(lowL (s.data.toList.take k)).toArray⟩ ∧ Below w.heap.size w wr) (fun _ v _ => s.size - (intOf v).toNat)
  case atStart => exact ⟨0, _, rfl, rfl, by omega, rfl, Below.refl _ _⟩
  case round =>
    obtain ⟨k, x, rfl, rfl, hk, hx, hbel⟩ := hrel
    have hxs : x.size ≤ 100000 := by rw [hx, size_of, lowL_len]; simp; omega
    have HX := Lib.hid hx
    have HB := Lib.hid hbel
    have hzz := hbel.size
    clear hx hbel
    rcases Nat.lt_or_ge k s.size with hlt | hge
    · have hb1 := nx_str s k hlt
      obtain ⟨c, hc⟩ : ∃ c, nx s.data.toList k = c := ⟨_, rfl⟩
      have hc256 : c < 256 := by rw [← hc]; exact nx_lt _ _
      rw [hc] at hb1
      obtain ⟨d, hd⟩ : ∃ d, lowc c = d := ⟨_, rfl⟩
      have HN : Hid (x ++ ⟨[UInt8.ofNat d].toArray⟩ = ⟨(lowL (s.data.toList.take (k + 1))).toArray⟩) := by
        unfold Hid
        rw [HX.out, cat2, low_snoc _ k (by rw [HLS.out]; exact hlt), hc, hd]
      have hcv := fun (v : Int) => run_convert_bytes_arg (P := Try.prog) (wr.alloc (.cells #[.int .u8 v] 5)) 38 5 Try.underlying38 Try.underlying5 wr.heap.size 0 1 1 [v] rfl (fun i hi => by
        obtain rfl : i = 0 := by omega
        go_simp) 9 Try.underlying9
      have hz2 : (⟨[UInt8.ofNat d].toArray⟩ : ByteArray).size = 1 := rfl
      have HBN : ∀ o, Hid (Below w.heap.size w (wr.alloc o)) := fun o => HB.out.alloc hzz o
      by_cases h1 : (65 : Int) ≤ (c : Int)
      · by_cases h2 : (c : Int) ≤ 90
        · have hdc : d = c + 32 := by rw [← hd]; unfold lowc; rw [if_pos (by omega)]
          have hcv1 := hcv ((c : Int) + 32)
          rw [show strOfNums [(c : Int) + 32] = ⟨[UInt8.ofNat d].toArray⟩ by unfold strOfNums; rw [hdc]; simp only [List.map_cons, List.map_nil]; rw [show ((c : Int) + 32).toNat = c + 32 by omega]] at hcv1
          have g1 : (65 : Int) ≤ ((s[k].toNat : Nat) : Int) := by omega
          have g2 : ((s[k].toNat : Nat) : Int) ≤ 90 := by omega
          clear hcv hc hd hdc
          go_wp2_with fail
          go_roundw
          case rel => exact ⟨k + 1, _, by go_num, rfl, by omega, HN.out, (HBN _).out⟩
          case measure => simp [intOf]; omega
        · have hdc : d = c := by rw [← hd]; unfold lowc; rw [if_neg (by omega)]
          have hcv1 := hcv (c : Int)
          rw [show strOfNums [(c : Int)] = ⟨[UInt8.ofNat d].toArray⟩ by unfold strOfNums; rw [hdc]; rfl] at hcv1
          clear hcv hc hd hdc
          go_wp2_with fail
          go_roundw
          case rel => exact ⟨k + 1, _, by go_num, rfl, by omega, HN.out, (HBN _).out⟩
          case measure => simp [intOf]; omega
      · have hdc : d = c := by rw [← hd]; unfold lowc; rw [if_neg (by omega)]
        have hcv1 := hcv (c : Int)
        rw [show strOfNums [(c : Int)] = ⟨[UInt8.ofNat d].toArray⟩ by unfold strOfNums; rw [hdc]; rfl] at hcv1
        clear hcv hc hd hdc
        go_wp2_with fail
        go_roundw
        case rel => exact ⟨k + 1, _, by go_num, rfl, by omega, HN.out, (HBN _).out⟩
        case measure => simp [intOf]; omega
    · have HN : Hid (x = ⟨(lowL s.data.toList).toArray⟩) := by
        unfold Hid
        rw [HX.out, List.take_of_length_le (by rw [HLS.out]; exact hge)]
      go_wp2_with fail
      go_ret
      exact ⟨ret_s HN.out, HB.out⟩

set_option maxRecDepth 100000 in
set_option maxHeartbeats 1000000 in
theorem search_any (x s : ByteArray) (fr : Int) (hx : x.size ≤ 10000) (hs : s.size ≤ 10000) (w : World) (hsh : w.ShapedOpen Try.prog) :
    Calls Try.prog 14 #[.string x, .string s, .int .i64 fr] w fun e w' => RetF fr (lowL s.data.toList) (lowL x.data.toList) e ∧ Below w.heap.size w w' := by
  have HSH := Lib.hid hsh
  have hlx : (⟨(lowL x.data.toList).toArray⟩ : ByteArray).size ≤ 100000 := by rw [size_of, lowL_len, ← Lib.size_eq]; omega
  have hls : (⟨(lowL s.data.toList).toArray⟩ : ByteArray).size ≤ 100000 := by rw [size_of, lowL_len, ← Lib.size_eq]; omega
  clear hsh
  go_enter Try.func14, Try.ntmps14
  go_wp2_with fail
  refine (small_any x (by omega) _).mono ?_
  rintro e w1 ⟨rfl, hb1⟩
  have HB1 := Lib.hid hb1
  have hz1 := hb1.size
  clear hb1
  go_wp2_with fail
  refine (small_any s (by omega) _).mono ?_
  rintro e w2 ⟨rfl, hb2⟩
  have HB2 : Hid (Below w.heap.size w w2) := HB1.out.trans (hb2.mono hz1)
  have HSH2 := Lib.hid (shaped_below HSH.out HB2.out)
  clear hb2
  go_wp2_with fail
  refine (find_any _ _ fr hlx hls _ HSH2.out).mono ?_
  rintro e w3 ⟨⟨a, c, rfl, hr⟩, rfl⟩
  have HR := Lib.hid hr
  clear hr
  go_wp2_with fail
  go_ret2
  exact ⟨⟨a, c, rfl, HR.out⟩, HB2.out⟩
set_option maxRecDepth 100000 in
set_option maxHeartbeats 4000000 in
theorem finds_walk (x s : ByteArray) (fr : Int) (w : World) (hsh : w.ShapedOpen Try.prog) :
    Calls Try.prog 5 #[.string x, .string s, .int .i64 fr] w fun e w' => e = .returned (.bool true) ∧ Below w.heap.size w w' := by
  have HSH := Lib.hid hsh
  clear hsh
  by_cases h1 : s.size ≤ 400
  · by_cases h2 : x.size ≤ 400
    · have h1' : (s.size : Int) ≤ 400 := by omega
      have h2' : (x.size : Int) ≤ 400 := by omega
      have hl : s.data.toList.length = s.size := by rw [← Lib.size_eq]
      have hll : (lowL s.data.toList).length = s.size := by rw [lowL_len]; exact hl
      have HL := Lib.hid hl
      have HLL := Lib.hid hll
      clear hl hll
      by_cases hr : fr < 1 ∨ (s.size : Int) + 1 < fr
      · have hr' : fr < 1 ∨ (1 ≤ fr ∧ (s.size : Int) + 1 < fr) := by omega
        clear hr
        rcases hr' with g1 | ⟨g1, g2⟩
        all_goals
          go_enter Try.func5, Try.ntmps5
          go_wp2_with fail
          refine (find_any x s fr (by omega) (by omega) _ HSH.out).mono ?_
          rintro e w1 ⟨⟨a1, c1, rfl, hr1⟩, rfl⟩
          have ha1 : a1 = 0 ∧ c1 = 1 := by rw [HL.out] at hr1; omega
          obtain ⟨rfl, rfl⟩ := ha1
          clear hr1
          go_wp2_with fail
          refine (search_any x s fr (by omega) (by omega) _ HSH.out).mono ?_
          rintro e w2 ⟨⟨a2, c2, rfl, hr2⟩, hb2⟩
          have ha2 : a2 = 0 ∧ c2 = 1 := by rw [HLL.out] at hr2; omega
          obtain ⟨rfl, rfl⟩ := ha2
          have HB2 := Lib.hid hb2
          clear hr2 hb2
          go_wp2_with fail
          refine (awake_any _).mono ?_
          rintro e w3 ⟨rfl, hb3⟩
          have HB3 : Hid (Below w.heap.size w w3) := HB2.out.trans (hb3.mono HB2.out.size)
          clear hb3
          go_wp2_with fail
          go_ret
          exact ⟨rfl, HB3.out⟩
      · obtain ⟨g, hg⟩ : ∃ g : Nat, fr = (g : Int) + 1 := ⟨(fr - 1).toNat, by omega⟩
        subst hg
        have hgs : g ≤ s.size := by omega
        have e0 : ((g : Int) + 1 - 1).toNat = g := by omega
        have HE0 := Lib.hid e0
        obtain ⟨r1, hr1⟩ : ∃ r, fi s.data.toList x.data.toList g = r := ⟨_, rfl⟩
        obtain ⟨r2, hr2⟩ : ∃ r, fi (lowL s.data.toList) (lowL x.data.toList) g = r := ⟨_, rfl⟩
        have HR1 := Lib.hid hr1
        have HR2 := Lib.hid hr2
        have HF1 := Lib.hid (fun W => refFind_any x s (g : Int) g r1 (by omega) (by omega) rfl hgs hr1 W)
        have hs1 : (⟨(lowL x.data.toList).toArray⟩ : ByteArray).size ≤ 100000 := by rw [size_of, lowL_len, ← Lib.size_eq]; omega
        have hs2 : (⟨(lowL s.data.toList).toArray⟩ : ByteArray).size = s.size := by rw [size_of, lowL_len, ← Lib.size_eq]
        have HF2 := Lib.hid (fun W => refFind_any ⟨(lowL x.data.toList).toArray⟩ ⟨(lowL s.data.toList).toArray⟩ (g : Int) g r2 hs1 (by omega) rfl (by omega) hr2 W)
        have g1 : (1 : Int) ≤ (g : Int) + 1 := by omega
        have g2 : (g : Int) + 1 ≤ (s.size : Int) + 1 := by omega
        have key1 : (r1 = -1) ∨ (0 ≤ r1 ∧ r1 ≤ 400) := by
          rcases fi_cases s.data.toList x.data.toList g (by rw [HL.out]; exact hgs) with ⟨q1, _⟩ | ⟨k, q1, _, q2, q3⟩
          · left; rw [← hr1]; exact q1
          · right; rw [← hr1, q1]; rw [HL.out] at q3; omega
        have key2 : (r2 = -1) ∨ (0 ≤ r2 ∧ r2 ≤ 400) := by
          rcases fi_cases (lowL s.data.toList) (lowL x.data.toList) g (by rw [HLL.out]; exact hgs) with ⟨q1, _⟩ | ⟨k, q1, _, q2, q3⟩
          · left; rw [← hr2]; exact q1
          · right; rw [← hr2, q1]; rw [HLL.out] at q3; omega
        have HFA : Hid (∀ a c : Int, ((((g : Int) + 1 < 1 ∨ (s.data.toList.length : Int) + 1 < (g : Int) + 1) ∧ a = 0 ∧ c = 1) ∨ (1 ≤ (g : Int) + 1 ∧ (g : Int) + 1 ≤ (s.data.toList.length : Int) + 1 ∧ a = fi s.data.toList x.data.toList ((g : Int) + 1 - 1).toNat + 1 ∧ ((fi s.data.toList x.data.toList ((g : Int) + 1 - 1).toNat = -1 ∧ c = 6) ∨ (0 ≤ fi s.data.toList x.data.toList ((g : Int) + 1 - 1).toNat ∧ fi s.data.toList x.data.toList ((g : Int) + 1 - 1).toNat ≤ s.data.toList.length ∧ c = 0)))) → a = r1 + 1 ∧ ((r1 = -1 ∧ c = 6) ∨ (0 ≤ r1 ∧ c = 0))) := fun a c h => by
          rw [HE0.out, HR1.out, HL.out] at h; omega
        have HFB : Hid (∀ a c : Int, ((((g : Int) + 1 < 1 ∨ ((lowL s.data.toList).length : Int) + 1 < (g : Int) + 1) ∧ a = 0 ∧ c = 1) ∨ (1 ≤ (g : Int) + 1 ∧ (g : Int) + 1 ≤ ((lowL s.data.toList).length : Int) + 1 ∧ a = fi (lowL s.data.toList) (lowL x.data.toList) ((g : Int) + 1 - 1).toNat + 1 ∧ ((fi (lowL s.data.toList) (lowL x.data.toList) ((g : Int) + 1 - 1).toNat = -1 ∧ c = 6) ∨ (0 ≤ fi (lowL s.data.toList) (lowL x.data.toList) ((g : Int) + 1 - 1).toNat ∧ fi (lowL s.data.toList) (lowL x.data.toList) ((g : Int) + 1 - 1).toNat ≤ (lowL s.data.toList).length ∧ c = 0)))) → a = r2 + 1 ∧ ((r2 = -1 ∧ c = 6) ∨ (0 ≤ r2 ∧ c = 0))) := fun a c h => by
          rw [HE0.out, HR2.out, HLL.out] at h; omega
        clear hr hr1 hr2 hs1 hs2 e0
        rcases key1 with rfl | ⟨k1, k1'⟩
        all_goals rcases key2 with rfl | ⟨k2, k2'⟩
        all_goals
          go_enter Try.func5, Try.ntmps5
          go_wp2_with fail
          refine (find_any x s _ (by omega) (by omega) _ HSH.out).mono ?_
          rintro e w1 ⟨⟨a1, c1, rfl, hq1⟩, rfl⟩
          have ha1 := HFA.out a1 c1 hq1
          clear hq1
          obtain ⟨rfl, ha1⟩ := ha1
          rcases ha1 with ⟨q1, rfl⟩ | ⟨q1, rfl⟩ <;> (try (exfalso; omega))
          clear q1
          go_wp2_with fail
          refine (search_any x s _ (by omega) (by omega) _ HSH.out).mono ?_
          rintro e w2 ⟨⟨a2, c2, rfl, hq2⟩, hb2⟩
          have ha2 := HFB.out a2 c2 hq2
          clear hq2
          obtain ⟨rfl, ha2⟩ := ha2
          rcases ha2 with ⟨q2, rfl⟩ | ⟨q2, rfl⟩ <;> (try (exfalso; omega))
          have HB2 := Lib.hid hb2
          have hz2 := hb2.size
          clear q2 hb2
          go_wp2_with fail
          refine (HF1.out _).mono ?_
          rintro e w3 ⟨rfl, rfl⟩
          go_wp2_with fail
          refine (refSmall_any x (by omega) _).mono ?_
          rintro e w4 ⟨rfl, hb4⟩
          have HB4 : Hid (Below w.heap.size w w4) := HB2.out.trans (hb4.mono hz2)
          have hz4 := hb4.size
          clear hb4
          go_wp2_with fail
          refine (refSmall_any s (by omega) _).mono ?_
          rintro e w5 ⟨rfl, hb5⟩
          have HB5 : Hid (Below w.heap.size w w5) := HB4.out.trans (hb5.mono HB4.out.size)
          clear hb5
          go_wp2_with fail
          refine (HF2.out _).mono ?_
          rintro e w6 ⟨rfl, rfl⟩
          go_wp2_with fail
          refine (awake_any _).mono ?_
          rintro e w7 ⟨rfl, hb7⟩
          have HB7 : Hid (Below w.heap.size w w7) := HB5.out.trans (hb7.mono HB5.out.size)
          clear hb7
          go_wp2_with fail
          go_ret
          refine ⟨?_, HB7.out⟩
          first
            | rfl
            | (show Ending.returned (.bool (!decide (r2 < 0))) = _; rw [decide_eq_false (show ¬ r2 < 0 by omega)]; rfl)
    · have h1' : (s.size : Int) ≤ 400 := by omega
      have h2' : (400 : Int) < (x.size : Int) := by omega
      go_enter Try.func5, Try.ntmps5
      go_wp2_with fail
      refine (awake_any _).mono ?_
      rintro e w3 ⟨rfl, hb3⟩
      go_wp2_with fail
      go_ret
      exact ⟨rfl, hb3⟩
  · have h1' : (400 : Int) < (s.size : Int) := by omega
    go_enter Try.func5, Try.ntmps5
    go_wp2_with fail
    refine (awake_any _).mono ?_
    rintro e w3 ⟨rfl, hb3⟩
    go_wp2_with fail
    go_ret
    exact ⟨rfl, hb3⟩
end Go.Proofs.Ytcmpeppjopdeaaa
