/- Digits of the document's answer. -/
import Derived.Test.YtilajcibjlcffaaGreatDoorDecE
set_option linter.unusedSimpArgs false
set_option linter.unusedVariables false

namespace Go.Proofs.YtilajcibjlcffaaGreatDoor
open Go.RowKit

theorem padL_len (n least : Nat) : (padL n least).length = max (digs n).length least := by
  simp [padL]; omega
theorem padL_nth (n least j : Nat) : nth (padL n least) j = nth (digs n) j := by
  unfold nth padL
  rw [List.getD_eq_getElem?_getD, List.getD_eq_getElem?_getD, List.getElem?_append]
  split
  · rfl
  · rename_i h
    rw [List.getElem?_eq_none (by omega : (digs n).length ≤ j), List.getElem?_replicate]
    split <;> rfl
theorem padL_lt (n least : Nat) : ∀ d ∈ padL n least, d < 10 := by
  intro d hd
  rcases List.mem_append.1 hd with h | h
  · exact digs_lt n d h
  · rw [(List.mem_replicate.1 h).2]; omega

theorem dig_step {T : List Nat} {m j d : Nat} (hl : T.length = m) (hj : j < m) (hd : nth T j = d) : (⟨(lettersOf [d] ++ lettersOf (T.take j).reverse).toArray⟩ : ByteArray) = ⟨(lettersOf (T.take (j + 1)).reverse).toArray⟩ := by
  have h : T.take (j + 1) = T.take j ++ [d] := by
    rw [List.take_succ_eq_append_getElem (by omega)]
    congr 2
    rw [← hd, nth_get (by omega)]
  rw [h, List.reverse_append]
  simp [lettersOf]

set_option maxRecDepth 100000 in
set_option maxHeartbeats 1000000 in
theorem refDigits_any (p : Option Addr) (n cap : Nat) (x least : Nat) (hn : n ≤ 200) (hl : least ≤ 100) (w : World) (hA : RdN w p n cap (digs x)) :
    Calls Tryz.prog 101 #[.slice p n cap, .int .i64 least] w fun e w' => e = .returned (.string ⟨(dgText x least).toArray⟩) ∧ Below w.heap.size w w' := by
  have HA := Lib.hid hA
  have HL := Lib.hid hA.len
  clear hA
  go_enter Tryz.func101, Tryz.ntmps101
  go_wp2_with fail
  obtain ⟨T, hT⟩ : ∃ T, padL x least = T := ⟨_, rfl⟩
  have hTl : T.length = max n least := by rw [← hT, padL_len, HL.out]
  have HTN := Lib.hid (show ∀ j, nth T j = nth (digs x) j from fun j => by rw [← hT]; exact padL_nth x least j)
  have HTD := Lib.hid (show ∀ d ∈ T, d < 10 from by rw [← hT]; exact padL_lt x least)
  have HT := Lib.hid hT
  clear hT
  obtain ⟨m, hm⟩ : ∃ m, max n least = m := ⟨_, rfl⟩
  rw [hm] at hTl
  have HTL := Lib.hid hTl
  clear hTl
  go_loopg [5, 6] m (fun g v5 v6 wr => Below w.heap.size w wr ∧ ∃ (j : Nat) (s : ByteArray), j + g = m ∧ v6 = .int .i64 j ∧ v5 = .string s ∧ s = ⟨(lettersOf (T.take j).reverse).toArray⟩)
  case atStart => exact ⟨Below.refl _ _, 0, ⟨#[]⟩, by omega, rfl, rfl, rfl⟩
  case round =>
    obtain ⟨hbel, j, s, hj, rfl, rfl, hs⟩ := hrel
    have HS := Lib.hid hs
    have hss := hbel.size
    clear hs
    by_cases hgo : j < m
    · have h1 : j < n ∨ (¬ j < n ∧ j < least) := by omega
      rcases h1 with h1 | ⟨h1, h2⟩
      all_goals
        go_wp2_with fail
        refine (digit_any p n cap (digs x) j (by omega) _ (HA.out.below (by assumption))).mono ?_
        rintro e w1 ⟨rfl, rfl⟩
        obtain ⟨d, hd⟩ : ∃ d, nth (digs x) j = d := ⟨_, rfl⟩
        rw [hd]
        have hd10 : d < 10 := by rw [← hd]; exact nth_lt (digs_lt x) j
        have HD := Lib.hid hd
        clear hd
        have hcv := run_convert_bytes_arg (P := Tryz.prog) (wr.alloc (.cells #[.int .u8 (48 + (d : Int))] 5)) 90 5 Tryz.underlying90 Tryz.underlying5 wr.heap.size 0 1 1 [48 + (d : Int)] rfl (fun i hi => by
          obtain rfl : i = 0 := by omega
          go_simp) 9 Tryz.underlying9
        rw [show strOfNums [48 + (d : Int)] = ⟨(lettersOf [d]).toArray⟩ from rfl] at hcv
        have hz1 : s.size ≤ 300 := by
          rw [HS.out, Lib.size_eq]
          simp [lettersOf]
          omega
        have hz2 : (⟨(lettersOf [d]).toArray⟩ : ByteArray).size = 1 := rfl
        go_wp2
        go_roundg (gk - 1)
        case measure => omega
        case rel =>
          refine ⟨Below.alloc hbel (by omega) _, j + 1, _, by omega, by go_num, rfl, ?_⟩
          rw [HS.out, cat2]
          exact dig_step HTL.out hgo (by rw [HTN.out j, HD.out])
    · have e : j = m := by omega
      have hn1 : ¬ j < n := by omega
      have hn2 : ¬ j < least := by omega
      have hres : s = ⟨(dgText x least).toArray⟩ := by
        rw [HS.out, e, ← HTL.out, List.take_length, ← HT.out]
        rfl
      have HR := Lib.hid hres
      go_wp2
      go_ret
      exact ⟨by rw [← HR.out]; rfl, hbel⟩
end Go.Proofs.YtilajcibjlcffaaGreatDoor
