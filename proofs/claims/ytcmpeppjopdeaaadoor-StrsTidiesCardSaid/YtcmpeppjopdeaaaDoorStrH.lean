/- Tidying: Clean and Proper in both texts. -/
import Derived.Test.YtcmpeppjopdeaaaDoorStrF
set_option linter.unusedSimpArgs false
set_option linter.unusedVariables false
namespace Go.Proofs.YtcmpeppjopdeaaaDoor
open Go.RowKit

def letB (c : Nat) : Bool := (decide (97 ≤ c) && decide (c ≤ 122)) || (decide (65 ≤ c) && decide (c ≤ 90))
theorem ret_b {a b : Bool} (h : a = b) : Ending.returned (.bool a) = .returned (.bool b) := by rw [h]
set_option maxHeartbeats 1000000 in
theorem letter_any (c : Nat) (b : Bool) (hb : letB c = b) (w : World) : Calls Tryd.prog 16 #[.int .u8 c] w fun e w' => e = .returned (.bool b) ∧ w = w' := by
  have HB := Lib.hid hb
  clear hb
  by_cases h1 : (97 : Int) ≤ (c : Int) <;> by_cases h2 : (c : Int) ≤ 122 <;> by_cases h3 : (65 : Int) ≤ (c : Int) <;> by_cases h4 : (c : Int) ≤ 90
  all_goals first
    | (exfalso; omega)
    | (have H : Hid (letB c = true) := (by unfold Hid letB; simp; omega)
       go_enter Tryd.func16, Tryd.ntmps16
       go_wp2
       go_ret
       exact ⟨ret_b (by rw [← HB.out, H.out]), rfl⟩)
    | (have H : Hid (letB c = false) := (by unfold Hid letB; simp; omega)
       go_enter Tryd.func16, Tryd.ntmps16
       go_wp2
       go_ret
       exact ⟨ret_b (by rw [← HB.out, H.out]), rfl⟩)
set_option maxHeartbeats 1000000 in
theorem refLetter_any (c : Nat) (b : Bool) (hb : letB c = b) (w : World) : Calls Tryd.prog 18 #[.int .u8 c] w fun e w' => e = .returned (.bool b) ∧ w = w' := by
  have HB := Lib.hid hb
  clear hb
  by_cases h1 : (97 : Int) ≤ (c : Int) <;> by_cases h2 : (c : Int) ≤ 122 <;> by_cases h3 : (65 : Int) ≤ (c : Int) <;> by_cases h4 : (c : Int) ≤ 90
  all_goals first
    | (exfalso; omega)
    | (have H : Hid (letB c = true) := (by unfold Hid letB; simp; omega)
       go_enter Tryd.func18, Tryd.ntmps18
       go_wp2
       go_ret
       exact ⟨ret_b (by rw [← HB.out, H.out]), rfl⟩)
    | (have H : Hid (letB c = false) := (by unfold Hid letB; simp; omega)
       go_enter Tryd.func18, Tryd.ntmps18
       go_wp2
       go_ret
       exact ⟨ret_b (by rw [← HB.out, H.out]), rfl⟩)

def okc (c : Nat) : Bool := decide (32 ≤ c) && decide (c ≠ 127)
def cleanL (L : List UInt8) : List UInt8 := L.filter fun c => okc c.toNat
theorem clean_snoc (L : List UInt8) (k : Nat) (h : k < L.length) : cleanL (L.take (k + 1)) = cleanL (L.take k) ++ if okc (nx L k) then [UInt8.ofNat (nx L k)] else [] := by
  rw [List.take_succ_eq_append_getElem h, nx_get h, u8_eta]
  unfold cleanL
  rw [List.filter_append]
  cases hk : okc L[k].toNat <;> simp [List.filter, hk]
theorem clean_len (L : List UInt8) (k : Nat) : (cleanL (L.take k)).length ≤ k := by
  have h1 := List.length_filter_le (fun c : UInt8 => okc c.toNat) (L.take k)
  have h2 : (L.take k).length ≤ k := List.length_take_le _ _
  unfold cleanL
  omega

set_option maxRecDepth 100000 in
set_option maxHeartbeats 2000000 in
theorem refClean_any (s : ByteArray) (hs : s.size ≤ 100000) (w : World) :
    Calls Tryd.prog 10 #[.string s] w fun e w' => e = .returned (.string ⟨(cleanL s.data.toList).toArray⟩) ∧ w = w' := by
  have hl : s.data.toList.length = s.size := by rw [← Lib.size_eq]
  have HLS := Lib.hid hl
  clear hl
  go_enter Tryd.func10, Tryd.ntmps10
  go_wp2_with fail
  go_loop [3, 4] (fun o v => ∃ (k : Nat) (x : ByteArray), v = .int .i64 k ∧ o = .string x ∧ k ≤ s.size ∧ x = ⟨(cleanL (s.data.toList.take k)).toArray⟩) (fun _ v => s.size - (intOf v).toNat)
  case atStart => exact ⟨0, _, rfl, rfl, by omega, rfl⟩
  case round =>
    obtain ⟨k, x, rfl, rfl, hk, hx⟩ := hrel
    have hxs : x.size ≤ 100000 := by rw [hx, size_of]; have := clean_len s.data.toList k; omega
    have HX := Lib.hid hx
    clear hx
    rcases Nat.lt_or_ge k s.size with hlt | hge
    · have hb1 := nx_str s k hlt
      have hsn := clean_snoc s.data.toList k (by rw [HLS.out]; exact hlt)
      have hx1 := ext_one s k hlt
      obtain ⟨c, hc⟩ : ∃ c, nx s.data.toList k = c := ⟨_, rfl⟩
      rw [hc] at hb1 hsn hx1
      have hz3 : (s.extract k (k + 1)).size = 1 := by rw [hx1]; rfl
      by_cases h1 : 32 ≤ c
      · have g1 : (32 : Int) ≤ ((s[k].toNat : Nat) : Int) := by omega
        by_cases h2 : c = 127
        · have g2 : (((s[k].toNat : Nat) : Int) != 127) = false := by rw [hb1, h2]; rfl
          have HN : Hid (x = ⟨(cleanL (s.data.toList.take (k + 1))).toArray⟩) := by
            unfold Hid
            rw [hsn, HX.out, if_neg (by simp [okc, h2]), List.append_nil]
          clear hsn hx1 hc hb1
          go_wp2_with fail
          go_round
          case rel => exact ⟨k + 1, _, by go_num, rfl, by omega, HN.out⟩
          case measure => simp [intOf]; omega
        · have g2 : (((s[k].toNat : Nat) : Int) != 127) = true := by rw [hb1]; simp; omega
          have HN : Hid (x ++ s.extract k (k + 1) = ⟨(cleanL (s.data.toList.take (k + 1))).toArray⟩) := by
            unfold Hid
            rw [hsn, HX.out, hx1, cat2, if_pos (by simp [okc, h1, h2])]
          clear hsn hx1 hc hb1
          go_wp2_with fail
          go_round
          case rel => exact ⟨k + 1, _, by go_num, rfl, by omega, HN.out⟩
          case measure => simp [intOf]; omega
      · have g1 : ((s[k].toNat : Nat) : Int) < 32 := by omega
        have HN : Hid (x = ⟨(cleanL (s.data.toList.take (k + 1))).toArray⟩) := by
          unfold Hid
          rw [hsn, HX.out, if_neg (by simp [okc]; omega), List.append_nil]
        clear hsn hx1 hc hb1
        go_wp2_with fail
        go_round
        case rel => exact ⟨k + 1, _, by go_num, rfl, by omega, HN.out⟩
        case measure => simp [intOf]; omega
    · have HN : Hid (x = ⟨(cleanL s.data.toList).toArray⟩) := by
        unfold Hid
        rw [HX.out, List.take_of_length_le (by rw [HLS.out]; exact hge)]
      go_wp2_with fail
      go_ret
      exact ⟨ret_s HN.out, rfl⟩

theorem u8_one (c : Nat) (w : World) : ∀ u ∈ [Value.int .u8 (c : Int)], u.oneCell' = true := by
  intro u hu
  simp at hu
  subst hu
  rfl
theorem news1 (w : World) (v : Value) (t : TypeId) : ∀ j u, [v][j]? = some u → (w.alloc (.cells #[v] t)).cell? ((⟨w.heap.size, 0, none⟩ : Addr).add j) = some u := by
  intro j u hj
  match j, hj with
  | 0, hj => simp at hj; subst hj; simp [Addr.add]
theorem bc_snoc (l : List UInt8) (c : Nat) (h : c < 256) : Lib.byteCells l ++ [.int .u8 (c : Int)] = Lib.byteCells (l ++ [UInt8.ofNat c]) := by
  simp [Lib.byteCells]
  omega
theorem bc_len (l : List UInt8) : (Lib.byteCells l).length = l.length := by simp [Lib.byteCells]
theorem nil_string (w : World) : (convert 32 9 (.slice none 0 0)).run Tryd.prog w = .ok (.string ⟨#[]⟩) w := by kernel_rfl
/-- The call's own bytes, made a string. -/
theorem own_string {w : World} {base : Nat} {v : Value} {l : List UInt8} (h : w.ownsRow base 5 1 v l.length (Lib.byteCells l)) : (convert 32 9 v).run Tryd.prog w = .ok (.string ⟨l.toArray⟩) w := by
  obtain ⟨hl, ⟨hv, h0⟩ | ⟨g, cap, cur, rfl, hg, hh, hn', hm, hs, ht⟩⟩ := h
  · have : l = [] := List.eq_nil_of_length_eq_zero h0
    subst this
    subst hv
    exact nil_string w
  · have hcell : ∀ i, i < l.length → w.cell? ⟨g, 0 + i, none⟩ = some (.int .u8 ((l.map fun c => (c.toNat : Int)).getD i 0)) := fun i hi => by
      have e1 : (Lib.byteCells l)[i]? = some (.int .u8 (l[i].toNat : Int)) := by simp [Lib.byteCells, hi]
      rw [← ht, List.getElem?_take, if_pos (by omega)] at e1
      rw [Nat.zero_add]
      simp only [World.cell?, hh]
      have e2 : cur[i]? = some (.int .u8 (l[i].toNat : Int)) := by simpa using e1
      simp [e2, List.getD, hi]
    have := run_convert_bytes_arg (P := Tryd.prog) w 32 5 Tryd.underlying32 Tryd.underlying5 g 0 l.length cap (l.map fun c => (c.toNat : Int)) (by simp) hcell 9 Tryd.underlying9
    rw [this]
    congr 2
    unfold strOfNums
    congr 2
    rw [List.map_map]
    conv => rhs; rw [← List.map_id l]
    congr 1
    funext c
    simp

set_option maxRecDepth 100000 in
set_option maxHeartbeats 2000000 in
theorem clean_any (s : ByteArray) (hs : s.size ≤ 100000) (w : World) :
    Calls Tryd.prog 9 #[.string s] w fun e w' => e = .returned (.string ⟨(cleanL s.data.toList).toArray⟩) ∧ Below w.heap.size w w' := by
  obtain ⟨i0, hi, hz0, hz1, hz2⟩ := info_parts info_u8b
  have hconv := Lib.run_convert_string_bytes (P := Tryd.prog) w 9 32 5 s Tryd.underlying9 Tryd.underlying32 Tryd.underlying5
  have hrow0 := bytes_cell w s
  have hbel0 := bytes_below w s
  have hz0' : w.heap.size < (Lib.bytesWorld w 5 s).heap.size := by rw [Lib.bytesWorld_size]; omega
  generalize Lib.bytesWorld w 5 s = W0 at hconv hrow0 hbel0 hz0'
  have HR0 := Lib.hid hrow0
  have HB0 := Lib.hid hbel0
  have hl : s.data.toList.length = s.size := by rw [← Lib.size_eq]
  obtain ⟨L, hL⟩ : ∃ L, s.data.toList = L := ⟨_, rfl⟩
  rw [hL] at HR0 hl ⊢
  have HL := Lib.hid hl
  clear hrow0 hbel0 hL hl
  go_enter Tryd.func9, Tryd.ntmps9
  go_wp2_with fail
  clear hconv
  go_loopw [3, 9] (fun b v wr => ∃ (k : Nat) (acc : List UInt8), v = .int .i64 k ∧ k ≤ s.size ∧ acc = cleanL (L.take k) ∧ acc.length ≤ k ∧ wr.ownsRow W0.heap.size 5 1 b acc.length (Lib.byteCells acc) ∧ Below W0.heap.size W0 wr) (fun _ v _ => s.size - (intOf v).toNat)
  case atStart => exact ⟨0, [], rfl, by omega, rfl, by simp, World.ownsRow_nil _ _ _ _, Below.refl _ _⟩
  case round =>
    obtain ⟨k, acc, rfl, hk, hacc, hal, hown, hbel⟩ := hrel
    have HACC := Lib.hid hacc
    have HOWN := Lib.hid hown
    have HBEL := Lib.hid hbel
    have hzz := hbel.size
    obtain ⟨v, hv⟩ : ∃ v, v = u3 := ⟨_, rfl⟩
    subst hv
    rcases Nat.lt_or_ge k s.size with hlt | hge
    · have hki : (k : Int) < (s.size : Int) := by omega
      have c1 := (hbel.cell (p := ⟨w.heap.size, k, none⟩) hz0').trans (HR0.out k hlt)
      have hsn := clean_snoc L k (by rw [HL.out]; exact hlt)
      obtain ⟨c, hc⟩ : ∃ c, nx L k = c := ⟨_, rfl⟩
      have hc256 : c < 256 := by rw [← hc]; exact nx_lt _ _
      rw [hc] at c1 hsn
      have HC := Lib.hid hc256
      clear hown hbel hacc hc hc256
      by_cases h1 : 32 ≤ c
      · have g1 : (32 : Int) ≤ (c : Int) := by omega
        by_cases h2 : c = 127
        · have g2 : (((c : Nat) : Int) != 127) = false := by rw [h2]; rfl
          have HN : Hid (acc = cleanL (L.take (k + 1))) := by
            unfold Hid
            rw [hsn, ← HACC.out, if_neg (by simp [okc, h2]), List.append_nil]
          clear hsn h2
          go_wp2_with fail
          go_roundw
          case rel => exact ⟨k + 1, acc, by go_num, by omega, HN.out, by omega, HOWN.out, HBEL.out⟩
          case measure => simp [intOf]; omega
        · have g2 : (((c : Nat) : Int) != 127) = true := by simp; omega
          have HN : Hid (acc ++ [UInt8.ofNat c] = cleanL (L.take (k + 1))) := by
            unfold Hid
            rw [hsn, ← HACC.out, if_pos (by simp [okc, h1, h2])]
          clear hsn h2
          go_wp2_with (at_builtin; refine wpList_append_own _ rfl _ _ _ rfl W0.heap.size 5 i0 (.int .u8 0) 1 1 Tryd.underlying32 hi hz0 hz1 hz2 rfl (by decide) _ acc.length (Lib.byteCells acc) rfl (HOWN.out.alloc _) ⟨wr.heap.size, 0, none⟩ 1 1 [.int .u8 (c : Int)] rfl rfl ?c1 ?c2 ?c3 ?c4 ?c5 ?_)
          case c1 => exact news1 wr _ _
          case c2 => exact u8_one c w
          case c3 => unfold maxLen; omega
          case c4 => omega
          case c5 => simp; omega
          intro v' w2 hown2 hgrow2 _
          have HO2 : Hid (w2.ownsRow W0.heap.size 5 1 v' (acc ++ [UInt8.ofNat c]).length (Lib.byteCells (acc ++ [UInt8.ofNat c]))) := by
            unfold Hid
            rw [← bc_snoc acc c HC.out, List.length_append]
            exact hown2
          have HB2 : Hid (Below W0.heap.size W0 w2) := (HBEL.out.alloc hzz _).grown hgrow2 (by simp; omega) (fun k hk => (HOWN.out.lt k hk).1)
          clear hown2 hgrow2
          go_wp2_with fail
          go_roundw
          case rel => exact ⟨k + 1, acc ++ [UInt8.ofNat c], by go_num, by omega, HN.out, by simp; omega, HO2.out, HB2.out⟩
          case measure => simp [intOf]; omega
      · have g1 : (c : Int) < 32 := by omega
        have HN : Hid (acc = cleanL (L.take (k + 1))) := by
          unfold Hid
          rw [hsn, ← HACC.out, if_neg (by simp [okc]; omega), List.append_nil]
        clear hsn
        go_wp2_with fail
        go_roundw
        case rel => exact ⟨k + 1, acc, by go_num, by omega, HN.out, by omega, HOWN.out, HBEL.out⟩
        case measure => simp [intOf]; omega
    · have hki : (s.size : Int) ≤ (k : Int) := by omega
      have HN : Hid (acc = cleanL L) := by
        unfold Hid
        rw [HACC.out, List.take_of_length_le (by rw [HL.out]; exact hge)]
      have hcv := own_string hown
      clear hown hbel hacc
      go_wp2_with fail
      go_ret
      exact ⟨ret_s (by rw [HN.out]), HB0.out.trans (HBEL.out.mono (by omega))⟩
end Go.Proofs.YtcmpeppjopdeaaaDoor
