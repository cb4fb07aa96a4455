/- Tidying: Proper in both texts. -/
import Derived.Test.YtcmpeppjopdeaaaDoorStrH
set_option linter.unusedSimpArgs false
set_option linter.unusedVariables false
namespace Go.Proofs.YtcmpeppjopdeaaaDoor
open Go.RowKit

/-- The byte that Proper puts at a place. -/
def prc (L : List UInt8) (i : Nat) : Nat := if letB (lowc (nx L i)) && (decide (i = 0) || !letB (nx L (i - 1))) then lowc (nx L i) - 32 else lowc (nx L i)
def prL (L : List UInt8) : List UInt8 := (List.range L.length).map fun i => UInt8.ofNat (prc L i)
theorem prL_len (L : List UInt8) : (prL L).length = L.length := by simp [prL]
theorem let_low (c : Nat) : letB (lowc c) = letB c := by
  unfold letB lowc
  split
  · rename_i h
    have e1 : decide (97 ≤ c + 32) = true := by simp; omega
    have e2 : decide (c + 32 ≤ 122) = true := by simp; omega
    have e3 : decide (65 ≤ c) = true := by simp; omega
    have e4 : decide (c ≤ 90) = true := by simp; omega
    rw [e1, e2, e3, e4]
    simp
  · rfl
theorem low_let {c : Nat} (h : letB (lowc c) = true) : 97 ≤ lowc c ∧ lowc c ≤ 122 := by
  unfold letB at h
  simp at h
  have : ¬ (65 ≤ lowc c ∧ lowc c ≤ 90) := by unfold lowc; split <;> omega
  omega
theorem let_up {c : Nat} (h : 97 ≤ c ∧ c ≤ 122) : letB (c - 32) = true := by
  unfold letB
  have e3 : decide (65 ≤ c - 32) = true := by simp; omega
  have e4 : decide (c - 32 ≤ 90) = true := by simp; omega
  rw [e3, e4]
  simp
theorem let_prc (L : List UInt8) (i : Nat) : letB (prc L i) = letB (nx L i) := by
  unfold prc
  split
  · rename_i h
    simp only [Bool.and_eq_true] at h
    rw [let_up (low_let h.1), ← let_low, h.1]
  · exact let_low _
theorem prc_lt (L : List UInt8) (i : Nat) : prc L i < 256 := by
  have := lowc_lt (nx L i) (nx_lt L i)
  unfold prc
  split <;> omega
theorem prL_snoc (L : List UInt8) (k : Nat) (h : k < L.length) : (prL L).take (k + 1) = (prL L).take k ++ [UInt8.ofNat (prc L k)] := by
  rw [List.take_succ_eq_append_getElem (by rw [prL_len]; exact h)]
  simp [prL]
theorem nx_prL (L : List UInt8) (i : Nat) (h : i < L.length) : nx (prL L) i = prc L i := by
  rw [nx_get (by rw [prL_len]; exact h)]
  have := prc_lt L i
  simp [prL]
  omega
theorem pr_str (P : List UInt8) : strOfNums (P.map fun c => (c.toNat : Int)) = ⟨P.toArray⟩ := by
  unfold strOfNums
  congr 2
  rw [List.map_map]
  conv => rhs; rw [← List.map_id P]
  congr 1
  funext c
  simp

set_option maxRecDepth 100000 in
set_option maxHeartbeats 2000000 in
theorem proper_any (s : ByteArray) (hs : s.size ≤ 100000) (w : World) :
    Calls Tryd.prog 7 #[.string s] w fun e w' => e = .returned (.string ⟨(prL s.data.toList).toArray⟩) ∧ Below w.heap.size w w' := by
  have hconv := fun (W : World) (s : ByteArray) => Lib.run_convert_string_bytes (P := Tryd.prog) W 9 32 5 s Tryd.underlying9 Tryd.underlying32 Tryd.underlying5
  have hl : s.data.toList.length = s.size := by rw [← Lib.size_eq]
  have HSM := Lib.hid (fun W => small_any s hs W)
  obtain ⟨L, hL⟩ : ∃ L, s.data.toList = L := ⟨_, rfl⟩
  rw [hL] at hl HSM ⊢
  have HL := Lib.hid hl
  obtain ⟨S, hS⟩ : ∃ S : ByteArray, S = ⟨(lowL L).toArray⟩ := ⟨_, rfl⟩
  have hSs : S.size = s.size := by rw [hS, size_of, lowL_len, hl]
  have HSS := Lib.hid hSs
  have HSD : Hid (S.data.toList = lowL L) := by unfold Hid; rw [hS]
  rw [← hS] at HSM
  obtain ⟨n, hn⟩ : ∃ n, s.size = n := ⟨_, rfl⟩
  rw [hn] at hSs hs hl
  have HSN := Lib.hid hSs
  have HLN := Lib.hid hl
  clear hL hl hS hn
  go_enter Tryd.func7, Tryd.ntmps7
  go_wp2_with fail
  refine (HSM.out _).mono ?_
  rintro e w1 ⟨rfl, hb1⟩
  have HB1 := Lib.hid hb1
  have hz1 := hb1.size
  clear hb1
  go_wp2_with fail
  have hrow0 := bytes_row w1 S
  have hbel0 := bytes_below w1 S
  have hzz0 : w1.heap.size < (Lib.bytesWorld w1 5 S).heap.size := by rw [Lib.bytesWorld_size]; omega
  generalize Lib.bytesWorld w1 5 S = W0 at hrow0 hbel0 hzz0 ⊢
  rw [HSN.out, HSD.out] at hrow0
  have HR0 := Lib.hid hrow0
  have HB0 := Lib.hid hbel0
  clear hrow0 hbel0 hconv
  go_loopw [11] (fun v wr => ∃ k : Nat, v = .int .i64 k ∧ k ≤ n ∧ RowB wr w1.heap.size n (fun x => if x < k then prc L x else lowc (nx L x)) ∧ Below w1.heap.size w1 wr) (fun v _ => n - (intOf v).toNat)
  case atStart => exact ⟨0, rfl, by omega, HR0.out.congr (fun x hx => by rw [if_neg (by omega), nx_low L x (by rw [HLN.out]; exact hx)]), HB0.out⟩
  case round =>
    obtain ⟨k, rfl, hk, hrow, hbel⟩ := hrel
    have HROW := Lib.hid hrow
    have HBEL := Lib.hid hbel
    rcases Nat.lt_or_ge k n with hlt | hge
    · have hki : (k : Int) < (n : Int) := by omega
      have c1 := hrow.cell hlt
      have f1 := hrow.free hlt
      obtain ⟨c, hc⟩ : ∃ c, lowc (nx L k) = c := ⟨_, rfl⟩
      rw [if_neg (by omega), hc] at c1
      have hc256 : c < 256 := by rw [← hc]; exact lowc_lt _ (nx_lt _ _)
      have HC := Lib.hid hc
      have hput : ∀ d, prc L k = d → RowB (wr.setCell ⟨w1.heap.size, k, none⟩ (.int .u8 ((d : Nat) : Int))) w1.heap.size n (fun x => if x < k + 1 then prc L x else lowc (nx L x)) := fun d hd => hrow.set hlt d (fun x hx => by
        by_cases h : x = k
        · subst h; rw [if_pos (by omega), if_pos rfl, hd]
        · rw [if_neg h]
          by_cases h3 : x < k
          · rw [if_pos (by omega), if_pos h3]
          · rw [if_neg (by omega), if_neg h3])
      have hkeep : prc L k = c → RowB wr w1.heap.size n (fun x => if x < k + 1 then prc L x else lowc (nx L x)) := fun hd => hrow.congr (fun x hx => by
        by_cases h : x = k
        · subst h; rw [if_pos (by omega), if_neg (by omega), hd, HC.out]
        · by_cases h3 : x < k
          · rw [if_pos (by omega), if_pos h3]
          · rw [if_neg (by omega), if_neg h3])
      have HPUT := Lib.hid hput
      have HKEEP := Lib.hid hkeep
      have HSC : Hid (∀ u, Below w1.heap.size w1 (wr.setCell ⟨w1.heap.size, k, none⟩ u)) := fun u => HBEL.out.setCell (Nat.le_refl _) u
      cases hlb : letB c with
      | false =>
        have HP := Lib.hid (HKEEP.out (by unfold prc; rw [HC.out, hlb]; rfl))
        have HLB := Lib.hid hlb
        clear hrow hbel hc hput hkeep hlb
        go_wp2_with fail
        refine (letter_any c false HLB.out _).mono ?_
        rintro e w2 ⟨rfl, rfl⟩
        go_wp2_with fail
        go_roundw
        case rel => exact ⟨k + 1, by go_num, by omega, HP.out, HBEL.out⟩
        case measure => simp [intOf]; omega
      | true =>
        have hc97 := low_let (c := nx L k) (by rw [hc]; exact hlb)
        rw [hc] at hc97
        obtain ⟨h97, h122⟩ := hc97
        have hv : (c : Int) - 97 + 65 = ((c - 32 : Nat) : Int) := by omega
        have HV := Lib.hid hv
        have HLB := Lib.hid hlb
        rcases Nat.eq_zero_or_pos k with hk0 | hk0
        · have HP := Lib.hid (HPUT.out (c - 32) (by unfold prc; rw [HC.out, hlb, hk0]; simp))
          have e0 : (((k : Nat) : Int) == 0) = true := by rw [hk0]; rfl
          clear hrow hbel hc hput hkeep hlb hv hk0
          go_wp2_with fail
          refine (letter_any c true HLB.out _).mono ?_
          rintro e w2 ⟨rfl, rfl⟩
          go_wp2_with fail
          rw [HV.out]
          go_roundw
          case rel => exact ⟨k + 1, by go_num, by omega, HP.out, HSC.out _⟩
          case measure => simp [intOf]; omega
        · have e0 : (((k : Nat) : Int) == 0) = false := by simp; omega
          have c2 := hrow.cell (j := k - 1) (by omega)
          rw [if_pos (by omega)] at c2
          obtain ⟨p, hp⟩ : ∃ p, prc L (k - 1) = p := ⟨_, rfl⟩
          have hlp : letB p = letB (nx L (k - 1)) := by rw [← hp]; exact let_prc L (k - 1)
          rw [hp] at c2
          cases hlb2 : letB p with
          | true =>
            have HP := Lib.hid (HKEEP.out (by unfold prc; rw [HC.out, hlb, ← hlp, hlb2, decide_eq_false (by omega)]; rfl))
            have HLB2 := Lib.hid hlb2
            clear hrow hbel hc hput hkeep hlb hv hp hlp hlb2
            go_wp2_with fail
            refine (letter_any c true HLB.out _).mono ?_
            rintro e w2 ⟨rfl, rfl⟩
            go_wp2_with fail
            refine (letter_any p true HLB2.out _).mono ?_
            rintro e w2 ⟨rfl, rfl⟩
            go_wp2_with fail
            go_roundw
            case rel => exact ⟨k + 1, by go_num, by omega, HP.out, HBEL.out⟩
            case measure => simp [intOf]; omega
          | false =>
            have HP := Lib.hid (HPUT.out (c - 32) (by unfold prc; rw [HC.out, hlb, ← hlp, hlb2, decide_eq_false (by omega)]; simp))
            have HLB2 := Lib.hid hlb2
            clear hrow hbel hc hput hkeep hlb hv hp hlp hlb2
            go_wp2_with fail
            refine (letter_any c true HLB.out _).mono ?_
            rintro e w2 ⟨rfl, rfl⟩
            go_wp2_with fail
            refine (letter_any p false HLB2.out _).mono ?_
            rintro e w2 ⟨rfl, rfl⟩
            go_wp2_with fail
            rw [HV.out]
            go_roundw
            case rel => exact ⟨k + 1, by go_num, by omega, HP.out, HSC.out _⟩
            case measure => simp [intOf]; omega
    · have hki : (n : Int) ≤ (k : Int) := by omega
      have hcell : ∀ i, i < n → wr.cell? ⟨w1.heap.size, 0 + i, none⟩ = some (.int .u8 (((prL L).map fun c => (c.toNat : Int)).getD i 0)) := fun i hi => by
        rw [Nat.zero_add, hrow.cell hi, if_pos (by omega), ← nx_prL L i (by rw [HLN.out]; exact hi)]
        congr 2
        rw [nx_get (by rw [prL_len, HLN.out]; exact hi)]
        simp [List.getD, prL_len, HLN.out, hi]
      have hcv := fun cap => run_convert_bytes_arg (P := Tryd.prog) wr 32 5 Tryd.underlying32 Tryd.underlying5 w1.heap.size 0 n cap ((prL L).map fun c => (c.toNat : Int)) (by rw [List.length_map, prL_len, HLN.out]) hcell 9 Tryd.underlying9
      simp only [pr_str] at hcv
      clear hrow hbel hcell
      go_wp2_with fail
      go_ret
      exact ⟨rfl, HB1.out.trans (HBEL.out.mono hz1)⟩
end Go.Proofs.YtcmpeppjopdeaaaDoor
