/- Conditions: the document's Is: patterns that are ordered. -/
import Derived.Test.YtpggidkcifnhjaaMatN
set_option linter.unusedSimpArgs false
set_option linter.unusedVariables false
namespace Go.Proofs.Ytpggidkcifnhjaa
open Go.RowKit

def rplC (x : Sg) : Nat := if x.1 = 1 then 63 else if x.1 = 2 then 42 else x.2
def rplL (L : List Sg) : List UInt8 := L.map fun x => UInt8.ofNat (rplC x)
theorem rplL_low (L : List Sg) : rplL (L.map low) = plL L := by
  unfold rplL plL
  rw [List.map_map]
  rfl
theorem cat_one (X : List UInt8) (c : UInt8) : (⟨X.toArray⟩ : ByteArray) ++ ⟨#[c]⟩ = ⟨(X ++ [c]).toArray⟩ := by
  apply ByteArray.ext
  simp
theorem one_conv (c b : Nat) (W : World) (h : W.cell? ⟨b, 0, none⟩ = some (.int .u8 (c : Int))) : (convert 65 9 (.slice (some ⟨b, 0, none⟩) 1 1)).run Try.prog W = .ok (.string ⟨#[UInt8.ofNat c]⟩) W := by
  have hcv := run_convert_bytes_arg (P := Try.prog) W 65 5 Try.underlying65 Try.underlying5 b 0 1 1 [(c : Int)] rfl (fun i hi => by
    obtain rfl : i = 0 := by omega
    exact h) 9 Try.underlying9
  rw [show strOfNums [(c : Int)] = ⟨#[UInt8.ofNat c]⟩ from by unfold strOfNums; simp] at hcv
  exact hcv

set_option maxRecDepth 100000 in
set_option maxHeartbeats 8000000 in
theorem ris_patOrder (q : Nat) (hq : q < 6) (hqo : ¬ (q = 5 ∨ q = 0)) (num : Int) (L0 : List Sg) (p : Option Addr) (cap : Nat) (k n : Int) (t : ByteArray) (hk : k = 0 ∨ k = 1 ∨ k = 2 ∨ k = 3) (hlen : L0.length ≤ 1000) (ht : t.size ≤ 900) (hok : ∀ x ∈ L0.map low, x.1 ≤ 2 ∧ x.2 < 256) (w : World) (hL : RdG sgE 2 w p (L0.map low).length (L0.map low)) :
    Calls Try.prog 8 #[.agg #[.string (sgB q), .bool false, .int .i64 num, .slice p (L0.map low).length cap], .agg #[.int .i64 k, .int .i64 n, .string t]] w fun e w' => e = .returned (.bool (isB q false num L0 k n t)) ∧ Below w.heap.size w w' := by
  have HN := Lib.hid (fun W => Val.refNumber_any k n t hk ht W)
  have HV : Hid (isB q false num L0 k n t = (decide (k = 2) && soB q (decide (cmpS L0 t < 0)) (decide (0 < cmpS L0 t)))) := by
    unfold Hid isB
    rw [if_neg (by simp), if_neg hqo]
  obtain ⟨r, hr⟩ : ∃ r, isB q false num L0 k n t = r := ⟨_, rfl⟩
  rw [hr] at HV ⊢
  obtain ⟨d, hd⟩ : ∃ d, Val.numV k n t = d := ⟨_, rfl⟩
  obtain ⟨kk, hkk⟩ : ∃ kk, Val.numK k t = kk := ⟨_, rfl⟩
  obtain ⟨mm, hmm⟩ : ∃ mm, Val.numM k n = mm := ⟨_, rfl⟩
  obtain ⟨tt, htt⟩ : ∃ tt, Val.numT k t = tt := ⟨_, rfl⟩
  rw [hd, hkk, hmm, htt] at HN
  have hbs : ∀ i (h : i < t.size), ((t[i].toNat : Nat) : Int) = (btN t.data.toList i : Int) := fun i h => btN_str t i h
  have htz : t.data.toList.length = t.size := (Lib.size_eq t).symm
  have HSO := Lib.hid (fun a b W => so_any q hq a b W)
  obtain ⟨hs1, hs2⟩ := sg_order q hq hqo
  obtain ⟨sg, hsgb⟩ : ∃ sg, sgB q = sg := ⟨_, rfl⟩
  rw [hsgb] at hs1 hs2 HSO ⊢
  have HBS := Lib.hid hbs
  have HTZ := Lib.hid htz
  have HOK := Lib.hid hok
  have HL := Lib.hid hL
  obtain ⟨ln, hln⟩ : ∃ ln, (L0.map low).length = ln := ⟨_, rfl⟩
  have hlz : L0.length = ln := by rw [← hln]; simp
  rw [hln] at HL ⊢
  rw [hlz] at hlen
  have HLN := Lib.hid hln
  clear hr hd hkk hmm htt hln hlz hL hok hbs htz hsgb hqo
  obtain ⟨T, hT⟩ : ∃ T, t.data.toList = T := ⟨_, rfl⟩
  rw [hT] at HBS HTZ
  have HTT := Lib.hid hT
  clear hT
  have hkk2 : k = 0 ∨ k = 1 ∨ k = 3 ∨ (k = 2 ∧ kk = 0) ∨ (k = 2 ∧ kk ≠ 0) := by omega
  clear hk
  go_enter Try.func8, Try.ntmps8
  go_wp2_with fail
  refine (HN.out _).mono ?_
  rintro e w1 ⟨rfl, hb1⟩
  obtain ⟨hc1, hf1, hz1⟩ := bcell hb1 (by first | (simp only [World.size_alloc, World.size_setCell, World.size_drew]; rfl) | rfl)
  go_upto_region 3 with fail
  have q0 : (w1.alloc (.cells #[.int .i64 kk, .int .i64 mm, .string tt] 38)).cell? ⟨w.heap.size, 0, none⟩ = some (.string sg) := by go_simp
  have q1 : (w1.alloc (.cells #[.int .i64 kk, .int .i64 mm, .string tt] 38)).cell? ⟨w.heap.size, 1, none⟩ = some (.bool false) := by go_simp
  have q3 : (w1.alloc (.cells #[.int .i64 kk, .int .i64 mm, .string tt] 38)).cell? ⟨w.heap.size, 3, none⟩ = some (.slice p ln cap) := by go_simp
  have p0 : (w1.alloc (.cells #[.int .i64 kk, .int .i64 mm, .string tt] 38)).cell? ⟨w.heap.size + 1, 0, none⟩ = some (.int .i64 k) := by go_simp
  have p2 : (w1.alloc (.cells #[.int .i64 kk, .int .i64 mm, .string tt] 38)).cell? ⟨w.heap.size + 1, 2, none⟩ = some (.string t) := by go_simp
  have e0 : (w1.alloc (.cells #[.int .i64 kk, .int .i64 mm, .string tt] 38)).cell? ⟨w1.heap.size, 0, none⟩ = some (.int .i64 kk) := by go_simp
  have hbx : Below w.heap.size w (w1.alloc (.cells #[.int .i64 kk, .int .i64 mm, .string tt] 38)) := by (repeat' (first | (with_reducible exact Below.refl _ _) | (with_reducible assumption) | (with_reducible refine Below.alloc ?_ ?_ _) | (with_reducible refine bel_drewN ?_ _) | (with_reducible refine Below.drew ?_) | (with_reducible refine Below.setCell ?_ ?_ _) | (with_reducible refine bel_call ‹_› ?_ ?_) | go_size))
  have hzx : w.heap.size + 1 < (w1.alloc (.cells #[.int .i64 kk, .int .i64 mm, .string tt] 38)).heap.size := by rw [World.size_alloc]; omega
  generalize (w1.alloc (.cells #[.int .i64 kk, .int .i64 mm, .string tt] 38)) = wx at q0 q1 q3 p0 p2 e0 hbx hzx ⊢
  have HBX := Lib.hid hbx
  go_cut [8] (fun v8 wy => wy = wx)
  case first =>
    rcases hkk2 with rfl | rfl | rfl | ⟨rfl, hk0⟩ | ⟨rfl, hk0⟩
    all_goals
      try (have hkb : (kk == 0) = true := by simp [hk0])
      try (have hkb : (kk == 0) = false := by simp [hk0])
      try clear hk0
      go_wp2_with fail
      go_meet
      exact rfl
  case rest =>
    subst hcut
    obtain ⟨wx, rfl⟩ : ∃ wx : World, wx = wc := ⟨_, rfl⟩
    have HQ : Hid (∀ W, Below wx.heap.size wx W → W.cell? ⟨w.heap.size, 0, none⟩ = some (.string sg) ∧ W.cell? ⟨w.heap.size, 3, none⟩ = some (.slice p ln cap) ∧ W.cell? ⟨w.heap.size + 1, 0, none⟩ = some (.int .i64 k) ∧ W.cell? ⟨w.heap.size + 1, 2, none⟩ = some (.string t)) := fun W hW => ⟨(hW.cell (p := ⟨w.heap.size, 0, none⟩) (by show w.heap.size < _; omega)).trans q0, (hW.cell (p := ⟨w.heap.size, 3, none⟩) (by show w.heap.size < _; omega)).trans q3, (hW.cell (p := ⟨w.heap.size + 1, 0, none⟩) hzx).trans p0, (hW.cell (p := ⟨w.heap.size + 1, 2, none⟩) hzx).trans p2⟩
    clear e0 hkk2 p0 hb1 hc1 hf1 hz1 hbx
    go_wp2_with fail
    clear q0 q1 q3 p2
    go_loopg [9, 11] t.size (fun g v9 v11 wr => ∃ i : Nat, i + g = t.size ∧ v11 = .int .i64 i ∧ v9 = .string ⟨(lowL (T.take i)).toArray⟩ ∧ Below wx.heap.size wx wr)
    case atStart => exact ⟨0, by omega, rfl, rfl, Below.refl _ _⟩
    case round =>
      obtain ⟨i, hig, rfl, rfl, hbel⟩ := hrel
      have hzr := hbel.size
      obtain ⟨q0, q3, p0, p2⟩ := HQ.out _ hbel
      by_cases hlt : i < t.size
      · have hb := HBS.out i hlt
        obtain ⟨c, hc⟩ : ∃ c, btN T i = c := ⟨_, rfl⟩
        have hc256 : c < 256 := by rw [← hc]; exact btN_lt _ i
        have htk : lowL (T.take (i + 1)) = lowL (T.take i) ++ [UInt8.ofNat (lowN c)] := by
          have hiT : i < T.length := by rw [HTZ.out]; exact hlt
          rw [List.take_succ_eq_append_getElem hiT]
          unfold lowL
          rw [List.map_append, ← hc, btN_get hiT]
          rfl
        rw [hc] at hb
        have HTK := Lib.hid htk
        have HSM := Lib.hid (fun W => rsmall_any c hc256 W)
        have HCV := Lib.hid (fun W h => one_conv (lowN c) wr.heap.size W h)
        have hcv := HCV.out (wr.alloc (.cells #[.int .u8 ((lowN c : Nat) : Int)] 5)) (by simp)
        have hct := cat_one (lowL (T.take i)) (UInt8.ofNat (lowN c))
        rw [← htk] at hct
        obtain ⟨A, hA⟩ : ∃ A : ByteArray, (⟨(lowL (T.take i)).toArray⟩ : ByteArray) = A := ⟨_, rfl⟩
        obtain ⟨B, hB⟩ : ∃ B : ByteArray, (⟨(lowL (T.take (i + 1))).toArray⟩ : ByteArray) = B := ⟨_, rfl⟩
        rw [hA, hB] at hct
        have hAs : A.size ≤ 1000 := by rw [← hA, Lib.size_eq]; simp [lowL]; omega
        rw [hA]
        have HB := Lib.hid hB
        have hone : (⟨#[UInt8.ofNat (lowN c)]⟩ : ByteArray).size = 1 := rfl
        clear hc htk hA hB
        go_wp2_with fail
        refine (HSM.out _).mono ?_
        rintro e wa ⟨rfl, rfl⟩
        go_wp2_with fail
        go_roundg (gk - 1)
        case measure => omega
        case rel => exact ⟨i + 1, by omega, by go_num, by rw [HB.out], by (repeat' (first | (with_reducible exact Below.refl _ _) | (with_reducible assumption) | (with_reducible refine Below.alloc ?_ ?_ _) | (with_reducible refine bel_drewN ?_ _) | (with_reducible refine Below.drew ?_) | (with_reducible refine Below.setCell ?_ ?_ _) | (with_reducible refine bel_call ‹_› ?_ ?_) | go_size))⟩
      · have hlt' : ¬ (i : Int) < (t.size : Int) := by omega
        have hA : lowL (T.take i) = lowL T := by rw [List.take_of_length_le (by rw [HTZ.out]; omega)]
        rw [hA]
        clear hA q0 q3 p0 p2
        obtain ⟨A, hA⟩ : ∃ A : ByteArray, (⟨(lowL T).toArray⟩ : ByteArray) = A := ⟨_, rfl⟩
        rw [hA]
        have HA := Lib.hid hA
        have HBL := Lib.hid hbel
        obtain ⟨q0, q3, p0, p2⟩ := HQ.out _ hbel
        clear hA hbel
        go_wp2_with fail
        go_loopg [10, 12] ln (fun g v10 v12 wy => ∃ i : Nat, i + g = ln ∧ v12 = .int .i64 i ∧ v10 = .string ⟨(rplL ((L0.map low).take i)).toArray⟩ ∧ Below wx.heap.size wx wy)
        case atStart => exact ⟨0, by omega, rfl, rfl, HBL.out⟩
        case round =>
          obtain ⟨i2, hig2, rfl, rfl, hbel⟩ := hrel
          have hzr := hbel.size
          obtain ⟨q0, q3, p0, p2⟩ := HQ.out _ hbel
          by_cases hlt2 : i2 < ln
          · have hli : (i2 : Int) < (ln : Int) := by omega
            have hi0 : (0 : Int) ≤ (i2 : Int) := by omega
            have hiL : i2 < (L0.map low).length := by rw [HLN.out]; exact hlt2
            have hx := sgAt_get hiL
            have hxo := HOK.out _ (lowAt_mem hiL)
            obtain ⟨kd, ch, hkc⟩ : ∃ kd ch, sgAt (L0.map low) i2 = (kd, ch) := ⟨_, _, rfl⟩
            rw [hkc] at hx hxo
            obtain ⟨b, off, rfl, hb, hcs⟩ := HL.out.some hlt2
            have hbw : Below w.heap.size w wr := HBX.out.trans (hbel.mono HBX.out.size)
            have c1 : wr.cell? ⟨b, off + i2 * 2, none⟩ = some (.int .i64 (kd : Int)) := (hbw.cell (p := ⟨b, off + i2 * 2, none⟩) hb).trans (hcs i2 _ hx 0 _ rfl)
            have c2 : wr.cell? ⟨b, off + i2 * 2 + 1, none⟩ = some (.int .u8 (ch : Int)) := (hbw.cell (p := ⟨b, off + i2 * 2 + 1, none⟩) hb).trans (hcs i2 _ hx 1 _ rfl)
            have htk : rplL ((L0.map low).take (i2 + 1)) = rplL ((L0.map low).take i2) ++ [UInt8.ofNat (rplC (kd, ch))] := by
              rw [List.take_succ_eq_append_getElem hiL]
              rw [List.getElem?_eq_getElem hiL] at hx
              injection hx with hx
              rw [hx]
              unfold rplL
              rw [List.map_append]
              rfl
            have hct := cat_one (rplL ((L0.map low).take i2)) (UInt8.ofNat (rplC (kd, ch)))
            rw [← htk] at hct
            have hlenB : (rplL ((L0.map low).take i2)).length ≤ 1000 := by unfold rplL; rw [List.length_map, List.length_take]; omega
            obtain ⟨D, hD⟩ : ∃ D : ByteArray, (⟨(rplL ((L0.map low).take i2)).toArray⟩ : ByteArray) = D := ⟨_, rfl⟩
            obtain ⟨E, hE⟩ : ∃ E : ByteArray, (⟨(rplL ((L0.map low).take (i2 + 1))).toArray⟩ : ByteArray) = E := ⟨_, rfl⟩
            have hDs : D.size ≤ 1000 := by rw [← hD, Lib.size_eq]; exact hlenB
            rw [hD, hE] at hct
            rw [hD]
            have HE := Lib.hid hE
            have hkd := hxo.1
            have hcv := fun (W : World) (bb : Nat) h => one_conv (rplC (kd, ch)) bb W h
            have hone : (⟨#[UInt8.ofNat (rplC (kd, ch))]⟩ : ByteArray).size = 1 := rfl
            have hbr : b < wr.heap.size := Nat.lt_of_lt_of_le hb hbw.size
            clear hx hxo hkc hcs htk hD hE hlenB hbw
            obtain rfl | rfl | rfl : kd = 0 ∨ kd = 1 ∨ kd = 2 := by omega
            · rw [show rplC (0, ch) = ch from rfl] at hcv hct hone
              go_wp2_with fail
              go_region
              all_goals
                go_wp2_with fail
                go_roundg (gk - 1)
                case measure => omega
                case rel => exact ⟨i2 + 1, by omega, by go_num, by first | (rw [HE.out]; done) | (rw [HE.out]; exact congrArg Value.string hct), by (repeat' (first | (with_reducible exact Below.refl _ _) | (with_reducible assumption) | (with_reducible refine Below.alloc ?_ ?_ _) | (with_reducible refine bel_drewN ?_ _) | (with_reducible refine Below.drew ?_) | (with_reducible refine Below.setCell ?_ ?_ _) | (with_reducible refine bel_call ‹_› ?_ ?_) | go_size))⟩
            · rw [show rplC (1, ch) = 63 from rfl] at hcv hct hone
              go_wp2_with fail
              go_region
              all_goals
                go_wp2_with fail
                go_roundg (gk - 1)
                case measure => omega
                case rel => exact ⟨i2 + 1, by omega, by go_num, by first | (rw [HE.out]; done) | (rw [HE.out]; exact congrArg Value.string hct), by (repeat' (first | (with_reducible exact Below.refl _ _) | (with_reducible assumption) | (with_reducible refine Below.alloc ?_ ?_ _) | (with_reducible refine bel_drewN ?_ _) | (with_reducible refine Below.drew ?_) | (with_reducible refine Below.setCell ?_ ?_ _) | (with_reducible refine bel_call ‹_› ?_ ?_) | go_size))⟩
            · rw [show rplC (2, ch) = 42 from rfl] at hcv hct hone
              go_wp2_with fail
              go_region
              all_goals
                go_wp2_with fail
                go_roundg (gk - 1)
                case measure => omega
                case rel => exact ⟨i2 + 1, by omega, by go_num, by first | (rw [HE.out]; done) | (rw [HE.out]; exact congrArg Value.string hct), by (repeat' (first | (with_reducible exact Below.refl _ _) | (with_reducible assumption) | (with_reducible refine Below.alloc ?_ ?_ _) | (with_reducible refine bel_drewN ?_ _) | (with_reducible refine Below.drew ?_) | (with_reducible refine Below.setCell ?_ ?_ _) | (with_reducible refine bel_call ‹_› ?_ ?_) | go_size))⟩
          · have hli : ¬ (i2 : Int) < (ln : Int) := by omega
            have hA2 : rplL ((L0.map low).take i2) = plL L0 := by rw [List.take_of_length_le (by rw [HLN.out]; omega), rplL_low]
            rw [hA2]
            clear hA2
            obtain ⟨D, hD⟩ : ∃ D : ByteArray, (⟨(plL L0).toArray⟩ : ByteArray) = D := ⟨_, rfl⟩
            rw [hD]
            have HD := Lib.hid hD
            have hbw : Below w.heap.size w wr := HBX.out.trans (hbel.mono HBX.out.size)
            clear hD
            by_cases hk2 : k = 2
            · subst hk2
              have HR : Hid (r = soB q (Op.bytesLess A.toList D.toList) (!Op.bytesLess A.toList D.toList && !A.toList == D.toList)) := by
                have h1 : A.toList = lowL T := by rw [Lib.toList_data, ← HA.out]
                have h2 : D.toList = plL L0 := by rw [Lib.toList_data, ← HD.out]
                unfold Hid
                rw [HV.out, h1, h2]
                unfold cmpS
                rw [HTT.out, cmpB_is]
                cases Op.bytesLess (lowL T) (plL L0)
                · by_cases he : lowL T = plL L0
                  · simp [he]
                  · have hb : (lowL T == plL L0) = false := beq_eq_false_iff_ne.2 he
                    simp [he, hb]
                · simp
              go_wp2_with fail
              refine (HSO.out _ _ _).mono ?_
              rintro e w9 ⟨rfl, rfl⟩
              go_wp2_with fail
              go_ret
              refine ⟨?_, hbw⟩
              show Ending.returned (.bool _) = Ending.returned (.bool r)
              rw [HR.out]
            · have hkf : (k == 2) = false := by simp [hk2]
              obtain rfl : r = false := by rw [HV.out, decide_eq_false hk2]; rfl
              go_wp2_with fail
              go_ret
              exact ⟨rfl, hbw⟩


/-- THE DOCUMENT's Is. -/
theorem ris_any (q : Nat) (hq : q < 6) (nb : Bool) (num : Int) (L0 : List Sg) (p : Option Addr) (cap : Nat) (k n : Int) (t : ByteArray) (hk : k = 0 ∨ k = 1 ∨ k = 2 ∨ k = 3) (hlen : L0.length ≤ 1000) (ht : t.size ≤ 900) (hok : ∀ x ∈ L0.map low, x.1 ≤ 2 ∧ x.2 < 256) (w : World) (hL : RdG sgE 2 w p (L0.map low).length (L0.map low)) :
    Calls Try.prog 8 #[.agg #[.string (sgB q), .bool nb, .int .i64 num, .slice p (L0.map low).length cap], .agg #[.int .i64 k, .int .i64 n, .string t]] w fun e w' => e = .returned (.bool (isB q nb num L0 k n t)) ∧ Below w.heap.size w w' := by
  cases nb
  · by_cases h : q = 5 ∨ q = 0
    · exact ris_patSame q h num L0 p cap k n t hk hlen ht hok w hL
    · exact ris_patOrder q hq h num L0 p cap k n t hk hlen ht hok w hL
  · exact ris_num q hq num L0 p cap _ k n t hk ht w
end Go.Proofs.Ytpggidkcifnhjaa
