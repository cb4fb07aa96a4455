/- Wire: the document's numbers: Num, Take, Run. -/
import Derived.Test.YtljloggbfmnjmaaDoorWirC
import Derived.Shelf.Bits.Mul64
import Derived.Deep.CutBlock
set_option linter.unusedSimpArgs false
set_option linter.unusedVariables false
namespace Go.Proofs.YtljloggbfmnjmaaDoor
open Go.RowKit Go.Joins

abbrev u8V (c : UInt8) : Value := .int .u8 (c.toNat : Nat)
theorem one_u8 (v : Nat) : ∀ u ∈ [Value.int .u8 (v : Nat)], u.oneCell' = true := by
  intro u hu
  simp at hu
  subst hu
  rfl
theorem one_u8i (v : Int) : ∀ u ∈ [Value.int .u8 v], u.oneCell' = true := by
  intro u hu
  simp at hu
  subst hu
  rfl
theorem numEF_small {f m : Nat} (h : m < 128) : numEF (f + 1) m = [UInt8.ofNat m] := by rw [numEF, if_pos h]
theorem numEF_great {f m : Nat} (h : ¬ m < 128) : numEF (f + 1) m = UInt8.ofNat (m % 128 + 128) :: numEF f (m / 128) := by rw [numEF, if_neg h]
theorem numEF_len : ∀ (f m : Nat), (numEF f m).length ≤ f
  | 0, _ => by rw [numEF]; exact Nat.le_refl _
  | f + 1, m => by
    rw [numEF]
    split
    · simp
    · have := numEF_len f (m / 128)
      rw [List.length_cons]
      omega
set_option maxRecDepth 100000 in
set_option maxHeartbeats 2000000 in
theorem rnum_any (n : Nat) (hn : n < 18446744073709551616) (w : World) : Calls Tryd.prog 57 #[.int .u64 n] w (RetU (numE n) w) := by
  obtain ⟨i0, hi, hz0, hz1, hz2⟩ := info_parts infou8
  have HN := Lib.hid hn
  obtain ⟨E, hE⟩ : ∃ E, numE n = E := ⟨_, rfl⟩
  have HE : Hid (numEF 10 n = E) := hE
  rw [hE]
  clear hn hE
  go_enter Tryd.func57, Tryd.ntmps57
  go_wp2_with fail
  go_loopg [0, 3] 10 (fun gm v0 v3 wr => ∃ (m : Nat) (A : List UInt8), 0 < gm ∧ m < 18446744073709551616 ∧ v0 = .int .u64 m ∧ m < 128 ^ gm ∧ A.length + gm = 10 ∧ A ++ numEF gm m = E ∧ wr.ownsRow w.heap.size 5 1 v3 A.length (A.map u8V) ∧ Below w.heap.size w wr)
  case atStart => exact ⟨n, [], by omega, HN.out, rfl, by rw [p128_10]; have := HN.out; omega, rfl, HE.out, World.ownsRow_nil _ _ _ _, Below.refl _ _⟩
  case round =>
    obtain ⟨m, A, hg0, hm, rfl, hmg, hA, hAE, hown, hb⟩ := hrel
    have HAE := Lib.hid hAE
    have HM := Lib.hid hm
    have HMG := Lib.hid hmg
    have HAL := Lib.hid hA
    have hAl : A.length ≤ 9 := by omega
    obtain ⟨f, rfl⟩ : ∃ f, gk = f + 1 := ⟨gk - 1, by omega⟩
    have hsz := hb.size
    clear hAE hm hmg hA
    by_cases h128 : m < 128
    · have hi127 : ¬ (127 : Int) < (m : Int) := by omega
      have hq : IntKind.u8.wrap (m : Int) = (m : Int) := IntWalk.u8_in _ (by omega)
      have HF : Hid (A ++ [UInt8.ofNat m] = E) := by unfold Hid; rw [← HAE.out, numEF_small h128]
      have hmn : (UInt8.ofNat m).toNat = m := u8_of (by omega)
      have HMN := Lib.hid hmn
      clear HAE hmn
      go_wp2_with (at_builtin; refine wpList_append_own _ rfl (.tmp 15) (.tmp 18) _ rfl w.heap.size 5 i0 (.int .u8 0) 1 1 Tryd.underlying42 hi hz0 hz1 hz2 rfl (by decide) _ A.length (A.map u8V) rfl (hown.alloc _) ⟨wr.heap.size, 0, none⟩ 1 1 [.int .u8 (m : Nat)] rfl rfl (new1 wr (.int .u8 (m : Nat)) _) ?c2 ?c3 ?c4 ?c5 ?_)
      case c2 => first | exact one_u8 m | rfl
      case c3 => unfold maxLen; omega
      case c4 => omega
      case c5 => first | (simp; omega) | omega | (rw [World.size_alloc]; omega)
      intro v' w1 hown1 hgrow1 _
      go_wp2_with fail
      go_ret
      have hown2 : w1.ownsRow w.heap.size 5 1 v' E.length (E.map fun c => Value.int .u8 (c.toNat : Nat)) := by
        rw [← HF.out, List.map_append, List.length_append]
        simpa [HMN.out] using hown1
      obtain ⟨p', c', hv, hr, hfz⟩ := RdU.of_own (n := E.length) rfl hown2
      subst hv
      exact ⟨p', c', rfl, hr, (hb.alloc hsz _).grown hgrow1 (by simp; omega) (fun k hk => (hown.lt k hk).1), hfz⟩
    · have hi127 : (127 : Int) < (m : Int) := by omega
      obtain ⟨x, hx⟩ : ∃ x, m % 128 = x := ⟨_, rfl⟩
      have hxi : (m : Int) % 128 = (x : Int) := by omega
      have hq : IntKind.u8.wrap (x : Int) = (x : Int) := IntWalk.u8_in _ (by omega)
      have hq2 : IntKind.u8.wrap ((x : Int) + 128) = (x : Int) + 128 := IntWalk.u8_in _ (by omega)
      have hq3 : IntKind.u64.wrap ((m : Int) / 128) = (m : Int) / 128 := IntWalk.u64_in _ (by have := HM.out; omega)
      have HF : Hid ((A ++ [UInt8.ofNat (x + 128)]) ++ numEF f (m / 128) = E) := by unfold Hid; rw [← HAE.out, numEF_great h128, hx, List.append_assoc]; rfl
      have HMN : Hid ((UInt8.ofNat (x + 128)).toNat = x + 128) := u8_of (by omega)
      generalize UInt8.ofNat (x + 128) = dd at HF HMN
      have hf0 : 0 < f := by
        rcases Nat.eq_zero_or_pos f with h | h
        · subst h
          have := HMG.out
          simp at this
          omega
        · exact h
      have HMD : Hid (m / 128 < 128 ^ f) := by
        unfold Hid
        have := HMG.out
        rw [Nat.pow_succ] at this
        omega
      clear HAE hx
      go_wp2_with (at_builtin; refine wpList_append_own _ rfl (.tmp 6) (.tmp 11) _ rfl w.heap.size 5 i0 (.int .u8 0) 1 1 Tryd.underlying42 hi hz0 hz1 hz2 rfl (by decide) _ A.length (A.map u8V) rfl (hown.alloc _) ⟨wr.heap.size, 0, none⟩ 1 1 [.int .u8 ((x : Int) + 128)] rfl rfl (new1 wr (.int .u8 ((x : Int) + 128)) _) ?c2 ?c3 ?c4 ?c5 ?_)
      case c2 => exact one_u8i _
      case c3 => unfold maxLen; omega
      case c4 => omega
      case c5 => first | (simp; omega) | omega | (rw [World.size_alloc]; omega)
      intro v' w1 hown1 hgrow1 _
      go_wp2_with fail
      go_roundg f
      case measure => omega
      case rel =>
        refine ⟨m / 128, A ++ [dd], hf0, by have := HM.out; omega, by go_num, HMD.out, by rw [List.length_append]; have := HAL.out; simp; omega, HF.out, ?_, (hb.alloc hsz _).grown hgrow1 (by simp; omega) (fun k hk => (hown.lt k hk).1)⟩
        rw [List.map_append, List.length_append, List.map_cons, List.map_nil, show u8V dd = Value.int .u8 ((x : Int) + 128) by show Value.int .u8 (dd.toNat : Nat) = _; rw [HMN.out]; rfl]
        simpa using hown1
/-- What the document takes: the number, how many bytes. -/
def takD (L : List UInt8) : Nat × Nat := match numD L with
  | none => (0, 0)
  | some (v, r) => (v, L.length - r.length)
theorem takD_is (L : List UInt8) : takD L = (tkR 0 0 [] L).getD (0, 0) := by
  have h := tkR_is L 0 [] rfl (by omega) (by simp)
  rw [show valB [] = 0 from rfl] at h
  rw [h]
  unfold takD numD
  cases numL 0 0 L with
  | none => rfl
  | some x => simp
def TkP (L : List UInt8) (w : World) (e : Ending) (w' : World) : Prop := e = .returned (.tuple #[.int .u64 ((takD L).1 : Nat), .int .i64 ((takD L).2 : Nat)]) ∧ Below w.heap.size w w'
theorem p128_lt {i : Nat} (h : i ≤ 9) : (128 : Nat) ^ i ≤ 9223372036854775808 := by
  have h1 : (128 : Nat) ^ i ≤ 128 ^ 9 := Nat.pow_le_pow_right (by omega) h
  rw [p128_9] at h1
  exact h1
set_option maxRecDepth 100000 in
set_option maxHeartbeats 4000000 in
theorem rtake_any (p : Option Addr) (n cap B : Nat) (L : List UInt8) (hn : n ≤ 100000) (w : World) (hL : RdU w B p n cap L) : Calls Tryd.prog 48 #[.slice p n cap] w (TkP L w) := by
  have HR := Lib.hid hL
  obtain ⟨R, hR⟩ : ∃ R, takD L = R := ⟨_, rfl⟩
  have HD : Hid ((tkR 0 0 [] (L.drop 0)).getD (0, 0) = R) := by unfold Hid; rw [← hR, takD_is]; rfl
  have hgoal : ∀ e w', (e = .returned (.tuple #[.int .u64 (R.1 : Nat), .int .i64 (R.2 : Nat)]) ∧ Below w.heap.size w w') → TkP L w e w' := fun e w' h => by unfold TkP; rw [hR]; exact h
  refine Calls.mono ?_ hgoal
  clear hgoal hR
  obtain ⟨hl, hnc, hcm, hcs⟩ := hL
  unfold maxLen at hcm
  have HL := Lib.hid hl
  clear hl
  have hcell : Hid (∀ i, i < n → ∃ b off, p = some ⟨b, off, none⟩ ∧ b < w.heap.size ∧ w.cell? ⟨b, off + i, none⟩ = some (.int .u8 ((L.getD i 0).toNat : Nat))) := fun i hi => by
    rcases hcs with ⟨rfl, rfl, rfl⟩ | ⟨b, off, rfl, h6, h7, h8⟩
    · omega
    · exact ⟨b, off, rfl, h7, h8 i hi⟩
  clear hcs
  go_enter Tryd.func48, Tryd.ntmps48
  go_wp2_with fail
  go_loopg [4, 5, 6] n (fun gm v4 v5 v6 wr => wr = w ∧ ∃ (i acc : Nat), i + gm = n ∧ i ≤ 10 ∧ v6 = .int .i64 i ∧ v4 = .int .u64 acc ∧ (i ≤ 9 → v5 = .int .u64 ((128 ^ i : Nat) : Int) ∧ acc = valB (L.take i) ∧ (∀ a ∈ L.take i, 128 ≤ a.toNat) ∧ (tkR i acc (L.take i) (L.drop i)).getD (0, 0) = R) ∧ (i = 10 → R = (0, 0)))
  case atStart => exact ⟨rfl, 0, 0, by omega, by omega, rfl, rfl, fun _ => ⟨rfl, rfl, by simp, HD.out⟩, fun h => by omega⟩
  case round =>
    obtain ⟨rfl, i, acc, hig, hi10, rfl, rfl, hst, hend⟩ := hrel
    have HST := Lib.hid hst
    have HEN := Lib.hid hend
    clear hst hend
    by_cases hlt : i < n
    · have hli : (i : Int) < (n : Int) := by omega
      by_cases h10 : i < 10
      · have h10i : (i : Int) < 10 := by omega
        obtain ⟨h5, hacc, hpre, htk⟩ := HST.out (by omega)
        subst h5
        obtain ⟨b, off, hp, hbw, hc⟩ := hcell.out i hlt
        subst hp
        have HTK := Lib.hid htk
        have HPR := Lib.hid hpre
        have HAC := Lib.hid hacc
        have hav := valB_lt (L.take i)
        have htl : (L.take i).length = i := by rw [List.length_take, HL.out]; omega
        rw [htl, ← hacc] at hav
        have hpw := p128_lt (show i ≤ 9 by omega)
        have hx : L.drop i = L.getD i 0 :: L.drop (i + 1) := by
          rw [List.drop_eq_getElem_cons (by rw [HL.out]; exact hlt)]
          simp [List.getD, HL.out, hlt]
        have hc8 : (L.getD i 0).toNat < 256 := (L.getD i 0).toNat_lt
        have htk1 : L.take (i + 1) = L.take i ++ [L.getD i 0] := by
          rw [List.take_add_one, List.getElem?_eq_getElem (by rw [HL.out]; exact hlt)]
          simp [List.getD, HL.out, hlt]
        have HT1 := Lib.hid htk1
        have HX := Lib.hid hx
        clear hacc hpre htk hx htk1
        generalize L.getD i 0 = d at hc HX hc8 HT1
        obtain ⟨c, hcd⟩ : ∃ c, d.toNat = c := ⟨_, rfl⟩
        rw [hcd] at hc hc8
        have HCD := Lib.hid hcd
        obtain ⟨m, hm⟩ : ∃ m, c % 128 = m := ⟨_, rfl⟩
        have hmi : (c : Int) % 128 = (m : Int) := by omega
        have hm128 : m < 128 := by omega
        have wm : IntKind.u64.wrap (m : Int) = (m : Int) := IntWalk.u64_in _ (by omega)
        obtain ⟨P, hP⟩ : ∃ P, 128 ^ i = P := ⟨_, rfl⟩
        rw [hP] at hav hpw ⊢
        have w1 : IntKind.u64.wrap ((P : Int) * (m : Int)) = ((P * m % 18446744073709551616 : Nat) : Int) := by rw [← Int.natCast_mul]; exact Mul64.wrapM _
        have w3 : IntKind.u64.wrap ((P : Int) * 128) = ((P * 128 % 18446744073709551616 : Nat) : Int) := by rw [show (P : Int) * 128 = ((P * 128 : Nat) : Int) by simp]; exact Mul64.wrapM _
        have w2 : IntKind.u64.wrap ((acc : Int) + ((P * m % 18446744073709551616 : Nat) : Int)) = (((acc + m * P) % 18446744073709551616 : Nat) : Int) := by
          rw [show (acc : Int) + ((P * m % 18446744073709551616 : Nat) : Int) = ((acc + P * m % 18446744073709551616 : Nat) : Int) by simp]
          rw [Mul64.wrapM, Nat.add_mod_mod, Nat.mul_comm P m]
        have HTK2 : Hid ((if c < 128 then (if numE ((acc + m * P) % 18446744073709551616) = L.take i ++ [d] then some ((acc + m * P) % 18446744073709551616, i + 1) else none)
    else if i + 1 < 10 then tkR (i + 1) (acc + m * P) (L.take i ++ [d]) (L.drop (i + 1)) else none).getD (0, 0) = R) := by
          unfold Hid
          have h := HTK.out
          rw [HX.out, tkR, HCD.out, hm, hP] at h
          exact h
        have HV : Hid (i + 1 ≤ 9 → 128 ≤ c → (P * 128 % 18446744073709551616 = 128 ^ (i + 1) ∧ (acc + m * P) % 18446744073709551616 = valB (L.take (i + 1)))) := by
          intro hi9 hc128
          have h8 : P ≤ 72057594037927936 := by
            rw [← hP]
            exact Nat.le_trans (Nat.pow_le_pow_right (by omega) (show i ≤ 8 by omega)) (by decide)
          have h7 : m * P ≤ 127 * 72057594037927936 := Nat.mul_le_mul (by omega) h8
          refine ⟨by rw [Nat.mod_eq_of_lt (by omega), Nat.pow_succ, hP], ?_⟩
          rw [Nat.mod_eq_of_lt (by omega), HT1.out, valB_snoc, ← HAC.out, htl, HCD.out, hm, hP]
        have HLT : Hid (i + 1 ≤ 9 → 128 ≤ c → acc + m * P < 18446744073709551616) := by
          intro hi9 hc128
          have h8 : P ≤ 72057594037927936 := by
            rw [← hP]
            exact Nat.le_trans (Nat.pow_le_pow_right (by omega) (show i ≤ 8 by omega)) (by decide)
          have h7 : m * P ≤ 127 * 72057594037927936 := Nat.mul_le_mul (by omega) h8
          omega
        generalize P * m % 18446744073709551616 = s at w1 w2
        obtain ⟨a2, ha2⟩ : ∃ a2, (acc + m * P) % 18446744073709551616 = a2 := ⟨_, rfl⟩
        have ha2l : a2 < 18446744073709551616 := by rw [← ha2]; exact Nat.mod_lt _ (by omega)
        have HAL2 := Lib.hid ha2l
        rw [ha2] at w2 HTK2 HV
        generalize P * 128 % 18446744073709551616 = P2 at w3 HV
        have HA2 := Lib.hid ha2
        clear ha2 ha2l hP hm hcd HX HTK
        by_cases h128 : c < 128
        · have h128i : (c : Int) < 128 := by omega
          have HTK3 : Hid ((if numE a2 = L.take i ++ [d] then some (a2, i + 1) else none).getD (0, 0) = R) := by
            unfold Hid
            have h := HTK2.out
            rw [if_pos h128] at h
            exact h
          have HNU := Lib.hid (fun W => rnum_any a2 HAL2.out W)
          obtain ⟨E, hE⟩ : ∃ E, numE a2 = E := ⟨_, rfl⟩
          rw [hE] at HNU HTK3
          clear hE h128 HTK2 HV hav hpw
          go_upto_region 8 with fail
          go_wp2_with fail
          refine (HNU.out _).mono ?_
          rintro e w5 ⟨q, cq, rfl, hru, hb5, hnew⟩
          have HB5 := Lib.hid hb5
          have hsd : Hid (RdU w5 B (some ⟨b, off, none⟩) (i + 1) cap (L.take (i + 1))) := (HR.out.below hb5).take (i + 1) (by omega)
          have HRUE := Lib.hid hru
          have hcE := fun W (hW : Below w5.heap.size w5 W) => (hru.below hW).conv
          have hcL := fun W (hW : Below w5.heap.size w5 W) => (hsd.out.below hW).conv
          clear hru hb5 hnew
          go_upto_region 9 with fail
          have cE := fun d os => hcE _ (below_regrown w5 d os)
          have cL := fun d os => hcL _ (below_regrown w5 d os)
          have hBR : ∀ d os, Below wr.heap.size wr (Go.Sort.grow (redrawn w5 d) os) := fun d os => HB5.out.trans ((below_regrown w5 d os).mono HB5.out.size)
          clear hcE hcL
          refine wp_region_quiet_below (by kernel_rfl) (by kernel_rfl) ?_
          repeat (go_big_quiet_step ((first | with_reducible exact cE _ _ | with_reducible exact cL _ _)))
          refine wpQuiet_nil ?_
          intro _ hw'
          obtain ⟨⟨dz, osz⟩, hw''⟩ := hw'
          subst hw''
          have hBz := hBR dz osz
          clear cE cL hBR
          by_cases hEq : E = L.take (i + 1)
          · have hR : Hid (R = (a2, i + 1)) := by
              unfold Hid
              have h := HTK3.out
              rw [if_pos (by rw [hEq, HT1.out])] at h
              exact h.symm
            subst hEq
            clear HTK3 HST HT1
            generalize L.take (i + 1) = E at *
            rw [show (E == E) = true by simp]
            go_wp2_with fail
            go_ret2
            rw [hR.out]
            exact ⟨by go_num, hBz⟩
          · have hR : Hid (R = (0, 0)) := by
              unfold Hid
              have h := HTK3.out
              rw [if_neg (by rw [← HT1.out]; exact hEq)] at h
              exact h.symm
            clear HTK3 HST HT1
            generalize L.take (i + 1) = E2 at *
            rw [show (E == E2) = false by simpa using hEq]
            clear hEq
            go_wp2_with fail
            go_ret2
            rw [hR.out]
            exact ⟨rfl, hBz⟩
        · go_wp2_with fail
          by_cases hi9 : i + 1 ≤ 9
          · obtain ⟨hP2, hA3⟩ := HV.out hi9 (by omega)
            subst hP2
            have HA3 := Lib.hid hA3
            have HTK4 : Hid ((tkR (i + 1) a2 (L.take (i + 1)) (L.drop (i + 1))).getD (0, 0) = R) := by
              unfold Hid
              have h := HTK2.out
              rw [if_neg h128, if_pos (by omega), ← HT1.out] at h
              rw [show a2 = acc + m * P from ?_]
              · exact h
              · rw [← HA2.out]
                exact Nat.mod_eq_of_lt (HLT.out (by omega) (by omega))
            have HPR2 : Hid (∀ a ∈ L.take (i + 1), 128 ≤ a.toNat) := by
              intro a ha
              rw [HT1.out] at ha
              rcases List.mem_append.mp ha with h | h
              · exact HPR.out a h
              · rw [List.mem_singleton.mp h, HCD.out]; omega
            clear hA3
            go_roundg (gk - 1)
            case measure => omega
            case rel => exact ⟨rfl, i + 1, a2, by omega, by omega, by go_num, rfl, fun _ => ⟨rfl, HA3.out, HPR2.out, HTK4.out⟩, fun h => by omega⟩
          · have HR0 : Hid (R = (0, 0)) := by
              unfold Hid
              have h := HTK2.out
              rw [if_neg h128, if_neg (by omega)] at h
              exact h.symm
            go_roundg (gk - 1)
            case measure => omega
            case rel => exact ⟨rfl, i + 1, a2, by omega, by omega, by go_num, rfl, fun h => by omega, fun _ => HR0.out⟩
      · have h10i : ¬ (i : Int) < 10 := by omega
        have HR0 : Hid (R = (0, 0)) := HEN.out (by omega)
        clear HST HEN
        go_wp2_with fail
        go_ret2
        rw [HR0.out]
        exact ⟨rfl, Below.refl _ _⟩
    · obtain rfl : i = n := by omega
      have hli : ¬ (i : Int) < (i : Int) := by omega
      have HR0 : Hid (R = (0, 0)) := by
        unfold Hid
        by_cases h : i ≤ 9
        · have h1 := (HST.out h).2.2.2
          rw [List.drop_eq_nil_of_le (by rw [HL.out]; exact Nat.le_refl _), tkR] at h1
          exact h1.symm
        · exact HEN.out (by omega)
      clear HST HEN
      go_wp2_with fail
      go_ret2
      rw [HR0.out]
      exact ⟨rfl, Below.refl _ _⟩
end Go.Proofs.YtljloggbfmnjmaaDoor
