/- Names of cells are read: stamp.Number, a1's letters, Column, Parse. Names of cells are read: a1's letters, Column, Parse. -/
import Derived.Test.YtbdgdhjhgcpidaaGreatDoorSfL
import Derived.Lib.ConvBytes
set_option linter.unusedSimpArgs false
set_option linter.unusedVariables false
namespace Go.Proofs.YtbdgdhjhgcpidaaGreatDoor
open Go.RowKit Go.Joins
def nmF : Nat → Bs → Option Nat
  | n, [] => some n
  | n, c :: r => if 48 ≤ c.toNat ∧ c.toNat ≤ 57 ∧ 10 * n + (c.toNat - 48) ≤ 9999 then nmF (10 * n + (c.toNat - 48)) r else none
def nmb (L : Bs) : Option Nat := if L = [] then none else if 1 < L.length ∧ btN L 0 = 48 then none else nmF 0 L
theorem nmF_at (n : Nat) (L : Bs) (i : Nat) (h : i < L.length) : nmF n (L.drop i) = if 48 ≤ btN L i ∧ btN L i ≤ 57 ∧ 10 * n + (btN L i - 48) ≤ 9999 then nmF (10 * n + (btN L i - 48)) (L.drop (i + 1)) else none := by
  rw [List.drop_eq_getElem_cons h, nmF, btN_get h]
set_option maxRecDepth 100000 in
set_option maxHeartbeats 4000000 in
theorem number_s (s : ByteArray) (hs : s.size ≤ 100000) (w : World) : Calls Tryz.prog 150 #[.string s, .int .i64 9999] w fun e w' => e = .returned (.tuple #[.int .i64 (((nmb s.data.toList).getD 0 : Nat) : Int), .bool (nmb s.data.toList).isSome]) ∧ Below w.heap.size w w' := by
  have HSZ : Hid (s.data.toList.length = s.size) := (Lib.size_eq s).symm
  have HBT := Lib.hid (btN_str s)
  have HBC := Lib.hid (fun W => bytes_cell W s)
  have hemp : s.data.toList ≠ [] → s.toList.isEmpty = false := fun h => by
    rw [Lib.toList_data]
    cases hd : s.data.toList with
    | nil => exact absurd hd h
    | cons c r => rfl
  have hnil : s.data.toList = [] → s = ⟨#[]⟩ := fun h => by
    apply ByteArray.ext
    exact Array.toList_inj.1 h
  obtain ⟨L, hL⟩ : ∃ L, s.data.toList = L := ⟨_, rfl⟩
  rw [hL] at HSZ HBT HBC hemp hnil ⊢
  obtain ⟨O, hO⟩ : ∃ O, nmb L = O := ⟨_, rfl⟩
  have HO0 : Hid (O = if L = [] then none else if 1 < L.length ∧ btN L 0 = 48 then none else nmF 0 L) := by rw [← hO]; rfl
  rw [hO]
  clear hO hL
  by_cases h0 : L = []
  · have HO := HO0.out
    rw [if_pos h0] at HO
    subst HO
    obtain rfl := hnil h0
    clear HBT HBC hemp hnil
    go_enter Tryz.func150, Tryz.ntmps150
    go_wp2_with fail
    go_ret2
    exact ⟨rfl, Below.refl _ _⟩
  · have hpos : 0 < s.size := by rw [← HSZ.out]; exact List.length_pos_iff.2 h0
    have hem := hemp h0
    have HO2 : Hid (O = if 1 < L.length ∧ btN L 0 = 48 then none else nmF 0 L) := by unfold Hid; rw [HO0.out, if_neg h0]
    clear HO0 hemp hnil h0
    have hconv := fun (W : World) => Lib.run_convert_string_bytes (P := Tryz.prog) W 9 125 5 s Tryz.underlying9 Tryz.underlying125 Tryz.underlying5
    have hb0 := HBT.out 0 hpos
    by_cases h1 : 1 < L.length ∧ btN L 0 = 48
    · have HO := HO2.out
      rw [if_pos h1] at HO
      subst HO
      obtain ⟨h1a, h1b⟩ := h1
      rw [HSZ.out] at h1a
      have h1i : (1 : Int) < (s.size : Int) := by omega
      have hx : (((s[0]'hpos).toNat : Nat) : Int) = 48 := by rw [hb0, h1b]; rfl
      clear hb0 h1b hconv HBC HBT HO2
      go_enter Tryz.func150, Tryz.ntmps150
      go_wp2_with fail
      go_ret2
      exact ⟨rfl, Below.refl _ _⟩
    · have HO : Hid (O = nmF 0 L) := by unfold Hid; rw [HO2.out, if_neg h1]
      have hcs : s.size = 1 ∨ (1 < s.size ∧ ((((s[0]'hpos).toNat : Nat) : Int) == 48) = false) := by
        rw [HSZ.out] at h1
        by_cases h : 1 < s.size
        · refine .inr ⟨h, ?_⟩
          rw [hb0]
          have : btN L 0 ≠ 48 := fun e => h1 ⟨h, e⟩
          simp
          omega
        · exact .inl (by omega)
      clear HO2 h1 hb0
      go_enter Tryz.func150, Tryz.ntmps150
      go_upto_region 1 with fail
      go_cut [25] (fun v wx => v = .bool false ∧ w = wx)
      case first =>
        rcases hcs with h | ⟨h, h2⟩
        · have h1i : ¬ (1 : Int) < (s.size : Int) := by omega
          go_wp2_with fail
          go_meet
          exact ⟨rfl, rfl⟩
        · have h1i : (1 : Int) < (s.size : Int) := by omega
          go_wp2_with fail
          go_meet
          exact ⟨rfl, rfl⟩
      case rest =>
        obtain ⟨rfl, rfl⟩ := hcut
        clear hcs hem
        go_wp2_with fail
        have hbw := Lib.hid (bytes_below w s)
        have hbc := Lib.hid (HBC.out w)
        generalize Lib.bytesWorld w 5 s = W1 at hbw hbc ⊢
        go_loopg [6, 29] s.size (fun g v6 v29 wr => ∃ (i n : Nat), i + g = s.size ∧ v29 = .int .i64 i ∧ v6 = .int .i64 n ∧ n ≤ 9999 ∧ O = nmF n (L.drop i) ∧ wr = W1)
        case atStart => exact ⟨0, 0, by omega, rfl, rfl, by omega, HO.out, rfl⟩
        case round =>
          obtain ⟨i, n, hig, rfl, rfl, hn, hO, rfl⟩ := hrel
          have HO2 := Lib.hid hO
          clear hO HO
          by_cases hlt : i < s.size
          · have hli : (i : Int) < (s.size : Int) := by omega
            have hc := hbc.out i hlt
            have HAT := Lib.hid (nmF_at n L i (by rw [HSZ.out]; exact hlt))
            have hd := btN_lt L i
            obtain ⟨c, hcc⟩ : ∃ c, btN L i = c := ⟨_, rfl⟩
            rw [hcc] at hc hd HAT
            have f1 : IntKind.i64.wrap (c : Int) = (c : Int) := IntWalk.i64_in _ (by omega)
            have f2 : IntKind.i64.wrap ((c : Int) - 48) = (c : Int) - 48 := IntWalk.i64_in _ (by omega)
            clear hcc hconv
            by_cases hlo : c < 48
            · have hl0 : (c : Int) - 48 < 0 := by omega
              have HON : Hid (O = none) := by unfold Hid; rw [HO2.out, HAT.out, if_neg (by omega)]
              clear HAT HO2
              go_wp2_with fail
              go_ret2
              exact ⟨by rw [HON.out]; rfl, hbw.out⟩
            · have hl0 : ¬ (c : Int) - 48 < 0 := by omega
              by_cases hhi : 57 < c
              · have hh : (9 : Int) < (c : Int) - 48 := by omega
                have HON : Hid (O = none) := by unfold Hid; rw [HO2.out, HAT.out, if_neg (by omega)]
                clear HAT HO2
                go_wp2_with fail
                go_ret2
                exact ⟨by rw [HON.out]; rfl, hbw.out⟩
              · have hh : ¬ (9 : Int) < (c : Int) - 48 := by omega
                by_cases hA : 999 < n
                · have hAi : (999 : Int) < (n : Int) := by omega
                  have HON : Hid (O = none) := by unfold Hid; rw [HO2.out, HAT.out, if_neg (by omega)]
                  clear HAT HO2
                  go_wp2_with fail
                  go_ret2
                  exact ⟨by rw [HON.out]; rfl, hbw.out⟩
                · have hAi : ¬ (999 : Int) < (n : Int) := by omega
                  by_cases hB : 10 * n + (c - 48) ≤ 9999
                  · have hBi : ¬ (9999 : Int) - ((c : Int) - 48) < 10 * (n : Int) := by omega
                    have HON : Hid (O = nmF (10 * n + (c - 48)) (L.drop (i + 1))) := by unfold Hid; rw [HO2.out, HAT.out, if_pos (by omega)]
                    clear HAT HO2
                    go_wp2_with fail
                    go_roundg (gk - 1)
                    case measure => omega
                    case rel => exact ⟨i + 1, 10 * n + (c - 48), by omega, by go_num, by congr 1; omega, hB, HON.out, rfl⟩
                  · have hBi : (9999 : Int) - ((c : Int) - 48) < 10 * (n : Int) := by omega
                    have HON : Hid (O = none) := by unfold Hid; rw [HO2.out, HAT.out, if_neg (by omega)]
                    clear HAT HO2
                    go_wp2_with fail
                    go_ret2
                    exact ⟨by rw [HON.out]; rfl, hbw.out⟩
          · obtain rfl : i = s.size := by omega
            have hli : ¬ (s.size : Int) < (s.size : Int) := by omega
            have HON : Hid (O = some n) := by
              unfold Hid
              rw [HO2.out, List.drop_eq_nil_of_le (by rw [HSZ.out]; exact Nat.le_refl _)]
              rfl
            clear HO2 hconv
            go_wp2_with fail
            go_ret2
            exact ⟨by rw [HON.out]; rfl, hbw.out⟩
theorem number_any (L : Bs) (hL : L.length ≤ 100000) (w : World) : Calls Tryz.prog 150 #[.string ⟨L.toArray⟩, .int .i64 9999] w fun e w' => e = .returned (.tuple #[.int .i64 (((nmb L).getD 0 : Nat) : Int), .bool (nmb L).isSome]) ∧ Below w.heap.size w w' := number_s ⟨L.toArray⟩ (by rw [Lib.size_eq]; simpa using hL) w
theorem chr_toNat {d : Nat} (h : d < 10) : (chr d).toNat = 48 + d := by
  unfold chr
  rw [UInt8.toNat_ofNat']
  omega
theorem nmF_snoc (d : Nat) (hd : d < 10) : ∀ (L : Bs) (n m : Nat), nmF n L = some m → 10 * m + d ≤ 9999 → nmF n (L ++ [chr d]) = some (10 * m + d)
  | [], n, m, h, hm => by
    rw [nmF] at h
    cases h
    rw [List.nil_append, nmF, chr_toNat hd, if_pos (by omega), nmF]
    congr 1
    omega
  | c :: r, n, m, h, hm => by
    rw [List.cons_append, nmF]
    rw [nmF] at h
    split at h
    · rename_i hc
      rw [if_pos hc]
      exact nmF_snoc d hd r _ m h hm
    · cases h
theorem nmF_dc : ∀ (k r : Nat), r ≤ k → r ≤ 9999 → nmF 0 (dcL r) = some r ∧ dcL r ≠ [] ∧ (1 ≤ r → btN (dcL r) 0 ≠ 48) := by
  intro k
  induction k with
  | zero =>
    intro r h1 h2
    obtain rfl : r = 0 := by omega
    rw [dcL_small (by omega)]
    exact ⟨by rw [nmF, chr_toNat (by omega), if_pos (by omega), nmF], by simp, fun h => by omega⟩
  | succ k ih =>
    intro r h1 h2
    by_cases h10 : r < 10
    · rw [dcL_small h10]
      refine ⟨by rw [nmF, chr_toNat h10, if_pos (by omega), nmF]; congr 1; omega, by simp, fun h => ?_⟩
      unfold btN
      show (chr r).toNat ≠ 48
      rw [chr_toNat h10]
      omega
    · obtain ⟨e1, e2, e3⟩ := ih (r / 10) (by omega) (by omega)
      rw [dcL_step h10 (by omega)]
      refine ⟨?_, by simp, fun _ => ?_⟩
      · have := nmF_snoc (r % 10) (Nat.mod_lt _ (by omega)) _ _ _ e1 (by omega)
        rw [this]
        congr 1
        omega
      · have := e3 (by omega)
        unfold btN at this ⊢
        cases hx : dcL (r / 10) with
        | nil => exact absurd hx e2
        | cons c q => rw [hx] at this; exact this
theorem nmb_dc {r : Nat} (h1 : 1 ≤ r) (h2 : r ≤ 9999) : nmb (dcL r) = some r := by
  obtain ⟨e1, e2, e3⟩ := nmF_dc r r (Nat.le_refl _) h2
  unfold nmb
  rw [if_neg e2, if_neg (fun h => e3 h1 h.2), e1]
theorem num_dc (r : Nat) (h1 : 1 ≤ r) (h2 : r ≤ 9999) (w : World) : Calls Tryz.prog 150 #[.string ⟨(dcL r).toArray⟩, .int .i64 9999] w fun e w' => e = .returned (.tuple #[.int .i64 r, .bool true]) ∧ Below w.heap.size w w' := by
  have h := number_any (dcL r) (by have := dcL_len r; omega) w
  rw [nmb_dc h1 h2] at h
  exact h
theorem dcL_head (r : Nat) (h : r ≤ 9999) : ∃ d q, dcL r = chr d :: q ∧ d < 10 := by
  have key : ∀ (k r : Nat), r ≤ k → r ≤ 9999 → ∃ d q, dcL r = chr d :: q ∧ d < 10 := by
    intro k
    induction k with
    | zero =>
      intro r h1 h2
      obtain rfl : r = 0 := by omega
      exact ⟨0, [], dcL_small (by omega), by omega⟩
    | succ k ih =>
      intro r h1 h2
      by_cases h10 : r < 10
      · exact ⟨r, [], dcL_small h10, h10⟩
      · obtain ⟨d, q, e, hd⟩ := ih (r / 10) (by omega) (by omega)
        exact ⟨d, q ++ [chr (r % 10)], by rw [dcL_step h10 (by omega), e]; rfl, hd⟩
  exact key r r (Nat.le_refl _) h
theorem letr {x : Nat} (h1 : 65 ≤ x) (h2 : x ≤ 90) : (UInt8.ofNat x).toNat = x := by rw [UInt8.toNat_ofNat']; omega
theorem colS_is (c : Int) (h1 : 1 ≤ c) (h2 : c ≤ 702) : (∃ x, colS c = [UInt8.ofNat x] ∧ 65 ≤ x ∧ x ≤ 90 ∧ (x : Int) - 64 = c) ∨ ∃ x y, colS c = [UInt8.ofNat x, UInt8.ofNat y] ∧ 65 ≤ x ∧ x ≤ 90 ∧ 65 ≤ y ∧ y ≤ 90 ∧ 26 * ((x : Int) - 64) + ((y : Int) - 64) = c := by
  unfold colS
  rw [if_neg (by omega)]
  split
  · exact .inl ⟨_, rfl, by omega, by omega, by omega⟩
  · exact .inr ⟨_, _, rfl, by omega, by omega, by omega, by omega, by omega⟩
theorem nmS_nam (k : Int) (h : OkC k) : NamW (nmS k) := by
  have hr : rtC (cC k) (cR k) = true := h
  have hr' := hr
  unfold rtC at hr'
  simp at hr'
  have hdg : ∀ r : Nat, r ≤ 9999 → (dcL r).all (fun c => Tks.nmB c.toNat) = true := by
    have key : ∀ (k r : Nat), r ≤ k → r ≤ 9999 → (dcL r).all (fun c => Tks.nmB c.toNat) = true := by
      have one : ∀ d, d < 10 → Tks.nmB (chr d).toNat = true := fun d hd => by
        rw [chr_toNat hd]
        unfold Tks.nmB Tks.dgB
        simp
        omega
      intro k
      induction k with
      | zero =>
        intro r h1 h2
        rw [dcL_small (by omega)]
        simp [one r (by omega)]
      | succ k ih =>
        intro r h1 h2
        by_cases h10 : r < 10
        · rw [dcL_small h10]
          simp [one r h10]
        · rw [dcL_step h10 (by omega), List.all_append, ih (r / 10) (by omega) (by omega)]
          simp [one (r % 10) (Nat.mod_lt _ (by omega))]
    exact fun r h => key r r (Nat.le_refl _) h
  have hd := hdg (cR k).toNat (by omega)
  unfold nmS cellS
  rw [if_pos hr]
  rcases colS_is (cC k) (by omega) (by omega) with ⟨x, e, h1, h2, _⟩ | ⟨x, y, e, h1, h2, h3, h4, _⟩
  · rw [e]
    refine ⟨_, _, rfl, ?_, hd⟩
    rw [letr h1 h2]
    unfold Tks.upB
    simp
    omega
  · rw [e]
    refine ⟨_, _, rfl, ?_, ?_⟩
    · rw [letr h1 h2]
      unfold Tks.upB
      simp
      omega
    · show (UInt8.ofNat y :: dcL (cR k).toNat).all (fun c => Tks.nmB c.toNat) = true
      rw [List.all_cons, hd, letr h3 h4]
      simp [Tks.nmB, Tks.upB]
      omega
end Go.Proofs.YtbdgdhjhgcpidaaGreatDoor
namespace Go.Proofs.YtbdgdhjhgcpidaaGreatDoor
open Go.RowKit Go.Joins
set_option maxRecDepth 100000 in
set_option maxHeartbeats 2000000 in
theorem letters_any (s : ByteArray) (k : Nat) (hs : s.size ≤ 1000) (hk : k ≤ s.size) (hup : ∀ j, j < k → 65 ≤ btN s.data.toList j ∧ btN s.data.toList j ≤ 90) (hstop : k = s.size ∨ ¬ (65 ≤ btN s.data.toList k ∧ btN s.data.toList k ≤ 90)) (w : World) :
    Calls Tryz.prog 149 #[.string s] w fun e w' => e = .returned (.int .i64 k) ∧ w = w' := by
  have HB := Lib.hid (btN_str s)
  have HU := Lib.hid hup
  have HS := Lib.hid hstop
  clear hup hstop
  go_enter Tryz.func149, Tryz.ntmps149
  go_wp2_with fail
  go_loopw [3] (fun a wx => ∃ j : Nat, a = .int .i64 j ∧ j ≤ k ∧ wx = w) (fun a _ => k - (intOf a).toNat)
  case atStart => exact ⟨0, rfl, by omega, rfl⟩
  case round =>
    obtain ⟨j, rfl, hjk, rfl⟩ := hrel
    by_cases hj : j < k
    · have hjs : j < s.size := by omega
      have hji : (j : Int) < (s.size : Int) := by omega
      obtain ⟨u1, u2⟩ := HU.out j hj
      have hb := HB.out j hjs
      have g1 : ¬ ((s[j].toNat : Nat) : Int) < 65 := by rw [hb]; omega
      have g2 : ((s[j].toNat : Nat) : Int) ≤ 90 := by rw [hb]; omega
      have g3 : (65 : Int) ≤ ((s[j].toNat : Nat) : Int) := by rw [hb]; omega
      clear hb u1 u2
      go_wp2_with fail
      go_roundw
      case rel => exact ⟨j + 1, by go_num, by omega, by first | rfl | trivial⟩
      case measure => simp [intOf]; omega
    · obtain rfl : j = k := by omega
      by_cases hjs : j < s.size
      · have hji : (j : Int) < (s.size : Int) := by omega
        have hb := HB.out j hjs
        have hst : ¬ (65 ≤ btN s.data.toList j ∧ btN s.data.toList j ≤ 90) := by
          rcases HS.out with h | h
          · omega
          · exact h
        rw [← hb] at hst
        by_cases h1 : 65 ≤ s[j].toNat
        · have g3 : (65 : Int) ≤ ((s[j].toNat : Nat) : Int) := by omega
          have g2 : ¬ ((s[j].toNat : Nat) : Int) ≤ 90 := by omega
          clear hb hst h1
          go_wp2_with fail
          go_ret
          exact ⟨rfl, rfl⟩
        · have g3 : ¬ (65 : Int) ≤ ((s[j].toNat : Nat) : Int) := by omega
          clear hb hst h1
          go_wp2_with fail
          go_ret
          exact ⟨rfl, rfl⟩
      · have hji : ¬ (j : Int) < (s.size : Int) := by omega
        go_wp2_with fail
        go_ret
        exact ⟨rfl, rfl⟩
def colV (L : Bs) : Nat := L.foldl (fun n c => 26 * n + (c.toNat - 64)) 0
theorem colV_at {L : Bs} {i : Nat} (h : i < L.length) : colV (L.take (i + 1)) = 26 * colV (L.take i) + (btN L i - 64) := by
  unfold colV
  rw [List.take_add_one, List.getElem?_eq_getElem h, List.foldl_append, btN_get h]
  rfl
set_option maxRecDepth 100000 in
set_option maxHeartbeats 2000000 in
theorem column_any (s : ByteArray) (hs1 : 1 ≤ s.size) (hs2 : s.size ≤ 2) (hup : ∀ j, j < s.size → 65 ≤ btN s.data.toList j ∧ btN s.data.toList j ≤ 90) (w : World) :
    Calls Tryz.prog 151 #[.string s] w fun e w' => e = .returned (.int .i64 (colV s.data.toList)) ∧ Below w.heap.size w w' := by
  have HL := Lib.hid (fun W => letters_any s s.size (by omega) (Nat.le_refl _) hup (.inl rfl) W)
  have HU := Lib.hid hup
  have HSZ : Hid (s.data.toList.length = s.size) := (Lib.size_eq s).symm
  have HBC := Lib.hid (fun W => bytes_cell W s)
  have hem : s.toList.isEmpty = false := by
    rw [Lib.toList_data]
    cases hd : s.data.toList with
    | nil => have := HSZ.out; rw [hd] at this; simp at this; omega
    | cons c r => rfl
  have hconv := fun (W : World) => Lib.run_convert_string_bytes (P := Tryz.prog) W 9 125 5 s Tryz.underlying9 Tryz.underlying125 Tryz.underlying5
  have g2 : ¬ (2 : Int) < (s.size : Int) := by omega
  obtain ⟨L, hL⟩ : ∃ L, s.data.toList = L := ⟨_, rfl⟩
  rw [hL] at HU HSZ HBC ⊢
  clear hL hup
  go_enter Tryz.func151, Tryz.ntmps151
  go_wp2_with fail
  refine (HL.out w).mono ?_
  rintro e w1 ⟨rfl, rfl⟩
  go_wp2_with fail
  have hbw := Lib.hid (bytes_below w s)
  have hbc := Lib.hid (HBC.out w)
  generalize Lib.bytesWorld w 5 s = W1 at hbw hbc ⊢
  go_loopg [3, 23] s.size (fun g v3 v23 wr => ∃ i : Nat, i + g = s.size ∧ v23 = .int .i64 i ∧ v3 = .int .i64 (colV (L.take i) : Nat) ∧ ((i = 0 → colV (L.take i) = 0) ∧ (i = 1 → colV (L.take i) ≤ 26)) ∧ wr = W1)
  case atStart => exact ⟨0, by omega, rfl, rfl, ⟨fun _ => rfl, fun h => by omega⟩, rfl⟩
  case round =>
    obtain ⟨i, hig, rfl, rfl, hbd, rfl⟩ := hrel
    by_cases hlt : i < s.size
    · have hli : (i : Int) < (s.size : Int) := by omega
      have hc := hbc.out i hlt
      have HAT := Lib.hid (colV_at (L := L) (i := i) (by rw [HSZ.out]; exact hlt))
      obtain ⟨u1, u2⟩ := HU.out i hlt
      obtain ⟨c, hcc⟩ : ∃ c, btN L i = c := ⟨_, rfl⟩
      rw [hcc] at hc HAT u1 u2
      obtain ⟨n, hn⟩ : ∃ n, colV (L.take i) = n := ⟨_, rfl⟩
      rw [hn] at HAT hbd ⊢
      obtain ⟨x, hx⟩ : ∃ x, c - 65 = x := ⟨_, rfl⟩
      have f0 : (c : Int) - 65 = (x : Int) := by omega
      have hx26 : x ≤ 26 := by omega
      have f1 : IntKind.u8.wrap (x : Int) = (x : Int) := IntWalk.u8_in _ (by omega)
      have f2 : IntKind.i64.wrap (x : Int) = (x : Int) := IntWalk.i64_in _ (by omega)
      have hn2 : n ≤ 1404 := by
        rcases (show i = 0 ∨ i = 1 by omega) with h | h
        · have := hbd.1 h; omega
        · have := hbd.2 h; omega
      have f3 : IntKind.i64.wrap (26 * (n : Int)) = 26 * (n : Int) := IntWalk.i64_in _ (by omega)
      have HE : Hid (colV (L.take (i + 1)) = 26 * n + x + 1) := by unfold Hid; rw [HAT.out]; omega
      have hb2 : (i + 1 = 0 → 26 * n + x + 1 = 0) ∧ (i + 1 = 1 → 26 * n + x + 1 ≤ 26) := ⟨fun h => by omega, fun h => by have := hbd.1 (by omega); omega⟩
      have hb3 : 26 * n + x + 1 ≤ 100000 := by omega
      clear hcc hn HAT hconv hx u1 u2
      go_wp2_with fail
      go_roundg (gk - 1)
      case measure => omega
      case rel => exact ⟨i + 1, by omega, by go_num, by rw [HE.out]; go_num, by rw [HE.out]; exact hb2, by first | rfl | trivial⟩
    · obtain rfl : i = s.size := by omega
      have hli : ¬ (s.size : Int) < (s.size : Int) := by omega
      have HE : Hid (colV (L.take s.size) = colV L) := by unfold Hid; rw [List.take_of_length_le (by rw [HSZ.out]; exact Nat.le_refl _)]
      clear hconv
      go_wp2_with fail
      go_ret
      exact ⟨by rw [← HE.out]; rfl, hbw.out⟩
theorem colV_col (c : Int) (h1 : 1 ≤ c) (h2 : c ≤ 702) : (colV (colS c) : Int) = c ∧ 1 ≤ (colS c).length ∧ ∀ j, j < (colS c).length → 65 ≤ btN (colS c) j ∧ btN (colS c) j ≤ 90 := by
  rcases colS_is c h1 h2 with ⟨x, e, h3, h4, h5⟩ | ⟨x, y, e, h3, h4, h5, h6, h7⟩
  · rw [e]
    refine ⟨?_, by simp, fun j hj => ?_⟩
    · unfold colV
      show ((26 * 0 + ((UInt8.ofNat x).toNat - 64) : Nat) : Int) = c
      rw [letr h3 h4]
      omega
    · obtain rfl : j = 0 := by simpa using hj
      show 65 ≤ (UInt8.ofNat x).toNat ∧ (UInt8.ofNat x).toNat ≤ 90
      rw [letr h3 h4]
      exact ⟨h3, h4⟩
  · rw [e]
    refine ⟨?_, by simp, fun j hj => ?_⟩
    · unfold colV
      show ((26 * (26 * 0 + ((UInt8.ofNat x).toNat - 64)) + ((UInt8.ofNat y).toNat - 64) : Nat) : Int) = c
      rw [letr h3 h4, letr h5 h6]
      omega
    · have : j = 0 ∨ j = 1 := by simp at hj; omega
      rcases this with rfl | rfl
      · show 65 ≤ (UInt8.ofNat x).toNat ∧ (UInt8.ofNat x).toNat ≤ 90
        rw [letr h3 h4]
        exact ⟨h3, h4⟩
      · show 65 ≤ (UInt8.ofNat y).toNat ∧ (UInt8.ofNat y).toNat ≤ 90
        rw [letr h5 h6]
        exact ⟨h5, h6⟩
set_option maxRecDepth 100000 in
set_option maxHeartbeats 4000000 in
theorem aparse_any (c r : Int) (hrt : rtC c r = true) (w : World) : Calls Tryz.prog 142 #[.string ⟨(cellS c r).toArray⟩] w fun e w' => e = .returned (.tuple #[.agg #[.int .i64 c, .int .i64 r], .int .i64 0]) ∧ Below w.heap.size w w' := by
  have hr' := hrt
  unfold rtC at hr'
  simp at hr'
  obtain ⟨n, rfl⟩ : ∃ n : Nat, r = (n : Int) := ⟨r.toNat, by omega⟩
  obtain ⟨v1, v2, v3⟩ := colV_col c (by omega) (by omega)
  obtain ⟨d, q, hd, hd10⟩ := dcL_head n (by omega)
  have hl2 := dcL_len n
  have hl1 := colS_len c
  have HN := Lib.hid (fun W => num_dc n (by omega) (by omega) W)
  have HC := Lib.hid (fun W => column_any ⟨(colS c).toArray⟩ (by rw [Lib.size_eq]; simpa using v2) (by rw [Lib.size_eq]; simpa using hl1) (fun j hj => by rw [Lib.size_eq] at hj; simpa using v3 j (by simpa using hj)) W)
  rw [show (⟨(colS c).toArray⟩ : ByteArray).data.toList = colS c from by simp, v1] at HC
  have HR := Lib.hid (fun W => cright_any c (n : Int) W)
  rw [hrt] at HR
  rw [show cellS c (n : Int) = colS c ++ dcL n from by unfold cellS; rw [hrt]; rfl]
  obtain ⟨s, hs⟩ : ∃ s : ByteArray, (⟨(colS c ++ dcL n).toArray⟩ : ByteArray) = s := ⟨_, rfl⟩
  obtain ⟨a, ha⟩ : ∃ a, (colS c).length = a := ⟨_, rfl⟩
  have hdat : s.data.toList = colS c ++ dcL n := by rw [← hs]
  have hsz : s.size = a + (dcL n).length := by rw [Lib.size_eq, hdat, List.length_append, ha]
  have he1 : s.extract a s.size = ⟨(dcL n).toArray⟩ := by
    apply ByteArray.ext
    apply Array.toList_inj.1
    rw [Lib.extract_data, hdat, ← ha, List.drop_append_of_le_length (Nat.le_refl _), List.drop_length, List.nil_append, List.take_of_length_le (by omega)]
  have he2 : s.extract 0 a = ⟨(colS c).toArray⟩ := by
    apply ByteArray.ext
    apply Array.toList_inj.1
    rw [Lib.extract_data, hdat, List.drop_zero, ← ha, Nat.sub_zero, List.take_append_of_le_length (Nat.le_refl _), List.take_length]
  have HL := Lib.hid (fun W => letters_any s a (by omega) (by omega) (fun j hj => by
    have h := v3 j (by omega)
    unfold btN at h ⊢
    rw [hdat]
    rw [List.getD_eq_getElem?_getD] at h ⊢
    rw [List.getElem?_append_left (by omega)]
    exact h) (.inr (by
    unfold btN
    rw [hdat, List.getD_eq_getElem?_getD, List.getElem?_append_right (by omega), ← ha, Nat.sub_self, hd]
    show ¬ (65 ≤ (chr d).toNat ∧ (chr d).toNat ≤ 90)
    rw [chr_toNat hd10]
    omega)) W)
  rw [hs]
  have has : a ≤ s.size := by omega
  have hs100 : s.size ≤ 100 := by omega
  generalize dcL n = D at HN he1
  generalize colS c = E at HC he2
  clear hs hdat hsz hd hl1 hl2 v1 v2 v3 ha hrt
  have hA0 : Hid (BlkC (w.alloc (.cells #[.int .i64 0, .int .i64 0] 23)) w.heap.size #[.int .i64 0, .int .i64 0] 23) := heap_alloc_new w _
  have hAB : Hid (Below w.heap.size w (w.alloc (.cells #[.int .i64 0, .int .i64 0] 23))) := by unfold Hid; (repeat' (first | (with_reducible exact Below.refl _ _) | (with_reducible assumption) | (with_reducible refine Below.alloc ?_ ?_ _) | (with_reducible refine bel_drewN ?_ _) | (with_reducible refine Below.drew ?_) | (with_reducible refine Below.setCell ?_ ?_ _) | (with_reducible refine bel_call ‹_› ?_ ?_) | go_size))
  go_enter Tryz.func142, Tryz.ntmps142
  go_upto_region 1 with fail
  generalize w.alloc (.cells #[.int .i64 0, .int .i64 0] 23) = w0 at hA0 hAB ⊢
  go_wp2_with fail
  refine (HL.out _).mono ?_
  rintro e w1 ⟨rfl, rfl⟩
  go_wp2_with fail
  refine (HN.out _).mono ?_
  rintro e w2 ⟨rfl, hb2⟩
  have hA2 := Lib.hid (hA0.out.below hb2)
  have hB2 : Hid (Below w.heap.size w w2) := bel_call hb2 hAB.out hAB.out.size
  clear hb2 hA0 hAB
  go_wp2_with fail
  refine (HC.out _).mono ?_
  rintro e w3 ⟨rfl, hb3⟩
  have hA3 := Lib.hid (hA2.out.below hb3)
  have hB3 : Hid (Below w.heap.size w w3) := bel_call hb3 hB2.out hB2.out.size
  have hs3 : w.heap.size < w3.heap.size := lt_some hA3.out
  clear hb3 hA2 hB2
  go_upto_region 4 with fail
  have hT4 : Hid (BlkC (w3.alloc (.cells #[.int .i64 c, .int .i64 n] 23)) w3.heap.size #[.int .i64 c, .int .i64 n] 23) := heap_alloc_new w3 _
  have hA4 : Hid (BlkC (w3.alloc (.cells #[.int .i64 c, .int .i64 n] 23)) w.heap.size #[.int .i64 0, .int .i64 0] 23) := hA3.out.alloc _
  have hB4 : Hid (Below w.heap.size w (w3.alloc (.cells #[.int .i64 c, .int .i64 n] 23))) := hB3.out.alloc (by omega) _
  clear hA3 hB3
  generalize w3.alloc (.cells #[.int .i64 c, .int .i64 n] 23) = w4 at hT4 hA4 hB4 ⊢
  generalize w3.heap.size = G at hT4 hs3 ⊢
  have c0 : w4.cell? ⟨G, 0, none⟩ = some (.int .i64 c) := hT4.out.cell 0 _ rfl
  have c1 : w4.cell? ⟨G, 1, none⟩ = some (.int .i64 n) := hT4.out.cell 1 _ rfl
  go_wp2_with fail
  refine (HR.out _).mono ?_
  rintro e w5 ⟨rfl, hb5⟩
  have hA5 := Lib.hid (hA4.out.below hb5)
  have hT5 := Lib.hid (hT4.out.below hb5)
  have hB5 : Hid (Below w.heap.size w w5) := bel_call hb5 hB4.out hB4.out.size
  clear hb5 hA4 hT4 hB4 c0 c1
  go_upto_region 6 with fail
  refine wp_region_lit ?_
  refine wpList_load_mid (by rfl) _ _ (by rfl) G 0 (by rfl) [.int .i64 c, .int .i64 n] _ (block_range hT5.out [.int .i64 c, .int .i64 n] rfl) Tryz.underlying23 rfl (by kernel_rfl) ?_
  go_simp
  refine wpList_store_mid (by rfl) _ _ _ (by rfl) w.heap.size 0 #[.int .i64 c, .int .i64 n] (by rfl) (by rfl) (block_there hA5.out 2 (Nat.le_refl _)) (by kernel_rfl) (by simp [Value.oneCell']) ?_
  have hs8 : Hid (BlkC (w5.setCells w.heap.size 0 #[.int .i64 c, .int .i64 n].toList) w.heap.size #[.int .i64 c, .int .i64 n] 23) := store_block hA5.out _ rfl
  have hb8 : Hid (Below w.heap.size w (w5.setCells w.heap.size 0 #[.int .i64 c, .int .i64 n].toList)) := store_below (Nat.le_refl _) _ _ _ hB5.out
  generalize w5.setCells w.heap.size 0 #[.int .i64 c, .int .i64 n].toList = w9 at hs8 hb8 ⊢
  go_simp
  go_wp2_with fail
  try simp only [Exit.inBlock, Exit.then]
  exact bodyPost_ret (results_row_tmp rfl _ _ w.heap.size 23 #[.int .i64 c, .int .i64 n] (0, 0) _ rfl hs8.out Tryz.underlying23 rfl (by kernel_rfl) _ rfl) rfl ⟨rfl, hb8.out⟩
end Go.Proofs.YtbdgdhjhgcpidaaGreatDoor
