/- Contracts of package dec: part, sign, Add, Sub, Neg. Contract of dec.Parse. Contract of dec.digits. Contracts of dec.Text, and of Div where the number of two words has one; the law's helper awake. Digits of the document's answer. -/
import Derived.Test.YtjklbbmgjjdalaaGreatDoorBqG
import Derived.Test.YtjklbbmgjjdalaaGreatDoorShelf
import Derived.Lib.ConvBytes
import Derived.Deep.DeepCutAuto
import Derived.Laws.BytesArg
import Derived.Lib.TrimByte
set_option linter.unusedSimpArgs false
set_option linter.unusedVariables false
namespace Go.Proofs.YtjklbbmgjjdalaaGreatDoor
open Go.RowKit
def sv (mi : Bool) (x : Nat) : Int := if mi then -(x : Int) else (x : Int)
def inR (z : Int) : Bool := decide (-9223372036854775808 ≤ z) && decide (z ≤ 9223372036854775807)
def okV (z : Int) : Int := if inR z then z else 0
def okE (z : Int) : Int := if inR z then 0 else 31
theorem toBad_is (mi : Bool) (x : Nat) : toBad mi x = !inR (sv mi x) := by
  unfold toBad inR sv M63
  cases mi
  · simp only [Bool.not_false, Bool.true_and, Bool.false_eq_true, if_false]
    rw [Bool.eq_iff_iff]
    simp
    omega
  · simp only [Bool.not_true, Bool.false_and, Bool.or_false, if_true]
    rw [Bool.eq_iff_iff]
    simp
    omega
theorem toV_is (mi : Bool) (x : Nat) : toV mi x = okV (sv mi x) := by
  unfold toV okV
  rw [toBad_is]
  cases inR (sv mi x) <;> simp [sv]
theorem toE_is (mi : Bool) (x : Nat) : toE mi x = okE (sv mi x) := by
  unfold toE okE
  rw [toBad_is]
  cases inR (sv mi x) <;> simp
set_option maxRecDepth 100000 in
set_option maxHeartbeats 1000000 in
theorem part_any (d : Int) (hlo : -9223372036854775808 ≤ d) (hhi : d ≤ 9223372036854775807) (w : World) :
    Calls Tryz.prog 117 #[.int .i64 d] w fun e w' => e = .returned (.int .u64 (d.natAbs : Int)) ∧ w = w' := by
  by_cases h0 : d < 0
  · obtain ⟨u, hu⟩ : ∃ u, IntKind.u64.wrap d = u := ⟨_, rfl⟩
    have e2 : IntKind.u64.wrap (-u) = (d.natAbs : Int) := by
      rw [← hu, IntKind.wrap_u64, IntKind.wrap_u64]
      omega
    clear hlo hhi
    go_enter Tryz.func117, Tryz.ntmps117
    go_wp2
    go_ret
    exact ⟨rfl, rfl⟩
  · have e1 : IntKind.u64.wrap d = (d.natAbs : Int) := by
      rw [IntKind.wrap_u64]
      omega
    clear hlo hhi
    go_enter Tryz.func117, Tryz.ntmps117
    go_wp2
    go_ret
    exact ⟨rfl, rfl⟩
end Go.Proofs.YtjklbbmgjjdalaaGreatDoor
namespace Go.Proofs.YtjklbbmgjjdalaaGreatDoor
open Go.RowKit
theorem shaped_below {P : Program} {w w' : World} (h : w.ShapedOpen P) (hb : Below w.heap.size w w') : w'.ShapedOpen P := h.keptBut (hb.frame (fun _ => False)) (fun _ h => h.elim)
def prsMi (L : List UInt8) : Bool := Lib.hasPrefix L [45]
theorem trimPrefix_len (s p : List UInt8) : (Lib.trimPrefix s p).length ≤ s.length := by
  unfold Lib.trimPrefix
  split <;> simp
end Go.Proofs.YtjklbbmgjjdalaaGreatDoor
namespace Go.Proofs.YtjklbbmgjjdalaaGreatDoor
open Go.RowKit
def C8 (d : Nat) : Value := .int .u8 ((48 + d : Nat) : Int)
def padL (n least : Nat) : List Nat := digs n ++ List.replicate (least - (digs n).length) 0
theorem padL_step {m k least : Nat} (h : m ≠ 0 ∨ k < least) (hk : True) : digs m ++ List.replicate (least - k - (digs m).length) 0 = m % 10 :: (digs (m / 10) ++ List.replicate (least - (k + 1) - (digs (m / 10)).length) 0) := by
  by_cases hm : m = 0
  · subst hm
    have hk : k < least := by omega
    simp only [digs_zero, List.nil_append, List.length_nil, Nat.sub_zero, Nat.zero_mod, Nat.zero_div]
    rw [show least - k = (least - (k + 1)) + 1 from by omega, List.replicate_succ]
  · rw [digs_pos hm]
    simp only [List.cons_append, List.length_cons]
    rw [show least - k - ((digs (m / 10)).length + 1) = least - (k + 1) - (digs (m / 10)).length from by omega]
def lettersOf (L : List Nat) : List UInt8 := L.map fun d => UInt8.ofNat (48 + d)
def dgText (n least : Nat) : List UInt8 := lettersOf (padL n least).reverse
theorem one8 (d : Nat) : ∀ u ∈ [C8 d], u.oneCell' = true := by
  intro u hu
  simp at hu
  subst hu
  rfl
def mir (T : List Nat) (i : Nat) : List Nat := (List.range T.length).map fun j => if j < i ∨ T.length - 1 - j < i then nth T (T.length - 1 - j) else nth T j
theorem mir_len (T : List Nat) (i : Nat) : (mir T i).length = T.length := by simp [mir]
theorem mir_nth {T : List Nat} {i j : Nat} (hj : j < T.length) : nth (mir T i) j = if j < i ∨ T.length - 1 - j < i then nth T (T.length - 1 - j) else nth T j := by
  simp [nth, mir, List.getD, hj]
theorem nth_get {T : List Nat} {j : Nat} (h : j < T.length) : nth T j = T[j] := by simp [nth, List.getD, h]
theorem mir_zero (T : List Nat) : mir T 0 = T := by
  apply List.ext_getElem
  · exact mir_len T 0
  · intro j h1 h2
    rw [← nth_get h1, mir_nth h2, if_neg (by omega), nth_get h2]
theorem mir_end {T : List Nat} {i k : Nat} (hik : i + k + 1 = T.length) (h : k ≤ i) : mir T i = T.reverse := by
  apply List.ext_getElem
  · simp [mir_len]
  · intro j h1 h2
    have hj : j < T.length := by simpa [mir_len] using h1
    rw [← nth_get h1, mir_nth hj]
    rw [List.getElem_reverse]
    by_cases hc : j < i ∨ T.length - 1 - j < i
    · rw [if_pos hc, nth_get (by omega)]
    · rw [if_neg hc, nth_get hj]
      congr 1
      omega
theorem mir_empty {T : List Nat} (h : T.length = 0) : mir T 0 = T.reverse := by
  have : T = [] := List.eq_nil_of_length_eq_zero h
  subst this
  rfl
theorem mir_step {T : List Nat} {i k : Nat} (hik : i + k + 1 = T.length) (h : i < k) : ((mir T i).set i (nth T k)).set k (nth T i) = mir T (i + 1) := by
  apply List.ext_getElem
  · simp [mir_len]
  · intro j h1 h2
    have hj : j < T.length := by simpa [mir_len] using h2
    rw [← nth_get h2, mir_nth hj, List.getElem_set]
    by_cases hk : k = j
    · subst hk
      rw [if_pos rfl, if_pos (by omega)]
      congr 1
      omega
    · rw [if_neg hk, List.getElem_set]
      by_cases hi : i = j
      · subst hi
        rw [if_pos rfl, if_pos (by omega)]
        congr 1
        omega
      · rw [if_neg hi, ← nth_get (by simpa [mir_len] using hj), mir_nth hj]
        by_cases hc : j < i ∨ T.length - 1 - j < i
        · rw [if_pos hc, if_pos (by omega)]
        · rw [if_neg hc, if_neg (by omega)]
theorem mapc_getD {A : List Nat} {j : Nat} (h : j < A.length) : (A.map fun d => ((48 + d : Nat) : Int)).getD j 0 = ((48 + nth A j : Nat) : Int) := by simp [nth, List.getD, h]
theorem c8_cell {L : List Nat} {j : Nat} (h : j < L.length) : (L.map C8)[j]? = some (.int .u8 ((48 + nth L j : Nat) : Int)) := by simp [nth, List.getD, h, C8]
theorem own_form {w : World} {base e size n : Nat} {v : Value} {xs : List Value} (h : w.ownsRow base e size v n xs) : ∃ p cap, v = .slice p n cap ∧ n ≤ cap ∧ cap ≤ 9223372036854775807 ∧ (0 < n → ∃ g, p = some ⟨g, 0, none⟩ ∧ base ≤ g ∧ g < w.heap.size) := by
  rcases h.2 with ⟨rfl, rfl⟩ | ⟨g, cap, cur, rfl, hg, hh, hn, hm, r⟩
  · exact ⟨none, 0, rfl, Nat.le_refl _, by omega, fun h => by omega⟩
  · refine ⟨_, cap, rfl, hn, hm, fun _ => ⟨g, rfl, hg, ?_⟩⟩
    rcases Nat.lt_or_ge g w.heap.size with h' | h'
    · exact h'
    · rw [Array.getElem?_eq_none h'] at hh; cases hh
set_option maxRecDepth 100000 in
set_option maxHeartbeats 2000000 in
theorem digits_any (n least : Nat) (hn : n ≤ 18446744073709551615) (hl : least ≤ 100) (w : World) :
    Calls Tryz.prog 116 #[.int .u64 n, .int .i64 least] w fun e w' => e = .returned (.string ⟨(dgText n least).toArray⟩) ∧ Below w.heap.size w w' := by
  obtain ⟨i0, hi, hz0, hz1, hz2⟩ := info_parts info_u8
  obtain ⟨T, hT⟩ : ∃ T, padL n least = T := ⟨_, rfl⟩
  have hTl : T.length ≤ 120 := by
    rw [← hT]
    have h2 := digs_length_le (n := n) (k := 20) (by omega)
    simp [padL]
    omega
  have HT := Lib.hid hT
  have HN := Lib.hid hn
  clear hT hn
  go_enter Tryz.func116, Tryz.ntmps116
  go_wp2_with fail
  go_loopg [0, 5] T.length (fun g v0 v5 wr => ∃ (m : Nat) (L : List Nat), L.length + g = T.length ∧ m ≤ 18446744073709551615 ∧ v0 = .int .u64 m ∧ wr.ownsRow w.heap.size 5 1 v5 L.length (L.map C8) ∧ Below w.heap.size w wr ∧ L ++ (digs m ++ List.replicate (least - L.length - (digs m).length) 0) = T)
  case atStart => exact ⟨n, [], by simp, HN.out, rfl, World.ownsRow_nil _ _ _ _, Below.refl _ _, by rw [← HT.out]; simp [padL]⟩
  case round =>
    obtain ⟨m, L, hg, hm, rfl, hown, hb, hL⟩ := hrel
    have HL := Lib.hid hL
    have HM := Lib.hid hm
    clear hL hm
    have hsz := hb.size
    obtain ⟨k, hk⟩ : ∃ k, L.length = k := ⟨_, rfl⟩
    have HK := Lib.hid hk
    rw [hk] at hg hown
    clear hk
    obtain ⟨p5, cap5, rfl, hk5, hm5, hf5⟩ := own_form hown
    have HF5 := Lib.hid hf5
    clear hf5
    by_cases hgo : m ≠ 0 ∨ k < least
    · have hstep : Hid (L ++ [m % 10] ++ (digs (m / 10) ++ List.replicate (least - (k + 1) - (digs (m / 10)).length) 0) = T) := by
        unfold Hid
        have h1 := HL.out
        rw [HK.out, padL_step hgo trivial] at h1
        rw [← h1]
        simp
      have hg1 : 0 < gk := by
        have := congrArg List.length hstep.out
        simp [HK.out] at this
        omega
      have hq : IntKind.u64.wrap ((m : Int) / 10) = (m : Int) / 10 := IntWalk.u64_in _ (by have := HM.out; omega)
      by_cases g1 : 0 < m
      · by_cases g2 : k < least
        all_goals clear hgo
        all_goals go_wp2_with (at_builtin; refine wpList_append_own _ rfl (.tmp 16) (.tmp 21) _ rfl w.heap.size 5 i0 (.int .u8 0) 1 1 Tryz.underlying65 hi hz0 hz1 hz2 rfl (by decide) _ k (L.map C8) rfl (hown.alloc _) ⟨wr.heap.size, 0, none⟩ 1 1 [C8 (m % 10)] rfl rfl (news1 wr (C8 (m % 10)) _) (one8 _) (by unfold maxLen; omega) (by omega) (by simp; omega) ?_; intro v' w1 hown1 hgrow1 _)
        all_goals
          go_roundg (gk - 1)
          case measure => omega
          case rel => exact ⟨m / 10, L ++ [m % 10], by simp [HK.out]; omega, by have := HM.out; omega, by go_num, by rw [List.length_append, HK.out]; simpa using hown1, (hb.alloc hsz _).grown hgrow1 (by simp; omega) (fun k hk => (hown.lt k hk).1), by rw [List.length_append, HK.out]; exact hstep.out⟩
      · obtain rfl : m = 0 := by omega
        have g2 : k < least := by omega
        clear hgo hq g1
        go_wp2_with (at_builtin; refine wpList_append_own _ rfl (.tmp 16) (.tmp 21) _ rfl w.heap.size 5 i0 (.int .u8 0) 1 1 Tryz.underlying65 hi hz0 hz1 hz2 rfl (by decide) _ k (L.map C8) rfl (hown.alloc _) ⟨wr.heap.size, 0, none⟩ 1 1 [C8 (0 % 10)] rfl rfl (news1 wr (C8 (0 % 10)) _) (one8 _) (by unfold maxLen; omega) (by omega) (by simp; omega) ?_; intro v' w1 hown1 hgrow1 _)
        go_roundg (gk - 1)
        case measure => omega
        case rel => exact ⟨0 / 10, L ++ [0 % 10], by simp [HK.out]; omega, by have := HM.out; omega, rfl, by rw [List.length_append, HK.out]; simpa using hown1, (hb.alloc hsz _).grown hgrow1 (by simp; omega) (fun k hk => (hown.lt k hk).1), by rw [List.length_append, HK.out]; exact hstep.out⟩
    · have hm0 : m = 0 := by omega
      subst hm0
      have hLT : L = T := by
        have h1 := HL.out
        rw [HK.out, show least - k - (digs 0).length = 0 from by omega] at h1
        simpa [digs_zero] using h1
      subst hLT
      have g2 : ¬ k < least := by omega
      clear HL hg hgo
      go_wp2_with fail
      go_loopg [6, 7] k (fun g v6 v7 wx => ∃ (i : Nat) (z : Int), i + g = k ∧ v6 = .int .i64 i ∧ v7 = .int .i64 z ∧ z = (k : Int) - 1 - (i : Int) ∧ (i : Int) ≤ z + 1 ∧ wx.ownsRow w.heap.size 5 1 (.slice p5 k cap5) k ((mir L i).map C8) ∧ Below w.heap.size w wx)
      case atStart => exact ⟨0, (k : Int) - 1, by omega, rfl, rfl, by omega, by omega, by rw [mir_zero]; exact hown, hb⟩
      case round =>
        clear hown hb hsz
        obtain ⟨i, z, hig, rfl, rfl, hz, hiz, hown, hb⟩ := hrel
        have hsz := hb.size
        by_cases hlt : (i : Int) < z
        · obtain ⟨j, rfl⟩ : ∃ j : Nat, z = (j : Int) := ⟨z.toNat, by omega⟩
          obtain ⟨g, rfl, hg1, hg2⟩ := HF5.out (by omega)
          have hij : i < j := by omega
          have hik : i + j + 1 = k := by omega
          have hml : (mir L i).length = k := by rw [mir_len, HK.out]
          obtain ⟨x, hx⟩ : ∃ x, 48 + nth (mir L i) i = x := ⟨_, rfl⟩
          obtain ⟨y, hy⟩ : ∃ y, 48 + nth (mir L i) j = y := ⟨_, rfl⟩
          have ci : wr.cell? ⟨g, i, none⟩ = some (.int .u8 (x : Int)) := by rw [hown.cellAt i (by omega), c8_cell (by omega), hx]
          have cj : wr.cell? ⟨g, j, none⟩ = some (.int .u8 (y : Int)) := by rw [hown.cellAt j (by omega), c8_cell (by omega), hy]
          have fi : wr.frozen? ⟨g, i, none⟩ = false := hown.frozenAt i
          have fj : wr.frozen? ⟨g, j, none⟩ = false := hown.frozenAt j
          have hi1 : (i : Int) < (k : Int) := by omega
          have hj1 : (j : Int) < (k : Int) := by omega
          have hi0 : (0 : Int) ≤ (i : Int) := by omega
          have hj0 : (0 : Int) ≤ (j : Int) := by omega
          have hst := ((hown.stored i (C8 (nth (mir L i) j))).1.stored j (C8 (nth (mir L i) i))).1
          have hset : (((mir L i).map C8).set i (C8 (nth (mir L i) j))).set j (C8 (nth (mir L i) i)) = (mir L (i + 1)).map C8 := by
            rw [← List.map_set, ← List.map_set, mir_nth (by rw [HK.out]; omega), mir_nth (by rw [HK.out]; omega), if_neg (by rw [HK.out]; omega), if_neg (by rw [HK.out]; omega), mir_step (by rw [HK.out]; omega) hij]
          rw [hset] at hst
          have HST := Lib.hid hst
          have HXY := Lib.hid (And.intro hx hy)
          have HIK := Lib.hid hik
          have hkle : (i : Int) + 1 ≤ (k : Int) := by omega
          clear hst hset hx hy hown hz hik
          go_wp2_with fail
          go_region
          all_goals go_wp2_with fail
          all_goals
            go_roundg (gk - 1)
            case measure => omega
            case rel => exact ⟨i + 1, (j : Int) - 1, by omega, by go_num, rfl, by have := HIK.out; omega, by have := HIK.out; omega, by have h1 := HST.out; unfold C8 at h1; rw [HXY.out.1, HXY.out.2] at h1; exact h1, (hb.drew.setCell (by simp; omega) _).setCell (by simp; omega) _⟩
        · have hrev : mir L i = L.reverse := by
            by_cases h0 : k = 0
            · have : i = 0 := by omega
              subst this
              exact mir_empty (by rw [HK.out]; exact h0)
            · exact mir_end (k := z.toNat) (by rw [HK.out]; omega) (by omega)
          rw [hrev] at hown
          have hres : ∀ xs : List Int, xs = L.reverse.map (fun d => ((48 + d : Nat) : Int)) → strOfNums xs = ⟨(dgText n least).toArray⟩ := by
            intro xs hxs
            subst hxs
            unfold strOfNums dgText lettersOf
            rw [HT.out, List.map_map]
            rfl
          have hrl : L.reverse.length = k := by simp [HK.out]
          rcases hown.2 with ⟨hv, hk0⟩ | ⟨g, cap', cur, hv, hg1, hh, _⟩
          · obtain ⟨rfl, rfl, rfl⟩ : p5 = none ∧ k = 0 ∧ cap5 = 0 := by simpa using hv
            obtain rfl : L = [] := List.eq_nil_of_length_eq_zero HK.out
            have hcv := run_convert_bytes_nil (P := Tryz.prog) wr 65 5 Tryz.underlying65 Tryz.underlying5 0 0 9 Tryz.underlying9
            have hr0 : ByteArray.empty = ⟨(dgText n least).toArray⟩ := by rw [← hres [] (by simp)]; rfl
            rw [hr0] at hcv
            clear hown hres hr0 hz hrev
            go_wp2_with fail
            go_ret
            exact ⟨rfl, hb⟩
          · obtain ⟨rfl, rfl⟩ : p5 = some ⟨g, 0, none⟩ ∧ cap5 = cap' := by simpa using hv
            have hcv := run_convert_bytes_arg (P := Tryz.prog) wr 65 5 Tryz.underlying65 Tryz.underlying5 g 0 k cap5 (L.reverse.map (fun d => ((48 + d : Nat) : Int))) (by simp [HK.out]) (fun j hj => by
              rw [Nat.zero_add, hown.cellAt j (by omega), c8_cell (by omega), mapc_getD (by omega)]) 9 Tryz.underlying9
            rw [hres _ rfl] at hcv
            clear hown hres hz hrev hrl
            go_wp2_with fail
            go_ret
            exact ⟨rfl, hb⟩
end Go.Proofs.YtjklbbmgjjdalaaGreatDoor
namespace Go.Proofs.YtjklbbmgjjdalaaGreatDoor
open Go.RowKit
def txt (d : Int) : List UInt8 :=
  (if d < 0 then [45] else []) ++ dgText (d.natAbs / 1000000) 1 ++ (if 0 < d.natAbs % 1000000 then 46 :: Lib.trimRightB (dgText (d.natAbs % 1000000) 6) 48 else [])
theorem trimRight_zero (L : List UInt8) (hL : L.length ≤ 1000000) (w : World) :
    Calls Tryz.prog 118 #[.string ⟨L.toArray⟩, .string ⟨#[48]⟩] w fun e w' => e = .returned (.string ⟨(Lib.trimRightB L 48).toArray⟩) ∧ w = w' := by
  have e1 : (⟨L.toArray⟩ : ByteArray).data.toList = L := by simp
  have := Tryz.strings_TrimRight_one ⟨L.toArray⟩ 48 (by decide) w (by rw [Lib.size_eq]; simp; omega)
  rw [e1] at this
  exact this.mono fun e w' ⟨h1, h2⟩ => ⟨h1, h2.symm⟩
theorem trimRightB_len (L : List UInt8) (c : UInt8) : (Lib.trimRightB L c).length ≤ L.length := by
  unfold Lib.trimRightB
  rw [List.length_reverse]
  have := (List.dropWhile_sublist (· == c) (l := L.reverse)).length_le
  simpa using this
theorem cat2 (X Y : List UInt8) : (⟨X.toArray⟩ : ByteArray) ++ ⟨Y.toArray⟩ = ⟨(X ++ Y).toArray⟩ := by
  apply ByteArray.ext
  simp
theorem dgText_len (n least : Nat) (hn : n ≤ 18446744073709551615) (hl : least ≤ 100) : (dgText n least).length ≤ 120 := by
  have h2 := digs_length_le (n := n) (k := 20) (by omega)
  simp [dgText, lettersOf, padL]
  omega
theorem digits_1 (q : Nat) (hq : q ≤ 18446744073709551615) (w : World) : Calls Tryz.prog 116 #[.int .u64 q, .int .i64 1] w fun e w' => e = .returned (.string ⟨(dgText q 1).toArray⟩) ∧ Below w.heap.size w w' := digits_any q 1 hq (by omega) w
theorem digits_6 (q : Nat) (hq : q ≤ 18446744073709551615) (w : World) : Calls Tryz.prog 116 #[.int .u64 q, .int .i64 6] w fun e w' => e = .returned (.string ⟨(dgText q 6).toArray⟩) ∧ Below w.heap.size w w' := digits_any q 6 hq (by omega) w
set_option maxRecDepth 100000 in
set_option maxHeartbeats 2000000 in
theorem text_any (d : Int) (hlo : -9223372036854775808 ≤ d) (hhi : d ≤ 9223372036854775807) (w : World) :
    Calls Tryz.prog 98 #[.int .i64 d] w fun e w' => e = .returned (.string ⟨(txt d).toArray⟩) ∧ Below w.heap.size w w' := by
  have HP := Lib.hid (fun W => part_any d hlo hhi W)
  obtain ⟨a, ha⟩ : ∃ a, d.natAbs = a := ⟨_, rfl⟩
  have ha2 : a ≤ 9223372036854775808 := by omega
  obtain ⟨q, hq⟩ : ∃ q, a / 1000000 = q := ⟨_, rfl⟩
  obtain ⟨r, hr⟩ : ∃ r, a % 1000000 = r := ⟨_, rfl⟩
  have hr6 : r < 1000000 := by omega
  have hqz : IntKind.u64.wrap (q : Int) = (q : Int) := IntWalk.u64_in _ (by omega)
  have hrw : IntKind.u64.wrap (r : Int) = (r : Int) := IntWalk.u64_in _ (by omega)
  have hqz' : (a : Int) / 1000000 = (q : Int) := by omega
  have hrz : (a : Int) % 1000000 = (r : Int) := by omega
  have hq2 : q ≤ 18446744073709551615 := by omega
  have HQ := Lib.hid hq2
  have hda := dgText_len q 1 hq2 (by omega)
  have hdr := dgText_len r 6 (by omega) (by omega)
  have HT : Hid (txt d = (if d < 0 then [45] else []) ++ dgText q 1 ++ (if 0 < r then 46 :: Lib.trimRightB (dgText r 6) 48 else [])) := by
    unfold Hid txt
    rw [ha, hq, hr]
  obtain ⟨A, hA⟩ : ∃ A, dgText q 1 = A := ⟨_, rfl⟩
  obtain ⟨B, hB⟩ : ∃ B, dgText r 6 = B := ⟨_, rfl⟩
  obtain ⟨C, hC⟩ : ∃ C, Lib.trimRightB B 48 = C := ⟨_, rfl⟩
  have HA := Lib.hid hA
  have HB := Lib.hid hB
  have hCl : C.length ≤ 120 := by rw [← hC, ← hB]; exact Nat.le_trans (trimRightB_len _ _) hdr
  have HC := Lib.hid hC
  have HAA := Lib.hid ha
  rw [hA] at hda
  rw [hB] at hdr
  clear hlo hhi ha hq hr hq2 hA hB hC ha2
  by_cases h0 : d < 0
  all_goals by_cases h1 : 0 < r
  · have hfin : Hid (txt d = 45 :: (A ++ 46 :: C)) := by
      unfold Hid
      rw [HT.out, if_pos h0, if_pos h1, HA.out, HB.out, HC.out]
      simp
    go_enter Tryz.func98, Tryz.ntmps98
    go_wp2_with fail
    refine (HP.out _).mono ?_
    rintro e w1 ⟨rfl, rfl⟩
    rw [HAA.out]
    go_wp2_with fail
    refine (digits_1 q HQ.out _).mono ?_
    rintro e w2 ⟨rfl, hb2⟩
    rw [HA.out]
    have hs2 := hb2.size
    go_wp2_with fail
    refine (HP.out _).mono ?_
    rintro e w3 ⟨rfl, rfl⟩
    rw [HAA.out]
    go_wp2_with fail
    refine (digits_6 r (by omega) _).mono ?_
    rintro e w4 ⟨rfl, hb4⟩
    rw [HB.out]
    have hs4 := hb4.size
    go_wp2_with fail
    refine (trimRight_zero B (by omega) _).mono ?_
    rintro e w5 ⟨rfl, rfl⟩
    rw [HC.out]
    go_wp2_with fail
    go_ret
    refine ⟨?_, bel_call hb4 hb2 (by omega)⟩
    rw [hfin.out]
    exact congrArg (fun s => Ending.returned (Value.string s)) (show (⟨[45].toArray⟩ : ByteArray) ++ ⟨A.toArray⟩ ++ (⟨[46].toArray⟩ ++ ⟨C.toArray⟩) = _ by rw [cat2, cat2, cat2]; simp)
  · have hfin : Hid (txt d = 45 :: A) := by
      unfold Hid
      rw [HT.out, if_pos h0, if_neg h1, HA.out]
      simp
    go_enter Tryz.func98, Tryz.ntmps98
    go_wp2_with fail
    refine (HP.out _).mono ?_
    rintro e w1 ⟨rfl, rfl⟩
    rw [HAA.out]
    go_wp2_with fail
    refine (digits_1 q HQ.out _).mono ?_
    rintro e w2 ⟨rfl, hb2⟩
    rw [HA.out]
    have hs2 := hb2.size
    go_wp2_with fail
    refine (HP.out _).mono ?_
    rintro e w3 ⟨rfl, rfl⟩
    rw [HAA.out]
    go_wp2_with fail
    go_ret
    refine ⟨?_, hb2⟩
    rw [hfin.out]
    exact congrArg (fun s => Ending.returned (Value.string s)) (show (⟨[45].toArray⟩ : ByteArray) ++ ⟨A.toArray⟩ = _ by rw [cat2]; simp)
  · have hfin : Hid (txt d = A ++ 46 :: C) := by
      unfold Hid
      rw [HT.out, if_neg h0, if_pos h1, HA.out, HB.out, HC.out]
      simp
    go_enter Tryz.func98, Tryz.ntmps98
    go_wp2_with fail
    refine (HP.out _).mono ?_
    rintro e w1 ⟨rfl, rfl⟩
    rw [HAA.out]
    go_wp2_with fail
    refine (digits_1 q HQ.out _).mono ?_
    rintro e w2 ⟨rfl, hb2⟩
    rw [HA.out]
    have hs2 := hb2.size
    go_wp2_with fail
    refine (HP.out _).mono ?_
    rintro e w3 ⟨rfl, rfl⟩
    rw [HAA.out]
    go_wp2_with fail
    refine (digits_6 r (by omega) _).mono ?_
    rintro e w4 ⟨rfl, hb4⟩
    rw [HB.out]
    have hs4 := hb4.size
    go_wp2_with fail
    refine (trimRight_zero B (by omega) _).mono ?_
    rintro e w5 ⟨rfl, rfl⟩
    rw [HC.out]
    go_wp2_with fail
    go_ret
    refine ⟨?_, bel_call hb4 hb2 (by omega)⟩
    rw [hfin.out]
    exact congrArg (fun s => Ending.returned (Value.string s)) (show (⟨A.toArray⟩ : ByteArray) ++ (⟨[46].toArray⟩ ++ ⟨C.toArray⟩) = _ by rw [cat2, cat2]; simp)
  · have hfin : Hid (txt d = A) := by
      unfold Hid
      rw [HT.out, if_neg h0, if_neg h1, HA.out]
      simp
    go_enter Tryz.func98, Tryz.ntmps98
    go_wp2_with fail
    refine (HP.out _).mono ?_
    rintro e w1 ⟨rfl, rfl⟩
    rw [HAA.out]
    go_wp2_with fail
    refine (digits_1 q HQ.out _).mono ?_
    rintro e w2 ⟨rfl, hb2⟩
    rw [HA.out]
    have hs2 := hb2.size
    go_wp2_with fail
    refine (HP.out _).mono ?_
    rintro e w3 ⟨rfl, rfl⟩
    rw [HAA.out]
    go_wp2_with fail
    go_ret
    refine ⟨?_, hb2⟩
    rw [hfin.out]
    rfl
end Go.Proofs.YtjklbbmgjjdalaaGreatDoor
namespace Go.Proofs.YtjklbbmgjjdalaaGreatDoor
open Go.RowKit
theorem padL_len (n least : Nat) : (padL n least).length = max (digs n).length least := by
  simp [padL]; omega
theorem padL_nth (n least j : Nat) : nth (padL n least) j = nth (digs n) j := by
  unfold nth padL
  rw [List.getD_eq_getElem?_getD, List.getD_eq_getElem?_getD, List.getElem?_append]
  split
  · rfl
  · rename_i h
    rw [List.getElem?_eq_none (by omega : (digs n).length ≤ j), List.getElem?_replicate]
    split <;> rfl
theorem padL_lt (n least : Nat) : ∀ d ∈ padL n least, d < 10 := by
  intro d hd
  rcases List.mem_append.1 hd with h | h
  · exact digs_lt n d h
  · rw [(List.mem_replicate.1 h).2]; omega
theorem dig_step {T : List Nat} {m j d : Nat} (hl : T.length = m) (hj : j < m) (hd : nth T j = d) : (⟨(lettersOf [d] ++ lettersOf (T.take j).reverse).toArray⟩ : ByteArray) = ⟨(lettersOf (T.take (j + 1)).reverse).toArray⟩ := by
  have h : T.take (j + 1) = T.take j ++ [d] := by
    rw [List.take_succ_eq_append_getElem (by omega)]
    congr 2
    rw [← hd, nth_get (by omega)]
  rw [h, List.reverse_append]
  simp [lettersOf]
set_option maxRecDepth 100000 in
set_option maxHeartbeats 1000000 in
theorem refDigits_any (p : Option Addr) (n cap : Nat) (x least : Nat) (hn : n ≤ 200) (hl : least ≤ 100) (w : World) (hA : RdN w p n cap (digs x)) :
    Calls Tryz.prog 79 #[.slice p n cap, .int .i64 least] w fun e w' => e = .returned (.string ⟨(dgText x least).toArray⟩) ∧ Below w.heap.size w w' := by
  have HA := Lib.hid hA
  have HL := Lib.hid hA.len
  clear hA
  go_enter Tryz.func79, Tryz.ntmps79
  go_wp2_with fail
  obtain ⟨T, hT⟩ : ∃ T, padL x least = T := ⟨_, rfl⟩
  have hTl : T.length = max n least := by rw [← hT, padL_len, HL.out]
  have HTN := Lib.hid (show ∀ j, nth T j = nth (digs x) j from fun j => by rw [← hT]; exact padL_nth x least j)
  have HTD := Lib.hid (show ∀ d ∈ T, d < 10 from by rw [← hT]; exact padL_lt x least)
  have HT := Lib.hid hT
  clear hT
  obtain ⟨m, hm⟩ : ∃ m, max n least = m := ⟨_, rfl⟩
  rw [hm] at hTl
  have HTL := Lib.hid hTl
  clear hTl
  go_loopg [5, 6] m (fun g v5 v6 wr => Below w.heap.size w wr ∧ ∃ (j : Nat) (s : ByteArray), j + g = m ∧ v6 = .int .i64 j ∧ v5 = .string s ∧ s = ⟨(lettersOf (T.take j).reverse).toArray⟩)
  case atStart => exact ⟨Below.refl _ _, 0, ⟨#[]⟩, by omega, rfl, rfl, rfl⟩
  case round =>
    obtain ⟨hbel, j, s, hj, rfl, rfl, hs⟩ := hrel
    have HS := Lib.hid hs
    have hss := hbel.size
    clear hs
    by_cases hgo : j < m
    · have h1 : j < n ∨ (¬ j < n ∧ j < least) := by omega
      rcases h1 with h1 | ⟨h1, h2⟩
      all_goals
        go_wp2_with fail
        refine (digit_any p n cap (digs x) j (by omega) _ (HA.out.below (by assumption))).mono ?_
        rintro e w1 ⟨rfl, rfl⟩
        obtain ⟨d, hd⟩ : ∃ d, nth (digs x) j = d := ⟨_, rfl⟩
        rw [hd]
        have hd10 : d < 10 := by rw [← hd]; exact nth_lt (digs_lt x) j
        have HD := Lib.hid hd
        clear hd
        have hcv := run_convert_bytes_arg (P := Tryz.prog) (wr.alloc (.cells #[.int .u8 (48 + (d : Int))] 5)) 65 5 Tryz.underlying65 Tryz.underlying5 wr.heap.size 0 1 1 [48 + (d : Int)] rfl (fun i hi => by
          obtain rfl : i = 0 := by omega
          go_simp) 9 Tryz.underlying9
        rw [show strOfNums [48 + (d : Int)] = ⟨(lettersOf [d]).toArray⟩ from rfl] at hcv
        have hz1 : s.size ≤ 300 := by
          rw [HS.out, Lib.size_eq]
          simp [lettersOf]
          omega
        have hz2 : (⟨(lettersOf [d]).toArray⟩ : ByteArray).size = 1 := rfl
        go_wp2
        go_roundg (gk - 1)
        case measure => omega
        case rel =>
          refine ⟨Below.alloc hbel (by omega) _, j + 1, _, by omega, by go_num, rfl, ?_⟩
          rw [HS.out, cat2]
          exact dig_step HTL.out hgo (by rw [HTN.out j, HD.out])
    · have e : j = m := by omega
      have hn1 : ¬ j < n := by omega
      have hn2 : ¬ j < least := by omega
      have hres : s = ⟨(dgText x least).toArray⟩ := by
        rw [HS.out, e, ← HTL.out, List.take_length, ← HT.out]
        rfl
      have HR := Lib.hid hres
      go_wp2
      go_ret
      exact ⟨by rw [← HR.out]; rfl, hbel⟩
end Go.Proofs.YtjklbbmgjjdalaaGreatDoor
