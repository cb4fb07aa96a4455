/- Functions of formulas: the document's Names and Takes. Printed by gen_cal.py. -/
import Derived.Test.YtilajcibjlcffaaDoorCalA
import Derived.Deep.DeepCutAuto
import Derived.Deep.LoopGhost
set_option linter.unusedSimpArgs false
set_option linter.unusedVariables false
namespace Go.Proofs.YtilajcibjlcffaaDoor
open Go.RowKit Go.Joins

theorem parts_evalV (a : Act) (parts : Array (Nat × Operand)) (vs : List Value) (hparts : parts.toList = (vs.zipIdx 0).map fun x => (x.2, Operand.const x.1)) :
    (parts.map fun (i, x) => (i, a.eval x)).toList = (vs.zipIdx 0).map fun x => (x.2, x.1) := by
  rw [Array.toList_map, hparts, List.map_map]
  rfl
/-- A slice literal of strings, every place written. -/
theorem wpList_buildStrs {P : Program} {ops : Array Oper} {rest : List Oper} {o : Oper} {a : Act} {w : World} {Q : Exit → Act → World → Prop} (hg : o.guard = none) (t e : TypeId) (len : Nat) (parts : Array (Nat × Operand)) (ho : o.op = .buildSlice t len parts)
    (L : List Bs) (hu : P.underlying t = some (.slice e)) (hsz : (P.info? e).map (·.size) = some 1) (hz : ((P.info? e).bind (·.zero)).isSome = true)
    (hlen : len = L.length) (hpos : 0 < len) (hsmall : len ≤ 2 ^ 24)
    (hparts : parts.toList = ((L.map fun x => Value.string ⟨x.toArray⟩).zipIdx 0).map fun x => (x.2, Operand.const x.1))
    (h : wpList P ops Q rest (a.put o.dst (.slice (some ⟨w.heap.size, 0, none⟩) len len)) (w.alloc (.cells (strs L) e))) : wpList P ops Q (o :: rest) a w := by
  cases hie : P.info? e with
  | none => simp [hie] at hsz
  | some ie =>
    simp only [hie, Option.map_some, Option.some.injEq, Option.bind_some] at hsz hz
    obtain ⟨z, hzz⟩ := Option.isSome_iff_exists.1 hz
    refine wpList_buildSlice hg t e len parts ho (strs L) ie z hu hie hzz (by rw [hsz]; omega) (by rw [hsz]; omega) ?_ h
    rw [parts_evalV a parts _ hparts, hsz]
    exact Great.fill_flat _ _ (fun v hv => by obtain ⟨n, _, rfl⟩ := List.mem_map.1 hv; rfl) (by simp [hlen])
set_option maxRecDepth 100000 in
set_option maxHeartbeats 4000000 in
theorem names_any (k : Nat) (hk : k < 4) (w : World) : Calls Tryd.prog 10 #[.int .i64 k] w fun e w' => StrsR (fnL k) e w' ∧ Below w.heap.size w w' := by
  have hb : Hid (Below w.heap.size w ((((w.alloc (.cells (strs fn0) tSt)).alloc (.cells (strs fn1) tSt)).alloc (.cells (strs fn2) tSt)).alloc (.cells (strs fn3) tSt))) := by unfold Hid; (repeat' (first | (with_reducible exact Below.refl _ _) | (with_reducible assumption) | (with_reducible refine Below.alloc ?_ ?_ _) | (with_reducible refine bel_drewN ?_ _) | (with_reducible refine Below.drew ?_) | (with_reducible refine Below.setCell ?_ ?_ _) | (with_reducible refine bel_call ‹_› ?_ ?_) | go_size))
  have h0 : Hid (SsB ((((w.alloc (.cells (strs fn0) tSt)).alloc (.cells (strs fn1) tSt)).alloc (.cells (strs fn2) tSt)).alloc (.cells (strs fn3) tSt)) w.heap.size fn0) := by unfold Hid SsB; simp only [World.alloc, Array.getElem?_push, Array.size_push]; (repeat (first | rfl | (rw [if_neg (by omega)]) | (rw [if_pos (by omega)])))
  have h1 : Hid (SsB ((((w.alloc (.cells (strs fn0) tSt)).alloc (.cells (strs fn1) tSt)).alloc (.cells (strs fn2) tSt)).alloc (.cells (strs fn3) tSt)) (w.heap.size + 1) fn1) := by unfold Hid SsB; simp only [World.alloc, Array.getElem?_push, Array.size_push]; (repeat (first | rfl | (rw [if_neg (by omega)]) | (rw [if_pos (by omega)])))
  have h2 : Hid (SsB ((((w.alloc (.cells (strs fn0) tSt)).alloc (.cells (strs fn1) tSt)).alloc (.cells (strs fn2) tSt)).alloc (.cells (strs fn3) tSt)) (w.heap.size + 2) fn2) := by unfold Hid SsB; simp only [World.alloc, Array.getElem?_push, Array.size_push]; (repeat (first | rfl | (rw [if_neg (by omega)]) | (rw [if_pos (by omega)])))
  have h3 : Hid (SsB ((((w.alloc (.cells (strs fn0) tSt)).alloc (.cells (strs fn1) tSt)).alloc (.cells (strs fn2) tSt)).alloc (.cells (strs fn3) tSt)) (w.heap.size + 3) fn3) := by unfold Hid SsB; simp only [World.alloc, Array.getElem?_push, Array.size_push]; (repeat (first | rfl | (rw [if_neg (by omega)]) | (rw [if_pos (by omega)])))
  have hs4 : Hid ((((((w.alloc (.cells (strs fn0) tSt)).alloc (.cells (strs fn1) tSt)).alloc (.cells (strs fn2) tSt)).alloc (.cells (strs fn3) tSt))).heap.size = w.heap.size + 4) := by unfold Hid; simp only [World.size_alloc]
  go_enter Tryd.func10, Tryd.ntmps10
  go_upto_region 1 with fail
  refine wp_region_lit ?_
  refine wpList_buildStrs rfl _ _ 10 _ rfl fn0 Tryd.underlying35 (by kernel_rfl) (by kernel_rfl) rfl (by decide) (by decide) (by rfl) ?_
  refine wpList_buildStrs rfl _ _ 11 _ rfl fn1 Tryd.underlying35 (by kernel_rfl) (by kernel_rfl) rfl (by decide) (by decide) (by rfl) ?_
  refine wpList_buildStrs rfl _ _ 3 _ rfl fn2 Tryd.underlying35 (by kernel_rfl) (by kernel_rfl) rfl (by decide) (by decide) (by rfl) ?_
  refine wpList_buildStrs rfl _ _ 1 _ rfl fn3 Tryd.underlying35 (by kernel_rfl) (by kernel_rfl) rfl (by decide) (by decide) (by rfl) ?_
  simp only [World.size_alloc]
  have e : w.alloc (.cells (strs fn0) tSt) = w.alloc (.cells (strs fn0) tSt) := rfl
  generalize ((((w.alloc (.cells (strs fn0) tSt)).alloc (.cells (strs fn1) tSt)).alloc (.cells (strs fn2) tSt)).alloc (.cells (strs fn3) tSt)) = w4 at hb h0 h1 h2 h3 hs4 ⊢
  clear e
  go_simp
  go_upto_region 2 with fail
  have hk4 : k = 0 ∨ k = 1 ∨ k = 2 ∨ k = 3 := by omega
  have hb5 : Hid (∀ o, Below w.heap.size w (w4.alloc o)) := fun o => hb.out.alloc (by rw [hs4.out]; omega) o
  have HB : Hid (∀ o b L, SsB w4 b L → SsB (w4.alloc o) b L) := fun o b L h => h.below ((Below.refl _ _).alloc (Nat.le_refl _) _)
  have hs4' := hs4.out
  rcases hk4 with rfl | rfl | rfl | rfl
  · go_wp2_with fail
    go_ret
    exact ⟨⟨_, _, rfl, rd_blk (HB.out _ _ _ h0.out)⟩, hb5.out _⟩
  · go_wp2_with fail
    go_ret
    exact ⟨⟨_, _, rfl, rd_blk (HB.out _ _ _ h1.out)⟩, hb5.out _⟩
  · go_wp2_with fail
    go_ret
    exact ⟨⟨_, _, rfl, rd_blk (HB.out _ _ _ h2.out)⟩, hb5.out _⟩
  · go_wp2_with fail
    go_ret
    exact ⟨⟨_, _, rfl, rd_blk (HB.out _ _ _ h3.out)⟩, hb5.out _⟩
/-- What the document's Takes answers. -/
theorem tkC_first {s : Bs} {k : Nat} (hk : k < 4) (hno : ∀ j, j < k → s ∉ fnL j) (h : s ∈ fnL k) : tkC s = if k = 0 then (1, 16, true) else ((k : Int), (k : Int), true) := by
  have hk4 : k = 0 ∨ k = 1 ∨ k = 2 ∨ k = 3 := by omega
  unfold tkC
  rcases hk4 with rfl | rfl | rfl | rfl
  · rw [if_pos (show s ∈ fn0 from h)]; rfl
  · rw [if_neg (show s ∉ fn0 from hno 0 (by omega)), if_pos (show s ∈ fn1 from h)]; rfl
  · rw [if_neg (show s ∉ fn0 from hno 0 (by omega)), if_neg (show s ∉ fn1 from hno 1 (by omega)), if_pos (show s ∈ fn2 from h)]; rfl
  · rw [if_neg (show s ∉ fn0 from hno 0 (by omega)), if_neg (show s ∉ fn1 from hno 1 (by omega)), if_neg (show s ∉ fn2 from hno 2 (by omega)), if_pos (show s ∈ fn3 from h)]; rfl
theorem tkC_none {s : Bs} (hno : ∀ j, j < 4 → s ∉ fnL j) : tkC s = (0, 0, false) := by
  unfold tkC
  rw [if_neg (show s ∉ fn0 from hno 0 (by omega)), if_neg (show s ∉ fn1 from hno 1 (by omega)), if_neg (show s ∉ fn2 from hno 2 (by omega)), if_neg (show s ∉ fn3 from hno 3 (by omega))]
theorem fnL_len (k : Nat) : (fnL k).length ≤ 11 ∧ 0 < (fnL k).length := by
  unfold fnL
  (repeat' split) <;> decide
set_option maxRecDepth 100000 in
set_option maxHeartbeats 16000000 in
theorem rtakes_any (s : ByteArray) (w : World) : Calls Tryd.prog 6 #[.string s] w (TkcP s.toList w) := by
  obtain ⟨O, hO⟩ : ∃ O, tkC s.toList = O := ⟨_, rfl⟩
  unfold TkcP
  rw [hO]
  obtain ⟨L, hL⟩ : ∃ L, s.toList = L := ⟨_, rfl⟩
  rw [hL] at hO
  have HO := Lib.hid hO
  have HTO := Lib.hid hL
  clear hO hL
  go_enter Tryd.func6, Tryd.ntmps6
  go_wp2_with fail
  go_loopg [5] 4 (fun g v5 wr => ∃ k : Nat, k + g = 4 ∧ v5 = .int .i64 k ∧ (∀ j, j < k → L ∉ fnL j) ∧ Below w.heap.size w wr)
  case atStart => exact ⟨0, by omega, rfl, fun j hj => by omega, Below.refl _ _⟩
  case round =>
    obtain ⟨k, hkg, rfl, hno, hbel⟩ := hrel
    have HNO := Lib.hid hno
    have HBL := Lib.hid hbel
    clear hno hbel
    by_cases hk : k < 4
    · have hki : (k : Int) < 4 := by omega
      have HNM := Lib.hid (names_any k hk wr)
      go_wp2_with fail
      refine HNM.out.mono ?_
      rintro e w1 ⟨⟨p, cap, rfl, hrd⟩, hb1⟩
      have HB1 : Hid (Below w.heap.size w w1) := bel_call hb1 HBL.out HBL.out.size
      have HRD := Lib.hid hrd
      have hle := (fnL_len k).1
      have HYE : Hid (L ∈ fnL k → O = if k = 0 then (1, 16, true) else ((k : Int), (k : Int), true)) := fun hm => by rw [← HO.out]; exact tkC_first hk HNO.out hm
      have HN2 : Hid (L ∉ fnL k → ∀ j : Nat, j < k + 1 → L ∉ fnL j) := fun hm j h2 => by
        by_cases h : j < k
        · exact HNO.out j h
        · obtain rfl : j = k := by omega
          exact hm
      clear hrd hb1 HNO HO HNM
      generalize fnL k = S at HRD HYE HN2 hle ⊢
      obtain ⟨n, hn⟩ : ∃ n, S.length = n := ⟨_, rfl⟩
      have HN := Lib.hid hn
      rw [hn] at HRD hle ⊢
      clear hn
      go_wp2_with fail
      go_loopg [7] n (fun g v7 wr2 => ∃ i : Nat, i + g = n ∧ v7 = .int .i64 (i : Int) ∧ (∀ j : Nat, j < i → S.getD j [] ≠ L) ∧ wr2 = w1)
      case atStart => exact ⟨0, by omega, rfl, fun j h => by omega, rfl⟩
      case round =>
        obtain ⟨i, hig, rfl, hne, rfl⟩ := hrel
        have HNE := Lib.hid hne
        clear hne
        by_cases hi : i < n
        · have hii : (i : Int) < (n : Int) := by omega
          obtain ⟨b, off, rfl, _, hc⟩ := cell_st HRD.out hi
          have HME : Hid (S.getD i [] ∈ S) := by
            unfold Hid
            rw [List.getD_eq_getElem?_getD, List.getElem?_eq_getElem (by rw [HN.out]; exact hi)]
            exact List.getElem_mem _
          have HSi : Hid (∀ j : Nat, S.getD i [] ≠ L → j < i + 1 → S.getD j [] ≠ L) := fun j h1 h2 => by
            by_cases h : j < i
            · exact HNE.out j h
            · obtain rfl : j = i := by omega
              exact h1
          generalize S.getD i [] = x at hc HME HSi
          by_cases hx : x = L
          · have HON := Lib.hid (HYE.out (by rw [← hx]; exact HME.out))
            have hq : (x == s.toList) = true := by rw [HTO.out]; simpa using hx
            clear hx HYE
            by_cases hk0 : k = 0
            · have HO1 : Hid (O = (1, 16, true)) := by unfold Hid; rw [HON.out, if_pos hk0]
              have hk0b : ((k : Int) == 0) = true := by simp; omega
              clear HON hk0
              go_wp2_with fail
              go_ret3
              rw [HO1.out]
              exact ⟨rfl, HB1.out⟩
            · have HO1 : Hid (O = ((k : Int), (k : Int), true)) := by unfold Hid; rw [HON.out, if_neg hk0]
              have hk0b : ((k : Int) == 0) = false := by simp; omega
              clear HON hk0
              go_wp2_with fail
              go_ret3
              rw [HO1.out]
              exact ⟨rfl, HB1.out⟩
          · have HS2 : Hid (∀ j : Nat, j < i + 1 → S.getD j [] ≠ L) := fun j h => HSi.out j hx h
            have hq : (x == s.toList) = false := by rw [HTO.out]; simpa using hx
            clear hx
            go_wp2_with fail
            go_roundg (gk - 1)
            case measure => omega
            case rel => exact ⟨i + 1, by omega, by go_num, HS2.out, rfl⟩
        · obtain rfl : i = n := by omega
          have hii : ¬ (i : Int) < (i : Int) := by omega
          have HNM : Hid (L ∉ S) := fun hm => by
            obtain ⟨j, hj, e⟩ := List.mem_iff_getElem.1 hm
            have := HNE.out j (by rw [HN.out] at hj; exact hj)
            rw [List.getD_eq_getElem?_getD, List.getElem?_eq_getElem hj] at this
            exact this e
          go_wp2_with fail
          go_roundg (3 - k)
          case measure => omega
          case rel => exact ⟨k + 1, by omega, by go_num, HN2.out HNM.out, HB1.out⟩
    · obtain rfl : k = 4 := by omega
      have HON : Hid (O = (0, 0, false)) := by unfold Hid; rw [← HO.out, tkC_none HNO.out]
      go_wp2_with fail
      go_ret3
      rw [HON.out]
      exact ⟨rfl, HBL.out⟩
end Go.Proofs.YtilajcibjlcffaaDoor
