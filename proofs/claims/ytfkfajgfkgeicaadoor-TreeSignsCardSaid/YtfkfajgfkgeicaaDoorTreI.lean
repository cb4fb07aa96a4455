/- Trees: the walk of TreeSigns. -/
import Derived.Test.YtfkfajgfkgeicaaDoorTreH
set_option linter.unusedSimpArgs false
set_option linter.unusedVariables false
namespace Go.Proofs.YtfkfajgfkgeicaaDoor
open Go.RowKit Go.Joins

theorem lvS_mem {l : Int} {x : Bs} (h : x ∈ sgS l) : lvS x = l := by
  unfold sgS at h
  split at h
  · rename_i e
    subst e
    simp only [sg1, List.mem_cons, List.not_mem_nil, or_false] at h
    rcases h with rfl | rfl | rfl | rfl | rfl | rfl <;> decide
  · split at h
    · rename_i e
      subst e
      simp only [sg2, List.mem_cons, List.not_mem_nil, or_false] at h
      subst h
      decide
    · split at h
      · rename_i e
        subst e
        simp only [sg3, List.mem_cons, List.not_mem_nil, or_false] at h
        rcases h with rfl | rfl <;> decide
      · split at h
        · rename_i e
          subst e
          simp only [sg4, List.mem_cons, List.not_mem_nil, or_false] at h
          rcases h with rfl | rfl <;> decide
        · cases h

set_option maxRecDepth 100000 in
set_option maxHeartbeats 8000000 in
theorem signs_walk (l : Int) (s : ByteArray) (w : World) : Calls Tryd.prog 3 #[.int .i64 l, .string s] w fun e w' => e = .returned (.bool true) ∧ Below w.heap.size w w' := by
  have HS := Lib.hid (fun W => signs_any l W)
  have HR := Lib.hid (fun W => rsigns_any l W)
  have HAW := Lib.hid (fun W => awake_any W)
  have HLV := Lib.hid (fun s W => level_any s W)
  have HLE := Lib.hid (sgS_len l)
  have HME := Lib.hid (fun x (h : x ∈ sgS l) => lvS_mem h)
  generalize sgS l = S at HS HR HLE HME
  go_enter Tryd.func3, Tryd.ntmps3
  go_wp2_with fail
  refine (HS.out _).mono ?_
  rintro e w1 ⟨⟨p1, cap1, rfl, hrd1⟩, hb1⟩
  go_wp2_with fail
  refine (HR.out _).mono ?_
  rintro e w2 ⟨⟨p2, cap2, rfl, hrd2⟩, hb2⟩
  have HB2 : Hid (Below w.heap.size w w2) := bel_call hb2 hb1 hb1.size
  have HR1 := Lib.hid (hrd1.below hb2)
  have HR2 := Lib.hid hrd2
  clear hrd1 hrd2 hb1 hb2 HS HR
  obtain ⟨n, hn⟩ : ∃ n, S.length = n := ⟨_, rfl⟩
  have HN := Lib.hid hn
  have hn6 : n ≤ 6 := by rw [← hn]; exact HLE.out
  rw [hn] at HR1 HR2 ⊢
  clear hn HLE
  go_upto_region 2 with fail
  by_cases hsz : s.size ≤ 200
  · have hsi : ¬ (200 : Int) < (s.size : Int) := by omega
    have HSL := Lib.hid (fun W => level_any s W)
    have HSR := Lib.hid (fun W => rlevel_any s W)
    have HNA := Lib.hid (fun W => name_any s (by unfold maxLen; omega) W)
    have HNR := Lib.hid (fun W => rname_any s (by unfold maxLen; omega) W)
    generalize lvS s.data.toList = ls at HSL HSR
    generalize nameB s.data.toList = nb at HNA HNR
    have hnn : ((n : Int) != (n : Int)) = false := by simp
    go_wp2_with fail
    go_loopg [7] n (fun g v7 wr => ∃ i : Nat, i + g = n ∧ v7 = .int .i64 (i : Int) ∧ Below w2.heap.size w2 wr)
    case atStart => exact ⟨0, by omega, rfl, Below.refl _ _⟩
    case round =>
      obtain ⟨i, hig, rfl, hbel⟩ := hrel
      have HBL := Lib.hid hbel
      have hzr := hbel.size
      clear hbel
      by_cases hi : i < n
      · have hii : (i : Int) < (n : Int) := by omega
        have hi0 : (0 : Int) ≤ (i : Int) := by omega
        obtain ⟨b1, o1, rfl, hb1, q1⟩ := cell_st (HR1.out.below HBL.out) hi
        obtain ⟨b2, o2, rfl, hb2, q2⟩ := cell_st (HR2.out.below HBL.out) hi
        have HX : Hid (lvS (S.getD i []) = l) := by
          refine HME.out _ ?_
          rw [List.getD_eq_getElem?_getD, List.getElem?_eq_getElem (by rw [HN.out]; exact hi)]
          exact List.getElem_mem _
        generalize S.getD i [] = x at q1 q2 HX
        have HLX := Lib.hid (fun W => HLV.out ⟨x.toArray⟩ W)
        rw [show (⟨x.toArray⟩ : ByteArray).data.toList = x from rfl, HX.out] at HLX
        have r1 := cell_regrown q1
        have r2 := cell_regrown q2
        have cL : ∀ dd os, Calls Tryd.prog 9 #[.string ⟨x.toArray⟩] (Go.Sort.grow (redrawn wr dd) os) fun e w'' => e = .returned (.int .i64 l) ∧ ∃ p : Regrown, w'' = Go.Sort.grow (redrawn wr p.d) p.os := fun dd os => Calls.regrown_of (HLX.out _)
        clear q1 q2 HX HLX
        generalize (⟨x.toArray⟩ : ByteArray) = X at r1 r2 cL
        go_upto_region 7 with fail
        refine wp_region_quiet_below (by kernel_rfl) (by kernel_rfl) ?_
        repeat (go_big_quiet_step ((first | with_reducible exact cL _ _)))
        refine wpQuiet_nil ?_
        intro _ hw'
        obtain ⟨⟨dz, osz⟩, hw''⟩ := hw'
        subst hw''
        have hBz : Hid (Below w2.heap.size w2 (Go.Sort.grow (redrawn wr dz) osz)) := bel_call (below_regrown wr dz osz) HBL.out hzr
        clear r1 r2 cL
        go_wp2_with fail
        go_roundg (gk - 1)
        case measure => omega
        case rel => exact ⟨i + 1, by omega, by go_num, hBz.out⟩
      · have hii : ¬ (i : Int) < (n : Int) := by omega
        have HBW : Hid (Below w.heap.size w wr) := HB2.out.trans (HBL.out.mono HB2.out.size)
        go_upto_region 9 with fail
        have c1 : ∀ dd os, Calls Tryd.prog 9 #[.string s] (Go.Sort.grow (redrawn wr dd) os) fun e w'' => e = .returned (.int .i64 ls) ∧ ∃ p : Regrown, w'' = Go.Sort.grow (redrawn wr p.d) p.os := fun dd os => Calls.regrown_of (HSL.out _)
        have c2 : ∀ dd os, Calls Tryd.prog 10 #[.string s] (Go.Sort.grow (redrawn wr dd) os) fun e w'' => e = .returned (.int .i64 ls) ∧ ∃ p : Regrown, w'' = Go.Sort.grow (redrawn wr p.d) p.os := fun dd os => Calls.regrown_of (HSR.out _)
        have c3 : ∀ dd os, Calls Tryd.prog 11 #[.string s] (Go.Sort.grow (redrawn wr dd) os) fun e w'' => e = .returned (.bool nb) ∧ ∃ p : Regrown, w'' = Go.Sort.grow (redrawn wr p.d) p.os := fun dd os => Calls.regrown_of (HNA.out _)
        have c4 : ∀ dd os, Calls Tryd.prog 12 #[.string s] (Go.Sort.grow (redrawn wr dd) os) fun e w'' => e = .returned (.bool nb) ∧ ∃ p : Regrown, w'' = Go.Sort.grow (redrawn wr p.d) p.os := fun dd os => Calls.regrown_of (HNR.out _)
        have c5 : ∀ dd os, Calls Tryd.prog 8 #[] (Go.Sort.grow (redrawn wr dd) os) fun e w'' => e = .returned (.bool true) ∧ ∃ p : Regrown, w'' = Go.Sort.grow (redrawn wr p.d) p.os := fun dd os => Calls.regrown_of (HAW.out _)
        have hl2 : (ls == ls) = true := by simp
        have hb2 : (nb == nb) = true := by simp
        refine wp_region_plain_below ?_
        repeat (go_big_quiet_step ((first | with_reducible exact c1 _ _ | with_reducible exact c2 _ _ | with_reducible exact c3 _ _ | with_reducible exact c4 _ _ | with_reducible exact c5 _ _)))
        refine wpQuiet_nil ?_
        intro _ hw'
        obtain ⟨⟨dz, osz⟩, hw''⟩ := hw'
        subst hw''
        have hBz : Below w.heap.size w (Go.Sort.grow (redrawn wr dz) osz) := bel_call (below_regrown wr dz osz) HBW.out HBW.out.size
        clear c1 c2 c3 c4 c5
        go_wp2_with fail
        go_ret
        exact ⟨rfl, hBz⟩
  · have hsi : (200 : Int) < (s.size : Int) := by omega
    go_wp2_with fail
    refine (HAW.out _).mono ?_
    rintro e w3 ⟨rfl, hb3⟩
    go_wp2_with fail
    go_ret
    exact ⟨rfl, bel_call hb3 HB2.out HB2.out.size⟩
end Go.Proofs.YtfkfajgfkgeicaaDoor
