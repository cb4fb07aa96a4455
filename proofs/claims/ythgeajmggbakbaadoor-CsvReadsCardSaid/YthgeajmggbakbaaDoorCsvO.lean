/- CSV: the program's reader: a cell. -/
import Derived.Test.YthgeajmggbakbaaDoorCsvN
set_option linter.unusedSimpArgs false
set_option linter.unusedVariables false
namespace Go.Proofs.YthgeajmggbakbaaDoor
open Go.RowKit Go.Joins

theorem pp_end (L : Bs) (j : Nat) (h : endsB (L.drop j) = true) : pP (L.drop j) = some ([], L.drop j) := by
  cases hd : L.drop j with
  | nil => rfl
  | cons d r =>
    rw [hd] at h
    rw [pP, if_pos h]
theorem not_ends_lt (L : Bs) (j : Nat) (h : endsB (L.drop j) = false) : j < L.length := by
  rcases Nat.lt_or_ge j L.length with h' | h'
  · exact h'
  · rw [ends_end L j h'] at h; cases h
theorem pp_bad (L : Bs) (j : Nat) (h : endsB (L.drop j) = false) (hb : btN L j = 34 ∨ btN L j = 13) : pP (L.drop j) = none := by
  have hj := not_ends_lt L j h
  rw [List.drop_eq_getElem_cons hj] at h ⊢
  rw [pP, if_neg (by rw [h]; decide), if_pos]
  rw [btN_get hj] at hb
  rcases hb with hb | hb
  · exact .inl (by rw [← UInt8.toNat_inj, hb]; rfl)
  · exact .inr (by rw [← UInt8.toNat_inj, hb]; rfl)
theorem pp_no (L : Bs) (j : Nat) (h : endsB (L.drop j) = false) (h34 : btN L j ≠ 34) (h13 : btN L j ≠ 13) : pP (L.drop j) = (pP (L.drop (j + 1))).map fun x => (UInt8.ofNat (btN L j) :: x.1, x.2) := by
  have hj := not_ends_lt L j h
  have hb : UInt8.ofNat (btN L j) = L[j] := by rw [btN_get hj]; simp
  rw [List.drop_eq_getElem_cons hj] at h ⊢
  rw [hb, pP, if_neg (by rw [h]; decide), if_neg]
  rw [btN_get hj] at h34 h13
  rintro (e | e)
  · exact h34 (by rw [e]; rfl)
  · exact h13 (by rw [e]; rfl)
theorem pc_q (L : Bs) (i : Nat) (hi : i < L.length) (h : btN L i = 34) : pCell (L.drop i) = pQ (L.drop (i + 1)) := by
  have h1 : L[i] = 34 := by rw [← UInt8.toNat_inj, ← btN_get hi, h]; rfl
  rw [List.drop_eq_getElem_cons hi, h1]
  rfl
theorem pc_p (L : Bs) (i : Nat) (h : ¬ (i < L.length ∧ btN L i = 34)) : pCell (L.drop i) = pP (L.drop i) := by
  refine pCell_p fun r e => ?_
  have hi : i < L.length := by
    have := congrArg List.length e
    rw [List.length_drop, List.length_cons] at this
    omega
  refine h ⟨hi, ?_⟩
  rw [List.drop_eq_getElem_cons hi] at e
  injection e with e _
  rw [btN_get hi, e]
  rfl
theorem take_snoc (L : Bs) (i j : Nat) (hij : i ≤ j) (hj : j < L.length) : (L.drop i).take (j + 1 - i) = (L.drop i).take (j - i) ++ [UInt8.ofNat (btN L j)] := by
  have hl : j - i < (L.drop i).length := by rw [List.length_drop]; omega
  rw [show j + 1 - i = (j - i) + 1 from by omega, List.take_succ_eq_append_getElem hl, List.getElem_drop, btN_get hj]
  simp only [show i + (j - i) = j from by omega]
  simp
theorem ext_at (s : ByteArray) (i j : Nat) (hij : i ≤ j) (hj : j ≤ s.size) : s.extract i j = ⟨((s.data.toList.drop i).take (j - i)).toArray⟩ := ext_data _ _ (by rw [Lib.extract_data])
theorem Rdr.setc {w : World} {b : Nat} {s : ByteArray} {i c : Nat} (h : Rdr w b s i c) (z : Int) (j : Nat) (e : z = (j : Int)) : Rdr (w.setCell ⟨b, 2, none⟩ (.int .i64 z)) b s i j := by rw [e]; exact h.set2 j

set_option maxRecDepth 100000 in
set_option maxHeartbeats 8000000 in
theorem rd_cell (s : ByteArray) (hs : s.size ≤ 10000000) (b i c : Nat) (hi : i ≤ s.size) (hc : c < 65536) (w : World) (hr : Rdr w b s i c) :
    Calls Tryd.prog 29 #[.pointer (some ⟨b, 0, none⟩)] w fun e w' => CellR (pCell (s.data.toList.drop i)) s b (c + 1) e w' ∧ Off b w w' := by
  have HSZ : Hid (s.data.toList.length = s.size) := (Lib.size_eq s).symm
  have HBT := Lib.hid (btN_str s)
  have HE := Lib.hid (fun j (hj : j ≤ s.size) W (h : Rdr W b s j (c + 1)) => ends_any s hs b j (c + 1) hj W h)
  have HQ := Lib.hid (fun (hj : i < s.size) W (h : Rdr W b s i (c + 1)) => quoted_any s hs b i (c + 1) hj W h)
  have HPC := Lib.hid (pc_q s.data.toList i)
  have HPP := Lib.hid (pc_p s.data.toList i)
  have HPE := Lib.hid (pp_end s.data.toList)
  have HPB := Lib.hid (pp_bad s.data.toList)
  have HPN := Lib.hid (pp_no s.data.toList)
  have HLT := Lib.hid (not_ends_lt s.data.toList)
  have HTS := Lib.hid (take_snoc s.data.toList i)
  have HEX := Lib.hid (ext_at s i)
  have hi0 : (0 : Int) ≤ (i : Int) := by omega
  have hc1 : ¬ (65536 : Int) < (c : Int) + 1 := by omega
  obtain ⟨O, hO0⟩ : ∃ O, pCell (s.data.toList.drop i) = O := ⟨_, rfl⟩
  rw [hO0] at HPC HPP
  rw [hO0]
  have hblt := hr.lt
  obtain ⟨q0, q1, q2, _, qf⟩ := hr.cells
  have hR := hr.setc ((c : Int) + 1) (c + 1) (by omega)
  have hO := (Off.refl b w).set 2 (.int .i64 ((c : Int) + 1))
  clear hr hO0
  go_enter Tryd.func29, Tryd.ntmps29
  go_wp2_with fail
  clear q0 q1 q2 qf
  generalize w.setCell ⟨b, 2, none⟩ (.int .i64 ((c : Int) + 1)) = w0 at hR hO ⊢
  have HR := Lib.hid hR
  have HO := Lib.hid hO
  clear hR hO
  by_cases hq : i < s.size ∧ btN s.data.toList i = 34
  · obtain ⟨hlt, h34⟩ := hq
    have hl1 : (i : Int) < (s.size : Int) := by omega
    have hb2 : (((s[i]'hlt).toNat : Nat) : Int) = 34 := by rw [HBT.out i hlt, h34]; rfl
    have HOV := Lib.hid (HPC.out (by rw [HSZ.out]; exact hlt) h34)
    clear HPC HPP HPE HPB HPN h34
    obtain ⟨q0, q1, q2, qf, _⟩ := HR.out.cells
    have r0 := cell_regrown q0
    have r1 := cell_regrown q1
    go_wp2_with fail
    refine wp_region_quiet_below (by kernel_rfl) (by kernel_rfl) ?_
    repeat (go_big_quiet_step (fail))
    refine wpQuiet_nil ?_
    intro _ hw'
    obtain ⟨⟨dq, osq⟩, hw''⟩ := hw'
    subst hw''
    have hR := HR.out.below (below_regrown w0 dq osq)
    have hO := HO.out.call (below_regrown w0 dq osq)
    clear r0 r1 q0 q1 q2 qf HR HO
    generalize Go.Sort.grow (redrawn w0 dq) osq = w1 at hR hO ⊢
    have HR := Lib.hid hR
    have HO := Lib.hid hO
    clear hR hO
    go_wp2_with fail
    refine (HQ.out hlt w1 HR.out).mono ?_
    rintro e w2 ⟨hcell, hoff⟩
    have HO2 := Lib.hid (HO.out.trans hoff)
    rw [← HOV.out] at hcell
    clear HR HO hoff HOV
    cases O with
    | none =>
      obtain ⟨X, j, rfl, hj, hR⟩ := hcell
      have HR := Lib.hid hR
      clear hR
      go_wp2_with fail
      go_ret2
      exact ⟨⟨_, j, rfl, hj, HR.out⟩, HO2.out⟩
    | some x =>
      obtain ⟨C, rest⟩ := x
      obtain ⟨j, rfl, hj, hrest, hR⟩ := hcell
      have HR := Lib.hid hR
      have HT := Lib.hid hrest
      clear hR hrest
      go_wp2_with fail
      go_ret2
      exact ⟨⟨j, rfl, hj, HT.out, HR.out⟩, HO2.out⟩
  · have HOV := Lib.hid (HPP.out (by rw [HSZ.out]; exact hq))
    have hq2 : s.size = i ∨ (∃ h : i < s.size, ((((s[i]'h).toNat : Nat) : Int) == 34) = false) := by
      rcases Nat.lt_or_ge i s.size with h | h
      · refine .inr ⟨h, ?_⟩
        have h3 : btN s.data.toList i ≠ 34 := fun e => hq ⟨h, e⟩
        rw [HBT.out i h]
        simp
        omega
      · exact .inl (by omega)
    clear HPC HPP hq
    go_cut [38] (fun v wx => v = .bool false ∧ Rdr wx b s i (c + 1) ∧ Off b w wx)
    case first =>
      rcases hq2 with h2 | ⟨h2a, h2b⟩
      · subst h2
        have hl1 : ¬ (s.size : Int) < (s.size : Int) := by omega
        obtain ⟨q0, q1, q2, qf, _⟩ := HR.out.cells
        have r0 := cell_regrown q0
        have r1 := cell_regrown q1
        go_wp2_with fail
        refine wp_region_quiet_below (by kernel_rfl) (by kernel_rfl) ?_
        repeat (go_big_quiet_step (fail))
        refine wpQuiet_nil ?_
        intro _ hw'
        obtain ⟨⟨dq, osq⟩, hw''⟩ := hw'
        subst hw''
        have hR := HR.out.below (below_regrown w0 dq osq)
        have hO := HO.out.call (below_regrown w0 dq osq)
        clear r0 r1 q0 q1 q2 qf HR HO
        generalize Go.Sort.grow (redrawn w0 dq) osq = w1 at hR hO ⊢
        have HR := Lib.hid hR
        have HO := Lib.hid hO
        clear hR hO
        go_wp2_with fail
        go_meet
        exact ⟨rfl, HR.out, HO.out⟩
      · have hl1 : (i : Int) < (s.size : Int) := by omega
        obtain ⟨q0, q1, q2, qf, _⟩ := HR.out.cells
        have r0 := cell_regrown q0
        have r1 := cell_regrown q1
        go_wp2_with fail
        refine wp_region_quiet_below (by kernel_rfl) (by kernel_rfl) ?_
        repeat (go_big_quiet_step (fail))
        refine wpQuiet_nil ?_
        intro _ hw'
        obtain ⟨⟨dq, osq⟩, hw''⟩ := hw'
        subst hw''
        have hR := HR.out.below (below_regrown w0 dq osq)
        have hO := HO.out.call (below_regrown w0 dq osq)
        clear r0 r1 q0 q1 q2 qf HR HO
        generalize Go.Sort.grow (redrawn w0 dq) osq = w1 at hR hO ⊢
        have HR := Lib.hid hR
        have HO := Lib.hid hO
        clear hR hO
        go_wp2_with fail
        go_meet
        exact ⟨rfl, HR.out, HO.out⟩
    case rest =>
      obtain ⟨rfl, hR, hO⟩ := hcut
      clear hq2 HR HO HQ
      have HR := Lib.hid hR
      have HO := Lib.hid hO
      clear hR hO
      obtain ⟨q0, q1, q2, qf, _⟩ := HR.out.cells
      go_wp2_with fail
      go_loopg [] s.size (fun g wr => ∃ j : Nat, i ≤ j ∧ j ≤ s.size ∧ s.size ≤ j + g ∧ O = (pP (s.data.toList.drop j)).map (fun x => ((s.data.toList.drop i).take (j - i) ++ x.1, x.2)) ∧ Rdr wr b s j (c + 1) ∧ Off b w wr)
      case atStart => exact ⟨i, Nat.le_refl _, hi, by omega, by rw [HOV.out, Nat.sub_self]; cases pP (s.data.toList.drop i) <;> simp, HR.out, HO.out⟩
      case round =>
        clear HR HO q0 q1 q2 qf
        obtain ⟨j, hij, hjs, hg, hP, hR, hO⟩ := hrel
        have HP := Lib.hid hP
        have HR := Lib.hid hR
        have HO := Lib.hid hO
        have hj0 : (0 : Int) ≤ (j : Int) := by omega
        have HPE2 := Lib.hid (HPE.out j)
        have HPB2 := Lib.hid (HPB.out j)
        have HPN2 := Lib.hid (HPN.out j)
        have HLT2 := Lib.hid (HLT.out j)
        clear hP hR hO
        go_wp2_with fail
        refine (HE.out j hjs wr HR.out).mono ?_
        rintro e w1 ⟨rfl, hb1⟩
        have hR1 := HR.out.below hb1
        have hO1 := HO.out.call hb1
        clear HR HO hb1
        have HR := Lib.hid hR1
        have HO := Lib.hid hO1
        clear hR1 hO1
        generalize endsB (s.data.toList.drop j) = V at HPE2 HPB2 HPN2 HLT2
        cases V
        · have hlt : j < s.size := by have := HLT2.out (by first | trivial | rfl); rw [HSZ.out] at this; exact this
          have hl1 : (j : Int) < (s.size : Int) := by omega
          have hb := HBT.out j hlt
          have hts := HTS.out j hij (by rw [HSZ.out]; exact hlt)
          have HPB3 := Lib.hid (HPB2.out (by first | trivial | rfl))
          have HPN3 := Lib.hid (HPN2.out (by first | trivial | rfl))
          clear HPE2 HPB2 HPN2 HLT2
          obtain ⟨d, hd⟩ : ∃ d, btN s.data.toList j = d := ⟨_, rfl⟩
          rw [hd] at hb hts HPB3 HPN3
          have HTS2 := Lib.hid hts
          clear hd hts
          by_cases h34 : d = 34
          · have hb2 : (((s[j]'hlt).toNat : Nat) : Int) = 34 := by rw [hb, h34]; rfl
            have HN : Hid (O = none) := by unfold Hid; rw [HP.out, HPB3.out (.inl h34)]; rfl
            clear HPB3 HPN3 hb h34
            obtain ⟨q0, q1, q2, qf, _⟩ := HR.out.cells
            have r0 := cell_regrown q0
            have r1 := cell_regrown q1
            go_wp2_with fail
            refine wp_region_quiet_below (by kernel_rfl) (by kernel_rfl) ?_
            repeat (go_big_quiet_step (fail))
            refine wpQuiet_nil ?_
            intro _ hw'
            obtain ⟨⟨dq, osq⟩, hw''⟩ := hw'
            subst hw''
            have hR := HR.out.below (below_regrown w1 dq osq)
            have hO := HO.out.call (below_regrown w1 dq osq)
            clear r0 r1 q0 q1 q2 qf HR HO
            generalize Go.Sort.grow (redrawn w1 dq) osq = w2 at hR hO ⊢
            have HR := Lib.hid hR
            have HO := Lib.hid hO
            clear hR hO
            go_wp2_with fail
            go_ret2
            refine ⟨?_, HO.out⟩
            rw [HN.out]
            exact ⟨_, j, rfl, hjs, HR.out⟩
          · have hb2 : ((((s[j]'hlt).toNat : Nat) : Int) == 34) = false := by rw [hb]; simp; omega
            by_cases h13 : d = 13
            · have hb3 : (((s[j]'hlt).toNat : Nat) : Int) = 13 := by rw [hb, h13]; rfl
              have HN : Hid (O = none) := by unfold Hid; rw [HP.out, HPB3.out (.inr h13)]; rfl
              clear HPB3 HPN3 hb h34 h13 hb2
              obtain ⟨q0, q1, q2, qf, _⟩ := HR.out.cells
              have r0 := cell_regrown q0
              have r1 := cell_regrown q1
              go_wp2_with fail
              refine wp_region_quiet_below (by kernel_rfl) (by kernel_rfl) ?_
              repeat (go_big_quiet_step (fail))
              refine wpQuiet_nil ?_
              intro _ hw'
              obtain ⟨⟨dq, osq⟩, hw''⟩ := hw'
              subst hw''
              have hR := HR.out.below (below_regrown w1 dq osq)
              have hO := HO.out.call (below_regrown w1 dq osq)
              clear r0 r1 q0 q1 q2 qf HR HO
              generalize Go.Sort.grow (redrawn w1 dq) osq = w2 at hR hO ⊢
              have HR := Lib.hid hR
              have HO := Lib.hid hO
              clear hR hO
              go_wp2_with fail
              go_ret2
              refine ⟨?_, HO.out⟩
              rw [HN.out]
              exact ⟨_, j, rfl, hjs, HR.out⟩
            · have hb3 : ((((s[j]'hlt).toNat : Nat) : Int) == 13) = false := by rw [hb]; simp; omega
              have HN : Hid (O = (pP (s.data.toList.drop (j + 1))).map (fun x => ((s.data.toList.drop i).take (j + 1 - i) ++ x.1, x.2))) := by
                unfold Hid
                rw [HP.out, HPN3.out h34 h13, HTS2.out]
                cases pP (s.data.toList.drop (j + 1)) <;> simp
              clear HPB3 HPN3 hb h34 h13
              obtain ⟨q0, q1, q2, qf, _⟩ := HR.out.cells
              have r0 := cell_regrown q0
              have r1 := cell_regrown q1
              go_wp2_with fail
              refine wp_region_quiet_below (by kernel_rfl) (by kernel_rfl) ?_
              repeat (go_big_quiet_step (fail))
              refine wpQuiet_nil ?_
              intro _ hw'
              obtain ⟨⟨dq, osq⟩, hw''⟩ := hw'
              subst hw''
              have hR := HR.out.below (below_regrown w1 dq osq)
              have hO := HO.out.call (below_regrown w1 dq osq)
              clear r0 r1 q0 q1 q2 qf HR HO
              generalize Go.Sort.grow (redrawn w1 dq) osq = w2 at hR hO ⊢
              have HR := Lib.hid hR
              have HO := Lib.hid hO
              clear hR hO
              obtain ⟨q0, q1, q2, qf, _⟩ := HR.out.cells
              have hR := HR.out.setz ((j : Int) + 1) (j + 1) (by omega)
              have hO := HO.out.set 1 (.int .i64 ((j : Int) + 1))
              clear HR HO
              go_wp2_with fail
              clear q0 q1 q2 qf
              generalize w2.setCell ⟨b, 1, none⟩ (.int .i64 ((j : Int) + 1)) = w3 at hR hO ⊢
              have HR := Lib.hid hR
              have HO := Lib.hid hO
              clear hR hO
              go_roundg (gk - 1)
              case measure => omega
              case rel => exact ⟨j + 1, by omega, by omega, by omega, HN.out, HR.out, HO.out⟩
        · have HPE3 := Lib.hid (HPE2.out (by first | trivial | rfl))
          have HN : Hid (O = some ((s.data.toList.drop i).take (j - i), s.data.toList.drop j)) := by
            unfold Hid
            rw [HP.out, HPE3.out]
            simp
          have HX := Lib.hid (HEX.out j hij hjs)
          have hl1 : (j : Int) ≤ (s.size : Int) := by omega
          have hl2 : (i : Int) ≤ (j : Int) := by omega
          clear HPE2 HPB2 HPN2 HLT2 HPE3
          obtain ⟨q0, q1, q2, qf, _⟩ := HR.out.cells
          have r0 := cell_regrown q0
          have r1 := cell_regrown q1
          go_wp2_with fail
          refine wp_region_quiet_below (by kernel_rfl) (by kernel_rfl) ?_
          repeat (go_big_quiet_step (fail))
          refine wpQuiet_nil ?_
          intro _ hw'
          obtain ⟨⟨dq, osq⟩, hw''⟩ := hw'
          subst hw''
          have hR := HR.out.below (below_regrown w1 dq osq)
          have hO := HO.out.call (below_regrown w1 dq osq)
          clear r0 r1 q0 q1 q2 qf HR HO
          generalize Go.Sort.grow (redrawn w1 dq) osq = w2 at hR hO ⊢
          have HR := Lib.hid hR
          have HO := Lib.hid hO
          clear hR hO
          go_wp2_with fail
          go_ret2
          refine ⟨?_, HO.out⟩
          rw [HN.out]
          exact ⟨j, by rw [← HX.out]; rfl, hjs, rfl, HR.out⟩
end Go.Proofs.YthgeajmggbakbaaDoor
