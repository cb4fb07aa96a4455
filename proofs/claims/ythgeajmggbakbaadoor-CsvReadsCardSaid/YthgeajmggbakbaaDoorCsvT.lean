/- CSV: are rows alike? The walk of CsvWrites. -/
import Derived.Test.YthgeajmggbakbaaDoorCsvS
set_option linter.unusedSimpArgs false
set_option linter.unusedVariables false
namespace Go.Proofs.YthgeajmggbakbaaDoor
open Go.RowKit Go.Joins

theorem getD_R {Ls Ms : List Rw} (h : Ls.map Rw.R = Ms.map Rw.R) (i : Nat) : (Ls.getD i rw0).R = (Ms.getD i rw0).R := by
  have := congrArg (fun l => l.getD i []) h
  simp only [List.getD_eq_getElem?_getD, List.getElem?_map] at this ⊢
  cases h1 : Ls[i]? <;> cases h2 : Ms[i]? <;> rw [h1, h2] at this <;> simpa using this

set_option maxRecDepth 100000 in
set_option maxHeartbeats 4000000 in
theorem same_yes (p q : Option Addr) (n m cap cq : Nat) (Ls Ms : List Rw) (w : World) (hr : RdRs w p n Ls) (hq : RdRs w q m Ms) (hn : n ≤ 9223372036854775807) (h : Ls.map Rw.R = Ms.map Rw.R) :
    Calls Tryd.prog 14 #[.slice p n cap, .slice q m cq] w fun e w' => e = .returned (.bool true) ∧ Below w.heap.size w w' := by
  have hnm : n = m := by
    have := congrArg List.length h
    rw [List.length_map, List.length_map, hr.1.1, hq.1.1] at this
    exact this
  subst hnm
  have HA := Lib.hid (fun i (hi : i < n) W (hW : Below w.heap.size w W) => row_at (hr.below hW) hi)
  have HB := Lib.hid (fun i (hi : i < n) W (hW : Below w.heap.size w W) => row_at (hq.below hW) hi)
  have HR := Lib.hid (getD_R h)
  clear hr hq h
  go_enter Tryd.func14, Tryd.ntmps14
  go_wp2_with fail
  go_loopg [5] n (fun g v5 wr => ∃ i : Nat, i + g = n ∧ v5 = .int .i64 i ∧ Below w.heap.size w wr)
  case atStart => exact ⟨0, by omega, rfl, Below.refl _ _⟩
  case round =>
    obtain ⟨G, rfl⟩ : ∃ G, G = gk := ⟨_, rfl⟩
    obtain ⟨i, hig, rfl, hbel⟩ := hrel
    have HBL := Lib.hid hbel
    have hzr := hbel.size
    clear hbel
    by_cases hlt : i < n
    · have hli : (i : Int) < (n : Int) := by omega
      have hi0 : (0 : Int) ≤ (i : Int) := by omega
      have HA1 := Lib.hid (HA.out i hlt)
      have HB1 := Lib.hid (HB.out i hlt)
      have hR := HR.out i
      generalize Ls.getD i rw0 = r1 at HA1 hR
      generalize Ms.getD i rw0 = r2 at HB1 hR
      obtain ⟨p1, n1, c1, R⟩ := r1
      obtain ⟨p2, n2, c2, R2⟩ := r2
      simp only at hR HA1 HB1
      subst hR
      obtain ⟨b, off, rfl, hb, hc, hd1, _, hx1⟩ := HA1.out wr HBL.out
      obtain ⟨b2, off2, rfl, hb2, hc2, hd2, _, hx2⟩ := HB1.out wr HBL.out
      obtain rfl : n1 = n2 := hd1.1.symm.trans hd2.1
      have r1 := cell_regrown hc
      have r2 := cell_regrown hc2
      clear hd1 hd2
      go_wp2_with fail
      refine wp_region_quiet_below (by kernel_rfl) (by kernel_rfl) ?_
      repeat (go_big_quiet_step (fail))
      refine wpQuiet_nil ?_
      intro _ hw'
      obtain ⟨⟨dq, osq⟩, hw''⟩ := hw'
      subst hw''
      have hbx : Below w.heap.size w (Go.Sort.grow (redrawn wr dq) osq) := bel_call (below_regrown wr dq osq) HBL.out hzr
      clear r1 r2 hc hc2 HBL
      generalize Go.Sort.grow (redrawn wr dq) osq = wx at hbx ⊢
      have HBX := Lib.hid hbx
      clear hbx
      go_wp2_with fail
      go_loopg [6] n1 (fun g v6 wy => ∃ k : Nat, k + g = n1 ∧ v6 = .int .i64 k ∧ Below w.heap.size w wy)
      case atStart => exact ⟨0, by omega, rfl, HBX.out⟩
      case round =>
        obtain ⟨k, hkg, rfl, hbel⟩ := hrel
        have HBL := Lib.hid hbel
        have hzr2 := hbel.size
        clear hbel HBX
        obtain ⟨_, _, e1, hbA, hc, hd1, _, _⟩ := HA1.out wr HBL.out
        cases e1
        obtain ⟨_, _, e2, hbB, hc2, hd2, _, _⟩ := HB1.out wr HBL.out
        cases e2
        by_cases hkt : k < n1
        · have hkti : (k : Int) < (n1 : Int) := by omega
          have hk0 : (0 : Int) ≤ (k : Int) := by omega
          obtain ⟨d, doff, rfl, hdb, hdc⟩ := cell_str hd1 hkt
          obtain ⟨d2, doff2, rfl, hdb2, hdc2⟩ := cell_str hd2 hkt
          generalize (⟨(R.getD k []).toArray⟩ : ByteArray) = X at hdc hdc2
          have r1 := cell_regrown hc
          have r2 := cell_regrown hc2
          have r3 := cell_regrown hdc
          have r4 := cell_regrown hdc2
          clear hd1 hd2
          go_wp2_with fail
          refine wp_region_quiet_below (by kernel_rfl) (by kernel_rfl) ?_
          repeat (go_big_quiet_step (fail))
          refine wpQuiet_nil ?_
          intro _ hw'
          obtain ⟨⟨dq, osq⟩, hw''⟩ := hw'
          subst hw''
          have hbx : Below w.heap.size w (Go.Sort.grow (redrawn wr dq) osq) := bel_call (below_regrown wr dq osq) HBL.out hzr2
          clear r1 r2 r3 r4 hc hc2 hdc hdc2 HBL
          generalize Go.Sort.grow (redrawn wr dq) osq = wz at hbx ⊢
          have HBX := Lib.hid hbx
          clear hbx
          go_wp2_with fail
          go_roundg (gk - 1)
          case measure => omega
          case rel => exact ⟨k + 1, by omega, by go_num, HBX.out⟩
        · obtain rfl : k = n1 := by omega
          have hkti : ¬ (k : Int) < (k : Int) := by omega
          clear hd1 hd2
          go_wp2_with fail
          go_roundg (G - 1)
          case measure => omega
          case rel => exact ⟨i + 1, by omega, by go_num, HBL.out⟩
    · obtain rfl : i = n := by omega
      have hli : ¬ (i : Int) < (i : Int) := by omega
      go_wp2_with fail
      go_ret
      exact ⟨rfl, HBL.out⟩

theorem fits_wr : ∀ (rows : List (List Bs)) (c : Nat), (∀ R ∈ rows, R ≠ []) → c + (rows.map List.length).sum ≤ 65536 → ∃ f, fits f c (wrL rows)
  | [], c, _, _ => ⟨0, rfl⟩
  | R :: rows, c, hne, hc => by
    rw [List.map_cons, List.sum_cons] at hc
    obtain ⟨f, hf⟩ := fits_wr rows (c + R.length) (fun R h => hne R (by simp [h])) (by omega)
    have e : wrL (R :: rows) = rowL R ++ 13 :: 10 :: wrL rows := by simp [wrL]
    have hro : rowO (wrL (R :: rows)) = some (R, wrL rows) := by
      unfold rowO
      rw [e]
      refine pRow_row R _ _ (hne R (by simp)) ?_
      have := rowL_len R
      rw [List.length_append]
      omega
    refine ⟨f + 1, .inr ⟨?_, fun cs rest h => ?_⟩⟩
    · rw [cnt_of hro]; omega
    · rw [hro] at h
      cases h
      exact hf
theorem wrT_all (Ls : List Rw) : wrT Ls Ls.length = wrL (Ls.map Rw.R) := by unfold wrT; rw [List.take_length]
theorem sum_le20 (rows : List (List Bs)) (h : ∀ R ∈ rows, R.length ≤ 20) : (rows.map List.length).sum ≤ 20 * rows.length := by
  induction rows with
  | nil => simp
  | cons R rows ih =>
    have h1 := h R (by simp)
    have h2 := ih (fun R hR => h R (by simp [hR]))
    rw [List.map_cons, List.sum_cons, List.length_cons]
    omega

set_option maxRecDepth 100000 in
set_option maxHeartbeats 8000000 in
theorem writes_walk (p : Option Addr) (n cap : Nat) (Ls : List Rw) (w : World) (hsh : w.ShapedOpen Tryd.prog) (hr : RdRs w p n Ls) (hn : n ≤ 9223372036854775807) (hsz : szL Ls ≤ 1048576) :
    Calls Tryd.prog 5 #[.slice p n cap] w fun e w' => e = .returned (.bool true) ∧ Below w.heap.size w w' := by
  have HA : Hid (∀ W, Below w.heap.size w W → Calls Tryd.prog 7 #[] W fun e w' => e = .returned (.bool true) ∧ Below W.heap.size W w') := fun W h => awake_any W (shaped_below hsh h)
  have HL := Lib.hid (light_any p n cap Ls w hr hn)
  have hlen : Ls.length = n := hr.1.1
  cases hl : lightB Ls
  · rw [hl] at HL
    clear hr hsz
    go_enter Tryd.func5, Tryd.ntmps5
    go_wp2_with fail
    refine HL.out.mono ?_
    rintro e w1 ⟨rfl, rfl⟩
    go_wp2_with fail
    refine (HA.out w (Below.refl _ _)).mono ?_
    rintro e w2 ⟨rfl, hb2⟩
    go_wp2_with fail
    go_ret
    exact ⟨rfl, hb2⟩
  · rw [hl] at HL
    obtain ⟨h20, hrows⟩ := light_yes hl
    rw [hlen] at h20
    have hl20 : ∀ r ∈ Ls, r.R.length ≤ 20 := fun r h => by rw [((hr.2 r h).1).1]; exact hrows r h
    have HW := Lib.hid (write_any p n cap Ls w hsh hr h20 hrows hsz)
    have HRW := Lib.hid (fun W (hW : Below w.heap.size w W) => rwrite_any p n cap Ls W (hr.below hW) h20 hrows hsz)
    have HUP := wrT_len Ls (by omega) hl20 hsz n
    have HNIL : Hid (∀ W, Below w.heap.size w W → Calls Tryd.prog 10 #[.slice none 0 0] W fun e w' => e = .returned (.string ⟨#[]⟩) ∧ Below W.heap.size W w') := fun W hW => row_any none 0 0 [] W (shaped_below hsh hW) (RdG.nil _ _ _ _) (by omega) (by omega) (by simp [szR])
    have HAT := Lib.hid (fun i (hi : i < n) W (hW : Below w.heap.size w W) => row_at (hr.below hW) hi)
    have HRD : Hid ((∀ j, j < n → (Ls.getD j rw0).n ≠ 0) → ∀ W, Calls Tryd.prog 12 #[.string ⟨(wrT Ls n).toArray⟩] W fun e w' => ReadR (Ls.map Rw.R, 0, true) e w' ∧ Below W.heap.size W w') := fun hne W => by
      have hne2 : ∀ R ∈ Ls.map Rw.R, R ≠ [] := fun R hR => by
        obtain ⟨r, hr', rfl⟩ := List.mem_map.1 hR
        obtain ⟨j, hj, rfl⟩ := List.mem_iff_getElem.1 hr'
        have h1 := hne j (by omega)
        rw [getD_get hj] at h1
        intro e
        have h2 := ((hr.2 _ hr').1).1
        rw [e] at h2
        exact h1 h2.symm
      have hw : wrT Ls n = wrL (Ls.map Rw.R) := by rw [← hlen]; exact wrT_all Ls
      have hs := read_any ⟨(wrT Ls n).toArray⟩ (by rw [size_l]; omega) (by
        rw [hw]
        refine fits_wr _ 0 hne2 ?_
        have := sum_le20 (Ls.map Rw.R) (fun R hR => by
          obtain ⟨r, hr', rfl⟩ := List.mem_map.1 hR
          exact hl20 r hr')
        rw [List.length_map] at this
        omega) W
      rw [hw] at hs ⊢
      have := read_wr (Ls.map Rw.R) hne2
      rw [show rRead ({ data := (wrL (Ls.map Rw.R)).toArray } : ByteArray).data.toList = rRead (wrL (Ls.map Rw.R)) from rfl, this] at hs
      exact hs
    have HSM := Lib.hid (fun (q : Option Addr) (m cq : Nat) (Ms : List Rw) W (hW : Below w.heap.size w W) (hq : RdRs W q m Ms) (hm : m ≤ 9223372036854775807) (he : Ms.map Rw.R = Ls.map Rw.R) => same_yes q p m n cq cap Ms Ls W hq (hr.below hW) hm he)
    generalize (⟨(wrT Ls n).toArray⟩ : ByteArray) = T at HW HRW HRD
    clear hr hsz hl hl20 HUP hrows
    go_enter Tryd.func5, Tryd.ntmps5
    go_wp2_with fail
    refine HL.out.mono ?_
    rintro e w1 ⟨rfl, rfl⟩
    go_wp2_with fail
    refine HW.out.mono ?_
    rintro e w1 ⟨rfl, hb1⟩
    have HB1 := Lib.hid hb1
    clear hb1
    go_wp2_with fail
    refine (HRW.out w1 HB1.out).mono ?_
    rintro e w2 ⟨rfl, rfl⟩
    clear HL HW HRW
    go_wp2_with fail
    go_loopg [4] n (fun g v4 wr => ∃ i : Nat, i + g = n ∧ v4 = .int .i64 i ∧ (∀ j, j < i → (Ls.getD j rw0).n ≠ 0) ∧ Below w.heap.size w wr)
    case atStart => exact ⟨0, by omega, rfl, fun j hj => by omega, HB1.out⟩
    case round =>
      obtain ⟨i, hig, rfl, hall, hbel⟩ := hrel
      have HALL := Lib.hid hall
      have HBL := Lib.hid hbel
      have hzr := hbel.size
      clear hall hbel HB1
      by_cases hlt : i < n
      · have hli : (i : Int) < (n : Int) := by omega
        obtain ⟨b, off, rfl, hb, hc, _, _, hx⟩ := HAT.out i hlt wr HBL.out
        have HN : (Ls.getD i rw0).n ≠ 0 → Hid (∀ j, j < i + 1 → (Ls.getD j rw0).n ≠ 0) := fun h j hj => by
          by_cases h' : j < i
          · exact HALL.out j h'
          · obtain rfl : j = i := by omega
            exact h
        generalize Ls.getD i rw0 = r at hc HN hx
        obtain ⟨rp, rn, rc, R⟩ := r
        simp only at hc HN hx
        by_cases h0 : rn = 0
        · subst h0
          clear HN
          go_wp2_with fail
          refine (HNIL.out wr HBL.out).mono ?_
          rintro e w2 ⟨rfl, hb2⟩
          have HB2 : Hid (Below w.heap.size w w2) := bel_call hb2 HBL.out hzr
          clear hb2
          go_wp2_with fail
          refine (HA.out w2 HB2.out).mono ?_
          rintro e w3 ⟨rfl, hb3⟩
          go_wp2_with fail
          go_ret
          exact ⟨rfl, bel_call hb3 HB2.out HB2.out.size⟩
        · have hne : ((rn : Int) == 0) = false := by simp; omega
          have HN2 := Lib.hid (HN h0).out
          clear HN h0
          go_wp2_with fail
          go_roundg (gk - 1)
          case measure => omega
          case rel => exact ⟨i + 1, by omega, by go_num, HN2.out, HBL.out⟩
      · obtain rfl : i = n := by omega
        have hli : ¬ (i : Int) < (i : Int) := by omega
        have HR2 := Lib.hid (HRD.out HALL.out)
        clear HRD HNIL HAT
        go_wp2_with fail
        refine (HR2.out wr).mono ?_
        rintro e w2 ⟨⟨q, m, cq, Ms, rfl, hrd, hm, he⟩, hb2⟩
        have HB2 : Hid (Below w.heap.size w w2) := bel_call hb2 HBL.out hzr
        have HS2 := Lib.hid (HSM.out q m cq Ms w2 HB2.out hrd hm he)
        clear hrd he hb2 HSM HR2
        go_wp2_with fail
        refine HS2.out.mono ?_
        rintro e w3 ⟨rfl, hb3⟩
        have HB3 : Hid (Below w.heap.size w w3) := bel_call hb3 HB2.out HB2.out.size
        clear hb3
        go_wp2_with fail
        refine (HA.out w3 HB3.out).mono ?_
        rintro e w4 ⟨rfl, hb4⟩
        go_wp2_with fail
        go_ret
        exact ⟨rfl, bel_call hb4 HB3.out HB3.out.size⟩
end Go.Proofs.YthgeajmggbakbaaDoor
