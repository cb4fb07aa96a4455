/- Script: a line as a text. -/
import Derived.Test.YtddoghjopihkpaaDoorScrG
import Derived.Lib.QuietBelow
set_option linter.unusedSimpArgs false
set_option linter.unusedVariables false
namespace Go.Proofs.YtddoghjopihkpaaDoor
open Go.RowKit Go.Joins

/-- A step whose numbers are plain. -/
def stN (k : Int) (a : Nat) (C T : Bs) (o : Bool) (n t b : Nat) : Stp := ⟨k, (a : Int), C, T, o, (n : Int), (t : Int), (b : Int)⟩
def axT (o : Bool) (n : Nat) : Bs := (if o then [32, 99, 111, 108, 32] else [32, 114, 111, 119, 32]) ++ dcL n
def stT (k : Int) (a : Nat) (C T : Bs) (o : Bool) (n t b : Nat) : Bs :=
  if k = 0 then dcL a ++ [32] ++ [115, 101, 116, 32] ++ C ++ [32] ++ T
  else if k = 1 then dcL a ++ [32] ++ wInsert ++ axT o n
  else if k = 2 then dcL a ++ [32] ++ wDelete ++ axT o n
  else if k = 3 then wDeliver ++ ([32] ++ dcL n)
  else if k = 4 then wDrop ++ ([32] ++ dcL n)
  else if k = 5 then wTwice ++ ([32] ++ dcL n)
  else if k = 6 then wSpoil ++ ([32] ++ dcL n) ++ [32] ++ dcL t ++ [32] ++ dcL b
  else if k = 7 then dcL a ++ [32] ++ [100, 105, 103, 101, 115, 116, 32] ++ dcL t
  else if k = 8 then dcL a ++ [32] ++ [97, 99, 107, 32] ++ dcL t
  else dcL a ++ [32] ++ wSweep
theorem box_cells (w : World) (x : Stp) : StB (w.alloc (.cells (stC x) tStp)) w.heap.size x := heap_alloc_new w _

set_option maxRecDepth 100000 in
set_option maxHeartbeats 4000000 in
theorem axis_any (k : Int) (a : Nat) (C T : Bs) (o : Bool) (n t b : Nat) (hn : n ≤ 10000000) (w : World) :
    Calls Tryd.prog 25 #[.agg (stC (stN k a C T o n t b))] w fun e w' => e = .returned (.string ⟨(axT o n).toArray⟩) ∧ Below w.heap.size w w' := by
  have HD := Lib.hid (fun W => decN_any n hn W)
  have hdl := dcL_len n
  have hS := Lib.hid (box_cells w (stN k a C T o n t b))
  have hb : Below w.heap.size w (w.alloc (.cells (stC (stN k a C T o n t b)) tStp)) := by (repeat' (first | (with_reducible exact Below.refl _ _) | (with_reducible assumption) | (with_reducible refine Below.alloc ?_ ?_ _) | (with_reducible refine bel_drewN ?_ _) | (with_reducible refine Below.drew ?_) | (with_reducible refine Below.setCell ?_ ?_ _) | (with_reducible refine bel_call ‹_› ?_ ?_) | go_size))
  unfold axT
  generalize dcL n = D at HD hdl ⊢
  have hz1 : (⟨D.toArray⟩ : ByteArray).size ≤ 20 := by rw [sizeL]; omega
  have hk1 : (⟨#[32, 99, 111, 108, 32]⟩ : ByteArray) ++ ⟨D.toArray⟩ = ⟨([32, 99, 111, 108, 32] ++ D).toArray⟩ := cat2 [32, 99, 111, 108, 32] D
  have hk2 : (⟨#[32, 114, 111, 119, 32]⟩ : ByteArray) ++ ⟨D.toArray⟩ = ⟨([32, 114, 111, 119, 32] ++ D).toArray⟩ := cat2 [32, 114, 111, 119, 32] D
  have hs1 : (⟨#[32, 99, 111, 108, 32]⟩ : ByteArray).size = 5 := rfl
  have hs2 : (⟨#[32, 114, 111, 119, 32]⟩ : ByteArray).size = 5 := rfl
  go_enter Tryd.func25, Tryd.ntmps25
  go_upto_region 1 with fail
  generalize w.alloc (.cells (stC (stN k a C T o n t b)) tStp) = w0 at hS hb ⊢
  obtain ⟨c0, c1, c2, c3, c4, c5, c6, c7⟩ := hS.out.cells
  simp only [stN] at c0 c1 c2 c3 c4 c5 c6 c7
  cases o
  all_goals
    go_wp2_with fail
    refine (HD.out _).mono ?_
    rintro e w1 ⟨rfl, hb1⟩
    go_wp2_with fail
    go_ret
    exact ⟨by first | rfl | exact congrArg (fun s => Ending.returned (Value.string s)) hk1 | exact congrArg (fun s => Ending.returned (Value.string s)) hk2, bel_call hb1 hb hb.size⟩
theorem add_run (X Y : Bs) (h : X.length + Y.length ≤ 1000000) : ∀ W, (Op.stringOp .add ⟨X.toArray⟩ ⟨Y.toArray⟩).run Tryd.prog W = .ok (.string ⟨(X ++ Y).toArray⟩) W := fun W => by
  rw [← cat2]
  exact run_string_add_sum W _ _ (by rw [sizeL, sizeL]; omega)
theorem axT_len (o : Bool) (n : Nat) : (axT o n).length ≤ 30 := by
  have := dcL_len n
  unfold axT
  rw [List.length_append]
  cases o <;> simp <;> omega

set_option maxRecDepth 100000 in
set_option maxHeartbeats 16000000 in
theorem stepT_any (k : Int) (a : Nat) (C T : Bs) (o : Bool) (n t b : Nat) (ha : a ≤ 10000000) (hn : n ≤ 10000000) (ht : t ≤ 10000000) (hb : b ≤ 255) (hC : C.length ≤ 10000) (hT : T.length ≤ 10000) (w : World) :
    Calls Tryd.prog 16 #[.agg (stC (stN k a C T o n t b))] w fun e w' => e = .returned (.string ⟨(stT k a C T o n t b).toArray⟩) ∧ Below w.heap.size w w' := by
  have HDn := Lib.hid (fun W => decN_any n hn W)
  have HDa := Lib.hid (fun W => decN_any a ha W)
  have HDt := Lib.hid (fun W => decN_any t ht W)
  have HDb := Lib.hid (fun W => decN_any b (by omega) W)
  have HAX := Lib.hid (fun W => axis_any k a C T o n t b hn W)
  have hdn := dcL_len n
  have hda := dcL_len a
  have hdt := dcL_len t
  have hdb := dcL_len b
  have hax := axT_len o n
  have hS := Lib.hid (box_cells w (stN k a C T o n t b))
  have hbw : Below w.heap.size w (w.alloc (.cells (stC (stN k a C T o n t b)) tStp)) := by (repeat' (first | (with_reducible exact Below.refl _ _) | (with_reducible assumption) | (with_reducible refine Below.alloc ?_ ?_ _) | (with_reducible refine bel_drewN ?_ _) | (with_reducible refine Below.drew ?_) | (with_reducible refine Below.setCell ?_ ?_ _) | (with_reducible refine bel_call ‹_› ?_ ?_) | go_size))
  obtain ⟨O, hO⟩ : ∃ O, stT k a C T o n t b = O := ⟨_, rfl⟩
  have HO := Lib.hid hO
  unfold stT at HO
  rw [hO]
  clear hO
  have hNn := add_run [32] (dcL n) (by simp; omega)
  have hWh := add_run (dcL a) [32] (by simp; omega)
  have hNl : ([32] ++ dcL n).length ≤ 20 := by simp; omega
  have hWl : (dcL a ++ [32]).length ≤ 20 := by simp; omega
  generalize axT o n = AX at HAX HO hax
  generalize [32] ++ dcL n = NN at HO hNn hNl
  generalize dcL a ++ [32] = WW at HO hWh hWl
  generalize dcL n = Dn at HDn hNn hdn
  generalize dcL a = Da at HDa hWh hda
  generalize dcL t = Dt at HDt HO hdt
  generalize dcL b = Db at HDb HO hdb
  have hz0 : (w.alloc (.cells (stC (stN k a C T o n t b)) tStp)).heap.size = w.heap.size + 1 := by simp
  go_enter Tryd.func16, Tryd.ntmps16
  go_upto_region 1 with fail
  generalize w.alloc (.cells (stC (stN k a C T o n t b)) tStp) = w0 at hS hbw hz0 ⊢
  obtain ⟨c0, c1, c2, c3, c4, c5, c6, c7⟩ := hS.out.cells
  have HS := Lib.hid hS.out
  simp only [stN] at c0 c1 c2 c3 c4 c5 c6 c7
  go_upto_region 2 with (refine (HDn.out _).mono ?_; rintro e w1 ⟨rfl, hb1⟩; obtain ⟨hc1, hf1, hz1⟩ := bcell hb1 (by first | (simp only [World.size_alloc, World.size_setCell, World.size_drew]; rfl) | rfl))
  go_upto_region 3 with (refine (HDa.out _).mono ?_; rintro e w2 ⟨rfl, hb2⟩; obtain ⟨hc2, hf2, hz2⟩ := bcell hb2 (by first | (simp only [World.size_alloc, World.size_setCell, World.size_drew]; rfl) | rfl))
  have HB : Hid (Below w.heap.size w w2) := bel_call hb2 (bel_call hb1 hbw hbw.size) (by have := hbw.size; have := hb1.size; omega)
  have hS2 := Lib.hid ((HS.out.below hb1).below hb2)
  clear HDn HDa hc1 hc2 hf1 hf2 hz1 hz2 hb1 hb2 hNn hWh c0 c1 c2 c3 c4 c5 c6 c7 HS hS
  obtain ⟨c0, c1, c2, c3, c4, c5, c6, c7⟩ := hS2.out.cells
  simp only [stN] at c0 c1 c2 c3 c4 c5 c6 c7
  by_cases hk : k = 0
  · subst hk
    have HO2 : Hid (O = WW ++ [115, 101, 116, 32] ++ C ++ [32] ++ T) := by unfold Hid; rw [← HO.out]; exact if_pos rfl
    clear HO
    have h0 := add_run (WW) ([115, 101, 116, 32]) (by first | (simp only [List.length_append, List.length_cons, List.length_nil]; omega) | omega | (simp; omega))
    have h1 := add_run (WW ++ [115, 101, 116, 32]) (C) (by first | (simp only [List.length_append, List.length_cons, List.length_nil]; omega) | omega | (simp; omega))
    have h2 := add_run (WW ++ [115, 101, 116, 32] ++ C) ([32]) (by first | (simp only [List.length_append, List.length_cons, List.length_nil]; omega) | omega | (simp; omega))
    have h3 := add_run (WW ++ [115, 101, 116, 32] ++ C ++ [32]) (T) (by first | (simp only [List.length_append, List.length_cons, List.length_nil]; omega) | omega | (simp; omega))
    generalize hF3 : (⟨(WW ++ [115, 101, 116, 32] ++ C ++ [32] ++ T).toArray⟩ : ByteArray) = S3 at h3
    generalize hF2 : (⟨(WW ++ [115, 101, 116, 32] ++ C ++ [32]).toArray⟩ : ByteArray) = S2 at h2 h3
    generalize hF1 : (⟨(WW ++ [115, 101, 116, 32] ++ C).toArray⟩ : ByteArray) = S1 at h1 h2
    generalize hF0 : (⟨(WW ++ [115, 101, 116, 32]).toArray⟩ : ByteArray) = S0 at h0 h1
    have HF := Lib.hid hF3
    clear hF0 hF1 hF2 hF3
    go_wp2_with fail
    go_ret
    exact ⟨by rw [HO2.out, ← HF.out]; first | rfl | trace_state, HB.out⟩
  · have hn0 := hk
    clear hk
    by_cases hk : k = 1
    · subst hk
      have HO2 : Hid (O = WW ++ wInsert ++ AX) := by unfold Hid; rw [← HO.out]; simp
      clear HO
      have h0 := add_run (WW) (wInsert) (by first | (simp only [List.length_append, List.length_cons, List.length_nil]; omega) | omega | (simp; omega))
      have h1 := add_run (WW ++ wInsert) (AX) (by first | (simp only [List.length_append, List.length_cons, List.length_nil]; omega) | omega | (simp; omega))
      generalize hF1 : (⟨(WW ++ wInsert ++ AX).toArray⟩ : ByteArray) = S1 at h1
      generalize hF0 : (⟨(WW ++ wInsert).toArray⟩ : ByteArray) = S0 at h0 h1
      have HF := Lib.hid hF1
      clear hF0 hF1
      go_wp2_with fail
      refine (HAX.out _).mono ?_
      rintro e w3 ⟨rfl, hb3⟩
      go_wp2_with fail
      go_ret
      exact ⟨by rw [HO2.out, ← HF.out]; first | rfl | trace_state, bel_call hb3 HB.out HB.out.size⟩
    · have hn1 := hk
      clear hk
      by_cases hk : k = 2
      · subst hk
        have HO2 : Hid (O = WW ++ wDelete ++ AX) := by unfold Hid; rw [← HO.out]; simp
        clear HO
        have h0 := add_run (WW) (wDelete) (by first | (simp only [List.length_append, List.length_cons, List.length_nil]; omega) | omega | (simp; omega))
        have h1 := add_run (WW ++ wDelete) (AX) (by first | (simp only [List.length_append, List.length_cons, List.length_nil]; omega) | omega | (simp; omega))
        generalize hF1 : (⟨(WW ++ wDelete ++ AX).toArray⟩ : ByteArray) = S1 at h1
        generalize hF0 : (⟨(WW ++ wDelete).toArray⟩ : ByteArray) = S0 at h0 h1
        have HF := Lib.hid hF1
        clear hF0 hF1
        go_wp2_with fail
        refine (HAX.out _).mono ?_
        rintro e w3 ⟨rfl, hb3⟩
        go_wp2_with fail
        go_ret
        exact ⟨by rw [HO2.out, ← HF.out]; first | rfl | trace_state, bel_call hb3 HB.out HB.out.size⟩
      · have hn2 := hk
        clear hk
        by_cases hk : k = 3
        · subst hk
          have HO2 : Hid (O = wDeliver ++ NN) := by unfold Hid; rw [← HO.out]; simp
          clear HO
          have h0 := add_run (wDeliver) (NN) (by first | (simp only [List.length_append, List.length_cons, List.length_nil]; omega) | omega | (simp; omega))
          generalize hF0 : (⟨(wDeliver ++ NN).toArray⟩ : ByteArray) = S0 at h0
          have HF := Lib.hid hF0
          clear hF0
          go_wp2_with fail
          go_ret
          exact ⟨by rw [HO2.out, ← HF.out]; first | rfl | trace_state, HB.out⟩
        · have hn3 := hk
          clear hk
          by_cases hk : k = 4
          · subst hk
            have HO2 : Hid (O = wDrop ++ NN) := by unfold Hid; rw [← HO.out]; simp
            clear HO
            have h0 := add_run (wDrop) (NN) (by first | (simp only [List.length_append, List.length_cons, List.length_nil]; omega) | omega | (simp; omega))
            generalize hF0 : (⟨(wDrop ++ NN).toArray⟩ : ByteArray) = S0 at h0
            have HF := Lib.hid hF0
            clear hF0
            go_wp2_with fail
            go_ret
            exact ⟨by rw [HO2.out, ← HF.out]; first | rfl | trace_state, HB.out⟩
          · have hn4 := hk
            clear hk
            by_cases hk : k = 5
            · subst hk
              have HO2 : Hid (O = wTwice ++ NN) := by unfold Hid; rw [← HO.out]; simp
              clear HO
              have h0 := add_run (wTwice) (NN) (by first | (simp only [List.length_append, List.length_cons, List.length_nil]; omega) | omega | (simp; omega))
              generalize hF0 : (⟨(wTwice ++ NN).toArray⟩ : ByteArray) = S0 at h0
              have HF := Lib.hid hF0
              clear hF0
              go_wp2_with fail
              go_ret
              exact ⟨by rw [HO2.out, ← HF.out]; first | rfl | trace_state, HB.out⟩
            · have hn5 := hk
              clear hk
              by_cases hk : k = 6
              · subst hk
                have HO2 : Hid (O = wSpoil ++ NN ++ [32] ++ Dt ++ [32] ++ Db) := by unfold Hid; rw [← HO.out]; simp
                clear HO
                have h0 := add_run (wSpoil) (NN) (by first | (simp only [List.length_append, List.length_cons, List.length_nil]; omega) | omega | (simp; omega))
                have h1 := add_run (wSpoil ++ NN) ([32]) (by first | (simp only [List.length_append, List.length_cons, List.length_nil]; omega) | omega | (simp; omega))
                have h2 := add_run (wSpoil ++ NN ++ [32]) (Dt) (by first | (simp only [List.length_append, List.length_cons, List.length_nil]; omega) | omega | (simp; omega))
                have h3 := add_run (wSpoil ++ NN ++ [32] ++ Dt) ([32]) (by first | (simp only [List.length_append, List.length_cons, List.length_nil]; omega) | omega | (simp; omega))
                have h4 := add_run (wSpoil ++ NN ++ [32] ++ Dt ++ [32]) (Db) (by first | (simp only [List.length_append, List.length_cons, List.length_nil]; omega) | omega | (simp; omega))
                generalize hF4 : (⟨(wSpoil ++ NN ++ [32] ++ Dt ++ [32] ++ Db).toArray⟩ : ByteArray) = S4 at h4
                generalize hF3 : (⟨(wSpoil ++ NN ++ [32] ++ Dt ++ [32]).toArray⟩ : ByteArray) = S3 at h3 h4
                generalize hF2 : (⟨(wSpoil ++ NN ++ [32] ++ Dt).toArray⟩ : ByteArray) = S2 at h2 h3
                generalize hF1 : (⟨(wSpoil ++ NN ++ [32]).toArray⟩ : ByteArray) = S1 at h1 h2
                generalize hF0 : (⟨(wSpoil ++ NN).toArray⟩ : ByteArray) = S0 at h0 h1
                have HF := Lib.hid hF4
                clear hF0 hF1 hF2 hF3 hF4
                go_wp2_with fail
                have r6 := cell_regrown c6
                have r7 := cell_regrown c7
                have ct : ∀ dd os, Calls Tryd.prog 15 #[.int .i64 (t : Int)] (Go.Sort.grow (redrawn w2 dd) os) fun e w'' => e = .returned (.string ⟨Dt.toArray⟩) ∧ ∃ p : Regrown, w'' = Go.Sort.grow (redrawn w2 p.d) p.os := fun dd os => Calls.regrown_of (HDt.out _)
                have cb : ∀ dd os, Calls Tryd.prog 15 #[.int .i64 (b : Int)] (Go.Sort.grow (redrawn w2 dd) os) fun e w'' => e = .returned (.string ⟨Db.toArray⟩) ∧ ∃ p : Regrown, w'' = Go.Sort.grow (redrawn w2 p.d) p.os := fun dd os => Calls.regrown_of (HDb.out _)
                have hbw2 : IntKind.i64.wrap (b : Int) = (b : Int) := IntWalk.i64_in _ (by omega)
                refine wp_region_quiet_below (by kernel_rfl) (by kernel_rfl) ?_
                repeat (go_big_quiet_step ((first | with_reducible exact ct _ _ | with_reducible exact cb _ _)))
                refine wpQuiet_nil ?_
                intro _ hw'
                obtain ⟨⟨dq, osq⟩, hw''⟩ := hw'
                subst hw''
                have hb3 := below_regrown w2 dq osq
                clear r6 r7 ct cb
                go_wp2_with fail
                go_ret
                exact ⟨by rw [HO2.out, ← HF.out]; first | rfl | trace_state, bel_call hb3 HB.out HB.out.size⟩
              · have hn6 := hk
                clear hk
                by_cases hk : k = 7
                · subst hk
                  have HO2 : Hid (O = WW ++ [100, 105, 103, 101, 115, 116, 32] ++ Dt) := by unfold Hid; rw [← HO.out]; simp
                  clear HO
                  have h0 := add_run (WW) ([100, 105, 103, 101, 115, 116, 32]) (by first | (simp only [List.length_append, List.length_cons, List.length_nil]; omega) | omega | (simp; omega))
                  have h1 := add_run (WW ++ [100, 105, 103, 101, 115, 116, 32]) (Dt) (by first | (simp only [List.length_append, List.length_cons, List.length_nil]; omega) | omega | (simp; omega))
                  generalize hF1 : (⟨(WW ++ [100, 105, 103, 101, 115, 116, 32] ++ Dt).toArray⟩ : ByteArray) = S1 at h1
                  generalize hF0 : (⟨(WW ++ [100, 105, 103, 101, 115, 116, 32]).toArray⟩ : ByteArray) = S0 at h0 h1
                  have HF := Lib.hid hF1
                  clear hF0 hF1
                  go_wp2_with fail
                  refine (HDt.out _).mono ?_
                  rintro e w3 ⟨rfl, hb3⟩
                  go_wp2_with fail
                  go_ret
                  exact ⟨by rw [HO2.out, ← HF.out]; first | rfl | trace_state, bel_call hb3 HB.out HB.out.size⟩
                · have hn7 := hk
                  clear hk
                  by_cases hk : k = 8
                  · subst hk
                    have HO2 : Hid (O = WW ++ [97, 99, 107, 32] ++ Dt) := by unfold Hid; rw [← HO.out]; simp
                    clear HO
                    have h0 := add_run (WW) ([97, 99, 107, 32]) (by first | (simp only [List.length_append, List.length_cons, List.length_nil]; omega) | omega | (simp; omega))
                    have h1 := add_run (WW ++ [97, 99, 107, 32]) (Dt) (by first | (simp only [List.length_append, List.length_cons, List.length_nil]; omega) | omega | (simp; omega))
                    generalize hF1 : (⟨(WW ++ [97, 99, 107, 32] ++ Dt).toArray⟩ : ByteArray) = S1 at h1
                    generalize hF0 : (⟨(WW ++ [97, 99, 107, 32]).toArray⟩ : ByteArray) = S0 at h0 h1
                    have HF := Lib.hid hF1
                    clear hF0 hF1
                    go_wp2_with fail
                    refine (HDt.out _).mono ?_
                    rintro e w3 ⟨rfl, hb3⟩
                    go_wp2_with fail
                    go_ret
                    exact ⟨by rw [HO2.out, ← HF.out]; first | rfl | trace_state, bel_call hb3 HB.out HB.out.size⟩
                  · have hn8 := hk
                    clear hk
                    have HO2 : Hid (O = WW ++ wSweep) := by unfold Hid; rw [← HO.out, if_neg hn0, if_neg hn1, if_neg hn2, if_neg hn3, if_neg hn4, if_neg hn5, if_neg hn6, if_neg hn7, if_neg hn8]
                    have e0 : (k == 0) = false := by simp; omega
                    have e1 : (k == 1) = false := by simp; omega
                    have e2 : (k == 2) = false := by simp; omega
                    have e3 : (k == 3) = false := by simp; omega
                    have e4 : (k == 4) = false := by simp; omega
                    have e5 : (k == 5) = false := by simp; omega
                    have e6 : (k == 6) = false := by simp; omega
                    have e7 : (k == 7) = false := by simp; omega
                    have e8 : (k == 8) = false := by simp; omega
                    clear HO
                    have h0 := add_run (WW) (wSweep) (by first | (simp only [List.length_append, List.length_cons, List.length_nil]; omega) | omega | (simp; omega))
                    generalize hF0 : (⟨(WW ++ wSweep).toArray⟩ : ByteArray) = S0 at h0
                    have HF := Lib.hid hF0
                    clear hF0
                    go_wp2_with fail
                    go_ret
                    exact ⟨by rw [HO2.out, ← HF.out]; first | rfl | trace_state, HB.out⟩
end Go.Proofs.YtddoghjopihkpaaDoor
