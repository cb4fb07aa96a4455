/- Script: a line's Text. -/
import Derived.Test.YtddoghjopihkpaaDoorScrI
set_option linter.unusedSimpArgs false
set_option linter.unusedVariables false
namespace Go.Proofs.YtddoghjopihkpaaDoor
open Go.RowKit Go.Joins

def lnT (kk k : Int) (a : Nat) (C T : Bs) (o : Bool) (n t b : Nat) : Bs :=
  if kk = 2 then wPull else if kk = 3 then wSettle
  else if kk = 4 then wView ++ ([32] ++ dcL a)
  else if kk = 5 then wCell ++ ([32] ++ dcL a) ++ [32] ++ C
  else if kk = 6 then wTyped ++ ([32] ++ dcL a) ++ [32] ++ C
  else if kk = 7 then wKnown ++ ([32] ++ dcL a)
  else if kk = 8 then wCounts ++ ([32] ++ dcL a)
  else if kk = 9 then wNet
  else stT k a C T o n t b

set_option maxRecDepth 100000 in
set_option maxHeartbeats 16000000 in
theorem lineT_any (kk k : Int) (a : Nat) (C T : Bs) (o : Bool) (n t b : Nat) (ha : a ≤ 10000000) (hn : n ≤ 10000000) (ht : t ≤ 10000000) (hb : b ≤ 255) (hC : C.length ≤ 10000) (hT : T.length ≤ 10000) (w : World) :
    Calls Tryd.prog 10 #[.agg (lnC kk (stN k a C T o n t b))] w fun e w' => e = .returned (.string ⟨(lnT kk k a C T o n t b).toArray⟩) ∧ Below w.heap.size w w' := by
  have HDa := Lib.hid (fun W => decN_any a ha W)
  have HST := Lib.hid (fun W => stepT_any k a C T o n t b ha hn ht hb hC hT W)
  have hda := dcL_len a
  have hS : Hid (LnB (w.alloc (.cells (lnC kk (stN k a C T o n t b)) tLn)) w.heap.size kk (stN k a C T o n t b)) := heap_alloc_new w _
  have hbw : Below w.heap.size w (w.alloc (.cells (lnC kk (stN k a C T o n t b)) tLn)) := by (repeat' (first | (with_reducible exact Below.refl _ _) | (with_reducible assumption) | (with_reducible refine Below.alloc ?_ ?_ _) | (with_reducible refine bel_drewN ?_ _) | (with_reducible refine Below.drew ?_) | (with_reducible refine Below.setCell ?_ ?_ _) | (with_reducible refine bel_call ‹_› ?_ ?_) | go_size))
  have hz0 : (w.alloc (.cells (lnC kk (stN k a C T o n t b)) tLn)).heap.size = w.heap.size + 1 := by simp
  obtain ⟨O, hO⟩ : ∃ O, lnT kk k a C T o n t b = O := ⟨_, rfl⟩
  have HO := Lib.hid hO
  unfold lnT at HO
  rw [hO]
  clear hO
  have hNn := add_run [32] (dcL a) (by simp; omega)
  have hNl : ([32] ++ dcL a).length ≤ 20 := by simp; omega
  generalize stT k a C T o n t b = ST at HO HST
  generalize [32] ++ dcL a = NN at HO hNn hNl
  generalize dcL a = Da at HDa hNn hda
  go_enter Tryd.func10, Tryd.ntmps10
  go_upto_region 1 with fail
  generalize w.alloc (.cells (lnC kk (stN k a C T o n t b)) tLn) = w0 at hS hbw hz0 ⊢
  obtain ⟨c0, c1, c2, c3, c4, c5, c6, c7, c8⟩ := hS.out.cells
  have HS := Lib.hid hS.out
  simp only [stN] at c0 c1 c2 c3 c4 c5 c6 c7 c8
  go_upto_region 2 with (refine (HDa.out _).mono ?_; rintro e w1 ⟨rfl, hb1⟩; obtain ⟨hc1, hf1, hz1⟩ := bcell hb1 (by first | (simp only [World.size_alloc, World.size_setCell, World.size_drew]; rfl) | rfl))
  have HB : Hid (Below w.heap.size w w1) := bel_call hb1 hbw hbw.size
  have hS2 := Lib.hid (HS.out.below hb1)
  clear HDa hc1 hf1 hz1 hb1 hNn c0 c1 c2 c3 c4 c5 c6 c7 c8 HS hS
  obtain ⟨c0, c1, c2, c3, c4, c5, c6, c7, c8⟩ := hS2.out.cells
  simp only [stN] at c0 c1 c2 c3 c4 c5 c6 c7 c8
  by_cases hk : kk = 2
  · subst hk
    have HO2 : Hid (O = wPull) := by unfold Hid; rw [← HO.out]; simp
    clear HO HST
    go_wp2_with fail
    go_ret
    exact ⟨by rw [HO2.out]; rfl, HB.out⟩
  · have hn2 := hk
    clear hk
    by_cases hk : kk = 3
    · subst hk
      have HO2 : Hid (O = wSettle) := by unfold Hid; rw [← HO.out]; simp
      clear HO HST
      go_wp2_with fail
      go_ret
      exact ⟨by rw [HO2.out]; rfl, HB.out⟩
    · have hn3 := hk
      clear hk
      by_cases hk : kk = 4
      · subst hk
        have HO2 : Hid (O = wView ++ NN) := by unfold Hid; rw [← HO.out]; simp
        clear HO HST
        have h0 := add_run (wView) (NN) (by first | (simp only [List.length_append, List.length_cons, List.length_nil]; omega) | omega | (simp; omega))
        generalize hF0 : (⟨(wView ++ NN).toArray⟩ : ByteArray) = S0 at h0
        have HF := Lib.hid hF0
        clear hF0
        go_wp2_with fail
        go_ret
        exact ⟨by rw [HO2.out, ← HF.out]; first | rfl | trace_state, HB.out⟩
      · have hn4 := hk
        clear hk
        by_cases hk : kk = 5
        · subst hk
          have HO2 : Hid (O = wCell ++ NN ++ [32] ++ C) := by unfold Hid; rw [← HO.out]; simp
          clear HO HST
          have h0 := add_run (wCell) (NN) (by first | (simp only [List.length_append, List.length_cons, List.length_nil]; omega) | omega | (simp; omega))
          have h1 := add_run (wCell ++ NN) ([32]) (by first | (simp only [List.length_append, List.length_cons, List.length_nil]; omega) | omega | (simp; omega))
          have h2 := add_run (wCell ++ NN ++ [32]) (C) (by first | (simp only [List.length_append, List.length_cons, List.length_nil]; omega) | omega | (simp; omega))
          generalize hF2 : (⟨(wCell ++ NN ++ [32] ++ C).toArray⟩ : ByteArray) = S2 at h2
          generalize hF1 : (⟨(wCell ++ NN ++ [32]).toArray⟩ : ByteArray) = S1 at h1 h2
          generalize hF0 : (⟨(wCell ++ NN).toArray⟩ : ByteArray) = S0 at h0 h1
          have HF := Lib.hid hF2
          clear hF0 hF1 hF2
          go_wp2_with fail
          go_ret
          exact ⟨by rw [HO2.out, ← HF.out]; first | rfl | trace_state, HB.out⟩
        · have hn5 := hk
          clear hk
          by_cases hk : kk = 6
          · subst hk
            have HO2 : Hid (O = wTyped ++ NN ++ [32] ++ C) := by unfold Hid; rw [← HO.out]; simp
            clear HO HST
            have h0 := add_run (wTyped) (NN) (by first | (simp only [List.length_append, List.length_cons, List.length_nil]; omega) | omega | (simp; omega))
            have h1 := add_run (wTyped ++ NN) ([32]) (by first | (simp only [List.length_append, List.length_cons, List.length_nil]; omega) | omega | (simp; omega))
            have h2 := add_run (wTyped ++ NN ++ [32]) (C) (by first | (simp only [List.length_append, List.length_cons, List.length_nil]; omega) | omega | (simp; omega))
            generalize hF2 : (⟨(wTyped ++ NN ++ [32] ++ C).toArray⟩ : ByteArray) = S2 at h2
            generalize hF1 : (⟨(wTyped ++ NN ++ [32]).toArray⟩ : ByteArray) = S1 at h1 h2
            generalize hF0 : (⟨(wTyped ++ NN).toArray⟩ : ByteArray) = S0 at h0 h1
            have HF := Lib.hid hF2
            clear hF0 hF1 hF2
            go_wp2_with fail
            go_ret
            exact ⟨by rw [HO2.out, ← HF.out]; first | rfl | trace_state, HB.out⟩
          · have hn6 := hk
            clear hk
            by_cases hk : kk = 7
            · subst hk
              have HO2 : Hid (O = wKnown ++ NN) := by unfold Hid; rw [← HO.out]; simp
              clear HO HST
              have h0 := add_run (wKnown) (NN) (by first | (simp only [List.length_append, List.length_cons, List.length_nil]; omega) | omega | (simp; omega))
              generalize hF0 : (⟨(wKnown ++ NN).toArray⟩ : ByteArray) = S0 at h0
              have HF := Lib.hid hF0
              clear hF0
              go_wp2_with fail
              go_ret
              exact ⟨by rw [HO2.out, ← HF.out]; first | rfl | trace_state, HB.out⟩
            · have hn7 := hk
              clear hk
              by_cases hk : kk = 8
              · subst hk
                have HO2 : Hid (O = wCounts ++ NN) := by unfold Hid; rw [← HO.out]; simp
                clear HO HST
                have h0 := add_run (wCounts) (NN) (by first | (simp only [List.length_append, List.length_cons, List.length_nil]; omega) | omega | (simp; omega))
                generalize hF0 : (⟨(wCounts ++ NN).toArray⟩ : ByteArray) = S0 at h0
                have HF := Lib.hid hF0
                clear hF0
                go_wp2_with fail
                go_ret
                exact ⟨by rw [HO2.out, ← HF.out]; first | rfl | trace_state, HB.out⟩
              · have hn8 := hk
                clear hk
                by_cases hk : kk = 9
                · subst hk
                  have HO2 : Hid (O = wNet) := by unfold Hid; rw [← HO.out]; simp
                  clear HO HST
                  go_wp2_with fail
                  go_ret
                  exact ⟨by rw [HO2.out]; rfl, HB.out⟩
                · have hn9 := hk
                  clear hk
                  have HO2 : Hid (O = ST) := by unfold Hid; rw [← HO.out, if_neg hn2, if_neg hn3, if_neg hn4, if_neg hn5, if_neg hn6, if_neg hn7, if_neg hn8, if_neg hn9]
                  have e2 : (kk == 2) = false := by simp; omega
                  have e3 : (kk == 3) = false := by simp; omega
                  have e4 : (kk == 4) = false := by simp; omega
                  have e5 : (kk == 5) = false := by simp; omega
                  have e6 : (kk == 6) = false := by simp; omega
                  have e7 : (kk == 7) = false := by simp; omega
                  have e8 : (kk == 8) = false := by simp; omega
                  have e9 : (kk == 9) = false := by simp; omega
                  clear HO
                  go_wp2_with fail
                  refine (HST.out _).mono ?_
                  rintro e w3 ⟨rfl, hb3⟩
                  go_wp2_with fail
                  go_ret
                  exact ⟨by rw [HO2.out]; rfl, bel_call hb3 HB.out HB.out.size⟩
end Go.Proofs.YtddoghjopihkpaaDoor
