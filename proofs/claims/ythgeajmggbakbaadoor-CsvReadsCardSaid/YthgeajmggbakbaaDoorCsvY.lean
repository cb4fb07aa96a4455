/- CSV: the document's step. -/
import Derived.Test.YthgeajmggbakbaaDoorCsvX
import Derived.Laws.BytesArg
set_option linter.unusedSimpArgs false
set_option linter.unusedVariables false
namespace Go.Proofs.YthgeajmggbakbaaDoor
open Go.RowKit Go.Joins

/-- The step, by numbers. -/
def sN (x : St) (d : Nat) : Option St :=
  if x.pt = 4 then (if d = 10 then some (rEnd x true) else none)
  else if x.pt = 2 then (if d = 34 then some { x with pt := 3 } else some { x with cell := x.cell ++ [UInt8.ofNat d] })
  else if d = 44 then some (rEnd x false)
  else if d = 10 then some (rEnd x true)
  else if d = 13 then some { x with pt := 4 }
  else if d = 34 ∧ x.pt = 0 then some { x with pt := 2 }
  else if d = 34 ∧ x.pt = 3 then some { x with cell := x.cell ++ [34], pt := 2 }
  else if d = 34 ∨ x.pt = 3 then none
  else some { x with cell := x.cell ++ [UInt8.ofNat d], pt := 1 }
theorem of_eq (c : UInt8) (k : Nat) (hk : k < 256) : (c = UInt8.ofNat k) = (c.toNat = k) := by
  apply propext
  constructor
  · rintro rfl; simp; omega
  · intro h; rw [← h]; simp
theorem sN_is (x : St) (c : UInt8) : rStep x c = sN x c.toNat := by
  unfold rStep sN
  have e1 : (c = 10) = (c.toNat = 10) := of_eq c 10 (by omega)
  have e2 : (c = 34) = (c.toNat = 34) := of_eq c 34 (by omega)
  have e3 : (c = 44) = (c.toNat = 44) := of_eq c 44 (by omega)
  have e4 : (c = 13) = (c.toNat = 13) := of_eq c 13 (by omega)
  have e5 : UInt8.ofNat c.toNat = c := by simp
  simp only [e1, e2, e3, e4, e5]
theorem one_conv (c b : Nat) (W : World) (h : W.cell? ⟨b, 0, none⟩ = some (.int .u8 (c : Int))) : (convert 51 9 (.slice (some ⟨b, 0, none⟩) 1 1)).run Tryd.prog W = .ok (.string ⟨#[UInt8.ofNat c]⟩) W := by
  have hcv := run_convert_bytes_arg (P := Tryd.prog) W 51 5 Tryd.underlying51 Tryd.underlying5 b 0 1 1 [(c : Int)] rfl (fun i hi => by
    obtain rfl : i = 0 := by omega
    exact h) 9 Tryd.underlying9
  rw [show strOfNums [(c : Int)] = ⟨#[UInt8.ofNat c]⟩ from by unfold strOfNums; simp] at hcv
  exact hcv
/-- What a step leaves. -/
def StepR (o : Option St) (x : St) (b B K : Nat) (e : Ending) (w' : World) : Prop := match o with
  | none => e = .returned (.bool false) ∧ ∃ Br c rv Rv Ls, StM w' b Br B K x c rv Rv Ls
  | some y => e = .returned (.bool true) ∧ ∃ Br c rv Rv Ls, StM w' b Br B K y c rv Rv Ls
theorem StepR.no {o : Option St} {x : St} {b B K Br c : Nat} {rv Rv : Value} {Ls : List Rw} {w' : World} (ho : o = none) {K' : Nat} (hK : K' ≤ K) (h : StM w' b Br B K' x c rv Rv Ls) : StepR o x b B K (.returned (.bool false)) w' := by
  subst ho
  exact ⟨rfl, _, _, _, _, _, h.mono hK⟩
theorem StepR.yes {o : Option St} {x y : St} {b B K Br c : Nat} {rv Rv : Value} {Ls : List Rw} {w' : World} (ho : o = some y) {K' : Nat} (hK : K' ≤ K) (h : StM w' b Br B K' y c rv Rv Ls) : StepR o x b B K (.returned (.bool true)) w' := by
  subst ho
  exact ⟨rfl, _, _, _, _, _, h.mono hK⟩

set_option maxRecDepth 100000 in
set_option maxHeartbeats 16000000 in
theorem step_0 {w : World} {b Br B K c : Nat} {cell : Bs} {row : List Bs} {rows : List (List Bs)} {rv Rv : Value} {Ls : List Rw} (d : Nat) (hd : d < 256) (hK : K ≤ 20000) (h : StM w b Br B K ⟨0, cell, row, rows⟩ c rv Rv Ls) (hBb : B ≤ b) :
    Calls Tryd.prog 22 #[.pointer (some ⟨b, 0, none⟩), .int .u8 (d : Int)] w fun e w' => StepR (sN ⟨0, cell, row, rows⟩ d) ⟨0, cell, row, rows⟩ b B (K + 3) e w' ∧ Below B w w' := by
  have hk4 := h.k4
  have hk1 : cell.length ≤ K := h.k1
  have hcl : ¬ (65536 : Int) < (c : Int) := by omega
  have hcl1 : ¬ (65536 : Int) < (c : Int) + 1 := by omega
  have hS := Lib.hid ((h.mono (Nat.le_succ K)).set4 ((c : Int) + 1) (c + 1) (by omega) (by omega))
  have HB : Hid (Below B w (w.setCell ⟨b, 4, none⟩ (.int .i64 ((c : Int) + 1)))) := (Below.refl B w).setCell (p := ⟨b, 4, none⟩) hBb _
  obtain ⟨q0, q1, q2, q3, q4⟩ := h.cells
  obtain ⟨f0, f1, f2, f3, f4⟩ := h.fz
  have hlt := h.lt
  clear h
  by_cases hx : d = 44
  · subst hx
    have HO : Hid (sN ⟨0, cell, row, rows⟩ 44 = some (rEnd ⟨0, cell, row, rows⟩ false)) := by unfold Hid sN; simp []
    go_enter Tryd.func22, Tryd.ntmps22
    go_wp2_with fail
    refine (end_row (w := (w.setCell ⟨b, 4, none⟩ (.int .i64 ((c : Int) + 1)))) false (by omega) hS.out hBb).mono ?_
    rintro e w2 ⟨rfl, ⟨Br', rv', Rv', Ls', hS2⟩, hb2⟩
    have HS2 := Lib.hid hS2
    have HB2 : Hid (Below B w w2) := HB.out.trans hb2
    clear hS2 hb2
    go_wp2_with fail
    go_ret
    exact ⟨StepR.yes HO.out (by omega) HS2.out, HB2.out⟩
  · have x44 : ((d : Int) == 44) = false := by simp; omega
    have y44 := hx
    clear hx
    by_cases hx : d = 10
    · subst hx
      have HO : Hid (sN ⟨0, cell, row, rows⟩ 10 = some (rEnd ⟨0, cell, row, rows⟩ true)) := by unfold Hid sN; simp []
      go_enter Tryd.func22, Tryd.ntmps22
      go_wp2_with fail
      refine (end_row (w := (w.setCell ⟨b, 4, none⟩ (.int .i64 ((c : Int) + 1)))) true (by omega) hS.out hBb).mono ?_
      rintro e w2 ⟨rfl, ⟨Br', rv', Rv', Ls', hS2⟩, hb2⟩
      have HS2 := Lib.hid hS2
      have HB2 : Hid (Below B w w2) := HB.out.trans hb2
      clear hS2 hb2
      go_wp2_with fail
      go_ret
      exact ⟨StepR.yes HO.out (by omega) HS2.out, HB2.out⟩
    · have x10 : ((d : Int) == 10) = false := by simp; omega
      have y10 := hx
      clear hx
      by_cases hx : d = 13
      · subst hx
        have HO : Hid (sN ⟨0, cell, row, rows⟩ 13 = some ⟨4, cell, row, rows⟩) := by unfold Hid sN; simp []
        go_enter Tryd.func22, Tryd.ntmps22
        go_wp2_with fail
        go_ret
        exact ⟨StepR.yes HO.out (by omega) (hS.out.set0 4 4 rfl), HB.out.setCell (p := ⟨b, 0, none⟩) hBb _⟩
      · have x13 : ((d : Int) == 13) = false := by simp; omega
        have y13 := hx
        clear hx
        by_cases hx : d = 34
        · subst hx
          have HO : Hid (sN ⟨0, cell, row, rows⟩ 34 = some ⟨2, cell, row, rows⟩) := by unfold Hid sN; simp []
          go_enter Tryd.func22, Tryd.ntmps22
          go_wp2_with fail
          go_ret
          exact ⟨StepR.yes HO.out (by omega) (hS.out.set0 2 2 rfl), HB.out.setCell (p := ⟨b, 0, none⟩) hBb _⟩
        · have x34 : ((d : Int) == 34) = false := by simp; omega
          have y34 := hx
          clear hx
          have HO : Hid (sN ⟨0, cell, row, rows⟩ d = some ⟨1, cell ++ [UInt8.ofNat d], row, rows⟩) := by unfold Hid sN; simp [y44, y10, y13, y34]
          go_enter Tryd.func22, Tryd.ntmps22
          go_wp2_with fail
          clear q0 q1 q2 q3 q4 f0 f1 f2 f3 f4
          have hS1 := hS.out
          have hB1 := HB.out
          generalize (w.setCell ⟨b, 4, none⟩ (.int .i64 ((c : Int) + 1))) = wx at hS1 hB1 ⊢
          obtain ⟨q0, q1, q2, q3, q4⟩ := hS1.cells
          obtain ⟨f0, f1, f2, f3, f4⟩ := hS1.fz
          have hltx := hS1.lt
          have hcat : (⟨cell.toArray⟩ : ByteArray) ++ ⟨#[UInt8.ofNat d]⟩ = ⟨(cell ++ [UInt8.ofNat d]).toArray⟩ := cat_l cell [UInt8.ofNat d]
          have hz1 : (⟨cell.toArray⟩ : ByteArray).size ≤ 20000 := by rw [size_l]; omega
          have hz2 : (⟨#[UInt8.ofNat d]⟩ : ByteArray).size = 1 := rfl
          have hcv := fun (W : World) (bb : Nat) h => one_conv d bb W h
          obtain ⟨E, hE⟩ : ∃ E : ByteArray, (⟨(cell ++ [UInt8.ofNat d]).toArray⟩ : ByteArray) = E := ⟨_, rfl⟩
          have HE := Lib.hid hE
          rw [hE] at hcat
          have hBx : B ≤ wx.heap.size := by omega
          have FIN : Hid (∀ W, Below ((wx.setCell ⟨b, 1, none⟩ (.string E)).setCell ⟨b, 0, none⟩ (.int .i64 1)).heap.size ((wx.setCell ⟨b, 1, none⟩ (.string E)).setCell ⟨b, 0, none⟩ (.int .i64 1)) W → StM W b Br B (K + 1) ⟨1, cell ++ [UInt8.ofNat d], row, rows⟩ _ rv Rv Ls ∧ Below B w W) := fun W hW => ⟨((hS1.set1 E (cell ++ [UInt8.ofNat d]) HE.out.symm (by rw [List.length_append, List.length_singleton]; omega)).set0 1 1 rfl).below hW, ((hB1.setCell (p := ⟨b, 1, none⟩) hBb _).setCell (p := ⟨b, 0, none⟩) hBb _).trans (hW.mono (by simp only [World.size_setCell]; exact hBx))⟩
          simp only at q1
          generalize (⟨cell.toArray⟩ : ByteArray) = C at hcat hz1 q1
          have hop : ∀ W, (Op.stringOp .add C ⟨#[UInt8.ofNat d]⟩).run Tryd.prog W = .ok (.string E) W := fun W => by
            rw [← hcat]
            exact run_string_add_sum W C _ (by omega)
          clear hS1 hB1 hE hcat
          go_region
          all_goals
            go_wp2_with fail
            go_ret
            exact ⟨StepR.yes HO.out (by omega) (FIN.out _ (by (repeat' (first | (with_reducible exact Below.refl _ _) | (with_reducible assumption) | (with_reducible refine Below.alloc ?_ ?_ _) | (with_reducible refine bel_drewN ?_ _) | (with_reducible refine Below.drew ?_) | (with_reducible refine Below.setCell ?_ ?_ _) | (with_reducible refine bel_call ‹_› ?_ ?_) | go_size)))).1, (FIN.out _ (by (repeat' (first | (with_reducible exact Below.refl _ _) | (with_reducible assumption) | (with_reducible refine Below.alloc ?_ ?_ _) | (with_reducible refine bel_drewN ?_ _) | (with_reducible refine Below.drew ?_) | (with_reducible refine Below.setCell ?_ ?_ _) | (with_reducible refine bel_call ‹_› ?_ ?_) | go_size)))).2⟩

set_option maxRecDepth 100000 in
set_option maxHeartbeats 16000000 in
theorem step_4 {w : World} {b Br B K c : Nat} {cell : Bs} {row : List Bs} {rows : List (List Bs)} {rv Rv : Value} {Ls : List Rw} (d : Nat) (hd : d < 256) (hK : K ≤ 20000) (h : StM w b Br B K ⟨4, cell, row, rows⟩ c rv Rv Ls) (hBb : B ≤ b) :
    Calls Tryd.prog 22 #[.pointer (some ⟨b, 0, none⟩), .int .u8 (d : Int)] w fun e w' => StepR (sN ⟨4, cell, row, rows⟩ d) ⟨4, cell, row, rows⟩ b B (K + 3) e w' ∧ Below B w w' := by
  have hk4 := h.k4
  have hk1 : cell.length ≤ K := h.k1
  have hcl : ¬ (65536 : Int) < (c : Int) := by omega
  have hcl1 : ¬ (65536 : Int) < (c : Int) + 1 := by omega
  have hS := Lib.hid (h.mono (Nat.le_succ K))
  have HB : Hid (Below B w w) := Below.refl B w
  obtain ⟨q0, q1, q2, q3, q4⟩ := h.cells
  obtain ⟨f0, f1, f2, f3, f4⟩ := h.fz
  have hlt := h.lt
  clear h
  by_cases hx : d = 10
  · subst hx
    have HO : Hid (sN ⟨4, cell, row, rows⟩ 10 = some (rEnd ⟨4, cell, row, rows⟩ true)) := by unfold Hid sN; simp []
    go_enter Tryd.func22, Tryd.ntmps22
    go_wp2_with fail
    refine (end_row (w := w) true (by omega) hS.out hBb).mono ?_
    rintro e w2 ⟨rfl, ⟨Br', rv', Rv', Ls', hS2⟩, hb2⟩
    have HS2 := Lib.hid hS2
    have HB2 : Hid (Below B w w2) := HB.out.trans hb2
    clear hS2 hb2
    go_wp2_with fail
    go_ret
    exact ⟨StepR.yes HO.out (by omega) HS2.out, HB2.out⟩
  · have x10 : ((d : Int) == 10) = false := by simp; omega
    have y10 := hx
    clear hx
    have HO : Hid (sN ⟨4, cell, row, rows⟩ d = none) := by unfold Hid sN; simp [y10]
    go_enter Tryd.func22, Tryd.ntmps22
    go_wp2_with fail
    go_ret
    exact ⟨StepR.no HO.out (by omega) hS.out, HB.out⟩

set_option maxRecDepth 100000 in
set_option maxHeartbeats 16000000 in
theorem step_2 {w : World} {b Br B K c : Nat} {cell : Bs} {row : List Bs} {rows : List (List Bs)} {rv Rv : Value} {Ls : List Rw} (d : Nat) (hd : d < 256) (hK : K ≤ 20000) (h : StM w b Br B K ⟨2, cell, row, rows⟩ c rv Rv Ls) (hBb : B ≤ b) :
    Calls Tryd.prog 22 #[.pointer (some ⟨b, 0, none⟩), .int .u8 (d : Int)] w fun e w' => StepR (sN ⟨2, cell, row, rows⟩ d) ⟨2, cell, row, rows⟩ b B (K + 3) e w' ∧ Below B w w' := by
  have hk4 := h.k4
  have hk1 : cell.length ≤ K := h.k1
  have hcl : ¬ (65536 : Int) < (c : Int) := by omega
  have hcl1 : ¬ (65536 : Int) < (c : Int) + 1 := by omega
  have hS := Lib.hid (h.mono (Nat.le_succ K))
  have HB : Hid (Below B w w) := Below.refl B w
  obtain ⟨q0, q1, q2, q3, q4⟩ := h.cells
  obtain ⟨f0, f1, f2, f3, f4⟩ := h.fz
  have hlt := h.lt
  clear h
  by_cases hx : d = 34
  · subst hx
    have HO : Hid (sN ⟨2, cell, row, rows⟩ 34 = some ⟨3, cell, row, rows⟩) := by unfold Hid sN; simp []
    go_enter Tryd.func22, Tryd.ntmps22
    go_wp2_with fail
    go_ret
    exact ⟨StepR.yes HO.out (by omega) (hS.out.set0 3 3 rfl), HB.out.setCell (p := ⟨b, 0, none⟩) hBb _⟩
  · have x34 : ((d : Int) == 34) = false := by simp; omega
    have y34 := hx
    clear hx
    have HO : Hid (sN ⟨2, cell, row, rows⟩ d = some ⟨2, cell ++ [UInt8.ofNat d], row, rows⟩) := by unfold Hid sN; simp [y34]
    go_enter Tryd.func22, Tryd.ntmps22
    go_wp2_with fail
    clear q0 q1 q2 q3 q4 f0 f1 f2 f3 f4
    have hS1 := hS.out
    have hB1 := HB.out

    obtain ⟨q0, q1, q2, q3, q4⟩ := hS1.cells
    obtain ⟨f0, f1, f2, f3, f4⟩ := hS1.fz
    have hltx := hS1.lt
    have hcat : (⟨cell.toArray⟩ : ByteArray) ++ ⟨#[UInt8.ofNat d]⟩ = ⟨(cell ++ [UInt8.ofNat d]).toArray⟩ := cat_l cell [UInt8.ofNat d]
    have hz1 : (⟨cell.toArray⟩ : ByteArray).size ≤ 20000 := by rw [size_l]; omega
    have hz2 : (⟨#[UInt8.ofNat d]⟩ : ByteArray).size = 1 := rfl
    have hcv := fun (W : World) (bb : Nat) h => one_conv d bb W h
    obtain ⟨E, hE⟩ : ∃ E : ByteArray, (⟨(cell ++ [UInt8.ofNat d]).toArray⟩ : ByteArray) = E := ⟨_, rfl⟩
    have HE := Lib.hid hE
    rw [hE] at hcat
    have hBx : B ≤ w.heap.size := by omega
    have FIN : Hid (∀ W, Below (w.setCell ⟨b, 1, none⟩ (.string E)).heap.size (w.setCell ⟨b, 1, none⟩ (.string E)) W → StM W b Br B (K + 1) ⟨2, cell ++ [UInt8.ofNat d], row, rows⟩ _ rv Rv Ls ∧ Below B w W) := fun W hW => ⟨(hS1.set1 E (cell ++ [UInt8.ofNat d]) HE.out.symm (by rw [List.length_append, List.length_singleton]; omega)).below hW, (hB1.setCell (p := ⟨b, 1, none⟩) hBb _).trans (hW.mono (by simp only [World.size_setCell]; exact hBx))⟩
    simp only at q1
    generalize (⟨cell.toArray⟩ : ByteArray) = C at hcat hz1 q1
    have hop : ∀ W, (Op.stringOp .add C ⟨#[UInt8.ofNat d]⟩).run Tryd.prog W = .ok (.string E) W := fun W => by
      rw [← hcat]
      exact run_string_add_sum W C _ (by omega)
    clear hS1 hB1 hE hcat
    go_region
    all_goals
      go_wp2_with fail
      go_ret
      exact ⟨StepR.yes HO.out (by omega) (FIN.out _ (by (repeat' (first | (with_reducible exact Below.refl _ _) | (with_reducible assumption) | (with_reducible refine Below.alloc ?_ ?_ _) | (with_reducible refine bel_drewN ?_ _) | (with_reducible refine Below.drew ?_) | (with_reducible refine Below.setCell ?_ ?_ _) | (with_reducible refine bel_call ‹_› ?_ ?_) | go_size)))).1, (FIN.out _ (by (repeat' (first | (with_reducible exact Below.refl _ _) | (with_reducible assumption) | (with_reducible refine Below.alloc ?_ ?_ _) | (with_reducible refine bel_drewN ?_ _) | (with_reducible refine Below.drew ?_) | (with_reducible refine Below.setCell ?_ ?_ _) | (with_reducible refine bel_call ‹_› ?_ ?_) | go_size)))).2⟩

set_option maxRecDepth 100000 in
set_option maxHeartbeats 16000000 in
theorem step_3 {w : World} {b Br B K c : Nat} {cell : Bs} {row : List Bs} {rows : List (List Bs)} {rv Rv : Value} {Ls : List Rw} (d : Nat) (hd : d < 256) (hK : K ≤ 20000) (h : StM w b Br B K ⟨3, cell, row, rows⟩ c rv Rv Ls) (hBb : B ≤ b) :
    Calls Tryd.prog 22 #[.pointer (some ⟨b, 0, none⟩), .int .u8 (d : Int)] w fun e w' => StepR (sN ⟨3, cell, row, rows⟩ d) ⟨3, cell, row, rows⟩ b B (K + 3) e w' ∧ Below B w w' := by
  have hk4 := h.k4
  have hk1 : cell.length ≤ K := h.k1
  have hcl : ¬ (65536 : Int) < (c : Int) := by omega
  have hcl1 : ¬ (65536 : Int) < (c : Int) + 1 := by omega
  have hS := Lib.hid (h.mono (Nat.le_succ K))
  have HB : Hid (Below B w w) := Below.refl B w
  obtain ⟨q0, q1, q2, q3, q4⟩ := h.cells
  obtain ⟨f0, f1, f2, f3, f4⟩ := h.fz
  have hlt := h.lt
  clear h
  by_cases hx : d = 44
  · subst hx
    have HO : Hid (sN ⟨3, cell, row, rows⟩ 44 = some (rEnd ⟨3, cell, row, rows⟩ false)) := by unfold Hid sN; simp []
    go_enter Tryd.func22, Tryd.ntmps22
    go_wp2_with fail
    refine (end_row (w := w) false (by omega) hS.out hBb).mono ?_
    rintro e w2 ⟨rfl, ⟨Br', rv', Rv', Ls', hS2⟩, hb2⟩
    have HS2 := Lib.hid hS2
    have HB2 : Hid (Below B w w2) := HB.out.trans hb2
    clear hS2 hb2
    go_wp2_with fail
    go_ret
    exact ⟨StepR.yes HO.out (by omega) HS2.out, HB2.out⟩
  · have x44 : ((d : Int) == 44) = false := by simp; omega
    have y44 := hx
    clear hx
    by_cases hx : d = 10
    · subst hx
      have HO : Hid (sN ⟨3, cell, row, rows⟩ 10 = some (rEnd ⟨3, cell, row, rows⟩ true)) := by unfold Hid sN; simp []
      go_enter Tryd.func22, Tryd.ntmps22
      go_wp2_with fail
      refine (end_row (w := w) true (by omega) hS.out hBb).mono ?_
      rintro e w2 ⟨rfl, ⟨Br', rv', Rv', Ls', hS2⟩, hb2⟩
      have HS2 := Lib.hid hS2
      have HB2 : Hid (Below B w w2) := HB.out.trans hb2
      clear hS2 hb2
      go_wp2_with fail
      go_ret
      exact ⟨StepR.yes HO.out (by omega) HS2.out, HB2.out⟩
    · have x10 : ((d : Int) == 10) = false := by simp; omega
      have y10 := hx
      clear hx
      by_cases hx : d = 13
      · subst hx
        have HO : Hid (sN ⟨3, cell, row, rows⟩ 13 = some ⟨4, cell, row, rows⟩) := by unfold Hid sN; simp []
        go_enter Tryd.func22, Tryd.ntmps22
        go_wp2_with fail
        go_ret
        exact ⟨StepR.yes HO.out (by omega) (hS.out.set0 4 4 rfl), HB.out.setCell (p := ⟨b, 0, none⟩) hBb _⟩
      · have x13 : ((d : Int) == 13) = false := by simp; omega
        have y13 := hx
        clear hx
        by_cases hx : d = 34
        · subst hx
          have HO : Hid (sN ⟨3, cell, row, rows⟩ 34 = some ⟨2, cell ++ [34], row, rows⟩) := by unfold Hid sN; simp
          have hcat : (⟨cell.toArray⟩ : ByteArray) ++ ⟨#[34]⟩ = ⟨(cell ++ [34]).toArray⟩ := cat_l cell [34]
          have hz1 : (⟨cell.toArray⟩ : ByteArray).size ≤ 20000 := by rw [size_l]; omega
          have HS1 : Hid (StM ((w.setCell ⟨b, 1, none⟩ (.string ⟨(cell ++ [34]).toArray⟩)).setCell ⟨b, 0, none⟩ (.int .i64 2)) b Br B (K + 1) ⟨2, cell ++ [34], row, rows⟩ c rv Rv Ls) := (hS.out.set1 _ (cell ++ [34]) rfl (by rw [List.length_append, List.length_singleton]; omega)).set0 2 2 rfl
          generalize (⟨(cell ++ [34]).toArray⟩ : ByteArray) = E at hcat HS1
          generalize (⟨cell.toArray⟩ : ByteArray) = C at hcat hz1 q1
          have hop : ∀ W, (Op.stringOp .add C ⟨#[34]⟩).run Tryd.prog W = .ok (.string E) W := fun W => by
            rw [← hcat]
            exact run_string_add_sum W C _ (by have hz : (⟨#[34]⟩ : ByteArray).size = 1 := rfl; omega)
          go_enter Tryd.func22, Tryd.ntmps22
          go_wp2_with fail
          go_ret
          exact ⟨StepR.yes HO.out (by omega) HS1.out, (HB.out.setCell (p := ⟨b, 1, none⟩) hBb _).setCell (p := ⟨b, 0, none⟩) hBb _⟩
        · have x34 : ((d : Int) == 34) = false := by simp; omega
          have y34 := hx
          clear hx
          have HO : Hid (sN ⟨3, cell, row, rows⟩ d = none) := by unfold Hid sN; simp [y44, y10, y13, y34]
          go_enter Tryd.func22, Tryd.ntmps22
          go_wp2_with fail
          go_ret
          exact ⟨StepR.no HO.out (by omega) hS.out, HB.out⟩

set_option maxRecDepth 100000 in
set_option maxHeartbeats 16000000 in
theorem step_1 {w : World} {b Br B K c : Nat} {cell : Bs} {row : List Bs} {rows : List (List Bs)} {rv Rv : Value} {Ls : List Rw} (d : Nat) (hd : d < 256) (hK : K ≤ 20000) (pt : Nat) (h0 : pt ≠ 0) (h2 : pt ≠ 2) (h3 : pt ≠ 3) (h4 : pt ≠ 4) (h : StM w b Br B K ⟨pt, cell, row, rows⟩ c rv Rv Ls) (hBb : B ≤ b) :
    Calls Tryd.prog 22 #[.pointer (some ⟨b, 0, none⟩), .int .u8 (d : Int)] w fun e w' => StepR (sN ⟨pt, cell, row, rows⟩ d) ⟨pt, cell, row, rows⟩ b B (K + 3) e w' ∧ Below B w w' := by
  have hk4 := h.k4
  have hk1 : cell.length ≤ K := h.k1
  have hcl : ¬ (65536 : Int) < (c : Int) := by omega
  have hcl1 : ¬ (65536 : Int) < (c : Int) + 1 := by omega
  have n0 : ((pt : Int) == 0) = false := by simp; omega
  have n2 : ((pt : Int) == 2) = false := by simp; omega
  have n3 : ((pt : Int) == 3) = false := by simp; omega
  have n4 : ((pt : Int) == 4) = false := by simp; omega
  have hS := Lib.hid (h.mono (Nat.le_succ K))
  have HB : Hid (Below B w w) := Below.refl B w
  obtain ⟨q0, q1, q2, q3, q4⟩ := h.cells
  obtain ⟨f0, f1, f2, f3, f4⟩ := h.fz
  have hlt := h.lt
  clear h
  by_cases hx : d = 44
  · subst hx
    have HO : Hid (sN ⟨pt, cell, row, rows⟩ 44 = some (rEnd ⟨pt, cell, row, rows⟩ false)) := by unfold Hid sN; simp [h0, h2, h3, h4]
    go_enter Tryd.func22, Tryd.ntmps22
    go_wp2_with fail
    refine (end_row (w := w) false (by omega) hS.out hBb).mono ?_
    rintro e w2 ⟨rfl, ⟨Br', rv', Rv', Ls', hS2⟩, hb2⟩
    have HS2 := Lib.hid hS2
    have HB2 : Hid (Below B w w2) := HB.out.trans hb2
    clear hS2 hb2
    go_wp2_with fail
    go_ret
    exact ⟨StepR.yes HO.out (by omega) HS2.out, HB2.out⟩
  · have x44 : ((d : Int) == 44) = false := by simp; omega
    have y44 := hx
    clear hx
    by_cases hx : d = 10
    · subst hx
      have HO : Hid (sN ⟨pt, cell, row, rows⟩ 10 = some (rEnd ⟨pt, cell, row, rows⟩ true)) := by unfold Hid sN; simp [h0, h2, h3, h4]
      go_enter Tryd.func22, Tryd.ntmps22
      go_wp2_with fail
      refine (end_row (w := w) true (by omega) hS.out hBb).mono ?_
      rintro e w2 ⟨rfl, ⟨Br', rv', Rv', Ls', hS2⟩, hb2⟩
      have HS2 := Lib.hid hS2
      have HB2 : Hid (Below B w w2) := HB.out.trans hb2
      clear hS2 hb2
      go_wp2_with fail
      go_ret
      exact ⟨StepR.yes HO.out (by omega) HS2.out, HB2.out⟩
    · have x10 : ((d : Int) == 10) = false := by simp; omega
      have y10 := hx
      clear hx
      by_cases hx : d = 13
      · subst hx
        have HO : Hid (sN ⟨pt, cell, row, rows⟩ 13 = some ⟨4, cell, row, rows⟩) := by unfold Hid sN; simp [h0, h2, h3, h4]
        go_enter Tryd.func22, Tryd.ntmps22
        go_wp2_with fail
        go_ret
        exact ⟨StepR.yes HO.out (by omega) (hS.out.set0 4 4 rfl), HB.out.setCell (p := ⟨b, 0, none⟩) hBb _⟩
      · have x13 : ((d : Int) == 13) = false := by simp; omega
        have y13 := hx
        clear hx
        by_cases hx : d = 34
        · subst hx
          have HO : Hid (sN ⟨pt, cell, row, rows⟩ 34 = none) := by unfold Hid sN; simp [h0, h2, h3, h4]
          go_enter Tryd.func22, Tryd.ntmps22
          go_wp2_with fail
          go_ret
          exact ⟨StepR.no HO.out (by omega) hS.out, HB.out⟩
        · have x34 : ((d : Int) == 34) = false := by simp; omega
          have y34 := hx
          clear hx
          have HO : Hid (sN ⟨pt, cell, row, rows⟩ d = some ⟨1, cell ++ [UInt8.ofNat d], row, rows⟩) := by unfold Hid sN; simp [h0, h2, h3, h4, y44, y10, y13, y34]
          go_enter Tryd.func22, Tryd.ntmps22
          go_wp2_with fail
          clear q0 q1 q2 q3 q4 f0 f1 f2 f3 f4
          have hS1 := hS.out
          have hB1 := HB.out

          obtain ⟨q0, q1, q2, q3, q4⟩ := hS1.cells
          obtain ⟨f0, f1, f2, f3, f4⟩ := hS1.fz
          have hltx := hS1.lt
          have hcat : (⟨cell.toArray⟩ : ByteArray) ++ ⟨#[UInt8.ofNat d]⟩ = ⟨(cell ++ [UInt8.ofNat d]).toArray⟩ := cat_l cell [UInt8.ofNat d]
          have hz1 : (⟨cell.toArray⟩ : ByteArray).size ≤ 20000 := by rw [size_l]; omega
          have hz2 : (⟨#[UInt8.ofNat d]⟩ : ByteArray).size = 1 := rfl
          have hcv := fun (W : World) (bb : Nat) h => one_conv d bb W h
          obtain ⟨E, hE⟩ : ∃ E : ByteArray, (⟨(cell ++ [UInt8.ofNat d]).toArray⟩ : ByteArray) = E := ⟨_, rfl⟩
          have HE := Lib.hid hE
          rw [hE] at hcat
          have hBx : B ≤ w.heap.size := by omega
          have FIN : Hid (∀ W, Below ((w.setCell ⟨b, 1, none⟩ (.string E)).setCell ⟨b, 0, none⟩ (.int .i64 1)).heap.size ((w.setCell ⟨b, 1, none⟩ (.string E)).setCell ⟨b, 0, none⟩ (.int .i64 1)) W → StM W b Br B (K + 1) ⟨1, cell ++ [UInt8.ofNat d], row, rows⟩ _ rv Rv Ls ∧ Below B w W) := fun W hW => ⟨((hS1.set1 E (cell ++ [UInt8.ofNat d]) HE.out.symm (by rw [List.length_append, List.length_singleton]; omega)).set0 1 1 rfl).below hW, ((hB1.setCell (p := ⟨b, 1, none⟩) hBb _).setCell (p := ⟨b, 0, none⟩) hBb _).trans (hW.mono (by simp only [World.size_setCell]; exact hBx))⟩
          simp only at q1
          generalize (⟨cell.toArray⟩ : ByteArray) = C at hcat hz1 q1
          have hop : ∀ W, (Op.stringOp .add C ⟨#[UInt8.ofNat d]⟩).run Tryd.prog W = .ok (.string E) W := fun W => by
            rw [← hcat]
            exact run_string_add_sum W C _ (by omega)
          clear hS1 hB1 hE hcat
          go_region
          all_goals
            go_wp2_with fail
            go_ret
            exact ⟨StepR.yes HO.out (by omega) (FIN.out _ (by (repeat' (first | (with_reducible exact Below.refl _ _) | (with_reducible assumption) | (with_reducible refine Below.alloc ?_ ?_ _) | (with_reducible refine bel_drewN ?_ _) | (with_reducible refine Below.drew ?_) | (with_reducible refine Below.setCell ?_ ?_ _) | (with_reducible refine bel_call ‹_› ?_ ?_) | go_size)))).1, (FIN.out _ (by (repeat' (first | (with_reducible exact Below.refl _ _) | (with_reducible assumption) | (with_reducible refine Below.alloc ?_ ?_ _) | (with_reducible refine bel_drewN ?_ _) | (with_reducible refine Below.drew ?_) | (with_reducible refine Below.setCell ?_ ?_ _) | (with_reducible refine bel_call ‹_› ?_ ?_) | go_size)))).2⟩
end Go.Proofs.YthgeajmggbakbaaDoor
