/- Numfmt: a pattern's signs ahead of the point and behind it. Printed by gen_numb.py. -/
import Derived.Test.YteknbdodihfbeaaDoorNumA
import Derived.Lib.QuietBelow
set_option linter.unusedSimpArgs false
set_option linter.unusedVariables false
namespace Go.Proofs.YteknbdodihfbeaaDoor
open Go.RowKit Go.Joins

/-- Block b alone, and new ones, may change. -/
structure Off (b : Nat) (w w' : World) : Prop where
  os : w'.os = w.os
  tape : w'.tape = w.tape
  output : w'.output = w.output
  size : w.heap.size ≤ w'.heap.size
  block : ∀ k, k < w.heap.size → k ≠ b → w'.heap[k]? = w.heap[k]?
theorem Off.refl (b : Nat) (w : World) : Off b w w := ⟨rfl, rfl, rfl, Nat.le_refl _, fun _ _ _ => rfl⟩
theorem Off.trans {b : Nat} {w w1 w2 : World} (h : Off b w w1) (h' : Off b w1 w2) : Off b w w2 :=
  ⟨h'.os.trans h.os, h'.tape.trans h.tape, h'.output.trans h.output, Nat.le_trans h.size h'.size, fun k hk hn => (h'.block k (Nat.lt_of_lt_of_le hk h.size) hn).trans (h.block k hk hn)⟩
theorem Off.of_below {b : Nat} {w w' : World} (h : Below w.heap.size w w') : Off b w w' := ⟨h.os, h.tape, h.output, h.size, fun k hk _ => h.block k hk⟩
theorem Off.call {b : Nat} {w w1 w2 : World} (h : Off b w w1) (h' : Below w1.heap.size w1 w2) : Off b w w2 := h.trans (Off.of_below h')
theorem Off.set {b : Nat} {w w' : World} (h : Off b w w') (j : Nat) (u : Value) : Off b w (w'.setCell ⟨b, j, none⟩ u) :=
  h.trans ⟨rfl, rfl, rfl, by simp [World.setCell], fun k _ hn => Below.heap_setCell w' _ u k (fun e => hn e)⟩
theorem Off.below {b : Nat} {w w' : World} (h : Off b w w') {B : Nat} (hb : B ≤ b) (hB : B ≤ w.heap.size) : Below B w w' :=
  ⟨h.os, h.tape, h.output, h.size, fun k hk => h.block k (by omega) (by omega)⟩
theorem lt_some {w : World} {b : Nat} {o : Obj} (h : w.heap[b]? = some o) : b < w.heap.size := by
  rcases Nat.lt_or_ge b w.heap.size with h' | h'
  · exact h'
  · rw [Array.getElem?_eq_none h'] at h; cases h
abbrev tFm : TypeId := 24
/-- A pattern that is read. -/
structure Fm where
  hd : Bs
  tl : Bs
  n : Nat
  p : Nat
  o : Nat
  cm : Bool
  pc : Bool
def fmC (f : Fm) : Array Value := #[.string ⟨f.hd.toArray⟩, .string ⟨f.tl.toArray⟩, .int .i64 (f.n : Nat), .int .i64 (f.p : Nat), .int .i64 (f.o : Nat), .bool f.cm, .bool f.pc]
def FmB (w : World) (b : Nat) (f : Fm) : Prop := w.heap[b]? = some (.cells (fmC f) tFm (0, 0))
theorem FmB.cell {w : World} {b : Nat} {f : Fm} (h : FmB w b f) (j : Nat) (u : Value) (hj : (fmC f)[j]? = some u) : w.cell? ⟨b, j, none⟩ = some u := by rw [cell_of_block h]; exact hj
theorem FmB.fz {w : World} {b : Nat} {f : Fm} (h : FmB w b f) (j : Nat) : w.frozen? ⟨b, j, none⟩ = false := unfrozen_of_block h j
theorem FmB.below {w w' : World} {b : Nat} {f : Fm} (h : FmB w b f) (hb : Below w.heap.size w w') : FmB w' b f := (hb.block b (lt_some h)).trans h
theorem FmB.setn {w : World} {b : Nat} {f : Fm} (h : FmB w b f) (k : Nat) (z : Int) (e : z = (k : Int)) : FmB (w.setCell ⟨b, 2, none⟩ (.int .i64 z)) b { f with n := k } := by subst e; exact block_setCell h _
theorem FmB.setp {w : World} {b : Nat} {f : Fm} (h : FmB w b f) (k : Nat) (z : Int) (e : z = (k : Int)) : FmB (w.setCell ⟨b, 3, none⟩ (.int .i64 z)) b { f with p := k } := by subst e; exact block_setCell h _
theorem FmB.seto {w : World} {b : Nat} {f : Fm} (h : FmB w b f) (k : Nat) (z : Int) (e : z = (k : Int)) : FmB (w.setCell ⟨b, 4, none⟩ (.int .i64 z)) b { f with o := k } := by subst e; exact block_setCell h _
theorem FmB.setc {w : World} {b : Nat} {f : Fm} (h : FmB w b f) : FmB (w.setCell ⟨b, 5, none⟩ (.bool true)) b { f with cm := true } := block_setCell h _
theorem FmB.setpc {w : World} {b : Nat} {f : Fm} (h : FmB w b f) (x : Bool) : FmB (w.setCell ⟨b, 6, none⟩ (.bool x)) b { f with pc := x } := block_setCell h _
theorem Off.cell {b : Nat} {w w' : World} (h : Off b w w') {k o : Nat} {u : Value} (hk : k ≠ b) (hc : w.cell? ⟨k, o, none⟩ = some u) : w'.cell? ⟨k, o, none⟩ = some u := by
  have hlt : k < w.heap.size := by
    rcases Nat.lt_or_ge k w.heap.size with h' | h'
    · exact h'
    · simp [World.cell?, Array.getElem?_eq_none h'] at hc
  rw [← hc]
  unfold World.cell?
  rw [h.block k hlt hk]
theorem isEmpty_no {L : Bs} (h : L ≠ []) : L.isEmpty = false := by
  cases L with
  | nil => exact absurd rfl h
  | cons a r => rfl
/-- The signs ahead of the point: has a comma come, and how many 0. -/
def whF : Bool → Bs → Bool → Nat → Option (Bool × Nat)
  | _, [], cm, n => some (cm, n)
  | first, c :: r, cm, n =>
    if c.toNat = 44 then (if cm = true ∨ first = true ∨ r = [] then none else whF false r true n)
    else if c.toNat = 35 ∧ 0 < n then none
    else if c.toNat = 48 then whF false r cm (n + 1)
    else if c.toNat = 35 then whF false r cm n
    else none
/-- The signs behind the point: how many 0, how many #. -/
def ptF : Bs → Nat → Nat → Option (Nat × Nat)
  | [], p, o => some (p, o)
  | c :: r, p, o => if c.toNat = 48 ∧ o = 0 then ptF r (p + 1) o else if c.toNat = 35 then ptF r p (o + 1) else none
theorem whF_at {L : Bs} {i : Nat} (h : i < L.length) (cm : Bool) (n : Nat) : whF (decide (i = 0)) (L.drop i) cm n =
    if btN L i = 44 then (if cm = true ∨ i = 0 ∨ i + 1 = L.length then none else whF (decide (i + 1 = 0)) (L.drop (i + 1)) true n)
    else if btN L i = 35 ∧ 0 < n then none
    else if btN L i = 48 then whF (decide (i + 1 = 0)) (L.drop (i + 1)) cm (n + 1)
    else if btN L i = 35 then whF (decide (i + 1 = 0)) (L.drop (i + 1)) cm n
    else none := by
  rw [List.drop_eq_getElem_cons h, whF, btN_get h]
  have e1 : decide (i + 1 = 0) = false := by simp
  have e2 : (L.drop (i + 1) = []) = (i + 1 = L.length) := by
    rw [List.drop_eq_nil_iff]
    exact propext ⟨fun h' => by omega, fun h' => by omega⟩
  have e3 : (decide (i = 0) = true) = (i = 0) := by simp
  simp only [e1, e2, e3]
theorem ptF_at {L : Bs} {i : Nat} (h : i < L.length) (p o : Nat) : ptF (L.drop i) p o = if btN L i = 48 ∧ o = 0 then ptF (L.drop (i + 1)) (p + 1) o else if btN L i = 35 then ptF (L.drop (i + 1)) p (o + 1) else none := by
  rw [List.drop_eq_getElem_cons h, ptF, btN_get h]
/-- What 'whole' leaves. -/
def WhR (b : Nat) (f : Fm) (L : Bs) (O : Option (Bool × Nat)) (w : World) (e : Ending) (w' : World) : Prop :=
  Off b w w' ∧ match O with
    | some (cm, n) => e = .returned (.bool (decide (L ≠ []))) ∧ FmB w' b { f with cm := cm, n := n }
    | none => e = .returned (.bool false) ∧ ∃ f', FmB w' b f' ∧ f'.tl = f.tl
theorem WhR.no {b : Nat} {f : Fm} {L : Bs} {O : Option (Bool × Nat)} {w w' : World} {f' : Fm} (h : O = none) (ho : Off b w w') (hf : FmB w' b f') (ht : f'.tl = f.tl := by rfl) : WhR b f L O w (.returned (.bool false)) w' := by subst h; exact ⟨ho, rfl, f', hf, ht⟩
theorem WhR.yes {b : Nat} {f : Fm} {L : Bs} {O : Option (Bool × Nat)} {w w' : World} {cm : Bool} {n : Nat} {x : Bool} (h : O = some (cm, n)) (ho : Off b w w') (hf : FmB w' b { f with cm := cm, n := n }) (hx : x = decide (L ≠ [])) : WhR b f L O w (.returned (.bool x)) w' := by subst h hx; exact ⟨ho, rfl, hf⟩
def PtR (b : Nat) (f : Fm) (L : Bs) (O : Option (Nat × Nat)) (w : World) (e : Ending) (w' : World) : Prop :=
  Off b w w' ∧ match O with
    | some (p, o) => e = .returned (.bool (decide (L ≠ []) && decide (p + o ≤ 6))) ∧ FmB w' b { f with p := p, o := o }
    | none => e = .returned (.bool false) ∧ ∃ f', FmB w' b f' ∧ f'.tl = f.tl
theorem PtR.no {b : Nat} {f : Fm} {L : Bs} {O : Option (Nat × Nat)} {w w' : World} {f' : Fm} (h : O = none) (ho : Off b w w') (hf : FmB w' b f') (ht : f'.tl = f.tl := by rfl) : PtR b f L O w (.returned (.bool false)) w' := by subst h; exact ⟨ho, rfl, f', hf, ht⟩
theorem PtR.yes {b : Nat} {f : Fm} {L : Bs} {O : Option (Nat × Nat)} {w w' : World} {p o : Nat} {x : Bool} (h : O = some (p, o)) (ho : Off b w w') (hf : FmB w' b { f with p := p, o := o }) (hx : x = (decide (L ≠ []) && decide (p + o ≤ 6))) : PtR b f L O w (.returned (.bool x)) w' := by subst h hx; exact ⟨ho, rfl, hf⟩

set_option maxRecDepth 100000 in
set_option maxHeartbeats 8000000 in
theorem whole_any (s : ByteArray) (hs : s.size ≤ 1000) (b : Nat) (f : Fm) (w : World) (hf : FmB w b f) (hn : f.n ≤ 1000) (O : Option (Bool × Nat)) (hO : whF true s.data.toList f.cm f.n = O) :
    Calls Tryd.prog 15 #[.pointer (some ⟨b, 0, none⟩), .string s] w (WhR b f s.data.toList O w) := by
  have HSZ : Hid (s.data.toList.length = s.size) := (Lib.size_eq s).symm
  have HBC := Lib.hid (fun W => bytes_cell W s)
  have HTO : Hid (s.toList = s.data.toList) := by
    unfold Hid
    conv => lhs; rw [show s = ⟨(s.data.toList).toArray⟩ from by simp]
    rw [Lib.toList_data]
  have HO : Hid (whF (decide ((0 : Nat) = 0)) (s.data.toList.drop 0) f.cm f.n = O) := by unfold Hid; simpa using hO
  generalize s.data.toList = L at HSZ HBC HTO HO hO ⊢
  clear hO
  have hconv := fun (W : World) => Lib.run_convert_string_bytes (P := Tryd.prog) W 9 48 5 s Tryd.underlying9 Tryd.underlying48 Tryd.underlying5
  have HF := Lib.hid hf
  clear hf
  go_enter Tryd.func15, Tryd.ntmps15
  go_wp2_with fail
  have hbw := Lib.hid (bytes_below w s)
  have hbc := Lib.hid (HBC.out w)
  have HF1 := Lib.hid (HF.out.below hbw.out)
  have hbn : b < w.heap.size := lt_some HF.out
  generalize Lib.bytesWorld w 5 s = W1 at hbw hbc HF1 ⊢
  clear hconv HBC
  have HOF := Lib.hid (Off.of_below (b := b) hbw.out)
  go_loopg [10] s.size (fun g v10 wr => ∃ (i : Nat) (cm : Bool) (n : Nat), i + g = s.size ∧ v10 = .int .i64 i ∧ whF (decide (i = 0)) (L.drop i) cm n = O ∧ n ≤ 1000 + i ∧ FmB wr b { f with cm := cm, n := n } ∧ Off b W1 wr)
  case atStart => exact ⟨0, f.cm, f.n, by omega, rfl, HO.out, by omega, HF1.out, Off.refl _ _⟩
  case round =>
    obtain ⟨i, cm, n, hig, rfl, hw, hn2, hfm, hoff⟩ := hrel
    have HW := Lib.hid hw
    have HFM := Lib.hid hfm
    have HOR := Lib.hid hoff
    have HALL : Hid (Off b w wr) := HOF.out.trans hoff
    clear hw hfm hoff
    by_cases hlt : i < s.size
    · have hli : (i : Int) < (s.size : Int) := by omega
      have hc := HOR.out.cell (by omega) (hbc.out i hlt)
      have hd := btN_lt L i
      have HST := Lib.hid (whF_at (L := L) (i := i) (by rw [HSZ.out]; exact hlt) cm n)
      rw [HW.out, HSZ.out] at HST
      generalize btN L i = c at hc hd HST
      have k2 : wr.cell? ⟨b, 2, none⟩ = some (.int .i64 (n : Nat)) := HFM.out.cell 2 _ rfl
      have k5 : wr.cell? ⟨b, 5, none⟩ = some (.bool cm) := HFM.out.cell 5 _ rfl
      have f2 := HFM.out.fz 2
      have f5 := HFM.out.fz 5
      by_cases h44 : c = 44
      · subst h44
        cases cm
        · by_cases hi0 : i = 0
          · subst hi0
            have HR : Hid (O = none) := by unfold Hid; rw [HST.out, if_pos rfl, if_pos (by simp)]
            go_wp2_with fail
            go_ret
            exact WhR.no HR.out HALL.out HFM.out
          · have hi0i : ((i : Int) == 0) = false := by simp; omega
            by_cases hil : i + 1 = s.size
            · have HR : Hid (O = none) := by unfold Hid; rw [HST.out, if_pos rfl, if_pos (by simp [hil])]
              have hil2 : (s.size : Int) - 1 = (i : Int) := by omega
              go_wp2_with fail
              go_ret
              exact WhR.no HR.out HALL.out HFM.out
            · have HR : Hid (whF (decide (i + 1 = 0)) (L.drop (i + 1)) true n = O) := by unfold Hid; rw [HST.out, if_pos rfl, if_neg (by simp [hi0, hil])]
              have hil2 : ((i : Int) == (s.size : Int) - 1) = false := by simp; omega
              go_wp2_with fail
              go_roundg (gk - 1)
              case measure => omega
              case rel => exact ⟨i + 1, true, n, by omega, by go_num, HR.out, by omega, HFM.out.setc, HOR.out.set _ _⟩
        · have HR : Hid (O = none) := by unfold Hid; rw [HST.out, if_pos rfl, if_pos (by simp)]
          go_wp2_with fail
          go_ret
          exact WhR.no HR.out HALL.out HFM.out
      · have h44i : ((c : Int) == 44) = false := by simp; omega
        have HST2 : Hid (O = if c = 35 ∧ 0 < n then none else if c = 48 then whF (decide (i + 1 = 0)) (L.drop (i + 1)) cm (n + 1) else if c = 35 then whF (decide (i + 1 = 0)) (L.drop (i + 1)) cm n else none) := by unfold Hid; rw [HST.out, if_neg h44]
        clear HST h44
        by_cases h35 : c = 35
        · subst h35
          by_cases hn0 : 0 < n
          · have hn0i : (0 : Int) < (n : Int) := by omega
            have HR : Hid (O = none) := by unfold Hid; rw [HST2.out, if_pos ⟨rfl, hn0⟩]
            go_wp2_with fail
            go_ret
            exact WhR.no HR.out HALL.out HFM.out
          · have hn0i : ¬ (0 : Int) < (n : Int) := by omega
            have HR : Hid (whF (decide (i + 1 = 0)) (L.drop (i + 1)) cm n = O) := by unfold Hid; rw [HST2.out, if_neg (fun h => hn0 h.2), if_neg (by omega), if_pos rfl]
            go_wp2_with fail
            go_roundg (gk - 1)
            case measure => omega
            case rel => exact ⟨i + 1, cm, n, by omega, by go_num, HR.out, by omega, HFM.out, HOR.out⟩
        · have h35i : ((c : Int) == 35) = false := by simp; omega
          by_cases h48 : c = 48
          · subst h48
            have HR : Hid (whF (decide (i + 1 = 0)) (L.drop (i + 1)) cm (n + 1) = O) := by unfold Hid; rw [HST2.out, if_neg (fun h => h35 h.1), if_pos rfl]
            have hw1 : IntKind.i64.wrap ((n : Int) + 1) = (n : Int) + 1 := IntWalk.i64_in _ (by omega)
            clear h35
            go_wp2_with fail
            go_roundg (gk - 1)
            case measure => omega
            case rel => exact ⟨i + 1, cm, n + 1, by omega, by go_num, HR.out, by omega, HFM.out.setn (n + 1) _ (by omega), HOR.out.set _ _⟩
          · have h48i : ((c : Int) == 48) = false := by simp; omega
            have HR : Hid (O = none) := by unfold Hid; rw [HST2.out, if_neg (fun h => h35 h.1), if_neg h48, if_neg h35]
            clear h35 h48
            go_wp2_with fail
            go_ret
            exact WhR.no HR.out HALL.out HFM.out
    · obtain rfl : i = s.size := by omega
      have hli : ¬ (s.size : Int) < (s.size : Int) := by omega
      have HR : Hid (O = some (cm, n)) := by
        unfold Hid
        rw [← HW.out, List.drop_eq_nil_of_le (by rw [HSZ.out]; exact Nat.le_refl _), whF]
      by_cases hs0 : L = []
      · have hse : s.toList.isEmpty = true := by rw [HTO.out, hs0]; rfl
        go_wp2_with fail
        go_ret
        exact WhR.yes HR.out HALL.out HFM.out (decide_eq_false (fun h => h (by first | exact hs0 | rfl))).symm
      · have hse : s.toList.isEmpty = false := by rw [HTO.out]; exact isEmpty_no hs0
        go_wp2_with fail
        go_ret
        exact WhR.yes HR.out HALL.out HFM.out (decide_eq_true hs0).symm
set_option maxRecDepth 100000 in
set_option maxHeartbeats 8000000 in
theorem parts_any (s : ByteArray) (hs : s.size ≤ 1000) (b : Nat) (f : Fm) (w : World) (hf : FmB w b f) (hp : f.p ≤ 1000) (ho : f.o ≤ 1000) (O : Option (Nat × Nat)) (hO : ptF s.data.toList f.p f.o = O) :
    Calls Tryd.prog 16 #[.pointer (some ⟨b, 0, none⟩), .string s] w (PtR b f s.data.toList O w) := by
  have HSZ : Hid (s.data.toList.length = s.size) := (Lib.size_eq s).symm
  have HBC := Lib.hid (fun W => bytes_cell W s)
  have HTO : Hid (s.toList = s.data.toList) := by
    unfold Hid
    conv => lhs; rw [show s = ⟨(s.data.toList).toArray⟩ from by simp]
    rw [Lib.toList_data]
  have HO : Hid (ptF (s.data.toList.drop 0) f.p f.o = O) := by unfold Hid; simpa using hO
  generalize s.data.toList = L at HSZ HBC HTO HO hO ⊢
  clear hO
  have hconv := fun (W : World) => Lib.run_convert_string_bytes (P := Tryd.prog) W 9 48 5 s Tryd.underlying9 Tryd.underlying48 Tryd.underlying5
  have HF := Lib.hid hf
  clear hf
  go_enter Tryd.func16, Tryd.ntmps16
  go_wp2_with fail
  have hbw := Lib.hid (bytes_below w s)
  have hbc := Lib.hid (HBC.out w)
  have HF1 := Lib.hid (HF.out.below hbw.out)
  have hbn : b < w.heap.size := lt_some HF.out
  generalize Lib.bytesWorld w 5 s = W1 at hbw hbc HF1 ⊢
  clear hconv HBC
  have HOF := Lib.hid (Off.of_below (b := b) hbw.out)
  go_loopg [10] s.size (fun g v10 wr => ∃ (i p o : Nat), i + g = s.size ∧ v10 = .int .i64 i ∧ ptF (L.drop i) p o = O ∧ p ≤ 1000 + i ∧ o ≤ 1000 + i ∧ FmB wr b { f with p := p, o := o } ∧ Off b W1 wr)
  case atStart => exact ⟨0, f.p, f.o, by omega, rfl, HO.out, by omega, by omega, HF1.out, Off.refl _ _⟩
  case round =>
    obtain ⟨i, p, o, hig, rfl, hw, hp2, ho2, hfm, hoff⟩ := hrel
    have HW := Lib.hid hw
    have HFM := Lib.hid hfm
    have HOR := Lib.hid hoff
    have HALL : Hid (Off b w wr) := HOF.out.trans hoff
    clear hw hfm hoff
    have k3 : wr.cell? ⟨b, 3, none⟩ = some (.int .i64 (p : Nat)) := HFM.out.cell 3 _ rfl
    have k4 : wr.cell? ⟨b, 4, none⟩ = some (.int .i64 (o : Nat)) := HFM.out.cell 4 _ rfl
    by_cases hlt : i < s.size
    · have hli : (i : Int) < (s.size : Int) := by omega
      have hc := HOR.out.cell (by omega) (hbc.out i hlt)
      have hd := btN_lt L i
      have HST := Lib.hid (ptF_at (L := L) (i := i) (by rw [HSZ.out]; exact hlt) p o)
      rw [HW.out] at HST
      generalize btN L i = c at hc hd HST
      have f3 := HFM.out.fz 3
      have f4 := HFM.out.fz 4
      by_cases h48 : c = 48
      · subst h48
        by_cases ho0 : o = 0
        · subst ho0
          have HR : Hid (ptF (L.drop (i + 1)) (p + 1) 0 = O) := by unfold Hid; rw [HST.out, if_pos ⟨rfl, rfl⟩]
          have hw1 : IntKind.i64.wrap ((p : Int) + 1) = (p : Int) + 1 := IntWalk.i64_in _ (by omega)
          go_wp2_with fail
          go_roundg (gk - 1)
          case measure => omega
          case rel => exact ⟨i + 1, p + 1, 0, by omega, by go_num, HR.out, by omega, by omega, HFM.out.setp (p + 1) _ (by omega), HOR.out.set _ _⟩
        · have ho0i : ((o : Int) == 0) = false := by simp; omega
          have HR : Hid (O = none) := by unfold Hid; rw [HST.out, if_neg (fun h => ho0 h.2), if_neg (by omega)]
          go_wp2_with fail
          go_ret
          exact PtR.no HR.out HALL.out HFM.out
      · have h48i : ((c : Int) == 48) = false := by simp; omega
        by_cases h35 : c = 35
        · subst h35
          have HR : Hid (ptF (L.drop (i + 1)) p (o + 1) = O) := by unfold Hid; rw [HST.out, if_neg (fun h => h48 h.1), if_pos rfl]
          have hw1 : IntKind.i64.wrap ((o : Int) + 1) = (o : Int) + 1 := IntWalk.i64_in _ (by omega)
          clear h48
          go_wp2_with fail
          go_roundg (gk - 1)
          case measure => omega
          case rel => exact ⟨i + 1, p, o + 1, by omega, by go_num, HR.out, by omega, by omega, HFM.out.seto (o + 1) _ (by omega), HOR.out.set _ _⟩
        · have h35i : ((c : Int) == 35) = false := by simp; omega
          have HR : Hid (O = none) := by unfold Hid; rw [HST.out, if_neg (fun h => h48 h.1), if_neg h35]
          clear h35 h48
          go_wp2_with fail
          go_ret
          exact PtR.no HR.out HALL.out HFM.out
    · obtain rfl : i = s.size := by omega
      have hli : ¬ (s.size : Int) < (s.size : Int) := by omega
      have HR : Hid (O = some (p, o)) := by
        unfold Hid
        rw [← HW.out, List.drop_eq_nil_of_le (by rw [HSZ.out]; exact Nat.le_refl _), ptF]
      have hw1 : IntKind.i64.wrap ((p : Int) + (o : Int)) = (p : Int) + (o : Int) := IntWalk.i64_in _ (by omega)
      have r3 := cell_regrown k3
      have r4 := cell_regrown k4
      clear k3 k4
      have hBR : ∀ dd os, Off b w (Go.Sort.grow (redrawn wr dd) os) := fun dd os => HALL.out.call (below_regrown wr dd os)
      have hFR : ∀ dd os, FmB (Go.Sort.grow (redrawn wr dd) os) b { f with p := p, o := o } := fun dd os => HFM.out.below (below_regrown wr dd os)
      by_cases hs0 : L = []
      · have hse : s.toList.isEmpty = true := by rw [HTO.out, hs0]; rfl
        go_upto_region 10 with fail
        refine wp_region_quiet_below (by kernel_rfl) (by kernel_rfl) ?_
        repeat (go_big_quiet_step (fail))
        refine wpQuiet_nil ?_
        intro _ hw'
        obtain ⟨⟨dz, osz⟩, hw''⟩ := hw'
        subst hw''
        have hO2 := Lib.hid (hBR dz osz)
        have hF2 := Lib.hid (hFR dz osz)
        clear r3 r4 hBR hFR
        go_wp2_with fail
        go_ret
        exact PtR.yes HR.out hO2.out hF2.out (by rw [decide_eq_false (fun h => h (by first | exact hs0 | rfl))]; rfl)
      · have hse : s.toList.isEmpty = false := by rw [HTO.out]; exact isEmpty_no hs0
        by_cases h6 : p + o ≤ 6
        · have h6i : (p : Int) + (o : Int) ≤ 6 := by omega
          go_upto_region 10 with fail
          refine wp_region_quiet_below (by kernel_rfl) (by kernel_rfl) ?_
          repeat (go_big_quiet_step (fail))
          refine wpQuiet_nil ?_
          intro _ hw'
          obtain ⟨⟨dz, osz⟩, hw''⟩ := hw'
          subst hw''
          have hO2 := Lib.hid (hBR dz osz)
          have hF2 := Lib.hid (hFR dz osz)
          clear r3 r4 hBR hFR
          go_wp2_with fail
          go_ret
          exact PtR.yes HR.out hO2.out hF2.out (by rw [decide_eq_true hs0, decide_eq_true h6]; rfl)
        · have h6i : ¬ (p : Int) + (o : Int) ≤ 6 := by omega
          go_upto_region 10 with fail
          refine wp_region_quiet_below (by kernel_rfl) (by kernel_rfl) ?_
          repeat (go_big_quiet_step (fail))
          refine wpQuiet_nil ?_
          intro _ hw'
          obtain ⟨⟨dz, osz⟩, hw''⟩ := hw'
          subst hw''
          have hO2 := Lib.hid (hBR dz osz)
          have hF2 := Lib.hid (hFR dz osz)
          clear r3 r4 hBR hFR
          go_wp2_with fail
          go_ret
          exact PtR.yes HR.out hO2.out hF2.out (by rw [decide_eq_true hs0, decide_eq_false h6]; rfl)
end Go.Proofs.YteknbdodihfbeaaDoor
