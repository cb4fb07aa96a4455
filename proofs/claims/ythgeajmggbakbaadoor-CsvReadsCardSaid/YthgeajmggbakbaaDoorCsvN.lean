/- CSV: the program's reader: a cell between quotes. -/
import Derived.Test.YthgeajmggbakbaaDoorCsvM
set_option linter.unusedSimpArgs false
set_option linter.unusedVariables false
namespace Go.Proofs.YthgeajmggbakbaaDoor
open Go.RowKit Go.Joins

theorem Off.callB {b B : Nat} {w w1 w2 : World} (h : Off b w w1) (hB : B = w.heap.size) (h' : Below B w1 w2) : Off b w w2 := by
  subst hB
  exact ⟨h'.os.trans h.os, h'.tape.trans h.tape, h'.output.trans h.output, Nat.le_trans h.size h'.size, fun k hk hn => (h'.block k hk).trans (h.block k hk hn)⟩
theorem Rdr.belowB {w w' : World} {b B : Nat} {s : ByteArray} {i c : Nat} (h : Rdr w b s i c) (hb : Below B w w') (hB : b < B) : Rdr w' b s i c := (hb.block b hB).trans h
theorem builderAt_keep {B bb : Nat} {p : Value} {l : List Value} {w w' : World} (h : Lib.BuilderAt tBd 5 B bb p l w) (hk : ∀ k, B ≤ k → k < w.heap.size → w'.heap[k]? = w.heap[k]?) : Lib.BuilderAt tBd 5 B bb p l w' := by
  obtain ⟨hB, v, hbk, hown, hne⟩ := h
  refine ⟨hB, v, (hk _ hB (lt_of_some hbk)).trans hbk, ?_, hne⟩
  obtain ⟨h1, h2⟩ := hown
  refine ⟨h1, ?_⟩
  rcases h2 with h2 | ⟨g, cap, cur, hv, hg, hh, r⟩
  · exact .inl h2
  · exact .inr ⟨g, cap, cur, hv, hg, (hk g hg (lt_of_some hh)).trans hh, r⟩
theorem builder_keep {B bb : Nat} {l : List Value} {w w' : World} (h : Lib.IsBuilder tBd 5 B bb l w) (hk : ∀ k, B ≤ k → k < w.heap.size → w'.heap[k]? = w.heap[k]?) : Lib.IsBuilder tBd 5 B bb l w' := by
  rcases h with h | h
  · exact .inl (builderAt_keep h hk)
  · exact .inr (builderAt_keep h hk)
theorem builder_below {B bb : Nat} {l : List Value} {w w' : World} (h : Lib.IsBuilder tBd 5 B bb l w) (hb : Below w.heap.size w w') : Lib.IsBuilder tBd 5 B bb l w' := builder_keep h (fun k _ hk => hb.block k hk)
theorem builder_set {B bb b : Nat} {l : List Value} {w : World} (h : Lib.IsBuilder tBd 5 B bb l w) (hb : b < B) (j : Nat) (u : Value) : Lib.IsBuilder tBd 5 B bb l (w.setCell ⟨b, j, none⟩ u) :=
  builder_keep h (fun k hk _ => Below.heap_setCell w _ _ k (by show k ≠ b; omega))

theorem pq_no (L : Bs) (j : Nat) (hj : j < L.length) (h : btN L j ≠ 34) : pQ (L.drop j) = (pQ (L.drop (j + 1))).map fun x => (UInt8.ofNat (btN L j) :: x.1, x.2) := by
  have hc : L[j] ≠ 34 := fun e => h (by rw [btN_get hj, e]; rfl)
  have hb : UInt8.ofNat (btN L j) = L[j] := by rw [btN_get hj]; simp
  rw [List.drop_eq_getElem_cons hj, pQ, if_neg hc, hb]
  intro r e
  exact absurd e hc
theorem pq_dbl (L : Bs) (j : Nat) (hj : j + 1 < L.length) (h : btN L j = 34) (h2 : btN L (j + 1) = 34) : pQ (L.drop j) = (pQ (L.drop (j + 2))).map fun x => (34 :: x.1, x.2) := by
  have h1 : L[j] = 34 := by rw [← UInt8.toNat_inj, ← btN_get (by omega), h]; rfl
  have h3 : L[j + 1] = 34 := by rw [← UInt8.toNat_inj, ← btN_get (by omega), h2]; rfl
  rw [List.drop_eq_getElem_cons (by omega : j < L.length), List.drop_eq_getElem_cons hj, h1, h3, pQ]
theorem pq_end (L : Bs) (j : Nat) (hj : j < L.length) (h : btN L j = 34) (h2 : ¬ (j + 1 < L.length ∧ btN L (j + 1) = 34)) : pQ (L.drop j) = if endsB (L.drop (j + 1)) then some ([], L.drop (j + 1)) else none := by
  have h1 : L[j] = 34 := by rw [← UInt8.toNat_inj, ← btN_get (by omega), h]; rfl
  rw [List.drop_eq_getElem_cons hj, h1, pQ, if_pos rfl]
  intro r _ e
  have hl : j + 1 < L.length := by
    have := congrArg List.length e
    rw [List.length_drop, List.length_cons] at this
    omega
  refine h2 ⟨hl, ?_⟩
  rw [List.drop_eq_getElem_cons hl] at e
  injection e with e _
  rw [btN_get hl, e]
  rfl
theorem pq_out (L : Bs) (j : Nat) (hj : L.length ≤ j) : pQ (L.drop j) = none := by
  rw [List.drop_eq_nil_of_le hj]
  rfl

/-- What a cell's call leaves: the cell and whether there is one, and where the reader stands. -/
def CellR (o : Option (Bs × Bs)) (s : ByteArray) (b c : Nat) (e : Ending) (w' : World) : Prop := match o with
  | none => ∃ (X : ByteArray) (i : Nat), e = .returned (.tuple #[.string X, .bool false]) ∧ i ≤ s.size ∧ Rdr w' b s i c
  | some (C, rest) => ∃ i : Nat, e = .returned (.tuple #[.string ⟨C.toArray⟩, .bool true]) ∧ i ≤ s.size ∧ rest = s.data.toList.drop i ∧ Rdr w' b s i c

set_option maxRecDepth 100000 in
set_option maxHeartbeats 8000000 in
theorem quoted_any (s : ByteArray) (hs : s.size ≤ 10000000) (b i c : Nat) (hi : i < s.size) (w : World) (hr : Rdr w b s i c) :
    Calls Tryd.prog 37 #[.pointer (some ⟨b, 0, none⟩)] w fun e w' => CellR (pQ (s.data.toList.drop (i + 1))) s b c e w' ∧ Off b w w' := by
  have HSZ : Hid (s.data.toList.length = s.size) := (Lib.size_eq s).symm
  have HBT := Lib.hid (btN_str s)
  have HE := Lib.hid (fun j (hj : j ≤ s.size) W (h : Rdr W b s j c) => ends_any s hs b j c hj W h)
  have HNO := Lib.hid (pq_no s.data.toList)
  have HDB := Lib.hid (pq_dbl s.data.toList)
  have HEN := Lib.hid (pq_end s.data.toList)
  have HOU := Lib.hid (pq_out s.data.toList)
  have HBL := Lib.hid (btN_lt s.data.toList)
  obtain ⟨O, hO0⟩ : ∃ O, pQ (s.data.toList.drop (i + 1)) = O := ⟨_, rfl⟩
  have HR : Hid (Rdr (w.alloc (.cells #[.pointer none, .slice none 0 0] tBd)) b s i c) := hr.below (by (repeat' (first | (with_reducible exact Below.refl _ _) | (with_reducible assumption) | (with_reducible refine Below.alloc ?_ ?_ _) | (with_reducible refine bel_drewN ?_ _) | (with_reducible refine Below.drew ?_) | (with_reducible refine Below.setCell ?_ ?_ _) | (with_reducible refine bel_call ‹_› ?_ ?_) | go_size)))
  have hblt := hr.lt
  have HB := Lib.hid (bd_fresh w.heap.size w (Nat.le_refl _))
  have HO : Hid (Off b w (w.alloc (.cells #[.pointer none, .slice none 0 0] tBd))) := Off.of_below (by (repeat' (first | (with_reducible exact Below.refl _ _) | (with_reducible assumption) | (with_reducible refine Below.alloc ?_ ?_ _) | (with_reducible refine bel_drewN ?_ _) | (with_reducible refine Below.drew ?_) | (with_reducible refine Below.setCell ?_ ?_ _) | (with_reducible refine bel_call ‹_› ?_ ?_) | go_size)))
  have hz0 : (w.alloc (.cells #[.pointer none, .slice none 0 0] tBd)).heap.size = w.heap.size + 1 := World.size_alloc _ _
  have HO0 := Lib.hid hO0
  rw [hO0]
  clear hr hO0
  go_enter Tryd.func37, Tryd.ntmps37
  go_upto_region 2 with fail
  generalize (w.alloc (.cells #[.pointer none, .slice none 0 0] tBd)) = w0 at HR HB HO hz0 ⊢
  obtain ⟨q0, q1, q2, qf, _⟩ := HR.out.cells
  have hR := HR.out.setz ((i : Int) + 1) (i + 1) (by omega)
  have hB := builder_set HB.out hblt 1 (.int .i64 ((i : Int) + 1))
  have hO := HO.out.set 1 (.int .i64 ((i : Int) + 1))
  clear HR HB HO
  go_upto_region 3 with fail
  clear q0 q1 q2 qf
  generalize w0.setCell ⟨b, 1, none⟩ (.int .i64 ((i : Int) + 1)) = w1 at hR hB hO ⊢
  have HR := Lib.hid hR
  have HB := Lib.hid hB
  have HO := Lib.hid hO
  clear hR hB hO
  go_loopg [5] s.size (fun g v5 wr => ∃ (j : Nat) (acc : Bs), i + 1 ≤ j ∧ j ≤ s.size ∧ s.size ≤ j + g ∧ acc.length ≤ j ∧ O = (pQ (s.data.toList.drop j)).map (fun x => (acc ++ x.1, x.2)) ∧ Rdr wr b s j c ∧ Lib.IsBuilder tBd 5 w.heap.size w.heap.size (Lib.byteCells acc) wr ∧ Off b w wr)
  case atStart => exact ⟨i + 1, [], by omega, by omega, by omega, by simp, by rw [HO0.out]; cases O <;> simp, HR.out, HB.out, HO.out⟩
  case round =>
    obtain ⟨j, acc, hij, hjs, hg, hal, hP, hR, hB, hO⟩ := hrel
    have HP := Lib.hid hP
    have HR := Lib.hid hR
    have HB := Lib.hid hB
    have HO := Lib.hid hO
    have hzr := hO.size
    clear hP hR hB hO
    by_cases hlt : j < s.size
    · have hlti : (j : Int) < (s.size : Int) := by omega
      have hj0 : (0 : Int) ≤ (j : Int) := by omega
      obtain ⟨q0, q1, q2, qf, _⟩ := HR.out.cells
      have r0 := cell_regrown q0
      have r1 := cell_regrown q1

      go_wp2_with fail
      refine wp_region_quiet_below (by kernel_rfl) (by kernel_rfl) ?_
      repeat (go_big_quiet_step (fail))
      refine wpQuiet_nil ?_
      intro _ hw'
      obtain ⟨⟨dq, osq⟩, hw''⟩ := hw'
      subst hw''
      have hR := HR.out.below (below_regrown wr dq osq)
      have hB := builder_below HB.out (below_regrown wr dq osq)
      have hO := HO.out.call (below_regrown wr dq osq)
      clear r0 r1 q0 q1 q2 qf HR HB HO
      generalize Go.Sort.grow (redrawn wr dq) osq = w1 at hR hB hO ⊢
      have HR := Lib.hid hR
      have HB := Lib.hid hB
      have HO := Lib.hid hO
      clear hR hB hO
      obtain ⟨q0, q1, q2, qf, _⟩ := HR.out.cells
      have r0 := cell_regrown q0
      have r1 := cell_regrown q1

      go_wp2_with fail
      refine wp_region_quiet_below (by kernel_rfl) (by kernel_rfl) ?_
      repeat (go_big_quiet_step (fail))
      refine wpQuiet_nil ?_
      intro _ hw'
      obtain ⟨⟨dq, osq⟩, hw''⟩ := hw'
      subst hw''
      have hR := HR.out.below (below_regrown w1 dq osq)
      have hB := builder_below HB.out (below_regrown w1 dq osq)
      have hO := HO.out.call (below_regrown w1 dq osq)
      clear r0 r1 q0 q1 q2 qf HR HB HO
      generalize Go.Sort.grow (redrawn w1 dq) osq = w2 at hR hB hO ⊢
      have HR := Lib.hid hR
      have HB := Lib.hid hB
      have HO := Lib.hid hO
      clear hR hB hO
      have hb := HBT.out j hlt
      have hcl := HBL.out j
      have HNO2 := Lib.hid (HNO.out j (by rw [HSZ.out]; exact hlt))
      have HDB2 := Lib.hid (HDB.out j)
      have HEN2 := Lib.hid (HEN.out j (by rw [HSZ.out]; exact hlt))
      obtain ⟨d, hd⟩ : ∃ d, btN s.data.toList j = d := ⟨_, rfl⟩
      rw [hd] at hb hcl HNO2 HDB2 HEN2
      have hbi : (((s[j]'hlt).toNat : Nat) : Int) = (d : Int) := by rw [hb]
      by_cases h34 : d = 34
      · have hdi : (((s[j]'hlt).toNat : Nat) : Int) = 34 := by omega
        subst h34
        clear hbi hb hcl
        obtain ⟨k, hk⟩ : ∃ k, k = j + 1 := ⟨_, rfl⟩
        have HK := Lib.hid hk
        rw [show j + 2 = k + 1 from by omega, ← hk] at HDB2
        rw [← hk] at HEN2
        obtain ⟨q0, q1, q2, qf, _⟩ := HR.out.cells
        have hR := HR.out.setz ((j : Int) + 1) (k) (by omega)
        have hB := builder_set HB.out hblt 1 (.int .i64 ((j : Int) + 1))
        have hO := HO.out.set 1 (.int .i64 ((j : Int) + 1))
        clear HR HB HO hk
        go_wp2_with fail
        clear q0 q1 q2 qf
        generalize w2.setCell ⟨b, 1, none⟩ (.int .i64 ((j : Int) + 1)) = w3 at hR hB hO ⊢
        have HR := Lib.hid hR
        have HB := Lib.hid hB
        have HO := Lib.hid hO
        clear hR hB hO
        have hkl : k ≤ s.size := by have := HK.out; omega
        have hk1 : 1 ≤ k := by have := HK.out; omega
        have hka : acc.length ≤ k := by have := HK.out; omega
        by_cases h2 : k < s.size ∧ btN s.data.toList k = 34
        · obtain ⟨h2a, h2b⟩ := h2
          have hl1 : (k : Int) < (s.size : Int) := by omega
          have hl0 : (0 : Int) ≤ (k : Int) := by omega
          have hb2 : (((s[k]'h2a).toNat : Nat) : Int) = 34 := by rw [HBT.out k h2a, h2b]; rfl
          have HO2 : Hid (O = (pQ (s.data.toList.drop (k + 1))).map (fun x => (acc ++ [34] ++ x.1, x.2))) := by
            unfold Hid
            rw [HP.out, HDB2.out (by rw [HSZ.out]; exact h2a) (by first | trivial | rfl) h2b]
            cases pQ (s.data.toList.drop (k + 1)) <;> simp
          clear HDB2 HEN2 HNO2 h2b
          obtain ⟨q0, q1, q2, qf, _⟩ := HR.out.cells
          have r0 := cell_regrown q0
          have r1 := cell_regrown q1

          go_wp2_with fail
          refine wp_region_quiet_below (by kernel_rfl) (by kernel_rfl) ?_
          repeat (go_big_quiet_step (fail))
          refine wpQuiet_nil ?_
          intro _ hw'
          obtain ⟨⟨dq, osq⟩, hw''⟩ := hw'
          subst hw''
          have hR := HR.out.below (below_regrown w3 dq osq)
          have hB := builder_below HB.out (below_regrown w3 dq osq)
          have hO := HO.out.call (below_regrown w3 dq osq)
          clear r0 r1 q0 q1 q2 qf HR HB HO
          generalize Go.Sort.grow (redrawn w3 dq) osq = w4 at hR hB hO ⊢
          have HR := Lib.hid hR
          have HB := Lib.hid hB
          have HO := Lib.hid hO
          clear hR hB hO
          go_wp2_with fail
          refine (writeByte_at w.heap.size w.heap.size acc 34 (by omega) w4 HB.out (by omega) (by have := HO.out.size; omega)).mono ?_
          rintro e w5 ⟨rfl, hB5, hb5⟩
          have HR5 := Lib.hid (HR.out.belowB hb5 hblt)
          have HO5 := Lib.hid (HO.out.callB rfl hb5)
          have HB5 := Lib.hid hB5
          clear HR HB HO hB5 hb5
          have HR := HR5
          have HB := HB5
          have HO := HO5
          clear HR5 HB5 HO5
          obtain ⟨q0, q1, q2, qf, _⟩ := HR.out.cells
          have hR := HR.out.setz (((k : Int) : Int) + 1) (k + 1) (by omega)
          have hB := builder_set HB.out hblt 1 (.int .i64 (((k : Int) : Int) + 1))
          have hO := HO.out.set 1 (.int .i64 (((k : Int) : Int) + 1))
          clear HR HB HO
          go_wp2_with fail
          clear q0 q1 q2 qf
          generalize w5.setCell ⟨b, 1, none⟩ (.int .i64 (((k : Int) : Int) + 1)) = w6 at hR hB hO ⊢
          have HR := Lib.hid hR
          have HB := Lib.hid hB
          have HO := Lib.hid hO
          clear hR hB hO
          go_roundg (gk - 1)
          case measure => have := HK.out; omega
          case rel => exact ⟨k + 1, acc ++ [34], by have := HK.out; omega, by omega, by have := HK.out; omega, by rw [List.length_append, List.length_singleton]; omega, HO2.out, HR.out, HB.out, HO.out⟩
        · have HO2 : Hid (O = if endsB (s.data.toList.drop k) then some (acc, s.data.toList.drop k) else none) := by
            unfold Hid
            rw [HP.out, HEN2.out (by first | trivial | rfl) (by rw [HSZ.out]; exact h2)]
            split <;> simp
          have HE1 := Lib.hid (HE.out k (by omega))
          have h2 : s.size ≤ k ∨ (∃ h : k < s.size, ((((s[k]'h).toNat : Nat) : Int) == 34) = false) := by
            rcases Nat.lt_or_ge k s.size with h | h
            · refine .inr ⟨h, ?_⟩
              have h3 : btN s.data.toList k ≠ 34 := fun e => h2 ⟨h, e⟩
              rw [HBT.out k h]
              simp
              omega
            · exact .inl h
          clear HDB2 HEN2 HNO2
          rcases h2 with h2 | ⟨h2a, h2b⟩
          · obtain rfl : k = s.size := by omega
            have hl1 : ¬ (s.size : Int) < (s.size : Int) := by omega
            obtain ⟨q0, q1, q2, qf, _⟩ := HR.out.cells
            have r0 := cell_regrown q0
            have r1 := cell_regrown q1

            go_wp2_with fail
            refine wp_region_quiet_below (by kernel_rfl) (by kernel_rfl) ?_
            repeat (go_big_quiet_step (fail))
            refine wpQuiet_nil ?_
            intro _ hw'
            obtain ⟨⟨dq, osq⟩, hw''⟩ := hw'
            subst hw''
            have hR := HR.out.below (below_regrown w3 dq osq)
            have hB := builder_below HB.out (below_regrown w3 dq osq)
            have hO := HO.out.call (below_regrown w3 dq osq)
            clear r0 r1 q0 q1 q2 qf HR HB HO
            generalize Go.Sort.grow (redrawn w3 dq) osq = w4 at hR hB hO ⊢
            have HR := Lib.hid hR
            have HB := Lib.hid hB
            have HO := Lib.hid hO
            clear hR hB hO
            go_wp2_with fail
            refine (bd_string w.heap.size w.heap.size acc w4 HB.out (by have := HO.out.size; omega)).mono ?_
            rintro e w5 ⟨rfl, hb5⟩
            have HR5 := Lib.hid (HR.out.belowB hb5 hblt)
            have HO5 := Lib.hid (HO.out.callB rfl hb5)
            clear HR HB HO hb5
            go_wp2_with fail
            refine (HE1.out w5 HR5.out).mono ?_
            rintro e w6 ⟨rfl, hb6⟩
            have HR6 := Lib.hid (HR5.out.below hb6)
            have HO6 := Lib.hid (HO5.out.call hb6)
            clear hb6 HE1
            generalize endsB (s.data.toList.drop s.size) = V at HO2 ⊢
            cases V
            · go_wp2_with fail
              go_ret2
              refine ⟨?_, HO6.out⟩
              rw [HO2.out]
              exact ⟨_, s.size, rfl, by omega, HR6.out⟩
            · go_wp2_with fail
              go_ret2
              refine ⟨?_, HO6.out⟩
              rw [HO2.out]
              exact ⟨s.size, rfl, by omega, rfl, HR6.out⟩
          · have hl1 : (k : Int) < (s.size : Int) := by omega
            have hl0 : (0 : Int) ≤ (k : Int) := by omega
            obtain ⟨q0, q1, q2, qf, _⟩ := HR.out.cells
            have r0 := cell_regrown q0
            have r1 := cell_regrown q1

            go_wp2_with fail
            refine wp_region_quiet_below (by kernel_rfl) (by kernel_rfl) ?_
            repeat (go_big_quiet_step (fail))
            refine wpQuiet_nil ?_
            intro _ hw'
            obtain ⟨⟨dq, osq⟩, hw''⟩ := hw'
            subst hw''
            have hR := HR.out.below (below_regrown w3 dq osq)
            have hB := builder_below HB.out (below_regrown w3 dq osq)
            have hO := HO.out.call (below_regrown w3 dq osq)
            clear r0 r1 q0 q1 q2 qf HR HB HO
            generalize Go.Sort.grow (redrawn w3 dq) osq = w4 at hR hB hO ⊢
            have HR := Lib.hid hR
            have HB := Lib.hid hB
            have HO := Lib.hid hO
            clear hR hB hO
            go_wp2_with fail
            refine (bd_string w.heap.size w.heap.size acc w4 HB.out (by have := HO.out.size; omega)).mono ?_
            rintro e w5 ⟨rfl, hb5⟩
            have HR5 := Lib.hid (HR.out.belowB hb5 hblt)
            have HO5 := Lib.hid (HO.out.callB rfl hb5)
            clear HR HB HO hb5
            go_wp2_with fail
            refine (HE1.out w5 HR5.out).mono ?_
            rintro e w6 ⟨rfl, hb6⟩
            have HR6 := Lib.hid (HR5.out.below hb6)
            have HO6 := Lib.hid (HO5.out.call hb6)
            clear hb6 HE1
            generalize endsB (s.data.toList.drop k) = V at HO2 ⊢
            cases V
            · go_wp2_with fail
              go_ret2
              refine ⟨?_, HO6.out⟩
              rw [HO2.out]
              exact ⟨_, k, rfl, by omega, HR6.out⟩
            · go_wp2_with fail
              go_ret2
              refine ⟨?_, HO6.out⟩
              rw [HO2.out]
              exact ⟨k, rfl, by omega, rfl, HR6.out⟩
      · have hne : ((d : Int) == 34) = false := by simp; omega
        have HO2 : Hid (O = (pQ (s.data.toList.drop (j + 1))).map (fun x => (acc ++ [UInt8.ofNat d] ++ x.1, x.2))) := by
          unfold Hid
          rw [HP.out, HNO2.out h34]
          cases pQ (s.data.toList.drop (j + 1)) <;> simp
        clear hb hd h34 HDB2 HEN2 HNO2
        obtain ⟨q0, q1, q2, qf, _⟩ := HR.out.cells
        have hR := HR.out.setz ((j : Int) + 1) (j + 1) (by omega)
        have hB := builder_set HB.out hblt 1 (.int .i64 ((j : Int) + 1))
        have hO := HO.out.set 1 (.int .i64 ((j : Int) + 1))
        clear HR HB HO
        go_wp2_with fail
        clear q0 q1 q2 qf
        generalize w2.setCell ⟨b, 1, none⟩ (.int .i64 ((j : Int) + 1)) = w3 at hR hB hO ⊢
        have HR := Lib.hid hR
        have HB := Lib.hid hB
        have HO := Lib.hid hO
        clear hR hB hO
        refine (writeByte_at w.heap.size w.heap.size acc d hcl w3 HB.out (by omega) (by have := HO.out.size; omega)).mono ?_
        rintro e w4 ⟨rfl, hB4, hb4⟩
        have HR4 := Lib.hid (HR.out.belowB hb4 hblt)
        have HO4 := Lib.hid (HO.out.callB rfl hb4)
        have HB4 := Lib.hid hB4
        clear HR HB HO hB4 hb4
        go_wp2_with fail
        go_roundg (gk - 1)
        case measure => omega
        case rel => exact ⟨j + 1, acc ++ [UInt8.ofNat d], by omega, by omega, by omega, by rw [List.length_append, List.length_singleton]; omega, HO2.out, HR4.out, HB4.out, HO4.out⟩
    · obtain rfl : j = s.size := by omega
      have hlti : ¬ (s.size : Int) < (s.size : Int) := by omega
      have HON : Hid (O = none) := by
        unfold Hid
        rw [HP.out, HOU.out s.size (by rw [HSZ.out]; exact Nat.le_refl _)]
        rfl
      obtain ⟨q0, q1, q2, qf, _⟩ := HR.out.cells
      have r0 := cell_regrown q0
      have r1 := cell_regrown q1

      go_wp2_with fail
      refine wp_region_quiet_below (by kernel_rfl) (by kernel_rfl) ?_
      repeat (go_big_quiet_step (fail))
      refine wpQuiet_nil ?_
      intro _ hw'
      obtain ⟨⟨dq, osq⟩, hw''⟩ := hw'
      subst hw''
      have hR := HR.out.below (below_regrown wr dq osq)
      have hB := builder_below HB.out (below_regrown wr dq osq)
      have hO := HO.out.call (below_regrown wr dq osq)
      clear r0 r1 q0 q1 q2 qf HR HB HO
      generalize Go.Sort.grow (redrawn wr dq) osq = w1 at hR hB hO ⊢
      have HR := Lib.hid hR
      have HB := Lib.hid hB
      have HO := Lib.hid hO
      clear hR hB hO
      go_wp2_with fail
      go_ret2
      refine ⟨?_, HO.out⟩
      rw [HON.out]
      exact ⟨_, s.size, rfl, Nat.le_refl _, HR.out⟩
end Go.Proofs.YthgeajmggbakbaaDoor
