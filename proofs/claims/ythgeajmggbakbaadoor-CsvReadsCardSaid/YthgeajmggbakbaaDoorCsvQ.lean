/- CSV: the program's reader: a row. -/
import Derived.Test.YthgeajmggbakbaaDoorCsvO
import Derived.Deep.RegionHeld3
set_option linter.unusedSimpArgs false
set_option linter.unusedVariables false
namespace Go.Proofs.YthgeajmggbakbaaDoor
open Go.RowKit Go.Joins

/-- How many cells a row's reading begins. -/
def pCnt : Nat → Bs → Nat
  | 0, _ => 0
  | f + 1, L => match pCell L with
    | some (_, 44 :: r) => 1 + pCnt f r
    | _ => 1
theorem rowK_none (k : Nat) {L : Bs} (h : pCell L = none) : pRow (k + 1) L = none ∧ pCnt (k + 1) L = 1 := by
  unfold pRow pCnt
  rw [h]
  exact ⟨rfl, rfl⟩
theorem rowK_com (k : Nat) {L c r : Bs} (h : pCell L = some (c, 44 :: r)) : pRow (k + 1) L = ((pRow k r).map fun x => (c :: x.1, x.2)) ∧ pCnt (k + 1) L = 1 + pCnt k r := by
  constructor
  · rw [pRow, h]
    rfl
  · rw [pCnt, h]
    rfl
theorem rowK_end (k : Nat) {L c rest : Bs} (h : pCell L = some (c, rest)) (hn : ∀ r, rest ≠ 44 :: r) : pRow (k + 1) L = some ([c], rest.drop (nlN rest)) ∧ pCnt (k + 1) L = 1 := by
  unfold pRow pCnt
  rw [h]
  constructor
  · split
    · rename_i e; cases e
    · rename_i e; cases e; exact absurd rfl (hn _)
    · rename_i e; cases e; rfl
  · split
    · rename_i e; cases e; exact absurd rfl (hn _)
    · rfl
theorem row_fuel : ∀ (f g : Nat) (L : Bs), L.length < f → L.length < g → pRow f L = pRow g L ∧ pCnt f L = pCnt g L
  | 0, g, L, h, _ => by omega
  | f + 1, 0, L, _, h => by omega
  | f + 1, g + 1, L, hf, hg => by
    cases hc : pCell L with
    | none => rw [(rowK_none f hc).1, (rowK_none g hc).1, (rowK_none f hc).2, (rowK_none g hc).2]; exact ⟨rfl, rfl⟩
    | some x =>
      obtain ⟨c, rest⟩ := x
      have hl := (pCell_ends L c rest hc).2
      by_cases h : ∃ r, rest = 44 :: r
      · obtain ⟨r, rfl⟩ := h
        have ih := row_fuel f g r (by simp at hl; omega) (by simp at hl; omega)
        rw [(rowK_com f hc).1, (rowK_com g hc).1, (rowK_com f hc).2, (rowK_com g hc).2, ih.1, ih.2]
        exact ⟨rfl, rfl⟩
      · have hn : ∀ r, rest ≠ 44 :: r := fun r e => h ⟨r, e⟩
        rw [(rowK_end f hc hn).1, (rowK_end g hc hn).1, (rowK_end f hc hn).2, (rowK_end g hc hn).2]
        exact ⟨rfl, rfl⟩
/-- A row, with fuel enough; and how many cells are begun. -/
def rowO (L : Bs) : Option (List Bs × Bs) := pRow (L.length + 1) L
def cntO (L : Bs) : Nat := pCnt (L.length + 1) L
theorem rowO_none {L : Bs} (h : pCell L = none) : rowO L = none ∧ cntO L = 1 := rowK_none _ h
theorem rowO_com {L c r : Bs} (h : pCell L = some (c, 44 :: r)) : rowO L = ((rowO r).map fun x => (c :: x.1, x.2)) ∧ cntO L = 1 + cntO r := by
  have hl := (pCell_ends L c _ h).2
  simp at hl
  have hf := row_fuel L.length (r.length + 1) r (by omega) (by omega)
  have hk := rowK_com L.length h
  unfold rowO cntO
  rw [← hf.1, ← hf.2]
  exact hk
theorem rowO_end {L c rest : Bs} (h : pCell L = some (c, rest)) (hn : ∀ r, rest ≠ 44 :: r) : rowO L = some ([c], rest.drop (nlN rest)) ∧ cntO L = 1 := rowK_end _ h hn
theorem cntO_pos (L : Bs) : 1 ≤ cntO L := by
  unfold cntO pCnt
  split <;> omega

/-- A row of strings lies in a block of its type. -/
def Str (w : World) (p : Option Addr) (n : Nat) : Prop := n = 0 ∨ ∃ a cs fr, p = some a ∧ w.heap[a.block]? = some (.cells cs 9 fr)
theorem own_str {w : World} {base n m cap : Nat} {p : Option Addr} {xs : List Value} (h : w.ownsRow base 9 1 (.slice p n cap) m xs) : Str w p n := by
  rcases h.2 with ⟨e, _⟩ | ⟨g, cap, cur, hv, hg, hh, r⟩
  · cases e; exact .inl rfl
  · cases hv; exact .inr ⟨_, cur, _, rfl, hh⟩
/-- What a row's call leaves. -/
def RowR (o : Option (List Bs × Bs)) (s : ByteArray) (b c : Nat) (w : World) (e : Ending) (w' : World) : Prop := match o with
  | none => e = .returned (.tuple #[.slice none 0 0, .bool false])
  | some (R, rest) => ∃ p n cap i, e = .returned (.tuple #[.slice p n cap, .bool true]) ∧ RdG bsE 1 w' p n R ∧ n ≤ cap ∧ n ≤ 9223372036854775807 ∧ Str w' p n ∧ i ≤ s.size ∧ rest = s.data.toList.drop i ∧ Rdr w' b s i (c + R.length)
theorem drop_com (L : Bs) (j : Nat) (hj : j < L.length) (h : btN L j = 44) : L.drop j = 44 :: L.drop (j + 1) := by
  have h1 : L[j] = 44 := by rw [← UInt8.toNat_inj, ← btN_get hj, h]; rfl
  rw [List.drop_eq_getElem_cons hj, h1]
theorem drop_not (L : Bs) (j : Nat) (h : ¬ (j < L.length ∧ btN L j = 44)) : ∀ r, L.drop j ≠ 44 :: r := by
  intro r e
  have hj : j < L.length := by
    have := congrArg List.length e
    rw [List.length_drop, List.length_cons] at this
    omega
  refine h ⟨hj, ?_⟩
  rw [List.drop_eq_getElem_cons hj] at e
  injection e with e _
  rw [btN_get hj, e]
  rfl

set_option maxRecDepth 100000 in
set_option maxHeartbeats 8000000 in
theorem rd_row (s : ByteArray) (hs : s.size ≤ 10000000) (b i c : Nat) (hi : i ≤ s.size) (hc : c + cntO (s.data.toList.drop i) ≤ 65536) (w : World) (hr : Rdr w b s i c) :
    Calls Tryd.prog 21 #[.pointer (some ⟨b, 0, none⟩)] w fun e w' => RowR (rowO (s.data.toList.drop i)) s b c w e w' ∧ Off b w w' := by
  obtain ⟨i0, hi', hz0, hz1, hz2⟩ := info_of info_str
  have HSZ : Hid (s.data.toList.length = s.size) := (Lib.size_eq s).symm
  have HBT := Lib.hid (btN_str s)
  have HN := Lib.hid (fun j c' (hj : j ≤ s.size) W (h : Rdr W b s j c') => newline_any s hs b j c' hj W h)
  have HC := Lib.hid (fun j c' (hj : j ≤ s.size) (h : c' < 65536) W (h : Rdr W b s j c') => rd_cell s hs b j c' hj (by omega) W h)
  obtain ⟨O, hO0⟩ : ∃ O, rowO (s.data.toList.drop i) = O := ⟨_, rfl⟩
  have HO0 := Lib.hid hO0
  rw [hO0]
  have hblt := hr.lt
  have HR := Lib.hid hr
  have HCNT := Lib.hid hc
  clear hr hO0 hc
  go_enter Tryd.func21, Tryd.ntmps21
  go_wp2_with fail
  go_loopg [4] (s.size + 1) (fun g v4 wr => ∃ (j : Nat) (C : List Bs), j ≤ s.size ∧ s.size + 1 ≤ j + g ∧ O = (rowO (s.data.toList.drop j)).map (fun x => (C ++ x.1, x.2)) ∧ C.length + c + cntO (s.data.toList.drop j) ≤ 65536 ∧ wr.ownsRow w.heap.size 9 1 v4 C.length (C.flatMap bsE) ∧ Rdr wr b s j (c + C.length) ∧ Off b w wr)
  case atStart => exact ⟨i, [], hi, by omega, by rw [HO0.out]; cases O <;> simp, by have := HCNT.out; simp; omega, World.ownsRow_nil _ _ _ _, HR.out, Off.refl _ _⟩
  case round =>
    obtain ⟨j, C, hjs, hg, hP, hcn, hown, hR, hO⟩ := hrel
    have HP := Lib.hid hP
    have hcp := cntO_pos (s.data.toList.drop j)
    have HCN := Lib.hid hcn
    have hCl : C.length < 65536 := by omega
    have hcl : c + C.length < 65536 := by omega
    have HOW := Lib.hid hown
    have HRr := Lib.hid hR
    have HO := Lib.hid hO
    clear hP hcn hown hR hO hcp HCNT
    go_wp2_with fail
    refine (HC.out j (c + C.length) hjs hcl wr HRr.out).mono ?_
    rintro e w1 ⟨hcell, hoff⟩
    have HOW1 := Lib.hid (hoff.row HRr.out HOW.out (by decide))
    have HO1 := Lib.hid (HO.out.trans hoff)
    have hz1' := HO1.out.size
    clear hoff HOW HO HRr
    cases hpc : pCell (s.data.toList.drop j) with
    | none =>
      rw [hpc] at hcell
      obtain ⟨X, k, rfl, hk, hR⟩ := hcell
      have HON : Hid (O = none) := by unfold Hid; rw [HP.out, (rowO_none hpc).1]; rfl
      clear hpc hR
      go_wp2_with fail
      go_ret2
      refine ⟨?_, HO1.out⟩
      rw [HON.out]
      exact rfl
    | some x =>
      obtain ⟨x, rest⟩ := x
      rw [hpc] at hcell
      obtain ⟨k, rfl, hk, hrest, hR⟩ := hcell
      subst hrest
      have hjk : j ≤ k := by
        have := (pCell_ends _ _ _ hpc).2
        rw [List.length_drop, List.length_drop, HSZ.out] at this
        omega
      have HPC := Lib.hid hpc
      have HR1 := Lib.hid hR
      clear hpc hR
      go_wp2_with (at_builtin; refine wpList_append_own _ rfl _ _ _ rfl w.heap.size 9 i0 (.string ⟨#[]⟩) 1 16 Tryd.underlying22 hi' hz0 hz1 hz2 rfl (by decide) _ _ _ rfl (HOW1.out.alloc _) ⟨w1.heap.size, 0, none⟩ 1 1 (bsE x) rfl rfl ?c1 ?c2 ?c3 ?c4 ?c5 ?_)
      case c1 => exact new1 w1 _ _
      case c2 => exact bsE_one _
      case c3 => unfold maxLen; omega
      case c4 => omega
      case c5 => first | omega | (simp; omega)
      intro v' w4 hown4 hgrow4 _
      have hb4 : Below w.heap.size w1 w4 := ((Below.refl _ _).alloc (by omega) _).grown hgrow4 (by simp; omega) (fun k hk => (HOW1.out.lt k hk).1)
      have HR := Lib.hid (HR1.out.belowB hb4 hblt)
      have HO := Lib.hid (HO1.out.callB rfl hb4)
      have HOW : Hid (w4.ownsRow w.heap.size 9 1 v' (C.length + 1) ((C ++ [x]).flatMap bsE)) := by
        unfold Hid
        rw [flat_snoc]
        exact hown4
      have hz4 := HO.out.size
      clear hown4 hgrow4 hb4 HR1 HO1 HOW1
      by_cases h44 : k < s.size ∧ btN s.data.toList k = 44
      · obtain ⟨hlt, h44b⟩ := h44
        have hne : ((k : Int) == (s.size : Int)) = false := by simp; omega
        have hl1 : (k : Int) < (s.size : Int) := by omega
        have hk0 : (0 : Int) ≤ (k : Int) := by omega
        have hb2 : (((s[k]'hlt).toNat : Nat) : Int) = 44 := by rw [HBT.out k hlt, h44b]; rfl
        have hdc := drop_com s.data.toList k (by rw [HSZ.out]; exact hlt) h44b
        have hro := HPC.out
        rw [hdc] at hro
        have HON : Hid (O = (rowO (s.data.toList.drop (k + 1))).map (fun y => ((C ++ [x]) ++ y.1, y.2)) ∧ (C ++ [x]).length + c + cntO (s.data.toList.drop (k + 1)) ≤ 65536) := by
          refine ⟨?_, ?_⟩
          · rw [HP.out, (rowO_com hro).1]
            cases rowO (s.data.toList.drop (k + 1)) <;> simp
          · have := HCN.out
            rw [(rowO_com hro).2] at this
            rw [List.length_append, List.length_singleton]
            omega
        clear hdc hro h44b HPC HP HCN
        obtain ⟨q0, q1, q2, qf, _⟩ := HR.out.cells
        have r0 := cell_regrown q0
        have r1 := cell_regrown q1
        go_wp2_with fail
        refine wp_region_quiet_below (by kernel_rfl) (by kernel_rfl) ?_
        repeat (go_big_quiet_step (fail))
        refine wpQuiet_nil ?_
        intro _ hw'
        obtain ⟨⟨dq, osq⟩, hw''⟩ := hw'
        subst hw''
        have hR := HR.out.below (below_regrown w4 dq osq)
        have hO := HO.out.call (below_regrown w4 dq osq)
        have hW := row_below HOW.out (below_regrown w4 dq osq)
        clear r0 r1 q0 q1 q2 qf HR HO HOW
        generalize Go.Sort.grow (redrawn w4 dq) osq = w5 at hR hO hW ⊢
        have HR := Lib.hid hR
        have HO := Lib.hid hO
        have HOW := Lib.hid hW
        clear hR hO hW
        obtain ⟨q0, q1, q2, qf, _⟩ := HR.out.cells
        have hR := HR.out.setz ((k : Int) + 1) (k + 1) (by omega)
        have hO := HO.out.set 1 (.int .i64 ((k : Int) + 1))
        have hW := ((Off.refl b w5).set 1 (.int .i64 ((k : Int) + 1))).row HR.out HOW.out (by decide)
        clear HR HO HOW
        go_wp2_with fail
        clear q0 q1 q2 qf
        generalize w5.setCell ⟨b, 1, none⟩ (.int .i64 ((k : Int) + 1)) = w6 at hR hO hW ⊢
        have HR := Lib.hid hR
        have HO := Lib.hid hO
        have HOW := Lib.hid hW
        clear hR hO hW
        go_roundg (gk - 1)
        case measure => omega
        case rel => exact ⟨k + 1, C ++ [x], by omega, by omega, HON.out.1, HON.out.2, by rw [List.length_append, List.length_singleton]; exact HOW.out, by rw [List.length_append, List.length_singleton]; exact HR.out, HO.out⟩
      · have hdn := drop_not s.data.toList k (by rw [HSZ.out]; exact h44)
        have hnl := nlN_le (s.data.toList.drop k)
        rw [List.length_drop, HSZ.out] at hnl
        have HON : Hid (O = some (C ++ [x], s.data.toList.drop (k + nlN (s.data.toList.drop k)))) := by
          unfold Hid
          rw [HP.out, (rowO_end HPC.out hdn).1, List.drop_drop]
          rfl
        have hq2 : s.size = k ∨ (∃ h : k < s.size, ((((s[k]'h).toNat : Nat) : Int) != 44) = true) := by
          rcases Nat.lt_or_ge k s.size with h | h
          · refine .inr ⟨h, ?_⟩
            have h3 : btN s.data.toList k ≠ 44 := fun e => h44 ⟨h, e⟩
            rw [HBT.out k h]
            simp
            omega
          · exact .inl (by omega)
        have HNL := Lib.hid (HN.out k (c + C.length + 1) hk)
        generalize nlN (s.data.toList.drop k) = n at hnl HON HNL
        clear hdn h44 HPC HP HCN HC HN
        go_upto_region 6 with fail
        go_cut [39] (fun v wx => v = .bool true ∧ wx.ownsRow w.heap.size 9 1 v' (C.length + 1) ((C ++ [x]).flatMap bsE) ∧ Rdr wx b s k (c + C.length + 1) ∧ Off b w wx)
        case first =>
          rcases hq2 with h2 | ⟨h2a, h2b⟩
          · subst h2
            have hne : ((s.size : Int) == (s.size : Int)) = true := by simp
            obtain ⟨q0, q1, q2, qf, _⟩ := HR.out.cells
            have r0 := cell_regrown q0
            have r1 := cell_regrown q1
            go_wp2_with fail
            refine wp_region_quiet_below (by kernel_rfl) (by kernel_rfl) ?_
            repeat (go_big_quiet_step (fail))
            refine wpQuiet_nil ?_
            intro _ hw'
            obtain ⟨⟨dq, osq⟩, hw''⟩ := hw'
            subst hw''
            have hR := HR.out.below (below_regrown w4 dq osq)
            have hO := HO.out.call (below_regrown w4 dq osq)
            have hW := row_below HOW.out (below_regrown w4 dq osq)
            clear r0 r1 q0 q1 q2 qf HR HO HOW
            generalize Go.Sort.grow (redrawn w4 dq) osq = w5 at hR hO hW ⊢
            have HR := Lib.hid hR
            have HO := Lib.hid hO
            have HOW := Lib.hid hW
            clear hR hO hW
            go_wp2_with fail
            go_meet
            exact ⟨rfl, HOW.out, HR.out, HO.out⟩
          · have hne : ((k : Int) == (s.size : Int)) = false := by simp; omega
            have hl1 : (k : Int) < (s.size : Int) := by omega
            have hk0 : (0 : Int) ≤ (k : Int) := by omega
            obtain ⟨q0, q1, q2, qf, _⟩ := HR.out.cells
            have r0 := cell_regrown q0
            have r1 := cell_regrown q1
            go_wp2_with fail
            refine wp_region_quiet_below (by kernel_rfl) (by kernel_rfl) ?_
            repeat (go_big_quiet_step (fail))
            refine wpQuiet_nil ?_
            intro _ hw'
            obtain ⟨⟨dq, osq⟩, hw''⟩ := hw'
            subst hw''
            have hR := HR.out.below (below_regrown w4 dq osq)
            have hO := HO.out.call (below_regrown w4 dq osq)
            have hW := row_below HOW.out (below_regrown w4 dq osq)
            clear r0 r1 q0 q1 q2 qf HR HO HOW
            generalize Go.Sort.grow (redrawn w4 dq) osq = w5 at hR hO hW ⊢
            have HR := Lib.hid hR
            have HO := Lib.hid hO
            have HOW := Lib.hid hW
            clear hR hO hW
            go_wp2_with fail
            go_meet
            exact ⟨rfl, HOW.out, HR.out, HO.out⟩
        case rest =>
          clear HR HO HOW hq2
          obtain ⟨rfl, hW, hR, hO⟩ := hcut
          have HR := Lib.hid hR
          have HO := Lib.hid hO
          have HOW := Lib.hid hW
          obtain ⟨q0, q1, q2, qf, _⟩ := HR.out.cells
          have hkn : ¬ (9223372036854775807 : Int) < (k : Int) + (n : Int) := by omega
          clear hR hO hW
          have HNW : Hid (∀ W, Below wc.heap.size wc W → Calls Tryd.prog 30 #[.pointer (some ⟨b, 0, none⟩)] W fun e w' => e = .returned (.int .i64 (n : Nat)) ∧ Below W.heap.size W w') := fun W hW => HNL.out W (HR.out.below hW)
          have hblc := HR.out.lt
          obtain ⟨q, cp, rfl, hc1, hc2, _, _⟩ := RdG.of_own (sz := 1) (L := C ++ [x]) bsE_len (by rw [List.length_append]; rfl) HOW.out
          have HWR : Hid (IntKind.i64.wrap ((k : Int) + (n : Int)) = (k : Int) + (n : Int)) := IntWalk.i64_in _ (by omega)
          have FIN : Hid (∀ W z, z = (k : Int) + (n : Int) → Below wc.heap.size wc W → RowR O s b c w (.returned (.tuple #[.slice q (C.length + 1) cp, .bool true])) (W.setCell ⟨b, 1, none⟩ (.int .i64 z)) ∧ Off b w (W.setCell ⟨b, 1, none⟩ (.int .i64 z))) := fun W z hz hW => by
            subst hz
            have hR := (HR.out.below hW).setz ((k : Int) + (n : Int)) (k + n) (by omega)
            have hO := (HO.out.call hW).set 1 (.int .i64 ((k : Int) + (n : Int)))
            have hW2 := ((Off.refl b W).set 1 (.int .i64 ((k : Int) + (n : Int)))).row (HR.out.below hW) (row_below HOW.out hW) (by decide)
            obtain ⟨q', cp', e, _, hcm, hrd, hbl⟩ := RdG.of_own (sz := 1) (L := C ++ [x]) bsE_len (by rw [List.length_append]; rfl) hW2
            cases e
            refine ⟨?_, hO⟩
            rw [HON.out]
            refine ⟨q, C.length + 1, cp, k + n, rfl, hrd, hc1, by unfold maxLen at hcm; omega, own_str hW2, by omega, rfl, by rw [List.length_append]; exact hR⟩
          clear HR HO HOW HON HNL
          go_wp2_with fail
          go_region_with (first | (go_at_call 30; refine (HNW.out _ (by (repeat' (first | (with_reducible exact Below.refl _ _) | (with_reducible assumption) | (with_reducible refine Below.alloc ?_ ?_ _) | (with_reducible refine bel_drewN ?_ _) | (with_reducible refine Below.drew ?_) | (with_reducible refine Below.setCell ?_ ?_ _) | (with_reducible refine bel_call ‹_› ?_ ?_) | go_size)))).mono ?_; rintro e w8 ⟨rfl, hb8⟩; obtain ⟨hc8, hf8, hz8⟩ := bcell hb8 (by first | (simp only [World.size_alloc, World.size_setCell, World.size_drew]; rfl) | rfl)))
          all_goals go_wp2_with fail
          all_goals go_ret2
          all_goals refine FIN.out _ _ ?_ ?_
          all_goals first | (with_reducible rfl) | exact HWR.out | ((repeat' (first | (with_reducible exact Below.refl _ _) | (with_reducible assumption) | (with_reducible refine Below.alloc ?_ ?_ _) | (with_reducible refine bel_drewN ?_ _) | (with_reducible refine Below.drew ?_) | (with_reducible refine Below.setCell ?_ ?_ _) | (with_reducible refine bel_call ‹_› ?_ ?_) | go_size)))
end Go.Proofs.YthgeajmggbakbaaDoor
