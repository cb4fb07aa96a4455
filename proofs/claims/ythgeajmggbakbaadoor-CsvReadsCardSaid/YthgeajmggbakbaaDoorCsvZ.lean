/- CSV: the document's Read; the walk of CsvReads. -/
import Derived.Test.YthgeajmggbakbaaDoorCsvY
import Derived.Test.YthgeajmggbakbaaDoorCsvT
set_option linter.unusedSimpArgs false
set_option linter.unusedVariables false
namespace Go.Proofs.YthgeajmggbakbaaDoor
open Go.RowKit Go.Joins

theorem step_any {w : World} {b Br B K c : Nat} {x : St} {rv Rv : Value} {Ls : List Rw} (d : UInt8) (hK : K ≤ 20000) (h : StM w b Br B K x c rv Rv Ls) (hBb : B ≤ b) :
    Calls Tryd.prog 22 #[.pointer (some ⟨b, 0, none⟩), .int .u8 ((d.toNat : Nat) : Int)] w fun e w' => StepR (rStep x d) x b B (K + 3) e w' ∧ Below B w w' := by
  rw [sN_is]
  have hd := d.toNat_lt
  obtain ⟨pt, cell, row, rows⟩ := x
  by_cases h0 : pt = 0
  · subst h0; exact step_0 _ hd hK h hBb
  · by_cases h4 : pt = 4
    · subst h4; exact step_4 _ hd hK h hBb
    · by_cases h2 : pt = 2
      · subst h2; exact step_2 _ hd hK h hBb
      · by_cases h3 : pt = 3
        · subst h3; exact step_3 _ hd hK h hBb
        · exact step_1 _ hd hK pt h0 h2 h3 h4 h hBb

/-- What the document's Read leaves. -/
def Read2R (o : List (List Bs) × Nat × Bool) (e : Ending) (w' : World) : Prop := ∃ (p : Option Addr) (n cap : Nat) (Ls : List Rw), e = .returned (.tuple #[.slice p n cap, .int .i64 (o.2.1 : Nat), .bool o.2.2]) ∧ RdRs w' p n Ls ∧ n ≤ 9223372036854775807 ∧ Ls.map Rw.R = o.1
theorem StM.open {w : World} {b Br B K c : Nat} {x : St} {rv Rv : Value} {Ls : List Rw} (h : StM w b Br B K x c rv Rv Ls) : ∃ p n cap q cp, rv = .slice p n cap ∧ n = x.row.length ∧ Rv = .slice q Ls.length cp ∧ RdRs w q Ls.length Ls := by
  obtain ⟨p, cap, rfl, _⟩ := RdG.of_own (sz := 1) (L := x.row) bsE_len rfl h.row
  obtain ⟨q, cp, rfl, _, _, hrd, _⟩ := RdG.of_own (sz := 1) (L := Ls) rwE_len rfl h.rrow
  exact ⟨p, _, cap, q, cp, rfl, rfl, rfl, ⟨hrd, fun r hr => (h.ap r hr).1⟩⟩
theorem run_none {x : St} {d : UInt8} {L : Bs} (h : rStep x d = none) : rRun x (d :: L) = ([], x.rows.length + 1, false) := by rw [rRun, h]
theorem run_some {x y : St} {d : UInt8} {L : Bs} (h : rStep x d = some y) : rRun x (d :: L) = rRun y L := by rw [rRun, h]
theorem fin_bad {x : St} (h : x.pt = 2 ∨ x.pt = 4) : rFin x = ([], x.rows.length + 1, false) := by unfold rFin; rw [if_pos h]
theorem fin_end {x : St} (h : ¬ (x.pt = 2 ∨ x.pt = 4)) (h2 : x.pt ≠ 0 ∨ 0 < x.row.length) : rFin x = ((rEnd x true).rows, 0, true) := by unfold rFin; rw [if_neg h, if_pos h2]
theorem fin_plain {x : St} (h : ¬ (x.pt = 2 ∨ x.pt = 4)) (h2 : ¬ (x.pt ≠ 0 ∨ 0 < x.row.length)) : rFin x = (x.rows, 0, true) := by unfold rFin; rw [if_neg h, if_neg h2]

set_option maxRecDepth 100000 in
set_option maxHeartbeats 8000000 in
theorem rread_any (s : ByteArray) (hs : s.size ≤ 2000) (w : World) :
    Calls Tryd.prog 13 #[.string s] w fun e w' => Read2R (rRead s.data.toList) e w' ∧ Below w.heap.size w w' := by
  have HSZ : Hid (s.data.toList.length = s.size) := (Lib.size_eq s).symm
  obtain ⟨O, hO0⟩ : ∃ O, rRead s.data.toList = O := ⟨_, rfl⟩
  have HO0 : Hid (O = rRun ⟨0, [], [], []⟩ (s.data.toList.drop 0)) := by unfold Hid; rw [← hO0]; rfl
  rw [hO0]
  have HS0 : Hid (StM (w.alloc (.cells #[.int .i64 0, .string ⟨#[]⟩, .slice none 0 0, .slice none 0 0, .int .i64 0] tSt)) w.heap.size w.heap.size w.heap.size 0 ⟨0, [], [], []⟩ 0 (.slice none 0 0) (.slice none 0 0) []) :=
    { blk := heap_alloc_new w _, hBr := by simp, hB := Nat.le_refl _, row := World.ownsRow_nil _ _ _ _, rows := rfl, rrow := World.ownsRow_nil _ _ _ _, ap := fun r hr => absurd hr List.not_mem_nil, k1 := Nat.le_refl _, k2 := Nat.le_refl _, k3 := Nat.le_refl _, k4 := Nat.le_refl _ }
  have HB0 : Hid (Below w.heap.size w (w.alloc (.cells #[.int .i64 0, .string ⟨#[]⟩, .slice none 0 0, .slice none 0 0, .int .i64 0] tSt))) := by unfold Hid; (repeat' (first | (with_reducible exact Below.refl _ _) | (with_reducible assumption) | (with_reducible refine Below.alloc ?_ ?_ _) | (with_reducible refine bel_drewN ?_ _) | (with_reducible refine Below.drew ?_) | (with_reducible refine Below.setCell ?_ ?_ _) | (with_reducible refine bel_call ‹_› ?_ ?_) | go_size))
  clear hO0
  go_enter Tryd.func13, Tryd.ntmps13
  go_upto_region 2 with fail
  generalize w.alloc (.cells #[.int .i64 0, .string ⟨#[]⟩, .slice none 0 0, .slice none 0 0, .int .i64 0] tSt) = w0 at HS0 HB0 ⊢
  go_wp2_with fail
  go_loopg [6] s.size (fun g v6 wr => ∃ (i : Nat) (x : St) (Br c : Nat) (rv Rv : Value) (Ls : List Rw), i + g = s.size ∧ v6 = .int .i64 i ∧ StM wr w.heap.size Br w.heap.size (3 * i) x c rv Rv Ls ∧ O = rRun x (s.data.toList.drop i) ∧ Below w.heap.size w wr)
  case atStart => exact ⟨0, _, _, _, _, _, _, by omega, rfl, HS0.out, HO0.out, HB0.out⟩
  case round =>
    obtain ⟨i, x, Br, c, rv, Rv, Ls, hig, rfl, hS, hO, hB⟩ := hrel
    have HS := Lib.hid hS
    have HO := Lib.hid hO
    have HB := Lib.hid hB
    have hzr := hB.size
    clear hS hO hB HS0 HO0 HB0
    by_cases hlt : i < s.size
    · have hli : (i : Int) < (s.size : Int) := by omega
      have hi0 : (0 : Int) ≤ (i : Int) := by omega
      have hiL : i < s.data.toList.length := by rw [HSZ.out]; exact hlt
      have HST := Lib.hid (step_any (s.data.toList[i]'hiL) (by omega) HS.out (Nat.le_refl _))
      have hby : ((s[i].toNat : Nat) : Int) = (((s.data.toList[i]'hiL).toNat : Nat) : Int) := rfl
      have HDR : Hid (s.data.toList.drop i = s.data.toList[i]'hiL :: s.data.toList.drop (i + 1)) := List.drop_eq_getElem_cons hiL
      generalize s.data.toList[i]'hiL = d at HST hby HDR
      go_wp2_with fail
      refine HST.out.mono ?_
      rintro e w1 ⟨hstep, hb1⟩
      have HB1 : Hid (Below w.heap.size w w1) := HB.out.trans hb1
      cases hr : rStep x d with
      | none =>
        rw [hr] at hstep
        obtain ⟨rfl, Br', c', rv', Rv', Ls', hS'⟩ := hstep
        have HON : Hid (O = ([], Ls'.length + 1, false)) := by
          unfold Hid
          rw [HO.out, HDR.out, run_none hr, ← hS'.rows, List.length_map]
        obtain ⟨p, n, cap, q, cp, rfl, _, rfl, _⟩ := hS'.open
        obtain ⟨q0, q1, q2, q3, q4⟩ := hS'.cells
        have hk3 := hS'.k3
        have r3 := cell_regrown q3
        clear hS' hr hb1 HST HS HO
        go_wp2_with fail
        refine wp_region_quiet_below (by kernel_rfl) (by kernel_rfl) ?_
        repeat (go_big_quiet_step (fail))
        refine wpQuiet_nil ?_
        intro _ hw'
        obtain ⟨⟨dq, osq⟩, hw''⟩ := hw'
        subst hw''
        have hbx : Below w.heap.size w (Go.Sort.grow (redrawn w1 dq) osq) := bel_call (below_regrown w1 dq osq) HB1.out HB1.out.size
        clear r3 q0 q1 q2 q3 q4
        go_wp2_with fail
        go_ret3
        refine ⟨?_, hbx⟩
        rw [HON.out]
        exact ⟨none, 0, 0, [], by rfl, rdrs_nil _, by omega, rfl⟩
      | some y =>
        rw [hr] at hstep
        obtain ⟨rfl, Br', c', rv', Rv', Ls', hS'⟩ := hstep
        have HS' := Lib.hid hS'
        have HON : Hid (O = rRun y (s.data.toList.drop (i + 1))) := by
          unfold Hid
          rw [HO.out, HDR.out, run_some hr]
        clear hS' hr hb1 HST HS HO
        go_wp2_with fail
        go_roundg (gk - 1)
        case measure => omega
        case rel => exact ⟨i + 1, y, Br', c', rv', Rv', Ls', by omega, by go_num, HS'.out.mono (by omega), HON.out, HB1.out⟩
    · obtain rfl : i = s.size := by omega
      have hli : ¬ (s.size : Int) < (s.size : Int) := by omega
      have HO1 : Hid (O = rFin x) := by
        unfold Hid
        rw [HO.out, List.drop_eq_nil_of_le (by rw [HSZ.out]; exact Nat.le_refl _)]
        rfl
      obtain ⟨p, n, cap, q, cp, rfl, hn, rfl, hrd⟩ := HS.out.open
      have HRD := Lib.hid hrd
      obtain ⟨q0, q1, q2, q3, q4⟩ := HS.out.cells
      have hk3 := HS.out.k3
      have hk2 := HS.out.k2
      clear HO hrd
      by_cases h24 : x.pt = 2 ∨ x.pt = 4
      · have HON : Hid (O = ([], Ls.length + 1, false)) := by
          unfold Hid
          rw [HO1.out, fin_bad h24, ← HS.out.rows, List.length_map]
        have r3 := cell_regrown q3
        clear HO1
        generalize x.pt = pt at q0 h24
        rcases h24 with rfl | rfl
        all_goals
          go_wp2_with fail
          refine wp_region_quiet_below (by kernel_rfl) (by kernel_rfl) ?_
          repeat (go_big_quiet_step (fail))
          refine wpQuiet_nil ?_
          intro _ hw'
          obtain ⟨⟨dq, osq⟩, hw''⟩ := hw'
          subst hw''
          have hbx : Below w.heap.size w (Go.Sort.grow (redrawn wr dq) osq) := bel_call (below_regrown wr dq osq) HB.out hzr
          clear r3 q0 q1 q2 q3 q4
          go_wp2_with fail
          go_ret3
          refine ⟨?_, hbx⟩
          rw [HON.out]
          exact ⟨none, 0, 0, [], by rfl, rdrs_nil _, by omega, rfl⟩
      · have n2 : ((x.pt : Int) == 2) = false := by simp; omega
        have n4 : ((x.pt : Int) == 4) = false := by simp; omega
        by_cases he : x.pt ≠ 0 ∨ 0 < x.row.length
        · have HE := Lib.hid (end_row true (by omega) HS.out (Nat.le_refl _))
          have HON : Hid (O = ((rEnd x true).rows, 0, true)) := by unfold Hid; rw [HO1.out, fin_end h24 he]
          have FIN : Calls Tryd.prog 23 #[.pointer (some ⟨w.heap.size, 0, none⟩), .bool true] wr fun e w' => e = .returned (.tuple #[]) ∧ ∃ (q : Option Addr) (m cp : Nat) (Ms : List Rw), w'.cell? ⟨w.heap.size, 3, none⟩ = some (.slice q m cp) ∧ RdRs w' q m Ms ∧ m ≤ 9223372036854775807 ∧ Ms.map Rw.R = (rEnd x true).rows ∧ Below w.heap.size w w' := HE.out.mono fun e w' h' => by
            obtain ⟨rfl, ⟨Br', rv', Rv', Ls', hS'⟩, hb'⟩ := h'
            obtain ⟨_, _, _, q', cp', _, _, e', hrd'⟩ := hS'.open
            subst e'
            exact ⟨rfl, q', _, cp', Ls', hS'.cells.2.2.2.1, hrd', by have := hS'.k3; omega, hS'.rows, HB.out.trans hb'⟩
          have HF := Lib.hid FIN
          clear FIN HE HO1 HS HRD
          generalize (rEnd x true).rows = RR at HF HON
          generalize x.row.length = rl at hn he hk2
          subst hn
          generalize x.pt = pt at q0 n2 n4 he h24
          have hnl : n ≤ 9223372036854775807 := by omega
          by_cases h0 : pt = 0
          · subst h0
            have hn0 : (0 : Int) < (n : Int) := by omega
            go_wp2_with fail
            refine HF.out.mono ?_
            rintro e w2 ⟨rfl, q2', m, cp2, Ms, hc3, hrd2, hm, hMs, hb2⟩
            have HRD := Lib.hid hrd2
            have HM := Lib.hid hMs
            have HB2 := Lib.hid hb2
            clear hrd2 hMs hb2
            go_wp2_with fail
            go_ret3
            refine ⟨?_, HB2.out⟩
            rw [HON.out]
            exact ⟨q2', m, cp2, Ms, by rfl, HRD.out, hm, HM.out⟩
          · have n0 : ((pt : Int) == 0) = false := by simp; omega
            have n0' : ((pt : Int) != 0) = true := by simp; omega
            go_wp2_with fail
            refine HF.out.mono ?_
            rintro e w2 ⟨rfl, q2', m, cp2, Ms, hc3, hrd2, hm, hMs, hb2⟩
            have HRD := Lib.hid hrd2
            have HM := Lib.hid hMs
            have HB2 := Lib.hid hb2
            clear hrd2 hMs hb2
            go_wp2_with fail
            go_ret3
            refine ⟨?_, HB2.out⟩
            rw [HON.out]
            exact ⟨q2', m, cp2, Ms, by rfl, HRD.out, hm, HM.out⟩
        · have HON : Hid (O = (x.rows, 0, true)) := by unfold Hid; rw [HO1.out, fin_plain h24 he]
          have HRW : Hid (Ls.map Rw.R = x.rows) := HS.out.rows
          clear HO1 HS
          have hn0 : n = 0 := by omega
          subst hn0
          have h0 : x.pt = 0 := by omega
          rw [h0] at q0 n2 n4
          clear hn he h24 h0
          have hLl : Ls.length ≤ 9223372036854775807 := by omega
          go_wp2_with fail
          go_ret3
          refine ⟨?_, HB.out⟩
          rw [HON.out]
          exact ⟨q, Ls.length, cp, Ls, by rfl, HRD.out, hLl, HRW.out⟩

set_option maxRecDepth 100000 in
set_option maxHeartbeats 4000000 in
theorem reads_walk (s : ByteArray) (w : World) (hsh : w.ShapedOpen Tryd.prog) :
    Calls Tryd.prog 4 #[.string s] w fun e w' => e = .returned (.bool true) ∧ Below w.heap.size w w' := by
  have HA : Hid (∀ W, Below w.heap.size w W → Calls Tryd.prog 7 #[] W fun e w' => e = .returned (.bool true) ∧ Below W.heap.size W w') := fun W h => awake_any W (shaped_below hsh h)
  by_cases h2 : s.size ≤ 2000
  · have h2i : ¬ (2000 : Int) < (s.size : Int) := by omega
    have HR := Lib.hid (read_any s (by omega) ⟨_, fits_short _ 0 s.data.toList (Nat.lt_succ_self _) (by have := Lib.size_eq s; omega)⟩ w)
    have HRR := Lib.hid (fun W => rread_any s h2 W)
    generalize rRead s.data.toList = O at HR HRR
    obtain ⟨rows, k, ok⟩ := O
    cases ok
    · go_enter Tryd.func4, Tryd.ntmps4
      go_wp2_with fail
      refine HR.out.mono ?_
      rintro e w1 ⟨⟨p, n, cap, Ls, he, hrd, hn, hL⟩, hb1⟩
      have he : e = .returned (.tuple #[.slice p n cap, .int .i64 (k : Nat), .int .i64 21]) := he
      subst he
      have HRD := Lib.hid hrd
      have HL := Lib.hid hL
      have HB1 := Lib.hid hb1
      clear hrd hL hb1 HR
      go_wp2_with fail
      refine (HRR.out w1).mono ?_
      rintro e w2 ⟨⟨q, m, cq, Ms, he, hrd2, hm, hM⟩, hb2⟩
      have he : e = .returned (.tuple #[.slice q m cq, .int .i64 (k : Nat), .bool false]) := he
      subst he
      have HB2 : Hid (Below w.heap.size w w2) := bel_call hb2 HB1.out HB1.out.size
      have HSM := Lib.hid (same_yes p q n m cap cq Ls Ms w2 (HRD.out.below hb2) hrd2 hn (HL.out.trans hM.symm))
      clear hrd2 hM hb2 HRR
      go_wp2_with fail
      refine HSM.out.mono ?_
      rintro e w3 ⟨rfl, hb3⟩
      have HB3 : Hid (Below w.heap.size w w3) := bel_call hb3 HB2.out HB2.out.size
      clear hb3
      go_wp2_with fail
      refine (HA.out w3 HB3.out).mono ?_
      rintro e w4 ⟨rfl, hb4⟩
      go_wp2_with fail
      go_ret
      exact ⟨rfl, bel_call hb4 HB3.out HB3.out.size⟩
    · go_enter Tryd.func4, Tryd.ntmps4
      go_wp2_with fail
      refine HR.out.mono ?_
      rintro e w1 ⟨⟨p, n, cap, Ls, he, hrd, hn, hL⟩, hb1⟩
      have he : e = .returned (.tuple #[.slice p n cap, .int .i64 (k : Nat), .int .i64 0]) := he
      subst he
      have HRD := Lib.hid hrd
      have HL := Lib.hid hL
      have HB1 := Lib.hid hb1
      clear hrd hL hb1 HR
      go_wp2_with fail
      refine (HRR.out w1).mono ?_
      rintro e w2 ⟨⟨q, m, cq, Ms, he, hrd2, hm, hM⟩, hb2⟩
      have he : e = .returned (.tuple #[.slice q m cq, .int .i64 (k : Nat), .bool true]) := he
      subst he
      have HB2 : Hid (Below w.heap.size w w2) := bel_call hb2 HB1.out HB1.out.size
      have HSM := Lib.hid (same_yes p q n m cap cq Ls Ms w2 (HRD.out.below hb2) hrd2 hn (HL.out.trans hM.symm))
      clear hrd2 hM hb2 HRR
      go_wp2_with fail
      refine HSM.out.mono ?_
      rintro e w3 ⟨rfl, hb3⟩
      have HB3 : Hid (Below w.heap.size w w3) := bel_call hb3 HB2.out HB2.out.size
      clear hb3
      go_wp2_with fail
      refine (HA.out w3 HB3.out).mono ?_
      rintro e w4 ⟨rfl, hb4⟩
      go_wp2_with fail
      go_ret
      exact ⟨rfl, bel_call hb4 HB3.out HB3.out.size⟩
  · have h2i : (2000 : Int) < (s.size : Int) := by omega
    go_enter Tryd.func4, Tryd.ntmps4
    go_wp2_with fail
    refine (HA.out w (Below.refl _ _)).mono ?_
    rintro e w2 ⟨rfl, hb2⟩
    go_wp2_with fail
    go_ret
    exact ⟨rfl, hb2⟩
end Go.Proofs.YthgeajmggbakbaaDoor
