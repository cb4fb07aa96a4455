/- CSV: the program's Read. -/
import Derived.Test.YthgeajmggbakbaaDoorCsvQ
set_option linter.unusedSimpArgs false
set_option linter.unusedVariables false
namespace Go.Proofs.YthgeajmggbakbaaDoor
open Go.RowKit Go.Joins

theorem rwE_len (x : Rw) : (rwE x).length = 1 := rfl
theorem rwE_one (x : Rw) : ∀ u ∈ rwE x, u.oneCell' = true := by
  intro u hu
  simp only [rwE, List.mem_singleton] at hu
  subst hu
  rfl
theorem info_strs : (Tryd.prog.info? 22).map (fun i => (i.zero, i.size, i.bytes)) = some (some (.slice none 0 0), 1, 24) := by kernel_rfl
/-- A row that is read has as many cells as were begun. -/
theorem row_cnt : ∀ (f : Nat) (L : Bs) (cs : List Bs) (rest : Bs), pRow f L = some (cs, rest) → pCnt f L = cs.length
  | 0, L, cs, rest, h => by simp [pRow] at h
  | f + 1, L, cs, rest, h => by
    cases hc : pCell L with
    | none => rw [(rowK_none f hc).1] at h; cases h
    | some x =>
      obtain ⟨c, r0⟩ := x
      by_cases hr : ∃ r, r0 = 44 :: r
      · obtain ⟨r, rfl⟩ := hr
        rw [(rowK_com f hc).1] at h
        obtain ⟨y, hy, e⟩ := Option.map_eq_some_iff.1 h
        cases e
        have := row_cnt f r y.1 y.2 hy
        rw [(rowK_com f hc).2, this, List.length_cons]
        omega
      · have hn : ∀ r, r0 ≠ 44 :: r := fun r e => hr ⟨r, e⟩
        rw [(rowK_end f hc hn).1] at h
        cases h
        rw [(rowK_end f hc hn).2]
        rfl
theorem cnt_of {L : Bs} {cs : List Bs} {rest : Bs} (h : rowO L = some (cs, rest)) : cntO L = cs.length := row_cnt _ _ _ _ h
/-- How long a row is. -/
theorem row_len : ∀ (f : Nat) (L : Bs), (∀ cs rest, pRow f L = some (cs, rest) → (cs.length + rest.length ≤ L.length + 1 ∧ (rest ≠ [] → cs.length + rest.length ≤ L.length))) ∧ pCnt f L ≤ L.length + 1
  | 0, L => ⟨fun cs rest h => by simp [pRow] at h, by simp [pCnt]⟩
  | f + 1, L => by
    cases hc : pCell L with
    | none => exact ⟨fun cs rest h => by rw [(rowK_none f hc).1] at h; (cases h), by rw [(rowK_none f hc).2]; omega⟩
    | some x =>
      obtain ⟨c, r0⟩ := x
      have hl := (pCell_ends L c r0 hc).2
      have he := (pCell_ends L c r0 hc).1
      by_cases hr : ∃ r, r0 = 44 :: r
      · obtain ⟨r, rfl⟩ := hr
        rw [List.length_cons] at hl
        obtain ⟨h1, h2⟩ := row_len f r
        refine ⟨fun cs rest h => ?_, by rw [(rowK_com f hc).2]; omega⟩
        rw [(rowK_com f hc).1] at h
        obtain ⟨y, hy, e⟩ := Option.map_eq_some_iff.1 h
        cases e
        have := h1 y.1 y.2 hy
        refine ⟨by rw [List.length_cons]; omega, fun hne => ?_⟩
        have := this.2 hne
        rw [List.length_cons]
        omega
      · have hn : ∀ r, r0 ≠ 44 :: r := fun r e => hr ⟨r, e⟩
        refine ⟨fun cs rest h => ?_, by rw [(rowK_end f hc hn).2]; omega⟩
        rw [(rowK_end f hc hn).1] at h
        cases h
        rw [List.length_drop, List.length_singleton]
        refine ⟨by omega, fun hne => ?_⟩
        have hnl : 0 < nlN r0 ∨ r0 = [] := by
          rcases ends_cases he with rfl | ⟨r, rfl⟩ | ⟨r, rfl⟩ | ⟨r, rfl⟩
          · exact .inr rfl
          · exact absurd rfl (hn r)
          · exact .inl (by simp [nlN])
          · exact .inl (by simp [nlN])
        rcases hnl with h | rfl
        · have : r0.length ≠ 0 := fun e => hne (by rw [List.eq_nil_of_length_eq_zero e]; rfl)
          omega
        · exact absurd rfl hne
/-- The cells are not too many. -/
def fits : Nat → Nat → Bs → Prop
  | 0, _, L => L = []
  | f + 1, c, L => L = [] ∨ (c + cntO L ≤ 65536 ∧ ∀ cs rest, rowO L = some (cs, rest) → fits f (c + cs.length) rest)
theorem fits_short : ∀ (f c : Nat) (L : Bs), L.length < f → c + L.length + 1 ≤ 65536 → fits f c L
  | 0, c, L, h, _ => by omega
  | f + 1, c, L, hf, hc => by
    by_cases hL : L = []
    · exact .inl hL
    · refine .inr ⟨?_, fun cs rest h => ?_⟩
      · have := (row_len (L.length + 1) L).2
        unfold cntO
        omega
      · have h1 := (row_len (L.length + 1) L).1 cs rest h
        have h2 := pRow_less _ _ _ _ h hL
        by_cases hr : rest = []
        · subst hr
          cases f with
          | zero => rfl
          | succ f => exact .inl rfl
        · have := h1.2 hr
          exact fits_short f (c + cs.length) rest (by omega) (by omega)
theorem fits_step {f c : Nat} {L : Bs} (h : fits f c L) (hL : L ≠ []) : c + cntO L ≤ 65536 ∧ ∀ cs rest, rowO L = some (cs, rest) → ∃ f', fits f' (c + cs.length) rest := by
  cases f with
  | zero => exact absurd h hL
  | succ f =>
    rcases h with h | h
    · exact absurd h hL
    · exact ⟨h.1, fun cs rest hr => ⟨f, h.2 cs rest hr⟩⟩
theorem run0_nil (rows : List (List Bs)) : rRun ⟨0, [], [], rows⟩ [] = (rows, 0, true) := by simp [rRun, rFin]
theorem run0_none {L : Bs} (rows : List (List Bs)) (hL : L ≠ []) (h : rowO L = none) : rRun ⟨0, [], [], rows⟩ L = ([], rows.length + 1, false) := by
  have := run_row (L.length + 1) L [] rows (by omega) (.inl hL)
  have h : pRow (L.length + 1) L = none := h
  rw [h] at this
  exact this
theorem run0_some {L : Bs} (rows : List (List Bs)) (hL : L ≠ []) {cs : List Bs} {rest : Bs} (h : rowO L = some (cs, rest)) : rRun ⟨0, [], [], rows⟩ L = rRun ⟨0, [], [], rows ++ [cs]⟩ rest := by
  have := run_row (L.length + 1) L [] rows (by omega) (.inl hL)
  have h : pRow (L.length + 1) L = some (cs, rest) := h
  rw [h] at this
  exact this

/-- What Read leaves. -/
def ReadR (o : List (List Bs) × Nat × Bool) (e : Ending) (w' : World) : Prop := ∃ (p : Option Addr) (n cap : Nat) (Ls : List Rw), e = .returned (.tuple #[.slice p n cap, .int .i64 (o.2.1 : Nat), .int .i64 (if o.2.2 then 0 else 21)]) ∧ RdRs w' p n Ls ∧ n ≤ 9223372036854775807 ∧ Ls.map Rw.R = o.1
/-- Rows of strings, each in a block of its type. -/
def Apart (w : World) (Ls : List Rw) : Prop := ∀ r ∈ Ls, (RdG bsE 1 w r.p r.n r.R ∧ r.n ≤ r.cap ∧ r.n ≤ 9223372036854775807) ∧ Str w r.p r.n
theorem apart_nil (w : World) : Apart w [] := fun r hr => absurd hr List.not_mem_nil
/-- What keeps the blocks of strings keeps the rows. -/
theorem Apart.keep {w w' : World} {Ls : List Rw} (h : Apart w Ls) (hz : w.heap.size ≤ w'.heap.size) (hk : ∀ (k : Nat) cs fr, w.heap[k]? = some (.cells cs 9 fr) → w'.heap[k]? = w.heap[k]?) : Apart w' Ls := by
  intro r hr
  obtain ⟨⟨h1, h2⟩, h3⟩ := h r hr
  rcases h3 with h0 | ⟨a, cs, fr, ha, hb⟩
  · exact ⟨⟨⟨h1.1, .inl h0⟩, h2⟩, .inl h0⟩
  · have e := hk _ _ _ hb
    refine ⟨⟨⟨h1.1, ?_⟩, h2⟩, .inr ⟨a, cs, fr, ha, e.trans hb⟩⟩
    rcases h1.2 with h0 | ⟨g, off, hp, hg, hc⟩
    · exact .inl h0
    · rw [ha] at hp
      cases hp
      exact .inr ⟨g, off, ha, Nat.lt_of_lt_of_le hg hz, fun j x hx k u hu => by
        rw [← hc j x hx k u hu]
        exact World.cell?_of_block e⟩
theorem Apart.off {w w' : World} {b : Nat} {Ls : List Rw} (h : Apart w Ls) (ho : Off b w w') {s : ByteArray} {i c : Nat} (hR : Rdr w b s i c) : Apart w' Ls :=
  h.keep ho.size fun k cs fr hk => ho.block k (lt_of_some hk) (by
    rintro rfl
    rw [hR] at hk
    simp only [Option.some.injEq, Obj.cells.injEq] at hk
    exact absurd hk.2.1 (by decide))
theorem Apart.below {w w' : World} {Ls : List Rw} (h : Apart w Ls) (hb : Below w.heap.size w w') : Apart w' Ls := h.keep hb.size fun k cs fr hk => hb.block k (lt_of_some hk)
theorem Apart.grown {w w' : World} {Ls : List Rw} {base m : Nat} {v : Value} {xs : List Value} (h : Apart w Ls) (ho : w.ownsRow base 22 1 v m xs) (hg : w.grownBy w' v.ownBlock) : Apart w' Ls :=
  h.keep hg.size fun k cs fr hk => hg.block k (lt_of_some hk) (by
    rintro e
    rcases ho.2 with ⟨rfl, _⟩ | ⟨g, cap, cur, rfl, _, hh, _⟩
    · cases e
    · cases e
      rw [hh] at hk
      simp only [Option.some.injEq, Obj.cells.injEq] at hk
      exact absurd hk.2.1 (by decide))
theorem Rdr.grown {w w' : World} {b i c base m : Nat} {s : ByteArray} {v : Value} {xs : List Value} (h : Rdr w b s i c) (ho : w.ownsRow base 22 1 v m xs) (hg : w.grownBy w' v.ownBlock) : Rdr w' b s i c :=
  (hg.block b h.lt (by
    rintro e
    rcases ho.2 with ⟨rfl, _⟩ | ⟨g, cap, cur, rfl, _, hh, _⟩
    · cases e
    · cases e
      rw [h] at hh
      simp only [Option.some.injEq, Obj.cells.injEq] at hh
      exact absurd hh.2.1 (by decide))).trans h

theorem rdrs_nil (w : World) : RdRs w none 0 [] := ⟨RdG.nil _ _ _ _, fun r hr => absurd hr List.not_mem_nil⟩
theorem rdrs_of {w : World} {p : Option Addr} {n : Nat} {Ls : List Rw} (h : RdG rwE 1 w p n Ls) (ha : Apart w Ls) : RdRs w p n Ls := ⟨h, fun r hr => (ha r hr).1⟩

set_option maxRecDepth 100000 in
set_option maxHeartbeats 8000000 in
theorem read_any (s : ByteArray) (hs : s.size ≤ 10000000) (hft : ∃ f, fits f 0 s.data.toList) (w : World) :
    Calls Tryd.prog 12 #[.string s] w fun e w' => ReadR (rRead s.data.toList) e w' ∧ Below w.heap.size w w' := by
  obtain ⟨i0, hi', hz0, hz1, hz2⟩ := info_of info_strs
  have HSZ : Hid (s.data.toList.length = s.size) := (Lib.size_eq s).symm
  have HRW := Lib.hid (fun j c (hj : j ≤ s.size) (h : c + cntO (s.data.toList.drop j) ≤ 65536) W (hr : Rdr W w.heap.size s j c) => rd_row s hs w.heap.size j c hj h W hr)
  obtain ⟨O, hO0⟩ : ∃ O, rRead s.data.toList = O := ⟨_, rfl⟩
  have HO0 : Hid (O = rRun ⟨0, [], [], []⟩ (s.data.toList.drop 0)) := by unfold Hid; rw [← hO0]; rfl
  rw [hO0]
  have HFT := Lib.hid hft
  have hb0 : Below w.heap.size w (w.alloc (.cells #[.string s, .int .i64 0, .int .i64 0] 42)) := by (repeat' (first | (with_reducible exact Below.refl _ _) | (with_reducible assumption) | (with_reducible refine Below.alloc ?_ ?_ _) | (with_reducible refine bel_drewN ?_ _) | (with_reducible refine Below.drew ?_) | (with_reducible refine Below.setCell ?_ ?_ _) | (with_reducible refine bel_call ‹_› ?_ ?_) | go_size))
  have hr0 : Rdr (w.alloc (.cells #[.string s, .int .i64 0, .int .i64 0] 42)) w.heap.size s 0 0 := heap_alloc_new w _
  clear hO0 hft
  go_enter Tryd.func12, Tryd.ntmps12
  go_upto_region 2 with fail
  generalize hwA : w.alloc (.cells #[.string s, .int .i64 0, .int .i64 0] 42) = w0 at hb0 hr0 ⊢
  have hz0' : w0.heap.size = w.heap.size + 1 := by rw [← hwA]; exact World.size_alloc _ _
  have HB0 := Lib.hid hb0
  have HR0 := Lib.hid hr0
  clear hb0 hr0 hwA
  go_wp2_with fail
  go_loopg [6] (s.size + 1) (fun g v6 wr => ∃ (j c : Nat) (Ls : List Rw), j ≤ s.size ∧ s.size + 1 ≤ j + g ∧ Ls.length ≤ j ∧ O = rRun ⟨0, [], [], Ls.map Rw.R⟩ (s.data.toList.drop j) ∧ (∃ f, fits f c (s.data.toList.drop j)) ∧ wr.ownsRow w.heap.size 22 1 v6 Ls.length (Ls.flatMap rwE) ∧ Apart wr Ls ∧ Rdr wr w.heap.size s j c ∧ Below w.heap.size w wr)
  case atStart => exact ⟨0, 0, [], by omega, by omega, by simp, HO0.out, HFT.out, World.ownsRow_nil _ _ _ _, apart_nil _, HR0.out, HB0.out⟩
  case round =>
    obtain ⟨j, c, Ls, hjs, hg, hll, hP, hft, hown, hap, hR, hB⟩ := hrel
    have HP := Lib.hid hP
    have HF := Lib.hid hft
    have HOW := Lib.hid hown
    have HAP := Lib.hid hap
    have HR := Lib.hid hR
    have HB := Lib.hid hB
    have hzr := hB.size
    clear hP hft hown hap hR hB HR0 HB0 HO0 HFT
    obtain ⟨q0, q1, q2, qf, _⟩ := HR.out.cells
    by_cases hlt : j < s.size
    · have hl1 : (j : Int) < (s.size : Int) := by omega
      have hne : s.data.toList.drop j ≠ [] := fun e => by
        have := congrArg List.length e
        rw [List.length_drop, HSZ.out] at this
        simp at this
        omega
      obtain ⟨hcn, hfn⟩ := fits_step HF.out.choose_spec hne
      have HNE := Lib.hid hne
      have HFN := Lib.hid hfn
      have HRW2 := Lib.hid (HRW.out j c hjs hcn wr HR.out)
      clear hne hcn hfn HF
      go_wp2_with fail
      refine HRW2.out.mono ?_
      rintro e w1 ⟨hrow, hoff⟩
      have HOW1 := Lib.hid (hoff.row HR.out HOW.out (by decide))
      have HAP1 := Lib.hid (HAP.out.off hoff HR.out)
      have HB1 : Hid (Below w.heap.size w w1) := HB.out.trans (hoff.below (Nat.le_refl _) hzr)
      have hz1' := hoff.size
      clear hoff HRW2 HOW HAP HB HR q0 q1 q2 qf
      cases hro : rowO (s.data.toList.drop j) with
      | none =>
        rw [hro] at hrow
        have hrow : e = .returned (.tuple #[.slice none 0 0, .bool false]) := hrow
        subst hrow
        have HON : Hid (O = ([], Ls.length + 1, false)) := by
          unfold Hid
          rw [HP.out, run0_none _ HNE.out hro, List.length_map]
        obtain ⟨q, cp, rfl, _, _, _, _⟩ := RdG.of_own (sz := 1) (L := Ls) rwE_len rfl HOW1.out
        have hLi : (Ls.length : Int) ≤ 10000000 := by omega
        clear hro
        go_wp2_with fail
        go_ret3
        refine ⟨?_, HB1.out⟩
        rw [HON.out]
        exact ⟨none, 0, 0, [], by rfl, rdrs_nil _, by omega, rfl⟩
      | some x =>
        obtain ⟨cs, rest⟩ := x
        rw [hro] at hrow
        obtain ⟨p, n, cap, k, rfl, hrd, hnc, hnm, hpb, hks, rfl, hRk⟩ := hrow
        have hjk : j < k := by
          have := pRow_less _ _ _ _ hro HNE.out
          rw [List.length_drop, List.length_drop, HSZ.out] at this
          omega
        have HP2 : Hid (O = rRun ⟨0, [], [], (Ls ++ [Rw.mk p n cap cs]).map Rw.R⟩ (s.data.toList.drop k)) := by
          unfold Hid
          rw [HP.out, run0_some _ HNE.out hro, List.map_append]
          rfl
        have HF2 := Lib.hid (HFN.out _ _ hro)
        have HRD := Lib.hid hrd
        have HRK := Lib.hid hRk
        have HPB := Lib.hid hpb
        clear hro hrd hRk hpb HFN HP
        go_wp2_with (at_builtin; refine wpList_append_own _ rfl _ _ _ rfl w.heap.size 22 i0 (.slice none 0 0) 1 24 Tryd.underlying24 hi' hz0 hz1 hz2 rfl (by decide) _ _ _ rfl (HOW1.out.alloc _) ⟨w1.heap.size, 0, none⟩ 1 1 (rwE ⟨p, n, cap, cs⟩) rfl rfl ?c1 ?c2 ?c3 ?c4 ?c5 ?_)
        case c1 => exact new1 w1 _ _
        case c2 => exact rwE_one _
        case c3 => unfold maxLen; omega
        case c4 => omega
        case c5 => first | omega | (simp; omega)
        intro v' w4 hown4 hgrow4 _
        have hbA : Below w1.heap.size w1 (w1.alloc (.cells #[.slice p n cap] 22)) := (Below.refl _ _).alloc (Nat.le_refl _) _
        have HOWA := row_below HOW1.out hbA
        have hapA := HAP1.out.below hbA
        have HAP4 : Hid (Apart w4 (Ls ++ [Rw.mk p n cap cs])) := by
          have h1 : Apart (w1.alloc (.cells #[.slice p n cap] 22)) [Rw.mk p n cap cs] := Apart.below (w := w1) (by
            intro r hr
            rw [List.mem_singleton] at hr
            subst hr
            exact ⟨⟨HRD.out, hnc, hnm⟩, HPB.out⟩) hbA
          intro r hr
          rcases List.mem_append.1 hr with hr | hr
          · exact hapA.grown HOWA hgrow4 r hr
          · exact h1.grown HOWA hgrow4 r hr
        have HR4 := Lib.hid ((HRK.out.below hbA).grown HOWA hgrow4)
        have HB4 : Hid (Below w.heap.size w w4) := (HB1.out.alloc (by omega) _).grown hgrow4 (by simp; omega) (fun k hk => (HOW1.out.lt k hk).1)
        have HOW4 : Hid (w4.ownsRow w.heap.size 22 1 v' (Ls ++ [Rw.mk p n cap cs]).length ((Ls ++ [Rw.mk p n cap cs]).flatMap rwE)) := by
          unfold Hid
          rw [flat_snoc, List.length_append]
          exact hown4
        clear hown4 hgrow4 hbA HOWA hapA
        go_wp2_with fail
        go_roundg (gk - 1)
        case measure => omega
        case rel => exact ⟨k, c + cs.length, Ls ++ [Rw.mk p n cap cs], hks, by omega, by rw [List.length_append, List.length_singleton]; omega, HP2.out, HF2.out, HOW4.out, HAP4.out, HR4.out, HB4.out⟩
    · obtain rfl : j = s.size := by omega
      have hl1 : ¬ (s.size : Int) < (s.size : Int) := by omega
      have HON : Hid (O = (Ls.map Rw.R, 0, true)) := by
        unfold Hid
        rw [HP.out, List.drop_eq_nil_of_le (by rw [HSZ.out]; exact Nat.le_refl _), run0_nil]
      obtain ⟨q, cp, rfl, hc1, hc2, hrd, _⟩ := RdG.of_own (sz := 1) (L := Ls) rwE_len rfl HOW.out
      go_wp2_with fail
      go_ret3
      refine ⟨?_, HB.out⟩
      rw [HON.out]
      exact ⟨q, Ls.length, cp, Ls, by rfl, rdrs_of hrd HAP.out, by omega, rfl⟩
end Go.Proofs.YthgeajmggbakbaaDoor
