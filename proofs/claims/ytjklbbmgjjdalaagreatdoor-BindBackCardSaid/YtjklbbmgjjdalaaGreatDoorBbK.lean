/- Bind: lists of stamps in memory; the document's Place. Bind: the law's lines; its axis; which cells may be. Bind: which cells may be; the law's axis: At, Place. Bind: Cell, Place over the law's axes. Bind: Place over the law's axes. -/
import Derived.Test.YtjklbbmgjjdalaaGreatDoorBbA
import Derived.Test.YtjklbbmgjjdalaaGreatDoorBbC
import Derived.Lib.SmallJoins
import Derived.Deep.DeepCutAuto
import Derived.Deep.LoopGhost
import Derived.Lib.Hide
import Derived.Lib.QuietBelow
import Derived.Test.YtjklbbmgjjdalaaGreatDoorBbJ
import Derived.Test.YtjklbbmgjjdalaaGreatDoorBbB
set_option linter.unusedSimpArgs false
set_option linter.unusedVariables false
namespace Go.Proofs.YtjklbbmgjjdalaaGreatDoor.Bd
open Go.RowKit Go.Joins
abbrev tId : TypeId := 33
abbrev Idp := Int × Int
def idE (x : Idp) : List Value := [.int .u64 x.1, .int .i64 x.2]
theorem idE_len (x : Idp) : (idE x).length = 2 := rfl
def plL : List Idp → Idp → Nat
  | [], _ => 0
  | x :: r, y => if x = y then 1 else if plL r y = 0 then 0 else plL r y + 1
theorem plL_le : ∀ (l : List Idp) (y : Idp), plL l y ≤ l.length
  | [], y => by simp [plL]
  | x :: r, y => by
    have := plL_le r y
    unfold plL
    split
    · simp
    · split <;> simp <;> omega
def plF (l : List Idp) (y : Idp) (i : Nat) : Nat := if plL (l.drop i) y = 0 then 0 else i + plL (l.drop i) y
theorem plF_zero (l : List Idp) (y : Idp) : plF l y 0 = plL l y := by
  unfold plF
  rw [List.drop_zero]
  split <;> omega
theorem plF_hit {l : List Idp} {y x : Idp} {i : Nat} (h : l[i]? = some x) (e : x = y) : plF l y i = i + 1 := by
  obtain ⟨hi, e2⟩ := List.getElem?_eq_some_iff.1 h
  unfold plF
  rw [List.drop_eq_getElem_cons hi, e2, plL, if_pos e]
  simp
theorem plF_miss {l : List Idp} {y x : Idp} {i : Nat} (h : l[i]? = some x) (e : x ≠ y) : plF l y i = plF l y (i + 1) := by
  obtain ⟨hi, e2⟩ := List.getElem?_eq_some_iff.1 h
  unfold plF
  rw [List.drop_eq_getElem_cons hi, e2, plL, if_neg e]
  by_cases h1 : plL (l.drop (i + 1)) y = 0
  · simp [h1]
  · rw [if_neg h1, if_neg (by omega), if_neg h1]
    omega
theorem plF_end {l : List Idp} {y : Idp} {i : Nat} (h : l.length ≤ i) : plF l y i = 0 := by
  unfold plF
  rw [List.drop_eq_nil_of_le h, plL]
  simp
theorem eq_ids (x y : Idp) (W : World) : (binOp .eql tId (.agg #[.int .u64 x.1, .int .i64 x.2]) (.agg #[.int .u64 y.1, .int .i64 y.2])).run Tryz.prog W = .ok (.bool (decide (x = y))) W := by
  obtain ⟨a, b⟩ := x
  obtain ⟨c, d⟩ := y
  by_cases h1 : a = c
  · by_cases h2 : b = d
    · subst h1 h2
      go_simp
    · have h3 : ¬ ((a, b) : Idp) = (c, d) := fun e => h2 (by injection e)
      rw [decide_eq_false h3]
      go_simp
  · have h3 : ¬ ((a, b) : Idp) = (c, d) := fun e => h1 (by injection e)
    rw [decide_eq_false h3]
    go_simp
theorem lt_of_cellB {w : World} {b o : Nat} {u : Value} (h : w.cell? ⟨b, o, none⟩ = some u) : b < w.heap.size := by
  rcases Nat.lt_or_ge b w.heap.size with h' | h'
  · exact h'
  · simp [World.cell?, Array.getElem?_eq_none h'] at h
set_option maxRecDepth 100000 in
set_option maxHeartbeats 2000000 in
theorem rplace_any (l : List Idp) (y : Idp) (p : Option Addr) (n cap : Nat) (w : World) (hrd : RdG idE 2 w p n l) (hn : n ≤ 9223372036854775807) :
    Calls Tryz.prog 28 #[.slice p n cap, .agg #[.int .u64 y.1, .int .i64 y.2]] w fun e w' => e = .returned (.int .i64 (plL l y : Nat)) ∧ Below w.heap.size w w' := by
  have HRD := Lib.hid hrd
  have hlen : l.length = n := hrd.1
  obtain ⟨O, hO⟩ : ∃ O, plL l y = O := ⟨_, rfl⟩
  have HO : Hid (plF l y 0 = O) := by unfold Hid; rw [plF_zero]; exact hO
  rw [hO]
  clear hO hrd
  have hA0 : Hid ((w.alloc (.cells #[.int .u64 y.1, .int .i64 y.2] tId)).heap[w.heap.size]? = some (.cells #[.int .u64 y.1, .int .i64 y.2] tId (0, 0))) := heap_alloc_new w _
  have hAB : Hid (Below w.heap.size w (w.alloc (.cells #[.int .u64 y.1, .int .i64 y.2] tId))) := by unfold Hid; (repeat' (first | (with_reducible exact Below.refl _ _) | (with_reducible assumption) | (with_reducible refine Below.alloc ?_ ?_ _) | (with_reducible refine bel_drewN ?_ _) | (with_reducible refine Below.drew ?_) | (with_reducible refine Below.setCell ?_ ?_ _) | (with_reducible refine bel_call ‹_› ?_ ?_) | go_size))
  go_enter Tryz.func28, Tryz.ntmps28
  go_upto_region 1 with fail
  generalize w.alloc (.cells #[.int .u64 y.1, .int .i64 y.2] tId) = w0 at hA0 hAB ⊢
  have c0 : w0.cell? ⟨w.heap.size, 0, none⟩ = some (.int .u64 y.1) := by rw [cell_of_block hA0.out]; rfl
  have c1 : w0.cell? ⟨w.heap.size, 1, none⟩ = some (.int .i64 y.2) := by rw [cell_of_block hA0.out]; rfl
  clear hA0
  go_wp2_with fail
  go_loopg [5] n (fun g v5 wr => ∃ i : Nat, i + g = n ∧ v5 = .int .i64 i ∧ plF l y i = O ∧ Below w0.heap.size w0 wr)
  case atStart => exact ⟨0, by omega, rfl, HO.out, Below.refl _ _⟩
  case round =>
    obtain ⟨i, hig, rfl, hp, hbel⟩ := hrel
    have HP := Lib.hid hp
    have HBL := Lib.hid hbel
    have hz0 : w.heap.size < w0.heap.size := lt_of_cellB c0
    have d0 := (hbel.cell (p := ⟨w.heap.size, 0, none⟩) hz0).trans c0
    have d1 := (hbel.cell (p := ⟨w.heap.size, 1, none⟩) hz0).trans c1
    have hbw : Hid (Below w.heap.size w wr) := hAB.out.trans (hbel.mono hAB.out.size)
    clear hp hbel c0 c1
    by_cases hlt : i < n
    · have hli : (i : Int) < (n : Int) := by omega
      obtain ⟨b, off, rfl, hb, hx⟩ := HRD.out.some hlt
      obtain ⟨x, hxi⟩ : ∃ x, l[i]? = some x := ⟨_, List.getElem?_eq_getElem (by omega)⟩
      have q0 := (hbw.out.cell (p := ⟨b, off + i * 2, none⟩) hb).trans (hx i x hxi 0 _ rfl)
      have q1 := (hbw.out.cell (p := ⟨b, off + i * 2 + 1, none⟩) hb).trans (hx i x hxi 1 _ rfl)
      have HX := Lib.hid hxi
      have hop := eq_ids x y
      clear hx hxi
      have r0 := cell_regrown d0
      have r1 := cell_regrown d1
      have s0 := cell_regrown q0
      have s1 := cell_regrown q1
      have hBR : ∀ dd os, Below w0.heap.size w0 (Go.Sort.grow (redrawn wr dd) os) := fun dd os => bel_call (below_regrown wr dd os) HBL.out HBL.out.size
      by_cases hxy : x = y
      · have hR : Hid (O = i + 1) := by unfold Hid; rw [← HP.out, plF_hit HX.out hxy]
        rw [decide_eq_true hxy] at hop
        clear hxy
        go_upto_region 4 with fail
        refine wp_region_quiet_below (by kernel_rfl) (by kernel_rfl) ?_
        repeat (go_big_quiet_step (fail))
        refine wpQuiet_nil ?_
        intro _ hw'
        obtain ⟨⟨dz, osz⟩, hw''⟩ := hw'
        subst hw''
        have hBz : Hid (Below w0.heap.size w0 (Go.Sort.grow (redrawn wr dz) osz)) := hBR dz osz
        clear r0 r1 s0 s1 d0 d1 q0 q1 hBR HBL
        go_wp2_with fail
        go_ret
        exact ⟨by rw [hR.out]; rfl, hAB.out.trans (hBz.out.mono hAB.out.size)⟩
      · have hR : Hid (plF l y (i + 1) = O) := by unfold Hid; rw [← HP.out, plF_miss HX.out hxy]
        rw [decide_eq_false hxy] at hop
        clear hxy
        go_upto_region 4 with fail
        refine wp_region_quiet_below (by kernel_rfl) (by kernel_rfl) ?_
        repeat (go_big_quiet_step (fail))
        refine wpQuiet_nil ?_
        intro _ hw'
        obtain ⟨⟨dz, osz⟩, hw''⟩ := hw'
        subst hw''
        have hBz : Hid (Below w0.heap.size w0 (Go.Sort.grow (redrawn wr dz) osz)) := hBR dz osz
        clear r0 r1 s0 s1 d0 d1 q0 q1 hBR HBL
        go_wp2_with fail
        go_roundg (gk - 1)
        case measure => omega
        case rel => exact ⟨i + 1, by omega, by go_num, hR.out, hBz.out⟩
    · obtain rfl : i = n := by omega
      have hli : ¬ (i : Int) < (i : Int) := by omega
      have hR : Hid (O = 0) := by unfold Hid; rw [← HP.out, plF_end (by omega)]
      go_wp2_with fail
      go_ret
      exact ⟨by rw [hR.out]; rfl, hbw.out⟩
end Go.Proofs.YtjklbbmgjjdalaaGreatDoor.Bd
namespace Go.Proofs.YtjklbbmgjjdalaaGreatDoor.Bd
open Go.RowKit Go.Joins
theorem idE_one (x : Idp) : ∀ u ∈ idE x, u.oneCell' = true := by
  intro u hu
  simp only [idE, List.mem_cons, List.not_mem_nil, or_false] at hu
  rcases hu with rfl | rfl <;> rfl
theorem info_id : (Tryz.prog.info? tId).map (fun i => (i.zero, i.size, i.bytes)) = some (some (.agg #[.int .u64 0, .int .i64 0]), 2, 16) := by kernel_rfl
def lnF (out : List Idp) (x : Idp) : List Idp := if plL out x = 0 then out ++ [x] else out
def linesL (l : List Idp) : List Idp := (l.take 60).foldl lnF []
theorem lnF_len (out : List Idp) (x : Idp) : (lnF out x).length ≤ out.length + 1 := by unfold lnF; split <;> simp
theorem lnFold_len : ∀ (l out : List Idp), (l.foldl lnF out).length ≤ out.length + l.length
  | [], out => by simp
  | x :: r, out => by
    have h := lnFold_len r (lnF out x)
    have h2 := lnF_len out x
    simp only [List.foldl_cons, List.length_cons]
    omega
theorem linesL_len (l : List Idp) : (linesL l).length ≤ 60 := by
  have h := lnFold_len (l.take 60) []
  have h2 : (l.take 60).length ≤ 60 := by simp; omega
  unfold linesL
  simp only [List.length_nil] at h
  omega
theorem ln_step {l : List Idp} {x : Idp} {i : Nat} (h : l[i]? = some x) : (l.take (i + 1)).foldl lnF [] = lnF ((l.take i).foldl lnF []) x := by
  rw [List.take_add_one, h]
  simp [List.foldl_append]
def LnR (L : List Idp) (e : Ending) (w' : World) : Prop := ∃ p' cap', e = .returned (.slice p' L.length cap') ∧ RdG idE 2 w' p' L.length L
set_option maxRecDepth 100000 in
set_option maxHeartbeats 4000000 in
theorem lines_any (l : List Idp) (p : Option Addr) (n cap : Nat) (w : World) (hrd : RdG idE 2 w p n l) (hn : n ≤ 9223372036854775807) :
    Calls Tryz.prog 7 #[.slice p n cap] w fun e w' => LnR (linesL l) e w' ∧ Below w.heap.size w w' := by
  have HRD := Lib.hid hrd
  have hlen : l.length = n := hrd.1
  obtain ⟨i0, hi, hz0, hz1, hz2⟩ := info_of info_id
  have HPL := Lib.hid (fun out x q c W (h : RdG idE 2 W q (List.length out) out) (hl : List.length out ≤ 60) => rplace_any out x q out.length c W h (by omega))
  clear hrd
  go_enter Tryz.func7, Tryz.ntmps7
  go_wp2_with fail
  go_loopg [3, 4] 60 (fun g v3 v4 wr => ∃ (i : Nat) (out : List Idp), i + g = 60 ∧ v4 = .int .i64 i ∧ i ≤ n ∧ (l.take i).foldl lnF [] = out ∧ out.length ≤ i ∧ wr.ownsRow w.heap.size tId 2 v3 out.length (out.flatMap idE) ∧ Below w.heap.size w wr)
  case atStart => exact ⟨0, [], by omega, rfl, by omega, rfl, by simp, World.ownsRow_nil _ _ _ _, Below.refl _ _⟩
  case round =>
    obtain ⟨i, out, hig, rfl, hin, hout, hol, hown, hbel⟩ := hrel
    have HO := Lib.hid hown
    have HOUT := Lib.hid hout
    have HBL := Lib.hid hbel
    have hzr := hbel.size
    obtain ⟨q, cq, hq, hq1, hq2, HQ0, _⟩ := RdG.of_own idE_len rfl hown
    subst hq
    have HQ := Lib.hid HQ0
    clear hown hbel hout HQ0
    by_cases hlt : i < n ∧ i < 60
    · obtain ⟨hlt, h60⟩ := hlt
      have hli : (i : Int) < (n : Int) := by omega
      have h60i : (i : Int) < 60 := by omega
      obtain ⟨b, off, rfl, hb, hx⟩ := HRD.out.some hlt
      obtain ⟨x, hxi⟩ : ∃ x, l[i]? = some x := ⟨_, List.getElem?_eq_getElem (by omega)⟩
      have q0 := (HBL.out.cell (p := ⟨b, off + i * 2, none⟩) hb).trans (hx i x hxi 0 _ rfl)
      have q1 := (HBL.out.cell (p := ⟨b, off + i * 2 + 1, none⟩) hb).trans (hx i x hxi 1 _ rfl)
      have HST : Hid ((l.take (i + 1)).foldl lnF [] = lnF out x) := by unfold Hid; rw [ln_step hxi, HOUT.out]
      clear hx hxi
      have HC := Lib.hid (HPL.out out x q cq wr HQ.out (by omega))
      obtain ⟨r, hr⟩ : ∃ r, plL out x = r := ⟨_, rfl⟩
      rw [hr] at HC
      have HR := Lib.hid hr
      clear hr
      go_wp2_with fail
      refine HC.out.mono ?_
      rintro e w1 ⟨rfl, hb1⟩
      have q0 := (hb1.cell (p := ⟨b, off + i * 2, none⟩) (Nat.lt_of_lt_of_le hb hzr)).trans q0
      have q1 := (hb1.cell (p := ⟨b, off + i * 2 + 1, none⟩) (Nat.lt_of_lt_of_le hb hzr)).trans q1
      have HO1 := Lib.hid (row_below HO.out hb1)
      have HB1 : Hid (Below w.heap.size w w1) := bel_call hb1 HBL.out hzr
      have hz1' : w.heap.size ≤ w1.heap.size := Nat.le_trans hzr hb1.size
      clear hb1 HC HO HBL HQ
      by_cases hr0 : r = 0
      · subst hr0
        have HST2 : Hid ((l.take (i + 1)).foldl lnF [] = out ++ [x]) := by unfold Hid; rw [HST.out]; unfold lnF; rw [if_pos HR.out]
        go_wp2_with (at_builtin; refine wpList_append_own _ rfl _ _ _ rfl w.heap.size tId i0 (.agg #[.int .u64 0, .int .i64 0]) 2 16 Tryz.underlying22 hi hz0 hz1 hz2 rfl (by decide) _ _ _ rfl (HO1.out.alloc _) ⟨w1.heap.size, 0, none⟩ 1 1 (idE x) rfl rfl ?c1 ?c2 ?c3 ?c4 ?c5 ?_)
        case c1 => first | exact new2 w1 _ _ _ | exact fun j u h => h
        case c2 => exact idE_one _
        case c3 => unfold maxLen; omega
        case c4 => omega
        case c5 => first | omega | (simp; omega)
        intro v' w4 hown4 hgrow4 _
        have hb4 : Hid (Below w.heap.size w w4) := (HB1.out.alloc (by omega) _).grown hgrow4 (by simp; omega) (fun k hk => (HO1.out.lt k hk).1)
        have HF : Hid (w4.ownsRow w.heap.size tId 2 v' (out ++ [x]).length ((out ++ [x]).flatMap idE)) := by
          unfold Hid
          rw [flat_snoc, List.length_append]
          exact hown4
        clear hown4 hgrow4
        go_wp2_with fail
        go_roundg (gk - 1)
        case measure => omega
        case rel => exact ⟨i + 1, out ++ [x], by omega, by go_num, by omega, HST2.out, by simp; omega, HF.out, hb4.out⟩
      · have HST2 : Hid ((l.take (i + 1)).foldl lnF [] = out) := by unfold Hid; rw [HST.out]; unfold lnF; rw [if_neg (by rw [HR.out]; exact hr0)]
        have hr0i : ((r : Int) == 0) = false := by simp; omega
        go_wp2_with fail
        go_roundg (gk - 1)
        case measure => omega
        case rel => exact ⟨i + 1, out, by omega, by go_num, by omega, HST2.out, by omega, HO1.out, HB1.out⟩
    · have HE : Hid (linesL l = out) := by
        unfold Hid linesL
        rw [← HOUT.out]
        by_cases h1 : i < n
        · have : i = 60 := by omega
          subst this
          rfl
        · have : i = n := by omega
          subst this
          rw [List.take_of_length_le (by omega), List.take_of_length_le (by omega)]
      by_cases h1 : i < n
      · have hli : (i : Int) < (n : Int) := by omega
        have h60i : ¬ (i : Int) < 60 := by omega
        go_wp2_with fail
        go_ret
        exact ⟨by rw [HE.out]; exact ⟨q, cq, rfl, HQ.out⟩, HBL.out⟩
      · obtain rfl : i = n := by omega
        have hli : ¬ (i : Int) < (i : Int) := by omega
        go_wp2_with fail
        go_ret
        exact ⟨by rw [HE.out]; exact ⟨q, cq, rfl, HQ.out⟩, HBL.out⟩
end Go.Proofs.YtjklbbmgjjdalaaGreatDoor.Bd
namespace Go.Proofs.YtjklbbmgjjdalaaGreatDoor.Bd
open Go.RowKit Go.Joins
def atL (l : List Idp) (k : Int) : Idp × Bool := if 1 ≤ k ∧ k ≤ l.length then (l.getD (k - 1).toNat (0, 0), true) else ((0, 0), false)
abbrev tAx : TypeId := 43
theorem two_heap (w : World) (a b : Obj) : ((w.alloc a).alloc b).heap[w.heap.size]? = some a ∧ ((w.alloc a).alloc b).heap[w.heap.size + 1]? = some b := by
  refine ⟨?_, ?_⟩ <;> simp only [World.alloc, Array.getElem?_push, Array.size_push] <;> (repeat (first | rfl | (rw [if_neg (by omega)]) | (rw [if_pos (by omega)])))
set_option maxRecDepth 100000 in
set_option maxHeartbeats 2000000 in
theorem at_any (l : List Idp) (k : Int) (p : Option Addr) (n cap : Nat) (w : World) (hrd : RdG idE 2 w p n l) (hn : n ≤ 1000000) :
    Calls Tryz.prog 170 #[.agg #[.slice p n cap], .int .i64 k] w fun e w' => e = .returned (.tuple #[.agg #[.int .u64 (atL l k).1.1, .int .i64 (atL l k).1.2], .bool (atL l k).2]) ∧ Below w.heap.size w w' := by
  have HRD := Lib.hid hrd
  have hlen : l.length = n := hrd.1
  obtain ⟨O, hO⟩ : ∃ O, atL l k = O := ⟨_, rfl⟩
  have HO : Hid (atL l k = O) := hO
  rw [hO]
  clear hO hrd
  have hh : Hid (((w.alloc (.cells #[.slice p n cap] tAx)).alloc (.cells #[.int .u64 0, .int .i64 0] tId)).heap[w.heap.size]? = some (.cells #[.slice p n cap] tAx (0, 0)) ∧ ((w.alloc (.cells #[.slice p n cap] tAx)).alloc (.cells #[.int .u64 0, .int .i64 0] tId)).heap[w.heap.size + 1]? = some (.cells #[.int .u64 0, .int .i64 0] tId (0, 0))) := two_heap w _ _
  have hAB : Hid (Below w.heap.size w ((w.alloc (.cells #[.slice p n cap] tAx)).alloc (.cells #[.int .u64 0, .int .i64 0] tId))) := by unfold Hid; (repeat' (first | (with_reducible exact Below.refl _ _) | (with_reducible assumption) | (with_reducible refine Below.alloc ?_ ?_ _) | (with_reducible refine bel_drewN ?_ _) | (with_reducible refine Below.drew ?_) | (with_reducible refine Below.setCell ?_ ?_ _) | (with_reducible refine bel_call ‹_› ?_ ?_) | go_size))
  go_enter Tryz.func170, Tryz.ntmps170
  go_upto_region 1 with fail
  generalize (w.alloc (.cells #[.slice p n cap] tAx)).alloc (.cells #[.int .u64 0, .int .i64 0] tId) = w0 at hh hAB ⊢
  obtain ⟨hA0, hA1⟩ := hh.out
  have c0 : w0.cell? ⟨w.heap.size, 0, none⟩ = some (.slice p n cap) := by rw [cell_of_block hA0]; rfl
  have z0 : w0.cell? ⟨w.heap.size + 1, 0, none⟩ = some (.int .u64 0) := by rw [cell_of_block hA1]; rfl
  have z1 : w0.cell? ⟨w.heap.size + 1, 1, none⟩ = some (.int .i64 0) := by rw [cell_of_block hA1]; rfl
  have f0 := unfrozen_of_block hA1 0
  have f1 := unfrozen_of_block hA1 1
  clear hA0 hA1 hh
  by_cases h1 : 1 ≤ k
  · have h1i : ¬ k < 1 := by omega
    by_cases h2 : k ≤ n
    · have h2i : ¬ (n : Int) < k := by omega
      obtain ⟨i, hik⟩ : ∃ i : Nat, k = (i : Int) + 1 := ⟨(k - 1).toNat, by omega⟩
      subst hik
      obtain ⟨b, off, rfl, hb, hx⟩ := HRD.out.some (j := i) (by omega)
      obtain ⟨x, hxi⟩ : ∃ x, l[i]? = some x := ⟨_, List.getElem?_eq_getElem (by omega)⟩
      have HR : Hid (O = (x, true)) := by
        unfold Hid
        rw [← HO.out]
        unfold atL
        rw [if_pos ⟨by omega, by omega⟩]
        simp [List.getD, hxi]
      have q0 := (hAB.out.cell (p := ⟨b, off + i * 2, none⟩) hb).trans (hx i x hxi 0 _ rfl)
      have q1 := (hAB.out.cell (p := ⟨b, off + i * 2 + 1, none⟩) hb).trans (hx i x hxi 1 _ rfl)
      have g1 : IntKind.i64.wrap ((i : Int) + 1 - 1) = (i : Int) := by rw [show (i : Int) + 1 - 1 = (i : Int) from by omega]; exact IntWalk.i64_in _ (by omega)
      clear hx hxi
      go_wp2_with fail
      refine bodyPost_ret (v := .tuple #[.agg #[.int .u64 x.1, .int .i64 x.2], .bool true]) (by simp only [results, Tryz.results170]; go_simp) rfl ⟨by rw [HR.out], (hAB.out.setCell (by show w.heap.size ≤ w.heap.size + 1; omega) _).setCell (by show w.heap.size ≤ w.heap.size + 1; omega) _⟩
    · have h2i : (n : Int) < k := by omega
      have HR : Hid (O = ((0, 0), false)) := by
        unfold Hid
        rw [← HO.out]
        unfold atL
        rw [if_neg (by omega)]
      go_wp2_with fail
      refine bodyPost_ret (v := .tuple #[.agg #[.int .u64 0, .int .i64 0], .bool false]) (by simp only [results, Tryz.results170]; go_simp) rfl ⟨by rw [HR.out], (hAB.out.setCell (by show w.heap.size ≤ w.heap.size + 1; omega) _).setCell (by show w.heap.size ≤ w.heap.size + 1; omega) _⟩
  · have h1i : k < 1 := by omega
    have HR : Hid (O = ((0, 0), false)) := by
      unfold Hid
      rw [← HO.out]
      unfold atL
      rw [if_neg (by omega)]
    go_wp2_with fail
    refine bodyPost_ret (v := .tuple #[.agg #[.int .u64 0, .int .i64 0], .bool false]) (by simp only [results, Tryz.results170]; go_simp) rfl ⟨by rw [HR.out], (hAB.out.setCell (by show w.heap.size ≤ w.heap.size + 1; omega) _).setCell (by show w.heap.size ≤ w.heap.size + 1; omega) _⟩
set_option maxRecDepth 100000 in
set_option maxHeartbeats 2000000 in
theorem axplace_any (l : List Idp) (y : Idp) (p : Option Addr) (n cap : Nat) (w : World) (hrd : RdG idE 2 w p n l) (hn : n ≤ 1000000) :
    Calls Tryz.prog 171 #[.agg #[.slice p n cap], .agg #[.int .u64 y.1, .int .i64 y.2]] w fun e w' => e = .returned (.tuple #[.int .i64 (plL l y : Nat), .bool (decide (0 < plL l y))]) ∧ Below w.heap.size w w' := by
  have HPL := Lib.hid (fun W (hW : Below w.heap.size w W) => rplace_any l y p n cap W (hrd.below hW) (by omega))
  have hle := plL_le l y
  have hlen : l.length = n := hrd.1
  obtain ⟨k, hk⟩ : ∃ k, plL l y = k := ⟨_, rfl⟩
  rw [hk] at HPL hle ⊢
  clear hk hrd
  have hh : Hid (((w.alloc (.cells #[.slice p n cap] tAx)).alloc (.cells #[.int .u64 y.1, .int .i64 y.2] tId)).heap[w.heap.size]? = some (.cells #[.slice p n cap] tAx (0, 0)) ∧ ((w.alloc (.cells #[.slice p n cap] tAx)).alloc (.cells #[.int .u64 y.1, .int .i64 y.2] tId)).heap[w.heap.size + 1]? = some (.cells #[.int .u64 y.1, .int .i64 y.2] tId (0, 0))) := two_heap w _ _
  have hAB : Hid (Below w.heap.size w ((w.alloc (.cells #[.slice p n cap] tAx)).alloc (.cells #[.int .u64 y.1, .int .i64 y.2] tId))) := by unfold Hid; (repeat' (first | (with_reducible exact Below.refl _ _) | (with_reducible assumption) | (with_reducible refine Below.alloc ?_ ?_ _) | (with_reducible refine bel_drewN ?_ _) | (with_reducible refine Below.drew ?_) | (with_reducible refine Below.setCell ?_ ?_ _) | (with_reducible refine bel_call ‹_› ?_ ?_) | go_size))
  go_enter Tryz.func171, Tryz.ntmps171
  go_upto_region 1 with fail
  generalize (w.alloc (.cells #[.slice p n cap] tAx)).alloc (.cells #[.int .u64 y.1, .int .i64 y.2] tId) = w0 at hh hAB ⊢
  obtain ⟨hA0, hA1⟩ := hh.out
  have c0 : w0.cell? ⟨w.heap.size, 0, none⟩ = some (.slice p n cap) := by rw [cell_of_block hA0]; rfl
  have z0 : w0.cell? ⟨w.heap.size + 1, 0, none⟩ = some (.int .u64 y.1) := by rw [cell_of_block hA1]; rfl
  have z1 : w0.cell? ⟨w.heap.size + 1, 1, none⟩ = some (.int .i64 y.2) := by rw [cell_of_block hA1]; rfl
  clear hA0 hA1 hh
  go_wp2_with fail
  refine (HPL.out _ hAB.out).mono ?_
  rintro e w1 ⟨rfl, hb⟩
  have hB1 := bel_call hb hAB.out hAB.out.size
  clear hb hAB c0 z0 z1 HPL
  by_cases h0 : 0 < k
  · have h0i : (0 : Int) < (k : Int) := by omega
    go_wp2_with fail
    go_ret2
    exact ⟨by rw [decide_eq_true h0]; rfl, hB1⟩
  · have h0i : ¬ (0 : Int) < (k : Int) := by omega
    go_wp2_with fail
    go_ret2
    exact ⟨by rw [decide_eq_false h0]; rfl, hB1⟩
end Go.Proofs.YtjklbbmgjjdalaaGreatDoor.Bd
namespace Go.Proofs.YtjklbbmgjjdalaaGreatDoor.Bd
open Go.RowKit Go.Joins
abbrev axV (p : Option Addr) (n cap : Nat) : Value := .iface tAx (.agg #[.slice p n cap])
abbrev tRf : TypeId := 35
abbrev tCl : TypeId := 45
def celS (rows cols : List Idp) (c r : Int) : (Idp × Idp) × Int :=
  if rtC c r = true then (if (atL rows r).2 = true ∧ (atL cols c).2 = true then (((atL rows r).1, (atL cols c).1), 0) else (((0, 0), (0, 0)), 23)) else (((0, 0), (0, 0)), 20)
set_option maxRecDepth 100000 in
set_option maxHeartbeats 4000000 in
theorem cell_any (rows cols : List Idp) (c r : Int) (p : Option Addr) (n cap : Nat) (p2 : Option Addr) (n2 cap2 : Nat) (w : World) (hrd : RdG idE 2 w p n rows) (hn : n ≤ 1000000) (hrd2 : RdG idE 2 w p2 n2 cols) (hn2 : n2 ≤ 1000000) :
    Calls Tryz.prog 27 #[axV p n cap, axV p2 n2 cap2, .agg #[.int .i64 c, .int .i64 r]] w fun e w' => e = .returned (.tuple #[.agg #[.int .u64 (celS rows cols c r).1.1.1, .int .i64 (celS rows cols c r).1.1.2, .int .u64 (celS rows cols c r).1.2.1, .int .i64 (celS rows cols c r).1.2.2], .int .i64 (celS rows cols c r).2]) ∧ Below w.heap.size w w' := by
  have HAT1 := Lib.hid (fun W (hW : Below w.heap.size w W) => at_any rows r p n cap W (hrd.below hW) hn)
  have HAT2 := Lib.hid (fun W (hW : Below w.heap.size w W) => at_any cols c p2 n2 cap2 W (hrd2.below hW) hn2)
  have HRT := Lib.hid (fun W => cright_any c r W)
  have hh : Hid (((w.alloc (.cells #[.int .i64 c, .int .i64 r] tCl)).alloc (.cells #[.int .u64 0, .int .i64 0, .int .u64 0, .int .i64 0] tRf)).heap[w.heap.size]? = some (.cells #[.int .i64 c, .int .i64 r] tCl (0, 0)) ∧ ((w.alloc (.cells #[.int .i64 c, .int .i64 r] tCl)).alloc (.cells #[.int .u64 0, .int .i64 0, .int .u64 0, .int .i64 0] tRf)).heap[w.heap.size + 1]? = some (.cells #[.int .u64 0, .int .i64 0, .int .u64 0, .int .i64 0] tRf (0, 0))) := two_heap w _ _
  have hAB : Hid (Below w.heap.size w ((w.alloc (.cells #[.int .i64 c, .int .i64 r] tCl)).alloc (.cells #[.int .u64 0, .int .i64 0, .int .u64 0, .int .i64 0] tRf))) := by unfold Hid; (repeat' (first | (with_reducible exact Below.refl _ _) | (with_reducible assumption) | (with_reducible refine Below.alloc ?_ ?_ _) | (with_reducible refine bel_drewN ?_ _) | (with_reducible refine Below.drew ?_) | (with_reducible refine Below.setCell ?_ ?_ _) | (with_reducible refine bel_call ‹_› ?_ ?_) | go_size))
  clear hrd hrd2
  obtain ⟨S, hS⟩ : ∃ S, celS rows cols c r = S := ⟨_, rfl⟩
  have HS : Hid (S = celS rows cols c r) := hS.symm
  rw [hS]
  unfold celS at HS
  clear hS
  obtain ⟨A, hA⟩ : ∃ A, atL rows r = A := ⟨_, rfl⟩
  obtain ⟨C, hC⟩ : ∃ C, atL cols c = C := ⟨_, rfl⟩
  rw [hA] at HAT1 HS
  rw [hC] at HAT2 HS
  obtain ⟨⟨a1, a2⟩, ok1⟩ := A
  obtain ⟨⟨b1, b2⟩, ok2⟩ := C
  clear hA hC
  go_enter Tryz.func27, Tryz.ntmps27
  go_upto_region 1 with fail
  generalize (w.alloc (.cells #[.int .i64 c, .int .i64 r] tCl)).alloc (.cells #[.int .u64 0, .int .i64 0, .int .u64 0, .int .i64 0] tRf) = w0 at hh hAB ⊢
  obtain ⟨hA0, hA1⟩ := hh.out
  have c0 : w0.cell? ⟨w.heap.size, 0, none⟩ = some (.int .i64 c) := by rw [cell_of_block hA0]; rfl
  have c1 : w0.cell? ⟨w.heap.size, 1, none⟩ = some (.int .i64 r) := by rw [cell_of_block hA0]; rfl
  go_wp2_with fail
  refine (HRT.out _).mono ?_
  rintro e w1 ⟨rfl, hb⟩
  have hB1 : Hid (Below w.heap.size w w1) := bel_call hb hAB.out hAB.out.size
  have HA0 : Hid (w1.heap[w.heap.size]? = some (.cells #[.int .i64 c, .int .i64 r] tCl (0, 0))) := (hb.block _ (lt_some hA0)).trans hA0
  have HA1 : Hid (w1.heap[w.heap.size + 1]? = some (.cells #[.int .u64 0, .int .i64 0, .int .u64 0, .int .i64 0] tRf (0, 0))) := (hb.block _ (lt_some hA1)).trans hA1
  clear hb c0 c1 hAB hA0 hA1 hh HRT
  have c0 : w1.cell? ⟨w.heap.size, 0, none⟩ = some (.int .i64 c) := by rw [cell_of_block HA0.out]; rfl
  have c1 : w1.cell? ⟨w.heap.size, 1, none⟩ = some (.int .i64 r) := by rw [cell_of_block HA0.out]; rfl
  by_cases hr : rtC c r = true
  · rw [hr]
    go_wp2_with fail
    refine (HAT1.out _ hB1.out).mono ?_
    rintro e w2 ⟨rfl, hb⟩
    have hB2 : Hid (Below w.heap.size w w2) := bel_call hb hB1.out hB1.out.size
    have HA0' : Hid (w2.heap[w.heap.size]? = some (.cells #[.int .i64 c, .int .i64 r] tCl (0, 0))) := (hb.block _ (lt_some HA0.out)).trans HA0.out
    have HA1' : Hid (w2.heap[w.heap.size + 1]? = some (.cells #[.int .u64 0, .int .i64 0, .int .u64 0, .int .i64 0] tRf (0, 0))) := (hb.block _ (lt_some HA1.out)).trans HA1.out
    clear hb c0 c1 HA0 HA1 hB1 HAT1
    go_upto_region 4 with fail
    have HN3 : Hid ((w2.alloc (.cells #[.int .u64 a1, .int .i64 a2] tId)).heap[w2.heap.size]? = some (.cells #[.int .u64 a1, .int .i64 a2] tId (0, 0))) := heap_alloc_new w2 _
    have hB3 : Hid (Below w.heap.size w (w2.alloc (.cells #[.int .u64 a1, .int .i64 a2] tId))) := hB2.out.alloc hB2.out.size _
    have HA0 : Hid ((w2.alloc (.cells #[.int .u64 a1, .int .i64 a2] tId)).heap[w.heap.size]? = some (.cells #[.int .i64 c, .int .i64 r] tCl (0, 0))) := (Lib.alloc_old w2 _ _ (lt_some HA0'.out)).trans HA0'.out
    have HA1 : Hid ((w2.alloc (.cells #[.int .u64 a1, .int .i64 a2] tId)).heap[w.heap.size + 1]? = some (.cells #[.int .u64 0, .int .i64 0, .int .u64 0, .int .i64 0] tRf (0, 0))) := (Lib.alloc_old w2 _ _ (lt_some HA1'.out)).trans HA1'.out
    have hz2 : w.heap.size + 1 < w2.heap.size := lt_some HA1'.out
    generalize w2.alloc (.cells #[.int .u64 a1, .int .i64 a2] tId) = w3 at HN3 hB3 HA0 HA1 ⊢
    generalize w2.heap.size = g3 at HN3 hz2 ⊢
    clear HA0' HA1' hB2
    have c0 : w3.cell? ⟨w.heap.size, 0, none⟩ = some (.int .i64 c) := by rw [cell_of_block HA0.out]; rfl
    have c1 : w3.cell? ⟨w.heap.size, 1, none⟩ = some (.int .i64 r) := by rw [cell_of_block HA0.out]; rfl
    go_wp2_with fail
    refine (HAT2.out _ hB3.out).mono ?_
    rintro e w4 ⟨rfl, hb⟩
    have hB4 : Hid (Below w.heap.size w w4) := bel_call hb hB3.out hB3.out.size
    have HN4 : Hid (w4.heap[g3]? = some (.cells #[.int .u64 a1, .int .i64 a2] tId (0, 0))) := (hb.block _ (lt_some HN3.out)).trans HN3.out
    have HA4 : Hid (w4.heap[w.heap.size + 1]? = some (.cells #[.int .u64 0, .int .i64 0, .int .u64 0, .int .i64 0] tRf (0, 0))) := (hb.block _ (lt_some HA1.out)).trans HA1.out
    clear hb c0 c1 HA0 HA1 hB3 HN3 HAT2
    go_upto_region 5 with fail
    have HM5 : Hid ((w4.alloc (.cells #[.int .u64 b1, .int .i64 b2] tId)).heap[w4.heap.size]? = some (.cells #[.int .u64 b1, .int .i64 b2] tId (0, 0))) := heap_alloc_new w4 _
    have hB5 : Hid (Below w.heap.size w (w4.alloc (.cells #[.int .u64 b1, .int .i64 b2] tId))) := hB4.out.alloc hB4.out.size _
    have HN5 : Hid ((w4.alloc (.cells #[.int .u64 b1, .int .i64 b2] tId)).heap[g3]? = some (.cells #[.int .u64 a1, .int .i64 a2] tId (0, 0))) := (Lib.alloc_old w4 _ _ (lt_some HN4.out)).trans HN4.out
    have HA5 : Hid ((w4.alloc (.cells #[.int .u64 b1, .int .i64 b2] tId)).heap[w.heap.size + 1]? = some (.cells #[.int .u64 0, .int .i64 0, .int .u64 0, .int .i64 0] tRf (0, 0))) := (Lib.alloc_old w4 _ _ (lt_some HA4.out)).trans HA4.out
    have hz4 : g3 < w4.heap.size := lt_some HN4.out
    generalize w4.alloc (.cells #[.int .u64 b1, .int .i64 b2] tId) = w5 at HM5 hB5 HN5 HA5 ⊢
    generalize w4.heap.size = g5 at HM5 hz4 ⊢
    clear HA4 HN4 hB4
    have n0 : w5.cell? ⟨g3, 0, none⟩ = some (.int .u64 a1) := by rw [cell_of_block HN5.out]; rfl
    have n1 : w5.cell? ⟨g3, 1, none⟩ = some (.int .i64 a2) := by rw [cell_of_block HN5.out]; rfl
    have m0 : w5.cell? ⟨g5, 0, none⟩ = some (.int .u64 b1) := by rw [cell_of_block HM5.out]; rfl
    have m1 : w5.cell? ⟨g5, 1, none⟩ = some (.int .i64 b2) := by rw [cell_of_block HM5.out]; rfl
    have z0 : w5.cell? ⟨w.heap.size + 1, 0, none⟩ = some (.int .u64 0) := by rw [cell_of_block HA5.out]; rfl
    have z1 : w5.cell? ⟨w.heap.size + 1, 1, none⟩ = some (.int .i64 0) := by rw [cell_of_block HA5.out]; rfl
    have z2 : w5.cell? ⟨w.heap.size + 1, 2, none⟩ = some (.int .u64 0) := by rw [cell_of_block HA5.out]; rfl
    have z3 : w5.cell? ⟨w.heap.size + 1, 3, none⟩ = some (.int .i64 0) := by rw [cell_of_block HA5.out]; rfl
    have f0 := unfrozen_of_block HA5.out 0
    have f1 := unfrozen_of_block HA5.out 1
    have f2 := unfrozen_of_block HA5.out 2
    have f3 := unfrozen_of_block HA5.out 3
    have hB := hB5.out
    have hsz : w.heap.size ≤ w.heap.size + 1 := by omega
    cases ok1
    · have HR : Hid (S = (((0, 0), (0, 0)), 23)) := by unfold Hid; rw [HS.out, if_pos hr, if_neg (by simp)]
      clear HM5 HN5 HA5 hB5 hr
      go_wp2_with fail
      refine bodyPost_ret (v := .tuple #[.agg #[.int .u64 0, .int .i64 0, .int .u64 0, .int .i64 0], .int .i64 23]) (by simp only [results, Tryz.results27]; go_simp) rfl ⟨by rw [HR.out], by (repeat' (first | (with_reducible exact Below.refl _ _) | (with_reducible assumption) | (with_reducible refine Below.alloc ?_ ?_ _) | (with_reducible refine bel_drewN ?_ _) | (with_reducible refine Below.drew ?_) | (with_reducible refine Below.setCell ?_ ?_ _) | (with_reducible refine bel_call ‹_› ?_ ?_) | go_size))⟩
    · cases ok2
      · have HR : Hid (S = (((0, 0), (0, 0)), 23)) := by unfold Hid; rw [HS.out, if_pos hr, if_neg (by simp)]
        clear HM5 HN5 HA5 hB5 hr
        go_wp2_with fail
        refine bodyPost_ret (v := .tuple #[.agg #[.int .u64 0, .int .i64 0, .int .u64 0, .int .i64 0], .int .i64 23]) (by simp only [results, Tryz.results27]; go_simp) rfl ⟨by rw [HR.out], by (repeat' (first | (with_reducible exact Below.refl _ _) | (with_reducible assumption) | (with_reducible refine Below.alloc ?_ ?_ _) | (with_reducible refine bel_drewN ?_ _) | (with_reducible refine Below.drew ?_) | (with_reducible refine Below.setCell ?_ ?_ _) | (with_reducible refine bel_call ‹_› ?_ ?_) | go_size))⟩
      · have HR : Hid (S = (((a1, a2), (b1, b2)), 0)) := by unfold Hid; rw [HS.out, if_pos hr, if_pos (by simp)]
        clear HM5 HN5 HA5 hB5 hr
        go_wp2_with fail
        refine bodyPost_ret (v := .tuple #[.agg #[.int .u64 a1, .int .i64 a2, .int .u64 b1, .int .i64 b2], .int .i64 0]) (by simp only [results, Tryz.results27]; go_simp) rfl ⟨by rw [HR.out], by (repeat' (first | (with_reducible exact Below.refl _ _) | (with_reducible assumption) | (with_reducible refine Below.alloc ?_ ?_ _) | (with_reducible refine bel_drewN ?_ _) | (with_reducible refine Below.drew ?_) | (with_reducible refine Below.setCell ?_ ?_ _) | (with_reducible refine bel_call ‹_› ?_ ?_) | go_size))⟩
  · have hr2 : rtC c r = false := by simpa using hr
    have HR : Hid (S = (((0, 0), (0, 0)), 20)) := by unfold Hid; rw [HS.out, if_neg hr]
    rw [hr2]
    have z0 : w1.cell? ⟨w.heap.size + 1, 0, none⟩ = some (.int .u64 0) := by rw [cell_of_block HA1.out]; rfl
    have z1 : w1.cell? ⟨w.heap.size + 1, 1, none⟩ = some (.int .i64 0) := by rw [cell_of_block HA1.out]; rfl
    have z2 : w1.cell? ⟨w.heap.size + 1, 2, none⟩ = some (.int .u64 0) := by rw [cell_of_block HA1.out]; rfl
    have z3 : w1.cell? ⟨w.heap.size + 1, 3, none⟩ = some (.int .i64 0) := by rw [cell_of_block HA1.out]; rfl
    have f0 := unfrozen_of_block HA1.out 0
    have f1 := unfrozen_of_block HA1.out 1
    have f2 := unfrozen_of_block HA1.out 2
    have f3 := unfrozen_of_block HA1.out 3
    have hB := hB1.out
    clear hr hr2
    go_wp2_with fail
    refine bodyPost_ret (v := .tuple #[.agg #[.int .u64 0, .int .i64 0, .int .u64 0, .int .i64 0], .int .i64 20]) (by simp only [results, Tryz.results27]; go_simp) rfl ⟨by rw [HR.out], by (repeat' (first | (with_reducible exact Below.refl _ _) | (with_reducible assumption) | (with_reducible refine Below.alloc ?_ ?_ _) | (with_reducible refine bel_drewN ?_ _) | (with_reducible refine Below.drew ?_) | (with_reducible refine Below.setCell ?_ ?_ _) | (with_reducible refine bel_call ‹_› ?_ ?_) | go_size))⟩
end Go.Proofs.YtjklbbmgjjdalaaGreatDoor.Bd
namespace Go.Proofs.YtjklbbmgjjdalaaGreatDoor.Bd
open Go.RowKit Go.Joins
def plcS (rows cols : List Idp) (x y : Idp) : (Nat × Nat) × Bool := if 0 < plL rows x ∧ 0 < plL cols y then ((plL cols y, plL rows x), true) else ((0, 0), false)
set_option maxRecDepth 100000 in
set_option maxHeartbeats 4000000 in
theorem place_any (rows cols : List Idp) (x y : Idp) (p : Option Addr) (n cap : Nat) (p2 : Option Addr) (n2 cap2 : Nat) (w : World) (hrd : RdG idE 2 w p n rows) (hn : n ≤ 1000000) (hrd2 : RdG idE 2 w p2 n2 cols) (hn2 : n2 ≤ 1000000) :
    Calls Tryz.prog 35 #[axV p n cap, axV p2 n2 cap2, .agg #[.int .u64 x.1, .int .i64 x.2, .int .u64 y.1, .int .i64 y.2]] w fun e w' => e = .returned (.tuple #[.agg #[.int .i64 (plcS rows cols x y).1.1, .int .i64 (plcS rows cols x y).1.2], .bool (plcS rows cols x y).2]) ∧ Below w.heap.size w w' := by
  have HAT1 := Lib.hid (fun W (hW : Below w.heap.size w W) => axplace_any rows x p n cap W (hrd.below hW) hn)
  have HAT2 := Lib.hid (fun W (hW : Below w.heap.size w W) => axplace_any cols y p2 n2 cap2 W (hrd2.below hW) hn2)
  have hh : Hid (((w.alloc (.cells #[.int .u64 x.1, .int .i64 x.2, .int .u64 y.1, .int .i64 y.2] tRf)).alloc (.cells #[.int .i64 0, .int .i64 0] tCl)).heap[w.heap.size]? = some (.cells #[.int .u64 x.1, .int .i64 x.2, .int .u64 y.1, .int .i64 y.2] tRf (0, 0)) ∧ ((w.alloc (.cells #[.int .u64 x.1, .int .i64 x.2, .int .u64 y.1, .int .i64 y.2] tRf)).alloc (.cells #[.int .i64 0, .int .i64 0] tCl)).heap[w.heap.size + 1]? = some (.cells #[.int .i64 0, .int .i64 0] tCl (0, 0))) := two_heap w _ _
  have hAB : Hid (Below w.heap.size w ((w.alloc (.cells #[.int .u64 x.1, .int .i64 x.2, .int .u64 y.1, .int .i64 y.2] tRf)).alloc (.cells #[.int .i64 0, .int .i64 0] tCl))) := by unfold Hid; (repeat' (first | (with_reducible exact Below.refl _ _) | (with_reducible assumption) | (with_reducible refine Below.alloc ?_ ?_ _) | (with_reducible refine bel_drewN ?_ _) | (with_reducible refine Below.drew ?_) | (with_reducible refine Below.setCell ?_ ?_ _) | (with_reducible refine bel_call ‹_› ?_ ?_) | go_size))
  obtain ⟨S, hS⟩ : ∃ S, plcS rows cols x y = S := ⟨_, rfl⟩
  have HS : Hid (S = plcS rows cols x y) := hS.symm
  rw [hS]
  unfold plcS at HS
  have hl1 := plL_le rows x
  have hl2 := plL_le cols y
  have hn1 : rows.length = n := hrd.1
  have hn3 : cols.length = n2 := hrd2.1
  clear hS hrd hrd2
  generalize plL rows x = k1 at HAT1 HS hl1
  generalize plL cols y = k2 at HAT2 HS hl2
  go_enter Tryz.func35, Tryz.ntmps35
  go_upto_region 1 with fail
  generalize (w.alloc (.cells #[.int .u64 x.1, .int .i64 x.2, .int .u64 y.1, .int .i64 y.2] tRf)).alloc (.cells #[.int .i64 0, .int .i64 0] tCl) = w0 at hh hAB ⊢
  obtain ⟨hA0, hA1⟩ := hh.out
  have c0 : w0.cell? ⟨w.heap.size, 0, none⟩ = some (.int .u64 x.1) := by rw [cell_of_block hA0]; rfl
  have c1 : w0.cell? ⟨w.heap.size, 1, none⟩ = some (.int .i64 x.2) := by rw [cell_of_block hA0]; rfl
  go_wp2_with fail
  refine (HAT1.out _ hAB.out).mono ?_
  rintro e w1 ⟨rfl, hb⟩
  have hB1 : Hid (Below w.heap.size w w1) := bel_call hb hAB.out hAB.out.size
  have HA0 : Hid (w1.heap[w.heap.size]? = some (.cells #[.int .u64 x.1, .int .i64 x.2, .int .u64 y.1, .int .i64 y.2] tRf (0, 0))) := (hb.block _ (lt_some hA0)).trans hA0
  have HA1 : Hid (w1.heap[w.heap.size + 1]? = some (.cells #[.int .i64 0, .int .i64 0] tCl (0, 0))) := (hb.block _ (lt_some hA1)).trans hA1
  clear hb c0 c1 hAB hA0 hA1 hh HAT1
  have c2 : w1.cell? ⟨w.heap.size, 2, none⟩ = some (.int .u64 y.1) := by rw [cell_of_block HA0.out]; rfl
  have c3 : w1.cell? ⟨w.heap.size, 3, none⟩ = some (.int .i64 y.2) := by rw [cell_of_block HA0.out]; rfl
  go_wp2_with fail
  refine (HAT2.out _ hB1.out).mono ?_
  rintro e w2 ⟨rfl, hb⟩
  have hB2 : Hid (Below w.heap.size w w2) := bel_call hb hB1.out hB1.out.size
  have HA2 : Hid (w2.heap[w.heap.size + 1]? = some (.cells #[.int .i64 0, .int .i64 0] tCl (0, 0))) := (hb.block _ (lt_some HA1.out)).trans HA1.out
  clear hb c2 c3 hB1 HA0 HA1 HAT2
  have z0 : w2.cell? ⟨w.heap.size + 1, 0, none⟩ = some (.int .i64 0) := by rw [cell_of_block HA2.out]; rfl
  have z1 : w2.cell? ⟨w.heap.size + 1, 1, none⟩ = some (.int .i64 0) := by rw [cell_of_block HA2.out]; rfl
  have f0 := unfrozen_of_block HA2.out 0
  have f1 := unfrozen_of_block HA2.out 1
  have hB := hB2.out
  have hsz : w.heap.size ≤ w.heap.size + 1 := by omega
  clear HA2 hB2
  by_cases h1 : 0 < k1
  · by_cases h2 : 0 < k2
    · have HR : Hid (S = ((k2, k1), true)) := by unfold Hid; rw [HS.out, if_pos ⟨h1, h2⟩]
      have d1 : decide (0 < k1) = true := decide_eq_true h1
      have d2 : decide (0 < k2) = true := decide_eq_true h2
      go_wp2_with fail
      refine bodyPost_ret (v := .tuple #[.agg #[.int .i64 k2, .int .i64 k1], .bool true]) (by simp only [results, Tryz.results35]; go_simp) rfl ⟨by rw [HR.out], by (repeat' (first | (with_reducible exact Below.refl _ _) | (with_reducible assumption) | (with_reducible refine Below.alloc ?_ ?_ _) | (with_reducible refine bel_drewN ?_ _) | (with_reducible refine Below.drew ?_) | (with_reducible refine Below.setCell ?_ ?_ _) | (with_reducible refine bel_call ‹_› ?_ ?_) | go_size))⟩
    · have HR : Hid (S = ((0, 0), false)) := by unfold Hid; rw [HS.out, if_neg (fun h => h2 h.2)]
      have d1 : decide (0 < k1) = true := decide_eq_true h1
      have d2 : decide (0 < k2) = false := decide_eq_false h2
      go_wp2_with fail
      refine bodyPost_ret (v := .tuple #[.agg #[.int .i64 0, .int .i64 0], .bool false]) (by simp only [results, Tryz.results35]; go_simp) rfl ⟨by rw [HR.out]; rfl, by (repeat' (first | (with_reducible exact Below.refl _ _) | (with_reducible assumption) | (with_reducible refine Below.alloc ?_ ?_ _) | (with_reducible refine bel_drewN ?_ _) | (with_reducible refine Below.drew ?_) | (with_reducible refine Below.setCell ?_ ?_ _) | (with_reducible refine bel_call ‹_› ?_ ?_) | go_size))⟩
  · have HR : Hid (S = ((0, 0), false)) := by unfold Hid; rw [HS.out, if_neg (fun h => h1 h.1)]
    have d1 : decide (0 < k1) = false := decide_eq_false h1
    go_wp2_with fail
    refine bodyPost_ret (v := .tuple #[.agg #[.int .i64 0, .int .i64 0], .bool false]) (by simp only [results, Tryz.results35]; go_simp) rfl ⟨by rw [HR.out]; rfl, by (repeat' (first | (with_reducible exact Below.refl _ _) | (with_reducible assumption) | (with_reducible refine Below.alloc ?_ ?_ _) | (with_reducible refine bel_drewN ?_ _) | (with_reducible refine Below.drew ?_) | (with_reducible refine Below.setCell ?_ ?_ _) | (with_reducible refine bel_call ‹_› ?_ ?_) | go_size))⟩
end Go.Proofs.YtjklbbmgjjdalaaGreatDoor.Bd
