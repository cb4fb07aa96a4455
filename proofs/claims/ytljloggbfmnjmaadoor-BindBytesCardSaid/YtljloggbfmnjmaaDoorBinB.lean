/- Bind: the law's lines; its axis; which cells may be. -/
import Derived.Test.YtljloggbfmnjmaaDoorBinA
set_option linter.unusedSimpArgs false
set_option linter.unusedVariables false
namespace Go.Proofs.YtljloggbfmnjmaaDoor
open Go.RowKit Go.Joins

theorem idE_one (x : Idp) : ∀ u ∈ idE x, u.oneCell' = true := by
  intro u hu
  simp only [idE, List.mem_cons, List.not_mem_nil, or_false] at hu
  rcases hu with rfl | rfl <;> rfl
theorem info_id : (Tryd.prog.info? tId).map (fun i => (i.zero, i.size, i.bytes)) = some (some (.agg #[.int .u64 0, .int .i64 0]), 2, 16) := by kernel_rfl
/-- Stamps, each once. -/
def lnF (out : List Idp) (x : Idp) : List Idp := if plL out x = 0 then out ++ [x] else out
def linesL (l : List Idp) : List Idp := (l.take 60).foldl lnF []
theorem lnF_len (out : List Idp) (x : Idp) : (lnF out x).length ≤ out.length + 1 := by unfold lnF; split <;> simp
theorem lnFold_len : ∀ (l out : List Idp), (l.foldl lnF out).length ≤ out.length + l.length
  | [], out => by simp
  | x :: r, out => by
    have h := lnFold_len r (lnF out x)
    have h2 := lnF_len out x
    simp only [List.foldl_cons, List.length_cons]
    omega
theorem linesL_len (l : List Idp) : (linesL l).length ≤ 60 := by
  have h := lnFold_len (l.take 60) []
  have h2 : (l.take 60).length ≤ 60 := by simp; omega
  unfold linesL
  simp only [List.length_nil] at h
  omega
theorem ln_step {l : List Idp} {x : Idp} {i : Nat} (h : l[i]? = some x) : (l.take (i + 1)).foldl lnF [] = lnF ((l.take i).foldl lnF []) x := by
  rw [List.take_add_one, h]
  simp [List.foldl_append]
/-- A row of the call's own is handed back. -/
def LnR (L : List Idp) (e : Ending) (w' : World) : Prop := ∃ p' cap', e = .returned (.slice p' L.length cap') ∧ RdG idE 2 w' p' L.length L

set_option maxRecDepth 100000 in
set_option maxHeartbeats 4000000 in
theorem lines_any (l : List Idp) (p : Option Addr) (n cap : Nat) (w : World) (hrd : RdG idE 2 w p n l) (hn : n ≤ 9223372036854775807) :
    Calls Tryd.prog 5 #[.slice p n cap] w fun e w' => LnR (linesL l) e w' ∧ Below w.heap.size w w' := by
  have HRD := Lib.hid hrd
  have hlen : l.length = n := hrd.1
  obtain ⟨i0, hi, hz0, hz1, hz2⟩ := info_of info_id
  have HPL := Lib.hid (fun out x q c W (h : RdG idE 2 W q (List.length out) out) (hl : List.length out ≤ 60) => rplace_any out x q out.length c W h (by omega))
  clear hrd
  go_enter Tryd.func5, Tryd.ntmps5
  go_wp2_with fail
  go_loopg [3, 4] 60 (fun g v3 v4 wr => ∃ (i : Nat) (out : List Idp), i + g = 60 ∧ v4 = .int .i64 i ∧ i ≤ n ∧ (l.take i).foldl lnF [] = out ∧ out.length ≤ i ∧ wr.ownsRow w.heap.size tId 2 v3 out.length (out.flatMap idE) ∧ Below w.heap.size w wr)
  case atStart => exact ⟨0, [], by omega, rfl, by omega, rfl, by simp, World.ownsRow_nil _ _ _ _, Below.refl _ _⟩
  case round =>
    obtain ⟨i, out, hig, rfl, hin, hout, hol, hown, hbel⟩ := hrel
    have HO := Lib.hid hown
    have HOUT := Lib.hid hout
    have HBL := Lib.hid hbel
    have hzr := hbel.size
    obtain ⟨q, cq, hq, hq1, hq2, HQ0, _⟩ := RdG.of_own idE_len rfl hown
    subst hq
    have HQ := Lib.hid HQ0
    clear hown hbel hout HQ0
    by_cases hlt : i < n ∧ i < 60
    · obtain ⟨hlt, h60⟩ := hlt
      have hli : (i : Int) < (n : Int) := by omega
      have h60i : (i : Int) < 60 := by omega
      obtain ⟨b, off, rfl, hb, hx⟩ := HRD.out.some hlt
      obtain ⟨x, hxi⟩ : ∃ x, l[i]? = some x := ⟨_, List.getElem?_eq_getElem (by omega)⟩
      have q0 := (HBL.out.cell (p := ⟨b, off + i * 2, none⟩) hb).trans (hx i x hxi 0 _ rfl)
      have q1 := (HBL.out.cell (p := ⟨b, off + i * 2 + 1, none⟩) hb).trans (hx i x hxi 1 _ rfl)
      have HST : Hid ((l.take (i + 1)).foldl lnF [] = lnF out x) := by unfold Hid; rw [ln_step hxi, HOUT.out]
      clear hx hxi
      have HC := Lib.hid (HPL.out out x q cq wr HQ.out (by omega))
      obtain ⟨r, hr⟩ : ∃ r, plL out x = r := ⟨_, rfl⟩
      rw [hr] at HC
      have HR := Lib.hid hr
      clear hr
      go_wp2_with fail
      refine HC.out.mono ?_
      rintro e w1 ⟨rfl, hb1⟩
      have q0 := (hb1.cell (p := ⟨b, off + i * 2, none⟩) (Nat.lt_of_lt_of_le hb hzr)).trans q0
      have q1 := (hb1.cell (p := ⟨b, off + i * 2 + 1, none⟩) (Nat.lt_of_lt_of_le hb hzr)).trans q1
      have HO1 := Lib.hid (row_below HO.out hb1)
      have HB1 : Hid (Below w.heap.size w w1) := bel_call hb1 HBL.out hzr
      have hz1' : w.heap.size ≤ w1.heap.size := Nat.le_trans hzr hb1.size
      clear hb1 HC HO HBL HQ
      by_cases hr0 : r = 0
      · subst hr0
        have HST2 : Hid ((l.take (i + 1)).foldl lnF [] = out ++ [x]) := by unfold Hid; rw [HST.out]; unfold lnF; rw [if_pos HR.out]
        go_wp2_with (at_builtin; refine wpList_append_own _ rfl _ _ _ rfl w.heap.size tId i0 (.agg #[.int .u64 0, .int .i64 0]) 2 16 Tryd.underlying22 hi hz0 hz1 hz2 rfl (by decide) _ _ _ rfl (HO1.out.alloc _) ⟨w1.heap.size, 0, none⟩ 1 1 (idE x) rfl rfl ?c1 ?c2 ?c3 ?c4 ?c5 ?_)
        case c1 => first | exact new2 w1 _ _ _ | exact fun j u h => h
        case c2 => exact idE_one _
        case c3 => unfold maxLen; omega
        case c4 => omega
        case c5 => first | omega | (simp; omega)
        intro v' w4 hown4 hgrow4 _
        have hb4 : Hid (Below w.heap.size w w4) := (HB1.out.alloc (by omega) _).grown hgrow4 (by simp; omega) (fun k hk => (HO1.out.lt k hk).1)
        have HF : Hid (w4.ownsRow w.heap.size tId 2 v' (out ++ [x]).length ((out ++ [x]).flatMap idE)) := by
          unfold Hid
          rw [flat_snoc, List.length_append]
          exact hown4
        clear hown4 hgrow4
        go_wp2_with fail
        go_roundg (gk - 1)
        case measure => omega
        case rel => exact ⟨i + 1, out ++ [x], by omega, by go_num, by omega, HST2.out, by simp; omega, HF.out, hb4.out⟩
      · have HST2 : Hid ((l.take (i + 1)).foldl lnF [] = out) := by unfold Hid; rw [HST.out]; unfold lnF; rw [if_neg (by rw [HR.out]; exact hr0)]
        have hr0i : ((r : Int) == 0) = false := by simp; omega
        go_wp2_with fail
        go_roundg (gk - 1)
        case measure => omega
        case rel => exact ⟨i + 1, out, by omega, by go_num, by omega, HST2.out, by omega, HO1.out, HB1.out⟩
    · have HE : Hid (linesL l = out) := by
        unfold Hid linesL
        rw [← HOUT.out]
        by_cases h1 : i < n
        · have : i = 60 := by omega
          subst this
          rfl
        · have : i = n := by omega
          subst this
          rw [List.take_of_length_le (by omega), List.take_of_length_le (by omega)]
      by_cases h1 : i < n
      · have hli : (i : Int) < (n : Int) := by omega
        have h60i : ¬ (i : Int) < 60 := by omega
        go_wp2_with fail
        go_ret
        exact ⟨by rw [HE.out]; exact ⟨q, cq, rfl, HQ.out⟩, HBL.out⟩
      · obtain rfl : i = n := by omega
        have hli : ¬ (i : Int) < (i : Int) := by omega
        go_wp2_with fail
        go_ret
        exact ⟨by rw [HE.out]; exact ⟨q, cq, rfl, HQ.out⟩, HBL.out⟩
end Go.Proofs.YtljloggbfmnjmaaDoor
