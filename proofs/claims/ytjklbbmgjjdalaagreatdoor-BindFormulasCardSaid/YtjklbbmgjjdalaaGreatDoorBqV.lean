/- Trees: the document's Print. Printed by gen_trexc.py. Trees: the law's 'named'. Printed by gen_trexf.py. -/
import Derived.Test.YtjklbbmgjjdalaaGreatDoorBqT
import Derived.Test.YtjklbbmgjjdalaaGreatDoorBqE
set_option linter.unusedSimpArgs false
set_option linter.unusedVariables false
namespace Go.Proofs.YtjklbbmgjjdalaaGreatDoor
open Go.RowKit Go.Joins
theorem lvS_hi (s : Bs) : lvS s ≤ 4 := by
  unfold lvS
  split
  · omega
  · split
    · omega
    · split
      · omega
      · split <;> omega
set_option maxRecDepth 100000 in
set_option maxHeartbeats 8000000 in
theorem rprint_5 (d : Nat) (IH : ∀ d', d = d' + 1 → RPrintC (fun _ => True) d') : RPrintC (fun n => n.kind = 5) d := by
  intro n p len cap least lv w hq hrd hok hrt hl0 hl1 hwt
  have hk : n.kind = 5 := hq
  obtain ⟨x, hxa⟩ : ∃ x, n.args = [x] := args_one hrt hk
  have hmx : x ∈ n.args := by rw [hxa]; simp
  have hma : (nmN nmS n).args = [nmN nmS x] := by rw [nmN_args, hxa, nmL, nmL]
  have hwx : wtN n = 400 + 2 * n.text.length + (wtN x + 1) := by rw [wtN_eq, hxa, wtL, wtL]
  obtain rfl : len = 1 := by rw [← hrd.len, hma]; rfl
  have HRX : Hid (∀ W, Below w.heap.size w W → ∃ d' bb off p' l' c', d = d' + 1 ∧ p = some ⟨bb, off, none⟩ ∧ bb < w.heap.size ∧ RdT W w.heap.size d' (nmN nmS x) p' l' ∧ W.cell? ⟨bb, off, none⟩ = some (.int .i64 (nmN nmS x).kind) ∧ W.cell? ⟨bb, off + 1, none⟩ = some (.int .i64 (nmN nmS x).num) ∧ W.cell? ⟨bb, off + 2, none⟩ = some (.string ⟨(nmN nmS x).text.toArray⟩) ∧ W.cell? ⟨bb, off + 3, none⟩ = some (.int .i64 (nmN nmS x).frm) ∧ W.cell? ⟨bb, off + 4, none⟩ = some (.int .i64 (nmN nmS x).tor) ∧ W.cell? ⟨bb, off + 5, none⟩ = some (.slice p' l' c')) := by
    intro W hW
    obtain ⟨d', bb, off, c, p', l', c', hd, hp, hbN, hc, hrc, q0, q1, q2, q3, q4, q5⟩ := (hrd.below hW).at (j := 0) (by omega)
    rw [hma] at hc
    cases hc
    exact ⟨d', bb, off, p', l', c', hd, hp, hbN, hrc, q0, q1, q2, q3, q4, q5⟩
  have HIX := Lib.hid (fun d' (hd : d = d' + 1) p' l' c' W (hrx : RdT W W.heap.size d' (nmN nmS x) p' l') => IH d' hd x p' l' c' 5 (lv - 1) W trivial hrx (hok.child hmx) (rtN_kids hrt _ hmx) (by omega) (by omega) (by omega))
  have hPl : (prN nmS x 5).length ≤ wtN x := prN_len nmS_len txt_lenT x (hok.child hmx) 5
  have hA0 : Hid (NdB tRn (w.alloc (.cells (ndA (nmN nmS n) p 1 cap) tRn)) w.heap.size (nmN nmS n) p 1 cap) := heap_alloc_new w _
  have hAB : Hid (Below w.heap.size w (w.alloc (.cells (ndA (nmN nmS n) p 1 cap) tRn))) := by unfold Hid; (repeat' (first | (with_reducible exact Below.refl _ _) | (with_reducible assumption) | (with_reducible refine Below.alloc ?_ ?_ _) | (with_reducible refine bel_drewN ?_ _) | (with_reducible refine Below.drew ?_) | (with_reducible refine Below.setCell ?_ ?_ _) | (with_reducible refine bel_call ‹_› ?_ ?_) | go_size))
  have HHO := Lib.hid (fun W => holds_any (nmN nmS n) p 1 cap W)
  rw [nmN_holds] at HHO
  rw [prN_bd]
  have hbl := bdN_len n hok
  have HKM : Hid ((nmN nmS n).kind = n.kind) := nmN_kind n
  rw [hk] at HKM
  have HBD : Hid (bdN n = 45 :: prN nmS x 5) := by unfold Hid bdN prB; rw [hk, hxa, prAt, if_pos rfl]; simp
  generalize prN nmS x 5 = P at HIX hPl HBD
  generalize nmN nmS x = mx at HIX HRX hma
  clear IH hrd hma
  obtain ⟨X, hX⟩ : ∃ X, bdN n = X := ⟨_, rfl⟩
  have HX := Lib.hid hX
  rw [hX] at hbl ⊢
  clear hX
  obtain ⟨h, hh⟩ : ∃ h, hdS n.kind n.text = h := ⟨_, rfl⟩
  rw [hh] at HHO ⊢
  clear hh
  generalize nmN nmS n = m at *
  rw [ndA_eq] at HHO ⊢
  go_enter Tryz.func37, Tryz.ntmps37
  go_upto_region 1 with fail
  have e0 : w.alloc (.cells #[.int .i64 m.kind, .int .i64 m.num, .string ⟨m.text.toArray⟩, .int .i64 m.frm, .int .i64 m.tor, .slice p 1 cap] tRn) = w.alloc (.cells (ndA m p 1 cap) tRn) := rfl
  rw [e0]
  clear e0
  generalize w.alloc (.cells (ndA m p 1 cap) tRn) = w0 at hA0 hAB ⊢
  have hXs : (⟨X.toArray⟩ : ByteArray).size ≤ 2200000 := by rw [Lib.size_eq]; exact Nat.le_trans hbl hwt
  obtain ⟨c0, c1, c2, c3, c4, c5⟩ := hA0.out.cells
  rw [HKM.out] at c0
  go_upto_block 0 with fail
  go_cut [5] (fun v wx => v = .string ⟨X.toArray⟩ ∧ Below w.heap.size w wx ∧ NdB tRn wx w.heap.size m p 1 cap)
  case first =>
    obtain ⟨d', bb, off, p', l', c', hd, rfl, hbb, hrx, q0, q1, q2, q3, q4, q5⟩ := HRX.out w0 hAB.out
    have HCX := Lib.hid (HIX.out d' hd p' l' c' w0 (hrx.mono hAB.out.size))
    rw [ndA_eq] at HCX
    have hPs : (⟨P.toArray⟩ : ByteArray).size ≤ 2200000 := by rw [Lib.size_eq]; simp; omega
    have hz1 : (⟨#[45]⟩ : ByteArray).size = 1 := rfl
    have hcat : (⟨#[45]⟩ : ByteArray) ++ ⟨P.toArray⟩ = ⟨(45 :: P).toArray⟩ := cat2 [45] P
    clear hrx HRX HIX hd
    go_wp2_with fail
    refine HCX.out.mono ?_
    rintro e w1 ⟨rfl, hb⟩
    have hB1 : Hid (Below w.heap.size w w1) := bel_call hb hAB.out hAB.out.size
    have hN1 := Lib.hid (hA0.out.below hb)
    clear hb c0 c1 c2 c3 c4 c5 q0 q1 q2 q3 q4 q5 hA0 hAB HCX HHO
    go_wp2_with fail
    go_meet
    exact ⟨by first | (rw [← HX.out, HBD.out]; done) | (rw [← HX.out, HBD.out, ← hcat]; rfl), hB1.out, hN1.out⟩
  case rest =>
    obtain ⟨hv, hB, hN⟩ := hcut
    subst hv
    have hBw := Lib.hid hB
    have hNw := Lib.hid hN
    clear hB hN hA0 hAB HX HKM c0 c1 c2 c3 c4 c5
    obtain ⟨c0, c1, c2, c3, c4, c5⟩ := hNw.out.cells
    have z1 : (⟨#[40]⟩ : ByteArray).size = 1 := rfl
    have z2 : (⟨#[41]⟩ : ByteArray).size = 1 := rfl
    have h1 : (⟨#[40]⟩ : ByteArray) ++ ⟨X.toArray⟩ = ⟨(40 :: X).toArray⟩ := cat2 [40] X
    have h2 : (⟨(40 :: X).toArray⟩ : ByteArray) ++ ⟨#[41]⟩ = ⟨(40 :: (X ++ [41])).toArray⟩ := cat2 (40 :: X) [41]
    have z3 : (⟨(40 :: X).toArray⟩ : ByteArray).size ≤ 2200001 := by rw [Lib.size_eq]; have := hXs; rw [Lib.size_eq] at this; simpa using this
    by_cases hl : h < least
    · go_wp2_with fail
      refine (HHO.out _).mono ?_
      rintro e w1 ⟨rfl, hb⟩
      have hB1 := bel_call hb hBw.out hBw.out.size
      clear hb hBw hNw c0 c1 c2 c3 c4 c5 HHO
      go_wp2_with fail
      go_ret
      exact ⟨by first | rfl | (rw [if_pos hl]; done) | (rw [if_pos hl]; rfl) | (rw [if_pos hl, ← h2, ← h1]; rfl), hB1⟩
    · go_wp2_with fail
      refine (HHO.out _).mono ?_
      rintro e w1 ⟨rfl, hb⟩
      have hB1 := bel_call hb hBw.out hBw.out.size
      clear hb hBw hNw c0 c1 c2 c3 c4 c5 HHO
      go_wp2_with fail
      go_ret
      exact ⟨by first | rfl | (rw [if_neg hl]; done) | (rw [if_neg hl]; rfl), hB1⟩
set_option maxRecDepth 100000 in
set_option maxHeartbeats 8000000 in
theorem rprint_6 (d : Nat) (IH : ∀ d', d = d' + 1 → RPrintC (fun _ => True) d') : RPrintC (fun n => n.kind = 6) d := by
  intro n p len cap least lv w hq hrd hok hrt hl0 hl1 hwt
  have hk : n.kind = 6 := hq
  have hk1 := rtN_tag6 hrt hk
  have hk4 := lvS_hi n.text
  obtain ⟨x, y, hxa⟩ : ∃ x y, n.args = [x, y] := args_two hrt hk
  have hmx : x ∈ n.args := by rw [hxa]; simp
  have hmy : y ∈ n.args := by rw [hxa]; simp
  have hma : (nmN nmS n).args = [nmN nmS x, nmN nmS y] := by rw [nmN_args, hxa, nmL, nmL, nmL]
  have hwx : wtN n = 400 + 2 * n.text.length + (wtN x + 1 + (wtN y + 1)) := by rw [wtN_eq, hxa, wtL, wtL, wtL]
  have HLV := Lib.hid (fun W => rlevel_any ⟨n.text.toArray⟩ W)
  rw [show (⟨n.text.toArray⟩ : ByteArray).data.toList = n.text from rfl] at HLV
  have HTX : Hid ((nmN nmS n).text = n.text) := by unfold Hid; rw [nmN_text, if_neg (by omega), if_neg (by omega)]
  obtain rfl : len = 2 := by rw [← hrd.len, hma]; rfl
  have HRX : Hid (∀ W, Below w.heap.size w W → ∃ d' bb off p' l' c', d = d' + 1 ∧ p = some ⟨bb, off, none⟩ ∧ bb < w.heap.size ∧ RdT W w.heap.size d' (nmN nmS x) p' l' ∧ W.cell? ⟨bb, off, none⟩ = some (.int .i64 (nmN nmS x).kind) ∧ W.cell? ⟨bb, off + 1, none⟩ = some (.int .i64 (nmN nmS x).num) ∧ W.cell? ⟨bb, off + 2, none⟩ = some (.string ⟨(nmN nmS x).text.toArray⟩) ∧ W.cell? ⟨bb, off + 3, none⟩ = some (.int .i64 (nmN nmS x).frm) ∧ W.cell? ⟨bb, off + 4, none⟩ = some (.int .i64 (nmN nmS x).tor) ∧ W.cell? ⟨bb, off + 5, none⟩ = some (.slice p' l' c')) := by
    intro W hW
    obtain ⟨d', bb, off, c, p', l', c', hd, hp, hbN, hc, hrc, q0, q1, q2, q3, q4, q5⟩ := (hrd.below hW).at (j := 0) (by omega)
    rw [hma] at hc
    cases hc
    exact ⟨d', bb, off, p', l', c', hd, hp, hbN, hrc, q0, q1, q2, q3, q4, q5⟩
  have HRY : Hid (∀ W, Below w.heap.size w W → ∃ d' bb off p' l' c', d = d' + 1 ∧ p = some ⟨bb, off, none⟩ ∧ bb < w.heap.size ∧ RdT W w.heap.size d' (nmN nmS y) p' l' ∧ W.cell? ⟨bb, off + 6, none⟩ = some (.int .i64 (nmN nmS y).kind) ∧ W.cell? ⟨bb, off + 7, none⟩ = some (.int .i64 (nmN nmS y).num) ∧ W.cell? ⟨bb, off + 8, none⟩ = some (.string ⟨(nmN nmS y).text.toArray⟩) ∧ W.cell? ⟨bb, off + 9, none⟩ = some (.int .i64 (nmN nmS y).frm) ∧ W.cell? ⟨bb, off + 10, none⟩ = some (.int .i64 (nmN nmS y).tor) ∧ W.cell? ⟨bb, off + 11, none⟩ = some (.slice p' l' c')) := by
    intro W hW
    obtain ⟨d', bb, off, c, p', l', c', hd, hp, hbN, hc, hrc, q0, q1, q2, q3, q4, q5⟩ := (hrd.below hW).at (j := 1) (by omega)
    rw [hma] at hc
    cases hc
    exact ⟨d', bb, off, p', l', c', hd, hp, hbN, hrc, q0, q1, q2, q3, q4, q5⟩
  have HIX := Lib.hid (fun d' (hd : d = d' + 1) p' l' c' W (hrx : RdT W W.heap.size d' (nmN nmS x) p' l') => IH d' hd x p' l' c' (lvS n.text) (lv - 1) W trivial hrx (hok.child hmx) (rtN_kids hrt _ hmx) (by omega) (by omega) (by omega))
  have HIY := Lib.hid (fun d' (hd : d = d' + 1) p' l' c' W (hrx : RdT W W.heap.size d' (nmN nmS y) p' l') => IH d' hd y p' l' c' (lvS n.text + 1) (lv - 1) W trivial hrx (hok.child hmy) (rtN_kids hrt _ hmy) (by omega) (by omega) (by omega))
  have hPl : (prN nmS x (lvS n.text)).length ≤ wtN x := prN_len nmS_len txt_lenT x (hok.child hmx) _
  have hQl : (prN nmS y (lvS n.text + 1)).length ≤ wtN y := prN_len nmS_len txt_lenT y (hok.child hmy) _
  have hA0 : Hid (NdB tRn (w.alloc (.cells (ndA (nmN nmS n) p 2 cap) tRn)) w.heap.size (nmN nmS n) p 2 cap) := heap_alloc_new w _
  have hAB : Hid (Below w.heap.size w (w.alloc (.cells (ndA (nmN nmS n) p 2 cap) tRn))) := by unfold Hid; (repeat' (first | (with_reducible exact Below.refl _ _) | (with_reducible assumption) | (with_reducible refine Below.alloc ?_ ?_ _) | (with_reducible refine bel_drewN ?_ _) | (with_reducible refine Below.drew ?_) | (with_reducible refine Below.setCell ?_ ?_ _) | (with_reducible refine bel_call ‹_› ?_ ?_) | go_size))
  have HHO := Lib.hid (fun W => holds_any (nmN nmS n) p 2 cap W)
  rw [nmN_holds] at HHO
  rw [prN_bd]
  have hbl := bdN_len n hok
  have HKM : Hid ((nmN nmS n).kind = n.kind) := nmN_kind n
  rw [hk] at HKM
  have HBD : Hid (bdN n = prN nmS x (lvS n.text) ++ n.text ++ prN nmS y (lvS n.text + 1)) := by unfold Hid bdN prB; rw [hk, hxa, show prAt nmS [x, y] 0 (lvS n.text) = prN nmS x (lvS n.text) from by rw [prAt, if_pos rfl], show prAt nmS [x, y] 1 (lvS n.text + 1) = prN nmS y (lvS n.text + 1) from by rw [prAt, if_neg (by omega), prAt, if_pos rfl]]; simp
  generalize prN nmS x (lvS n.text) = P at HIX hPl HBD
  generalize prN nmS y (lvS n.text + 1) = R at HIY hQl HBD
  generalize nmN nmS x = mx at HIX HRX hma
  generalize nmN nmS y = my at HIY HRY hma
  clear IH hrd hma
  have hTl : n.text.length ≤ 1100000 := by omega
  obtain ⟨X, hX⟩ : ∃ X, bdN n = X := ⟨_, rfl⟩
  have HX := Lib.hid hX
  rw [hX] at hbl ⊢
  clear hX
  obtain ⟨h, hh⟩ : ∃ h, hdS n.kind n.text = h := ⟨_, rfl⟩
  rw [hh] at HHO ⊢
  clear hh
  generalize nmN nmS n = m at *
  rw [ndA_eq] at HHO ⊢
  go_enter Tryz.func37, Tryz.ntmps37
  go_upto_region 1 with fail
  have e0 : w.alloc (.cells #[.int .i64 m.kind, .int .i64 m.num, .string ⟨m.text.toArray⟩, .int .i64 m.frm, .int .i64 m.tor, .slice p 2 cap] tRn) = w.alloc (.cells (ndA m p 2 cap) tRn) := rfl
  rw [e0]
  clear e0
  generalize w.alloc (.cells (ndA m p 2 cap) tRn) = w0 at hA0 hAB ⊢
  have hXs : (⟨X.toArray⟩ : ByteArray).size ≤ 2200000 := by rw [Lib.size_eq]; exact Nat.le_trans hbl hwt
  obtain ⟨c0, c1, c2, c3, c4, c5⟩ := hA0.out.cells
  rw [HKM.out] at c0
  go_upto_block 0 with fail
  go_cut [5] (fun v wx => v = .string ⟨X.toArray⟩ ∧ Below w.heap.size w wx ∧ NdB tRn wx w.heap.size m p 2 cap)
  case first =>
    rw [HTX.out] at c2
    generalize n.text = tx at *
    generalize lvS tx = k at *
    obtain ⟨d', bb, off, p', l', c', hd, rfl, hbb, hrx, q0, q1, q2, q3, q4, q5⟩ := HRX.out w0 hAB.out
    obtain ⟨d2, bb2, off2, p2, l2, c2y, hd2, hpe, hbb2, hry, s0, s1, s2, s3, s4, s5⟩ := HRY.out w0 hAB.out
    cases hpe
    have hkw : IntKind.i64.wrap (k + 1) = k + 1 := IntWalk.i64_in _ (by omega)
    go_upto_region 13 with fail
    have HRXb := Lib.hid (fun dd os => (hrx.below (N := w.heap.size) ((below_regrown w0 dd os).mono hAB.out.size)).mono (Nat.le_trans hAB.out.size (below_regrown w0 dd os).size))
    have HRYb := Lib.hid (fun dd os => (hry.below (N := w.heap.size) ((below_regrown w0 dd os).mono hAB.out.size)).mono (Nat.le_trans hAB.out.size (below_regrown w0 dd os).size))
    have r0 := cell_regrown c0
    have r2 := cell_regrown c2
    have r5 := cell_regrown c5
    have g0 := cell_regrown q0
    have g1 := cell_regrown q1
    have g2 := cell_regrown q2
    have g3 := cell_regrown q3
    have g4 := cell_regrown q4
    have g5 := cell_regrown q5
    have t0 := cell_regrown s0
    have t1 := cell_regrown s1
    have t2 := cell_regrown s2
    have t3 := cell_regrown s3
    have t4 := cell_regrown s4
    have t5 := cell_regrown s5
    have cL : ∀ dd os, Calls Tryz.prog 58 #[.string ⟨tx.toArray⟩] (Go.Sort.grow (redrawn w0 dd) os) fun e w'' => e = .returned (.int .i64 k) ∧ ∃ p : Regrown, w'' = Go.Sort.grow (redrawn w0 p.1) p.2 := fun dd os => Calls.regrown_of (HLV.out _)
    have cX : ∀ dd os, Calls Tryz.prog 37 #[.agg #[.int .i64 mx.kind, .int .i64 mx.num, .string ⟨mx.text.toArray⟩, .int .i64 mx.frm, .int .i64 mx.tor, .slice p' l' c'], .int .i64 k] (Go.Sort.grow (redrawn w0 dd) os) fun e w'' => e = .returned (.string ⟨P.toArray⟩) ∧ ∃ p : Regrown, w'' = Go.Sort.grow (redrawn w0 p.1) p.2 := fun dd os => Calls.regrown_of (HIX.out d' hd p' l' c' _ (HRXb.out dd os))
    have cY : ∀ dd os, Calls Tryz.prog 37 #[.agg #[.int .i64 my.kind, .int .i64 my.num, .string ⟨my.text.toArray⟩, .int .i64 my.frm, .int .i64 my.tor, .slice p2 l2 c2y], .int .i64 (k + 1)] (Go.Sort.grow (redrawn w0 dd) os) fun e w'' => e = .returned (.string ⟨R.toArray⟩) ∧ ∃ p : Regrown, w'' = Go.Sort.grow (redrawn w0 p.1) p.2 := fun dd os => Calls.regrown_of (HIY.out d2 hd2 p2 l2 c2y _ (HRYb.out dd os))
    have hPs : (⟨P.toArray⟩ : ByteArray).size = P.length := by rw [Lib.size_eq]
    have hTs : (⟨tx.toArray⟩ : ByteArray).size = tx.length := by rw [Lib.size_eq]
    have hRs : (⟨R.toArray⟩ : ByteArray).size = R.length := by rw [Lib.size_eq]
    have hPT : (⟨P.toArray⟩ : ByteArray) ++ ⟨tx.toArray⟩ = ⟨(P ++ tx).toArray⟩ := cat2 P tx
    have hPTs : (⟨(P ++ tx).toArray⟩ : ByteArray).size = P.length + tx.length := by rw [Lib.size_eq]; simp
    have hPTR : (⟨(P ++ tx).toArray⟩ : ByteArray) ++ ⟨R.toArray⟩ = ⟨(P ++ tx ++ R).toArray⟩ := cat2 (P ++ tx) R
    have hop1 : ∀ W, (Op.stringOp .add ⟨P.toArray⟩ ⟨tx.toArray⟩).run Tryz.prog W = .ok (.string ⟨(P ++ tx).toArray⟩) W := fun W => by rw [← hPT]; exact run_string_add_sum W _ _ (by rw [hPs, hTs]; omega)
    have hop2 : ∀ W, (Op.stringOp .add ⟨(P ++ tx).toArray⟩ ⟨R.toArray⟩).run Tryz.prog W = .ok (.string ⟨(P ++ tx ++ R).toArray⟩) W := fun W => by rw [← hPTR]; exact run_string_add_sum W _ _ (by rw [hPTs, hRs]; omega)
    have hBR : ∀ dd os, Below w.heap.size w (Go.Sort.grow (redrawn w0 dd) os) := fun dd os => bel_call (below_regrown w0 dd os) hAB.out hAB.out.size
    clear c0 c1 c2 c3 c4 c5 q0 q1 q2 q3 q4 q5 s0 s1 s2 s3 s4 s5 HRX HRY HIX HIY HLV hrx hry HRXb HRYb hPs hTs hRs hPTs HHO HTX hPT hPTR hPl hQl hTl
    refine wp_region_quiet_below (by kernel_rfl) (by kernel_rfl) ?_
    repeat (go_big_quiet_step ((first | with_reducible exact cL _ _ | with_reducible exact cX _ _ | with_reducible exact cY _ _)))
    refine wpQuiet_nil ?_
    intro _ hw'
    obtain ⟨⟨dz, osz⟩, hw''⟩ := hw'
    subst hw''
    have hBz : Below w.heap.size w (Go.Sort.grow (redrawn w0 dz) osz) := hBR dz osz
    have hNz := hA0.out.below (below_regrown w0 dz osz)
    go_wp2_with fail
    go_meet
    exact ⟨by first | (rw [← HX.out, HBD.out]; done) | (rw [← HX.out, HBD.out]; simp), hBz, hNz⟩
  case rest =>
    obtain ⟨hv, hB, hN⟩ := hcut
    subst hv
    have hBw := Lib.hid hB
    have hNw := Lib.hid hN
    clear hB hN hA0 hAB HX HKM c0 c1 c2 c3 c4 c5
    obtain ⟨c0, c1, c2, c3, c4, c5⟩ := hNw.out.cells
    have z1 : (⟨#[40]⟩ : ByteArray).size = 1 := rfl
    have z2 : (⟨#[41]⟩ : ByteArray).size = 1 := rfl
    have h1 : (⟨#[40]⟩ : ByteArray) ++ ⟨X.toArray⟩ = ⟨(40 :: X).toArray⟩ := cat2 [40] X
    have h2 : (⟨(40 :: X).toArray⟩ : ByteArray) ++ ⟨#[41]⟩ = ⟨(40 :: (X ++ [41])).toArray⟩ := cat2 (40 :: X) [41]
    have z3 : (⟨(40 :: X).toArray⟩ : ByteArray).size ≤ 2200001 := by rw [Lib.size_eq]; have := hXs; rw [Lib.size_eq] at this; simpa using this
    by_cases hl : h < least
    · go_wp2_with fail
      refine (HHO.out _).mono ?_
      rintro e w1 ⟨rfl, hb⟩
      have hB1 := bel_call hb hBw.out hBw.out.size
      clear hb hBw hNw c0 c1 c2 c3 c4 c5 HHO
      go_wp2_with fail
      go_ret
      exact ⟨by first | rfl | (rw [if_pos hl]; done) | (rw [if_pos hl]; rfl) | (rw [if_pos hl, ← h2, ← h1]; rfl), hB1⟩
    · go_wp2_with fail
      refine (HHO.out _).mono ?_
      rintro e w1 ⟨rfl, hb⟩
      have hB1 := bel_call hb hBw.out hBw.out.size
      clear hb hBw hNw c0 c1 c2 c3 c4 c5 HHO
      go_wp2_with fail
      go_ret
      exact ⟨by first | rfl | (rw [if_neg hl]; done) | (rw [if_neg hl]; rfl), hB1⟩
set_option maxRecDepth 100000 in
set_option maxHeartbeats 8000000 in
theorem rprint_7 (d : Nat) (IH : ∀ d', d = d' + 1 → RPrintC (fun _ => True) d') : RPrintC (fun n => n.kind = 7) d := by
  intro n p len cap least lv w hq hrd hok hrt hl0 hl1 hwt
  have hk : n.kind = 7 := hq
  have HRD := Lib.hid hrd
  have hln : n.args.length = len := by rw [← hrd.len, nmN_args, nmL_len]
  have HMA : Hid ((nmN nmS n).args = nmL nmS n.args) := nmN_args n
  have hoks : ∀ c ∈ n.args, OkN c := fun c hc => hok.child hc
  have HOK := Lib.hid hoks
  have HJL := Lib.hid (fun i => prJ_len hoks i)
  have hwx := wtN_eq n
  have hlen9 := hok.len
  rw [hln] at hlen9
  have HTX : Hid ((nmN nmS n).text = n.text) := by unfold Hid; rw [nmN_text, if_neg (by omega), if_neg (by omega)]
  have HIX := Lib.hid (fun d' (hd : d = d' + 1) c (hc : c ∈ n.args) (hcw : wtN c ≤ 2200000) p' l' c' W (hrx : RdT W W.heap.size d' (nmN nmS c) p' l') => IH d' hd c p' l' c' 1 (lv - 1) W trivial hrx (hok.child hc) (rtN_kids hrt _ hc) (by omega) (by omega) hcw)
  have hA0 : Hid (NdB tRn (w.alloc (.cells (ndA (nmN nmS n) p len cap) tRn)) w.heap.size (nmN nmS n) p len cap) := heap_alloc_new w _
  have hAB : Hid (Below w.heap.size w (w.alloc (.cells (ndA (nmN nmS n) p len cap) tRn))) := by unfold Hid; (repeat' (first | (with_reducible exact Below.refl _ _) | (with_reducible assumption) | (with_reducible refine Below.alloc ?_ ?_ _) | (with_reducible refine bel_drewN ?_ _) | (with_reducible refine Below.drew ?_) | (with_reducible refine Below.setCell ?_ ?_ _) | (with_reducible refine bel_call ‹_› ?_ ?_) | go_size))
  have HHO := Lib.hid (fun W => holds_any (nmN nmS n) p len cap W)
  rw [nmN_holds] at HHO
  rw [prN_bd]
  have hbl := bdN_len n hok
  have HKM : Hid ((nmN nmS n).kind = n.kind) := nmN_kind n
  rw [hk] at HKM
  have HBD : Hid (bdN n = n.text ++ 40 :: (prJ n.args len ++ [41])) := by unfold Hid bdN prB prJ; rw [hk, List.take_of_length_le (by omega)]; simp
  clear IH hrd hoks
  obtain ⟨X, hX⟩ : ∃ X, bdN n = X := ⟨_, rfl⟩
  have HX := Lib.hid hX
  rw [hX] at hbl ⊢
  clear hX
  obtain ⟨h, hh⟩ : ∃ h, hdS n.kind n.text = h := ⟨_, rfl⟩
  rw [hh] at HHO ⊢
  clear hh
  generalize nmN nmS n = m at *
  rw [ndA_eq] at HHO ⊢
  go_enter Tryz.func37, Tryz.ntmps37
  go_upto_region 1 with fail
  have e0 : w.alloc (.cells #[.int .i64 m.kind, .int .i64 m.num, .string ⟨m.text.toArray⟩, .int .i64 m.frm, .int .i64 m.tor, .slice p len cap] tRn) = w.alloc (.cells (ndA m p len cap) tRn) := rfl
  rw [e0]
  clear e0
  generalize w.alloc (.cells (ndA m p len cap) tRn) = w0 at hA0 hAB ⊢
  have hXs : (⟨X.toArray⟩ : ByteArray).size ≤ 2200000 := by rw [Lib.size_eq]; exact Nat.le_trans hbl hwt
  obtain ⟨c0, c1, c2, c3, c4, c5⟩ := hA0.out.cells
  rw [HKM.out] at c0
  go_upto_block 0 with fail
  go_cut [5] (fun v wx => v = .string ⟨X.toArray⟩ ∧ Below w.heap.size w wx ∧ NdB tRn wx w.heap.size m p len cap)
  case first =>
    rw [HTX.out] at c2
    have hts : (⟨n.text.toArray⟩ : ByteArray).size ≤ 2200000 := by rw [Lib.size_eq]; simp; omega
    have hts2 : (⟨#[40]⟩ : ByteArray).size = 1 := rfl
    have hts3 : (⟨#[44]⟩ : ByteArray).size = 1 := rfl
    have hts4 : (⟨#[41]⟩ : ByteArray).size = 1 := rfl
    have HC1 : Hid ((⟨n.text.toArray⟩ : ByteArray) ++ ⟨#[40]⟩ = ⟨(n.text ++ [40]).toArray⟩) := cat2 n.text [40]
    have hLl : (n.text ++ [40]).length = n.text.length + 1 := by simp
    have hBx : Hid (bdN n = (n.text ++ [40]) ++ prJ n.args len ++ [41]) := by unfold Hid; rw [HBD.out]; simp
    generalize n.text ++ [40] = L0 at HC1 hLl hBx
    go_wp2_with fail
    go_loopg [5, 6] len (fun g v5 v6 wr => ∃ (i : Nat) (A : ByteArray), i + g = len ∧ v6 = .int .i64 i ∧ v5 = .string A ∧ A = ⟨(L0 ++ prJ n.args i).toArray⟩ ∧ Below w.heap.size w wr ∧ NdB tRn wr w.heap.size m p len cap)
    case atStart => exact ⟨0, _, by omega, rfl, rfl, by rw [HC1.out, show prJ n.args 0 = [] from by unfold prJ; simp [prT], List.append_nil], hAB.out, hA0.out⟩
    case round =>
      obtain ⟨i, A, hig, rfl, rfl, hA, hbel, hnd⟩ := hrel
      have HA := Lib.hid hA
      have HBL := Lib.hid hbel
      have HND := Lib.hid hnd
      have hJl := HJL.out i
      have hzr := hbel.size
      clear hA hbel hnd hA0 hAB c0 c1 c2 c3 c4 c5
      obtain ⟨c0, c1, c2, c3, c4, c5⟩ := HND.out.cells
      by_cases hlt : i < len
      · have hli : (i : Int) < (len : Int) := by omega
        obtain ⟨d', bb, off, mc, p', l', c', hd, rfl, hbN, hc, hrc, q0, q1, q2, q3, q4, q5⟩ := (HRD.out.below HBL.out).at hlt
        obtain ⟨c, hcn, hcm⟩ : ∃ c, n.args[i]? = some c ∧ nmN nmS c = mc := by
          rw [HMA.out, nmL_get] at hc
          cases hx : n.args[i]? with
          | none => rw [hx] at hc; cases hc
          | some c => rw [hx] at hc; exact ⟨c, rfl, by simpa using hc⟩
        have hwc := wtL_at hcn
        have HCC := Lib.hid hcn
        have HIC := Lib.hid (HIX.out d' hd c (mem_at hcn) (by omega) p' l' c')
        have hPl : (prN nmS c 1).length ≤ wtN c := prN_len nmS_len txt_lenT c (HOK.out c (mem_at hcn)) 1
        rw [hcm, ndA_eq] at HIC
        have HRC := Lib.hid hrc
        have hAl : (L0 ++ prJ n.args i).length ≤ n.text.length + 1 + wtL (n.args.take i) := by rw [List.length_append, hLl]; omega
        have hAs : A.size ≤ n.text.length + 1 + wtL (n.args.take i) := by rw [HA.out, Lib.size_eq]; exact hAl
        clear hc hrc hd hcn hcm
        have HJ0 : Hid (i = 0 → prJ n.args (i + 1) = prN nmS c 1 ∧ prJ n.args i = []) := fun h0 => by subst h0; exact ⟨prJ_one HCC.out, by unfold prJ; simp [prT]⟩
        have HJ1 : Hid (0 < i → prJ n.args (i + 1) = prJ n.args i ++ 44 :: prN nmS c 1) := fun h0 => prJ_step HCC.out h0
        generalize prN nmS c 1 = P at HIC hPl HJ0 HJ1
        have hPs : (⟨P.toArray⟩ : ByteArray).size = P.length := by rw [Lib.size_eq]
        have HCL := Lib.hid (HIC.out wr (HRC.out.mono hzr))
        by_cases hi0 : i = 0
        · subst hi0
          have HJa : Hid (prJ n.args 1 = P) := (HJ0.out rfl).1
          have HJb : Hid (prJ n.args 0 = []) := (HJ0.out rfl).2
          clear HJ0 HJ1
          simp only [Nat.zero_mul, Nat.add_zero] at q0 q1 q2 q3 q4 q5
          go_wp2_with fail
          refine HCL.out.mono ?_
          rintro e w1 ⟨rfl, hb⟩
          have hB1 : Hid (Below w.heap.size w w1) := bel_call hb HBL.out hzr
          have hN1 := Lib.hid (HND.out.below hb)
          clear hb c0 c1 c2 c3 c4 c5 q0 q1 q2 q3 q4 q5 HBL HND HCL HIC HRC
          go_wp2_with fail
          go_roundg (gk - 1)
          case measure => omega
          case rel =>
            refine ⟨1, _, by omega, by go_num, rfl, ?_, hB1.out, hN1.out⟩
            rw [HA.out, cat2, HJa.out, HJb.out, List.append_nil]
        · have hi1 : 0 < (i : Int) := by omega
          have hA2s : (A ++ ⟨#[44]⟩).size ≤ n.text.length + 2 + wtL (n.args.take i) := by
            rw [HA.out, show (⟨#[44]⟩ : ByteArray) = ⟨[44].toArray⟩ from rfl, cat2, Lib.size_eq]
            simp only [List.length_append, List.length_singleton] at hAl ⊢
            omega
          go_wp2_with fail
          refine HCL.out.mono ?_
          rintro e w1 ⟨rfl, hb⟩
          have hB1 : Hid (Below w.heap.size w w1) := bel_call hb HBL.out hzr
          have hN1 := Lib.hid (HND.out.below hb)
          clear hb c0 c1 c2 c3 c4 c5 q0 q1 q2 q3 q4 q5 HBL HND HCL HIC HRC
          go_wp2_with fail
          go_roundg (gk - 1)
          case measure => omega
          case rel =>
            refine ⟨i + 1, _, by omega, by go_num, rfl, ?_, hB1.out, hN1.out⟩
            rw [HA.out, show (⟨#[44]⟩ : ByteArray) = ⟨[44].toArray⟩ from rfl, cat2, cat2, HJ1.out (by omega)]
            simp
      · obtain rfl : i = len := by omega
        have hli : ¬ (i : Int) < (i : Int) := by omega
        have hwl := wtL_take n.args i
        have hAs : A.size ≤ 2200000 := by rw [HA.out, Lib.size_eq]; simp; omega
        go_wp2_with fail
        go_meet
        exact ⟨by rw [← HX.out, hBx.out, HA.out, show (⟨#[41]⟩ : ByteArray) = ⟨[41].toArray⟩ from rfl, cat2], HBL.out, HND.out⟩
  case rest =>
    obtain ⟨hv, hB, hN⟩ := hcut
    subst hv
    have hBw := Lib.hid hB
    have hNw := Lib.hid hN
    clear hB hN hA0 hAB HX HKM c0 c1 c2 c3 c4 c5
    obtain ⟨c0, c1, c2, c3, c4, c5⟩ := hNw.out.cells
    have z1 : (⟨#[40]⟩ : ByteArray).size = 1 := rfl
    have z2 : (⟨#[41]⟩ : ByteArray).size = 1 := rfl
    have h1 : (⟨#[40]⟩ : ByteArray) ++ ⟨X.toArray⟩ = ⟨(40 :: X).toArray⟩ := cat2 [40] X
    have h2 : (⟨(40 :: X).toArray⟩ : ByteArray) ++ ⟨#[41]⟩ = ⟨(40 :: (X ++ [41])).toArray⟩ := cat2 (40 :: X) [41]
    have z3 : (⟨(40 :: X).toArray⟩ : ByteArray).size ≤ 2200001 := by rw [Lib.size_eq]; have := hXs; rw [Lib.size_eq] at this; simpa using this
    by_cases hl : h < least
    · go_wp2_with fail
      refine (HHO.out _).mono ?_
      rintro e w1 ⟨rfl, hb⟩
      have hB1 := bel_call hb hBw.out hBw.out.size
      clear hb hBw hNw c0 c1 c2 c3 c4 c5 HHO
      go_wp2_with fail
      go_ret
      exact ⟨by first | rfl | (rw [if_pos hl]; done) | (rw [if_pos hl]; rfl) | (rw [if_pos hl, ← h2, ← h1]; rfl), hB1⟩
    · go_wp2_with fail
      refine (HHO.out _).mono ?_
      rintro e w1 ⟨rfl, hb⟩
      have hB1 := bel_call hb hBw.out hBw.out.size
      clear hb hBw hNw c0 c1 c2 c3 c4 c5 HHO
      go_wp2_with fail
      go_ret
      exact ⟨by first | rfl | (rw [if_neg hl]; done) | (rw [if_neg hl]; rfl), hB1⟩
theorem rprint_s (d : Nat) (IH : ∀ d', d = d' + 1 → RPrintC (fun _ => True) d') : RPrintC (fun _ => True) d := by
  intro n p len cap least lv w _ hrd hok hrt
  obtain ⟨h1, h8, _⟩ := rtN_arity hrt
  have : n.kind = 1 ∨ n.kind = 2 ∨ n.kind = 3 ∨ n.kind = 4 ∨ n.kind = 5 ∨ n.kind = 6 ∨ n.kind = 7 ∨ n.kind = 8 := by omega
  rcases this with h | h | h | h | h | h | h | h
  · exact rprint_1 d n p len cap least lv w h hrd hok hrt
  · exact rprint_2 d n p len cap least lv w h hrd hok hrt
  · exact rprint_3 d n p len cap least lv w h hrd hok hrt
  · exact rprint_4 d n p len cap least lv w h hrd hok hrt
  · exact rprint_5 d IH n p len cap least lv w h hrd hok hrt
  · exact rprint_6 d IH n p len cap least lv w h hrd hok hrt
  · exact rprint_7 d IH n p len cap least lv w h hrd hok hrt
  · exact rprint_8 d n p len cap least lv w h hrd hok hrt
theorem rprint_any : ∀ d, RPrintC (fun _ => True) d
  | 0 => rprint_s 0 (fun d' h => by omega)
  | d + 1 => rprint_s (d + 1) (fun d' h => (show d = d' from by omega) ▸ rprint_any d)
end Go.Proofs.YtjklbbmgjjdalaaGreatDoor
namespace Go.Proofs.YtjklbbmgjjdalaaGreatDoor
open Go.RowKit Go.Joins
theorem info_rn : (Tryz.prog.info? tRn).map (fun i => (i.zero, i.size, i.bytes)) = some (some (.agg #[.int .i64 0, .int .i64 0, .string ⟨#[]⟩, .int .i64 0, .int .i64 0, .slice none 0 0]), 6, 72) := by kernel_rfl
theorem newRn (w : World) (c : Nd) (p2 : Option Addr) (l' c2 : Nat) : ∀ j u, (ndC c p2 l' c2)[j]? = some u → (w.alloc (.cells (ndA c p2 l' c2) tRn)).cell? ((⟨w.heap.size, 0, none⟩ : Addr).add j) = some u := by
  intro j u hj
  have hb : NdB tRn (w.alloc (.cells (ndA c p2 l' c2) tRn)) w.heap.size c p2 l' c2 := heap_alloc_new w _
  obtain ⟨c0, c1, c2', c3, c4, c5⟩ := hb.cells
  have hj6 : j < 6 := (List.getElem?_eq_some_iff.1 hj).1
  simp only [Addr.add, Nat.zero_add]
  match j, hj6, hj with
  | 0, _, hj => cases hj; exact c0
  | 1, _, hj => cases hj; exact c1
  | 2, _, hj => cases hj; exact c2'
  | 3, _, hj => cases hj; exact c3
  | 4, _, hj => cases hj; exact c4
  | 5, _, hj => cases hj; exact c5
theorem RdP.of_rowR {w : World} {base d : Nat} {v : Value} {L : List Kid} {n : Nd} {ok : Nat → Prop} (h : w.ownsRow base tRn 6 v L.length (L.flatMap kidC)) (hL : L.map Prod.fst = n.args) (hq : ∀ q ∈ L, RdP w ok d q.1 q.2.1 q.2.2.1) (hown : ∀ b, v.ownBlock = some b → ok b) :
    ∃ p cap, v = .slice p L.length cap ∧ RdP w ok (d + 1) n p L.length := by
  obtain ⟨p, cap, hv, _, _, ⟨_, hr⟩, _⟩ := RdG.of_own kidC_len rfl h
  refine ⟨p, cap, hv, by rw [← hL, List.length_map], ?_⟩
  rcases hr with hr | ⟨b, off, h1, h2, h3⟩
  · exact .inl hr
  · refine .inr ⟨b, off, h1, hown b (by rw [hv, h1]; rfl), fun j c hc => ?_⟩
    rw [← hL, List.getElem?_map] at hc
    cases hj : L[j]? with
    | none => rw [hj] at hc; cases hc
    | some q =>
      rw [hj] at hc
      obtain rfl : q.1 = c := by simpa using hc
      exact ⟨q.2.1, q.2.2.1, q.2.2.2, fun k u hu => h3 j q hj k u hu, hq q (List.mem_of_getElem? hj)⟩
def NamedC (d : Nat) : Prop := ∀ (n : Nd) (p : Option Addr) (len cap : Nat) (w : World), RdT w w.heap.size d n p len → OkN n → FewN n → Calls Tryz.prog 38 #[.agg (ndA n p len cap)] w fun e w' => (∃ p' cap', e = .returned (.agg (ndA (nmN nmS n) p' len cap')) ∧ RdP w' (fun b => w.heap.size ≤ b ∧ b < w'.heap.size) d (nmN nmS n) p' len) ∧ Below w.heap.size w w'
abbrev ndF (n : Nd) (T : Bs) : Nd := .mk n.kind n.num T 0 0 []
theorem nd_two {w : World} {b : Nat} {n : Nd} {T T' : Bs} (h : NdB tRn w b (ndF n T) none 0 0) : NdB tRn (w.setCell ⟨b, 2, none⟩ (.string ⟨T'.toArray⟩)) b (ndF n T') none 0 0 := by
  have h1 := heap_setCell_same w b 2 _ _ (.string ⟨T'.toArray⟩) h
  unfold NdB
  rw [h1]
  rfl
set_option maxRecDepth 100000 in
set_option maxHeartbeats 8000000 in
theorem named_s (d : Nat) (IH : ∀ d', d = d' + 1 → NamedC d') : NamedC d := by
  intro n p len cap w hrd hok hfew
  have hofrm := hok.frm
  have hotor := hok.tor
  have HRD := Lib.hid hrd
  have HIH := Lib.hid IH
  have hlen := hfew.len
  rw [hrd.len] at hlen
  have HAL := Lib.hid hrd.len
  have HOK := Lib.hid (fun c hc => OkN.child (c := c) hok hc)
  have HFW := Lib.hid (fun c hc => FewN.child (c := c) hfew hc)
  rw [ndA_eq]
  clear hrd IH hok hfew
  obtain ⟨i0, hi, hz0, hz1, hz2⟩ := info_of info_rn
  have HTX : Hid ((nmN nmS n).text = if n.kind = 3 then nmS n.frm else if n.kind = 4 then nmS n.frm ++ 58 :: nmS n.tor else n.text) := nmN_text n
  have HNK : Hid ((nmN nmS n).kind = n.kind) := nmN_kind n
  have HNU : Hid ((nmN nmS n).num = n.num) := nmN_num n
  have HNF : Hid ((nmN nmS n).frm = 0 ∧ (nmN nmS n).tor = 0) := by unfold Hid; cases n; rw [nmN]; exact ⟨rfl, rfl⟩
  have HMA : Hid ((nmN nmS n).args = nmL nmS n.args) := nmN_args n
  have HNM := Lib.hid (fun W => rname_law n.frm hofrm.1 hofrm.2 W)
  have HNT := Lib.hid (fun W => rname_law n.tor hotor.1 hotor.2 W)
  have hf20 := nmS_len n.frm
  have ht20 := nmS_len n.tor
  generalize nmS n.frm = F at HTX HNM hf20
  generalize nmS n.tor = G at HTX HNT ht20
  have HALm : Hid ((nmN nmS n).args.length = len) := by unfold Hid; rw [nmN_args, nmL_len]; exact HAL.out
  generalize nmN nmS n = m at *
  go_enter Tryz.func38, Tryz.ntmps38
  have hh : Hid (NdB tRn (((w.alloc (.cells (ndA n p len cap) tRn)).alloc (.cells (ndA nodeZ none 0 0) tRn)).alloc (.cells (ndA (ndF n n.text) none 0 0) tRn)) w.heap.size n p len cap ∧ NdB tRn (((w.alloc (.cells (ndA n p len cap) tRn)).alloc (.cells (ndA nodeZ none 0 0) tRn)).alloc (.cells (ndA (ndF n n.text) none 0 0) tRn)) (w.heap.size + 1) nodeZ none 0 0 ∧ NdB tRn (((w.alloc (.cells (ndA n p len cap) tRn)).alloc (.cells (ndA nodeZ none 0 0) tRn)).alloc (.cells (ndA (ndF n n.text) none 0 0) tRn)) (w.heap.size + 2) (ndF n n.text) none 0 0) := ⟨(three_heap w _ _ _).1, (three_heap w _ _ _).2.1, (three_heap w _ _ _).2.2⟩
  have hbl : Hid (Below w.heap.size w (((w.alloc (.cells (ndA n p len cap) tRn)).alloc (.cells (ndA nodeZ none 0 0) tRn)).alloc (.cells (ndA (ndF n n.text) none 0 0) tRn))) := three_below _ _ _
  go_upto_region 2 with fail
  have e3 : ((w.alloc (.cells #[.int .i64 n.kind, .int .i64 n.num, .string ⟨n.text.toArray⟩, .int .i64 n.frm, .int .i64 n.tor, .slice p len cap] tRn)).alloc (.cells #[.int .i64 0, .int .i64 0, .string ⟨#[]⟩, .int .i64 0, .int .i64 0, .slice none 0 0] tRn)).alloc (.cells #[.int .i64 n.kind, .int .i64 n.num, .string ⟨n.text.toArray⟩, .int .i64 0, .int .i64 0, .slice none 0 0] tRn) = ((w.alloc (.cells (ndA n p len cap) tRn)).alloc (.cells (ndA nodeZ none 0 0) tRn)).alloc (.cells (ndA (ndF n n.text) none 0 0) tRn) := rfl
  first | rw [e3] | (trace_state; fail "e3")
  clear e3
  generalize ((w.alloc (.cells (ndA n p len cap) tRn)).alloc (.cells (ndA nodeZ none 0 0) tRn)).alloc (.cells (ndA (ndF n n.text) none 0 0) tRn) = w2 at hh hbl ⊢
  obtain ⟨hq0, hq1, hq2⟩ := hh.out
  have hn0 := Lib.hid hq0
  have hn1 := Lib.hid hq1
  have hn2 := Lib.hid hq2
  clear hq0 hq1 hq2 hh
  obtain ⟨c0, c1, c2, c3, c4, c5⟩ := hn0.out.cells
  obtain ⟨b0, b1, b2, b3, b4, b5⟩ := hn2.out.cells
  obtain ⟨T1, hT1⟩ : ∃ T1, (if n.kind = 3 then F else n.text) = T1 := ⟨_, rfl⟩
  have HT1 := Lib.hid hT1
  clear hT1
  go_upto_if 14 with fail
  go_cut [] (fun wx => NdB tRn wx w.heap.size n p len cap ∧ NdB tRn wx (w.heap.size + 1) nodeZ none 0 0 ∧ NdB tRn wx (w.heap.size + 2) (ndF n T1) none 0 0 ∧ Below w.heap.size w wx)
  case first =>
    by_cases h3 : n.kind = 3
    · have h3b : (n.kind == 3) = true := by simpa using h3
      have hTF : Hid (T1 = F) := by unfold Hid; rw [← HT1.out, if_pos h3]
      clear h3
      go_wp2_with fail
      refine (HNM.out _).mono ?_
      rintro e w3 ⟨rfl, hb⟩
      have hB3 : Hid (Below w.heap.size w w3) := bel_call hb hbl.out hbl.out.size
      have m0 := Lib.hid (hn0.out.below hb)
      have m1 := Lib.hid (hn1.out.below hb)
      have m2 := Lib.hid (hn2.out.below hb)
      clear hb hbl hn0 hn1 hn2 c0 c1 c2 c3 c4 c5 b0 b1 b2 b3 b4 b5
      obtain ⟨b0, b1, b2, b3, b4, b5⟩ := m2.out.cells
      have g2 := unfrozen_of_block m2.out 2
      go_wp2_with fail
      go_meet
      refine ⟨?_, ?_, by rw [hTF.out]; exact nd_two m2.out, hB3.out.setCell (by show w.heap.size ≤ w.heap.size + 2; omega) _⟩
      · unfold NdB
        rw [heap_setCell_other _ _ _ _ (by show w.heap.size ≠ w.heap.size + 2; omega)]
        exact m0.out
      · unfold NdB
        rw [heap_setCell_other _ _ _ _ (by show w.heap.size + 1 ≠ w.heap.size + 2; omega)]
        exact m1.out
    · have h3b : (n.kind == 3) = false := by simpa using h3
      have hTF : Hid (T1 = n.text) := by unfold Hid; rw [← HT1.out, if_neg h3]
      go_wp2_with fail
      go_meet
      exact ⟨hn0.out, hn1.out, by rw [hTF.out]; exact hn2.out, hbl.out⟩
  case rest =>
  obtain ⟨hv0, hv1, hv2, hvB⟩ := hcut
  have hm0 := Lib.hid hv0
  have hm1 := Lib.hid hv1
  have hm2 := Lib.hid hv2
  have hmB := Lib.hid hvB
  clear hv0 hv1 hv2 hvB hn0 hn1 hn2 hbl c0 c1 c2 c3 c4 c5 b0 b1 b2 b3 b4 b5
  obtain ⟨c0, c1, c2, c3, c4, c5⟩ := hm0.out.cells
  obtain ⟨b0, b1, b2, b3, b4, b5⟩ := hm2.out.cells
  go_upto_if 21 with fail
  go_cut [] (fun wx => NdB tRn wx w.heap.size n p len cap ∧ NdB tRn wx (w.heap.size + 1) nodeZ none 0 0 ∧ NdB tRn wx (w.heap.size + 2) (ndF n m.text) none 0 0 ∧ Below w.heap.size w wx)
  case first =>
    by_cases h4 : n.kind = 4
    · have h4b : (n.kind == 4) = true := by simpa using h4
      have hTT : Hid (m.text = F ++ 58 :: G) := by unfold Hid; rw [HTX.out, if_neg (by omega), if_pos h4]
      clear h4
      have hFs : (⟨F.toArray⟩ : ByteArray).size ≤ 20 := by rw [Lib.size_eq]; exact hf20
      have hGs : (⟨G.toArray⟩ : ByteArray).size ≤ 20 := by rw [Lib.size_eq]; exact ht20
      have hcs : (⟨#[58]⟩ : ByteArray).size = 1 := rfl
      have hFC : (⟨F.toArray⟩ : ByteArray) ++ ⟨#[58]⟩ = ⟨(F ++ [58]).toArray⟩ := cat2 F [58]
      have hFCs : (⟨(F ++ [58]).toArray⟩ : ByteArray).size ≤ 21 := by rw [Lib.size_eq]; simp; omega
      have hFG : (⟨(F ++ [58]).toArray⟩ : ByteArray) ++ ⟨G.toArray⟩ = ⟨(F ++ 58 :: G).toArray⟩ := by rw [cat2]; simp
      have hop1 : ∀ W, (Op.stringOp .add ⟨F.toArray⟩ ⟨#[58]⟩).run Tryz.prog W = .ok (.string ⟨(F ++ [58]).toArray⟩) W := fun W => by rw [← hFC]; exact run_string_add_sum W _ _ (by rw [hcs]; omega)
      have hop2 : ∀ W, (Op.stringOp .add ⟨(F ++ [58]).toArray⟩ ⟨G.toArray⟩).run Tryz.prog W = .ok (.string ⟨(F ++ 58 :: G).toArray⟩) W := fun W => by rw [← hFG]; exact run_string_add_sum W _ _ (by omega)
      clear hFC hFG
      have C3 := Kept.cell (N := w.heap.size + 3) c3 (by omega)
      have C4 := Kept.cell (N := w.heap.size + 3) c4 (by omega)
      go_upto_region 5 with fail
      refine wp_region_schedT (fun wx => ∃ x : Kept (w.heap.size + 3) wc, wx = x.v) 9 [([0,1,4,5],2),([3],6)] [7,8] (by kernel_rfl) (by kernel_rfl) (by kernel_rfl) (by kernel_rfl) (kept_drew _ _ (by have := lt_some hm2.out; omega)) ?_
      have kb0 : Hid (Below (w.heap.size + 3) wc wc.drew) := Below.drew (Below.refl _ _)
      (unfold wpSegK; simp only [pick_nil, pick_cons, nthO_zero, nthO_succ, List.append])
      clear c0 c1 c2 c3 c4 c5 b0 b1 b2 b3 b4 b5
      repeat (go_big_quiet_step (fail))
      refine wpQuiet_nil ?_
      have H3 := lt_some hm2.out
      go_wp2_with fail
      refine (HNM.out _).mono ?_
      rintro e x1 ⟨rfl, hb⟩
      have kb1 : Hid (Below (w.heap.size + 3) wc x1) := bel_call hb kb0.out (by rw [World.size_drew]; omega)
      clear hb
      go_wp2_with fail
      refine ⟨rfl, ⟨⟨x1, kb1.out⟩, rfl⟩, ?_⟩
      (unfold wpSegK; simp only [pick_nil, pick_cons, nthO_zero, nthO_succ, List.append])
      repeat (go_big_quiet_step (fail))
      refine wpQuiet_nil ?_
      go_wp2_with fail
      refine (HNT.out _).mono ?_
      rintro e x2 ⟨rfl, hb⟩
      have kb2 : Hid (Below (w.heap.size + 3) wc x2) := bel_call hb kb1.out (by have := kb1.out.size; omega)
      clear hb
      go_wp2_with fail
      refine ⟨rfl, ⟨⟨x2, kb2.out⟩, rfl⟩, ?_⟩
      (unfold wpSegK; simp only [pick_nil, pick_cons, nthO_zero, nthO_succ, List.append])
      repeat (go_big_quiet_step (fail))
      refine wpQuiet_nil ?_
      have m0 : Hid (NdB tRn x2 w.heap.size n p len cap) := (kb2.out.block _ (by omega)).trans hm0.out
      have m1 : Hid (NdB tRn x2 (w.heap.size + 1) nodeZ none 0 0) := (kb2.out.block _ (by omega)).trans hm1.out
      have m2 : Hid (NdB tRn x2 (w.heap.size + 2) (ndF n T1) none 0 0) := (kb2.out.block _ (by omega)).trans hm2.out
      have hB3 : Hid (Below w.heap.size w x2) := hmB.out.trans (kb2.out.mono (by omega))
      clear hm0 hm1 hm2 hmB kb0 kb1 kb2 C3 C4 HNM HNT
      obtain ⟨b0, b1, b2, b3, b4, b5⟩ := m2.out.cells
      have g2 := unfrozen_of_block m2.out 2
      go_wp2_with fail
      refine ⟨rfl, ?_⟩
      go_wp2_with fail
      go_meet
      refine ⟨?_, ?_, by rw [hTT.out]; exact nd_two m2.out, hB3.out.setCell (by show w.heap.size ≤ w.heap.size + 2; omega) _⟩
      · unfold NdB
        rw [heap_setCell_other _ _ _ _ (by show w.heap.size ≠ w.heap.size + 2; omega)]
        exact m0.out
      · unfold NdB
        rw [heap_setCell_other _ _ _ _ (by show w.heap.size + 1 ≠ w.heap.size + 2; omega)]
        exact m1.out
    · have h4b : (n.kind == 4) = false := by simpa using h4
      have hTT : Hid (m.text = T1) := by unfold Hid; rw [HTX.out, ← HT1.out, if_neg h4]
      go_wp2_with fail
      go_meet
      exact ⟨hm0.out, hm1.out, by rw [hTT.out]; exact hm2.out, hmB.out⟩
  case rest =>
  obtain ⟨hv0, hv1, hv2, hvB⟩ := hcut
  have hs0 := Lib.hid hv0
  have hs1 := Lib.hid hv1
  have hsB := Lib.hid hvB
  have hs2 : Hid (NdB tRn wc (w.heap.size + 2) m none 0 0) := by
    unfold Hid NdB ndA
    rw [HNK.out, HNU.out, HNF.out.1, HNF.out.2]
    exact hv2
  clear hv0 hv1 hv2 hvB hm0 hm1 hm2 hmB c0 c1 c2 c3 c4 c5 b0 b1 b2 b3 b4 b5 HNM HNT HTX HNK HNU HNF HT1 hf20 ht20
  go_wp2_with fail
  go_loopg [4] len (fun g v4 wr => ∃ (i : Nat) (acc : List Kid) (q : Option Addr) (cp : Nat), i + g = len ∧ v4 = .int .i64 i ∧ acc.map Prod.fst = m.args.take i ∧ NdB tRn wr w.heap.size n p len cap ∧ NdB tRn wr (w.heap.size + 1) nodeZ none 0 0 ∧ NdB tRn wr (w.heap.size + 2) m q i cp ∧ wr.ownsRow (w.heap.size + 3) tRn 6 (.slice q i cp) i (acc.flatMap kidC) ∧ (∀ d', d = d' + 1 → ∀ x ∈ acc, RdP wr (okK (w.heap.size + 3) wr (.slice q i cp)) d' x.1 x.2.1 x.2.2.1) ∧ Below w.heap.size w wr)
  case atStart => exact ⟨0, [], none, 0, by omega, rfl, rfl, hs0.out, hs1.out, hs2.out, World.ownsRow_nil _ _ _ _, fun _ _ x hx => (by cases hx), hsB.out⟩
  case round =>
    obtain ⟨i, acc, q, cp, hig, rfl, hacc, hn1, hn0, hn2, hown, hkid, hbel⟩ := hrel
    clear hs0 hs1 hs2 hsB
    have HAC := Lib.hid hacc
    have HN1 := Lib.hid hn1
    have HN0 := Lib.hid hn0
    have HN2 := Lib.hid hn2
    have HOW := Lib.hid hown
    have HKD := Lib.hid hkid
    have HBL := Lib.hid hbel
    have hzr := hbel.size
    have hH2 : w.heap.size + 2 < wr.heap.size := lt_some hn2
    clear hacc hn1 hn0 hn2 hown hkid hbel
    obtain ⟨a0, a1, a2, a3, a4, a5⟩ := HN1.out.cells
    obtain ⟨b0, b1, b2, b3, b4, b5⟩ := HN2.out.cells
    by_cases hlt : i < len
    · have hli : (i : Int) < (len : Int) := by omega
      obtain ⟨d', b, off, c, p', l', c', hd, rfl, hbN, hc, hrc, q0, q1, q2, q3, q4, q5⟩ := (HRD.out.below HBL.out).at hlt
      have HC : Hid (NamedC d') := HIH.out d' hd
      have HCO := Lib.hid (HOK.out c (mem_at hc))
      have HCF := Lib.hid (HFW.out c (mem_at hc))
      have A5 := Kept.cell (N := w.heap.size + 3) a5 (by omega)
      have B5 := Kept.cell (N := w.heap.size + 3) b5 (by omega)
      have Q0 := Kept.cell (N := w.heap.size + 3) q0 (by omega)
      have Q1 := Kept.cell (N := w.heap.size + 3) q1 (by omega)
      have Q2 := Kept.cell (N := w.heap.size + 3) q2 (by omega)
      have Q3 := Kept.cell (N := w.heap.size + 3) q3 (by omega)
      have Q4 := Kept.cell (N := w.heap.size + 3) q4 (by omega)
      have Q5 := Kept.cell (N := w.heap.size + 3) q5 (by omega)
      go_upto_region 5 with fail
      refine wp_region_schedT (fun wx => ∃ x : Kept (w.heap.size + 3) wr, wx = x.v) 11 [([0,1,2,3,4,5,6],7),([],8),([],9)] [10] (by kernel_rfl) (by kernel_rfl) (by kernel_rfl) (by kernel_rfl) (kept_drew _ _ (by omega)) ?_
      (unfold wpSegK; simp only [pick_nil, pick_cons, nthO_zero, nthO_succ, List.append])
      clear a0 a1 a2 a3 a4 a5 b0 b1 b2 b3 b4 b5 q0 q1 q2 q3 q4 q5
      repeat (go_big_quiet_step (fail))
      refine wpQuiet_nil ?_
      have HRC := Lib.hid hrc
      have HHC := Lib.hid hc
      have HHD := Lib.hid hd
      clear hrc hc hd
      have HCC := Lib.hid (HC.out c p' l' c' wr.drew ((HRC.out.below (Below.drew (Below.refl _ _))).mono hzr) HCO.out HCF.out)
      rw [ndA_eq c p' l' c'] at HCC
      have HMG : Hid (m.args[i]? = some (nmN nmS c)) := by unfold Hid; rw [HMA.out, nmL_get, HHC.out]; rfl
      generalize nmN nmS c = mc at HCC HMG
      go_wp2_with fail
      refine HCC.out.mono ?_
      rintro e w3 ⟨⟨p2, c2, rfl, hk3⟩, hb3⟩
      have hb4 : Hid (Below wr.heap.size wr w3) := bel_call hb3 (Below.drew (Below.refl _ _)) (Nat.le_refl _)
      have HK3 := Lib.hid hk3
      rw [ndA_eq mc p2 l' c2]
      clear HCC hk3 hb3
      go_wp2_with fail
      have hB3 : Hid (Below (w.heap.size + 3) wr w3) := hb4.out.mono (by omega)
      refine ⟨rfl, ⟨⟨w3, hB3.out⟩, rfl⟩, ?_⟩
      (unfold wpSegK; simp only [pick_nil, pick_cons, nthO_zero, nthO_succ, List.append])
      refine wpQuiet_nil ?_
      go_wp2_with fail
      refine ⟨rfl, ⟨⟨_, hB3.out.alloc (by have := hb4.out.size; omega) _⟩, rfl⟩, ?_⟩
      (unfold wpSegK; simp only [pick_nil, pick_cons, nthO_zero, nthO_succ, List.append])
      refine wpQuiet_nil ?_
      have HRW := Lib.hid (row_below HOW.out hb4.out)
      refine wpList_append_own_at _ rfl _ _ _ rfl (w.heap.size + 3) tRn i0 _ 6 72 Tryz.underlying23 hi hz0 hz1 hz2 rfl (by decide) _ _ _ rfl (HRW.out.alloc _) ⟨w3.heap.size, 0, none⟩ 1 1 (ndC mc p2 l' c2) rfl rfl (newRn w3 mc p2 l' c2) ?c2 ?c3 ?c4 ?c5 ?_
      case c2 => exact kidC_one (mc, p2, l', c2)
      case c3 => unfold maxLen; omega
      case c4 => omega
      case c5 => rw [World.size_alloc]; have := hb4.out.size; omega
      intro v' w5 hown5 hgrow5 _ hat5
      have hB5 : Hid (Below (w.heap.size + 3) wr w5) := (hB3.out.alloc (by have := hb4.out.size; omega) _).grown hgrow5 (by rw [World.size_alloc]; have := hb4.out.size; omega) (fun k hk => (HRW.out.lt k hk).1)
      have HOW5 : Hid (w5.ownsRow (w.heap.size + 3) tRn 6 v' (i + 1) ((acc ++ [(mc, p2, l', c2)]).flatMap kidC)) := by
        unfold Hid
        rw [flat_snoc]
        exact hown5
      have hla : acc.length = i := by
        have h := congrArg List.length HAC.out
        rw [List.length_map, List.length_take, HALm.out] at h
        omega
      obtain ⟨q5, cp5, hv5, _, _, _, _⟩ := RdG.of_own kidC_len (by rw [List.length_append, List.length_singleton, hla]) HOW5.out
      subst hv5
      have HN5 : Hid (NdB tRn w5 (w.heap.size + 2) m q i cp) := (hB5.out.block _ (by omega)).trans HN2.out
      have HKN := Lib.hid (kids_on (u := .slice q5 (i + 1) cp5) (c2 := c2) (by omega) hb4.out hgrow5 hat5 (fun b e => (HOW.out.lt b e).2) (HKD.out d' HHD.out) HK3.out)
      clear hown5 hgrow5 hat5 HRW HK3 HKD HCF HCO HC HIH HOK HFW A5 B5 Q0 Q1 Q2 Q3 Q4 Q5
      obtain ⟨_, _, _, _, _, e5⟩ := HN5.out.cells
      have g5 := unfrozen_of_block HN5.out 5
      go_wp2_with fail
      refine ⟨rfl, ⟨⟨w5, hB5.out⟩, rfl⟩, ?_⟩
      (unfold wpSegK; simp only [pick_nil, pick_cons, nthO_zero, nthO_succ, List.append])
      repeat (go_big_quiet_step (fail))
      refine wpQuiet_nil ?_
      go_wp2_with fail
      refine ⟨rfl, ?_⟩
      have HP6 : Hid (NdB tRn (w5.setCell ⟨w.heap.size + 2, 5, none⟩ (.slice q5 (i + 1) cp5)) (w.heap.size + 2) m q5 (i + 1) cp5) := by
        have h := heap_setCell_same w5 (w.heap.size + 2) 5 _ _ (.slice q5 (i + 1) cp5) HN5.out
        unfold Hid NdB
        rw [h]
        simp [ndA]
      have HR6 : Hid (NdB tRn (w5.setCell ⟨w.heap.size + 2, 5, none⟩ (.slice q5 (i + 1) cp5)) w.heap.size n (some ⟨b, off, none⟩) len cap) := by
        unfold Hid NdB
        rw [heap_setCell_other _ _ _ _ (by show w.heap.size ≠ w.heap.size + 2; omega), hB5.out.block _ (by omega)]
        exact HN1.out
      have HZ6 : Hid (NdB tRn (w5.setCell ⟨w.heap.size + 2, 5, none⟩ (.slice q5 (i + 1) cp5)) (w.heap.size + 1) nodeZ none 0 0) := by
        unfold Hid NdB
        rw [heap_setCell_other _ _ _ _ (by show w.heap.size + 1 ≠ w.heap.size + 2; omega), hB5.out.block _ (by omega)]
        exact HN0.out
      have HW6 : Hid ((w5.setCell ⟨w.heap.size + 2, 5, none⟩ (.slice q5 (i + 1) cp5)).ownsRow (w.heap.size + 3) tRn 6 (.slice q5 (i + 1) cp5) (i + 1) ((acc ++ [(mc, p2, l', c2)]).flatMap kidC)) :=
        row_carry HOW5.out (fun b hb => heap_setCell_other _ _ _ _ (by have := (HOW5.out.lt b hb).1; show b ≠ w.heap.size + 2; omega))
      have HL6 : Hid (Below w.heap.size w (w5.setCell ⟨w.heap.size + 2, 5, none⟩ (.slice q5 (i + 1) cp5))) := (HBL.out.trans (hB5.out.mono (by omega))).setCell (by show w.heap.size ≤ w.heap.size + 2; omega) _
      have HAN : Hid ((acc ++ [(mc, p2, l', c2)]).map Prod.fst = m.args.take (i + 1)) := by
        unfold Hid
        rw [List.map_append, HAC.out, List.take_add_one, HMG.out]
        rfl
      have e6 : w5.setCell ⟨w.heap.size + 1 + 1, 5, none⟩ (.slice q5 (i + 1) cp5) = w5.setCell ⟨w.heap.size + 2, 5, none⟩ (.slice q5 (i + 1) cp5) := rfl
      rw [e6]
      generalize w5.setCell ⟨w.heap.size + 2, 5, none⟩ (.slice q5 (i + 1) cp5) = w6 at HP6 HR6 HZ6 HW6 HL6 HKN ⊢
      clear e6 HHC HN5 HN0 HN1 HN2 HOW HOW5 hB5 hB3 hb4 e5 g5 HBL
      go_wp2_with fail
      go_roundg (gk - 1)
      case measure => omega
      case rel =>
        refine ⟨i + 1, acc ++ [(mc, p2, l', c2)], q5, cp5, by omega, by go_num, HAN.out, HR6.out, HZ6.out, HP6.out, HW6.out, fun d'' hd x hx => ?_, HL6.out⟩
        obtain rfl : d' = d'' := by have := HHD.out; omega
        exact HKN.out x hx
    · obtain rfl : i = len := by omega
      have hli : ¬ (i : Int) < (i : Int) := by omega
      obtain ⟨z0, z1, z2, z3, z4, z5⟩ := HN0.out.cells
      have f0 := unfrozen_of_block HN0.out 0
      have f1 := unfrozen_of_block HN0.out 1
      have f2 := unfrozen_of_block HN0.out 2
      have f3 := unfrozen_of_block HN0.out 3
      have f4 := unfrozen_of_block HN0.out 4
      have f5 := unfrozen_of_block HN0.out 5
      go_wp2_with fail
      obtain ⟨h1, h2, h3⟩ := six_heap (.int .i64 m.kind) (.int .i64 m.num) (.string ⟨m.text.toArray⟩) (.int .i64 m.frm) (.int .i64 m.tor) (.slice q i cp) HN0.out
      refine bodyPost_ret (results_cell_row rfl _ _ (w.heap.size + 1) tRn (ndA m q i cp) (0, 0) _ rfl h1 Tryz.underlying25 rfl (by kernel_rfl)) rfl ?_
      have hla : acc.length = i := by
        have h := congrArg List.length HAC.out
        rw [List.length_map, List.length_take, HALm.out] at h
        omega
      have hs6 := (h3 0 (Nat.zero_le _)).size
      refine ⟨⟨q, ⟨cp, rfl⟩, ?_⟩, HBL.out.trans (h3 _ (by omega))⟩
      cases d with
      | zero =>
        have h := HRD.out
        exact ⟨List.length_eq_zero_iff.1 (by rw [HALm.out, h.2]), h.2⟩
      | succ d =>
        subst hla
        obtain ⟨q', cp', hv, hr⟩ := RdP.of_rowR (n := m) (d := d) (ok := fun b => w.heap.size + 3 ≤ b ∧ b < wr.heap.size) HOW.out (by rw [HAC.out, List.take_of_length_le (by rw [HALm.out]; exact Nat.le_refl _)]) (fun x hx => RdP.carry (fun b hb => ⟨⟨hb.1, hb.2.1⟩, rfl⟩) (HKD.out d rfl x hx)) (fun b hb => HOW.out.lt b hb)
        cases hv
        exact RdP.carry (fun b hb => ⟨⟨by omega, by omega⟩, h2 b (by omega)⟩) hr
theorem named_any : ∀ d, NamedC d
  | 0 => named_s 0 (fun d' h => by omega)
  | d + 1 => named_s (d + 1) (fun d' h => (show d = d' from by omega) ▸ named_any d)
end Go.Proofs.YtjklbbmgjjdalaaGreatDoor
