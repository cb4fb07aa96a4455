/- Script: the plain law: a right line made plain has one text, which is read as that line. No function of the program. -/
import Derived.Test.YtddoghjopihkpaaDoorScrT
import Derived.Test.YtddoghjopihkpaaDoorScrP
import Derived.Test.YtddoghjopihkpaaDoorScrM
set_option linter.unusedSimpArgs false
set_option linter.unusedVariables false
namespace Go.Proofs.YtddoghjopihkpaaDoor
open Go.RowKit

theorem sgN (n : Nat) : sgL (n : Int) = dcL n := by
  unfold sgL
  rw [if_neg (by omega)]
  rfl
theorem smB_nat {n : Int} (h : smB n = true) : ∃ a : Nat, n = (a : Int) ∧ a ≤ 1048576 := by
  unfold smB at h
  simp only [Bool.and_eq_true, decide_eq_true_eq] at h
  exact ⟨n.toNat, by omega, by omega⟩
theorem noSp_plain {C : Bs} (h : noSp C = true) : plainW C := by
  intro c hc
  have := List.all_eq_true.1 h c hc
  simpa using this
/-- What the law asks of a line. -/
def LawW (kk : Int) (y : Stp) : Prop := ∃ x0 R, flS kk y = x0 :: R ∧ R.length ≤ 3 ∧ joinP x0 R = txX kk y ∧ (txX kk y).length ≤ 1000 ∧ parseS (txX kk y) = ⟨kk, y, true⟩ ∧ StOk 400 y ∧ (0 ≤ y.k ∧ y.k ≤ 9)
theorem bit_len (a b : Nat) (h : a ≤ b) : a ≤ b := h
theorem w_set (a : Nat) (ha : a ≤ 1048576) (C X : Bs) (hC : plainW C) (hl1 : C.length ≤ 400) (hl2 : X.length ≤ 400) : LawW 1 ⟨0, (a : Int), C, X, false, 0, 0, 0⟩ := by
  have hda := dcL_len a
  have ej : joinP (dcL a) [wSet, C, X] = txX 1 ⟨0, (a : Int), C, X, false, 0, 0, 0⟩ := by
    unfold txX lnT
    simp [joinP, stT, axT]
    skip
  refine ⟨dcL a, [wSet, C, X], ?_, by simp, ej, ?_, p_set a ha C X hC, ⟨0, a, C, X, false, 0, 0, 0, rfl, by omega, by omega, by omega, by omega, hl1, hl2⟩, by simp, by simp⟩
  · simp [flS, sgN]
    try (first | done | exact sgN 0)
  · rw [← ej]
    simp [joinP]
    try omega
theorem w_ins (a : Nat) (ha : a ≤ 1048576) (o : Bool) (n : Nat) (hn : n ≤ 1048576) : LawW 1 ⟨1, (a : Int), [], [], o, (n : Int), 0, 0⟩ := by
  have hda := dcL_len a
  have hdn := dcL_len n
  have ej : joinP (dcL a) [wInsert, if o then wCol else wRow, dcL n] = txX 1 ⟨1, (a : Int), [], [], o, (n : Int), 0, 0⟩ := by
    unfold txX lnT
    simp [joinP, stT, axT]
    cases o <;> simp
  refine ⟨dcL a, [wInsert, if o then wCol else wRow, dcL n], ?_, by simp, ej, ?_, p_ins a ha o n hn, ⟨1, a, [], [], o, n, 0, 0, rfl, by omega, by omega, by omega, by omega, by simp, by simp⟩, by simp, by simp⟩
  · simp [flS, sgN]
    try (first | done | exact sgN 0)
  · rw [← ej]
    cases o <;> simp [joinP] <;> omega
    try omega
theorem w_del (a : Nat) (ha : a ≤ 1048576) (o : Bool) (n : Nat) (hn : n ≤ 1048576) : LawW 1 ⟨2, (a : Int), [], [], o, (n : Int), 0, 0⟩ := by
  have hda := dcL_len a
  have hdn := dcL_len n
  have ej : joinP (dcL a) [wDelete, if o then wCol else wRow, dcL n] = txX 1 ⟨2, (a : Int), [], [], o, (n : Int), 0, 0⟩ := by
    unfold txX lnT
    simp [joinP, stT, axT]
    cases o <;> simp
  refine ⟨dcL a, [wDelete, if o then wCol else wRow, dcL n], ?_, by simp, ej, ?_, p_del a ha o n hn, ⟨2, a, [], [], o, n, 0, 0, rfl, by omega, by omega, by omega, by omega, by simp, by simp⟩, by simp, by simp⟩
  · simp [flS, sgN]
    try (first | done | exact sgN 0)
  · rw [← ej]
    cases o <;> simp [joinP] <;> omega
    try omega
theorem w_deliver (n : Nat) (hn : n ≤ 1048576) : LawW 1 ⟨3, 0, [], [], false, (n : Int), 0, 0⟩ := by
  have hdn := dcL_len n
  have ej : joinP (wDeliver) [dcL n] = txX 1 ⟨3, 0, [], [], false, (n : Int), 0, 0⟩ := by
    unfold txX lnT
    simp [joinP, stT, axT]
    skip
  refine ⟨wDeliver, [dcL n], ?_, by simp, ej, ?_, p_deliver n hn, ⟨3, 0, [], [], false, n, 0, 0, rfl, by omega, by omega, by omega, by omega, by simp, by simp⟩, by simp, by simp⟩
  · simp [flS, sgN]
    try (first | done | exact sgN 0)
  · rw [← ej]
    simp [joinP]
    try omega
theorem w_drop (n : Nat) (hn : n ≤ 1048576) : LawW 1 ⟨4, 0, [], [], false, (n : Int), 0, 0⟩ := by
  have hdn := dcL_len n
  have ej : joinP (wDrop) [dcL n] = txX 1 ⟨4, 0, [], [], false, (n : Int), 0, 0⟩ := by
    unfold txX lnT
    simp [joinP, stT, axT]
    skip
  refine ⟨wDrop, [dcL n], ?_, by simp, ej, ?_, p_drop n hn, ⟨4, 0, [], [], false, n, 0, 0, rfl, by omega, by omega, by omega, by omega, by simp, by simp⟩, by simp, by simp⟩
  · simp [flS, sgN]
    try (first | done | exact sgN 0)
  · rw [← ej]
    simp [joinP]
    try omega
theorem w_twice (n : Nat) (hn : n ≤ 1048576) : LawW 1 ⟨5, 0, [], [], false, (n : Int), 0, 0⟩ := by
  have hdn := dcL_len n
  have ej : joinP (wTwice) [dcL n] = txX 1 ⟨5, 0, [], [], false, (n : Int), 0, 0⟩ := by
    unfold txX lnT
    simp [joinP, stT, axT]
    skip
  refine ⟨wTwice, [dcL n], ?_, by simp, ej, ?_, p_twice n hn, ⟨5, 0, [], [], false, n, 0, 0, rfl, by omega, by omega, by omega, by omega, by simp, by simp⟩, by simp, by simp⟩
  · simp [flS, sgN]
    try (first | done | exact sgN 0)
  · rw [← ej]
    simp [joinP]
    try omega
theorem w_spoil (n t b : Nat) (hn : n ≤ 1048576) (ht : t ≤ 1048576) (hb : b ≤ 255) : LawW 1 ⟨6, 0, [], [], false, (n : Int), (t : Int), (b : Int)⟩ := by
  have hdn := dcL_len n
  have hdt := dcL_len t
  have hdb := dcL_len b
  have ej : joinP (wSpoil) [dcL n, dcL t, dcL b] = txX 1 ⟨6, 0, [], [], false, (n : Int), (t : Int), (b : Int)⟩ := by
    unfold txX lnT
    simp [joinP, stT, axT]
    skip
  refine ⟨wSpoil, [dcL n, dcL t, dcL b], ?_, by simp, ej, ?_, p_spoil n t b hn ht hb, ⟨6, 0, [], [], false, n, t, b, rfl, by omega, by omega, by omega, by omega, by simp, by simp⟩, by simp, by simp⟩
  · simp [flS, sgN]
    try (first | done | exact sgN 0)
  · rw [← ej]
    simp [joinP]
    try omega
theorem w_dig (a : Nat) (ha : a ≤ 1048576) (t : Nat) (ht : t ≤ 1048576) : LawW 1 ⟨7, (a : Int), [], [], false, 0, (t : Int), 0⟩ := by
  have hda := dcL_len a
  have hdt := dcL_len t
  have ej : joinP (dcL a) [wDigest, dcL t] = txX 1 ⟨7, (a : Int), [], [], false, 0, (t : Int), 0⟩ := by
    unfold txX lnT
    simp [joinP, stT, axT]
    skip
  refine ⟨dcL a, [wDigest, dcL t], ?_, by simp, ej, ?_, p_dig a ha t ht, ⟨7, a, [], [], false, 0, t, 0, rfl, by omega, by omega, by omega, by omega, by simp, by simp⟩, by simp, by simp⟩
  · simp [flS, sgN]
    try (first | done | exact sgN 0)
  · rw [← ej]
    simp [joinP]
    try omega
theorem w_ack (a : Nat) (ha : a ≤ 1048576) (t : Nat) (ht : t ≤ 1048576) : LawW 1 ⟨8, (a : Int), [], [], false, 0, (t : Int), 0⟩ := by
  have hda := dcL_len a
  have hdt := dcL_len t
  have ej : joinP (dcL a) [wAck, dcL t] = txX 1 ⟨8, (a : Int), [], [], false, 0, (t : Int), 0⟩ := by
    unfold txX lnT
    simp [joinP, stT, axT]
    skip
  refine ⟨dcL a, [wAck, dcL t], ?_, by simp, ej, ?_, p_ack a ha t ht, ⟨8, a, [], [], false, 0, t, 0, rfl, by omega, by omega, by omega, by omega, by simp, by simp⟩, by simp, by simp⟩
  · simp [flS, sgN]
    try (first | done | exact sgN 0)
  · rw [← ej]
    simp [joinP]
    try omega
theorem w_sweep (a : Nat) (ha : a ≤ 1048576) : LawW 1 ⟨9, (a : Int), [], [], false, 0, 0, 0⟩ := by
  have hda := dcL_len a
  have ej : joinP (dcL a) [wSweep] = txX 1 ⟨9, (a : Int), [], [], false, 0, 0, 0⟩ := by
    unfold txX lnT
    simp [joinP, stT, axT]
    skip
  refine ⟨dcL a, [wSweep], ?_, by simp, ej, ?_, p_sweep a ha, ⟨9, a, [], [], false, 0, 0, 0, rfl, by omega, by omega, by omega, by omega, by simp, by simp⟩, by simp, by simp⟩
  · simp [flS, sgN]
    try (first | done | exact sgN 0)
  · rw [← ej]
    simp [joinP]
    try omega
theorem w_pull  : LawW 2 ⟨0, 0, [], [], false, 0, 0, 0⟩ := by
  have ej : joinP (wPull) [] = txX 2 ⟨0, 0, [], [], false, 0, 0, 0⟩ := by
    unfold txX lnT
    simp [joinP, stT, axT]
    skip
  refine ⟨wPull, [], ?_, by simp, ej, ?_, p_pull, ⟨0, 0, [], [], false, 0, 0, 0, rfl, by omega, by omega, by omega, by omega, by simp, by simp⟩, by simp, by simp⟩
  · simp [flS, sgN]
    try (first | done | exact sgN 0)
  · rw [← ej]
    simp [joinP]
    try omega
theorem w_settle  : LawW 3 ⟨0, 0, [], [], false, 0, 0, 0⟩ := by
  have ej : joinP (wSettle) [] = txX 3 ⟨0, 0, [], [], false, 0, 0, 0⟩ := by
    unfold txX lnT
    simp [joinP, stT, axT]
    skip
  refine ⟨wSettle, [], ?_, by simp, ej, ?_, p_settle, ⟨0, 0, [], [], false, 0, 0, 0, rfl, by omega, by omega, by omega, by omega, by simp, by simp⟩, by simp, by simp⟩
  · simp [flS, sgN]
    try (first | done | exact sgN 0)
  · rw [← ej]
    simp [joinP]
    try omega
theorem w_view (a : Nat) (ha : a ≤ 1048576) : LawW 4 ⟨0, (a : Int), [], [], false, 0, 0, 0⟩ := by
  have hda := dcL_len a
  have ej : joinP (wView) [dcL a] = txX 4 ⟨0, (a : Int), [], [], false, 0, 0, 0⟩ := by
    unfold txX lnT
    simp [joinP, stT, axT]
    skip
  refine ⟨wView, [dcL a], ?_, by simp, ej, ?_, p_view a ha, ⟨0, a, [], [], false, 0, 0, 0, rfl, by omega, by omega, by omega, by omega, by simp, by simp⟩, by simp, by simp⟩
  · simp [flS, sgN]
    try (first | done | exact sgN 0)
  · rw [← ej]
    simp [joinP]
    try omega
theorem w_cell (a : Nat) (ha : a ≤ 1048576) (C : Bs) (hl1 : C.length ≤ 400) : LawW 5 ⟨0, (a : Int), C, [], false, 0, 0, 0⟩ := by
  have hda := dcL_len a
  have ej : joinP (wCell) [dcL a, C] = txX 5 ⟨0, (a : Int), C, [], false, 0, 0, 0⟩ := by
    unfold txX lnT
    simp [joinP, stT, axT]
    skip
  refine ⟨wCell, [dcL a, C], ?_, by simp, ej, ?_, p_cell a ha C, ⟨0, a, C, [], false, 0, 0, 0, rfl, by omega, by omega, by omega, by omega, hl1, by simp⟩, by simp, by simp⟩
  · simp [flS, sgN]
    try (first | done | exact sgN 0)
  · rw [← ej]
    simp [joinP]
    try omega
theorem w_typed (a : Nat) (ha : a ≤ 1048576) (C : Bs) (hl1 : C.length ≤ 400) : LawW 6 ⟨0, (a : Int), C, [], false, 0, 0, 0⟩ := by
  have hda := dcL_len a
  have ej : joinP (wTyped) [dcL a, C] = txX 6 ⟨0, (a : Int), C, [], false, 0, 0, 0⟩ := by
    unfold txX lnT
    simp [joinP, stT, axT]
    skip
  refine ⟨wTyped, [dcL a, C], ?_, by simp, ej, ?_, p_typed a ha C, ⟨0, a, C, [], false, 0, 0, 0, rfl, by omega, by omega, by omega, by omega, hl1, by simp⟩, by simp, by simp⟩
  · simp [flS, sgN]
    try (first | done | exact sgN 0)
  · rw [← ej]
    simp [joinP]
    try omega
theorem w_known (a : Nat) (ha : a ≤ 1048576) : LawW 7 ⟨0, (a : Int), [], [], false, 0, 0, 0⟩ := by
  have hda := dcL_len a
  have ej : joinP (wKnown) [dcL a] = txX 7 ⟨0, (a : Int), [], [], false, 0, 0, 0⟩ := by
    unfold txX lnT
    simp [joinP, stT, axT]
    skip
  refine ⟨wKnown, [dcL a], ?_, by simp, ej, ?_, p_known a ha, ⟨0, a, [], [], false, 0, 0, 0, rfl, by omega, by omega, by omega, by omega, by simp, by simp⟩, by simp, by simp⟩
  · simp [flS, sgN]
    try (first | done | exact sgN 0)
  · rw [← ej]
    simp [joinP]
    try omega
theorem w_counts (a : Nat) (ha : a ≤ 1048576) : LawW 8 ⟨0, (a : Int), [], [], false, 0, 0, 0⟩ := by
  have hda := dcL_len a
  have ej : joinP (wCounts) [dcL a] = txX 8 ⟨0, (a : Int), [], [], false, 0, 0, 0⟩ := by
    unfold txX lnT
    simp [joinP, stT, axT]
    skip
  refine ⟨wCounts, [dcL a], ?_, by simp, ej, ?_, p_counts a ha, ⟨0, a, [], [], false, 0, 0, 0, rfl, by omega, by omega, by omega, by omega, by simp, by simp⟩, by simp, by simp⟩
  · simp [flS, sgN]
    try (first | done | exact sgN 0)
  · rw [← ej]
    simp [joinP]
    try omega
theorem w_net  : LawW 9 ⟨0, 0, [], [], false, 0, 0, 0⟩ := by
  have ej : joinP (wNet) [] = txX 9 ⟨0, 0, [], [], false, 0, 0, 0⟩ := by
    unfold txX lnT
    simp [joinP, stT, axT]
    skip
  refine ⟨wNet, [], ?_, by simp, ej, ?_, p_net, ⟨0, 0, [], [], false, 0, 0, 0, rfl, by omega, by omega, by omega, by omega, by simp, by simp⟩, by simp, by simp⟩
  · simp [flS, sgN]
    try (first | done | exact sgN 0)
  · rw [← ej]
    simp [joinP]
    try omega
theorem law_writes (kk : Int) (x : Stp) (hr : rightB kk x = true) (hb : 0 ≤ x.bits ∧ x.bits ≤ 255) (hl1 : x.cell.length ≤ 400) (hl2 : x.text.length ≤ 400) : LawW kk (plS kk x) ∧ (1 ≤ kk ∧ kk ≤ 9) ∧ (0 ≤ x.k ∧ x.k ≤ 9) := by
  obtain ⟨k, who, C, X, o, nn, tt, bb⟩ := x
  simp only at hb hl1 hl2
  unfold rightB numsB at hr
  simp only [Bool.and_eq_true, Bool.not_eq_true', decide_eq_false_iff_not] at hr
  obtain ⟨⟨h1, h2, h3, h4, h5, h6, h7⟩, h8⟩ := hr
  obtain ⟨a, rfl, ha⟩ := smB_nat h1
  obtain ⟨n, rfl, hn⟩ := smB_nat h2
  obtain ⟨t, rfl, ht⟩ := smB_nat h3
  obtain ⟨b, rfl⟩ : ∃ b : Nat, bb = (b : Int) := ⟨bb.toNat, by omega⟩
  have hb : b ≤ 255 := by omega
  have hkc : kk = 1 ∨ kk = 2 ∨ kk = 3 ∨ kk = 4 ∨ kk = 5 ∨ kk = 6 ∨ kk = 7 ∨ kk = 8 ∨ kk = 9 := by omega
  have hkd : k = 0 ∨ k = 1 ∨ k = 2 ∨ k = 3 ∨ k = 4 ∨ k = 5 ∨ k = 6 ∨ k = 7 ∨ k = 8 ∨ k = 9 := by omega
  refine ⟨?_, by omega, by simp only; omega⟩
  clear h1 h2 h3 h4 h5 h6 h7
  rcases hkc with rfl | rfl | rfl | rfl | rfl | rfl | rfl | rfl | rfl
  · have hC : plainW C := noSp_plain (by simpa using h8)
    rcases hkd with rfl | rfl | rfl | rfl | rfl | rfl | rfl | rfl | rfl | rfl
    · exact w_set a ha C X hC hl1 hl2
    · exact w_ins a ha o n hn
    · exact w_del a ha o n hn
    · exact w_deliver n hn
    · exact w_drop n hn
    · exact w_twice n hn
    · exact w_spoil n t b hn ht hb
    · exact w_dig a ha t ht
    · exact w_ack a ha t ht
    · exact w_sweep a ha
  · exact w_pull 
  · exact w_settle 
  · exact w_view a ha
  · exact w_cell a ha C hl1
  · exact w_typed a ha C hl1
  · exact w_known a ha
  · exact w_counts a ha
  · exact w_net 
end Go.Proofs.YtddoghjopihkpaaDoor
