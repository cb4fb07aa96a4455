/- Script: the plain law: every plain line's text is read as that line. No function of the program. -/
import Derived.Test.YtddoghjopihkpaaDoorScrO
import Derived.Test.YtddoghjopihkpaaDoorScrK
set_option linter.unusedSimpArgs false
set_option linter.unusedVariables false
namespace Go.Proofs.YtddoghjopihkpaaDoor
open Go.RowKit

theorem parse_of (L : Bs) (Y : Lnx) (h : readS L = Y) (hok : Y.ok = true) (ht : txX Y.k Y.s = L) : parseS L = Y := by
  unfold parseS
  rw [h, if_pos ⟨hok, ht⟩]
theorem p_pull : parseS (txX 2 st0) = ⟨2, st0, true⟩ := parse_of _ _ read_pull rfl rfl
theorem p_settle : parseS (txX 3 st0) = ⟨3, st0, true⟩ := parse_of _ _ read_settle rfl rfl
theorem p_net : parseS (txX 9 st0) = ⟨9, st0, true⟩ := parse_of _ _ read_net rfl rfl
theorem p_set (a : Nat) (ha : a ≤ 1048576) (C T : Bs) (hC : plainW C) : parseS (txX 1 ⟨0, (a : Int), C, T, false, 0, 0, 0⟩) = ⟨1, ⟨0, (a : Int), C, T, false, 0, 0, 0⟩, true⟩ := by
  have e : txX 1 ⟨0, (a : Int), C, T, false, 0, 0, 0⟩ = dcL a ++ 32 :: (wSet ++ 32 :: (C ++ 32 :: T)) := by
    unfold txX lnT stT
    simp
  rw [e]
  refine parse_of _ _ ?_ rfl e
  rw [read_num a ha, ed_set (a : Int) C T hC]
theorem p_ins (a : Nat) (ha : a ≤ 1048576) (o : Bool) (n : Nat) (hn : n ≤ 1048576) : parseS (txX 1 ⟨1, (a : Int), [], [], o, (n : Int), 0, 0⟩) = ⟨1, ⟨1, (a : Int), [], [], o, (n : Int), 0, 0⟩, true⟩ := by
  have e : txX 1 ⟨1, (a : Int), [], [], o, (n : Int), 0, 0⟩ = dcL a ++ 32 :: (wInsert ++ 32 :: ((if o then wCol else wRow) ++ 32 :: dcL n)) := by
    unfold txX lnT stT
    unfold axT
    cases o <;> simp
  rw [e]
  refine parse_of _ _ ?_ rfl e
  rw [read_num a ha, ed_ins (a : Int) o n hn]
theorem p_del (a : Nat) (ha : a ≤ 1048576) (o : Bool) (n : Nat) (hn : n ≤ 1048576) : parseS (txX 1 ⟨2, (a : Int), [], [], o, (n : Int), 0, 0⟩) = ⟨1, ⟨2, (a : Int), [], [], o, (n : Int), 0, 0⟩, true⟩ := by
  have e : txX 1 ⟨2, (a : Int), [], [], o, (n : Int), 0, 0⟩ = dcL a ++ 32 :: (wDelete ++ 32 :: ((if o then wCol else wRow) ++ 32 :: dcL n)) := by
    unfold txX lnT stT
    unfold axT
    cases o <;> simp
  rw [e]
  refine parse_of _ _ ?_ rfl e
  rw [read_num a ha, ed_del (a : Int) o n hn]
theorem p_sweep (a : Nat) (ha : a ≤ 1048576) : parseS (txX 1 ⟨9, (a : Int), [], [], false, 0, 0, 0⟩) = ⟨1, ⟨9, (a : Int), [], [], false, 0, 0, 0⟩, true⟩ := by
  have e : txX 1 ⟨9, (a : Int), [], [], false, 0, 0, 0⟩ = dcL a ++ 32 :: wSweep := by
    unfold txX lnT stT
    simp
  rw [e]
  refine parse_of _ _ ?_ rfl e
  rw [read_num a ha, ed_sweep]
theorem p_dig (a : Nat) (ha : a ≤ 1048576) (t : Nat) (ht : t ≤ 1048576) : parseS (txX 1 ⟨7, (a : Int), [], [], false, 0, (t : Int), 0⟩) = ⟨1, ⟨7, (a : Int), [], [], false, 0, (t : Int), 0⟩, true⟩ := by
  have e : txX 1 ⟨7, (a : Int), [], [], false, 0, (t : Int), 0⟩ = dcL a ++ 32 :: (wDigest ++ 32 :: dcL t) := by
    unfold txX lnT stT
    simp
  rw [e]
  refine parse_of _ _ ?_ rfl e
  rw [read_num a ha, ed_dig (a : Int) t ht]
theorem p_ack (a : Nat) (ha : a ≤ 1048576) (t : Nat) (ht : t ≤ 1048576) : parseS (txX 1 ⟨8, (a : Int), [], [], false, 0, (t : Int), 0⟩) = ⟨1, ⟨8, (a : Int), [], [], false, 0, (t : Int), 0⟩, true⟩ := by
  have e : txX 1 ⟨8, (a : Int), [], [], false, 0, (t : Int), 0⟩ = dcL a ++ 32 :: (wAck ++ 32 :: dcL t) := by
    unfold txX lnT stT
    simp
  rw [e]
  refine parse_of _ _ ?_ rfl e
  rw [read_num a ha, ed_ack (a : Int) t ht]
theorem p_deliver (n : Nat) (hn : n ≤ 1048576) : parseS (txX 1 ⟨3, 0, [], [], false, (n : Int), 0, 0⟩) = ⟨1, ⟨3, 0, [], [], false, (n : Int), 0, 0⟩, true⟩ := by
  have e : txX 1 ⟨3, 0, [], [], false, (n : Int), 0, 0⟩ = wDeliver ++ 32 :: dcL n := by
    unfold txX lnT stT
    simp
  rw [e]
  refine parse_of _ _ ?_ rfl e
  exact read_deliver n hn
theorem p_drop (n : Nat) (hn : n ≤ 1048576) : parseS (txX 1 ⟨4, 0, [], [], false, (n : Int), 0, 0⟩) = ⟨1, ⟨4, 0, [], [], false, (n : Int), 0, 0⟩, true⟩ := by
  have e : txX 1 ⟨4, 0, [], [], false, (n : Int), 0, 0⟩ = wDrop ++ 32 :: dcL n := by
    unfold txX lnT stT
    simp
  rw [e]
  refine parse_of _ _ ?_ rfl e
  exact read_drop n hn
theorem p_twice (n : Nat) (hn : n ≤ 1048576) : parseS (txX 1 ⟨5, 0, [], [], false, (n : Int), 0, 0⟩) = ⟨1, ⟨5, 0, [], [], false, (n : Int), 0, 0⟩, true⟩ := by
  have e : txX 1 ⟨5, 0, [], [], false, (n : Int), 0, 0⟩ = wTwice ++ 32 :: dcL n := by
    unfold txX lnT stT
    simp
  rw [e]
  refine parse_of _ _ ?_ rfl e
  exact read_twice n hn
theorem p_view (a : Nat) (ha : a ≤ 1048576) : parseS (txX 4 ⟨0, (a : Int), [], [], false, 0, 0, 0⟩) = ⟨4, ⟨0, (a : Int), [], [], false, 0, 0, 0⟩, true⟩ := by
  have e : txX 4 ⟨0, (a : Int), [], [], false, 0, 0, 0⟩ = wView ++ 32 :: dcL a := by
    unfold txX lnT stT
    simp
  rw [e]
  refine parse_of _ _ ?_ rfl e
  exact read_view a ha
theorem p_known (a : Nat) (ha : a ≤ 1048576) : parseS (txX 7 ⟨0, (a : Int), [], [], false, 0, 0, 0⟩) = ⟨7, ⟨0, (a : Int), [], [], false, 0, 0, 0⟩, true⟩ := by
  have e : txX 7 ⟨0, (a : Int), [], [], false, 0, 0, 0⟩ = wKnown ++ 32 :: dcL a := by
    unfold txX lnT stT
    simp
  rw [e]
  refine parse_of _ _ ?_ rfl e
  exact read_known a ha
theorem p_counts (a : Nat) (ha : a ≤ 1048576) : parseS (txX 8 ⟨0, (a : Int), [], [], false, 0, 0, 0⟩) = ⟨8, ⟨0, (a : Int), [], [], false, 0, 0, 0⟩, true⟩ := by
  have e : txX 8 ⟨0, (a : Int), [], [], false, 0, 0, 0⟩ = wCounts ++ 32 :: dcL a := by
    unfold txX lnT stT
    simp
  rw [e]
  refine parse_of _ _ ?_ rfl e
  exact read_counts a ha
theorem p_cell (a : Nat) (ha : a ≤ 1048576) (C : Bs) : parseS (txX 5 ⟨0, (a : Int), C, [], false, 0, 0, 0⟩) = ⟨5, ⟨0, (a : Int), C, [], false, 0, 0, 0⟩, true⟩ := by
  have e : txX 5 ⟨0, (a : Int), C, [], false, 0, 0, 0⟩ = wCell ++ 32 :: (dcL a ++ 32 :: C) := by
    unfold txX lnT stT
    simp
  rw [e]
  refine parse_of _ _ ?_ rfl e
  exact read_cell a ha C
theorem p_typed (a : Nat) (ha : a ≤ 1048576) (C : Bs) : parseS (txX 6 ⟨0, (a : Int), C, [], false, 0, 0, 0⟩) = ⟨6, ⟨0, (a : Int), C, [], false, 0, 0, 0⟩, true⟩ := by
  have e : txX 6 ⟨0, (a : Int), C, [], false, 0, 0, 0⟩ = wTyped ++ 32 :: (dcL a ++ 32 :: C) := by
    unfold txX lnT stT
    simp
  rw [e]
  refine parse_of _ _ ?_ rfl e
  exact read_typed a ha C
theorem p_spoil (n t b : Nat) (hn : n ≤ 1048576) (ht : t ≤ 1048576) (hb : b ≤ 255) : parseS (txX 1 ⟨6, 0, [], [], false, (n : Int), (t : Int), (b : Int)⟩) = ⟨1, ⟨6, 0, [], [], false, (n : Int), (t : Int), (b : Int)⟩, true⟩ := by
  have e : txX 1 ⟨6, 0, [], [], false, (n : Int), (t : Int), (b : Int)⟩ = wSpoil ++ 32 :: (dcL n ++ 32 :: (dcL t ++ 32 :: dcL b)) := by
    unfold txX lnT stT
    simp
  rw [e]
  refine parse_of _ _ ?_ rfl e
  exact read_spoil n t b hn ht hb
end Go.Proofs.YtddoghjopihkpaaDoor
