/- Script: the plain law: what is written is read. No function of the program. -/
import Derived.Test.YtddoghjopihkpaaDoorScrN
import Derived.Test.YtddoghjopihkpaaDoorScrH
set_option linter.unusedSimpArgs false
set_option linter.unusedVariables false
namespace Go.Proofs.YtddoghjopihkpaaDoor
open Go.RowKit

theorem dc_ne (a : Nat) (h : a ≤ 1048576) (W : Bs) (hW : nmb W = none) : dcL a ≠ W := by
  intro e
  have := nmb_dc a h
  rw [e, hW] at this
  cases this
theorem more_num (a : Nat) (h : a ≤ 1048576) (R : Bs) : moreS (dcL a) R = ⟨1, (edS (a : Int) R).1, (edS (a : Int) R).2⟩ := by
  have hp : pkN (dcL a) = -1 := by
    unfold pkN
    rw [if_neg (dc_ne a h _ rfl), if_neg (dc_ne a h _ rfl), if_neg (dc_ne a h _ rfl)]
  have hk : askN (dcL a) = 0 := by
    unfold askN
    rw [if_neg (dc_ne a h _ rfl), if_neg (dc_ne a h _ rfl), if_neg (dc_ne a h _ rfl)]
  have ht : tlS (nmb (dcL a)) R = ⟨1, (edS (a : Int) R).1, (edS (a : Int) R).2⟩ := by rw [nmb_dc a h]; rfl
  unfold moreS
  split
  · rw [hp, hk, if_neg (by decide), if_neg (by decide), ht]
  · exact ht
theorem read_num (a : Nat) (h : a ≤ 1048576) (R : Bs) : readS (dcL a ++ 32 :: R) = ⟨1, (edS (a : Int) R).1, (edS (a : Int) R).2⟩ := by
  obtain ⟨h1, h2⟩ := wd_word (dcL a) R (dcL_plain a h)
  unfold readS readF
  rw [h1, h2, if_neg (dc_ne a h _ rfl), if_neg (dc_ne a h _ rfl), if_neg (dc_ne a h _ rfl), if_neg (dc_ne a h _ rfl), if_neg (dc_ne a h _ rfl), if_neg (dc_ne a h _ rfl)]
  exact more_num a h R
theorem plain_lit (W : Bs) (h : (W.all fun c => c != 32) = true) : plainW W := by
  intro c hc
  have := List.all_eq_true.1 h c hc
  simpa using this
theorem ed_set (who : Int) (C T : Bs) (hC : plainW C) : edS who (wSet ++ 32 :: (C ++ 32 :: T)) = (⟨0, who, C, T, false, 0, 0, 0⟩, true) := by
  obtain ⟨h1, h2⟩ := wd_word wSet (C ++ 32 :: T) (plain_lit _ (by decide))
  obtain ⟨h3, h4⟩ := wd_word C T hC
  unfold edS
  rw [h1, h2, if_pos rfl, h3, h4]
theorem lines_row (o : Bool) (n : Nat) (hn : n ≤ 1048576) (x : Stp) : linesS ((if o then wCol else wRow) ++ 32 :: dcL n) x = ({ x with cols := o, n := (n : Int) }, true) := by
  obtain ⟨h1, h2⟩ := wd_word (if o then wCol else wRow) (dcL n) (by cases o <;> exact plain_lit _ (by decide))
  unfold linesS
  rw [h1, h2, nbs_one n hn]
  cases o
  · simp
  · simp
theorem ed_ins (who : Int) (o : Bool) (n : Nat) (hn : n ≤ 1048576) : edS who (wInsert ++ 32 :: ((if o then wCol else wRow) ++ 32 :: dcL n)) = (⟨1, who, [], [], o, (n : Int), 0, 0⟩, true) := by
  obtain ⟨h1, h2⟩ := wd_word wInsert ((if o then wCol else wRow) ++ 32 :: dcL n) (plain_lit _ (by decide))
  unfold edS
  rw [h1, h2, if_neg (by decide), if_pos rfl, lines_row o n hn]
theorem ed_del (who : Int) (o : Bool) (n : Nat) (hn : n ≤ 1048576) : edS who (wDelete ++ 32 :: ((if o then wCol else wRow) ++ 32 :: dcL n)) = (⟨2, who, [], [], o, (n : Int), 0, 0⟩, true) := by
  obtain ⟨h1, h2⟩ := wd_word wDelete ((if o then wCol else wRow) ++ 32 :: dcL n) (plain_lit _ (by decide))
  unfold edS
  rw [h1, h2, if_neg (by decide), if_neg (by decide), if_pos rfl, lines_row o n hn]
theorem ed_sweep (who : Int) : edS who wSweep = (⟨9, who, [], [], false, 0, 0, 0⟩, true) := by
  obtain ⟨h1, h2⟩ := wd_all wSweep (plain_lit _ (by decide))
  unfold edS
  rw [h1, h2, if_neg (by decide), if_neg (by decide), if_neg (by decide), if_pos rfl]
  rfl
theorem ed_dig (who : Int) (t : Nat) (ht : t ≤ 1048576) : edS who (wDigest ++ 32 :: dcL t) = (⟨7, who, [], [], false, 0, (t : Int), 0⟩, true) := by
  obtain ⟨h1, h2⟩ := wd_word wDigest (dcL t) (plain_lit _ (by decide))
  unfold edS
  rw [h1, h2, if_neg (by decide), if_neg (by decide), if_neg (by decide), if_neg (by decide), if_pos rfl, nbs_one t ht]
  rfl
theorem ed_ack (who : Int) (t : Nat) (ht : t ≤ 1048576) : edS who (wAck ++ 32 :: dcL t) = (⟨8, who, [], [], false, 0, (t : Int), 0⟩, true) := by
  obtain ⟨h1, h2⟩ := wd_word wAck (dcL t) (plain_lit _ (by decide))
  unfold edS
  rw [h1, h2, if_neg (by decide), if_neg (by decide), if_neg (by decide), if_neg (by decide), if_neg (by decide), if_pos rfl, nbs_one t ht]
  rfl
theorem read_deliver (n : Nat) (hn : n ≤ 1048576) : readS (wDeliver ++ 32 :: dcL n) = ⟨1, ⟨3, 0, [], [], false, (n : Int), 0, 0⟩, true⟩ := by
  obtain ⟨h1, h2⟩ := wd_word wDeliver (dcL n) (plain_lit _ (by decide))
  have hp : pkN wDeliver = 3 := by decide
  unfold readS readF
  rw [h1, h2, if_neg (by decide), if_neg (by decide), if_neg (by decide), if_neg (by decide), if_neg (by decide), if_neg (by decide)]
  unfold moreS
  rw [nbs_one n hn, hp]
  rfl
theorem read_drop (n : Nat) (hn : n ≤ 1048576) : readS (wDrop ++ 32 :: dcL n) = ⟨1, ⟨4, 0, [], [], false, (n : Int), 0, 0⟩, true⟩ := by
  obtain ⟨h1, h2⟩ := wd_word wDrop (dcL n) (plain_lit _ (by decide))
  have hp : pkN wDrop = 4 := by decide
  unfold readS readF
  rw [h1, h2, if_neg (by decide), if_neg (by decide), if_neg (by decide), if_neg (by decide), if_neg (by decide), if_neg (by decide)]
  unfold moreS
  rw [nbs_one n hn, hp]
  rfl
theorem read_twice (n : Nat) (hn : n ≤ 1048576) : readS (wTwice ++ 32 :: dcL n) = ⟨1, ⟨5, 0, [], [], false, (n : Int), 0, 0⟩, true⟩ := by
  obtain ⟨h1, h2⟩ := wd_word wTwice (dcL n) (plain_lit _ (by decide))
  have hp : pkN wTwice = 5 := by decide
  unfold readS readF
  rw [h1, h2, if_neg (by decide), if_neg (by decide), if_neg (by decide), if_neg (by decide), if_neg (by decide), if_neg (by decide)]
  unfold moreS
  rw [nbs_one n hn, hp]
  rfl
theorem read_view (a : Nat) (ha : a ≤ 1048576) : readS (wView ++ 32 :: dcL a) = ⟨4, ⟨0, (a : Int), [], [], false, 0, 0, 0⟩, true⟩ := by
  obtain ⟨h1, h2⟩ := wd_word wView (dcL a) (plain_lit _ (by decide))
  have hp : pkN wView = -1 := by decide
  have hk : askN wView = 4 := by decide
  unfold readS readF
  rw [h1, h2, if_neg (by decide), if_neg (by decide), if_neg (by decide), if_neg (by decide), if_neg (by decide), if_neg (by decide)]
  unfold moreS
  rw [nbs_one a ha, hp, hk]
  rfl
theorem read_known (a : Nat) (ha : a ≤ 1048576) : readS (wKnown ++ 32 :: dcL a) = ⟨7, ⟨0, (a : Int), [], [], false, 0, 0, 0⟩, true⟩ := by
  obtain ⟨h1, h2⟩ := wd_word wKnown (dcL a) (plain_lit _ (by decide))
  have hp : pkN wKnown = -1 := by decide
  have hk : askN wKnown = 7 := by decide
  unfold readS readF
  rw [h1, h2, if_neg (by decide), if_neg (by decide), if_neg (by decide), if_neg (by decide), if_neg (by decide), if_neg (by decide)]
  unfold moreS
  rw [nbs_one a ha, hp, hk]
  rfl
theorem read_counts (a : Nat) (ha : a ≤ 1048576) : readS (wCounts ++ 32 :: dcL a) = ⟨8, ⟨0, (a : Int), [], [], false, 0, 0, 0⟩, true⟩ := by
  obtain ⟨h1, h2⟩ := wd_word wCounts (dcL a) (plain_lit _ (by decide))
  have hp : pkN wCounts = -1 := by decide
  have hk : askN wCounts = 8 := by decide
  unfold readS readF
  rw [h1, h2, if_neg (by decide), if_neg (by decide), if_neg (by decide), if_neg (by decide), if_neg (by decide), if_neg (by decide)]
  unfold moreS
  rw [nbs_one a ha, hp, hk]
  rfl
theorem read_cell (a : Nat) (ha : a ≤ 1048576) (C : Bs) : readS (wCell ++ 32 :: (dcL a ++ 32 :: C)) = ⟨5, ⟨0, (a : Int), C, [], false, 0, 0, 0⟩, true⟩ := by
  obtain ⟨h1, h2⟩ := wd_word wCell (dcL a ++ 32 :: C) (plain_lit _ (by decide))
  obtain ⟨h3, h4⟩ := wd_word (dcL a) C (dcL_plain a ha)
  unfold readS readF
  rw [h1, h2, if_neg (by decide), if_neg (by decide), if_neg (by decide), if_neg (by decide), if_pos rfl, h3, h4, nbs_one a ha]
  rfl
theorem read_typed (a : Nat) (ha : a ≤ 1048576) (C : Bs) : readS (wTyped ++ 32 :: (dcL a ++ 32 :: C)) = ⟨6, ⟨0, (a : Int), C, [], false, 0, 0, 0⟩, true⟩ := by
  obtain ⟨h1, h2⟩ := wd_word wTyped (dcL a ++ 32 :: C) (plain_lit _ (by decide))
  obtain ⟨h3, h4⟩ := wd_word (dcL a) C (dcL_plain a ha)
  unfold readS readF
  rw [h1, h2, if_neg (by decide), if_neg (by decide), if_neg (by decide), if_neg (by decide), if_neg (by decide), if_pos rfl, h3, h4, nbs_one a ha]
  rfl
theorem read_pull : readS wPull = ⟨2, st0, true⟩ := by
  obtain ⟨h1, h2⟩ := wd_all wPull (plain_lit _ (by decide))
  unfold readS readF
  rw [h1, h2, if_pos rfl]
theorem read_settle : readS wSettle = ⟨3, st0, true⟩ := by
  obtain ⟨h1, h2⟩ := wd_all wSettle (plain_lit _ (by decide))
  unfold readS readF
  rw [h1, h2, if_neg (by decide), if_pos rfl]
theorem read_net : readS wNet = ⟨9, st0, true⟩ := by
  obtain ⟨h1, h2⟩ := wd_all wNet (plain_lit _ (by decide))
  unfold readS readF
  rw [h1, h2, if_neg (by decide), if_neg (by decide), if_pos rfl]
theorem read_spoil (n t b : Nat) (hn : n ≤ 1048576) (ht : t ≤ 1048576) (hb : b ≤ 255) : readS (wSpoil ++ 32 :: (dcL n ++ 32 :: (dcL t ++ 32 :: dcL b))) = ⟨1, ⟨6, 0, [], [], false, (n : Int), (t : Int), (b : Int)⟩, true⟩ := by
  obtain ⟨h1, h2⟩ := wd_word wSpoil (dcL n ++ 32 :: (dcL t ++ 32 :: dcL b)) (plain_lit _ (by decide))
  unfold readS readF
  rw [h1, h2, if_neg (by decide), if_neg (by decide), if_neg (by decide), if_pos rfl, nbs_three n t b hn ht (by omega)]
  unfold spS
  simp only [List.getD_cons_succ, List.getD_cons_zero]
  rw [if_neg (by omega)]
end Go.Proofs.YtddoghjopihkpaaDoor
