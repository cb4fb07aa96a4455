/- Script: the plain law: the only line that is written so. No function of the program. -/
import Derived.Test.YtddoghjopihkpaaDoorScrU
set_option linter.unusedSimpArgs false
set_option linter.unusedVariables false
namespace Go.Proofs.YtddoghjopihkpaaDoor
open Go.RowKit

theorem chr_back (c : UInt8) (h1 : 48 ≤ c.toNat) : chr (c.toNat - 48) = c := by
  unfold chr
  rw [show 48 + (c.toNat - 48) = c.toNat from by omega]
  simp
theorem nmF_inv : ∀ (r : Bs) (v m : Nat), 1 ≤ v → v ≤ 1048576 → nmF v r = some m → dcL v ++ r = dcL m
  | [], v, m, _, _, h => by
    cases h
    simp
  | c :: r, v, m, hv, hv2, h => by
    unfold nmF at h
    split at h
    · rename_i hc
      have ih := nmF_inv r _ m (by omega) hc.2.2 h
      rw [← ih, dcL_step (n := 10 * v + (c.toNat - 48)) (by omega) (by omega), show (10 * v + (c.toNat - 48)) / 10 = v from by omega, show (10 * v + (c.toNat - 48)) % 10 = c.toNat - 48 from by omega, chr_back c hc.1]
      simp
    · cases h
theorem nmb_inv {L : Bs} {m : Nat} (h : nmb L = some m) : L = dcL m := by
  unfold nmb at h
  split at h
  · cases h
  · rename_i hne
    split at h
    · cases h
    · rename_i hz
      cases L with
      | nil => exact absurd rfl hne
      | cons c r =>
        unfold nmF at h
        split at h
        · rename_i hc
          by_cases h0 : c.toNat = 48
          · have hr : r = [] := by
              cases r with
              | nil => rfl
              | cons d r => exact absurd ⟨by simp, by unfold btN; simpa using h0⟩ hz
            subst hr
            cases h
            rw [show 10 * 0 + (c.toNat - 48) = 0 from by omega, dcL_small (by omega), show (0 : Nat) = c.toNat - 48 from by omega, chr_back c hc.1]
          · have ih := nmF_inv r _ m (by omega) hc.2.2 h
            rw [← ih, dcL_small (by omega), show 10 * 0 + (c.toNat - 48) = c.toNat - 48 from by omega, chr_back c hc.1]
            rfl
        · cases h
def cutW : Nat → Bs → List Bs
  | 0, L => [L]
  | k + 1, L => if (32 : UInt8) ∈ L then wd L :: cutW k (rs L) else [L]
theorem cutW_cons (k : Nat) (A R : Bs) (h : plainW A) : cutW (k + 1) (A ++ 32 :: R) = A :: cutW k R := by
  obtain ⟨h1, h2⟩ := wd_word A R h
  rw [cutW, if_pos (by simp), h1, h2]
theorem cutW_last (k : Nat) (A : Bs) (h : plainW A) : cutW k A = [A] := by
  cases k with
  | zero => rfl
  | succ k => rw [cutW, if_neg (fun hm => h 32 hm rfl)]
theorem cutW_len : ∀ (k : Nat) (L : Bs) (i : Nat), ((cutW k L).getD i []).length ≤ L.length
  | 0, L, 0 => by simp [cutW]
  | 0, L, i + 1 => by simp [cutW]
  | k + 1, L, i => by
    rw [cutW]
    split
    · cases i with
      | zero => simpa using wd_len L
      | succ i =>
        have := cutW_len k (rs L) i
        have h2 := rs_len L
        simp only [List.getD_cons_succ]
        omega
    · cases i with
      | zero => simp
      | succ i => simp
theorem cutW_size : ∀ (k : Nat) (L : Bs), (cutW k L).length ≤ k + 1
  | 0, L => by simp [cutW]
  | k + 1, L => by
    rw [cutW]
    split
    · have := cutW_size k (rs L)
      simp
      omega
    · simp
def numS (L : Bs) : Int := (((nmb L).getD 0 : Nat) : Int)
theorem numS_dc (n : Nat) (h : n ≤ 1048576) : numS (dcL n) = (n : Int) := by
  unfold numS
  rw [nmb_dc n h]
  rfl
theorem numS_le (L : Bs) : 0 ≤ numS L ∧ numS L ≤ 1048576 := by
  unfold numS
  cases h : nmb L with
  | none => simp
  | some v =>
    have := nmb_le h
    simp
    omega
/-- What the document makes of a text's words. -/
def candF (kk k : Int) (w0 w1 w2 w3 g2 : Bs) : Stp := ⟨k, if 1 < kk then numS w1 else numS w0, if 1 < kk then g2 else w2, w3, decide (w2 = wCol), if 3 ≤ k ∧ k ≤ 6 then numS w1 else numS w3, numS w2, IntKind.u8.wrap (numS w3)⟩
def candL (kk k : Int) (L : Bs) : Stp := candF kk k ((cutW 3 L).getD 0 []) ((cutW 3 L).getD 1 []) ((cutW 3 L).getD 2 []) ((cutW 3 L).getD 3 []) ((cutW 2 L).getD 2 [])
def okC (kk k : Int) (L : Bs) : Prop := rightB kk (plS kk (candL kk k L)) = true ∧ txX kk (plS kk (candL kk k L)) = L
theorem pl_pl (kk : Int) (x : Stp) : plS kk (plS kk x) = plS kk x := by
  obtain ⟨k, a, C, T, o, n, t, b⟩ := x
  unfold plS
  by_cases h : kk = 1
  · simp only [if_pos h]
    congr 1
    all_goals
      split <;> rfl
  · simp only [if_neg h]
    congr 1
    all_goals
      split <;> rfl
theorem wrap8 (n : Int) : 0 ≤ IntKind.u8.wrap n ∧ IntKind.u8.wrap n ≤ 255 := by
  rw [IntKind.wrap_u8]
  omega
theorem cand_law (kk k : Int) (L : Bs) (hL : L.length ≤ 400) (hr : rightB kk (plS kk (candL kk k L)) = true) : LawW kk (plS kk (candL kk k L)) ∧ (1 ≤ kk ∧ kk ≤ 9) := by
  have h0 : (candL kk k L).cell.length ≤ 400 := by
    have h1 := cutW_len 3 L 2
    have h2 := cutW_len 2 L 2
    unfold candL candF
    simp only
    split <;> omega
  have h1 : (candL kk k L).text.length ≤ 400 := by
    have h1 := cutW_len 3 L 3
    unfold candL candF
    simp only
    omega
  have hb : 0 ≤ (candL kk k L).bits ∧ (candL kk k L).bits ≤ 255 := wrap8 _
  generalize candL kk k L = y at hr h0 h1 hb
  have hb2 : 0 ≤ (plS kk y).bits ∧ (plS kk y).bits ≤ 255 := by
    unfold plS
    split
    · simp only
      split <;> omega
    · simp
  have hc2 : (plS kk y).cell.length ≤ 400 := by
    unfold plS
    split
    · simp only
      split
      · omega
      · simp
    · simp only
      split
      · omega
      · simp
  have ht2 : (plS kk y).text.length ≤ 400 := by
    unfold plS
    split
    · simp only
      split
      · omega
      · simp
    · simp
  have h := law_writes kk (plS kk y) hr hb2 hc2 ht2
  rw [pl_pl] at h
  exact ⟨h.1, h.2.1⟩
theorem cand_read (kk k : Int) (L : Bs) (hL : L.length ≤ 400) (h : okC kk k L) : parseS L = ⟨kk, plS kk (candL kk k L), true⟩ := by
  obtain ⟨hl, _⟩ := cand_law kk k L hL h.1
  obtain ⟨x0, R, _, _, _, _, h5, _⟩ := hl
  rw [h.2] at h5
  exact h5
/-- What is read has one of these forms. -/
inductive Shp : Int → Stp → Prop
  | s_set (a : Nat) (ha : a ≤ 1048576) (C X : Bs) (hC : plainW C) : Shp 1 ⟨0, (a : Int), C, X, false, 0, 0, 0⟩
  | s_ins (a : Nat) (ha : a ≤ 1048576) (o : Bool) (n : Nat) (hn : n ≤ 1048576) : Shp 1 ⟨1, (a : Int), [], [], o, (n : Int), 0, 0⟩
  | s_del (a : Nat) (ha : a ≤ 1048576) (o : Bool) (n : Nat) (hn : n ≤ 1048576) : Shp 1 ⟨2, (a : Int), [], [], o, (n : Int), 0, 0⟩
  | s_deliver (n : Nat) (hn : n ≤ 1048576) : Shp 1 ⟨3, 0, [], [], false, (n : Int), 0, 0⟩
  | s_drop (n : Nat) (hn : n ≤ 1048576) : Shp 1 ⟨4, 0, [], [], false, (n : Int), 0, 0⟩
  | s_twice (n : Nat) (hn : n ≤ 1048576) : Shp 1 ⟨5, 0, [], [], false, (n : Int), 0, 0⟩
  | s_spoil (n t b : Nat) (hn : n ≤ 1048576) (ht : t ≤ 1048576) (hb : b ≤ 255) : Shp 1 ⟨6, 0, [], [], false, (n : Int), (t : Int), (b : Int)⟩
  | s_dig (a : Nat) (ha : a ≤ 1048576) (t : Nat) (ht : t ≤ 1048576) : Shp 1 ⟨7, (a : Int), [], [], false, 0, (t : Int), 0⟩
  | s_ack (a : Nat) (ha : a ≤ 1048576) (t : Nat) (ht : t ≤ 1048576) : Shp 1 ⟨8, (a : Int), [], [], false, 0, (t : Int), 0⟩
  | s_sweep (a : Nat) (ha : a ≤ 1048576) : Shp 1 ⟨9, (a : Int), [], [], false, 0, 0, 0⟩
  | s_pull  : Shp 2 ⟨0, 0, [], [], false, 0, 0, 0⟩
  | s_settle  : Shp 3 ⟨0, 0, [], [], false, 0, 0, 0⟩
  | s_view (a : Nat) (ha : a ≤ 1048576) : Shp 4 ⟨0, (a : Int), [], [], false, 0, 0, 0⟩
  | s_cell (a : Nat) (ha : a ≤ 1048576) (C : Bs) : Shp 5 ⟨0, (a : Int), C, [], false, 0, 0, 0⟩
  | s_typed (a : Nat) (ha : a ≤ 1048576) (C : Bs) : Shp 6 ⟨0, (a : Int), C, [], false, 0, 0, 0⟩
  | s_known (a : Nat) (ha : a ≤ 1048576) : Shp 7 ⟨0, (a : Int), [], [], false, 0, 0, 0⟩
  | s_counts (a : Nat) (ha : a ≤ 1048576) : Shp 8 ⟨0, (a : Int), [], [], false, 0, 0, 0⟩
  | s_net  : Shp 9 ⟨0, 0, [], [], false, 0, 0, 0⟩
theorem c_set (a : Nat) (ha : a ≤ 1048576) (C X : Bs) (hC : plainW C) : okC 1 0 (dcL a ++ 32 :: (wSet ++ 32 :: (C ++ 32 :: X))) ∧ plS 1 (candL 1 0 (dcL a ++ 32 :: (wSet ++ 32 :: (C ++ 32 :: X)))) = ⟨0, (a : Int), C, X, false, 0, 0, 0⟩ := by
  have e : plS 1 (candL 1 0 (dcL a ++ 32 :: (wSet ++ 32 :: (C ++ 32 :: X)))) = ⟨0, (a : Int), C, X, false, 0, 0, 0⟩ := by
    have h3 : cutW 3 (dcL a ++ 32 :: (wSet ++ 32 :: (C ++ 32 :: X))) = [dcL a, wSet, C] ++ cutW 0 X := by rw [cutW_cons 2 _ _ (dcL_plain a (by omega)), cutW_cons 1 _ _ (plain_lit _ (by decide)), cutW_cons 0 _ _ hC]; try rfl
    have h2 : cutW 2 (dcL a ++ 32 :: (wSet ++ 32 :: (C ++ 32 :: X))) = [dcL a, wSet, (C ++ 32 :: X)] := by rw [cutW_cons 1 _ _ (dcL_plain a (by omega)), cutW_cons 0 _ _ (plain_lit _ (by decide))]; try rfl
    unfold candL
    rw [h3, h2]
    simp [candF, plS, numS_dc a (by omega), cutW]
  refine ⟨⟨?_, ?_⟩, e⟩
  · rw [e]
    simp [rightB, numsB, smB, noSp]
    exact ⟨by omega, fun c hc => hC c hc⟩
  · rw [e]
    unfold txX lnT
    simp [stT, axT]
theorem c_ins (a : Nat) (ha : a ≤ 1048576) (o : Bool) (n : Nat) (hn : n ≤ 1048576) : okC 1 1 (dcL a ++ 32 :: (wInsert ++ 32 :: ((if o then wCol else wRow) ++ 32 :: dcL n))) ∧ plS 1 (candL 1 1 (dcL a ++ 32 :: (wInsert ++ 32 :: ((if o then wCol else wRow) ++ 32 :: dcL n)))) = ⟨1, (a : Int), [], [], o, (n : Int), 0, 0⟩ := by
  have e : plS 1 (candL 1 1 (dcL a ++ 32 :: (wInsert ++ 32 :: ((if o then wCol else wRow) ++ 32 :: dcL n)))) = ⟨1, (a : Int), [], [], o, (n : Int), 0, 0⟩ := by
    have h3 : cutW 3 (dcL a ++ 32 :: (wInsert ++ 32 :: ((if o then wCol else wRow) ++ 32 :: dcL n))) = [dcL a, wInsert, (if o then wCol else wRow), dcL n] := by rw [cutW_cons 2 _ _ (dcL_plain a (by omega)), cutW_cons 1 _ _ (plain_lit _ (by decide)), cutW_cons 0 _ _ (by cases o <;> exact plain_lit _ (by decide)), cutW_last 0 _ (dcL_plain n (by omega))]; try rfl
    have h2 : cutW 2 (dcL a ++ 32 :: (wInsert ++ 32 :: ((if o then wCol else wRow) ++ 32 :: dcL n))) = [dcL a, wInsert, ((if o then wCol else wRow) ++ 32 :: dcL n)] := by rw [cutW_cons 1 _ _ (dcL_plain a (by omega)), cutW_cons 0 _ _ (plain_lit _ (by decide))]; try rfl
    unfold candL
    rw [h3, h2]
    simp [candF, plS, numS_dc a (by omega), numS_dc n (by omega)]
    try (cases o <;> simp)
  refine ⟨⟨?_, ?_⟩, e⟩
  · rw [e]
    simp [rightB, numsB, smB, noSp]
    try omega
  · rw [e]
    unfold txX lnT
    simp [stT, axT]
    try (cases o <;> simp)
theorem c_del (a : Nat) (ha : a ≤ 1048576) (o : Bool) (n : Nat) (hn : n ≤ 1048576) : okC 1 2 (dcL a ++ 32 :: (wDelete ++ 32 :: ((if o then wCol else wRow) ++ 32 :: dcL n))) ∧ plS 1 (candL 1 2 (dcL a ++ 32 :: (wDelete ++ 32 :: ((if o then wCol else wRow) ++ 32 :: dcL n)))) = ⟨2, (a : Int), [], [], o, (n : Int), 0, 0⟩ := by
  have e : plS 1 (candL 1 2 (dcL a ++ 32 :: (wDelete ++ 32 :: ((if o then wCol else wRow) ++ 32 :: dcL n)))) = ⟨2, (a : Int), [], [], o, (n : Int), 0, 0⟩ := by
    have h3 : cutW 3 (dcL a ++ 32 :: (wDelete ++ 32 :: ((if o then wCol else wRow) ++ 32 :: dcL n))) = [dcL a, wDelete, (if o then wCol else wRow), dcL n] := by rw [cutW_cons 2 _ _ (dcL_plain a (by omega)), cutW_cons 1 _ _ (plain_lit _ (by decide)), cutW_cons 0 _ _ (by cases o <;> exact plain_lit _ (by decide)), cutW_last 0 _ (dcL_plain n (by omega))]; try rfl
    have h2 : cutW 2 (dcL a ++ 32 :: (wDelete ++ 32 :: ((if o then wCol else wRow) ++ 32 :: dcL n))) = [dcL a, wDelete, ((if o then wCol else wRow) ++ 32 :: dcL n)] := by rw [cutW_cons 1 _ _ (dcL_plain a (by omega)), cutW_cons 0 _ _ (plain_lit _ (by decide))]; try rfl
    unfold candL
    rw [h3, h2]
    simp [candF, plS, numS_dc a (by omega), numS_dc n (by omega)]
    try (cases o <;> simp)
  refine ⟨⟨?_, ?_⟩, e⟩
  · rw [e]
    simp [rightB, numsB, smB, noSp]
    try omega
  · rw [e]
    unfold txX lnT
    simp [stT, axT]
    try (cases o <;> simp)
theorem c_deliver (n : Nat) (hn : n ≤ 1048576) : okC 1 3 (wDeliver ++ 32 :: dcL n) ∧ plS 1 (candL 1 3 (wDeliver ++ 32 :: dcL n)) = ⟨3, 0, [], [], false, (n : Int), 0, 0⟩ := by
  have e : plS 1 (candL 1 3 (wDeliver ++ 32 :: dcL n)) = ⟨3, 0, [], [], false, (n : Int), 0, 0⟩ := by
    have h3 : cutW 3 (wDeliver ++ 32 :: dcL n) = [wDeliver, dcL n] := by rw [cutW_cons 2 _ _ (plain_lit _ (by decide)), cutW_last 2 _ (dcL_plain n (by omega))]; try rfl
    have h2 : cutW 2 (wDeliver ++ 32 :: dcL n) = [wDeliver, dcL n] := by rw [cutW_cons 1 _ _ (plain_lit _ (by decide)), cutW_last 1 _ (dcL_plain n (by omega))]; try rfl
    unfold candL
    rw [h3, h2]
    simp [candF, plS, numS_dc n (by omega)]
  refine ⟨⟨?_, ?_⟩, e⟩
  · rw [e]
    simp [rightB, numsB, smB, noSp]
    try omega
  · rw [e]
    unfold txX lnT
    simp [stT, axT]
theorem c_drop (n : Nat) (hn : n ≤ 1048576) : okC 1 4 (wDrop ++ 32 :: dcL n) ∧ plS 1 (candL 1 4 (wDrop ++ 32 :: dcL n)) = ⟨4, 0, [], [], false, (n : Int), 0, 0⟩ := by
  have e : plS 1 (candL 1 4 (wDrop ++ 32 :: dcL n)) = ⟨4, 0, [], [], false, (n : Int), 0, 0⟩ := by
    have h3 : cutW 3 (wDrop ++ 32 :: dcL n) = [wDrop, dcL n] := by rw [cutW_cons 2 _ _ (plain_lit _ (by decide)), cutW_last 2 _ (dcL_plain n (by omega))]; try rfl
    have h2 : cutW 2 (wDrop ++ 32 :: dcL n) = [wDrop, dcL n] := by rw [cutW_cons 1 _ _ (plain_lit _ (by decide)), cutW_last 1 _ (dcL_plain n (by omega))]; try rfl
    unfold candL
    rw [h3, h2]
    simp [candF, plS, numS_dc n (by omega)]
  refine ⟨⟨?_, ?_⟩, e⟩
  · rw [e]
    simp [rightB, numsB, smB, noSp]
    try omega
  · rw [e]
    unfold txX lnT
    simp [stT, axT]
theorem c_twice (n : Nat) (hn : n ≤ 1048576) : okC 1 5 (wTwice ++ 32 :: dcL n) ∧ plS 1 (candL 1 5 (wTwice ++ 32 :: dcL n)) = ⟨5, 0, [], [], false, (n : Int), 0, 0⟩ := by
  have e : plS 1 (candL 1 5 (wTwice ++ 32 :: dcL n)) = ⟨5, 0, [], [], false, (n : Int), 0, 0⟩ := by
    have h3 : cutW 3 (wTwice ++ 32 :: dcL n) = [wTwice, dcL n] := by rw [cutW_cons 2 _ _ (plain_lit _ (by decide)), cutW_last 2 _ (dcL_plain n (by omega))]; try rfl
    have h2 : cutW 2 (wTwice ++ 32 :: dcL n) = [wTwice, dcL n] := by rw [cutW_cons 1 _ _ (plain_lit _ (by decide)), cutW_last 1 _ (dcL_plain n (by omega))]; try rfl
    unfold candL
    rw [h3, h2]
    simp [candF, plS, numS_dc n (by omega)]
  refine ⟨⟨?_, ?_⟩, e⟩
  · rw [e]
    simp [rightB, numsB, smB, noSp]
    try omega
  · rw [e]
    unfold txX lnT
    simp [stT, axT]
theorem c_spoil (n t b : Nat) (hn : n ≤ 1048576) (ht : t ≤ 1048576) (hb : b ≤ 255) : okC 1 6 (wSpoil ++ 32 :: (dcL n ++ 32 :: (dcL t ++ 32 :: dcL b))) ∧ plS 1 (candL 1 6 (wSpoil ++ 32 :: (dcL n ++ 32 :: (dcL t ++ 32 :: dcL b)))) = ⟨6, 0, [], [], false, (n : Int), (t : Int), (b : Int)⟩ := by
  have e : plS 1 (candL 1 6 (wSpoil ++ 32 :: (dcL n ++ 32 :: (dcL t ++ 32 :: dcL b)))) = ⟨6, 0, [], [], false, (n : Int), (t : Int), (b : Int)⟩ := by
    have h3 : cutW 3 (wSpoil ++ 32 :: (dcL n ++ 32 :: (dcL t ++ 32 :: dcL b))) = [wSpoil, dcL n, dcL t, dcL b] := by rw [cutW_cons 2 _ _ (plain_lit _ (by decide)), cutW_cons 1 _ _ (dcL_plain n (by omega)), cutW_cons 0 _ _ (dcL_plain t (by omega)), cutW_last 0 _ (dcL_plain b (by omega))]; try rfl
    have h2 : cutW 2 (wSpoil ++ 32 :: (dcL n ++ 32 :: (dcL t ++ 32 :: dcL b))) = [wSpoil, dcL n, (dcL t ++ 32 :: dcL b)] := by rw [cutW_cons 1 _ _ (plain_lit _ (by decide)), cutW_cons 0 _ _ (dcL_plain n (by omega))]; try rfl
    unfold candL
    rw [h3, h2]
    simp [candF, plS, numS_dc n (by omega), numS_dc t (by omega), numS_dc b (by omega)]
    exact IntWalk.u8_in _ (by omega)
  refine ⟨⟨?_, ?_⟩, e⟩
  · rw [e]
    simp [rightB, numsB, smB, noSp]
    try omega
  · rw [e]
    unfold txX lnT
    simp [stT, axT]
theorem c_dig (a : Nat) (ha : a ≤ 1048576) (t : Nat) (ht : t ≤ 1048576) : okC 1 7 (dcL a ++ 32 :: (wDigest ++ 32 :: dcL t)) ∧ plS 1 (candL 1 7 (dcL a ++ 32 :: (wDigest ++ 32 :: dcL t))) = ⟨7, (a : Int), [], [], false, 0, (t : Int), 0⟩ := by
  have e : plS 1 (candL 1 7 (dcL a ++ 32 :: (wDigest ++ 32 :: dcL t))) = ⟨7, (a : Int), [], [], false, 0, (t : Int), 0⟩ := by
    have h3 : cutW 3 (dcL a ++ 32 :: (wDigest ++ 32 :: dcL t)) = [dcL a, wDigest, dcL t] := by rw [cutW_cons 2 _ _ (dcL_plain a (by omega)), cutW_cons 1 _ _ (plain_lit _ (by decide)), cutW_last 1 _ (dcL_plain t (by omega))]; try rfl
    have h2 : cutW 2 (dcL a ++ 32 :: (wDigest ++ 32 :: dcL t)) = [dcL a, wDigest, dcL t] := by rw [cutW_cons 1 _ _ (dcL_plain a (by omega)), cutW_cons 0 _ _ (plain_lit _ (by decide)), cutW_last 0 _ (dcL_plain t (by omega))]; try rfl
    unfold candL
    rw [h3, h2]
    simp [candF, plS, numS_dc a (by omega), numS_dc t (by omega)]
  refine ⟨⟨?_, ?_⟩, e⟩
  · rw [e]
    simp [rightB, numsB, smB, noSp]
    try omega
  · rw [e]
    unfold txX lnT
    simp [stT, axT]
theorem c_ack (a : Nat) (ha : a ≤ 1048576) (t : Nat) (ht : t ≤ 1048576) : okC 1 8 (dcL a ++ 32 :: (wAck ++ 32 :: dcL t)) ∧ plS 1 (candL 1 8 (dcL a ++ 32 :: (wAck ++ 32 :: dcL t))) = ⟨8, (a : Int), [], [], false, 0, (t : Int), 0⟩ := by
  have e : plS 1 (candL 1 8 (dcL a ++ 32 :: (wAck ++ 32 :: dcL t))) = ⟨8, (a : Int), [], [], false, 0, (t : Int), 0⟩ := by
    have h3 : cutW 3 (dcL a ++ 32 :: (wAck ++ 32 :: dcL t)) = [dcL a, wAck, dcL t] := by rw [cutW_cons 2 _ _ (dcL_plain a (by omega)), cutW_cons 1 _ _ (plain_lit _ (by decide)), cutW_last 1 _ (dcL_plain t (by omega))]; try rfl
    have h2 : cutW 2 (dcL a ++ 32 :: (wAck ++ 32 :: dcL t)) = [dcL a, wAck, dcL t] := by rw [cutW_cons 1 _ _ (dcL_plain a (by omega)), cutW_cons 0 _ _ (plain_lit _ (by decide)), cutW_last 0 _ (dcL_plain t (by omega))]; try rfl
    unfold candL
    rw [h3, h2]
    simp [candF, plS, numS_dc a (by omega), numS_dc t (by omega)]
  refine ⟨⟨?_, ?_⟩, e⟩
  · rw [e]
    simp [rightB, numsB, smB, noSp]
    try omega
  · rw [e]
    unfold txX lnT
    simp [stT, axT]
theorem c_sweep (a : Nat) (ha : a ≤ 1048576) : okC 1 9 (dcL a ++ 32 :: wSweep) ∧ plS 1 (candL 1 9 (dcL a ++ 32 :: wSweep)) = ⟨9, (a : Int), [], [], false, 0, 0, 0⟩ := by
  have e : plS 1 (candL 1 9 (dcL a ++ 32 :: wSweep)) = ⟨9, (a : Int), [], [], false, 0, 0, 0⟩ := by
    have h3 : cutW 3 (dcL a ++ 32 :: wSweep) = [dcL a, wSweep] := by rw [cutW_cons 2 _ _ (dcL_plain a (by omega)), cutW_last 2 _ (plain_lit _ (by decide))]; try rfl
    have h2 : cutW 2 (dcL a ++ 32 :: wSweep) = [dcL a, wSweep] := by rw [cutW_cons 1 _ _ (dcL_plain a (by omega)), cutW_last 1 _ (plain_lit _ (by decide))]; try rfl
    unfold candL
    rw [h3, h2]
    simp [candF, plS, numS_dc a (by omega)]
  refine ⟨⟨?_, ?_⟩, e⟩
  · rw [e]
    simp [rightB, numsB, smB, noSp]
    try omega
  · rw [e]
    unfold txX lnT
    simp [stT, axT]
theorem c_pull  : okC 2 0 (wPull) ∧ plS 2 (candL 2 0 (wPull)) = ⟨0, 0, [], [], false, 0, 0, 0⟩ := by
  have e : plS 2 (candL 2 0 (wPull)) = ⟨0, 0, [], [], false, 0, 0, 0⟩ := by
    have h3 : cutW 3 (wPull) = [wPull] := by rw [cutW_last 3 _ (plain_lit _ (by decide))]; try rfl
    have h2 : cutW 2 (wPull) = [wPull] := by rw [cutW_last 2 _ (plain_lit _ (by decide))]; try rfl
    unfold candL
    rw [h3, h2]
    simp [candF, plS]
  refine ⟨⟨?_, ?_⟩, e⟩
  · rw [e]
    simp [rightB, numsB, smB, noSp]
  · rw [e]
    unfold txX lnT
    simp [stT, axT]
theorem c_settle  : okC 3 0 (wSettle) ∧ plS 3 (candL 3 0 (wSettle)) = ⟨0, 0, [], [], false, 0, 0, 0⟩ := by
  have e : plS 3 (candL 3 0 (wSettle)) = ⟨0, 0, [], [], false, 0, 0, 0⟩ := by
    have h3 : cutW 3 (wSettle) = [wSettle] := by rw [cutW_last 3 _ (plain_lit _ (by decide))]; try rfl
    have h2 : cutW 2 (wSettle) = [wSettle] := by rw [cutW_last 2 _ (plain_lit _ (by decide))]; try rfl
    unfold candL
    rw [h3, h2]
    simp [candF, plS]
  refine ⟨⟨?_, ?_⟩, e⟩
  · rw [e]
    simp [rightB, numsB, smB, noSp]
  · rw [e]
    unfold txX lnT
    simp [stT, axT]
theorem c_view (a : Nat) (ha : a ≤ 1048576) : okC 4 0 (wView ++ 32 :: dcL a) ∧ plS 4 (candL 4 0 (wView ++ 32 :: dcL a)) = ⟨0, (a : Int), [], [], false, 0, 0, 0⟩ := by
  have e : plS 4 (candL 4 0 (wView ++ 32 :: dcL a)) = ⟨0, (a : Int), [], [], false, 0, 0, 0⟩ := by
    have h3 : cutW 3 (wView ++ 32 :: dcL a) = [wView, dcL a] := by rw [cutW_cons 2 _ _ (plain_lit _ (by decide)), cutW_last 2 _ (dcL_plain a (by omega))]; try rfl
    have h2 : cutW 2 (wView ++ 32 :: dcL a) = [wView, dcL a] := by rw [cutW_cons 1 _ _ (plain_lit _ (by decide)), cutW_last 1 _ (dcL_plain a (by omega))]; try rfl
    unfold candL
    rw [h3, h2]
    simp [candF, plS, numS_dc a (by omega)]
  refine ⟨⟨?_, ?_⟩, e⟩
  · rw [e]
    simp [rightB, numsB, smB, noSp]
    try omega
  · rw [e]
    unfold txX lnT
    simp [stT, axT]
theorem c_cell (a : Nat) (ha : a ≤ 1048576) (C : Bs) : okC 5 0 (wCell ++ 32 :: (dcL a ++ 32 :: C)) ∧ plS 5 (candL 5 0 (wCell ++ 32 :: (dcL a ++ 32 :: C))) = ⟨0, (a : Int), C, [], false, 0, 0, 0⟩ := by
  have e : plS 5 (candL 5 0 (wCell ++ 32 :: (dcL a ++ 32 :: C))) = ⟨0, (a : Int), C, [], false, 0, 0, 0⟩ := by
    have h3 : cutW 3 (wCell ++ 32 :: (dcL a ++ 32 :: C)) = [wCell, dcL a] ++ cutW 1 C := by rw [cutW_cons 2 _ _ (plain_lit _ (by decide)), cutW_cons 1 _ _ (dcL_plain a (by omega))]; try rfl
    have h2 : cutW 2 (wCell ++ 32 :: (dcL a ++ 32 :: C)) = [wCell, dcL a] ++ cutW 0 C := by rw [cutW_cons 1 _ _ (plain_lit _ (by decide)), cutW_cons 0 _ _ (dcL_plain a (by omega))]; try rfl
    unfold candL
    rw [h3, h2]
    simp [candF, plS, numS_dc a (by omega), cutW]
  refine ⟨⟨?_, ?_⟩, e⟩
  · rw [e]
    simp [rightB, numsB, smB, noSp]
    try omega
  · rw [e]
    unfold txX lnT
    simp [stT, axT]
theorem c_typed (a : Nat) (ha : a ≤ 1048576) (C : Bs) : okC 6 0 (wTyped ++ 32 :: (dcL a ++ 32 :: C)) ∧ plS 6 (candL 6 0 (wTyped ++ 32 :: (dcL a ++ 32 :: C))) = ⟨0, (a : Int), C, [], false, 0, 0, 0⟩ := by
  have e : plS 6 (candL 6 0 (wTyped ++ 32 :: (dcL a ++ 32 :: C))) = ⟨0, (a : Int), C, [], false, 0, 0, 0⟩ := by
    have h3 : cutW 3 (wTyped ++ 32 :: (dcL a ++ 32 :: C)) = [wTyped, dcL a] ++ cutW 1 C := by rw [cutW_cons 2 _ _ (plain_lit _ (by decide)), cutW_cons 1 _ _ (dcL_plain a (by omega))]; try rfl
    have h2 : cutW 2 (wTyped ++ 32 :: (dcL a ++ 32 :: C)) = [wTyped, dcL a] ++ cutW 0 C := by rw [cutW_cons 1 _ _ (plain_lit _ (by decide)), cutW_cons 0 _ _ (dcL_plain a (by omega))]; try rfl
    unfold candL
    rw [h3, h2]
    simp [candF, plS, numS_dc a (by omega), cutW]
  refine ⟨⟨?_, ?_⟩, e⟩
  · rw [e]
    simp [rightB, numsB, smB, noSp]
    try omega
  · rw [e]
    unfold txX lnT
    simp [stT, axT]
theorem c_known (a : Nat) (ha : a ≤ 1048576) : okC 7 0 (wKnown ++ 32 :: dcL a) ∧ plS 7 (candL 7 0 (wKnown ++ 32 :: dcL a)) = ⟨0, (a : Int), [], [], false, 0, 0, 0⟩ := by
  have e : plS 7 (candL 7 0 (wKnown ++ 32 :: dcL a)) = ⟨0, (a : Int), [], [], false, 0, 0, 0⟩ := by
    have h3 : cutW 3 (wKnown ++ 32 :: dcL a) = [wKnown, dcL a] := by rw [cutW_cons 2 _ _ (plain_lit _ (by decide)), cutW_last 2 _ (dcL_plain a (by omega))]; try rfl
    have h2 : cutW 2 (wKnown ++ 32 :: dcL a) = [wKnown, dcL a] := by rw [cutW_cons 1 _ _ (plain_lit _ (by decide)), cutW_last 1 _ (dcL_plain a (by omega))]; try rfl
    unfold candL
    rw [h3, h2]
    simp [candF, plS, numS_dc a (by omega)]
  refine ⟨⟨?_, ?_⟩, e⟩
  · rw [e]
    simp [rightB, numsB, smB, noSp]
    try omega
  · rw [e]
    unfold txX lnT
    simp [stT, axT]
theorem c_counts (a : Nat) (ha : a ≤ 1048576) : okC 8 0 (wCounts ++ 32 :: dcL a) ∧ plS 8 (candL 8 0 (wCounts ++ 32 :: dcL a)) = ⟨0, (a : Int), [], [], false, 0, 0, 0⟩ := by
  have e : plS 8 (candL 8 0 (wCounts ++ 32 :: dcL a)) = ⟨0, (a : Int), [], [], false, 0, 0, 0⟩ := by
    have h3 : cutW 3 (wCounts ++ 32 :: dcL a) = [wCounts, dcL a] := by rw [cutW_cons 2 _ _ (plain_lit _ (by decide)), cutW_last 2 _ (dcL_plain a (by omega))]; try rfl
    have h2 : cutW 2 (wCounts ++ 32 :: dcL a) = [wCounts, dcL a] := by rw [cutW_cons 1 _ _ (plain_lit _ (by decide)), cutW_last 1 _ (dcL_plain a (by omega))]; try rfl
    unfold candL
    rw [h3, h2]
    simp [candF, plS, numS_dc a (by omega)]
  refine ⟨⟨?_, ?_⟩, e⟩
  · rw [e]
    simp [rightB, numsB, smB, noSp]
    try omega
  · rw [e]
    unfold txX lnT
    simp [stT, axT]
theorem c_net  : okC 9 0 (wNet) ∧ plS 9 (candL 9 0 (wNet)) = ⟨0, 0, [], [], false, 0, 0, 0⟩ := by
  have e : plS 9 (candL 9 0 (wNet)) = ⟨0, 0, [], [], false, 0, 0, 0⟩ := by
    have h3 : cutW 3 (wNet) = [wNet] := by rw [cutW_last 3 _ (plain_lit _ (by decide))]; try rfl
    have h2 : cutW 2 (wNet) = [wNet] := by rw [cutW_last 2 _ (plain_lit _ (by decide))]; try rfl
    unfold candL
    rw [h3, h2]
    simp [candF, plS]
  refine ⟨⟨?_, ?_⟩, e⟩
  · rw [e]
    simp [rightB, numsB, smB, noSp]
  · rw [e]
    unfold txX lnT
    simp [stT, axT]

theorem wd_plain : ∀ L : Bs, plainW (wd L)
  | [] => by intro c hc; cases hc
  | c :: r => by
    unfold wd
    split
    · intro d hd; cases hd
    · rename_i h
      intro d hd
      rcases List.mem_cons.1 hd with rfl | hd
      · exact h
      · exact wd_plain r d hd
theorem lines_shp (a : Nat) (ha : a ≤ 1048576) (k : Int) (hk : k = 1 ∨ k = 2) (L : Bs) (h : (linesS L ⟨k, (a : Int), [], [], false, 0, 0, 0⟩).2 = true) : Shp 1 (linesS L ⟨k, (a : Int), [], [], false, 0, 0, 0⟩).1 := by
  unfold linesS at h ⊢
  cases hl : nbs 1 (rs L) with
  | none => rw [hl] at h; cases h
  | some l =>
    rw [hl] at h
    have hn := nbs_le hl 0
    simp only at h ⊢
    by_cases hw : wd L = wRow ∨ wd L = wCol
    · rw [if_pos hw]
      rcases hk with rfl | rfl
      · exact Shp.s_ins a ha _ _ hn
      · exact Shp.s_del a ha _ _ hn
    · rw [if_neg hw] at h
      cases h
theorem ed_shp (a : Nat) (ha : a ≤ 1048576) (L : Bs) (h : (edS (a : Int) L).2 = true) : Shp 1 (edS (a : Int) L).1 := by
  unfold edS at h ⊢
  split at h
  · rename_i h1
    rw [if_pos h1]
    exact Shp.s_set a ha _ _ (wd_plain _)
  · rename_i h1
    rw [if_neg h1]
    split at h
    · rename_i h2
      rw [if_pos h2]
      exact lines_shp a ha 1 (.inl rfl) _ h
    · rename_i h2
      rw [if_neg h2]
      split at h
      · rename_i h3
        rw [if_pos h3]
        exact lines_shp a ha 2 (.inr rfl) _ h
      · rename_i h3
        rw [if_neg h3]
        split at h
        · rename_i h4
          rw [if_pos h4]
          exact Shp.s_sweep a ha
        · rename_i h4
          rw [if_neg h4]
          split at h
          · rename_i h5
            rw [if_pos h5]
            cases hl : nbs 1 (rs L) with
            | none => rw [hl] at h; cases h
            | some l => exact Shp.s_dig a ha _ (nbs_le hl 0)
          · rename_i h5
            rw [if_neg h5]
            split at h
            · rename_i h6
              rw [if_pos h6]
              cases hl : nbs 1 (rs L) with
              | none => rw [hl] at h; cases h
              | some l => exact Shp.s_ack a ha _ (nbs_le hl 0)
            · cases h
theorem tl_shp (F R : Bs) (h : (tlS (nmb F) R).ok = true) : Shp (tlS (nmb F) R).k (tlS (nmb F) R).s := by
  cases hn : nmb F with
  | none => rw [hn] at h; cases h
  | some m =>
    rw [hn] at h
    exact ed_shp m (nmb_le hn) R h
theorem more_shp (F R : Bs) (h : (moreS F R).ok = true) : Shp (moreS F R).k (moreS F R).s := by
  unfold moreS at h ⊢
  cases hl : nbs 1 R with
  | none =>
    rw [hl] at h
    exact tl_shp F R h
  | some l =>
    rw [hl] at h
    have hn := nbs_le hl 0
    simp only at h ⊢
    by_cases hp : 0 ≤ pkN F
    · rw [if_pos hp]
      have hpk : pkN F = 3 ∨ pkN F = 4 ∨ pkN F = 5 := by
        unfold pkN at hp ⊢
        split
        · exact .inl rfl
        · split
          · exact .inr (.inl rfl)
          · split
            · exact .inr (.inr rfl)
            · rename_i a b c
              rw [if_neg a, if_neg b, if_neg c] at hp
              omega
      rcases hpk with e | e | e
      · rw [e]; exact Shp.s_deliver _ hn
      · rw [e]; exact Shp.s_drop _ hn
      · rw [e]; exact Shp.s_twice _ hn
    · rw [if_neg hp] at h ⊢
      by_cases hk : 0 < askN F
      · rw [if_pos hk]
        have hak : askN F = 4 ∨ askN F = 7 ∨ askN F = 8 := by
          unfold askN at hk ⊢
          split
          · exact .inl rfl
          · split
            · exact .inr (.inl rfl)
            · split
              · exact .inr (.inr rfl)
              · rename_i a b c
                rw [if_neg a, if_neg b, if_neg c] at hk
                omega
        rcases hak with e | e | e
        · rw [e]; exact Shp.s_view _ hn
        · rw [e]; exact Shp.s_known _ hn
        · rw [e]; exact Shp.s_counts _ hn
      · rw [if_neg hk] at h ⊢
        exact tl_shp F R h
theorem sp_shp (R : Bs) (h : (spS (nbs 3 R)).ok = true) : Shp (spS (nbs 3 R)).k (spS (nbs 3 R)).s := by
  cases hl : nbs 3 R with
  | none => rw [hl] at h; cases h
  | some l =>
    rw [hl] at h
    unfold spS at h ⊢
    simp only at h ⊢
    split at h
    · cases h
    · rename_i h2
      rw [if_neg h2]
      exact Shp.s_spoil _ _ _ (nbs_le hl 0) (nbs_le hl 1) (by omega)
theorem read_shp (L : Bs) (h : (readS L).ok = true) : Shp (readS L).k (readS L).s := by
  unfold readS readF at h ⊢
  split at h
  · rename_i h1; rw [if_pos h1]; exact Shp.s_pull
  · rename_i h1
    rw [if_neg h1]
    split at h
    · rename_i h2; rw [if_pos h2]; exact Shp.s_settle
    · rename_i h2
      rw [if_neg h2]
      split at h
      · rename_i h3; rw [if_pos h3]; exact Shp.s_net
      · rename_i h3
        rw [if_neg h3]
        split at h
        · rename_i h4; rw [if_pos h4]; exact sp_shp _ h
        · rename_i h4
          rw [if_neg h4]
          split at h
          · rename_i h5
            rw [if_pos h5]
            cases hl : nbs 1 (wd (rs L)) with
            | none => rw [hl] at h; cases h
            | some l => exact Shp.s_cell _ (nbs_le hl 0) _
          · rename_i h5
            rw [if_neg h5]
            split at h
            · rename_i h6
              rw [if_pos h6]
              cases hl : nbs 1 (wd (rs L)) with
              | none => rw [hl] at h; cases h
              | some l => exact Shp.s_typed _ (nbs_le hl 0) _
            · rename_i h6
              rw [if_neg h6]
              exact more_shp _ _ h
theorem shp_cand {kk : Int} {y : Stp} (h : Shp kk y) : okC kk y.k (txX kk y) ∧ plS kk (candL kk y.k (txX kk y)) = y ∧ (1 ≤ kk ∧ kk ≤ 9) ∧ (0 ≤ y.k ∧ y.k ≤ 9) := by
  cases h
  case s_set a ha C X hC =>
    have e : txX 1 ⟨0, (a : Int), C, X, false, 0, 0, 0⟩ = dcL a ++ 32 :: (wSet ++ 32 :: (C ++ 32 :: X)) := by
      unfold txX lnT
      simp [stT, axT]
      try rfl
    obtain ⟨h1, h2⟩ := c_set a ha C X hC
    rw [e]
    exact ⟨h1, h2, by simp, by simp⟩
  case s_ins a ha o n hn =>
    have e : txX 1 ⟨1, (a : Int), [], [], o, (n : Int), 0, 0⟩ = dcL a ++ 32 :: (wInsert ++ 32 :: ((if o then wCol else wRow) ++ 32 :: dcL n)) := by
      unfold txX lnT
      simp [stT, axT]
      try (cases o <;> simp)
    obtain ⟨h1, h2⟩ := c_ins a ha o n hn
    rw [e]
    exact ⟨h1, h2, by simp, by simp⟩
  case s_del a ha o n hn =>
    have e : txX 1 ⟨2, (a : Int), [], [], o, (n : Int), 0, 0⟩ = dcL a ++ 32 :: (wDelete ++ 32 :: ((if o then wCol else wRow) ++ 32 :: dcL n)) := by
      unfold txX lnT
      simp [stT, axT]
      try (cases o <;> simp)
    obtain ⟨h1, h2⟩ := c_del a ha o n hn
    rw [e]
    exact ⟨h1, h2, by simp, by simp⟩
  case s_deliver n hn =>
    have e : txX 1 ⟨3, 0, [], [], false, (n : Int), 0, 0⟩ = wDeliver ++ 32 :: dcL n := by
      unfold txX lnT
      simp [stT, axT]
      try rfl
    obtain ⟨h1, h2⟩ := c_deliver n hn
    rw [e]
    exact ⟨h1, h2, by simp, by simp⟩
  case s_drop n hn =>
    have e : txX 1 ⟨4, 0, [], [], false, (n : Int), 0, 0⟩ = wDrop ++ 32 :: dcL n := by
      unfold txX lnT
      simp [stT, axT]
      try rfl
    obtain ⟨h1, h2⟩ := c_drop n hn
    rw [e]
    exact ⟨h1, h2, by simp, by simp⟩
  case s_twice n hn =>
    have e : txX 1 ⟨5, 0, [], [], false, (n : Int), 0, 0⟩ = wTwice ++ 32 :: dcL n := by
      unfold txX lnT
      simp [stT, axT]
      try rfl
    obtain ⟨h1, h2⟩ := c_twice n hn
    rw [e]
    exact ⟨h1, h2, by simp, by simp⟩
  case s_spoil n t b hn ht hb =>
    have e : txX 1 ⟨6, 0, [], [], false, (n : Int), (t : Int), (b : Int)⟩ = wSpoil ++ 32 :: (dcL n ++ 32 :: (dcL t ++ 32 :: dcL b)) := by
      unfold txX lnT
      simp [stT, axT]
      try rfl
    obtain ⟨h1, h2⟩ := c_spoil n t b hn ht hb
    rw [e]
    exact ⟨h1, h2, by simp, by simp⟩
  case s_dig a ha t ht =>
    have e : txX 1 ⟨7, (a : Int), [], [], false, 0, (t : Int), 0⟩ = dcL a ++ 32 :: (wDigest ++ 32 :: dcL t) := by
      unfold txX lnT
      simp [stT, axT]
      try rfl
    obtain ⟨h1, h2⟩ := c_dig a ha t ht
    rw [e]
    exact ⟨h1, h2, by simp, by simp⟩
  case s_ack a ha t ht =>
    have e : txX 1 ⟨8, (a : Int), [], [], false, 0, (t : Int), 0⟩ = dcL a ++ 32 :: (wAck ++ 32 :: dcL t) := by
      unfold txX lnT
      simp [stT, axT]
      try rfl
    obtain ⟨h1, h2⟩ := c_ack a ha t ht
    rw [e]
    exact ⟨h1, h2, by simp, by simp⟩
  case s_sweep a ha =>
    have e : txX 1 ⟨9, (a : Int), [], [], false, 0, 0, 0⟩ = dcL a ++ 32 :: wSweep := by
      unfold txX lnT
      simp [stT, axT]
      try rfl
    obtain ⟨h1, h2⟩ := c_sweep a ha
    rw [e]
    exact ⟨h1, h2, by simp, by simp⟩
  case s_pull  =>
    have e : txX 2 ⟨0, 0, [], [], false, 0, 0, 0⟩ = wPull := by
      unfold txX lnT
      simp [stT, axT]
      try rfl
    obtain ⟨h1, h2⟩ := c_pull 
    rw [e]
    exact ⟨h1, h2, by simp, by simp⟩
  case s_settle  =>
    have e : txX 3 ⟨0, 0, [], [], false, 0, 0, 0⟩ = wSettle := by
      unfold txX lnT
      simp [stT, axT]
      try rfl
    obtain ⟨h1, h2⟩ := c_settle 
    rw [e]
    exact ⟨h1, h2, by simp, by simp⟩
  case s_view a ha =>
    have e : txX 4 ⟨0, (a : Int), [], [], false, 0, 0, 0⟩ = wView ++ 32 :: dcL a := by
      unfold txX lnT
      simp [stT, axT]
      try rfl
    obtain ⟨h1, h2⟩ := c_view a ha
    rw [e]
    exact ⟨h1, h2, by simp, by simp⟩
  case s_cell a ha C =>
    have e : txX 5 ⟨0, (a : Int), C, [], false, 0, 0, 0⟩ = wCell ++ 32 :: (dcL a ++ 32 :: C) := by
      unfold txX lnT
      simp [stT, axT]
      try rfl
    obtain ⟨h1, h2⟩ := c_cell a ha C
    rw [e]
    exact ⟨h1, h2, by simp, by simp⟩
  case s_typed a ha C =>
    have e : txX 6 ⟨0, (a : Int), C, [], false, 0, 0, 0⟩ = wTyped ++ 32 :: (dcL a ++ 32 :: C) := by
      unfold txX lnT
      simp [stT, axT]
      try rfl
    obtain ⟨h1, h2⟩ := c_typed a ha C
    rw [e]
    exact ⟨h1, h2, by simp, by simp⟩
  case s_known a ha =>
    have e : txX 7 ⟨0, (a : Int), [], [], false, 0, 0, 0⟩ = wKnown ++ 32 :: dcL a := by
      unfold txX lnT
      simp [stT, axT]
      try rfl
    obtain ⟨h1, h2⟩ := c_known a ha
    rw [e]
    exact ⟨h1, h2, by simp, by simp⟩
  case s_counts a ha =>
    have e : txX 8 ⟨0, (a : Int), [], [], false, 0, 0, 0⟩ = wCounts ++ 32 :: dcL a := by
      unfold txX lnT
      simp [stT, axT]
      try rfl
    obtain ⟨h1, h2⟩ := c_counts a ha
    rw [e]
    exact ⟨h1, h2, by simp, by simp⟩
  case s_net  =>
    have e : txX 9 ⟨0, 0, [], [], false, 0, 0, 0⟩ = wNet := by
      unfold txX lnT
      simp [stT, axT]
      try rfl
    obtain ⟨h1, h2⟩ := c_net 
    rw [e]
    exact ⟨h1, h2, by simp, by simp⟩
/-- What is read is a candidate. -/
theorem read_cand (L : Bs) (h : (parseS L).ok = true) : okC (parseS L).k (parseS L).s.k L ∧ (1 ≤ (parseS L).k ∧ (parseS L).k ≤ 9) ∧ (0 ≤ (parseS L).s.k ∧ (parseS L).s.k ≤ 9) := by
  unfold parseS at h ⊢
  split at h
  · rename_i hp
    rw [if_pos hp]
    have := shp_cand (read_shp L hp.1)
    rw [hp.2] at this
    exact ⟨this.1, this.2.2⟩
  · cases h
end Go.Proofs.YtddoghjopihkpaaDoor
