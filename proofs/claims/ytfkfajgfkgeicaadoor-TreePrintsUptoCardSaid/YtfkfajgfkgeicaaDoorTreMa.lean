/- Trees: as texts: plain part. Trees: how tightly a node holds. Trees: the document's Digits; the names that the law gives. Printed by gen_tret.py. Trees: token.Quote. Printed by gen_treu.py. Trees: write at any tree. Trees: write at numbers and texts. Printed by gen_trev.py. -/
import Derived.Test.YtfkfajgfkgeicaaDoorTreP
import Derived.Test.YtfkfajgfkgeicaaDoorDecE
import Derived.Lib.Replace
import Derived.Lib.ReplaceLaws
set_option linter.unusedSimpArgs false
set_option linter.unusedVariables false
namespace Go.Proofs.YtfkfajgfkgeicaaDoor
section
open Go.RowKit Go.Joins

def dblT : Bs → Bs
  | [] => []
  | c :: r => if c = 34 then 34 :: 34 :: dblT r else c :: dblT r
theorem dblT_len : ∀ l : Bs, (dblT l).length ≤ 2 * l.length
  | [] => by simp [dblT]
  | c :: r => by
    have := dblT_len r
    unfold dblT
    split <;> simp <;> omega
def quoT (l : Bs) : Bs := 34 :: (dblT l ++ [34])
/-- How tightly a node holds. -/
def hdS (k : Int) (t : Bs) : Int := if k = 6 then lvS t else if k = 5 then 5 else 6
def refBs : Bs := [35, 82, 69, 70, 33]
mutual
/-- A tree as a text: references by their names, with brackets where a part holds less tightly than must be. -/
def prN (nm : Int → Bs) : Nd → Int → Bs
  | .mk k u t f o a, least =>
    if hdS k t < least then 40 :: (prB nm k u t f o (prAt nm a 0 5) (prAt nm a 0 (lvS t)) (prAt nm a 1 (lvS t + 1)) (prT nm a) ++ [41])
    else prB nm k u t f o (prAt nm a 0 5) (prAt nm a 0 (lvS t)) (prAt nm a 1 (lvS t + 1)) (prT nm a)
def prAt (nm : Int → Bs) : List Nd → Nat → Int → Bs
  | [], _, _ => []
  | c :: r, i, l => if i = 0 then prN nm c l else prAt nm r (i - 1) l
def prT (nm : Int → Bs) : List Nd → Bs
  | [] => []
  | c :: r => 44 :: (prN nm c 1 ++ prT nm r)
/-- What stands within the brackets. -/
def prB (nm : Int → Bs) (k u : Int) (t : Bs) (f o : Int) (m5 l6 r6 al : Bs) : Bs :=
  if k = 1 then txt u else if k = 2 then quoT t else if k = 3 then nm f else if k = 4 then nm f ++ 58 :: nm o
  else if k = 5 then 45 :: m5 else if k = 6 then l6 ++ t ++ r6 else if k = 7 then t ++ 40 :: (al.drop 1 ++ [41]) else refBs
end
mutual
def wtN : Nd → Nat
  | .mk _ _ t _ _ a => 400 + 2 * t.length + wtL a
def wtL : List Nd → Nat
  | [] => 0
  | c :: r => wtN c + 1 + wtL r
end
theorem prB_len {nm : Int → Bs} (hn : ∀ k, (nm k).length ≤ 20) (k u : Int) (ht : (txt u).length ≤ 300) (t : Bs) (f o : Int) (m5 l6 r6 al : Bs) (W : Nat) (h5 : m5.length ≤ W) (h6 : l6.length + r6.length ≤ W) (h7 : al.length ≤ W) :
    (prB nm k u t f o m5 l6 r6 al).length ≤ 310 + 2 * t.length + W := by
  have h1 := hn f
  have h2 := hn o
  have h4 := dblT_len t
  unfold prB quoT refBs
  repeat' split
  all_goals first | (simp; omega) | (simp at *; omega)
theorem wtL_mem {a : List Nd} {c : Nd} (h : c ∈ a) : wtN c < wtL a := by
  induction a with
  | nil => cases h
  | cons x r ih =>
    rw [wtL]
    rcases List.mem_cons.1 h with rfl | h
    · omega
    · have := ih h
      omega
mutual
theorem prN_len {nm : Int → Bs} (hn : ∀ k, (nm k).length ≤ 20) (ht : ∀ u, -9223372036854775808 ≤ u → u ≤ 9223372036854775807 → (txt u).length ≤ 300) : ∀ (n : Nd), OkN n → ∀ least, (prN nm n least).length ≤ wtN n
  | .mk k u t f o a, h, least => by
    have ha : ∀ c ∈ a, OkN c := fun c hc => h.child hc
    have h0 := ht u h.num.1 h.num.2
    have hB := prB_len hn k u h0 t f o (prAt nm a 0 5) (prAt nm a 0 (lvS t)) (prAt nm a 1 (lvS t + 1)) (prT nm a) (wtL a) (prAt_len hn ht a ha 0 5) (prAt2_len hn ht a ha _ _) (prT_len hn ht a ha)
    rw [prN, wtN]
    split
    · simp; omega
    · omega
theorem prAt_len {nm : Int → Bs} (hn : ∀ k, (nm k).length ≤ 20) (ht : ∀ u, -9223372036854775808 ≤ u → u ≤ 9223372036854775807 → (txt u).length ≤ 300) : ∀ (a : List Nd), (∀ c ∈ a, OkN c) → ∀ i l, (prAt nm a i l).length ≤ wtL a
  | [], _, i, l => by rw [prAt]; simp
  | c :: r, h, i, l => by
    rw [prAt, wtL]
    split
    · have := prN_len hn ht c (h c (by simp)) l
      omega
    · have := prAt_len hn ht r (fun x hx => h x (by simp [hx])) (i - 1) l
      omega
theorem prAt2_len {nm : Int → Bs} (hn : ∀ k, (nm k).length ≤ 20) (ht : ∀ u, -9223372036854775808 ≤ u → u ≤ 9223372036854775807 → (txt u).length ≤ 300) : ∀ (a : List Nd), (∀ c ∈ a, OkN c) → ∀ l l', (prAt nm a 0 l).length + (prAt nm a 1 l').length ≤ wtL a
  | [], _, l, l' => by rw [prAt, prAt]; simp
  | c :: r, h, l, l' => by
    rw [prAt, prAt, wtL, if_pos rfl, if_neg (by omega)]
    have h1 := prN_len hn ht c (h c (by simp)) l
    have h2 := prAt_len hn ht r (fun x hx => h x (by simp [hx])) (1 - 1) l'
    omega
theorem prT_len {nm : Int → Bs} (hn : ∀ k, (nm k).length ≤ 20) (ht : ∀ u, -9223372036854775808 ≤ u → u ≤ 9223372036854775807 → (txt u).length ≤ 300) : ∀ (a : List Nd), (∀ c ∈ a, OkN c) → (prT nm a).length ≤ wtL a
  | [], _ => by rw [prT]; simp
  | c :: r, h => by
    rw [prT, wtL]
    have h1 := prN_len hn ht c (h c (by simp)) 1
    have h2 := prT_len hn ht r (fun x hx => h x (by simp [hx]))
    simp
    omega
end
mutual
/-- What 'named' makes of a tree. -/
def nmN (nm : Int → Bs) : Nd → Nd
  | .mk k u t f o a => .mk k u (if k = 3 then nm f else if k = 4 then nm f ++ 58 :: nm o else t) 0 0 (nmL nm a)
def nmL (nm : Int → Bs) : List Nd → List Nd
  | [] => []
  | c :: r => nmN nm c :: nmL nm r
end
end
section
open Go.RowKit Go.Joins

set_option maxRecDepth 100000 in
set_option maxHeartbeats 2000000 in
theorem strengthN (n : Nd) (p : Option Addr) (len cap : Nat) (w : World) : Calls Tryd.prog 37 #[.agg (ndA n p len cap)] w fun e w' => e = .returned (.int .i64 (hdS n.kind n.text)) ∧ Below w.heap.size w w' := by
  have hA0 : Hid (NdB tPn (w.alloc (.cells (ndA n p len cap) tPn)) w.heap.size n p len cap) := heap_alloc_new w _
  have hAB : Hid (Below w.heap.size w (w.alloc (.cells (ndA n p len cap) tPn))) := by unfold Hid; (repeat' (first | (with_reducible exact Below.refl _ _) | (with_reducible assumption) | (with_reducible refine Below.alloc ?_ ?_ _) | (with_reducible refine bel_drewN ?_ _) | (with_reducible refine Below.drew ?_) | (with_reducible refine Below.setCell ?_ ?_ _) | (with_reducible refine bel_call ‹_› ?_ ?_) | go_size))
  have HLV := Lib.hid (fun W => level_any ⟨n.text.toArray⟩ W)
  rw [show (⟨n.text.toArray⟩ : ByteArray).data.toList = n.text from rfl] at HLV
  obtain ⟨O, hO⟩ : ∃ O, hdS n.kind n.text = O := ⟨_, rfl⟩
  have HO : Hid (O = if n.kind = 6 then lvS n.text else if n.kind = 5 then 5 else 6) := by unfold Hid; rw [← hO]; rfl
  rw [hO]
  clear hO
  generalize lvS n.text = lv at HLV HO
  rw [ndA_eq]
  go_enter Tryd.func37, Tryd.ntmps37
  go_upto_region 1 with fail
  have e0 : w.alloc (.cells #[.int .i64 n.kind, .int .i64 n.num, .string ⟨n.text.toArray⟩, .int .i64 n.frm, .int .i64 n.tor, .slice p len cap] tPn) = w.alloc (.cells (ndA n p len cap) tPn) := rfl
  rw [e0]
  clear e0
  generalize w.alloc (.cells (ndA n p len cap) tPn) = w0 at hA0 hAB ⊢
  obtain ⟨c0, c1, c2, c3, c4, c5⟩ := hA0.out.cells
  by_cases h6 : n.kind = 6
  · rw [h6] at c0
    go_wp2_with fail
    refine (HLV.out _).mono ?_
    rintro e w3 ⟨rfl, hb3⟩
    have hB3 := bel_call hb3 hAB.out hAB.out.size
    go_wp2_with fail
    go_ret
    exact ⟨by rw [HO.out, if_pos h6]; rfl, hB3⟩
  · by_cases h5 : n.kind = 5
    · rw [h5] at c0
      go_wp2_with fail
      go_ret
      exact ⟨by rw [HO.out, if_neg h6, if_pos h5]; rfl, hAB.out⟩
    · go_wp2_with fail
      go_ret
      exact ⟨by rw [HO.out, if_neg h6, if_neg h5]; rfl, hAB.out⟩
end
section
open Go.RowKit

/-- A digit's letter. -/
def chr (d : Nat) : UInt8 := UInt8.ofNat (48 + d)
def dcF : Nat → Nat → List UInt8
  | 0, n => [chr n]
  | f + 1, n => if n < 10 then [chr n] else dcF f (n / 10) ++ [chr (n % 10)]
/-- A number's decimal letters. -/
def dcL (n : Nat) : List UInt8 := dcF 15 n
theorem dcF_len : ∀ f n, (dcF f n).length ≤ f + 1
  | 0, n => by simp [dcF]
  | f + 1, n => by
    rw [dcF]
    split
    · simp
    · have := dcF_len f (n / 10)
      simp
      omega

theorem chr_conv (n b : Nat) (W : World) (h : W.cell? ⟨b, 0, none⟩ = some (.int .u8 (48 + (n : Int)))) : (convert 50 9 (.slice (some ⟨b, 0, none⟩) 1 1)).run Tryd.prog W = .ok (.string ⟨[chr n].toArray⟩) W := by
  have hcv := run_convert_bytes_arg (P := Tryd.prog) W 50 5 Tryd.underlying50 Tryd.underlying5 b 0 1 1 [48 + (n : Int)] rfl (fun i hi => by
    obtain rfl : i = 0 := by omega
    exact h) 9 Tryd.underlying9
  rw [show strOfNums [48 + (n : Int)] = ⟨[chr n].toArray⟩ from rfl] at hcv
  exact hcv

theorem dcL_len (n : Nat) : (dcL n).length ≤ 16 := dcF_len 15 n

/-- A number's letters, with its sign. -/
def sgL (n : Int) : List UInt8 := (if n < 0 then [45] else []) ++ dcL n.natAbs
theorem sgL_len (n : Int) : (sgL n).length ≤ 17 := by
  have := dcL_len n.natAbs
  unfold sgL
  split <;> simp <;> omega
theorem dcF_any : ∀ (f g n : Nat), n < 10 ^ (f + 1) → n < 10 ^ (g + 1) → dcF f n = dcF g n
  | 0, 0, n, _, _ => rfl
  | 0, g + 1, n, h, _ => by
    rw [dcF, dcF, if_pos (by omega)]
  | f + 1, 0, n, _, h => by
    rw [dcF, dcF, if_pos (by omega)]
  | f + 1, g + 1, n, hf, hg => by
    rw [dcF, dcF]
    by_cases h : n < 10
    · rw [if_pos h, if_pos h]
    · rw [if_neg h, if_neg h, dcF_any f g (n / 10) (by rw [Nat.pow_succ] at hf; omega) (by rw [Nat.pow_succ] at hg; omega)]
theorem dcL_small {n : Nat} (h : n < 10) : dcL n = [chr n] := by
  unfold dcL
  rw [dcF, if_pos h]
theorem dcL_step {n : Nat} (h : ¬ n < 10) (h2 : n ≤ 100000000000000) : dcL n = dcL (n / 10) ++ [chr (n % 10)] := by
  have e : dcL n = dcF 14 (n / 10) ++ [chr (n % 10)] := by
    unfold dcL
    rw [dcF, if_neg h]
  rw [e]
  unfold dcL
  rw [dcF_any 14 15 (n / 10) (Nat.lt_of_le_of_lt (Nat.div_le_self _ _) (Nat.lt_of_le_of_lt h2 (by decide))) (Nat.lt_of_le_of_lt (Nat.div_le_self _ _) (Nat.lt_of_le_of_lt h2 (by decide)))]
/-- What is left of a number, and the letters that stand. -/
def dgR (a : Nat) (s : List UInt8) : List UInt8 := (if a = 0 ∧ s ≠ [] then [] else dcL a) ++ s
theorem dgR_step {a : Nat} {s : List UInt8} (h : ¬ (a = 0 ∧ s ≠ [])) (h2 : a ≤ 100000000000000) : dgR a s = dgR (a / 10) (chr (a % 10) :: s) := by
  unfold dgR
  rw [if_neg h]
  by_cases ha : a < 10
  · rw [if_pos ⟨by omega, by simp⟩, dcL_small ha, show a % 10 = a from by omega]
    rfl
  · rw [if_neg (by omega), dcL_step ha h2]
    simp

set_option maxRecDepth 100000 in
set_option maxHeartbeats 2000000 in
theorem ref2Digits_any (n : Int) (h1 : -10000000 ≤ n) (h2 : n ≤ 10000000) (w : World) : Calls Tryd.prog 26 #[.int .i64 n] w fun e w' => e = .returned (.string ⟨(sgL n).toArray⟩) ∧ Below w.heap.size w w' := by
  obtain ⟨T, hT⟩ : ∃ T, dcL n.natAbs = T := ⟨_, rfl⟩
  have hTl : T.length ≤ 16 := by rw [← hT]; exact dcL_len _
  have HR : Hid (sgL n = (if n < 0 then [45] else []) ++ T) := by unfold Hid; rw [← hT]; rfl
  obtain ⟨R, hR⟩ : ∃ R, sgL n = R := ⟨_, rfl⟩
  rw [hR] at HR ⊢
  have HT := Lib.hid hT
  clear hT hR
  go_enter Tryd.func26, Tryd.ntmps26
  go_wp2_with fail
  go_loopg [3, 4, 5] (2 * n.natAbs + 1) (fun g v3 v4 v5 wr => Below w.heap.size w wr ∧ ∃ (k : Int) (L : List UInt8), k.natAbs ≤ 10000000 ∧ g = 2 * k.natAbs + (if L = [] then 1 else 0) ∧ v4 = .int .i64 k ∧ v3 = .string ⟨L.toArray⟩ ∧ dgR k.natAbs L = T)
  case atStart => exact ⟨Below.refl _ _, n, [], by omega, by simp, rfl, rfl, by rw [← HT.out]; simp [dgR]⟩
  case round =>
    obtain ⟨hbel, k, L, hk, hg, rfl, rfl, hs⟩ := hrel
    have HS := Lib.hid hs
    have hss := hbel.size
    have hLl : L.length ≤ 16 := by
      have : (dgR k.natAbs L).length ≤ 16 := by rw [hs]; exact hTl
      unfold dgR at this
      simp at this
      omega
    have hsz : (⟨L.toArray⟩ : ByteArray).size ≤ 16 := by rw [Lib.size_eq]; simpa using hLl
    have hse : (⟨L.toArray⟩ : ByteArray).toList = L := by rw [Lib.toList_data]
    clear hs
    by_cases hgo : k = 0 ∧ L ≠ []
    · obtain ⟨rfl, hL⟩ := hgo
      have e1 : L.isEmpty = false := by cases L <;> simp_all
      have e2 : (L == []) = false := by cases L <;> simp_all
      have hLT : L = T := by
        have := HS.out
        unfold dgR at this
        rw [if_pos ⟨rfl, hL⟩] at this
        exact this
      subst hLT
      have hz1 : (⟨#[45]⟩ : ByteArray).size = 1 := rfl
      have hcat : (⟨#[45]⟩ : ByteArray) ++ ⟨L.toArray⟩ = ⟨([45] ++ L).toArray⟩ := cat2 [45] L
      by_cases hn : n < 0
      · have hRR : R = [45] ++ L := by rw [HR.out, if_pos hn]
        have HRR := Lib.hid hRR
        clear hRR
        go_wp2_with fail
        go_ret
        exact ⟨by rw [HRR.out]; first | rfl | exact congrArg (fun s => Ending.returned (Value.string s)) (cat2 _ _), hbel⟩
      · have hRR : R = L := by rw [HR.out, if_neg hn]; rfl
        have HRR := Lib.hid hRR
        clear hRR
        go_wp2_with fail
        go_ret
        exact ⟨by rw [HRR.out]; rfl, hbel⟩
    · obtain ⟨m, hm⟩ : ∃ m, k.natAbs = m := ⟨_, rfl⟩
      obtain ⟨d, hd⟩ : ∃ d, m % 10 = d := ⟨_, rfl⟩
      obtain ⟨q, hq⟩ : ∃ q, m / 10 = q := ⟨_, rfl⟩
      have hstep : Hid (dgR q (chr d :: L) = T) := by
        unfold Hid
        rw [← HS.out, hm, dgR_step (a := m) (s := L) (fun h => hgo ⟨by omega, h.2⟩) (by omega), hd, hq]
      have hcat : (⟨[chr d].toArray⟩ : ByteArray) ++ ⟨L.toArray⟩ = ⟨(chr d :: L).toArray⟩ := cat2 [chr d] L
      have hcv := chr_conv d
      have hz2 : (⟨[chr d].toArray⟩ : ByteArray).size = 1 := rfl
      have hd10 : d < 10 := by omega
      have hq10 : q ≤ 10000000 := by omega
      have f3 : IntKind.i64.wrap (48 + (d : Int)) = 48 + (d : Int) := IntWalk.i64_in _ (by omega)
      have f4 : IntKind.u8.wrap (48 + (d : Int)) = 48 + (d : Int) := IntWalk.u8_in _ (by omega)
      have hmeas : Hid (2 * q + (if chr d :: L = [] then 1 else 0) < gk) := by
        unfold Hid
        rw [hg, if_neg (by simp)]
        by_cases hL : L = []
        · rw [if_pos hL]
          omega
        · rw [if_neg hL]
          have : k ≠ 0 := fun h => hgo ⟨h, hL⟩
          omega
      rcases Int.lt_or_le k 0 with hneg | hpos
      · have hk1 : k = -(m : Int) := by omega
        subst hk1
        have g1 : (-(m : Int)).tmod 10 = -(d : Int) := by rw [Int.neg_tmod, Int.tmod_eq_emod_of_nonneg (by omega)]; omega
        have g2 : (-(m : Int)).tdiv 10 = -(q : Int) := by rw [Int.neg_tdiv, Int.tdiv_eq_ediv_of_nonneg (by omega)]; omega
        have g3 : IntKind.i64.wrap (-(q : Int)) = -(q : Int) := IntWalk.i64_in _ (by omega)
        have g4 : (-(m : Int) == 0) = false := by simp; omega
        by_cases hd0 : d = 0
        · subst hd0
          clear hd hq hg hm
          go_wp2
          go_roundg (2 * q + (if chr 0 :: L = [] then 1 else 0))
          case measure => exact hmeas.out
          case rel => exact ⟨Below.alloc hbel (by omega) _, -(q : Int), chr 0 :: L, by omega, by rw [Int.natAbs_neg, Int.natAbs_natCast], by go_num, rfl, by rw [Int.natAbs_neg, Int.natAbs_natCast]; exact hstep.out⟩
        · have g5 : IntKind.i64.wrap (0 - (-(d : Int))) = (d : Int) := by rw [show (0 - (-(d : Int))) = (d : Int) from by omega]; exact IntWalk.i64_in _ (by omega)
          clear hd hq hg hm
          go_wp2
          go_roundg (2 * q + (if chr d :: L = [] then 1 else 0))
          case measure => exact hmeas.out
          case rel => exact ⟨Below.alloc hbel (by omega) _, -(q : Int), chr d :: L, by omega, by rw [Int.natAbs_neg, Int.natAbs_natCast], by go_num, rfl, by rw [Int.natAbs_neg, Int.natAbs_natCast]; exact hstep.out⟩
      · obtain rfl : k = (m : Int) := by omega
        have g1 : (m : Int).tmod 10 = (d : Int) := by rw [Int.tmod_eq_emod_of_nonneg (by omega)]; omega
        have g2 : (m : Int).tdiv 10 = (q : Int) := by rw [Int.tdiv_eq_ediv_of_nonneg (by omega)]; omega
        have g3 : IntKind.i64.wrap (q : Int) = (q : Int) := IntWalk.i64_in _ (by omega)
        by_cases hm0 : m = 0
        · have hL : L = [] := Classical.byContradiction fun h => hgo ⟨by omega, h⟩
          subst hL
          subst hm0
          obtain rfl : d = 0 := by omega
          obtain rfl : q = 0 := by omega
          clear hd hq hg hm
          go_wp2
          go_roundg (2 * 0 + (if chr 0 :: [] = [] then 1 else 0))
          case measure => exact hmeas.out
          case rel => exact ⟨Below.alloc hbel (by omega) _, 0, [chr 0], by omega, by simp, by go_num, rfl, hstep.out⟩
        · have g4 : ((m : Int) == 0) = false := by simp; omega
          have e2 : (m : Int) / 10 = (q : Int) := by omega
          clear hd hq hg hm
          go_wp2
          go_roundg (2 * q + (if chr d :: L = [] then 1 else 0))
          case measure => exact hmeas.out
          case rel => exact ⟨Below.alloc hbel (by omega) _, q, chr d :: L, by omega, by omega, by go_num, rfl, hstep.out⟩
/-- A reference's name. -/
def nmS (k : Int) : Bs := 82 :: sgL (Int.tmod k 1000)
theorem nmS_len (k : Int) : (nmS k).length ≤ 20 := by
  have := sgL_len (Int.tmod k 1000)
  unfold nmS
  simp
  omega
set_option maxRecDepth 100000 in
set_option maxHeartbeats 1000000 in
theorem name_law (k : Int) (w : World) : Calls Tryd.prog 17 #[.int .i64 k] w fun e w' => e = .returned (.string ⟨(nmS k).toArray⟩) ∧ Below w.heap.size w w' := by
  have h1 : -999 ≤ Int.tmod k 1000 ∧ Int.tmod k 1000 ≤ 999 := by
    have a := Int.tmod_lt_of_pos k (show (0 : Int) < 1000 by omega)
    have b := Int.lt_tmod_of_pos k (show (0 : Int) < 1000 by omega)
    omega
  have HD := Lib.hid (fun W => ref2Digits_any (Int.tmod k 1000) (by omega) (by omega) W)
  have hl := sgL_len (Int.tmod k 1000)
  have hcat : (⟨#[82]⟩ : ByteArray) ++ ⟨(sgL (Int.tmod k 1000)).toArray⟩ = ⟨(nmS k).toArray⟩ := cat2 [82] _
  have hz1 : (⟨#[82]⟩ : ByteArray).size = 1 := rfl
  have hz2 : (⟨(sgL (Int.tmod k 1000)).toArray⟩ : ByteArray).size ≤ 17 := by rw [Lib.size_eq]; simpa using hl
  generalize sgL (Int.tmod k 1000) = X at HD hcat hz2
  generalize nmS k = R at hcat ⊢
  have f1 : IntKind.i64.wrap (Int.tmod k 1000) = Int.tmod k 1000 := IntWalk.i64_in _ (by omega)
  go_enter Tryd.func17, Tryd.ntmps17
  go_wp2_with fail
  refine (HD.out _).mono ?_
  rintro e w1 ⟨rfl, hb⟩
  go_wp2_with fail
  go_ret
  exact ⟨by first | rfl | (rw [← hcat]; rfl), hb⟩
end
section
open Go.RowKit

theorem rk_other (new : List UInt8) (b : UInt8) (hb : b ≠ 34) (l : List UInt8) : ∀ k, Lib.replaceK [34] new k (b :: l) = b :: Lib.replaceK [34] new k l := by
  intro k
  cases k with
  | zero => rfl
  | succ k =>
    have hp : List.isPrefixOf [(34 : UInt8)] (b :: l) = false := by
      simp [List.isPrefixOf]
      intro e
      exact hb e.symm
    have hi : Lib.index (b :: l) [34] = if Lib.index l [34] == -1 then -1 else Lib.index l [34] + 1 := by
      conv => lhs; unfold Lib.index
      rw [hp]
      rfl
    have hge := Lib.index_ge l [34]
    by_cases h : (Lib.index l [34] == -1) = true
    · rw [Lib.replaceK, Lib.replaceK, hi, if_pos h, if_pos h]
      rfl
    · have h2 : ¬ ((Lib.index l [34] + 1) == -1) = true := by
        intro e
        have := beq_iff_eq.1 e
        omega
      rw [Lib.replaceK, Lib.replaceK, hi, if_neg h, if_neg h2, if_neg h]
      obtain ⟨n, hn⟩ : ∃ n : Nat, Lib.index l [34] = (n : Int) := by
        have : Lib.index l [34] ≠ -1 := fun e => h (by rw [e]; rfl)
        exact ⟨(Lib.index l [34]).toNat, by omega⟩
      rw [hn, show ((n : Int) + 1).toNat = n + 1 by omega, show ((n : Int)).toNat = n by omega]
      simp
theorem rk_hit (new : List UInt8) (l : List UInt8) (k : Nat) : Lib.replaceK [34] new (k + 1) (34 :: l) = new ++ Lib.replaceK [34] new k l := by
  have hi : Lib.index (34 :: l) [34] = ((0 : Nat) : Int) := by unfold Lib.index; simp [List.isPrefixOf]
  rw [Lib.replaceK_hit [34] new k (34 :: l) 0 hi]
  simp
theorem rk_dblT : ∀ l : List UInt8, Lib.replaceK [34] [34, 34] (l.count 34) l = dblT l
  | [] => rfl
  | c :: r => by
    by_cases h : c = 34
    · subst h
      rw [List.count_cons_self, rk_hit, rk_dblT r]
      simp [dblT]
    · rw [List.count_cons_of_ne h, rk_other _ c h, rk_dblT r]
      simp [dblT, h]
theorem replaceAll_dblT (l : List UInt8) : Lib.replaceAll l [34] [34, 34] = dblT l := by
  unfold Lib.replaceAll Lib.replace Lib.replaceNum
  rw [if_neg (by decide), if_pos (.inl (by omega)), Lib.count_one]
  exact rk_dblT l

theorem countB_one (s : ByteArray) : Lib.countB s ⟨#[34]⟩ ≤ s.size := by
  have := Lib.countB_mul_le ⟨#[34]⟩ (by decide) s.size s (Nat.le_refl _)
  have e : (⟨#[34]⟩ : ByteArray).size = 1 := rfl
  rw [e, Nat.mul_one] at this
  exact this

set_option maxRecDepth 100000 in
set_option maxHeartbeats 1000000 in
theorem quote_any (s : ByteArray) (hs : s.size ≤ 1100000) (w : World) (hsh : w.ShapedOpen Tryd.prog) :
    Calls Tryd.prog 41 #[.string s] w fun e w' => e = .returned (.string ⟨(quoT s.data.toList).toArray⟩) ∧ Below w.heap.size w w' := by
  have hc := countB_one s
  have HC := Lib.hid (Tryd.strings_ReplaceAll_shaped s ⟨#[34]⟩ ⟨#[34, 34]⟩ w hsh (by omega) (by decide) (by have e : (⟨#[34, 34]⟩ : ByteArray).size = 2 := rfl; rw [e]; omega))
  have e1 : Lib.replaceAll s.data.toList (⟨#[34]⟩ : ByteArray).data.toList (⟨#[34, 34]⟩ : ByteArray).data.toList = dblT s.data.toList := replaceAll_dblT _
  rw [e1] at HC
  have hl : (dblT s.data.toList).length ≤ 2200000 := by have := dblT_len s.data.toList; rw [← Lib.size_eq] at this; omega
  obtain ⟨D, hD⟩ : ∃ D, dblT s.data.toList = D := ⟨_, rfl⟩
  rw [hD] at HC hl
  have HD : Hid (quoT s.data.toList = 34 :: (D ++ [34])) := by unfold Hid quoT; rw [hD]
  have hz1 : (⟨D.toArray⟩ : ByteArray).size ≤ 2200000 := by rw [Lib.size_eq]; exact hl
  have hz2 : (⟨#[34]⟩ : ByteArray).size = 1 := rfl
  have HX : Hid ((⟨#[34]⟩ : ByteArray) ++ ⟨D.toArray⟩ ++ ⟨#[34]⟩ = ⟨(34 :: (D ++ [34])).toArray⟩) := by
    unfold Hid
    rw [show (⟨#[34]⟩ : ByteArray) = ⟨[34].toArray⟩ from rfl, cat2, cat2]
    rfl
  have hz3 : ((⟨#[34]⟩ : ByteArray) ++ ⟨D.toArray⟩).size ≤ 2200001 := by
    rw [show (⟨#[34]⟩ : ByteArray) = ⟨[34].toArray⟩ from rfl, cat2, Lib.size_eq]
    simp
    omega
  clear hc e1 hD hsh
  go_enter Tryd.func41, Tryd.ntmps41
  go_wp2_with fail
  refine HC.out.mono ?_
  rintro e w1 ⟨rfl, hb⟩
  go_wp2_with fail
  go_ret
  exact ⟨by rw [HD.out, ← HX.out]; rfl, hb⟩
end
section
open Go.RowKit Go.Joins

/-- 'write' at a tree of this kind (k = none: of any). -/
def WriteN (nm : Int → Bs) (F : Value) (q : Nd → Prop) (d : Nat) : Prop := ∀ (n : Nd) (p : Option Addr) (len cap : Nat) (least lv : Int) (B b : Nat) (l : Bs) (w0 w : World), q n → RdT w B d n p len → OkN n → rtN n lv = true → 0 ≤ least → least ≤ 5 → w0.ShapedOpen Tryd.prog → B = w0.heap.size → Below B w0 w →
    Lib.IsBuilder tBd 5 B b (Lib.byteCells l) w → B ≤ w.heap.size → l.length + wtN n ≤ 2200000 →
    Calls Tryd.prog 29 #[.pointer (some ⟨b, 0, none⟩), .agg (ndA n p len cap), .int .i64 least, F] w fun e w' => e = .returned (.tuple #[]) ∧ Lib.IsBuilder tBd 5 B b (Lib.byteCells (l ++ prN nm n least)) w' ∧ Below B w w' ∧ KeepN w w'

set_option maxRecDepth 100000 in
set_option maxHeartbeats 4000000 in
theorem write_8 (nm : Int → Bs) (F : Value) (d : Nat) : WriteN nm F (fun n => n.kind = 8) d := by
  intro n p len cap least lv B b l ws w hq hrd hok hrt hl0 hl1 hsh hB0 hw0 hib hB hlen
  have hk : n.kind = 8 := hq
  have HK := Lib.hid hk
  have HST := Lib.hid (fun W => strengthN n p len cap W)
  have hpr : prN nm n least = refBs := by
    cases n with
    | mk k u t f o a =>
      obtain rfl : k = 8 := hk
      rw [prN, if_neg (by unfold hdS; simp; omega)]
      rfl
  have hw : 400 ≤ wtN n := by cases n; rw [wtN]; omega
  rw [hpr]
  rw [show hdS n.kind n.text = 6 from by rw [hk]; rfl] at HST
  clear hrd hok hrt hsh hB0 hw0 hpr hk hq
  have hl6 : ¬ 6 < least := by omega
  have hA0 : Hid (NdB tPn (w.alloc (.cells (ndA n p len cap) tPn)) w.heap.size n p len cap) := heap_alloc_new w _
  have hAB : Hid (Below B w (w.alloc (.cells (ndA n p len cap) tPn))) := (Below.refl B w).alloc hB _
  have hAK : Hid (KeepN w (w.alloc (.cells (ndA n p len cap) tPn))) := KeepN.of (by (repeat' (first | (with_reducible exact Below.refl _ _) | (with_reducible assumption) | (with_reducible refine Below.alloc ?_ ?_ _) | (with_reducible refine bel_drewN ?_ _) | (with_reducible refine Below.drew ?_) | (with_reducible refine Below.setCell ?_ ?_ _) | (with_reducible refine bel_call ‹_› ?_ ?_) | go_size)))
  have HIB := Lib.hid (IsBuilder_below hib (Below.alloc (Below.refl w.heap.size w) (Nat.le_refl _) (.cells (ndA n p len cap) tPn)))
  rw [ndA_eq] at HST ⊢
  clear hib
  go_enter_defers Tryd.func29, Tryd.ntmps29
  go_upto_region 1 with fail
  have e0 : w.alloc (.cells #[.int .i64 n.kind, .int .i64 n.num, .string ⟨n.text.toArray⟩, .int .i64 n.frm, .int .i64 n.tor, .slice p len cap] tPn) = w.alloc (.cells (ndA n p len cap) tPn) := rfl
  rw [e0]
  clear e0
  generalize w.alloc (.cells (ndA n p len cap) tPn) = w0 at hA0 hAB HIB hAK ⊢
  obtain ⟨c0, c1, c2, c3, c4, c5⟩ := hA0.out.cells
  go_wp2_with fail
  refine (HST.out _).mono ?_
  rintro e w1 ⟨rfl, hb1⟩
  have hz0 : B ≤ w0.heap.size := Nat.le_trans hB hAB.out.size
  have hB1 : Hid (Below B w w1) := bel_call hb1 hAB.out hz0
  have hA1 := Lib.hid (hA0.out.below hb1)
  have HI1 := Lib.hid (IsBuilder_below HIB.out hb1)
  have HK1 : Hid (KeepN w w1) := hAK.out.trans (KeepN.of hb1)
  have hz1 : B ≤ w1.heap.size := Nat.le_trans hz0 hb1.size
  generalize w.heap.size = bn at hA0 hA1 hB hb1 ⊢
  clear hb1 hA0 HIB hAB hz0 c0 c1 c2 c3 c4 c5 HST hAK
  obtain ⟨c0, c1, c2, c3, c4, c5⟩ := hA1.out.cells
  rw [HK.out] at c0
  have hXs : (⟨#[35, 82, 69, 70, 33]⟩ : ByteArray).size = 5 := rfl
  go_wp2_with fail
  refine (write_atK B b l ⟨#[35, 82, 69, 70, 33]⟩ w1 HI1.out (by rw [hXs]; omega) hz1).mono ?_
  rintro e w3 ⟨rfl, hi3, hb3, hk3⟩
  have hB3 : Hid (Below B w w3) := hB1.out.trans hb3
  have HI3 := Lib.hid hi3
  have HK3 : Hid (KeepN w w3) := HK1.out.trans hk3
  clear hi3 hb3 HI1 hB1 hXs HK1 hk3
  go_wp2_with fail
  exact ⟨_, results_none rfl _ _ _, rfl, HI3.out, hB3.out, HK3.out⟩
end
section
open Go.RowKit Go.Joins

set_option maxRecDepth 100000 in
set_option maxHeartbeats 4000000 in
theorem write_2 (nm : Int → Bs) (F : Value) (d : Nat) : WriteN nm F (fun n => n.kind = 2) d := by
  intro n p len cap least lv B b l ws w hq hrd hok hrt hl0 hl1 hsh hB0 hw0 hib hB hlen
  have hk : n.kind = 2 := hq
  have HK := Lib.hid hk
  have HST := Lib.hid (fun W => strengthN n p len cap W)
  have hpr : prN nm n least = quoT n.text := by
    cases n with
    | mk k u t f o a =>
      obtain rfl : k = 2 := hk
      rw [prN, if_neg (by unfold hdS; simp; omega)]
      rfl
  have hw : 400 ≤ wtN n := by cases n; rw [wtN]; omega
  rw [hpr]
  have htx : n.text.length ≤ 1100000 := by cases n; rw [wtN] at hlen; simp only [Nd.text]; omega
  have HTX := Lib.hid (fun W (hW : Below B w W) => quote_any ⟨n.text.toArray⟩ (by rw [Lib.size_eq]; exact htx) W (shaped_below hsh (by rw [← hB0]; exact hw0.trans hW)))
  rw [show (⟨n.text.toArray⟩ : ByteArray).data.toList = n.text from rfl] at HTX
  have hbl : (quoT n.text).length ≤ wtN n := by
    have := dblT_len n.text
    cases n
    rw [wtN]
    unfold quoT
    simp only [Nd.text] at *
    simp
    omega
  obtain ⟨X, hX⟩ : ∃ X, quoT n.text = X := ⟨_, rfl⟩
  rw [hX] at HTX ⊢
  have hXl : X.length ≤ wtN n := by rw [← hX]; exact hbl
  clear hX hbl
  rw [show hdS n.kind n.text = 6 from by rw [hk]; rfl] at HST
  clear hrd hok hrt hsh hB0 hw0 hpr hk hq
  have hl6 : ¬ 6 < least := by omega
  have hA0 : Hid (NdB tPn (w.alloc (.cells (ndA n p len cap) tPn)) w.heap.size n p len cap) := heap_alloc_new w _
  have hAB : Hid (Below B w (w.alloc (.cells (ndA n p len cap) tPn))) := (Below.refl B w).alloc hB _
  have hAK : Hid (KeepN w (w.alloc (.cells (ndA n p len cap) tPn))) := KeepN.of (by (repeat' (first | (with_reducible exact Below.refl _ _) | (with_reducible assumption) | (with_reducible refine Below.alloc ?_ ?_ _) | (with_reducible refine bel_drewN ?_ _) | (with_reducible refine Below.drew ?_) | (with_reducible refine Below.setCell ?_ ?_ _) | (with_reducible refine bel_call ‹_› ?_ ?_) | go_size)))
  have HIB := Lib.hid (IsBuilder_below hib (Below.alloc (Below.refl w.heap.size w) (Nat.le_refl _) (.cells (ndA n p len cap) tPn)))
  rw [ndA_eq] at HST ⊢
  clear hib
  go_enter_defers Tryd.func29, Tryd.ntmps29
  go_upto_region 1 with fail
  have e0 : w.alloc (.cells #[.int .i64 n.kind, .int .i64 n.num, .string ⟨n.text.toArray⟩, .int .i64 n.frm, .int .i64 n.tor, .slice p len cap] tPn) = w.alloc (.cells (ndA n p len cap) tPn) := rfl
  rw [e0]
  clear e0
  generalize w.alloc (.cells (ndA n p len cap) tPn) = w0 at hA0 hAB HIB hAK ⊢
  obtain ⟨c0, c1, c2, c3, c4, c5⟩ := hA0.out.cells
  go_wp2_with fail
  refine (HST.out _).mono ?_
  rintro e w1 ⟨rfl, hb1⟩
  have hz0 : B ≤ w0.heap.size := Nat.le_trans hB hAB.out.size
  have hB1 : Hid (Below B w w1) := bel_call hb1 hAB.out hz0
  have hA1 := Lib.hid (hA0.out.below hb1)
  have HI1 := Lib.hid (IsBuilder_below HIB.out hb1)
  have HK1 : Hid (KeepN w w1) := hAK.out.trans (KeepN.of hb1)
  have hz1 : B ≤ w1.heap.size := Nat.le_trans hz0 hb1.size
  generalize w.heap.size = bn at hA0 hA1 hB hb1 ⊢
  clear hb1 hA0 HIB hAB hz0 c0 c1 c2 c3 c4 c5 HST hAK
  obtain ⟨c0, c1, c2, c3, c4, c5⟩ := hA1.out.cells
  rw [HK.out] at c0
  have hXs : (⟨X.toArray⟩ : ByteArray).size = X.length := by rw [Lib.size_eq]
  go_wp2_with fail
  refine (HTX.out w1 hB1.out).mono ?_
  rintro e w2 ⟨rfl, hb2⟩
  have hB2 : Hid (Below B w w2) := bel_call hb2 hB1.out hz1
  have HI2 := Lib.hid (IsBuilder_below HI1.out hb2)
  have HK2 : Hid (KeepN w w2) := HK1.out.trans (KeepN.of hb2)
  have hz2 : B ≤ w2.heap.size := Nat.le_trans hz1 hb2.size
  clear hb2 hA1 HI1 hB1 hz1 c0 c1 c2 c3 c4 c5 HTX HK1
  go_wp2_with fail
  refine (write_atK B b l ⟨X.toArray⟩ w2 HI2.out (by rw [hXs]; omega) hz2).mono ?_
  rintro e w3 ⟨rfl, hi3, hb3, hk3⟩
  have hB3 : Hid (Below B w w3) := hB2.out.trans hb3
  have HI3 := Lib.hid hi3
  have HK3 : Hid (KeepN w w3) := HK2.out.trans hk3
  clear hi3 hb3 HI2 hB2 hXs HK2 hk3
  go_wp2_with fail
  exact ⟨_, results_none rfl _ _ _, rfl, HI3.out, hB3.out, HK3.out⟩
end
end Go.Proofs.YtfkfajgfkgeicaaDoor
