/- Trees: 'To' builds the program's tree: plain part. Trees: as texts: plain part. Trees: the document's Digits; the names that the law gives. Printed by gen_tret.py. Trees: 'To': the walk. -/
import Derived.Test.YtjklbbmgjjdalaaGreatDoorBbB
import Derived.Test.YtjklbbmgjjdalaaGreatDoorBbD
import Derived.Maps.AppendAt
import Derived.Test.YtjklbbmgjjdalaaGreatDoorBbI
import Derived.Test.YtjklbbmgjjdalaaGreatDoorBbA
set_option linter.unusedSimpArgs false
set_option linter.unusedVariables false
namespace Go.Proofs.YtjklbbmgjjdalaaGreatDoor
open Go.RowKit Go.Joins
def RdP (w : World) (ok : Nat → Prop) : Nat → Nd → Option Addr → Nat → Prop
  | 0, n, p, len => n.args = [] ∧ len = 0
  | d + 1, n, p, len => n.args.length = len ∧ (len = 0 ∨ ∃ b off, p = some ⟨b, off, none⟩ ∧ ok b ∧ ∀ j c, n.args[j]? = some c → ∃ p' l' c', (∀ k u, (ndC c p' l' c')[k]? = some u → w.cell? ⟨b, off + j * 6 + k, none⟩ = some u) ∧ RdP w ok d c p' l')
theorem RdP.carry {w w' : World} {ok ok' : Nat → Prop} (hb : ∀ b, ok b → ok' b ∧ w'.heap[b]? = w.heap[b]?) : ∀ {d : Nat} {n : Nd} {p : Option Addr} {len : Nat}, RdP w ok d n p len → RdP w' ok' d n p len
  | 0, _, _, _, h => h
  | d + 1, n, p, len, h => by
    obtain ⟨h1, h2⟩ := h
    refine ⟨h1, ?_⟩
    rcases h2 with h2 | ⟨b, off, h3, h4, h5⟩
    · exact .inl h2
    · refine .inr ⟨b, off, h3, (hb b h4).1, fun j c hc => ?_⟩
      obtain ⟨p', l', c', h6, h7⟩ := h5 j c hc
      refine ⟨p', l', c', fun k u hu => ?_, RdP.carry hb h7⟩
      have := h6 k u hu
      simp only [World.cell?, (hb b h4).2] at this ⊢
      exact this
theorem RdP.rdT {w : World} {ok : Nat → Prop} {N : Nat} (hb : ∀ b, ok b → b < N) : ∀ {d : Nat} {n : Nd} {p : Option Addr} {len : Nat}, RdP w ok d n p len → RdT w N d n p len
  | 0, _, _, _, h => h
  | d + 1, n, p, len, h => by
    obtain ⟨h1, h2⟩ := h
    refine ⟨h1, ?_⟩
    rcases h2 with h2 | ⟨b, off, h3, h4, h5⟩
    · exact .inl h2
    · refine .inr ⟨b, off, h3, hb b h4, fun j c hc => ?_⟩
      obtain ⟨p', l', c', h6, h7⟩ := h5 j c hc
      exact ⟨p', l', c', h6, RdP.rdT hb h7⟩
abbrev Kid := Nd × Option Addr × Nat × Nat
def kidC (q : Kid) : List Value := ndC q.1 q.2.1 q.2.2.1 q.2.2.2
theorem kidC_len (q : Kid) : (kidC q).length = 6 := rfl
theorem kidC_one (q : Kid) : ∀ u ∈ kidC q, u.oneCell' = true := by
  intro u hu
  simp only [kidC, ndC, List.mem_cons, List.not_mem_nil, or_false] at hu
  rcases hu with rfl | rfl | rfl | rfl | rfl | rfl <;> rfl
theorem szL_kids : ∀ (a : List Nd) (k m : Int), 1 ≤ k → szL a k m ≤ m → k + a.length ≤ m ∧ ∀ c ∈ a, ∃ m', m' ≤ m ∧ szN c m' ≤ m'
  | [], k, m, h1, h => by
    rw [szL] at h
    exact ⟨by simpa using h, fun c hc => by cases hc⟩
  | c :: r, k, m, h1, h => by
    rw [szL] at h
    split at h
    · rename_i hk
      have hc := szN_le c (m - k)
      obtain ⟨h2, h3⟩ := szL_kids r _ m (by omega) h
      refine ⟨by rw [List.length_cons]; omega, fun x hx => ?_⟩
      rcases List.mem_cons.1 hx with rfl | hx
      · exact ⟨m - k, by omega, by omega⟩
      · exact h3 x hx
    · omega
def FewN (n : Nd) : Prop := ∃ m : Int, m ≤ 1000 ∧ szN n m ≤ m
theorem FewN.len {n : Nd} (h : FewN n) : n.args.length ≤ 1000 := by
  obtain ⟨m, h1, h2⟩ := h
  rw [szN_eq] at h2
  have := (szL_kids _ _ _ (by omega) h2).1
  omega
theorem FewN.child {n c : Nd} (h : FewN n) (hc : c ∈ n.args) : FewN c := by
  obtain ⟨m, h1, h2⟩ := h
  rw [szN_eq] at h2
  obtain ⟨m', h3, h4⟩ := (szL_kids _ _ _ (by omega) h2).2 c hc
  exact ⟨m', by omega, h4⟩
mutual
theorem dpN_sz : ∀ (n : Nd) (m : Int), szN n m ≤ m → (dpN n : Int) ≤ szN n m
  | .mk k u t f o a, m, h => by
    rw [szN] at h ⊢
    rw [dpN]
    have := dpL_sz a 1 m 0 (by omega) (by omega) h
    omega
theorem dpL_sz : ∀ (a : List Nd) (k m : Int) (d : Nat), 1 ≤ k → (d : Int) + 1 ≤ k → szL a k m ≤ m → (dpL a d : Int) + 1 ≤ szL a k m
  | [], k, m, d, h1, h2, h => by rw [szL, dpL]; exact h2
  | c :: r, k, m, d, h1, h2, h => by
    rw [szL] at h ⊢
    rw [dpL]
    split at h
    · rename_i hk
      rw [if_pos hk]
      have hc := szN_le c (m - k)
      have h3 := (szL_kids r _ m (by omega) h).1
      have h4 := dpN_sz c (m - k) (by omega)
      refine dpL_sz r _ m _ (by omega) ?_ h
      omega
    · omega
end
theorem FewN.depth {n : Nd} (h : FewN n) : dpN n ≤ 1000 := by
  obtain ⟨m, h1, h2⟩ := h
  have := dpN_sz n m h2
  omega
end Go.Proofs.YtjklbbmgjjdalaaGreatDoor
namespace Go.Proofs.YtjklbbmgjjdalaaGreatDoor
open Go.RowKit Go.Joins
mutual
def wtN : Nd → Nat
  | .mk _ _ t _ _ a => 400 + 2 * t.length + wtL a
def wtL : List Nd → Nat
  | [] => 0
  | c :: r => wtN c + 1 + wtL r
end
end Go.Proofs.YtjklbbmgjjdalaaGreatDoor
namespace Go.Proofs.YtjklbbmgjjdalaaGreatDoor
open Go.RowKit
def chr (d : Nat) : UInt8 := UInt8.ofNat (48 + d)
def dcF : Nat → Nat → List UInt8
  | 0, n => [chr n]
  | f + 1, n => if n < 10 then [chr n] else dcF f (n / 10) ++ [chr (n % 10)]
def dcL (n : Nat) : List UInt8 := dcF 15 n
theorem dcF_len : ∀ f n, (dcF f n).length ≤ f + 1
  | 0, n => by simp [dcF]
  | f + 1, n => by
    rw [dcF]
    split
    · simp
    · have := dcF_len f (n / 10)
      simp
      omega
theorem chr_conv (n b : Nat) (W : World) (h : W.cell? ⟨b, 0, none⟩ = some (.int .u8 (48 + (n : Int)))) : (convert 65 9 (.slice (some ⟨b, 0, none⟩) 1 1)).run Tryz.prog W = .ok (.string ⟨[chr n].toArray⟩) W := by
  have hcv := run_convert_bytes_arg (P := Tryz.prog) W 65 5 Tryz.underlying65 Tryz.underlying5 b 0 1 1 [48 + (n : Int)] rfl (fun i hi => by
    obtain rfl : i = 0 := by omega
    exact h) 9 Tryz.underlying9
  rw [show strOfNums [48 + (n : Int)] = ⟨[chr n].toArray⟩ from rfl] at hcv
  exact hcv
theorem dcL_len (n : Nat) : (dcL n).length ≤ 16 := dcF_len 15 n
def sgL (n : Int) : List UInt8 := (if n < 0 then [45] else []) ++ dcL n.natAbs
theorem dcF_any : ∀ (f g n : Nat), n < 10 ^ (f + 1) → n < 10 ^ (g + 1) → dcF f n = dcF g n
  | 0, 0, n, _, _ => rfl
  | 0, g + 1, n, h, _ => by
    rw [dcF, dcF, if_pos (by omega)]
  | f + 1, 0, n, _, h => by
    rw [dcF, dcF, if_pos (by omega)]
  | f + 1, g + 1, n, hf, hg => by
    rw [dcF, dcF]
    by_cases h : n < 10
    · rw [if_pos h, if_pos h]
    · rw [if_neg h, if_neg h, dcF_any f g (n / 10) (by rw [Nat.pow_succ] at hf; omega) (by rw [Nat.pow_succ] at hg; omega)]
theorem dcL_small {n : Nat} (h : n < 10) : dcL n = [chr n] := by
  unfold dcL
  rw [dcF, if_pos h]
theorem dcL_step {n : Nat} (h : ¬ n < 10) (h2 : n ≤ 100000000000000) : dcL n = dcL (n / 10) ++ [chr (n % 10)] := by
  have e : dcL n = dcF 14 (n / 10) ++ [chr (n % 10)] := by
    unfold dcL
    rw [dcF, if_neg h]
  rw [e]
  unfold dcL
  rw [dcF_any 14 15 (n / 10) (Nat.lt_of_le_of_lt (Nat.div_le_self _ _) (Nat.lt_of_le_of_lt h2 (by decide))) (Nat.lt_of_le_of_lt (Nat.div_le_self _ _) (Nat.lt_of_le_of_lt h2 (by decide)))]
def dgR (a : Nat) (s : List UInt8) : List UInt8 := (if a = 0 ∧ s ≠ [] then [] else dcL a) ++ s
theorem dgR_step {a : Nat} {s : List UInt8} (h : ¬ (a = 0 ∧ s ≠ [])) (h2 : a ≤ 100000000000000) : dgR a s = dgR (a / 10) (chr (a % 10) :: s) := by
  unfold dgR
  rw [if_neg h]
  by_cases ha : a < 10
  · rw [if_pos ⟨by omega, by simp⟩, dcL_small ha, show a % 10 = a from by omega]
    rfl
  · rw [if_neg (by omega), dcL_step ha h2]
    simp
set_option maxRecDepth 100000 in
set_option maxHeartbeats 2000000 in
theorem ref2Digits_any (n : Int) (h1 : -10000000 ≤ n) (h2 : n ≤ 10000000) (w : World) : Calls Tryz.prog 109 #[.int .i64 n] w fun e w' => e = .returned (.string ⟨(sgL n).toArray⟩) ∧ Below w.heap.size w w' := by
  obtain ⟨T, hT⟩ : ∃ T, dcL n.natAbs = T := ⟨_, rfl⟩
  have hTl : T.length ≤ 16 := by rw [← hT]; exact dcL_len _
  have HR : Hid (sgL n = (if n < 0 then [45] else []) ++ T) := by unfold Hid; rw [← hT]; rfl
  obtain ⟨R, hR⟩ : ∃ R, sgL n = R := ⟨_, rfl⟩
  rw [hR] at HR ⊢
  have HT := Lib.hid hT
  clear hT hR
  go_enter Tryz.func109, Tryz.ntmps109
  go_wp2_with fail
  go_loopg [3, 4, 5] (2 * n.natAbs + 1) (fun g v3 v4 v5 wr => Below w.heap.size w wr ∧ ∃ (k : Int) (L : List UInt8), k.natAbs ≤ 10000000 ∧ g = 2 * k.natAbs + (if L = [] then 1 else 0) ∧ v4 = .int .i64 k ∧ v3 = .string ⟨L.toArray⟩ ∧ dgR k.natAbs L = T)
  case atStart => exact ⟨Below.refl _ _, n, [], by omega, by simp, rfl, rfl, by rw [← HT.out]; simp [dgR]⟩
  case round =>
    obtain ⟨hbel, k, L, hk, hg, rfl, rfl, hs⟩ := hrel
    have HS := Lib.hid hs
    have hss := hbel.size
    have hLl : L.length ≤ 16 := by
      have : (dgR k.natAbs L).length ≤ 16 := by rw [hs]; exact hTl
      unfold dgR at this
      simp at this
      omega
    have hsz : (⟨L.toArray⟩ : ByteArray).size ≤ 16 := by rw [Lib.size_eq]; simpa using hLl
    have hse : (⟨L.toArray⟩ : ByteArray).toList = L := by rw [Lib.toList_data]
    clear hs
    by_cases hgo : k = 0 ∧ L ≠ []
    · obtain ⟨rfl, hL⟩ := hgo
      have e1 : L.isEmpty = false := by cases L <;> simp_all
      have e2 : (L == []) = false := by cases L <;> simp_all
      have hLT : L = T := by
        have := HS.out
        unfold dgR at this
        rw [if_pos ⟨rfl, hL⟩] at this
        exact this
      subst hLT
      have hz1 : (⟨#[45]⟩ : ByteArray).size = 1 := rfl
      have hcat : (⟨#[45]⟩ : ByteArray) ++ ⟨L.toArray⟩ = ⟨([45] ++ L).toArray⟩ := cat2 [45] L
      by_cases hn : n < 0
      · have hRR : R = [45] ++ L := by rw [HR.out, if_pos hn]
        have HRR := Lib.hid hRR
        clear hRR
        go_wp2_with fail
        go_ret
        exact ⟨by rw [HRR.out]; first | rfl | exact congrArg (fun s => Ending.returned (Value.string s)) (cat2 _ _), hbel⟩
      · have hRR : R = L := by rw [HR.out, if_neg hn]; rfl
        have HRR := Lib.hid hRR
        clear hRR
        go_wp2_with fail
        go_ret
        exact ⟨by rw [HRR.out]; rfl, hbel⟩
    · obtain ⟨m, hm⟩ : ∃ m, k.natAbs = m := ⟨_, rfl⟩
      obtain ⟨d, hd⟩ : ∃ d, m % 10 = d := ⟨_, rfl⟩
      obtain ⟨q, hq⟩ : ∃ q, m / 10 = q := ⟨_, rfl⟩
      have hstep : Hid (dgR q (chr d :: L) = T) := by
        unfold Hid
        rw [← HS.out, hm, dgR_step (a := m) (s := L) (fun h => hgo ⟨by omega, h.2⟩) (by omega), hd, hq]
      have hcat : (⟨[chr d].toArray⟩ : ByteArray) ++ ⟨L.toArray⟩ = ⟨(chr d :: L).toArray⟩ := cat2 [chr d] L
      have hcv := chr_conv d
      have hz2 : (⟨[chr d].toArray⟩ : ByteArray).size = 1 := rfl
      have hd10 : d < 10 := by omega
      have hq10 : q ≤ 10000000 := by omega
      have f3 : IntKind.i64.wrap (48 + (d : Int)) = 48 + (d : Int) := IntWalk.i64_in _ (by omega)
      have f4 : IntKind.u8.wrap (48 + (d : Int)) = 48 + (d : Int) := IntWalk.u8_in _ (by omega)
      have hmeas : Hid (2 * q + (if chr d :: L = [] then 1 else 0) < gk) := by
        unfold Hid
        rw [hg, if_neg (by simp)]
        by_cases hL : L = []
        · rw [if_pos hL]
          omega
        · rw [if_neg hL]
          have : k ≠ 0 := fun h => hgo ⟨h, hL⟩
          omega
      rcases Int.lt_or_le k 0 with hneg | hpos
      · have hk1 : k = -(m : Int) := by omega
        subst hk1
        have g1 : (-(m : Int)).tmod 10 = -(d : Int) := by rw [Int.neg_tmod, Int.tmod_eq_emod_of_nonneg (by omega)]; omega
        have g2 : (-(m : Int)).tdiv 10 = -(q : Int) := by rw [Int.neg_tdiv, Int.tdiv_eq_ediv_of_nonneg (by omega)]; omega
        have g3 : IntKind.i64.wrap (-(q : Int)) = -(q : Int) := IntWalk.i64_in _ (by omega)
        have g4 : (-(m : Int) == 0) = false := by simp; omega
        by_cases hd0 : d = 0
        · subst hd0
          clear hd hq hg hm
          go_wp2
          go_roundg (2 * q + (if chr 0 :: L = [] then 1 else 0))
          case measure => exact hmeas.out
          case rel => exact ⟨Below.alloc hbel (by omega) _, -(q : Int), chr 0 :: L, by omega, by rw [Int.natAbs_neg, Int.natAbs_natCast], by go_num, rfl, by rw [Int.natAbs_neg, Int.natAbs_natCast]; exact hstep.out⟩
        · have g5 : IntKind.i64.wrap (0 - (-(d : Int))) = (d : Int) := by rw [show (0 - (-(d : Int))) = (d : Int) from by omega]; exact IntWalk.i64_in _ (by omega)
          clear hd hq hg hm
          go_wp2
          go_roundg (2 * q + (if chr d :: L = [] then 1 else 0))
          case measure => exact hmeas.out
          case rel => exact ⟨Below.alloc hbel (by omega) _, -(q : Int), chr d :: L, by omega, by rw [Int.natAbs_neg, Int.natAbs_natCast], by go_num, rfl, by rw [Int.natAbs_neg, Int.natAbs_natCast]; exact hstep.out⟩
      · obtain rfl : k = (m : Int) := by omega
        have g1 : (m : Int).tmod 10 = (d : Int) := by rw [Int.tmod_eq_emod_of_nonneg (by omega)]; omega
        have g2 : (m : Int).tdiv 10 = (q : Int) := by rw [Int.tdiv_eq_ediv_of_nonneg (by omega)]; omega
        have g3 : IntKind.i64.wrap (q : Int) = (q : Int) := IntWalk.i64_in _ (by omega)
        by_cases hm0 : m = 0
        · have hL : L = [] := Classical.byContradiction fun h => hgo ⟨by omega, h⟩
          subst hL
          subst hm0
          obtain rfl : d = 0 := by omega
          obtain rfl : q = 0 := by omega
          clear hd hq hg hm
          go_wp2
          go_roundg (2 * 0 + (if chr 0 :: [] = [] then 1 else 0))
          case measure => exact hmeas.out
          case rel => exact ⟨Below.alloc hbel (by omega) _, 0, [chr 0], by omega, by simp, by go_num, rfl, hstep.out⟩
        · have g4 : ((m : Int) == 0) = false := by simp; omega
          have e2 : (m : Int) / 10 = (q : Int) := by omega
          clear hd hq hg hm
          go_wp2
          go_roundg (2 * q + (if chr d :: L = [] then 1 else 0))
          case measure => exact hmeas.out
          case rel => exact ⟨Below.alloc hbel (by omega) _, q, chr d :: L, by omega, by omega, by go_num, rfl, hstep.out⟩
end Go.Proofs.YtjklbbmgjjdalaaGreatDoor
namespace Go.Proofs.YtjklbbmgjjdalaaGreatDoor
open Go.RowKit Go.Joins
abbrev nodeZ : Nd := .mk 0 0 [] 0 0 []
theorem three_heap (w : World) (a b c : Obj) : (((w.alloc a).alloc b).alloc c).heap[w.heap.size]? = some a ∧ (((w.alloc a).alloc b).alloc c).heap[w.heap.size + 1]? = some b ∧ (((w.alloc a).alloc b).alloc c).heap[w.heap.size + 2]? = some c := by
  refine ⟨?_, ?_, ?_⟩ <;> simp only [World.alloc, Array.getElem?_push, Array.size_push] <;> (repeat (first | rfl | (rw [if_neg (by omega)]) | (rw [if_pos (by omega)])))
theorem three_below {w : World} (a b c : Obj) : Below w.heap.size w (((w.alloc a).alloc b).alloc c) := by
  (repeat' (first | (with_reducible exact Below.refl _ _) | (with_reducible assumption) | (with_reducible refine Below.alloc ?_ ?_ _) | (with_reducible refine bel_drewN ?_ _) | (with_reducible refine Below.drew ?_) | (with_reducible refine Below.setCell ?_ ?_ _) | (with_reducible refine bel_call ‹_› ?_ ?_) | go_size))
theorem row_carry {w w' : World} {base size n : Nat} {e : TypeId} {v : Value} {xs : List Value} (h : w.ownsRow base e size v n xs) (hb : ∀ b, v.ownBlock = some b → w'.heap[b]? = w.heap[b]?) : w'.ownsRow base e size v n xs := by
  obtain ⟨h1, h2⟩ := h
  refine ⟨h1, ?_⟩
  rcases h2 with h2 | ⟨g, cap, cur, hv, hg, hh, r⟩
  · exact .inl h2
  · refine .inr ⟨g, cap, cur, hv, hg, ?_, r⟩
    rw [hb g (by rw [hv]; rfl)]
    exact hh
end Go.Proofs.YtjklbbmgjjdalaaGreatDoor
