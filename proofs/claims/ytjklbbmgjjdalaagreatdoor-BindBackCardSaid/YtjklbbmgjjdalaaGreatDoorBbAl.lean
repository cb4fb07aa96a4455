/- Bind: a tree over stamps put down in bytes, and taken again: plain. Bind: the writer of bytes in memory: Num, Bytes, Text, Done; stamps and cells put down. Bind: the writer's Done; stamps and cells put down. -/
import Derived.Test.YtjklbbmgjjdalaaGreatDoorBbX
import Derived.Test.YtjklbbmgjjdalaaGreatDoorBbAc
import Derived.Test.YtjklbbmgjjdalaaGreatDoorBbAk
import Derived.Test.YtjklbbmgjjdalaaGreatDoorBbO
import Derived.Test.YtjklbbmgjjdalaaGreatDoorBbM
import Derived.Maps.AppendAt
import Derived.Lib.ConvBytes
set_option linter.unusedSimpArgs false
set_option linter.unusedVariables false
namespace Go.Proofs.YtjklbbmgjjdalaaGreatDoor.Bd
open Go.RowKit Go.Joins
theorem numL_put : ∀ (A : List UInt8) (c : UInt8) (r : List UInt8) (i n : Nat), (∀ a ∈ A, 128 ≤ a.toNat) → c.toNat < 128 → i + A.length ≤ 9 → (i + A.length = 9 → c.toNat ≤ 1) → (i = 0 ∧ A = [] ∨ c.toNat ≠ 0) → numL i n (A ++ c :: r) = some (n + valB (A ++ [c]) * 128 ^ i, r)
  | [], c, r, i, n, hA, hc, hl, h9, h0 => by
    rw [List.nil_append, numL, if_neg (by
      rcases h0 with ⟨h0, _⟩ | h0
      · omega
      · simp at h9; omega), if_pos hc]
    simp [valB]
  | a :: A, c, r, i, n, hA, hc, hl, h9, h0 => by
    have ha := hA a (by simp)
    rw [List.length_cons] at hl h9
    have h0' : c.toNat ≠ 0 := by
      rcases h0 with ⟨_, h0⟩ | h0
      · cases h0
      · exact h0
    rw [List.cons_append, numL, if_neg (by omega), if_neg (by omega), numL_put A c r (i + 1) _ (fun x hx => hA x (by simp [hx])) hc (by omega) (fun e => h9 (by omega)) (.inr h0'), List.cons_append, valB, Nat.pow_succ]
    congr 2
    rw [Nat.add_mul, Nat.add_assoc]
    congr 2
    rw [Nat.mul_comm (128 ^ i) 128, ← Nat.mul_assoc, Nat.mul_comm (valB _) 128]
theorem numD_put (n : Nat) (h : n < 18446744073709551616) (r : List UInt8) : numD (numE n ++ r) = some (n, r) := by
  have h10 : n < 128 ^ 10 := by rw [p128_10]; omega
  obtain ⟨A, c, hA, h1, h2, h3, h4⟩ := enc_form 10 n h10 (by omega)
  have hv := dec_enc 10 n h10
  have hl := numEF_len 10 n
  rw [hA] at hv hl
  rw [List.length_append] at hl
  simp at hl
  unfold numD numE
  rw [hA, List.append_assoc, List.singleton_append, numL_put A c r 0 0 h1 h2 (by omega) (fun e => by
    rw [valB_snoc, show A.length = 9 by omega, p128_9, Nat.mod_eq_of_lt h2] at hv
    omega) (by
    rcases h3 with h3 | h3
    · exact .inl ⟨rfl, h3⟩
    · exact .inr h3), hv]
  simp
theorem numR_put (n : Nat) (h : n < 18446744073709551616) (r : List UInt8) : numR (some (numE n ++ r)) = (n, some r) := by
  show (match numD (numE n ++ r) with | none => (0, none) | some (v, r) => (v, some r) : Nat × Option (List UInt8)) = _
  rw [numD_put n h]
theorem intR_put (m n : Nat) (h : n < 18446744073709551616) (hm : n ≤ m) (r : List UInt8) : intR m (some (numE n ++ r)) = (n, some r) := by
  rw [intR_is, numR_put n h, if_neg (by show ¬ m < n; omega)]
theorem bytR_put (t : List UInt8) (h : t.length ≤ 65536) (r : List UInt8) : bytR (some (numE t.length ++ (t ++ r))) = (t, some r) := by
  rw [bytR_is, intR_put 65536 t.length (by omega) h]
  show (if (t ++ r).length < t.length then _ else _) = _
  rw [if_neg (by simp)]
  simp
def stE (x : Idp) : List UInt8 := numE x.1.toNat ++ numE x.2.toNat
def prE (f : Rfp) : List UInt8 := stE f.1 ++ stE f.2
def okI (x : Idp) : Prop := 0 ≤ x.1 ∧ rtI x = true
theorem rtI_of {x : Idp} (h : rtI x = true) : x.1 ≤ 1099511627776 ∧ 0 ≤ x.2 ∧ x.2 ≤ 64 := by
  unfold rtI at h
  simp only [Bool.and_eq_true, decide_eq_true_eq] at h
  omega
theorem stR_put {x : Idp} (h : okI x) (r : List UInt8) : stR (some (stE x ++ r)) = (x, some r) := by
  obtain ⟨h0, h1⟩ := h
  obtain ⟨h2, h3, h4⟩ := rtI_of h1
  unfold stR stE
  rw [List.append_assoc, numR_put _ (by omega), intR_put 64 _ (by omega) (by omega)]
  obtain ⟨a, b⟩ := x
  show ((((a.toNat : Nat) : Int), ((b.toNat : Nat) : Int)), some r) = ((a, b), some r)
  rw [Int.toNat_of_nonneg h0, Int.toNat_of_nonneg h3]
theorem tkF_put {f : Rfp} (h1 : okI f.1) (h2 : okI f.2) (r : List UInt8) : tkF (some (prE f ++ r)) = ((f, true), some r) := by
  unfold tkF prE
  rw [List.append_assoc, stR_put h1, stR_put h2]
  simp only
  rw [h1.2, h2.2]
  rfl
def hdB (k u : Int) (t : List UInt8) (f g : Rfp) : List UInt8 :=
  if k = 1 then numE (u % 18446744073709551616).toNat
  else if k = 2 ∨ k = 6 ∨ k = 7 then numE t.length ++ t
  else if k = 3 then prE f
  else if k = 4 then prE f ++ prE g
  else []
mutual
def putN : Bn → List UInt8
  | .mk k u t f g a => numE (k % 18446744073709551616).toNat ++ (hdB k u t f g ++ ((if k = 7 then numE a.length else []) ++ putNL a))
def putNL : List Bn → List UInt8
  | [] => []
  | c :: r => putN c ++ putNL r
end
inductive Cn : Bn → Prop
  | num (u : Int) (h1 : 0 ≤ u) (h2 : u ≤ 9223372036854775807) : Cn (.mk 1 u [] rfZ rfZ [])
  | txt (t : List UInt8) (h : t.length ≤ 65536) : Cn (.mk 2 0 t rfZ rfZ [])
  | ref (f : Rfp) (h : okI f.1 ∧ okI f.2) : Cn (.mk 3 0 [] f rfZ [])
  | rng (f g : Rfp) (h : okI f.1 ∧ okI f.2) (h' : okI g.1 ∧ okI g.2) : Cn (.mk 4 0 [] f g [])
  | neg (a : Bn) (h : Cn a) : Cn (.mk 5 0 [] rfZ rfZ [a])
  | bin (t : List UInt8) (a b : Bn) (ht : t.length ≤ 65536) (h1 : Cn a) (h2 : Cn b) : Cn (.mk 6 0 t rfZ rfZ [a, b])
  | cal (t : List UInt8) (ar : List Bn) (ht : t.length ≤ 65536) (hl : ar.length ≤ 16) (h : ∀ c ∈ ar, Cn c) : Cn (.mk 7 0 t rfZ rfZ ar)
  | flt : Cn (.mk 8 0 [] rfZ rfZ [])
theorem rtTL_mem : ∀ {a : List Bn} {lv : Int}, rtTL a lv = true → ∀ c ∈ a, rtT c lv = true
  | [], _, _, c, hc => by cases hc
  | x :: a, lv, h, c, hc => by
    rw [rtTL, Bool.and_eq_true] at h
    rcases List.mem_cons.1 hc with rfl | hc
    · exact h.1
    · exact rtTL_mem h.2 c hc
theorem tkN_step {d k : Nat} {L L1 : List UInt8} {H : Hd} {c : Nat} {L3 : List UInt8} (h1 : intR 8 (some L) = (k, some L1)) (h0 : k ≠ 0) (h2 : hdP k (some L1) = H) (h3 : H.ok = true) (h4 : cP k H.S = (c, some L3)) :
    tkN (d + 1) L = (tkL (tkN d) c L3).map fun x => (.mk k H.u H.t H.f H.g x.1, x.2) := by
  subst h2
  rw [tkN, h1]
  simp only
  rw [if_neg h0, if_pos h3, h4]
theorem tkL_put {F : List UInt8 → Option (Bn × List UInt8)} : ∀ (a : List Bn) (k : Nat) (r : List UInt8), k = a.length → (∀ c ∈ a, ∀ r, F (putN c ++ r) = some (c, r)) → tkL F k (putNL a ++ r) = some (a, r)
  | [], k, r, e, h => by subst e; rfl
  | c :: a, k, r, e, h => by
    subst e
    rw [List.length_cons, tkL_succ, putNL, List.append_assoc, h c (by simp)]
    simp only [Option.bind_some]
    rw [tkL_put a _ r rfl (fun x hx => h x (by simp [hx]))]
    rfl
theorem tk_put {n : Bn} (h : Cn n) : ∀ (d : Nat) (r : List UInt8), rtT n (d : Int) = true → tkN d (putN n ++ r) = some (n, r) := by
  have hd : ∀ (n : Bn) (d : Nat), rtT n (d : Int) = true → ∃ d', d = d' + 1 ∧ ∀ c ∈ n.args, rtT c (d' : Int) = true := by
    intro n d hr
    rw [rtT_eq] at hr
    simp only [Bool.and_eq_true] at hr
    obtain ⟨⟨h1, _⟩, h2⟩ := hr
    unfold headT at h1
    simp only [Bool.and_eq_true, decide_eq_true_eq] at h1
    obtain ⟨d', rfl⟩ : ∃ d', d = d' + 1 := ⟨d - 1, by omega⟩
    refine ⟨d', rfl, fun c hc => ?_⟩
    have e : ((d' + 1 : Nat) : Int) - 1 = (d' : Int) := by omega
    rw [e] at h2
    exact rtTL_mem h2 c hc
  induction h with
  | num u h1 h2 =>
    intro d r hr
    obtain ⟨d, rfl, hk⟩ := hd _ _ hr
    have e : putN (.mk 1 u [] rfZ rfZ []) ++ r = numE 1 ++ (numE (u % 18446744073709551616).toNat ++ r) := by simp [putN, putNL, hdB]
    have e2 : wrap64 ((u % 18446744073709551616).toNat : Nat) = u := by unfold wrap64; omega
    rw [e, tkN_step (k := 1) (H := ⟨u, [], rfZ, rfZ, true, some r⟩) (intR_put 8 1 (by omega) (by omega) _) (by omega) (by
      unfold hdP
      rw [if_pos rfl, numR_put _ (by omega)]
      simp only [e2]) rfl rfl]
    rfl
  | txt t h =>
    intro d r hr
    obtain ⟨d, rfl, hk⟩ := hd _ _ hr
    have e : putN (.mk 2 0 t rfZ rfZ []) ++ r = numE 2 ++ (numE t.length ++ (t ++ r)) := by simp [putN, putNL, hdB]
    rw [e, tkN_step (k := 2) (H := ⟨0, t, rfZ, rfZ, true, some r⟩) (intR_put 8 2 (by omega) (by omega) _) (by omega) (by
      unfold hdP
      rw [if_neg (by omega), if_pos (by omega), bytR_put t h]) rfl rfl]
    rfl
  | ref f h =>
    intro d r hr
    obtain ⟨d, rfl, hk⟩ := hd _ _ hr
    have e : putN (.mk 3 0 [] f rfZ []) ++ r = numE 3 ++ (prE f ++ r) := by simp [putN, putNL, hdB]
    rw [e, tkN_step (k := 3) (H := ⟨0, [], f, rfZ, true, some r⟩) (intR_put 8 3 (by omega) (by omega) _) (by omega) (by
      unfold hdP
      rw [if_neg (by omega), if_neg (by omega), if_pos rfl, tkF_put h.1 h.2]) rfl rfl]
    rfl
  | rng f g h h' =>
    intro d r hr
    obtain ⟨d, rfl, hk⟩ := hd _ _ hr
    have e : putN (.mk 4 0 [] f g []) ++ r = numE 4 ++ (prE f ++ (prE g ++ r)) := by simp [putN, putNL, hdB]
    rw [e, tkN_step (k := 4) (H := ⟨0, [], f, g, true, some r⟩) (intR_put 8 4 (by omega) (by omega) _) (by omega) (by
      unfold hdP
      rw [if_neg (by omega), if_neg (by omega), if_neg (by omega), if_pos rfl, tkF_put h.1 h.2]
      simp only [if_true]
      rw [tkF_put h'.1 h'.2]) rfl rfl]
    rfl
  | neg a h ih =>
    intro d r hr
    obtain ⟨d, rfl, hk⟩ := hd _ _ hr
    have e : putN (.mk 5 0 [] rfZ rfZ [a]) ++ r = numE 5 ++ (putNL [a] ++ r) := by simp [putN, putNL, hdB]
    rw [e, tkN_step (k := 5) (H := ⟨0, [], rfZ, rfZ, true, some (putNL [a] ++ r)⟩) (c := 1) (L3 := putNL [a] ++ r) (intR_put 8 5 (by omega) (by omega) _) (by omega) (by
      unfold hdP
      rw [if_neg (by omega), if_neg (by omega), if_neg (by omega), if_neg (by omega)]) rfl rfl]
    rw [tkL_put [a] 1 r rfl (fun c hc r => by
      obtain rfl := List.mem_singleton.1 hc
      exact ih d r (hk _ hc))]
    rfl
  | bin t a b ht h1 h2 ih1 ih2 =>
    intro d r hr
    obtain ⟨d, rfl, hk⟩ := hd _ _ hr
    have e : putN (.mk 6 0 t rfZ rfZ [a, b]) ++ r = numE 6 ++ (numE t.length ++ (t ++ (putNL [a, b] ++ r))) := by simp [putN, putNL, hdB]
    rw [e, tkN_step (k := 6) (H := ⟨0, t, rfZ, rfZ, true, some (putNL [a, b] ++ r)⟩) (c := 2) (L3 := putNL [a, b] ++ r) (intR_put 8 6 (by omega) (by omega) _) (by omega) (by
      unfold hdP
      rw [if_neg (by omega), if_pos (by omega), bytR_put t ht]) rfl rfl]
    rw [tkL_put [a, b] 2 r rfl (fun c hc r => by
      have hc' := hc
      rcases List.mem_cons.1 hc with rfl | hc
      · exact ih1 d r (hk _ hc')
      · obtain rfl := List.mem_singleton.1 hc
        exact ih2 d r (hk _ hc'))]
    rfl
  | cal t ar ht hl h ih =>
    intro d r hr
    obtain ⟨d, rfl, hk⟩ := hd _ _ hr
    have e : putN (.mk 7 0 t rfZ rfZ ar) ++ r = numE 7 ++ (numE t.length ++ (t ++ (numE ar.length ++ (putNL ar ++ r)))) := by simp [putN, putNL, hdB]
    rw [e, tkN_step (k := 7) (H := ⟨0, t, rfZ, rfZ, true, some (numE ar.length ++ (putNL ar ++ r))⟩) (c := ar.length) (L3 := putNL ar ++ r) (intR_put 8 7 (by omega) (by omega) _) (by omega) (by
      unfold hdP
      rw [if_neg (by omega), if_pos (by omega), bytR_put t ht]) rfl (by
      unfold cP
      rw [if_pos rfl]
      exact intR_put 16 ar.length (by omega) hl _)]
    rw [tkL_put ar _ r rfl (fun c hc r => ih c hc d r (hk _ hc))]
    rfl
  | flt =>
    intro d r hr
    obtain ⟨d, rfl, hk⟩ := hd _ _ hr
    have e : putN (.mk 8 0 [] rfZ rfZ []) ++ r = numE 8 ++ r := by simp [putN, putNL, hdB]
    rw [e, tkN_step (k := 8) (H := ⟨0, [], rfZ, rfZ, true, some r⟩) (intR_put 8 8 (by omega) (by omega) _) (by omega) (by
      unfold hdP
      rw [if_neg (by omega), if_neg (by omega), if_neg (by omega), if_neg (by omega)]) rfl rfl]
    rfl
theorem bdC_in {rows cols : List Idp} {k : Int} (h : (bdC rows cols k).2 = 0) : ∃ (i j : Nat) (x y : Idp), rows[i]? = some x ∧ cols[j]? = some y ∧ (bdC rows cols k).1 = (x, y) ∧ k = ((j : Int) + 1) * 10000 + ((i : Int) + 1) := by
  unfold bdC celS at h ⊢
  split at h
  · rename_i hrt
    rw [if_pos hrt]
    split at h
    · rename_i hat
      rw [if_pos hat]
      unfold atL at hat ⊢
      obtain ⟨h1, h2⟩ := hat
      split at h1
      · rename_i e1
        split at h2
        · rename_i e2
          rw [if_pos e1, if_pos e2]
          refine ⟨(cR k - 1).toNat, (cC k - 1).toNat, rows.getD (cR k - 1).toNat (0, 0), cols.getD (cC k - 1).toNat (0, 0), ?_, ?_, rfl, ?_⟩
          · rw [List.getD_eq_getElem?_getD, List.getElem?_eq_getElem (by omega)]; rfl
          · rw [List.getD_eq_getElem?_getD, List.getElem?_eq_getElem (by omega)]; rfl
          · have hk : k = cC k * 10000 + cR k := by unfold cC cR; have := Int.mul_tdiv_add_tmod k 10000; omega
            omega
        · cases h2
      · cases h1
    · simp at h
  · simp at h
theorem bdC_ok {rows cols : List Idp} (hr : ∀ x ∈ rows, okI x) (hc : ∀ x ∈ cols, okI x) (k : Int) (h : (bdC rows cols k).2 = 0) : okI (bdC rows cols k).1.1 ∧ okI (bdC rows cols k).1.2 := by
  obtain ⟨i, j, x, y, h1, h2, h3, _⟩ := bdC_in h
  rw [h3]
  exact ⟨hr x (List.mem_of_getElem? h1), hc y (List.mem_of_getElem? h2)⟩
def txS : Nd → Prop
  | .mk _ _ t _ _ a => t.length ≤ 65536 ∧ txS.txL a
where txL : List Nd → Prop
  | [] => True
  | c :: r => txS c ∧ txL r
theorem txL_mem : ∀ {a : List Nd}, txS.txL a → ∀ c ∈ a, txS c
  | [], _, c, hc => by cases hc
  | x :: a, h, c, hc => by
    rw [txS.txL] at h
    rcases List.mem_cons.1 hc with rfl | hc
    · exact h.1
    · exact txL_mem h.2 c hc
theorem bdEL_memK {rows cols : List Idp} : ∀ {a : List Nd}, bdEL rows cols a = 0 → ∀ c ∈ a, bdE rows cols c = 0
  | [], _, c, hc => by cases hc
  | x :: a, h, c, hc => by
    rw [bdEL] at h
    have hx : bdE rows cols x = 0 := by
      split at h
      · assumption
      · exact h
    rw [if_pos hx] at h
    rcases List.mem_cons.1 hc with rfl | hc
    · exact hx
    · exact bdEL_memK h c hc
theorem bdE_parts {rows cols : List Idp} {k u : Int} {t : List UInt8} {f o : Int} {a : List Nd} (h : bdE rows cols (.mk k u t f o a) = 0) : hdE rows cols k f o = 0 ∧ ∀ c ∈ a, bdE rows cols c = 0 := by
  rw [bdE] at h
  have h0 : hdE rows cols k f o = 0 := by
    split at h
    · assumption
    · exact h
  rw [if_pos h0] at h
  exact ⟨h0, bdEL_memK h⟩
theorem cn_bd {rows cols : List Idp} (hr : ∀ x ∈ rows, okI x) (hc : ∀ x ∈ cols, okI x) {n : Nd} (h : Fm n) : bdE rows cols n = 0 → txS n → Cn (bdM rows cols n) := by
  induction h with
  | num u h1 h2 => intro he _; rw [bdM_go (bdE_parts he).1]; exact .num u h1 h2
  | txt t => intro he ht; rw [bdM_go (bdE_parts he).1]; exact .txt t ht.1
  | ref f h =>
    intro he _
    have h0 := (bdE_parts he).1
    have e : bdM rows cols (.mk 3 0 [] f 0 []) = .mk 3 0 [] (bdC rows cols f).1 rfZ [] := by rw [bdM_go h0]; rfl
    rw [e]
    refine .ref _ (bdC_ok hr hc f ?_)
    unfold hdE at h0
    simp at h0
    exact Classical.byContradiction fun hx => hx (h0 hx)
  | rng f o h1 h2 =>
    intro he _
    have h0 := (bdE_parts he).1
    have e : bdM rows cols (.mk 4 0 [] f o []) = .mk 4 0 [] (bdC rows cols f).1 (bdC rows cols o).1 [] := by rw [bdM_go h0]; rfl
    rw [e]
    unfold hdE at h0
    simp at h0
    have hf : (bdC rows cols f).2 = 0 := by
      split at h0
      · assumption
      · exact h0
    rw [if_pos hf] at h0
    exact .rng _ _ (bdC_ok hr hc f hf) (bdC_ok hr hc o h0)
  | neg a h ih =>
    intro he ht
    rw [bdM_go (bdE_parts he).1]
    exact .neg _ (ih ((bdE_parts he).2 a (by simp)) (txL_mem ht.2 a (by simp)))
  | bin t a b hl h1 h2 ih1 ih2 =>
    intro he ht
    rw [bdM_go (bdE_parts he).1]
    exact .bin t _ _ ht.1 (ih1 ((bdE_parts he).2 a (by simp)) (txL_mem ht.2 a (by simp))) (ih2 ((bdE_parts he).2 b (by simp)) (txL_mem ht.2 b (by simp)))
  | cal t ar hn hl h ih =>
    intro he ht
    rw [bdM_go (bdE_parts he).1]
    refine .cal t _ ht.1 (by rw [List.length_map]; exact hl) (fun c hc => ?_)
    obtain ⟨x, hx, rfl⟩ := List.mem_map.1 hc
    exact ih x hx ((bdE_parts he).2 x hx) (txL_mem ht.2 x hx)
  | flt => intro he _; rw [bdM_go (bdE_parts he).1]; exact .flt
theorem plL_at : ∀ {l : List Idp} {i : Nat} {x : Idp}, l.Nodup → l[i]? = some x → plL l x = i + 1
  | [], i, x, hn, h => by cases h
  | a :: l, 0, x, hn, h => by
    obtain rfl : a = x := by simpa using h
    rw [plL, if_pos rfl]
  | a :: l, i + 1, x, hn, h => by
    rw [List.getElem?_cons_succ] at h
    have hx := List.mem_of_getElem? h
    rw [List.nodup_cons] at hn
    rw [plL, if_neg (fun e => hn.1 (by rw [e]; exact hx)), plL_at hn.2 h]
    simp
theorem rb_id {rows cols : List Idp} (hr : rows.Nodup) (hc : cols.Nodup) {k : Int} (h : (bdC rows cols k).2 = 0) : rbC rows cols rows cols k = k ∧ k ≠ 0 := by
  obtain ⟨i, j, x, y, h1, h2, h3, h4⟩ := bdC_in h
  unfold rbC bkC plcS
  rw [h3]
  simp only
  rw [plL_at hr h1, plL_at hc h2, if_pos ⟨by omega, by omega⟩]
  refine ⟨?_, by omega⟩
  rw [h4]
  simp only
  omega
theorem gv_id {rows cols : List Idp} (hr : rows.Nodup) (hc : cols.Nodup) {n : Nd} (h : Fm n) : bdE rows cols n = 0 → gvN (rbC rows cols rows cols) n = n := by
  induction h with
  | num u h1 h2 => intro he; rw [gvN, if_neg (by omega), gvNL, if_neg (by omega), if_neg (by omega)]
  | txt t => intro he; rw [gvN, if_neg (by omega), gvNL, if_neg (by omega), if_neg (by omega)]
  | ref f h =>
    intro he
    have h0 := (bdE_parts he).1
    unfold hdE at h0
    simp at h0
    obtain ⟨e1, e2⟩ := rb_id hr hc (Classical.byContradiction fun hx => hx (h0 hx) : (bdC rows cols f).2 = 0)
    rw [gvN, gvNL, e1, if_neg (by omega), if_pos (by omega), if_neg (by omega)]
  | rng f o h1 h2 =>
    intro he
    have h0 := (bdE_parts he).1
    unfold hdE at h0
    simp at h0
    have hf : (bdC rows cols f).2 = 0 := by
      split at h0
      · assumption
      · exact h0
    rw [if_pos hf] at h0
    obtain ⟨e1, e2⟩ := rb_id hr hc hf
    obtain ⟨e3, e4⟩ := rb_id hr hc h0
    rw [gvN, gvNL, e1, e3, if_neg (by omega), if_pos (by omega), if_pos rfl]
  | neg a h ih =>
    intro he
    rw [gvN, if_neg (by omega), gvNL, gvNL, if_neg (by omega), if_neg (by omega), ih ((bdE_parts he).2 a (by simp))]
  | bin t a b hl h1 h2 ih1 ih2 =>
    intro he
    rw [gvN, if_neg (by omega), gvNL, gvNL, gvNL, if_neg (by omega), if_neg (by omega), ih1 ((bdE_parts he).2 a (by simp)), ih2 ((bdE_parts he).2 b (by simp))]
  | cal t ar hn hl h ih =>
    intro he
    rw [gvN, if_neg (by omega), gvNL_map, if_neg (by omega), if_neg (by omega)]
    have e : ar.map (gvN (rbC rows cols rows cols)) = ar.map id := List.map_congr_left fun x hx => ih x hx ((bdE_parts he).2 x hx)
    rw [e, List.map_id]
  | flt => intro he; rw [gvN, if_neg (by omega), gvNL, if_neg (by omega), if_neg (by omega)]
theorem plL_mem : ∀ {l : List Idp} {x : Idp}, x ∈ l → plL l x ≠ 0
  | [], x, h => by cases h
  | a :: l, x, h => by
    rw [plL]
    split
    · omega
    · rename_i hne
      rcases List.mem_cons.1 h with e | h
      · exact absurd e.symm hne
      · rw [if_neg (plL_mem h)]; omega
theorem lnF_nodup {l : List Idp} (h : l.Nodup) (x : Idp) : (lnF l x).Nodup := by
  unfold lnF
  split
  · rename_i h0
    rw [List.nodup_append]
    refine ⟨h, by simp, fun a ha b hb e => ?_⟩
    obtain rfl := List.mem_singleton.1 hb
    subst e
    exact plL_mem ha h0
  · exact h
theorem lnF_mem {l : List Idp} {x y : Idp} (h : y ∈ lnF l x) : y ∈ l ∨ y = x := by
  unfold lnF at h
  split at h
  · rcases List.mem_append.1 h with h | h
    · exact .inl h
    · exact .inr (List.mem_singleton.1 h)
  · exact .inl h
theorem lines_mem {l : List Idp} {y : Idp} (h : y ∈ linesL l) : y ∈ l := by
  have hf : ∀ (q acc : List Idp), y ∈ q.foldl lnF acc → y ∈ acc ∨ y ∈ q := by
    intro q
    induction q with
    | nil => intro acc h; exact .inl h
    | cons x q ih =>
      intro acc h
      rcases ih _ h with h | h
      · rcases lnF_mem h with h | h
        · exact .inl h
        · exact .inr (by simp [h])
      · exact .inr (by simp [h])
  unfold linesL at h
  rcases hf _ _ h with h | h
  · cases h
  · exact List.mem_of_mem_take h
theorem lines_nodup (l : List Idp) : (linesL l).Nodup := by
  have h : ∀ (q acc : List Idp), acc.Nodup → (q.foldl lnF acc).Nodup := by
    intro q
    induction q with
    | nil => intro acc h; exact h
    | cons x q ih => intro acc h; exact ih _ (lnF_nodup h x)
  unfold linesL
  exact h _ _ List.nodup_nil
end Go.Proofs.YtjklbbmgjjdalaaGreatDoor.Bd
namespace Go.Proofs.YtjklbbmgjjdalaaGreatDoor.Bd
open Go.RowKit Go.Joins
abbrev tWr : TypeId := 67
def Wtr (w : World) (B b : Nat) (L : List UInt8) : Prop := B ≤ b ∧ ∃ v, BlkC w b #[v] tWr ∧ w.ownsRow B 5 1 v L.length (L.map u8V) ∧ v.ownBlock ≠ some b
theorem Wtr.lt {w : World} {B b : Nat} {L : List UInt8} (h : Wtr w B b L) : b < w.heap.size := by
  obtain ⟨_, v, h1, _⟩ := h
  exact lt_some h1
theorem Wtr.below {w w' : World} {B b : Nat} {L : List UInt8} (h : Wtr w B b L) (hb : Below w.heap.size w w') : Wtr w' B b L := by
  obtain ⟨h1, v, h2, h3, h4⟩ := h
  exact ⟨h1, v, (hb.block b (lt_some h2)).trans h2, row_carry h3 (fun k hk => hb.block k (h3.lt k hk).2), h4⟩
set_option maxRecDepth 100000 in
theorem or128_is : ∀ c : Fin 256, bits .or .u8 ((c.val : Nat) : Int) 128 = ((c.val % 128 + 128 : Nat) : Int) := by decide
theorem or128 {c : Nat} (h : c < 256) : bits .or .u8 (c : Int) 128 = ((c % 128 + 128 : Nat) : Int) := or128_is ⟨c, h⟩
theorem own_slice {w : World} {B n : Nat} {t : TypeId} {v : Value} {xs : List Value} (h : w.ownsRow B t 1 v n xs) (hn : 0 < n) : ∃ g cap, v = .slice (some ⟨g, 0, none⟩) n cap ∧ B ≤ g := by
  rcases h.2 with ⟨_, h0⟩ | ⟨g, cap, cur, hv, hg, _⟩
  · omega
  · exact ⟨g, cap, hv, hg⟩
theorem blk1_set {w : World} {b : Nat} {v : Value} {t : TypeId} (u : Value) (h : BlkC w b #[v] t) : BlkC (w.setCell ⟨b, 0, none⟩ u) b #[u] t := heap_setCell_same w b 0 #[v] t u h
theorem blk1_eq {w : World} {b : Nat} {v u : Value} {t : TypeId} (h : BlkC w b #[v] t) (h' : BlkC w b #[u] t) : u = v := by
  have e : w.heap[b]? = some (.cells #[u] t (0, 0)) := h'
  rw [show w.heap[b]? = some (.cells #[v] t (0, 0)) from h] at e
  injection e with e
  injection e with e
  injection e with e
  injection e with e
  exact e.symm
def Frk (w : World) (b k : Nat) : Prop := k ≠ b ∧ ∀ v, BlkC w b #[v] tWr → v.ownBlock ≠ some k
def Oth (b : Nat) (w w' : World) : Prop := ∀ k, k < w.heap.size → Frk w b k → w'.heap[k]? = w.heap[k]? ∧ Frk w' b k
theorem Oth.refl (b : Nat) (w : World) : Oth b w w := fun _ _ h => ⟨rfl, h⟩
theorem Oth.trans {b : Nat} {w w1 w2 : World} (h : Oth b w w1) (h' : Oth b w1 w2) (hs : w.heap.size ≤ w1.heap.size) : Oth b w w2 := fun k hk hf => by
  obtain ⟨e1, f1⟩ := h k hk hf
  obtain ⟨e2, f2⟩ := h' k (by omega) f1
  exact ⟨e2.trans e1, f2⟩
theorem Oth.of_below {b : Nat} {w w' : World} (hb : b < w.heap.size) (h : Below w.heap.size w w') : Oth b w w' := fun k hk hf =>
  ⟨h.block k hk, hf.1, fun v hv => hf.2 v (show w.heap[b]? = _ from (h.block b hb).symm.trans hv)⟩
theorem Wtr.grow {wr w1 : World} {B b : Nat} {v v' : Value} {C : List UInt8} {o : Obj} (hB : B ≤ b) (hbk : BlkC wr b #[v] tWr) (hne : v.ownBlock ≠ some b) (hgr : (wr.alloc o).grownBy w1 v.ownBlock)
    (hat : v'.ownBlock = v.ownBlock ∨ v'.ownBlock = some (wr.heap.size + 1)) (ho : w1.ownsRow B 5 1 v' C.length (C.map u8V)) : BlkC w1 b #[v] tWr ∧ Wtr (w1.setCell ⟨b, 0, none⟩ v') B b C ∧ Oth b wr (w1.setCell ⟨b, 0, none⟩ v') := by
  have hlt := lt_some hbk
  have hbk1 : BlkC w1 b #[v] tWr := by
    show w1.heap[b]? = _
    rw [hgr.block b (by rw [World.size_alloc]; omega) (fun e => hne e.symm), heap_alloc_old _ _ hlt]
    exact hbk
  have hn : v'.ownBlock ≠ some b := by
    intro e
    rcases hat with h | h
    · exact hne (by rw [← h]; exact e)
    · rw [h] at e
      have := Option.some.inj e
      omega
  refine ⟨hbk1, ⟨hB, v', blk1_set v' hbk1, row_carry ho (fun k hk => heap_setCell_other _ _ _ _ (fun e => hn (by rw [hk, e]))), hn⟩, fun k hk hf => ⟨?_, hf.1, fun u hu => ?_⟩⟩
  · rw [heap_setCell_other _ _ _ _ hf.1, hgr.block k (by rw [World.size_alloc]; omega) (fun e => hf.2 v hbk e.symm), heap_alloc_old _ _ hk]
  · rw [blk1_eq (blk1_set v' hbk1) hu]
    intro e
    rcases hat with h | h
    · exact hf.2 v hbk (by rw [← h]; exact e)
    · rw [h] at e
      have := Option.some.inj e
      omega
theorem _root_.Go.Proofs.YtjklbbmgjjdalaaGreatDoor.Bd.RdU.oth {w w' : World} {B b : Nat} {p : Option Addr} {n cap : Nat} {L : List UInt8} (h : RdU w B p n cap L) (ho : Oth b w w') (hq : ∀ x, p = some x → x.block < w.heap.size → Frk w b x.block) (hs : w.heap.size ≤ w'.heap.size) : RdU w' B p n cap L := by
  obtain ⟨h1, h2, h3, h4⟩ := h
  refine ⟨h1, h2, h3, ?_⟩
  rcases h4 with h4 | ⟨c, off, h5, h6, h7, h8⟩
  · exact .inl h4
  · refine .inr ⟨c, off, h5, h6, Nat.lt_of_lt_of_le h7 hs, fun j hj => ?_⟩
    rw [← h8 j hj]
    unfold World.cell?
    rw [(ho c h7 (hq _ h5 h7)).1]
def WtP (B b : Nat) (L : List UInt8) (w : World) (e : Ending) (w' : World) : Prop := e = .returned (.pointer (some ⟨b, 0, none⟩)) ∧ Wtr w' B b L ∧ Below B w w' ∧ Oth b w w'
set_option maxRecDepth 100000 in
set_option maxHeartbeats 4000000 in
theorem wnum_any (B b : Nat) (L : List UInt8) (n : Nat) (hn : n < 18446744073709551616) (w : World) (hB : B ≤ w.heap.size) (hL : L.length ≤ 200000) (h : Wtr w B b L) :
    Calls Tryz.prog 39 #[.pointer (some ⟨b, 0, none⟩), .int .u64 n] w (WtP B b (L ++ numE n) w) := by
  obtain ⟨i0, hi, hz0, hz1, hz2⟩ := info_parts infou8
  have HN := Lib.hid hn
  obtain ⟨E, hE⟩ : ∃ E, L ++ numE n = E := ⟨_, rfl⟩
  have HE : Hid (L ++ numEF 10 n = E) := hE
  have HW := Lib.hid h
  have HBb := Lib.hid h.1
  rw [hE]
  clear hn hE h
  go_enter Tryz.func39, Tryz.ntmps39
  go_wp2_with fail
  go_loopg [1] 10 (fun gm v1 wr => ∃ (m : Nat) (A : List UInt8), 0 < gm ∧ m < 18446744073709551616 ∧ v1 = .int .u64 m ∧ m < 128 ^ gm ∧ A.length ≤ 200010 ∧ A.length + gm ≤ 200010 ∧ A ++ numEF gm m = E ∧ Wtr wr B b A ∧ Below B w wr ∧ Oth b w wr)
  case atStart => exact ⟨n, L, by omega, HN.out, rfl, by rw [p128_10]; have := HN.out; omega, by omega, by omega, HE.out, HW.out, Below.refl _ _, Oth.refl _ _⟩
  case round =>
    obtain ⟨m, A, hg0, hm, rfl, hmg, hAl, hAl2, hAE, hwt, hb, hoth⟩ := hrel
    have HOT := Lib.hid hoth
    clear hoth
    have HAE := Lib.hid hAE
    have HM := Lib.hid hm
    have HMG := Lib.hid hmg
    have HAL := Lib.hid hAl2
    obtain ⟨f, rfl⟩ : ∃ f, gk = f + 1 := ⟨gk - 1, by omega⟩
    have hsz := hb.size
    obtain ⟨_, v, hbk, hown, hne⟩ := hwt
    have hlt : b < wr.heap.size := lt_some hbk
    have c0 : wr.cell? ⟨b, 0, none⟩ = some v := by rw [cell_of_block hbk]; rfl
    have HBK := Lib.hid hbk
    have HNE := Lib.hid hne
    clear hAE hm hmg hAl2 hbk hne
    by_cases h128 : m < 128
    · have hi127 : ¬ (128 : Int) ≤ (m : Int) := by omega
      have hq : IntKind.u8.wrap (m : Int) = (m : Int) := IntWalk.u8_in _ (by omega)
      have HF : Hid (A ++ [UInt8.ofNat m] = E) := by unfold Hid; rw [← HAE.out, numEF_small h128]
      have hmn : (UInt8.ofNat m).toNat = m := u8_of (by omega)
      have HMN := Lib.hid hmn
      clear HAE hmn
      go_wp2_with (at_builtin; refine wpList_append_own_at _ rfl (.tmp 25) (.tmp 28) _ rfl B 5 i0 (.int .u8 0) 1 1 Tryz.underlying65 hi hz0 hz1 hz2 rfl (by decide) _ A.length (A.map u8V) rfl (hown.alloc _) ⟨wr.heap.size, 0, none⟩ 1 1 [.int .u8 ((m : Nat) : Int)] rfl rfl (new1 wr (.int .u8 ((m : Nat) : Int)) _) ?c2 ?c3 ?c4 ?c5 ?_)
      case c2 => first | exact one_u8i _ | rfl
      case c3 => unfold maxLen; omega
      case c4 => omega
      case c5 => first | (simp; omega) | omega | (rw [World.size_alloc]; omega)
      intro v' w1 hown1 hgrow1 _ hat
      have hown2 : w1.ownsRow B 5 1 v' (A ++ [UInt8.ofNat m]).length ((A ++ [UInt8.ofNat m]).map u8V) := by
        rw [List.map_append, List.length_append, List.map_cons, List.map_nil, show u8V (UInt8.ofNat m) = Value.int .u8 ((m : Nat) : Int) by show Value.int .u8 ((UInt8.ofNat m).toNat : Nat) = _; rw [HMN.out]; try rfl]
        exact hown1
      obtain ⟨hbk1, hwt2, hot2⟩ := Wtr.grow HBb.out HBK.out HNE.out hgrow1 hat hown2
      have hcb1 : w1.cell? ⟨b, 0, none⟩ = some v := by rw [cell_of_block hbk1]; rfl
      have f1 : w1.frozen? ⟨b, 0, none⟩ = false := hbk1.fz 0
      have HBW : Hid (Below B w (w1.setCell ⟨b, 0, none⟩ v')) := ((hb.alloc (by omega) _).grown hgrow1 (by rw [World.size_alloc]; omega) (fun k hk => (hown.lt k hk).1)).setCell (p := ⟨b, 0, none⟩) HBb.out _
      obtain ⟨g, cap, hv', hgo⟩ := own_slice hown2 (by simp)
      have HW2 := Lib.hid hwt2
      have HO2 : Hid (Oth b w (w1.setCell ⟨b, 0, none⟩ v')) := HOT.out.trans hot2 hsz
      rw [List.length_append, List.length_singleton] at hv'
      subst hv'
      clear hwt2 hot2 hown2 hown1 hgrow1 hat HBK HNE hown c0 hbk1
      go_wp2_with fail
      go_ret
      exact ⟨rfl, by rw [← HF.out]; exact HW2.out, HBW.out, HO2.out⟩
    · have hi127 : (128 : Int) ≤ (m : Int) := by omega
      obtain ⟨x, hx⟩ : ∃ x, m % 128 = x := ⟨_, rfl⟩
      obtain ⟨y, hy⟩ : ∃ y, m % 256 = y := ⟨_, rfl⟩
      have hyx : y % 128 = x := by omega
      have hyi : IntKind.u8.wrap (m : Int) = (y : Int) := by
        show (m : Int) % 256 = _
        omega
      have hor : bits .or .u8 (y : Int) 128 = (x : Int) + 128 := by rw [or128 (by omega), hyx]; omega
      have HF : Hid ((A ++ [UInt8.ofNat (x + 128)]) ++ numEF f (m / 128) = E) := by unfold Hid; rw [← HAE.out, numEF_great h128, hx, List.append_assoc]; rfl
      have HMN : Hid ((UInt8.ofNat (x + 128)).toNat = x + 128) := u8_of (by omega)
      generalize UInt8.ofNat (x + 128) = dd at HF HMN
      have hf0 : 0 < f := by
        rcases Nat.eq_zero_or_pos f with h | h
        · subst h
          have := HMG.out
          simp at this
          omega
        · exact h
      have HMD : Hid (m / 128 < 128 ^ f) := by
        unfold Hid
        have := HMG.out
        rw [Nat.pow_succ] at this
        omega
      clear HAE hx
      have hq3 : IntKind.u64.wrap ((m : Int) / 128) = (m : Int) / 128 := IntWalk.u64_in _ (by have := HM.out; omega)
      go_wp2_with (at_builtin; refine wpList_append_own_at _ rfl (.tmp 11) (.tmp 15) _ rfl B 5 i0 (.int .u8 0) 1 1 Tryz.underlying65 hi hz0 hz1 hz2 rfl (by decide) _ A.length (A.map u8V) rfl (hown.alloc _) ⟨wr.heap.size, 0, none⟩ 1 1 [.int .u8 ((x : Int) + 128)] rfl rfl (new1 wr (.int .u8 ((x : Int) + 128)) _) ?c2 ?c3 ?c4 ?c5 ?_)
      case c2 => first | exact one_u8i _ | rfl
      case c3 => unfold maxLen; omega
      case c4 => omega
      case c5 => first | (simp; omega) | omega | (rw [World.size_alloc]; omega)
      intro v' w1 hown1 hgrow1 _ hat
      have hown2 : w1.ownsRow B 5 1 v' (A ++ [dd]).length ((A ++ [dd]).map u8V) := by
        rw [List.map_append, List.length_append, List.map_cons, List.map_nil, show u8V (dd) = Value.int .u8 ((x : Int) + 128) by show Value.int .u8 ((dd).toNat : Nat) = _; rw [HMN.out]; try rfl]
        exact hown1
      obtain ⟨hbk1, hwt2, hot2⟩ := Wtr.grow HBb.out HBK.out HNE.out hgrow1 hat hown2
      have hcb1 : w1.cell? ⟨b, 0, none⟩ = some v := by rw [cell_of_block hbk1]; rfl
      have f1 : w1.frozen? ⟨b, 0, none⟩ = false := hbk1.fz 0
      have HBW : Hid (Below B w (w1.setCell ⟨b, 0, none⟩ v')) := ((hb.alloc (by omega) _).grown hgrow1 (by rw [World.size_alloc]; omega) (fun k hk => (hown.lt k hk).1)).setCell (p := ⟨b, 0, none⟩) HBb.out _
      obtain ⟨g, cap, hv', hgo⟩ := own_slice hown2 (by simp)
      have HW2 := Lib.hid hwt2
      have HO2 : Hid (Oth b w (w1.setCell ⟨b, 0, none⟩ v')) := HOT.out.trans hot2 hsz
      rw [List.length_append, List.length_singleton] at hv'
      subst hv'
      clear hwt2 hot2 hown2 hown1 hgrow1 hat HBK HNE hown c0 hbk1
      go_wp2_with fail
      go_roundg f
      case measure => omega
      case rel =>
        refine ⟨m / 128, A ++ [dd], hf0, by have := HM.out; omega, by go_num, HMD.out, by rw [List.length_append]; have := HAL.out; simp; omega, by rw [List.length_append]; have := HAL.out; simp; omega, HF.out, HW2.out, HBW.out, HO2.out⟩
theorem Wtr.grow0 {wr w1 : World} {B b : Nat} {v v' : Value} {C : List UInt8} (hB : B ≤ b) (hbk : BlkC wr b #[v] tWr) (hne : v.ownBlock ≠ some b) (hgr : wr.grownBy w1 v.ownBlock)
    (hat : v'.ownBlock = v.ownBlock ∨ v'.ownBlock = some wr.heap.size) (ho : w1.ownsRow B 5 1 v' C.length (C.map u8V)) : BlkC w1 b #[v] tWr ∧ Wtr (w1.setCell ⟨b, 0, none⟩ v') B b C ∧ Oth b wr (w1.setCell ⟨b, 0, none⟩ v') := by
  have hlt := lt_some hbk
  have hbk1 : BlkC w1 b #[v] tWr := by
    show w1.heap[b]? = _
    rw [hgr.block b hlt (fun e => hne e.symm)]
    exact hbk
  have hn : v'.ownBlock ≠ some b := by
    intro e
    rcases hat with h | h
    · exact hne (by rw [← h]; exact e)
    · rw [h] at e
      have := Option.some.inj e
      omega
  refine ⟨hbk1, ⟨hB, v', blk1_set v' hbk1, row_carry ho (fun k hk => heap_setCell_other _ _ _ _ (fun e => hn (by rw [hk, e]))), hn⟩, fun k hk hf => ⟨?_, hf.1, fun u hu => ?_⟩⟩
  · rw [heap_setCell_other _ _ _ _ hf.1, hgr.block k hk (fun e => hf.2 v hbk e.symm)]
  · rw [blk1_eq (blk1_set v' hbk1) hu]
    intro e
    rcases hat with h | h
    · exact hf.2 v hbk (by rw [← h]; exact e)
    · rw [h] at e
      have := Option.some.inj e
      omega
theorem wpList_append_u_at {P : Program} (w : World) {ops : Array Oper} {rest : List Oper} {o : Oper} {a : Act} {Q : Exit → Act → World → Prop} (hgd : o.guard = none) (s x : Operand) (t : TypeId)
    (ho : o.op = .call { callee := .builtin .append, args := #[s, x], argTypes := #[t, t] })
    (base Bd : Nat) (e : TypeId) (i : TypeInfo) (ht : P.underlying t = some (.slice e)) (hi : P.info? e = some i) (hz : i.zero = some (.int .u8 0))
    (hsize : i.size = 1) (hby : i.bytes = 1) (v : Value) (n : Nat) (L : List UInt8) (hs : a.eval s = v) (hown : w.ownsRow base e 1 v n (L.map u8V))
    (q : Option Addr) (m cap : Nat) (B : List UInt8) (hx : a.eval x = .slice q m cap) (hB : RdU w Bd q m cap B) (h63 : n + m ≤ 1000000) (hbase : base ≤ w.heap.size)
    (h : ∀ v' w', w'.ownsRow base e 1 v' (n + m) ((L ++ B).map u8V) → w.grownBy w' v.ownBlock → (v'.ownBlock = v.ownBlock ∨ v'.ownBlock = some w.heap.size) → wpList P ops Q rest (a.put o.dst v') w') : wpList P ops Q (o :: rest) a w := by
  obtain ⟨h1, h2, h3, h5⟩ := hB
  rcases h5 with ⟨rfl, rfl, rfl⟩ | ⟨b, off, rfl, h6, h7, h8⟩
  · have : B = [] := List.eq_nil_of_length_eq_zero h1
    subst this
    exact wpList_append_own_none hgd s x t ho base e i 1 ht hi v n _ hs hown hx (h v w (by simpa using hown) ⟨rfl, rfl, rfl, Nat.le_refl _, fun _ _ _ => rfl⟩ (.inl rfl))
  · refine wpList_append_own_at w hgd s x t ho base e i (.int .u8 0) 1 1 ht hi hz hsize hby rfl (by decide) v n _ hs hown ⟨b, off, none⟩ m cap (B.map u8V) hx (by simp [h1]) ?_ ?_ (by unfold maxLen; omega) (by omega) hbase (fun v' w' r1 r2 _ r4 => h v' w' (by simpa using r1) r2 r4)
    · intro j u hj
      have hjl : j < B.length := by
        rcases Nat.lt_or_ge j B.length with h' | h'
        · exact h'
        · simp [h'] at hj
      have hj2 : some (Value.int .u8 ((B.getD j 0).toNat : Nat)) = some u := by rw [← hj]; simp [List.getD, hjl]
      rw [← hj2, Addr.add_mid]
      exact h8 j (by omega)
    · intro u hu
      simp only [List.mem_map] at hu
      obtain ⟨d, _, rfl⟩ := hu
      rfl
set_option maxRecDepth 100000 in
set_option maxHeartbeats 4000000 in
theorem wbytes_any (B b : Nat) (L : List UInt8) (q : Option Addr) (n cap Bd : Nat) (T : List UInt8) (hn : n ≤ 100000) (w : World) (hB : B ≤ w.heap.size) (hL : L.length ≤ 150000) (h : Wtr w B b L) (hT : RdU w Bd q n cap T) (hq : ∀ x, q = some x → x.block < w.heap.size → Frk w b x.block) :
    Calls Tryz.prog 61 #[.pointer (some ⟨b, 0, none⟩), .slice q n cap] w (WtP B b (L ++ (numE n ++ T)) w) := by
  obtain ⟨i0, hi, hz0, hz1, hz2⟩ := info_parts infou8
  have HNUM := Lib.hid (wnum_any B b L n (by omega) w hB (by omega) h)
  have HBb := Lib.hid h.1
  have HLE : Hid ((numE n).length ≤ 10) := numEF_len 10 n
  have HT := Lib.hid hT
  have HQ := Lib.hid hq
  have HTL := Lib.hid hT.1
  clear h hT hq
  go_enter Tryz.func61, Tryz.ntmps61
  go_wp2_with fail
  refine HNUM.out.mono ?_
  rintro e w1 ⟨rfl, hwt, hb, hoth⟩
  have HTT := Lib.hid (HT.out.oth (b := b) hoth HQ.out hb.size)
  have HOT := Lib.hid hoth
  have hsz := hb.size
  obtain ⟨_, v, hbk, hown, hne⟩ := hwt
  have hlt : b < w1.heap.size := lt_some hbk
  have c0 : w1.cell? ⟨b, 0, none⟩ = some v := by rw [cell_of_block hbk]; rfl
  have HBK := Lib.hid hbk
  have HNE := Lib.hid hne
  have HOWN := Lib.hid hown
  have hLl : (L ++ numE n).length ≤ 150010 := by rw [List.length_append]; have := HLE.out; omega
  have hpos : 0 < (L ++ numE n).length := by
    obtain ⟨A, c, hA, _⟩ := enc_form 10 n (by rw [p128_10]; omega) (by omega)
    rw [List.length_append]
    unfold numE
    rw [hA]
    simp
    omega
  have HA : Hid (L ++ (numE n ++ T) = (L ++ numE n) ++ T) := (List.append_assoc _ _ _).symm
  generalize L ++ numE n = A at HOWN HA hLl hpos
  obtain ⟨C, hC⟩ : ∃ C, L ++ (numE n ++ T) = C := ⟨_, rfl⟩
  have HC := Lib.hid hC
  rw [hC] at HA
  clear hC
  clear hoth hbk hne HT HQ HNUM hown
  go_wp2_with (at_builtin; refine wpList_append_u_at _ rfl (.tmp 14) (.tmp 15) 65 rfl B Bd 5 i0 Tryz.underlying65 hi hz0 hz1 hz2 _ A.length A rfl HOWN.out q n cap T rfl HTT.out (by omega) (by omega) ?_)
  intro v' w2 hown2 hgr2 hat
  have hown3 : w2.ownsRow B 5 1 v' C.length (C.map u8V) := by
    rw [HA.out, List.length_append, HTL.out, List.map_append]
    simpa using hown2
  obtain ⟨hbk1, hwt2, hot2⟩ := Wtr.grow0 HBb.out HBK.out HNE.out hgr2 hat hown3
  have hcb1 : w2.cell? ⟨b, 0, none⟩ = some v := by rw [cell_of_block hbk1]; rfl
  have f1 : w2.frozen? ⟨b, 0, none⟩ = false := hbk1.fz 0
  have HBW : Hid (Below B w (w2.setCell ⟨b, 0, none⟩ v')) := (hb.grown hgr2 (by omega) (fun k hk => (HOWN.out.lt k hk).1)).setCell (p := ⟨b, 0, none⟩) HBb.out _
  obtain ⟨g, cap', hv', hgo⟩ := own_slice hown3 (by rw [HA.out, List.length_append]; omega)
  have HW2 := Lib.hid hwt2
  have HO2 : Hid (Oth b w (w2.setCell ⟨b, 0, none⟩ v')) := HOT.out.trans hot2 hsz
  subst hv'
  clear hwt2 hot2 hown3 hown2 hgr2 hat HBK HNE HOWN hbk1
  go_wp2_with fail
  go_ret
  exact ⟨rfl, by rw [HC.out]; exact HW2.out, HBW.out, HO2.out⟩
theorem bytesW_below (w : World) (s : ByteArray) : Below w.heap.size w (Lib.bytesWorld w 5 s) := ⟨rfl, rfl, rfl, by rw [Lib.bytesWorld_size]; omega, fun k hk => Lib.bytesWorld_at_old w _ s k hk⟩
theorem bytesW_rd (w : World) (T : List UInt8) (hT : T.length ≤ 100000) : RdU (Lib.bytesWorld w 5 ⟨T.toArray⟩) (w.heap.size + 1) (some ⟨w.heap.size, 0, none⟩) T.length (grownCap w T.length 0 5) T :=
  ⟨rfl, grownCap_ge w _ 0 _, grownCap_le_maxLen w _ 0 _ (by unfold maxLen; omega), .inr ⟨w.heap.size, 0, rfl, by omega, by rw [Lib.bytesWorld_size]; omega, fun j hj => by
    rw [Nat.zero_add, Lib.bytesWorld_cell w _ _ j (by simpa [ByteArray.size] using hj)]⟩⟩
set_option maxRecDepth 100000 in
set_option maxHeartbeats 4000000 in
theorem wtext_any (B b : Nat) (L T : List UInt8) (hn : T.length ≤ 100000) (w : World) (hB : B ≤ w.heap.size) (hL : L.length ≤ 150000) (h : Wtr w B b L) :
    Calls Tryz.prog 40 #[.pointer (some ⟨b, 0, none⟩), .string ⟨T.toArray⟩] w (WtP B b (L ++ (numE T.length ++ T)) w) := by
  have hconv := Lib.run_convert_string_bytes (P := Tryz.prog) w 9 65 5 ⟨T.toArray⟩ Tryz.underlying9 Tryz.underlying65 Tryz.underlying5
  have hsz : (⟨T.toArray⟩ : ByteArray).size = T.length := by simp [ByteArray.size]
  rw [hsz] at hconv
  have hrd := bytesW_rd w T hn
  have hbl := bytesW_below w ⟨T.toArray⟩
  have hlt := h.lt
  obtain ⟨cp, hcp⟩ : ∃ cp, grownCap w T.length 0 5 = cp := ⟨_, rfl⟩
  rw [hcp] at hconv hrd
  generalize Lib.bytesWorld w 5 ⟨T.toArray⟩ = w0 at hconv hrd hbl
  have hfr : Frk w0 b w.heap.size := ⟨by omega, fun v hv e => by
    obtain ⟨_, v', h1, h2, _⟩ := h
    obtain rfl := blk1_eq ((hbl.block b hlt).trans h1) hv
    have := (h2.lt _ e).2
    omega⟩
  have HBY := Lib.hid (wbytes_any B b L (some ⟨w.heap.size, 0, none⟩) T.length cp (w.heap.size + 1) T hn w0 (by have := hbl.size; omega) hL (h.below hbl) hrd (fun x hx _ => by cases hx; exact hfr))
  have HO : Hid (Oth b w w0) := Oth.of_below hlt hbl
  have HBL := Lib.hid hbl
  have HBB : Hid (B ≤ w.heap.size) := hB
  clear hrd hbl hfr h hcp
  go_enter Tryz.func40, Tryz.ntmps40
  go_wp2_with fail
  refine HBY.out.mono ?_
  rintro e w1 ⟨rfl, hwt, hb, hoth⟩
  go_wp2_with fail
  go_ret
  have hs := HBL.out.size
  exact ⟨rfl, hwt, (HBL.out.mono HBB.out).trans hb, HO.out.trans hoth hs⟩
end Go.Proofs.YtjklbbmgjjdalaaGreatDoor.Bd
namespace Go.Proofs.YtjklbbmgjjdalaaGreatDoor.Bd
open Go.RowKit Go.Joins
set_option maxRecDepth 100000 in
set_option maxHeartbeats 4000000 in
theorem wdone_any (B b : Nat) (L : List UInt8) (w : World) (hL : L.length ≤ 100000) (h : Wtr w B b L) :
    Calls Tryz.prog 21 #[.pointer (some ⟨b, 0, none⟩)] w (RetU L w) := by
  obtain ⟨_, v, hbk, hown, hne⟩ := h
  obtain ⟨p, c, rfl, hr, _⟩ := RdU.of_own (n := L.length) rfl hown
  have c0 : w.cell? ⟨b, 0, none⟩ = some (.slice p L.length c) := by rw [cell_of_block hbk]; rfl
  have HCL := Lib.hid (clone_u p L.length c _ L hL w hr)
  clear hbk hown hne hr
  go_enter Tryz.func21, Tryz.ntmps21
  go_wp2_with fail
  refine HCL.out.mono ?_
  rintro e w1 ⟨p', c', rfl, h1, h2, h3⟩
  go_wp2_with fail
  go_ret
  exact ⟨p', c', rfl, h1, h2, h3⟩
theorem stE_len (x : Idp) : (stE x).length ≤ 20 := by
  unfold stE
  rw [List.length_append]
  have h1 : (numE x.1.toNat).length ≤ 10 := numEF_len 10 _
  have h2 : (numE x.2.toNat).length ≤ 10 := numEF_len 10 _
  omega
def PtP (B b : Nat) (L : List UInt8) (w : World) (e : Ending) (w' : World) : Prop := e = .returned (.tuple #[]) ∧ Wtr w' B b L ∧ Below B w w' ∧ Oth b w w'
set_option maxRecDepth 100000 in
set_option maxHeartbeats 4000000 in
theorem sput_any (B b : Nat) (L : List UInt8) (x : Idp) (h0 : 0 ≤ x.1) (h1 : x.1 < 18446744073709551616) (h2 : 0 ≤ x.2) (h3 : x.2 ≤ 9223372036854775807) (w : World) (hB : B ≤ w.heap.size) (hL : L.length ≤ 150000) (h : Wtr w B b L) :
    Calls Tryz.prog 62 #[.pointer (some ⟨b, 0, none⟩), .agg #[.int .u64 x.1, .int .i64 x.2]] w (PtP B b (L ++ stE x) w) := by
  obtain ⟨t, i⟩ := x
  obtain ⟨t, rfl⟩ : ∃ n : Nat, t = n := ⟨t.toNat, by omega⟩
  obtain ⟨i, rfl⟩ : ∃ n : Nat, i = n := ⟨i.toNat, by omega⟩
  have hlt := h.lt
  have hA0 := Lib.hid (blk_new w #[.int .u64 (t : Int), .int .i64 (i : Int)] tId)
  have hAB : Below w.heap.size w (w.alloc (.cells #[.int .u64 (t : Int), .int .i64 (i : Int)] tId)) := by (repeat' (first | (with_reducible exact Below.refl _ _) | (with_reducible assumption) | (with_reducible refine Below.alloc ?_ ?_ _) | (with_reducible refine bel_drewN ?_ _) | (with_reducible refine Below.drew ?_) | (with_reducible refine Below.setCell ?_ ?_ _) | (with_reducible refine bel_call ‹_› ?_ ?_) | go_size))
  have HN1 := Lib.hid (wnum_any B b L t (by omega) (w.alloc (.cells #[.int .u64 (t : Int), .int .i64 (i : Int)] tId)) (by have := hAB.size; omega) (by omega) (h.below hAB))
  have HO1 : Hid (Oth b w (w.alloc (.cells #[.int .u64 (t : Int), .int .i64 (i : Int)] tId))) := Oth.of_below hlt hAB
  have HAB := Lib.hid hAB
  have HBB := Lib.hid hB
  have HLL := Lib.hid hL
  have HI : Hid ((i : Int) ≤ 9223372036854775807) := h3
  have HFR : Hid (Frk (w.alloc (.cells #[.int .u64 (t : Int), .int .i64 (i : Int)] tId)) b w.heap.size) := ⟨by omega, fun v hv e => by
    obtain ⟨_, v', h5, h6, _⟩ := h
    obtain rfl := blk1_eq ((hAB.block b hlt).trans h5) hv
    have := (h6.lt _ e).2
    omega⟩
  have hmx : max (i : Int) 0 = (i : Int) := by omega
  have hq : IntKind.u64.wrap (i : Int) = (i : Int) := IntWalk.u64_in _ (by omega)
  have hE : stE ((t : Int), (i : Int)) = numE t ++ numE i := rfl
  have HE := Lib.hid hE
  have hz : w.heap.size < (w.alloc (.cells #[.int .u64 (t : Int), .int .i64 (i : Int)] tId)).heap.size := by rw [World.size_alloc]; omega
  clear h hAB hE h3 h2 h1 h0 hB hL
  show Calls Tryz.prog 62 #[.pointer (some ⟨b, 0, none⟩), .agg #[.int .u64 (t : Int), .int .i64 (i : Int)]] w _
  go_enter Tryz.func62, Tryz.ntmps62
  go_upto_region 1 with fail
  generalize w.alloc (.cells #[.int .u64 (t : Int), .int .i64 (i : Int)] tId) = w0 at hA0 HN1 HO1 HAB HFR hz ⊢
  have d0 : w0.cell? ⟨w.heap.size, 0, none⟩ = some (.int .u64 (t : Int)) := by rw [cell_of_block hA0.out]; rfl
  go_wp2_with fail
  refine HN1.out.mono ?_
  rintro e w1 ⟨rfl, hwt, hb, hoth⟩
  have d1 : w1.cell? ⟨w.heap.size, 1, none⟩ = some (.int .i64 (i : Int)) := by
    unfold World.cell?
    rw [(hoth _ hz HFR.out).1, show w0.heap[w.heap.size]? = some (.cells #[.int .u64 (t : Int), .int .i64 (i : Int)] tId (0, 0)) from hA0.out]
    rfl
  have HLE : Hid ((numE t).length ≤ 10) := numEF_len 10 t
  have HN2 := Lib.hid (wnum_any B b (L ++ numE t) i (by have := HI.out; omega) w1 (by have := hb.size; have := HAB.out.size; have := HBB.out; omega) (by rw [List.length_append]; have := HLE.out; have := HLL.out; omega) hwt)
  have HBE : Hid (Below B w w1) := (HAB.out.mono HBB.out).trans hb
  have HO2 : Hid (Oth b w w1) := HO1.out.trans hoth HAB.out.size
  have hz1 : w.heap.size ≤ w1.heap.size := by have := hb.size; omega
  clear hwt hb hoth HN1 d0 HFR HAB HO1 hA0
  go_wp2_with fail
  refine HN2.out.mono ?_
  rintro e w2 ⟨rfl, hwt, hb, hoth⟩
  go_wp2_with fail
  go_end0
  rw [HE.out, ← List.append_assoc]
  exact ⟨rfl, hwt, HBE.out.trans hb, HO2.out.trans hoth hz1⟩
set_option maxRecDepth 100000 in
set_option maxHeartbeats 4000000 in
theorem rput_any (B b : Nat) (L : List UInt8) (f : Rfp) (h0 : okI f.1) (h1 : okI f.2) (w : World) (hB : B ≤ w.heap.size) (hL : L.length ≤ 120000) (h : Wtr w B b L) :
    Calls Tryz.prog 41 #[.pointer (some ⟨b, 0, none⟩), .agg #[.int .u64 f.1.1, .int .i64 f.1.2, .int .u64 f.2.1, .int .i64 f.2.2]] w (PtP B b (L ++ prE f) w) := by
  obtain ⟨x, y⟩ := f
  obtain ⟨x1, x2⟩ := x
  obtain ⟨y1, y2⟩ := y
  have hx := rtI_of h0.2
  have hy := rtI_of h1.2
  have hx0 : 0 ≤ x1 := h0.1
  have hy0 : 0 ≤ y1 := h1.1
  simp only at hx hy
  have hlt := h.lt
  show Calls Tryz.prog 41 #[.pointer (some ⟨b, 0, none⟩), .agg #[.int .u64 x1, .int .i64 x2, .int .u64 y1, .int .i64 y2]] w _
  have hA0 := Lib.hid (blk_new w #[.int .u64 x1, .int .i64 x2, .int .u64 y1, .int .i64 y2] tRf)
  have hAB : Below w.heap.size w (w.alloc (.cells #[.int .u64 x1, .int .i64 x2, .int .u64 y1, .int .i64 y2] tRf)) := by (repeat' (first | (with_reducible exact Below.refl _ _) | (with_reducible assumption) | (with_reducible refine Below.alloc ?_ ?_ _) | (with_reducible refine bel_drewN ?_ _) | (with_reducible refine Below.drew ?_) | (with_reducible refine Below.setCell ?_ ?_ _) | (with_reducible refine bel_call ‹_› ?_ ?_) | go_size))
  have HN1 := Lib.hid (sput_any B b L (x1, x2) hx0 (by show x1 < _; omega) (by show 0 ≤ x2; omega) (by show x2 ≤ _; omega) (w.alloc (.cells #[.int .u64 x1, .int .i64 x2, .int .u64 y1, .int .i64 y2] tRf)) (by have := hAB.size; omega) (by omega) (h.below hAB))
  have HO1 : Hid (Oth b w (w.alloc (.cells #[.int .u64 x1, .int .i64 x2, .int .u64 y1, .int .i64 y2] tRf))) := Oth.of_below hlt hAB
  have HAB := Lib.hid hAB
  have HBB := Lib.hid hB
  have HLL := Lib.hid hL
  have HY := Lib.hid hy
  have HY0 := Lib.hid hy0
  have HFR : Hid (Frk (w.alloc (.cells #[.int .u64 x1, .int .i64 x2, .int .u64 y1, .int .i64 y2] tRf)) b w.heap.size) := ⟨by omega, fun v hv e => by
    obtain ⟨_, v', h5, h6, _⟩ := h
    obtain rfl := blk1_eq ((hAB.block b hlt).trans h5) hv
    have := (h6.lt _ e).2
    omega⟩
  have HE : Hid (prE ((x1, x2), (y1, y2)) = stE (x1, x2) ++ stE (y1, y2)) := rfl
  have hz : w.heap.size < (w.alloc (.cells #[.int .u64 x1, .int .i64 x2, .int .u64 y1, .int .i64 y2] tRf)).heap.size := by rw [World.size_alloc]; omega
  clear h hAB h1 h0 hB hL hx hy hx0 hy0
  go_enter Tryz.func41, Tryz.ntmps41
  go_upto_region 1 with fail
  generalize w.alloc (.cells #[.int .u64 x1, .int .i64 x2, .int .u64 y1, .int .i64 y2] tRf) = w0 at hA0 HN1 HO1 HAB HFR hz ⊢
  have d0 : w0.cell? ⟨w.heap.size, 0, none⟩ = some (.int .u64 x1) := by rw [cell_of_block hA0.out]; rfl
  have d1 : w0.cell? ⟨w.heap.size, 1, none⟩ = some (.int .i64 x2) := by rw [cell_of_block hA0.out]; rfl
  go_wp2_with fail
  refine HN1.out.mono ?_
  rintro e w1 ⟨rfl, hwt, hb, hoth⟩
  have hk1 : w1.heap[w.heap.size]? = some (.cells #[.int .u64 x1, .int .i64 x2, .int .u64 y1, .int .i64 y2] tRf (0, 0)) := (hoth _ hz HFR.out).1.trans hA0.out
  have d2 : w1.cell? ⟨w.heap.size, 2, none⟩ = some (.int .u64 y1) := by rw [cell_of_block hk1]; rfl
  have d3 : w1.cell? ⟨w.heap.size, 3, none⟩ = some (.int .i64 y2) := by rw [cell_of_block hk1]; rfl
  have HLE : Hid ((stE (x1, x2)).length ≤ 20) := stE_len _
  have HN2 := Lib.hid (sput_any B b (L ++ stE (x1, x2)) (y1, y2) HY0.out (by show y1 < _; have := HY.out; omega) (by show 0 ≤ y2; have := HY.out; omega) (by show y2 ≤ _; have := HY.out; omega) w1 (by have := hb.size; have := HAB.out.size; have := HBB.out; omega) (by rw [List.length_append]; have := HLE.out; have := HLL.out; omega) hwt)
  have HBE : Hid (Below B w w1) := (HAB.out.mono HBB.out).trans hb
  have HO2 : Hid (Oth b w w1) := HO1.out.trans hoth HAB.out.size
  have hz1 : w.heap.size ≤ w1.heap.size := by have := hb.size; omega
  clear hwt hb hoth HN1 d0 d1 HFR HAB HO1 hA0 hk1
  go_wp2_with fail
  refine HN2.out.mono ?_
  rintro e w2 ⟨rfl, hwt, hb, hoth⟩
  go_wp2_with fail
  go_end0
  rw [HE.out, ← List.append_assoc]
  exact ⟨rfl, hwt, HBE.out.trans hb, HO2.out.trans hoth hz1⟩
end Go.Proofs.YtjklbbmgjjdalaaGreatDoor.Bd
