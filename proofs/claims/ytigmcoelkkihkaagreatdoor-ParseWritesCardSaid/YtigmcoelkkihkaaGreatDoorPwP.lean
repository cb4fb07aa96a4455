/- Trees: write at a sign ahead and at sums. Printed by gen_trex.py. Digits of the document's answer. Text of the document's answer: the plain part. Text of the document's answer: the walk. -/
import Derived.Test.YtigmcoelkkihkaaGreatDoorPwO
import Derived.Test.YtigmcoelkkihkaaGreatDoorPwH
set_option linter.unusedSimpArgs false
set_option linter.unusedVariables false
namespace Go.Proofs.YtigmcoelkkihkaaGreatDoor
open Go.RowKit Go.Joins

theorem lvS_lo (s : Bs) : 0 ≤ lvS s := by
  unfold lvS
  split
  · omega
  · split
    · omega
    · split
      · omega
      · split <;> omega
theorem rtL_all : ∀ {a : List Nd} {lv : Int}, rtL a lv = true → ∀ c ∈ a, rtN c lv = true
  | [], _, _, c, hc => by cases hc
  | x :: r, lv, h, c, hc => by
    rw [rtL, Bool.and_eq_true] at h
    rcases List.mem_cons.1 hc with rfl | hc
    · exact h.1
    · exact rtL_all h.2 c hc
theorem rtN_kids {n : Nd} {lv : Int} (h : rtN n lv = true) : ∀ c ∈ n.args, rtN c (lv - 1) = true := by
  rw [rtN_eq, Bool.and_eq_true] at h
  exact rtL_all h.2
theorem rtN_arity {n : Nd} {lv : Int} (h : rtN n lv = true) : 1 ≤ n.kind ∧ n.kind ≤ 8 ∧ loK n.kind ≤ n.args.length ∧ n.args.length ≤ hiK n.kind := by
  rw [rtN_eq, Bool.and_eq_true, Bool.and_eq_true] at h
  have h1 := h.1.1
  unfold headB arB at h1
  simp only [Bool.and_eq_true, decide_eq_true_eq] at h1
  exact ⟨h1.2.1, h1.2.2.1, h1.2.2.2⟩
theorem rtN_tag6 {n : Nd} {lv : Int} (h : rtN n lv = true) (hk : n.kind = 6) : 1 ≤ lvS n.text := by
  rw [rtN_eq, Bool.and_eq_true, Bool.and_eq_true] at h
  have h1 := h.1.2
  unfold tagB at h1
  rw [if_neg (by omega), if_pos hk] at h1
  have h2 : lvS n.text ≠ 0 := by simpa using h1
  have h3 := lvS_lo n.text
  omega
theorem args_one {n : Nd} {lv : Int} (h : rtN n lv = true) (hk : n.kind = 5) : ∃ x, n.args = [x] := by
  obtain ⟨_, _, h1, h2⟩ := rtN_arity h
  rw [hk] at h1 h2
  have h1 : 1 ≤ n.args.length := h1
  have h2 : n.args.length ≤ 1 := h2
  match h3 : n.args, h1, h2 with
  | [x], _, _ => exact ⟨x, rfl⟩
theorem args_two {n : Nd} {lv : Int} (h : rtN n lv = true) (hk : n.kind = 6) : ∃ x y, n.args = [x, y] := by
  obtain ⟨_, _, h1, h2⟩ := rtN_arity h
  rw [hk] at h1 h2
  have h1 : 2 ≤ n.args.length := h1
  have h2 : n.args.length ≤ 2 := h2
  match h3 : n.args, h1, h2 with
  | [x, y], _, _ => exact ⟨x, y, rfl⟩
theorem wtN_eq (n : Nd) : wtN n = 400 + 2 * n.text.length + wtL n.args := by cases n; rw [wtN]; rfl

/-- The first parts' texts, with commas. -/
def prJ (a : List Nd) (i : Nat) : Bs := (prT nmS (a.take i)).drop 1
theorem prT_cat (nm : Int → Bs) : ∀ a b : List Nd, prT nm (a ++ b) = prT nm a ++ prT nm b
  | [], b => by rw [prT]; rfl
  | c :: r, b => by rw [List.cons_append, prT, prT, prT_cat nm r b]; simp
theorem prT_snoc {a : List Nd} {i : Nat} {c : Nd} (h : a[i]? = some c) : prT nmS (a.take (i + 1)) = prT nmS (a.take i) ++ 44 :: prN nmS c 1 := by
  rw [List.take_add_one, h, prT_cat]
  show _ ++ prT nmS [c] = _
  rw [prT, prT]
  simp
theorem prJ_one {a : List Nd} {c : Nd} (h : a[0]? = some c) : prJ a 1 = prN nmS c 1 := by
  unfold prJ
  rw [prT_snoc h]
  simp [prT]
theorem prJ_step {a : List Nd} {i : Nat} {c : Nd} (h : a[i]? = some c) (hi : 0 < i) : prJ a (i + 1) = prJ a i ++ 44 :: prN nmS c 1 := by
  unfold prJ
  rw [prT_snoc h]
  have h1 : 1 ≤ (prT nmS (a.take i)).length := by
    cases a with
    | nil => simp at h
    | cons x r =>
      obtain ⟨j, rfl⟩ : ∃ j, i = j + 1 := ⟨i - 1, by omega⟩
      rw [List.take_succ_cons, prT]
      simp
  rw [List.drop_append_of_le_length h1]
theorem wtL_cat : ∀ a b : List Nd, wtL (a ++ b) = wtL a + wtL b
  | [], b => by rw [List.nil_append, wtL, Nat.zero_add]
  | c :: r, b => by rw [List.cons_append, wtL, wtL, wtL_cat r b]; omega
theorem wtL_take (a : List Nd) (i : Nat) : wtL (a.take i) ≤ wtL a := by
  have h := wtL_cat (a.take i) (a.drop i)
  rw [List.take_append_drop] at h
  omega
theorem wtL_at {a : List Nd} {i : Nat} {c : Nd} (h : a[i]? = some c) : wtL (a.take i) + wtN c + 1 ≤ wtL a := by
  have h1 := wtL_take a (i + 1)
  rw [List.take_add_one, h, wtL_cat] at h1
  have h2 : wtL (some c).toList = wtN c + 1 := by
    show wtL [c] = _
    rw [wtL, wtL]
  omega
theorem prJ_len {a : List Nd} (hok : ∀ c ∈ a, OkN c) (i : Nat) : (prJ a i).length ≤ wtL (a.take i) := by
  have h := prT_len nmS_len txt_lenT (a.take i) (fun c hc => hok c (List.mem_of_mem_take hc))
  unfold prJ
  rw [List.length_drop]
  omega

end Go.Proofs.YtigmcoelkkihkaaGreatDoor
namespace Go.Proofs.YtigmcoelkkihkaaGreatDoor
open Go.RowKit

theorem padL_len (n least : Nat) : (padL n least).length = max (digs n).length least := by
  simp [padL]; omega
theorem padL_nth (n least j : Nat) : nth (padL n least) j = nth (digs n) j := by
  unfold nth padL
  rw [List.getD_eq_getElem?_getD, List.getD_eq_getElem?_getD, List.getElem?_append]
  split
  · rfl
  · rename_i h
    rw [List.getElem?_eq_none (by omega : (digs n).length ≤ j), List.getElem?_replicate]
    split <;> rfl
theorem padL_lt (n least : Nat) : ∀ d ∈ padL n least, d < 10 := by
  intro d hd
  rcases List.mem_append.1 hd with h | h
  · exact digs_lt n d h
  · rw [(List.mem_replicate.1 h).2]; omega

theorem dig_step {T : List Nat} {m j d : Nat} (hl : T.length = m) (hj : j < m) (hd : nth T j = d) : (⟨(lettersOf [d] ++ lettersOf (T.take j).reverse).toArray⟩ : ByteArray) = ⟨(lettersOf (T.take (j + 1)).reverse).toArray⟩ := by
  have h : T.take (j + 1) = T.take j ++ [d] := by
    rw [List.take_succ_eq_append_getElem (by omega)]
    congr 2
    rw [← hd, nth_get (by omega)]
  rw [h, List.reverse_append]
  simp [lettersOf]

set_option maxRecDepth 100000 in
set_option maxHeartbeats 1000000 in
theorem refDigits_any (p : Option Addr) (n cap : Nat) (x least : Nat) (hn : n ≤ 200) (hl : least ≤ 100) (w : World) (hA : RdN w p n cap (digs x)) :
    Calls Tryz.prog 81 #[.slice p n cap, .int .i64 least] w fun e w' => e = .returned (.string ⟨(dgText x least).toArray⟩) ∧ Below w.heap.size w w' := by
  have HA := Lib.hid hA
  have HL := Lib.hid hA.len
  clear hA
  go_enter Tryz.func81, Tryz.ntmps81
  go_wp2_with fail
  obtain ⟨T, hT⟩ : ∃ T, padL x least = T := ⟨_, rfl⟩
  have hTl : T.length = max n least := by rw [← hT, padL_len, HL.out]
  have HTN := Lib.hid (show ∀ j, nth T j = nth (digs x) j from fun j => by rw [← hT]; exact padL_nth x least j)
  have HTD := Lib.hid (show ∀ d ∈ T, d < 10 from by rw [← hT]; exact padL_lt x least)
  have HT := Lib.hid hT
  clear hT
  obtain ⟨m, hm⟩ : ∃ m, max n least = m := ⟨_, rfl⟩
  rw [hm] at hTl
  have HTL := Lib.hid hTl
  clear hTl
  go_loopg [5, 6] m (fun g v5 v6 wr => Below w.heap.size w wr ∧ ∃ (j : Nat) (s : ByteArray), j + g = m ∧ v6 = .int .i64 j ∧ v5 = .string s ∧ s = ⟨(lettersOf (T.take j).reverse).toArray⟩)
  case atStart => exact ⟨Below.refl _ _, 0, ⟨#[]⟩, by omega, rfl, rfl, rfl⟩
  case round =>
    obtain ⟨hbel, j, s, hj, rfl, rfl, hs⟩ := hrel
    have HS := Lib.hid hs
    have hss := hbel.size
    clear hs
    by_cases hgo : j < m
    · have h1 : j < n ∨ (¬ j < n ∧ j < least) := by omega
      rcases h1 with h1 | ⟨h1, h2⟩
      all_goals
        go_wp2_with fail
        refine (digit_any p n cap (digs x) j (by omega) _ (HA.out.below (by assumption))).mono ?_
        rintro e w1 ⟨rfl, rfl⟩
        obtain ⟨d, hd⟩ : ∃ d, nth (digs x) j = d := ⟨_, rfl⟩
        rw [hd]
        have hd10 : d < 10 := by rw [← hd]; exact nth_lt (digs_lt x) j
        have HD := Lib.hid hd
        clear hd
        have hcv := run_convert_bytes_arg (P := Tryz.prog) (wr.alloc (.cells #[.int .u8 (48 + (d : Int))] 5)) 84 5 Tryz.underlying84 Tryz.underlying5 wr.heap.size 0 1 1 [48 + (d : Int)] rfl (fun i hi => by
          obtain rfl : i = 0 := by omega
          go_simp) 9 Tryz.underlying9
        rw [show strOfNums [48 + (d : Int)] = ⟨(lettersOf [d]).toArray⟩ from rfl] at hcv
        have hz1 : s.size ≤ 300 := by
          rw [HS.out, Lib.size_eq]
          simp [lettersOf]
          omega
        have hz2 : (⟨(lettersOf [d]).toArray⟩ : ByteArray).size = 1 := rfl
        go_wp2
        go_roundg (gk - 1)
        case measure => omega
        case rel =>
          refine ⟨Below.alloc hbel (by omega) _, j + 1, _, by omega, by go_num, rfl, ?_⟩
          rw [HS.out, cat2]
          exact dig_step HTL.out hgo (by rw [HTN.out j, HD.out])
    · have e : j = m := by omega
      have hn1 : ¬ j < n := by omega
      have hn2 : ¬ j < least := by omega
      have hres : s = ⟨(dgText x least).toArray⟩ := by
        rw [HS.out, e, ← HTL.out, List.take_length, ← HT.out]
        rfl
      have HR := Lib.hid hres
      go_wp2
      go_ret
      exact ⟨by rw [← HR.out]; rfl, hbel⟩
end Go.Proofs.YtigmcoelkkihkaaGreatDoor
namespace Go.Proofs.YtigmcoelkkihkaaGreatDoor
open Go.RowKit

theorem trim_split (L : List UInt8) (c : UInt8) : ∃ g, L = Lib.trimRightB L c ++ List.replicate g c := by
  refine ⟨(L.reverse.takeWhile (· == c)).length, ?_⟩
  have h1 : L.reverse.takeWhile (· == c) = List.replicate (L.reverse.takeWhile (· == c)).length c := by
    refine List.eq_replicate_iff.2 ⟨rfl, fun b hb => ?_⟩
    have := List.all_takeWhile (p := (· == c)) (l := L.reverse)
    rw [List.all_eq_true] at this
    simpa using this b hb
  have h2 := List.takeWhile_append_dropWhile (p := (· == c)) (l := L.reverse)
  have h3 := congrArg List.reverse h2
  rw [List.reverse_append, List.reverse_reverse, h1, List.reverse_replicate] at h3
  unfold Lib.trimRightB
  exact h3.symm
theorem trim_last (L : List UInt8) (c : UInt8) (h : ∃ x ∈ L, x ≠ c) : ∃ C y, Lib.trimRightB L c = C ++ [y] ∧ y ≠ c := by
  unfold Lib.trimRightB
  cases hd : L.reverse.dropWhile (· == c) with
  | nil =>
    obtain ⟨x, hx, hne⟩ := h
    have h2 := List.takeWhile_append_dropWhile (p := (· == c)) (l := L.reverse)
    rw [hd, List.append_nil] at h2
    have h3 := List.all_takeWhile (p := (· == c)) (l := L.reverse)
    rw [h2, List.all_eq_true] at h3
    exact absurd (by simpa using h3 x (List.mem_reverse.2 hx)) hne
  | cons y r =>
    refine ⟨r.reverse, y, by simp, ?_⟩
    have h2 := List.head?_dropWhile_not (· == c) L.reverse
    rw [hd] at h2
    simpa using h2
theorem digs_some {n : Nat} (h : n ≠ 0) : ∃ d ∈ digs n, d ≠ 0 := by
  rcases List.eq_nil_or_concat (digs n) with h1 | ⟨l, d, h1⟩
  · exact absurd (digs_nil.1 h1) h
  · refine ⟨d, by rw [h1]; simp, ?_⟩
    intro e
    have := digs_last n
    rw [h1, e] at this
    simp at this
theorem dgText_some {n least : Nat} (h : n ≠ 0) : ∃ x ∈ dgText n least, x ≠ 48 := by
  obtain ⟨d, hd, h0⟩ := digs_some h
  have h10 := digs_lt n d hd
  refine ⟨UInt8.ofNat (48 + d), ?_, ?_⟩
  · unfold dgText lettersOf padL
    exact List.mem_map.2 ⟨d, List.mem_reverse.2 (List.mem_append.2 (.inl hd)), rfl⟩
  · intro e
    have := congrArg UInt8.toNat e
    simp at this
    omega
end Go.Proofs.YtigmcoelkkihkaaGreatDoor
namespace Go.Proofs.YtigmcoelkkihkaaGreatDoor
open Go.RowKit

theorem refDigits_1 (p : Option Addr) (n cap : Nat) (x : Nat) (hn : n ≤ 200) (w : World) (hA : RdN w p n cap (digs x)) :
    Calls Tryz.prog 81 #[.slice p n cap, .int .i64 1] w fun e w' => e = .returned (.string ⟨(dgText x 1).toArray⟩) ∧ Below w.heap.size w w' := refDigits_any p n cap x 1 hn (by omega) w hA
theorem refDigits_6 (p : Option Addr) (n cap : Nat) (x : Nat) (hn : n ≤ 200) (w : World) (hA : RdN w p n cap (digs x)) :
    Calls Tryz.prog 81 #[.slice p n cap, .int .i64 6] w fun e w' => e = .returned (.string ⟨(dgText x 6).toArray⟩) ∧ Below w.heap.size w w' := refDigits_any p n cap x 6 hn (by omega) w hA

set_option maxRecDepth 100000 in
set_option maxHeartbeats 1000000 in
theorem refText_core (d : Int) (mi : Bool) (x q r : Nat) (P : List UInt8)
    (FA : Hid (∀ W, Calls Tryz.prog 78 #[.int .i64 d] W (RetI mi x W)))
    (LA : Hid ((digs x).length ≤ 20)) (LQ : Hid ((digs q).length ≤ 20)) (LR : Hid ((digs r).length ≤ 20)) (LQ18 : Hid (q ≤ 18446744073709551615)) (LR18 : Hid (r ≤ 18446744073709551615)) (LM : Hid ((digs 1000000).length ≤ 7))
    (OV : Hid (∀ (p : Option Addr) (n cap : Nat) (p2 : Option Addr) (n2 cap2 : Nat), n ≤ 400 → n2 ≤ 400 → ∀ W, RdN W p n cap (digs x) → RdN W p2 n2 cap2 (digs 1000000) → Calls Tryz.prog 79 #[.slice p n cap, .slice p2 n2 cap2] W (RetN2 q r W)))
    (hP : P = (if mi then [45] else []) ++ dgText q 1) (R : List UInt8) (hR : R = P ++ (if 0 < r then 46 :: Lib.trimRightB (dgText r 6) 48 else [])) (w : World) :
    Calls Tryz.prog 48 #[.int .i64 d] w fun e w' => e = .returned (.string ⟨R.toArray⟩) ∧ Below w.heap.size w w' := by
  have HR := Lib.hid hR
  clear hR
  go_enter Tryz.func48, Tryz.ntmps48
  go_wp2_with fail
  refine (FA.out _).mono ?_
  rintro e w1 ⟨p1, n1, c1, rfl, h1, hb1⟩
  have hs1 := hb1.size
  have hn1 : n1 ≤ 20 := by rw [← h1.len]; exact LA.out
  have H1 := Lib.hid h1
  clear h1
  go_wp2_with fail
  go_region_held3 (fun w' => w'.cell? ⟨w1.heap.size, 0, none⟩ = some (.bool mi) ∧ w'.cell? ⟨w1.heap.size, 1, none⟩ = some (.slice p1 n1 c1)) (first | (go_simp; done) | go_keep)
    (first
      | (go_at_call 80; refine (of_mill _).mono ?_; rintro e w2 ⟨p2, n2, c2, rfl, h2, hb2, hf2⟩; obtain ⟨hc2, hfz2, hz2⟩ := bcell hb2 (by first | (simp only [World.size_alloc, World.size_setCell, World.size_drew]; rfl) | rfl); have hn2 : n2 ≤ 7 := (by rw [← h2.len]; exact LM.out); have H2 := Lib.hid h2; clear h2 hf2)
      | (go_at_call 79; refine (OV.out p1 n1 c1 p2 n2 c2 (by omega) (by omega) _ (H1.out.below (by (repeat' (first | (with_reducible exact Below.refl _ _) | (with_reducible assumption) | (with_reducible refine Below.alloc ?_ ?_ _) | (with_reducible refine bel_drewN ?_ _) | (with_reducible refine Below.drew ?_) | (with_reducible refine Below.setCell ?_ ?_ _) | (with_reducible refine bel_call ‹_› ?_ ?_) | go_size)))) (H2.out.below (by (repeat' (first | (with_reducible exact Below.refl _ _) | (with_reducible assumption) | (with_reducible refine Below.alloc ?_ ?_ _) | (with_reducible refine bel_drewN ?_ _) | (with_reducible refine Below.drew ?_) | (with_reducible refine Below.setCell ?_ ?_ _) | (with_reducible refine bel_call ‹_› ?_ ?_) | go_size))))).mono ?_; rintro e w3 ⟨p3, n3, c3, p4, n4, c4, rfl, h3, h4, hb3, hf3, hf4⟩; obtain ⟨hc3, hfz3, hz3⟩ := bcell hb3 (by first | (simp only [World.size_alloc, World.size_setCell, World.size_drew]; rfl) | rfl); have hn3 : n3 ≤ 20 := (by rw [← h3.len]; exact LQ.out); have HL4 := Lib.hid h4.len; have H3 := Lib.hid h3; have H4 := Lib.hid h4; clear h3 h4 hf3 hf4))
  go_wp2_with fail
  refine (refDigits_1 p3 n3 c3 q (by omega) _ (H3.out.below (by (repeat' (first | (with_reducible exact Below.refl _ _) | (with_reducible assumption) | (with_reducible refine Below.alloc ?_ ?_ _) | (with_reducible refine bel_drewN ?_ _) | (with_reducible refine Below.drew ?_) | (with_reducible refine Below.setCell ?_ ?_ _) | (with_reducible refine bel_call ‹_› ?_ ?_) | go_size))))).mono ?_
  rintro e w5 ⟨rfl, hb5⟩
  obtain ⟨hc5, hfz5, hz5⟩ := bcell hb5 (by first | (simp only [World.size_alloc, World.size_setCell, World.size_drew]; rfl) | rfl)
  have hbw : Below w.heap.size w w5 := by (repeat' (first | (with_reducible exact Below.refl _ _) | (with_reducible assumption) | (with_reducible refine Below.alloc ?_ ?_ _) | (with_reducible refine bel_drewN ?_ _) | (with_reducible refine Below.drew ?_) | (with_reducible refine Below.setCell ?_ ?_ _) | (with_reducible refine bel_call ‹_› ?_ ?_) | go_size))
  have H45 := Lib.hid (H4.out.below (show Below w3.heap.size w3 w5 by (repeat' (first | (with_reducible exact Below.refl _ _) | (with_reducible assumption) | (with_reducible refine Below.alloc ?_ ?_ _) | (with_reducible refine bel_drewN ?_ _) | (with_reducible refine Below.drew ?_) | (with_reducible refine Below.setCell ?_ ?_ _) | (with_reducible refine bel_call ‹_› ?_ ?_) | go_size))))
  have hAl := dgText_len q 1 (LQ18.out) (by omega)
  obtain ⟨A, hA⟩ : ∃ A, dgText q 1 = A := ⟨_, rfl⟩
  rw [hA] at hP hAl
  rw [hA]
  have hz1 : (⟨A.toArray⟩ : ByteArray).size ≤ 120 := by rw [Lib.size_eq]; simpa using hAl
  have hz2 : (⟨#[45]⟩ : ByteArray).size = 1 := rfl
  have hPl : P.length ≤ 121 := by rw [hP]; cases mi <;> simp <;> omega
  have hcell : w5.cell? ⟨w1.heap.size, 0, none⟩ = some (.bool mi) := by go_simp
  clear hA
  rcases Nat.eq_zero_or_pos r with hr | hr
  · have hn4 : n4 = 0 := by rw [← HL4.out, hr, digs_zero]; rfl
    subst hn4
    obtain rfl : R = P := by rw [HR.out, if_neg (by omega), List.append_nil]
    cases mi
    · obtain rfl : R = A := hP
      go_wp2_with fail
      go_ret
      exact ⟨rfl, hbw⟩
    · have hcat : (⟨#[45]⟩ : ByteArray) ++ ⟨A.toArray⟩ = ⟨R.toArray⟩ := by rw [hP]; exact cat2 [45] A
      go_wp2_with fail
      go_ret
      exact ⟨by rw [hP]; rfl, hbw⟩
  · have hne : Hid (r ≠ 0) := by unfold Hid; omega
    have hn4 : 0 < n4 := by
      rw [← HL4.out]
      rcases Nat.eq_zero_or_pos (digs r).length with h | h
      · exact absurd (digs_nil.1 (List.eq_nil_of_length_eq_zero h)) hne.out
      · exact h
    have hn44 : n4 ≤ 20 := by rw [← HL4.out]; exact LR.out
    have hn4z : (((n4 : Nat) : Int) == 0) = false := by simp; omega
    obtain ⟨T, hT⟩ : ∃ T, dgText r 6 = T := ⟨_, rfl⟩
    obtain ⟨B, hB⟩ : ∃ B, Lib.trimRightB T 48 = B := ⟨_, rfl⟩
    obtain ⟨G, hG⟩ := trim_split T 48
    obtain ⟨C, y, hC, hy⟩ := trim_last T 48 (by rw [← hT]; exact dgText_some hne.out)
    have hTl := dgText_len r 6 LR18.out (by omega)
    rw [hT] at hTl
    rw [hB] at hG hC
    have hBl : B.length + G ≤ 120 := by
      rw [hG] at hTl
      simpa using hTl
    have HRR : Hid (R = P ++ 46 :: B) := by unfold Hid; rw [HR.out, if_pos hr, hT, hB]
    have HC := Lib.hid hC
    have HT := Lib.hid hT
    have HG := Lib.hid hG
    have hB1 : 1 ≤ B.length := by rw [hC]; simp
    have hy1 : ((y.toNat : Int) == 48) = false := by
      have : y.toNat ≠ 48 := fun e => hy (UInt8.toNat_inj.1 e)
      simp; omega
    clear hr hT hB hG hC hTl HR hy hne
    have fin : ∀ (W : World) (z : ByteArray), Hid (z = ⟨B.toArray⟩) → Below w.heap.size w W → (Ending.returned (Value.string (⟨P.toArray⟩ ++ ⟨#[46]⟩ ++ z)) = .returned (.string ⟨R.toArray⟩) ∧ Below w.heap.size w W) := fun W z hz h => ⟨by rw [hz.out, HRR.out]; exact congrArg (fun s => Ending.returned (Value.string s)) (show (⟨P.toArray⟩ : ByteArray) ++ ⟨[46].toArray⟩ ++ ⟨B.toArray⟩ = _ by rw [cat2, cat2]; simp), h⟩
    have HF := Lib.hid fin
    clear fin
    have hcat : (⟨#[45]⟩ : ByteArray) ++ ⟨A.toArray⟩ = ⟨([45] ++ A).toArray⟩ := cat2 [45] A
    cases mi
    all_goals
      simp only [Bool.false_eq_true, if_true, if_false, List.nil_append] at hP
      have HP := Lib.hid hP
      clear hP
      go_wp2_with fail
      refine (refDigits_6 p4 n4 c4 r (by omega) _ H45.out).mono ?_
      rintro e w6 ⟨rfl, hb6⟩
      obtain ⟨hc6, hfz6, hz6⟩ := bcell hb6 (by first | (simp only [World.size_alloc, World.size_setCell, World.size_drew]; rfl) | rfl)
      have hbw6 : Below w.heap.size w w6 := by (repeat' (first | (with_reducible exact Below.refl _ _) | (with_reducible assumption) | (with_reducible refine Below.alloc ?_ ?_ _) | (with_reducible refine bel_drewN ?_ _) | (with_reducible refine Below.drew ?_) | (with_reducible refine Below.setCell ?_ ?_ _) | (with_reducible refine bel_call ‹_› ?_ ?_) | go_size))
      rw [HT.out]
      go_wp2_with fail
      go_loopg [7] G (fun g v7 wr => wr = w6 ∧ g ≤ G ∧ ∃ s : ByteArray, v7 = .string s ∧ s = ⟨(B ++ List.replicate g 48).toArray⟩)
      case atStart => exact ⟨rfl, Nat.le_refl _, _, rfl, by rw [← HG.out]⟩
      case round =>
        obtain ⟨rfl, hgG, s, rfl, hs⟩ := hrel
        by_cases hk0 : gk = 0
        · subst hk0
          have hsC : s = ⟨(C ++ [y]).toArray⟩ := by rw [hs, ← HC.out]; simp
          have hz : s.size = C.length + 1 := by rw [hsC, Lib.size_eq]; simp
          have hlt : C.length < s.size := by omega
          have hby : (((s[C.length]'hlt).toNat : Int) == 48) = false := by
            subst hsC
            rw [← hy1]
            simp [ByteArray.getElem_eq_getElem_data]
          have HS : Hid (s = ⟨B.toArray⟩) := by unfold Hid; rw [hs]; simp
          have hz2 : s.size ≤ 120 := by rw [HS.out, Lib.size_eq]; simp; omega
          clear hs hsC
          go_wp2_with fail
          go_ret
          have h := HF.out _ s HS hbw6
          rw [HP.out] at h
          exact h
        · obtain ⟨j, rfl⟩ : ∃ j, gk = j + 1 := ⟨gk - 1, by omega⟩
          have hl : (B ++ List.replicate (j + 1) 48 : List UInt8) = B ++ List.replicate j 48 ++ [48] := by
            rw [List.replicate_succ', List.append_assoc]
          obtain ⟨D, hD⟩ : ∃ D, (B ++ List.replicate j 48 : List UInt8) = D := ⟨_, rfl⟩
          have hsD : s = ⟨(D ++ [48]).toArray⟩ := by rw [hs, hl, hD]
          have hz : s.size = D.length + 1 := by rw [hsD, Lib.size_eq]; simp
          have hDl : D.length ≤ 120 := by rw [← hD]; simp; omega
          have hlt : D.length < s.size := by omega
          have hby : (((s[D.length]'hlt).toNat : Int) == 48) = true := by
            subst hsD
            simp [ByteArray.getElem_eq_getElem_data]
          have hex : Hid (s.extract 0 D.length = ⟨(B ++ List.replicate j 48).toArray⟩) := by
            unfold Hid
            rw [hD, hsD]
            apply ByteArray.ext
            simp
          have hz2 : s.size ≤ 121 := by omega
          clear hs hsD hl hD hk0
          go_wp2
          go_roundg j
          case measure => omega
          case rel => exact ⟨rfl, by omega, _, rfl, hex.out⟩

theorem refText_any (d : Int) (hlo : -9223372036854775808 ≤ d) (hhi : d ≤ 9223372036854775807) (w : World) :
    Calls Tryz.prog 48 #[.int .i64 d] w fun e w' => e = .returned (.string ⟨(txt d).toArray⟩) ∧ Below w.heap.size w w' := by
  have hq : d.natAbs / 1000000 ≤ 9223372036854775808 := Nat.le_trans (Nat.div_le_self _ _) (by omega)
  have hr : d.natAbs % 1000000 < 1000000 := Nat.mod_lt _ (by omega)
  refine refText_core d (decide (d < 0)) d.natAbs (d.natAbs / 1000000) (d.natAbs % 1000000) _ (Lib.hid (fun W => from_any d hlo hhi W)) (Lib.hid (digs_length_le (by omega))) (Lib.hid (digs_length_le (by omega))) (Lib.hid (digs_length_le (by omega))) (Lib.hid (by omega)) (Lib.hid (by omega)) (Lib.hid (digs_length_le (by omega)))
    (Lib.hid fun p n cap p2 n2 cap2 h1 h2 W h3 h4 => over_any p n cap d.natAbs p2 n2 cap2 1000000 h1 h2 (by omega) W h3 h4) rfl (txt d) ?_ w
  unfold txt
  simp only [decide_eq_true_eq]
end Go.Proofs.YtigmcoelkkihkaaGreatDoor
