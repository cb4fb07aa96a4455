/- What the document's Parse reads, as a plain function, and that it is what Parse reads; and that a number's text reads as the number. -/
import Derived.Test.YtilajcibjlcffaaGreatDoorDecQ
set_option linter.unusedSimpArgs false
set_option linter.unusedVariables false

namespace Go.Proofs.YtilajcibjlcffaaGreatDoor
open Go.RowKit

/-- A cut at one letter. -/
theorem index_one (c : UInt8) : ∀ (s : List UInt8), (Lib.index s [c] = -1 ∧ c ∉ s) ∨ ∃ A B, s = A ++ c :: B ∧ c ∉ A ∧ Lib.index s [c] = (A.length : Int)
  | [] => .inl ⟨rfl, by simp⟩
  | b :: l => by
    by_cases h : c = b
    · subst h
      have hp : ([c] : List UInt8).isPrefixOf (c :: l) = true := by simp [List.isPrefixOf]
      exact .inr ⟨[], l, rfl, List.not_mem_nil, by unfold Lib.index; rw [hp]; rfl⟩
    · have hp : ([c] : List UInt8).isPrefixOf (b :: l) = false := by simp [List.isPrefixOf, h]
      rcases index_one c l with ⟨h1, h2⟩ | ⟨A, B, h1, h2, h3⟩
      · exact .inl ⟨by unfold Lib.index; rw [hp, h1]; rfl, by simp [h, h2]⟩
      · refine .inr ⟨b :: A, B, by rw [h1]; rfl, by simp [h, h2], ?_⟩
        unfold Lib.index
        rw [hp, h3]
        have : ((A.length : Int) == -1) = false := by rw [beq_eq_false_iff_ne]; omega
        simp [this]
theorem cut_one (c : UInt8) (s : List UInt8) : (c ∉ s ∧ Lib.cut s [c] = (s, [], false)) ∨ ∃ A B, s = A ++ c :: B ∧ c ∉ A ∧ Lib.cut s [c] = (A, B, true) := by
  rcases index_one c s with ⟨h1, h2⟩ | ⟨A, B, h1, h2, h3⟩
  · exact .inl ⟨h2, by unfold Lib.cut; rw [h1]; rfl⟩
  · refine .inr ⟨A, B, h1, h2, ?_⟩
    unfold Lib.cut
    rw [h3, if_pos (by omega), h1]
    simp
theorem cut_at (c : UInt8) (A B : List UInt8) (h : c ∉ A) : Lib.cut (A ++ c :: B) [c] = (A, B, true) := by
  rcases cut_one c (A ++ c :: B) with ⟨h1, _⟩ | ⟨A', B', h1, h2, h3⟩
  · exact absurd (by simp) h1
  · rw [h3]
    have key : ∀ (A A' : List UInt8), c ∉ A → c ∉ A' → A ++ c :: B = A' ++ c :: B' → A = A' ∧ B = B' := by
      intro A
      induction A with
      | nil =>
        intro A' _ h2 h
        cases A' with
        | nil => simp at h; exact ⟨rfl, h⟩
        | cons x r => simp at h; exact absurd (by simp [h.1]) h2
      | cons y t ih =>
        intro A' h1 h2 h
        cases A' with
        | nil => simp at h; exact absurd (by simp [h.1]) h1
        | cons x r =>
          simp at h h1 h2
          obtain ⟨e1, e2⟩ := ih r h1.2 h2.2 h.2
          exact ⟨by rw [h.1, e1], e2⟩
    obtain ⟨e1, e2⟩ := key A A' h h2 h1
    rw [e1, e2]

/-- Is a letter a digit? -/
def isDg (c : UInt8) : Bool := decide (48 ≤ c.toNat) && decide (c.toNat ≤ 57)
/-- What letters come to behind n. -/
def vl (n : Nat) (L : List UInt8) : Nat := L.foldl (fun n c => c.toNat - 48 + 10 * n) n
theorem vl_cons (n : Nat) (c : UInt8) (L : List UInt8) : vl n (c :: L) = vl (c.toNat - 48 + 10 * n) L := rfl
theorem vl_append (n : Nat) (A B : List UInt8) : vl n (A ++ B) = vl (vl n A) B := by simp [vl]
theorem vl_split (n : Nat) (L : List UInt8) : vl n L = n * 10 ^ L.length + vl 0 L := by
  induction L generalizing n with
  | nil => simp [vl]
  | cons c L ih =>
    rw [vl_cons, vl_cons, ih, ih (c.toNat - 48 + 10 * 0), List.length_cons, Nat.pow_succ, Nat.add_mul, Nat.add_mul]
    have : 10 * n * 10 ^ L.length = n * (10 ^ L.length * 10) := by rw [Nat.mul_comm 10 n, Nat.mul_assoc, Nat.mul_comm 10]
    omega
theorem vl_le (n : Nat) (L : List UInt8) : n ≤ vl n L := by
  rw [vl_split]
  have : n * 1 ≤ n * 10 ^ L.length := Nat.mul_le_mul_left _ (Nat.pow_pos (by omega))
  omega
theorem vl_lt {L : List UInt8} (h : L.all isDg = true) : vl 0 L < 10 ^ L.length := by
  have key : ∀ (L : List UInt8) (n : Nat), L.all isDg = true → vl n L < (n + 1) * 10 ^ L.length := by
    intro L
    induction L with
    | nil => intro n _; simp [vl]
    | cons c L ih =>
      intro n h
      simp [isDg] at h
      rw [vl_cons]
      refine Nat.lt_of_lt_of_le (ih _ (by simpa [isDg] using h.2)) ?_
      rw [List.length_cons, Nat.pow_succ, Nat.mul_comm (10 ^ L.length), ← Nat.mul_assoc]
      exact Nat.mul_le_mul_right _ (by omega)
  simpa using key L 0 h

/-- The letter loop: the number, the places behind the point (-1: no point yet), the letters ahead of it. -/
def rp : List UInt8 → Nat → Int → Nat → Option (Nat × Int × Nat)
  | [], n, p, k => some (n, p, k)
  | c :: r, n, p, k => if c.toNat = 46 ∧ p < 0 then rp r n 0 k else if 48 ≤ c.toNat ∧ c.toNat ≤ 57 then (if p < 0 then rp r (c.toNat - 48 + 10 * n) p (k + 1) else rp r (c.toNat - 48 + 10 * n) (p + 1) k) else none

theorem rp_behind : ∀ (B : List UInt8) (n p k : Nat), rp B n p k = if B.all isDg then some (vl n B, ((p + B.length : Nat) : Int), k) else none
  | [], n, p, k => by simp [rp, vl]
  | c :: B, n, p, k => by
    rw [rp, if_neg (by omega)]
    by_cases h : 48 ≤ c.toNat ∧ c.toNat ≤ 57
    · have hd : isDg c = true := by simp [isDg, h]
      rw [if_pos h, if_neg (by omega), show ((p : Int) + 1) = ((p + 1 : Nat) : Int) from by omega, rp_behind B, List.all_cons, hd, Bool.true_and, vl_cons, List.length_cons, show p + 1 + B.length = p + (B.length + 1) from by omega]
    · have hd : isDg c = false := by
        unfold isDg
        rw [Bool.and_eq_false_iff]
        by_cases h1 : 48 ≤ c.toNat
        · exact .inr (decide_eq_false (fun h2 => h ⟨h1, h2⟩))
        · exact .inl (decide_eq_false h1)
      rw [if_neg h, List.all_cons, hd]
      rfl
theorem rp_ahead : ∀ (A R : List UInt8) (n k : Nat), (46 : UInt8) ∉ A → rp (A ++ R) n (-1) k = if A.all isDg then rp R (vl n A) (-1) (k + A.length) else none
  | [], R, n, k, _ => by simp [vl]
  | c :: A, R, n, k, h => by
    have h1 : c ≠ 46 := by intro e; exact h (by simp [e])
    have h2 : (46 : UInt8) ∉ A := fun e => h (by simp [e])
    have h3 : c.toNat ≠ 46 := by
      intro e
      apply h1
      exact UInt8.toNat_inj.1 e
    rw [List.cons_append, rp, if_neg (by omega)]
    by_cases h : 48 ≤ c.toNat ∧ c.toNat ≤ 57
    · have hd : isDg c = true := by simp [isDg, h]
      rw [if_pos h, if_pos (by omega), rp_ahead A R _ _ h2, List.all_cons, hd, Bool.true_and, vl_cons, List.length_cons, show k + 1 + A.length = k + (A.length + 1) from by omega]
    · have hd : isDg c = false := by
        unfold isDg
        rw [Bool.and_eq_false_iff]
        by_cases h1 : 48 ≤ c.toNat
        · exact .inr (decide_eq_false (fun h2 => h ⟨h1, h2⟩))
        · exact .inl (decide_eq_false h1)
      rw [if_neg h, List.all_cons, hd]
      rfl

/-- dec's reader, in these words. -/
theorem rdFrom_is : ∀ (L : List UInt8) (n : Nat), n < U64 → rdFrom (some n) L = if L.all isDg = true ∧ vl n L < U64 then some (vl n L) else none
  | [], n, h => by
    have e : vl n [] = n := rfl
    rw [e, if_pos ⟨rfl, h⟩]
    rfl
  | c :: L, n, h => by
    show rdFrom (rdStep (some n) c) L = _
    simp only [rdStep]
    rw [vl_cons]
    have hle := vl_le (c.toNat - 48 + 10 * n) L
    by_cases hc : 48 ≤ c.toNat ∧ c.toNat ≤ 57 ∧ n * 10 + (c.toNat - 48) < U64
    · have hd : isDg c = true := by simp [isDg, hc.1, hc.2.1]
      rw [if_pos hc, rdFrom_is L _ hc.2.2, List.all_cons, hd, Bool.true_and, show n * 10 + (c.toNat - 48) = c.toNat - 48 + 10 * n from by omega]
    · rw [if_neg hc, rdFrom_none, if_neg]
      rintro ⟨h1, h2⟩
      rw [List.all_cons, Bool.and_eq_true] at h1
      have h3 : 48 ≤ c.toNat ∧ c.toNat ≤ 57 := by simpa [isDg] using h1.1
      exact hc ⟨h3.1, h3.2, by omega⟩
theorem rdOk_is (L : List UInt8) : rdOk L = (L.all isDg && (decide (vl 0 L < U64) && !L.isEmpty)) := by
  unfold rdOk
  rw [rdFrom_is L 0 (by unfold U64; omega)]
  by_cases h : L.all isDg = true ∧ vl 0 L < U64
  · rw [if_pos h, h.1, decide_eq_true h.2]; rfl
  · rw [if_neg h]
    cases h1 : L.all isDg
    · rfl
    · rw [decide_eq_false (fun h2 => h ⟨h1, h2⟩)]; rfl
theorem rdV_is {L : List UInt8} (h : L.all isDg = true) (h2 : vl 0 L < U64) : rdV L = vl 0 L := by
  unfold rdV
  rw [rdFrom_is L 0 (by unfold U64; omega), if_pos ⟨h, h2⟩]
  rfl

/-- What is known when the letters have been read: is it a number, and which. -/
def rpOk (o : Option (Nat × Int × Nat)) : Bool := match o with | none => false | some (_, p, k) => !decide (k = 0) && (!decide (p = 0) && decide (p ≤ 6))
def rpN (o : Option (Nat × Int × Nat)) : Nat := match o with | none => 0 | some (n, p, _) => n * 10 ^ (6 - (max p 0).toNat)
/-- The document's Parse. -/
def rprsOk (L : List UInt8) : Bool := rpOk (rp (Lib.trimPrefix L [45]) 0 (-1) 0) && inR (sv (prsMi L) (rpN (rp (Lib.trimPrefix L [45]) 0 (-1) 0)))
def rprsV (L : List UInt8) : Int := if rprsOk L then sv (prsMi L) (rpN (rp (Lib.trimPrefix L [45]) 0 (-1) 0)) else 0

theorem inR_big (mi : Bool) (n : Nat) (h : U64 ≤ n) : inR (sv mi n) = false := by
  unfold U64 at h
  apply inR_no
  unfold sv
  cases mi
  · right; simp; omega
  · left; simp; omega

theorem six_more : 10 ^ (6 - (max (-1 : Int) 0).toNat) = 1000000 := by decide

theorem prs_is (L : List UInt8) : prsOk L = rprsOk L ∧ (rprsOk L = true → prsN L = rpN (rp (Lib.trimPrefix L [45]) 0 (-1) 0)) := by
  unfold prsOk rprsOk prsN prsA prsB
  obtain ⟨R, hR⟩ : ∃ R, Lib.trimPrefix L [45] = R := ⟨_, rfl⟩
  obtain ⟨mi, hmi⟩ : ∃ mi, prsMi L = mi := ⟨_, rfl⟩
  rw [hR, hmi]
  rcases cut_one 46 R with ⟨h1, h2⟩ | ⟨A, B, h1, h2, h3⟩
  · rw [h2]
    have e := rp_ahead R [] 0 0 h1
    rw [List.append_nil] at e
    rw [e]
    simp only [Bool.false_eq_true, if_false]
    have r48 : rdOk [48] = true := by decide
    have v48 : rdV [48] = 0 := by decide
    rw [r48, v48, rdOk_is]
    cases hd : R.all isDg
    · simp [rpOk]
    · simp only [rp, rpOk, rpN, if_true]
      by_cases hv : vl 0 R < U64
      · rw [rdV_is hd hv]
        have e2 : vl 0 R * 1000000 + 0 * 10 ^ (6 - [(48 : UInt8)].length) = vl 0 R * 10 ^ (6 - (max (-1 : Int) 0).toNat) := by rw [six_more]; simp
        rw [e2]
        refine ⟨?_, fun _ => rfl⟩
        obtain ⟨N, hN⟩ : ∃ N, vl 0 R * 10 ^ (6 - (max (-1 : Int) 0).toNat) = N := ⟨_, rfl⟩
        rw [hN, decide_eq_true hv]
        cases R with
        | nil => simp
        | cons c R =>
          simp only [List.isEmpty_cons, List.length_cons]
          by_cases hn : N < U64
          · simp [hn]
          · rw [inR_big mi N (by omega)]
            simp
      · have h6 : vl 0 R * 1000000 = vl 0 R * 10 ^ (6 - (max (-1 : Int) 0).toNat) := by rw [six_more]
        have hb := inR_big mi (vl 0 R * 10 ^ (6 - (max (-1 : Int) 0).toNat)) (by rw [← h6]; omega)
        rw [hb, decide_eq_false hv]
        simp
  · rw [h3, h1, rp_ahead A (46 :: B) 0 0 h2]
    simp only [if_true]
    rw [rdOk_is A]
    cases hd : A.all isDg
    · simp [rpOk]
    · simp only [if_true, rp]
      rw [if_pos ⟨by decide, by omega⟩, show (0 : Int) = ((0 : Nat) : Int) from rfl, rp_behind, rdOk_is B]
      cases hdb : B.all isDg
      · simp [rpOk]
      · simp only [if_true, rpOk, rpN]
        by_cases hl : B.length ≤ 6
        · have hvb : vl 0 B < U64 := by
            refine Nat.lt_of_lt_of_le (vl_lt hdb) ?_
            exact Nat.le_trans (Nat.pow_le_pow_right (by omega) hl) (by decide)
          have e0 : (max ((0 + B.length : Nat) : Int) 0).toNat = B.length := by omega
          rw [e0, rdV_is hdb hvb]
          have e1 : vl (vl 0 A) B * 10 ^ (6 - B.length) = vl 0 A * 1000000 + vl 0 B * 10 ^ (6 - B.length) := by
            rw [vl_split, Nat.add_mul, Nat.mul_assoc, ← Nat.pow_add, show B.length + (6 - B.length) = 6 from by omega]
          rw [e1]
          by_cases hv : vl 0 A < U64
          · rw [rdV_is hd hv]
            refine ⟨?_, fun _ => rfl⟩
            obtain ⟨N, hN⟩ : ∃ N, vl 0 A * 1000000 + vl 0 B * 10 ^ (6 - B.length) = N := ⟨_, rfl⟩
            rw [hN, decide_eq_true hv, decide_eq_true hvb, decide_eq_true hl]
            have hn : (decide (N < U64) && inR (sv mi N)) = inR (sv mi N) := by
              by_cases hn : N < U64
              · simp [hn]
              · rw [inR_big mi N (by omega)]; simp
            rw [Bool.true_and, Bool.true_and, Bool.true_and, Bool.true_and, hn]
            cases A with
            | nil => simp
            | cons a A =>
              cases B with
              | nil => simp
              | cons b B =>
                have t1 : ¬ (0 + (a :: A).length = 0) := by simp
                have t2 : ¬ (((0 + (b :: B).length : Nat) : Int) = 0) := by simp; omega
                have t3 : ((0 + (b :: B).length : Nat) : Int) ≤ 6 := by omega
                rw [decide_eq_false t1, decide_eq_false t2, decide_eq_true t3]
                rfl
          · have hb := inR_big mi (vl 0 A * 1000000 + vl 0 B * 10 ^ (6 - B.length)) (by omega)
            rw [hb, decide_eq_false hv]
            simp
        · have hl2 : ¬ (((0 + B.length : Nat) : Int) ≤ 6) := by omega
          rw [decide_eq_false hl, decide_eq_false hl2]
          simp
theorem prs_ok (L : List UInt8) : rprsOk L = prsOk L := (prs_is L).1.symm
theorem prs_v (L : List UInt8) : rprsV L = prsV L := by
  unfold rprsV prsV
  rw [(prs_is L).1]
  cases h : rprsOk L
  · rfl
  · simp only [if_true]
    rw [(prs_is L).2 h]

/-- The letters of digits read as what the digits come to. -/
theorem letter_toNat {d : Nat} (h : d < 10) : (UInt8.ofNat (48 + d)).toNat = 48 + d := by simp; omega
theorem letters_dg {D : List Nat} (h : ∀ d ∈ D, d < 10) : (lettersOf D).all isDg = true := by
  unfold lettersOf
  rw [List.all_eq_true]
  intro c hc
  obtain ⟨d, hd, rfl⟩ := List.mem_map.1 hc
  have := letter_toNat (h d hd)
  simp [isDg, this]
  have := h d hd
  omega
theorem vl_letters {D : List Nat} (h : ∀ d ∈ D, d < 10) : vl 0 (lettersOf D.reverse) = dval D := by
  induction D with
  | nil => rfl
  | cons d D ih =>
    have e : lettersOf (d :: D).reverse = lettersOf D.reverse ++ [UInt8.ofNat (48 + d)] := by simp [lettersOf]
    rw [e, vl_append, ih (fun x hx => h x (by simp [hx])), vl_cons, letter_toNat (h d (by simp))]
    simp [vl, dval]
theorem dgText_dg (n least : Nat) : (dgText n least).all isDg = true := letters_dg (fun d hd => padL_lt n least d (List.mem_reverse.1 hd))
theorem dval_pad (n least : Nat) : dval (padL n least) = n := by
  unfold padL
  rw [dval_append, dval_digs]
  have : dval (List.replicate (least - (digs n).length) 0) = 0 := by
    have := dval_zeros (least - (digs n).length) []
    simpa [dval] using this
  rw [this]
  simp
theorem dgText_vl (n least : Nat) : vl 0 (dgText n least) = n := by
  unfold dgText
  rw [vl_letters (padL_lt n least), dval_pad]
theorem dg_ne {L : List UInt8} (h : L.all isDg = true) {c : UInt8} (hc : c.toNat < 48) : c ∉ L := by
  intro hm
  rw [List.all_eq_true] at h
  have := h c hm
  simp [isDg] at this
  omega
theorem dgText_ne (n least : Nat) (hl : 0 < least) : dgText n least ≠ [] := by
  intro e
  have h1 := congrArg List.length e
  have h2 : (dgText n least).length = (padL n least).length := by simp [dgText, lettersOf]
  rw [h2, padL_len] at h1
  simp at h1
  omega
theorem dgText_six {n : Nat} (h : n < 1000000) : (dgText n 6).length = 6 := by
  have := digs_length_le (n := n) (k := 6) (by omega)
  simp [dgText, lettersOf, padL]
  omega
theorem vl_zeros (n g : Nat) : vl n (List.replicate g 48) = n * 10 ^ g := by
  induction g generalizing n with
  | zero => simp [vl]
  | succ g ih =>
    rw [List.replicate_succ, vl_cons, ih, Nat.pow_succ]
    have : (48 : UInt8).toNat - 48 + 10 * n = n * 10 := by simp; omega
    rw [this, Nat.mul_assoc, Nat.mul_comm 10]

theorem txt_ok (d : Int) (hlo : -9223372036854775808 ≤ d) (hhi : d ≤ 9223372036854775807) : rprsOk (txt d) = true ∧ rprsV (txt d) = d := by
  obtain ⟨a, ha⟩ : ∃ a, d.natAbs = a := ⟨_, rfl⟩
  obtain ⟨q, hq⟩ : ∃ q, a / 1000000 = q := ⟨_, rfl⟩
  obtain ⟨r, hr⟩ : ∃ r, a % 1000000 = r := ⟨_, rfl⟩
  have hr6 : r < 1000000 := by omega
  have haq : q * 1000000 + r = a := by omega
  obtain ⟨A, hA⟩ : ∃ A, dgText q 1 = A := ⟨_, rfl⟩
  have hAd : A.all isDg = true := by rw [← hA]; exact dgText_dg q 1
  have hAv : vl 0 A = q := by rw [← hA]; exact dgText_vl q 1
  have hAn : A ≠ [] := by rw [← hA]; exact dgText_ne q 1 (by omega)
  have hA46 : (46 : UInt8) ∉ A := dg_ne hAd (by decide)
  have hA45 : (45 : UInt8) ∉ A := dg_ne hAd (by decide)
  obtain ⟨F, hF⟩ : ∃ F, (if 0 < r then 46 :: Lib.trimRightB (dgText r 6) 48 else []) = F := ⟨_, rfl⟩
  have ht : txt d = (if d < 0 then [45] else []) ++ A ++ F := by
    unfold txt
    rw [ha, hq, hr, hA, hF]
  obtain ⟨c, A2, rfl⟩ : ∃ c A2, A = c :: A2 := by
    cases A with
    | nil => exact absurd rfl hAn
    | cons c A2 => exact ⟨c, A2, rfl⟩
  have hc45 : c ≠ 45 := by intro e; exact hA45 (by simp [e])
  have hmi : prsMi (txt d) = decide (d < 0) := by
    unfold prsMi Lib.hasPrefix
    rw [ht]
    by_cases h : d < 0
    · rw [if_pos h, decide_eq_true h]; simp
    · rw [if_neg h, decide_eq_false h]
      have hb : ((45 : UInt8) == c) = false := by rw [beq_eq_false_iff_ne]; exact Ne.symm hc45
      show ([45] : List UInt8).isPrefixOf (c :: (A2 ++ F)) = false
      simp only [List.isPrefixOf, hb, Bool.false_and]
  have htp : Lib.trimPrefix (txt d) [45] = (c :: A2) ++ F := by
    unfold Lib.trimPrefix
    have hm := hmi
    unfold prsMi at hm
    rw [hm, ht]
    by_cases h : d < 0
    · rw [if_pos (decide_eq_true h), if_pos h]; simp
    · rw [if_neg (by simpa using h), if_neg h]; simp
  have hrp : rpOk (rp ((c :: A2) ++ F) 0 (-1) 0) = true ∧ rpN (rp ((c :: A2) ++ F) 0 (-1) 0) = a := by
    rw [rp_ahead (c :: A2) F 0 0 hA46, hAd, hAv]
    simp only [if_true]
    rcases Nat.eq_zero_or_pos r with h0 | h0
    · rw [if_neg (by omega)] at hF
      subst hF
      refine ⟨by simp [rp, rpOk], ?_⟩
      have : q * 10 ^ (6 - (max (-1 : Int) 0).toNat) = q * 1000000 := by rw [six_more]
      simp only [rp, rpN]
      omega
    · rw [if_pos h0] at hF
      subst hF
      obtain ⟨T, hT⟩ : ∃ T, dgText r 6 = T := ⟨_, rfl⟩
      have hTd : T.all isDg = true := by rw [← hT]; exact dgText_dg r 6
      have hTv : vl 0 T = r := by rw [← hT]; exact dgText_vl r 6
      have hTl : T.length = 6 := by rw [← hT]; exact dgText_six hr6
      obtain ⟨C, y, hC, hy⟩ := trim_last T 48 (by rw [← hT]; exact dgText_some (by omega))
      obtain ⟨g, hg⟩ := trim_split T 48
      rw [hT]
      obtain ⟨B, hB⟩ : ∃ B, Lib.trimRightB T 48 = B := ⟨_, rfl⟩
      rw [hB] at hC hg ⊢
      have hBd : B.all isDg = true := by
        rw [hg, List.all_append, Bool.and_eq_true] at hTd
        exact hTd.1
      have hBg : B.length + g = 6 := by
        rw [← hTl, hg]; simp
      have hB1 : 1 ≤ B.length := by rw [hC]; simp
      have hBv : vl 0 B * 10 ^ g = r := by
        rw [← hTv, hg, vl_append, vl_zeros]
      rw [rp, if_pos ⟨by decide, by omega⟩, show (0 : Int) = ((0 : Nat) : Int) from rfl, rp_behind, hBd]
      simp only [if_true, rpOk, rpN]
      have e0 : (max ((0 + B.length : Nat) : Int) 0).toNat = B.length := by omega
      have t1 : ¬ (0 + (c :: A2).length = 0) := by simp
      have t2 : ¬ (((0 + B.length : Nat) : Int) = 0) := by omega
      have t3 : ((0 + B.length : Nat) : Int) ≤ 6 := by omega
      refine ⟨by rw [decide_eq_false t1, decide_eq_false t2, decide_eq_true t3]; rfl, ?_⟩
      rw [e0, vl_split, Nat.add_mul, Nat.mul_assoc, ← Nat.pow_add, show B.length + (6 - B.length) = 6 from by omega, show 6 - B.length = g from by omega, hBv]
      omega
  have hsv : sv (decide (d < 0)) a = d := by
    unfold sv
    by_cases h : d < 0
    · rw [decide_eq_true h]; simp; omega
    · rw [decide_eq_false h]; simp; omega
  have hok : rprsOk (txt d) = true := by
    unfold rprsOk
    rw [htp, hmi, hrp.1, hrp.2, hsv, inR_yes hlo hhi]
    rfl
  refine ⟨hok, ?_⟩
  unfold rprsV
  rw [hok, htp, hmi, hrp.2, hsv]
  rfl
theorem txt_prs (d : Int) (hlo : -9223372036854775808 ≤ d) (hhi : d ≤ 9223372036854775807) : prsV (txt d) = d ∧ prsOk (txt d) = true := by
  obtain ⟨h1, h2⟩ := txt_ok d hlo hhi
  rw [prs_ok] at h1
  rw [prs_v] at h2
  exact ⟨h2, h1⟩
end Go.Proofs.YtilajcibjlcffaaGreatDoor
