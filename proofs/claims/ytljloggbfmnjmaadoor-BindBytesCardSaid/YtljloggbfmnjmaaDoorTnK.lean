/- Trees over stamps taken from bytes: plain: what is taken is good, and the program's check is the document's. -/
import Derived.Test.YtljloggbfmnjmaaDoorTnI
set_option linter.unusedSimpArgs false
set_option linter.unusedVariables false
namespace Go.Proofs.YtljloggbfmnjmaaDoor
open Go.RowKit Go.Joins

theorem headT_mono {n : Bn} {lv lv' : Int} (h : lv ≤ lv') (hh : headT n lv = true) : headT n lv' = true := by
  unfold headT at hh ⊢
  rw [Bool.and_eq_true] at hh ⊢
  exact ⟨by have := hh.1; simp only [decide_eq_true_eq] at this ⊢; omega, hh.2⟩
mutual
theorem rtT_mono : ∀ (n : Bn) (lv lv' : Int), lv ≤ lv' → rtT n lv = true → rtT n lv' = true
  | .mk k u t f o a, lv, lv', h, hr => by
    rw [rtT] at hr ⊢
    rw [Bool.and_eq_true, Bool.and_eq_true] at hr ⊢
    exact ⟨⟨headT_mono h hr.1.1, hr.1.2⟩, rtTL_mono a (lv - 1) (lv' - 1) (by omega) hr.2⟩
theorem rtTL_mono : ∀ (a : List Bn) (lv lv' : Int), lv ≤ lv' → rtTL a lv = true → rtTL a lv' = true
  | [], lv, lv', h, hr => by rw [rtTL]
  | c :: r, lv, lv', h, hr => by
    rw [rtTL, Bool.and_eq_true] at hr ⊢
    exact ⟨rtT_mono c lv lv' h hr.1, rtTL_mono r lv lv' h hr.2⟩
end
mutual
theorem rg_st : ∀ (n : Bn) (lv : Int), lv ≤ 64 → rtT n lv = true → rgN n = stB n
  | .mk k u t f o a, lv, h, hr => by
    have h64 := rtT_mono _ lv 64 h hr
    rw [rgN, stB, h64, Bool.true_and]
    rw [rtT, Bool.and_eq_true] at hr
    rw [rg_stL a (lv - 1) (by omega) hr.2]
theorem rg_stL : ∀ (a : List Bn) (lv : Int), lv ≤ 64 → rtTL a lv = true → rgN.rgL a = stBL a
  | [], lv, h, hr => by rw [rgN.rgL, stBL]
  | c :: r, lv, h, hr => by
    rw [rtTL, Bool.and_eq_true] at hr
    rw [rgN.rgL, stBL, rg_st c lv h hr.1, rg_stL r lv h hr.2]
end
theorem rg_is (n : Bn) : rgN n = (stB n && rtT n 64) := by
  cases h : rtT n 64 with
  | true => rw [rg_st n 64 (by omega) h, Bool.and_true]
  | false => rw [rgN_eq, h]; cases stB n <;> rfl
/-- What both take. -/
def takB (L : List UInt8) : Option (Bn × List UInt8) := (rkN 64 L).bind fun x => if rgN x.1 = true then some x else none
theorem takB_prog (L : List UInt8) : takB L = (tkN 64 L).bind fun x => if rtT x.1 64 = true then some x else none := by
  unfold takB
  rw [tkN_is]
  cases rkN 64 L with
  | none => rfl
  | some x =>
    simp only [Option.bind_some]
    rw [rg_is]
    cases hA : stB x.1 <;> cases hB : rtT x.1 64 <;> simp [hA, hB]
/-! What is taken is good. -/
theorem wrap64_rng (z : Int) : -9223372036854775808 ≤ wrap64 z ∧ wrap64 z ≤ 9223372036854775807 := by
  unfold wrap64
  omega
theorem bytR_len (S : Option (List UInt8)) : (bytR S).1.length ≤ 65536 := by
  have h := intR_le 65536 S
  rw [bytR_is]
  split
  · exact Nat.zero_le _
  · rename_i n r e
    rw [e] at h
    have h : n ≤ 65536 := h
    split
    · exact Nat.zero_le _
    · simp only [List.length_take]
      omega
theorem stR_pos (S : Option (List UInt8)) : 0 ≤ (stR S).1.1 := by
  show (0 : Int) ≤ ((numR S).1 : Nat)
  omega
theorem prR_pos (S : Option (List UInt8)) : 0 ≤ (prR S).1.1.1 ∧ 0 ≤ (prR S).1.2.1 := ⟨stR_pos S, stR_pos _⟩
theorem cP_le (k : Nat) (S : Option (List UInt8)) : (cP k S).1 ≤ 16 := by
  unfold cP
  split
  · exact intR_le 16 S
  · unfold cntK; split
    · show 1 ≤ 16; omega
    · split
      · show 2 ≤ 16; omega
      · show 0 ≤ 16; omega
theorem hdQ_good (k : Nat) (S : Option (List UInt8)) : (hdQ k S).t.length ≤ 100000 ∧ (-9223372036854775808 ≤ (hdQ k S).u ∧ (hdQ k S).u ≤ 9223372036854775807) ∧ (0 ≤ (hdQ k S).f.1.1 ∧ 0 ≤ (hdQ k S).f.2.1 ∧ 0 ≤ (hdQ k S).g.1.1 ∧ 0 ≤ (hdQ k S).g.2.1) := by
  have hb := bytR_len S
  have h1 := prR_pos S
  have h2 := prR_pos (prR S).2
  unfold hdQ
  repeat' split
  · exact ⟨Nat.zero_le _, wrap64_rng _, by simp⟩
  · exact ⟨by show (bytR S).1.length ≤ _; omega, by simp, by simp⟩
  · exact ⟨Nat.zero_le _, by simp, h1.1, h1.2, by simp, by simp⟩
  · exact ⟨Nat.zero_le _, by simp, h1.1, h1.2, h2.1, h2.2⟩
  · exact ⟨Nat.zero_le _, by simp, by simp⟩
theorem tkL_good {F : List UInt8 → Option (Bn × List UInt8)} (hF : ∀ L n r, F L = some (n, r) → Gd n ∧ r.length ≤ L.length) : ∀ c L q r, tkL F c L = some (q, r) → q.length = c ∧ (∀ x ∈ q, Gd x) ∧ r.length ≤ L.length
  | 0, L, q, r, h => by
    rw [tkL] at h
    cases h
    exact ⟨rfl, fun x hx => (by cases hx), Nat.le_refl _⟩
  | c + 1, L, q, r, h => by
    rw [tkL_succ] at h
    cases hf : F L with
    | none => rw [hf] at h; cases h
    | some x =>
      obtain ⟨n, r1⟩ := x
      rw [hf, Option.bind_some] at h
      cases ht : tkL F c r1 with
      | none => rw [ht] at h; cases h
      | some y =>
        obtain ⟨q2, r2⟩ := y
        rw [ht] at h
        cases h
        obtain ⟨g1, g2⟩ := hF L n r1 hf
        obtain ⟨g3, g4, g5⟩ := tkL_good hF c r1 q2 _ ht
        refine ⟨by simp [g3], fun x hx => ?_, Nat.le_trans g5 g2⟩
        rcases List.mem_cons.1 hx with rfl | hx
        · exact g1
        · exact g4 x hx
theorem intR_rest {m : Nat} {S : Option (List UInt8)} {k : Nat} {L' : List UInt8} (h : intR m S = (k, some L')) : ∃ L, S = some L ∧ L'.length ≤ L.length := by
  cases S with
  | none => cases h
  | some L =>
    refine ⟨L, rfl, ?_⟩
    unfold intR at h
    simp only [] at h
    cases hi : intD m L with
    | none => rw [hi] at h; cases h
    | some x =>
      obtain ⟨v, r⟩ := x
      rw [hi] at h
      cases h
      unfold intD at hi
      cases hn : numD L with
      | none => rw [hn] at hi; cases hi
      | some y =>
        obtain ⟨v2, r2⟩ := y
        rw [hn] at hi
        simp only [] at hi
        split at hi
        · cases hi
        · cases hi
          have := numL_le _ _ _ _ _ hn
          omega
theorem numR_rest {S : Option (List UInt8)} {k : Nat} {L' : List UInt8} (h : numR S = (k, some L')) : ∃ L, S = some L ∧ L'.length ≤ L.length := by
  rw [← intR_num] at h
  exact intR_rest h
theorem bytR_rest {S : Option (List UInt8)} {t L' : List UInt8} (h : bytR S = (t, some L')) : ∃ L, S = some L ∧ L'.length ≤ L.length := by
  rw [bytR_is] at h
  obtain ⟨⟨n, O⟩, hi⟩ : ∃ x, intR 65536 S = x := ⟨_, rfl⟩
  rw [hi] at h
  cases O with
  | none => cases h
  | some r =>
    simp only [] at h
    split at h
    · cases h
    · cases h
      obtain ⟨L, h1, h2⟩ := intR_rest hi
      exact ⟨L, h1, by rw [List.length_drop]; omega⟩
theorem stR_rest {S : Option (List UInt8)} {x : Idp} {L' : List UInt8} (h : stR S = (x, some L')) : ∃ L, S = some L ∧ L'.length ≤ L.length := by
  have h2 : intR 64 (numR S).2 = ((intR 64 (numR S).2).1, some L') := by
    have : (intR 64 (numR S).2).2 = some L' := congrArg Prod.snd h
    rw [← this]
  obtain ⟨L1, e1, h3⟩ := intR_rest h2
  have h4 : numR S = ((numR S).1, some L1) := by rw [← e1]
  obtain ⟨L, e2, h5⟩ := numR_rest h4
  exact ⟨L, e2, by omega⟩
theorem prR_rest {S : Option (List UInt8)} {x : Idp × Idp} {L' : List UInt8} (h : prR S = (x, some L')) : ∃ L, S = some L ∧ L'.length ≤ L.length := by
  have h2 : stR (stR S).2 = ((stR (stR S).2).1, some L') := by
    have : (stR (stR S).2).2 = some L' := congrArg Prod.snd h
    rw [← this]
  obtain ⟨L1, e1, h3⟩ := stR_rest h2
  have h4 : stR S = ((stR S).1, some L1) := by rw [← e1]
  obtain ⟨L, e2, h5⟩ := stR_rest h4
  exact ⟨L, e2, by omega⟩
theorem hdQ_rest {k : Nat} {S : Option (List UInt8)} {L' : List UInt8} (h : (hdQ k S).S = some L') : ∃ L, S = some L ∧ L'.length ≤ L.length := by
  unfold hdQ at h
  repeat' split at h
  · exact numR_rest (k := (numR S).1) (by rw [← show (numR S).2 = some L' from h])
  · exact bytR_rest (t := (bytR S).1) (by rw [← show (bytR S).2 = some L' from h])
  · exact prR_rest (x := (prR S).1) (by rw [← show (prR S).2 = some L' from h])
  · obtain ⟨L1, e1, h3⟩ := prR_rest (x := (prR (prR S).2).1) (S := (prR S).2) (L' := L') (by rw [← show (prR (prR S).2).2 = some L' from h])
    obtain ⟨L, e2, h5⟩ := prR_rest (x := (prR S).1) (S := S) (L' := L1) (by rw [← e1])
    exact ⟨L, e2, by omega⟩
  · exact ⟨L', h, Nat.le_refl _⟩
theorem rkN_good : ∀ d L n r, rkN d L = some (n, r) → Gd n ∧ r.length ≤ L.length
  | 0, L, n, r, h => by rw [rkN] at h; cases h
  | d + 1, L, n, r, h => by
    rw [rkN] at h
    obtain ⟨⟨k, O⟩, hi⟩ : ∃ x, intR 8 (some L) = x := ⟨_, rfl⟩
    rw [hi] at h
    cases O with
    | none => cases h
    | some L1 =>
      simp only [] at h
      split at h
      · cases h
      · obtain ⟨⟨c, O3⟩, hc⟩ : ∃ x, cP k (hdQ k (some L1)).S = x := ⟨_, rfl⟩
        have hc16 := cP_le k (hdQ k (some L1)).S
        rw [hc] at h hc16
        cases O3 with
        | none => cases h
        | some L3 =>
          simp only [] at h
          cases ht : tkL (rkN d) c L3 with
          | none => rw [ht] at h; cases h
          | some y =>
            obtain ⟨q, r2⟩ := y
            rw [ht] at h
            simp only [Option.map_some, Option.some.injEq, Prod.mk.injEq] at h
            obtain ⟨rfl, rfl⟩ := h
            obtain ⟨g3, g4, g5⟩ := tkL_good (fun L n r => rkN_good d L n r) c L3 q r2 ht
            obtain ⟨h1, h2, h3⟩ := hdQ_good k (some L1)
            have hc16 : c ≤ 16 := hc16
            refine ⟨.mk _ _ _ _ _ _ h1 (by omega) h2 h3 g4, ?_⟩
            obtain ⟨LA, eA, hA⟩ := intR_rest hi
            cases eA
            have hL3 : ∃ L', (hdQ k (some L1)).S = some L' ∧ L3.length ≤ L'.length := by
              unfold cP at hc
              split at hc
              · exact intR_rest hc
              · exact ⟨L3, (Prod.mk.inj hc).2, Nat.le_refl _⟩
            obtain ⟨L', e', h'⟩ := hL3
            obtain ⟨LB, eB, hB⟩ := hdQ_rest e'
            cases eB
            omega
end Go.Proofs.YtljloggbfmnjmaaDoor
