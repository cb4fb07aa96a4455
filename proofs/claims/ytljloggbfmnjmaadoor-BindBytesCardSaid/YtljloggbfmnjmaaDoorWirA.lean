/- Wire: numbers by sevens of bits: plain laws. No program. -/
import Derived.WalkKit
set_option linter.unusedSimpArgs false
set_option linter.unusedVariables false
namespace Go.Proofs.YtljloggbfmnjmaaDoor

/-- A number of bytes, from the i-th on, the ones ahead being n: as the program takes it. -/
def numL : Nat → Nat → List UInt8 → Option (Nat × List UInt8)
  | _, _, [] => none
  | i, n, c :: r => if (i = 9 ∧ 1 < c.toNat) ∨ (0 < i ∧ c.toNat = 0) then none
    else if c.toNat < 128 then some (n + c.toNat % 128 * 128 ^ i, r) else numL (i + 1) (n + c.toNat % 128 * 128 ^ i) r
def numD (L : List UInt8) : Option (Nat × List UInt8) := numL 0 0 L
/-- A number's bytes. -/
def numEF : Nat → Nat → List UInt8
  | 0, _ => []
  | f + 1, n => if n < 128 then [UInt8.ofNat n] else UInt8.ofNat (n % 128 + 128) :: numEF f (n / 128)
def numE (n : Nat) : List UInt8 := numEF 10 n
/-- What bytes come to. -/
def valB : List UInt8 → Nat
  | [] => 0
  | c :: r => c.toNat % 128 + 128 * valB r
theorem valB_snoc (A : List UInt8) (c : UInt8) : valB (A ++ [c]) = valB A + c.toNat % 128 * 128 ^ A.length := by
  induction A with
  | nil => simp [valB]
  | cons a A ih =>
    rw [List.cons_append, valB, valB, ih, List.length_cons, Nat.pow_succ, Nat.mul_add]
    have : 128 * (c.toNat % 128 * 128 ^ A.length) = c.toNat % 128 * (128 ^ A.length * 128) := by
      rw [Nat.mul_left_comm, Nat.mul_comm 128]
    omega
theorem valB_lt (A : List UInt8) : valB A < 128 ^ A.length := by
  induction A with
  | nil => decide
  | cons a A ih =>
    rw [valB, List.length_cons, Nat.pow_succ]
    have : a.toNat % 128 < 128 := Nat.mod_lt _ (by omega)
    omega
theorem u8_of {n : Nat} (h : n < 256) : (UInt8.ofNat n).toNat = n := by simp; omega
/-- Bytes that are a number's, written so. -/
theorem enc_dec : ∀ (A : List UInt8) (c : UInt8) (f : Nat), (∀ a ∈ A, 128 ≤ a.toNat) → c.toNat < 128 → (A = [] ∨ c.toNat ≠ 0) → A.length < f → numEF f (valB (A ++ [c])) = A ++ [c]
  | [], c, f, _, hc, _, hf => by
    cases f with
    | zero => cases hf
    | succ f =>
      have : valB ([] ++ [c]) = c.toNat := by simp [valB]; omega
      rw [this, numEF, if_pos hc]
      simp
  | a :: A, c, f, hA, hc, h0, hf => by
    cases f with
    | zero => cases hf
    | succ f =>
      have hc0 : c.toNat ≠ 0 := by
        rcases h0 with h | h
        · cases h
        · exact h
      have ha := hA a (List.mem_cons_self ..)
      have hal : a.toNat < 256 := a.toNat_lt
      have hv : 1 ≤ valB (A ++ [c]) := by
        rw [valB_snoc]
        have h1 : 1 ≤ c.toNat % 128 := by omega
        have h2 : 1 ≤ 128 ^ A.length := Nat.pow_pos (by omega)
        have := Nat.mul_le_mul h1 h2
        omega
      have ih := enc_dec A c f (fun x hx => hA x (List.mem_cons_of_mem _ hx)) hc (.inr hc0) (by simpa using hf)
      show numEF (f + 1) (valB (a :: (A ++ [c]))) = a :: (A ++ [c])
      rw [valB, numEF, if_neg (by omega)]
      have e1 : (a.toNat % 128 + 128 * valB (A ++ [c])) % 128 + 128 = a.toNat := by omega
      have e2 : (a.toNat % 128 + 128 * valB (A ++ [c])) / 128 = valB (A ++ [c]) := by omega
      rw [e1, e2, ih]
      congr 1
      exact UInt8.toNat_inj.1 (by rw [u8_of hal])
theorem dec_enc : ∀ (f n : Nat), n < 128 ^ f → valB (numEF f n) = n
  | 0, n, h => by
    have : n = 0 := by simpa using h
    subst this
    rfl
  | f + 1, n, h => by
    rw [numEF]
    by_cases h1 : n < 128
    · rw [if_pos h1]
      simp only [valB]
      rw [u8_of (by omega)]
      omega
    · rw [if_neg h1, valB, dec_enc f (n / 128) (by rw [Nat.pow_succ] at h; omega), u8_of (by omega)]
      omega
/-- The last byte is no nought, but for nought itself; the ones ahead are great. -/
theorem enc_form : ∀ (f n : Nat), n < 128 ^ f → 0 < f → ∃ A c, numEF f n = A ++ [c] ∧ (∀ a ∈ A, 128 ≤ a.toNat) ∧ c.toNat < 128 ∧ (A = [] ∨ c.toNat ≠ 0) ∧ (n ≠ 0 → c.toNat ≠ 0)
  | 0, n, h, h0 => by cases h0
  | f + 1, n, h, _ => by
    rw [numEF]
    by_cases h1 : n < 128
    · rw [if_pos h1]
      have e : (UInt8.ofNat n).toNat = n := u8_of (by omega)
      exact ⟨[], UInt8.ofNat n, rfl, by simp, by omega, .inl rfl, fun hn => by omega⟩
    · rw [if_neg h1]
      have hf : 0 < f := by
        rcases Nat.eq_zero_or_pos f with h2 | h2
        · subst h2
          simp at h
          omega
        · exact h2
      obtain ⟨A, c, hA, h2, h3, h4, h5⟩ := enc_form f (n / 128) (by rw [Nat.pow_succ] at h; omega) hf
      have hc0 := h5 (by omega)
      refine ⟨UInt8.ofNat (n % 128 + 128) :: A, c, by rw [hA]; rfl, ?_, h3, .inr hc0, fun _ => hc0⟩
      intro a ha
      rcases List.mem_cons.1 ha with rfl | ha
      · rw [u8_of (by omega)]
        omega
      · exact h2 a ha
theorem snoc_inj {A B : List UInt8} {a b : UInt8} (h : A ++ [a] = B ++ [b]) : A = B ∧ a = b := by
  have := List.append_inj' h rfl
  exact ⟨this.1, by simpa using this.2⟩
/-- The document's number of bytes: what the ones ahead are (pre), what they come to (n, modulo 2^64 at the end). -/
def tkR : Nat → Nat → List UInt8 → List UInt8 → Option (Nat × Nat)
  | _, _, _, [] => none
  | i, n, pre, c :: r => if c.toNat < 128 then (if numE ((n + c.toNat % 128 * 128 ^ i) % 18446744073709551616) = pre ++ [c] then some ((n + c.toNat % 128 * 128 ^ i) % 18446744073709551616, i + 1) else none)
    else if i + 1 < 10 then tkR (i + 1) (n + c.toNat % 128 * 128 ^ i) (pre ++ [c]) r else none
theorem numL_le : ∀ (L : List UInt8) (i n v : Nat) (r : List UInt8), numL i n L = some (v, r) → r.length < L.length
  | [], _, _, _, _, h => by cases h
  | c :: q, i, n, v, r, h => by
    rw [numL] at h
    rw [List.length_cons]
    by_cases hb : (i = 9 ∧ 1 < c.toNat) ∨ (0 < i ∧ c.toNat = 0)
    · rw [if_pos hb] at h; cases h
    · rw [if_neg hb] at h
      by_cases h1 : c.toNat < 128
      · rw [if_pos h1] at h
        injection h with h
        injection h with h2 h3
        subst h3
        omega
      · rw [if_neg h1] at h
        have := numL_le q _ _ _ _ h
        omega
theorem p128_9 : (128 : Nat) ^ 9 = 9223372036854775808 := by decide
theorem p128_10 : (128 : Nat) ^ 10 = 1180591620717411303424 := by decide
theorem tkR_is : ∀ (L : List UInt8) (i : Nat) (pre : List UInt8), pre.length = i → i < 10 → (∀ a ∈ pre, 128 ≤ a.toNat) →
    tkR i (valB pre) pre L = (numL i (valB pre) L).map fun x => (x.1, i + (L.length - x.2.length))
  | [], i, pre, _, _, _ => rfl
  | c :: r, i, pre, hl, hi, hp => by
    have hcl : c.toNat < 256 := c.toNat_lt
    have hvp := valB_lt pre
    rw [hl] at hvp
    have hV : valB pre + c.toNat % 128 * 128 ^ i = valB (pre ++ [c]) := by rw [valB_snoc, hl]
    rw [tkR, numL, hV]
    by_cases h1 : c.toNat < 128
    · rw [if_pos h1, if_pos h1]
      have hpi : (128 : Nat) ^ i ≤ 128 ^ 9 := Nat.pow_le_pow_right (by omega) (by omega)
      rw [p128_9] at hpi
      by_cases hb : (i = 9 ∧ 1 < c.toNat) ∨ (0 < i ∧ c.toNat = 0)
      · rw [if_pos hb, if_neg]
        · rfl
        · intro he
          have hx : valB (pre ++ [c]) % 18446744073709551616 < 128 ^ 10 := by rw [p128_10]; omega
          obtain ⟨A, d, hA, a1, a2, a3, a4⟩ := enc_form 10 _ hx (by omega)
          have hd := dec_enc 10 _ hx
          have he' : numEF 10 (valB (pre ++ [c]) % 18446744073709551616) = pre ++ [c] := he
          rw [he'] at hA hd
          obtain ⟨rfl, rfl⟩ := snoc_inj hA
          rcases hb with ⟨rfl, hc⟩ | ⟨h0, hc⟩
          · rw [valB_snoc, hl, p128_9] at hd
            have : 2 * 9223372036854775808 ≤ c.toNat % 128 * 9223372036854775808 := Nat.mul_le_mul_right _ (by omega)
            omega
          · rcases a3 with h | h
            · rw [h] at hl
              simp at hl
              omega
            · exact h hc
      · rw [if_neg hb]
        have hlt : valB (pre ++ [c]) < 18446744073709551616 := by
          rw [← hV]
          by_cases h9 : i = 9
          · subst h9
            rw [p128_9] at hvp ⊢
            have : c.toNat % 128 * 9223372036854775808 ≤ 1 * 9223372036854775808 := Nat.mul_le_mul_right _ (by omega)
            omega
          · have h8 : (128 : Nat) ^ (i + 1) ≤ 128 ^ 9 := Nat.pow_le_pow_right (by omega) (by omega)
            have h7 := valB_lt (pre ++ [c])
            rw [List.length_append, hl] at h7
            rw [hV]
            rw [p128_9] at h8
            exact Nat.lt_of_lt_of_le h7 (Nat.le_trans h8 (by omega))
        rw [Nat.mod_eq_of_lt hlt]
        have henc : numE (valB (pre ++ [c])) = pre ++ [c] := enc_dec pre c 10 hp h1 (by
          rcases Nat.eq_zero_or_pos i with h0 | h0
          · left; exact List.eq_nil_of_length_eq_zero (by omega)
          · right; intro hc; exact hb (.inr ⟨h0, hc⟩)) (by omega)
        rw [if_pos henc]
        simp
    · rw [if_neg h1, if_neg h1]
      by_cases h9 : i = 9
      · subst h9
        rw [if_neg (by omega), if_pos (.inl ⟨rfl, by omega⟩)]
        rfl
      · rw [if_pos (by omega), if_neg (by omega)]
        have ih := tkR_is r (i + 1) (pre ++ [c]) (by simp [hl]) (by omega) (by
          intro a ha
          rcases List.mem_append.1 ha with h | h
          · exact hp a h
          · have : a = c := by simpa using h
            subst this
            omega)
        rw [ih]
        have hrest := fun v q h => numL_le r (i + 1) (valB (pre ++ [c])) v q h
        cases hN : numL (i + 1) (valB (pre ++ [c])) r with
        | none => rfl
        | some x =>
          obtain ⟨v, q⟩ := x
          have := hrest v q hN
          simp only [Option.map_some, List.length_cons]
          congr 2
          omega
/-- How great a number is that is taken. -/
theorem numL_lt : ∀ (L : List UInt8) (i n v : Nat) (r : List UInt8), i < 10 → n < 128 ^ i → numL i n L = some (v, r) → v < 18446744073709551616
  | [], _, _, _, _, _, _, h => by cases h
  | c :: q, i, n, v, r, hi, hn, h => by
    have hcl : c.toNat < 256 := c.toNat_lt
    rw [numL] at h
    by_cases hb : (i = 9 ∧ 1 < c.toNat) ∨ (0 < i ∧ c.toNat = 0)
    · rw [if_pos hb] at h; cases h
    · rw [if_neg hb] at h
      by_cases h1 : c.toNat < 128
      · rw [if_pos h1] at h
        injection h with h
        injection h with h2 h3
        subst h2
        by_cases h9 : i = 9
        · subst h9
          rw [p128_9] at hn ⊢
          have : c.toNat % 128 * 9223372036854775808 ≤ 1 * 9223372036854775808 := Nat.mul_le_mul_right _ (by omega)
          omega
        · have h8 : (128 : Nat) ^ i ≤ 128 ^ 8 := Nat.pow_le_pow_right (by omega) (by omega)
          have h7 : (128 : Nat) ^ 8 = 72057594037927936 := by decide
          have h6 : c.toNat % 128 * 128 ^ i ≤ 127 * 72057594037927936 := Nat.mul_le_mul (by omega) (by omega)
          omega
      · rw [if_neg h1] at h
        have h9 : i ≠ 9 := fun e => hb (.inl ⟨e, by omega⟩)
        refine numL_lt q (i + 1) _ v r (by omega) ?_ h
        have : c.toNat % 128 * 128 ^ i ≤ 127 * 128 ^ i := Nat.mul_le_mul_right _ (by omega)
        rw [Nat.pow_succ]
        omega
theorem numD_lt {L : List UInt8} {v : Nat} {r : List UInt8} (h : numD L = some (v, r)) : v < 18446744073709551616 := numL_lt L 0 0 v r (by omega) (by decide) h
/-- A number that is not above another one. -/
def intD (most : Nat) (L : List UInt8) : Option (Nat × List UInt8) := match numD L with
  | none => none
  | some (n, r) => if most < n then none else some (n, r)
/-- Bytes that have their number ahead. -/
def bytD (L : List UInt8) : Option (List UInt8 × List UInt8) := match intD 65536 L with
  | none => none
  | some (n, r) => if r.length < n then none else some (r.take n, r.drop n)
end Go.Proofs.YtljloggbfmnjmaaDoor
