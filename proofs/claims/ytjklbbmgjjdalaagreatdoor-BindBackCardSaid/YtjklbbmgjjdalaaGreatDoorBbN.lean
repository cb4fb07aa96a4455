/- Wire: numbers by sevens of bits: plain laws. No program. Wire: a reader in memory: Read, spoil, Fine, Left, Num, Int. Wire: slices.Clone of bytes; a reader's Bytes, Text. -/
import Derived.WalkKit
import Derived.Test.YtjklbbmgjjdalaaGreatDoorBbE
import Derived.Test.YtjklbbmgjjdalaaGreatDoorBbA
import Derived.Test.YtjklbbmgjjdalaaGreatDoorBbL
import Derived.Deep.DeepCutAuto
import Derived.Deep.LoopGhost
import Derived.Lib.Hide
import Derived.IntWalk
import Derived.Lib.ItoaNum
import Derived.WalkSpells
import Derived.Lib.ConvBytes
import Derived.Laws.BytesArg
import Derived.Laws.IdiomStrings
set_option linter.unusedSimpArgs false
set_option linter.unusedVariables false
namespace Go.Proofs.YtjklbbmgjjdalaaGreatDoor.Bd
def numL : Nat → Nat → List UInt8 → Option (Nat × List UInt8)
  | _, _, [] => none
  | i, n, c :: r => if (i = 9 ∧ 1 < c.toNat) ∨ (0 < i ∧ c.toNat = 0) then none
    else if c.toNat < 128 then some (n + c.toNat % 128 * 128 ^ i, r) else numL (i + 1) (n + c.toNat % 128 * 128 ^ i) r
def numD (L : List UInt8) : Option (Nat × List UInt8) := numL 0 0 L
def numEF : Nat → Nat → List UInt8
  | 0, _ => []
  | f + 1, n => if n < 128 then [UInt8.ofNat n] else UInt8.ofNat (n % 128 + 128) :: numEF f (n / 128)
def numE (n : Nat) : List UInt8 := numEF 10 n
def valB : List UInt8 → Nat
  | [] => 0
  | c :: r => c.toNat % 128 + 128 * valB r
theorem valB_snoc (A : List UInt8) (c : UInt8) : valB (A ++ [c]) = valB A + c.toNat % 128 * 128 ^ A.length := by
  induction A with
  | nil => simp [valB]
  | cons a A ih =>
    rw [List.cons_append, valB, valB, ih, List.length_cons, Nat.pow_succ, Nat.mul_add]
    have : 128 * (c.toNat % 128 * 128 ^ A.length) = c.toNat % 128 * (128 ^ A.length * 128) := by
      rw [Nat.mul_left_comm, Nat.mul_comm 128]
    omega
theorem u8_of {n : Nat} (h : n < 256) : (UInt8.ofNat n).toNat = n := by simp; omega
theorem dec_enc : ∀ (f n : Nat), n < 128 ^ f → valB (numEF f n) = n
  | 0, n, h => by
    have : n = 0 := by simpa using h
    subst this
    rfl
  | f + 1, n, h => by
    rw [numEF]
    by_cases h1 : n < 128
    · rw [if_pos h1]
      simp only [valB]
      rw [u8_of (by omega)]
      omega
    · rw [if_neg h1, valB, dec_enc f (n / 128) (by rw [Nat.pow_succ] at h; omega), u8_of (by omega)]
      omega
theorem enc_form : ∀ (f n : Nat), n < 128 ^ f → 0 < f → ∃ A c, numEF f n = A ++ [c] ∧ (∀ a ∈ A, 128 ≤ a.toNat) ∧ c.toNat < 128 ∧ (A = [] ∨ c.toNat ≠ 0) ∧ (n ≠ 0 → c.toNat ≠ 0)
  | 0, n, h, h0 => by cases h0
  | f + 1, n, h, _ => by
    rw [numEF]
    by_cases h1 : n < 128
    · rw [if_pos h1]
      have e : (UInt8.ofNat n).toNat = n := u8_of (by omega)
      exact ⟨[], UInt8.ofNat n, rfl, by simp, by omega, .inl rfl, fun hn => by omega⟩
    · rw [if_neg h1]
      have hf : 0 < f := by
        rcases Nat.eq_zero_or_pos f with h2 | h2
        · subst h2
          simp at h
          omega
        · exact h2
      obtain ⟨A, c, hA, h2, h3, h4, h5⟩ := enc_form f (n / 128) (by rw [Nat.pow_succ] at h; omega) hf
      have hc0 := h5 (by omega)
      refine ⟨UInt8.ofNat (n % 128 + 128) :: A, c, by rw [hA]; rfl, ?_, h3, .inr hc0, fun _ => hc0⟩
      intro a ha
      rcases List.mem_cons.1 ha with rfl | ha
      · rw [u8_of (by omega)]
        omega
      · exact h2 a ha
theorem numL_le : ∀ (L : List UInt8) (i n v : Nat) (r : List UInt8), numL i n L = some (v, r) → r.length < L.length
  | [], _, _, _, _, h => by cases h
  | c :: q, i, n, v, r, h => by
    rw [numL] at h
    rw [List.length_cons]
    by_cases hb : (i = 9 ∧ 1 < c.toNat) ∨ (0 < i ∧ c.toNat = 0)
    · rw [if_pos hb] at h; cases h
    · rw [if_neg hb] at h
      by_cases h1 : c.toNat < 128
      · rw [if_pos h1] at h
        injection h with h
        injection h with h2 h3
        subst h3
        omega
      · rw [if_neg h1] at h
        have := numL_le q _ _ _ _ h
        omega
theorem p128_9 : (128 : Nat) ^ 9 = 9223372036854775808 := by decide
theorem p128_10 : (128 : Nat) ^ 10 = 1180591620717411303424 := by decide
theorem numL_lt : ∀ (L : List UInt8) (i n v : Nat) (r : List UInt8), i < 10 → n < 128 ^ i → numL i n L = some (v, r) → v < 18446744073709551616
  | [], _, _, _, _, _, _, h => by cases h
  | c :: q, i, n, v, r, hi, hn, h => by
    have hcl : c.toNat < 256 := c.toNat_lt
    rw [numL] at h
    by_cases hb : (i = 9 ∧ 1 < c.toNat) ∨ (0 < i ∧ c.toNat = 0)
    · rw [if_pos hb] at h; cases h
    · rw [if_neg hb] at h
      by_cases h1 : c.toNat < 128
      · rw [if_pos h1] at h
        injection h with h
        injection h with h2 h3
        subst h2
        by_cases h9 : i = 9
        · subst h9
          rw [p128_9] at hn ⊢
          have : c.toNat % 128 * 9223372036854775808 ≤ 1 * 9223372036854775808 := Nat.mul_le_mul_right _ (by omega)
          omega
        · have h8 : (128 : Nat) ^ i ≤ 128 ^ 8 := Nat.pow_le_pow_right (by omega) (by omega)
          have h7 : (128 : Nat) ^ 8 = 72057594037927936 := by decide
          have h6 : c.toNat % 128 * 128 ^ i ≤ 127 * 72057594037927936 := Nat.mul_le_mul (by omega) (by omega)
          omega
      · rw [if_neg h1] at h
        have h9 : i ≠ 9 := fun e => hb (.inl ⟨e, by omega⟩)
        refine numL_lt q (i + 1) _ v r (by omega) ?_ h
        have : c.toNat % 128 * 128 ^ i ≤ 127 * 128 ^ i := Nat.mul_le_mul_right _ (by omega)
        rw [Nat.pow_succ]
        omega
theorem numD_lt {L : List UInt8} {v : Nat} {r : List UInt8} (h : numD L = some (v, r)) : v < 18446744073709551616 := numL_lt L 0 0 v r (by omega) (by decide) h
def intD (most : Nat) (L : List UInt8) : Option (Nat × List UInt8) := match numD L with
  | none => none
  | some (n, r) => if most < n then none else some (n, r)
def bytD (L : List UInt8) : Option (List UInt8 × List UInt8) := match intD 65536 L with
  | none => none
  | some (n, r) => if r.length < n then none else some (r.take n, r.drop n)
end Go.Proofs.YtjklbbmgjjdalaaGreatDoor.Bd
namespace Go.Proofs.YtjklbbmgjjdalaaGreatDoor.Bd
open Go.RowKit Go.Joins
abbrev tRd : TypeId := 101
def u8E (c : UInt8) : List Value := [.int .u8 (c.toNat : Nat)]
def RdU (w : World) (B : Nat) (p : Option Addr) (n cap : Nat) (L : List UInt8) : Prop :=
  L.length = n ∧ n ≤ cap ∧ cap ≤ maxLen ∧ ((p = none ∧ n = 0 ∧ cap = 0) ∨ ∃ b off, p = some ⟨b, off, none⟩ ∧ b < B ∧ b < w.heap.size ∧ ∀ j, j < n → w.cell? ⟨b, off + j, none⟩ = some (.int .u8 ((L.getD j 0).toNat : Nat)))
theorem RdU.off {w w' : World} {B : Nat} {p : Option Addr} {n cap : Nat} {L : List UInt8} (h : RdU w B p n cap L) {b : Nat} (ho : Off b w w') (hb : B ≤ b) : RdU w' B p n cap L := by
  obtain ⟨h1, h2, h3, h4⟩ := h
  refine ⟨h1, h2, h3, ?_⟩
  rcases h4 with h4 | ⟨c, off, h5, h6, h7, h8⟩
  · exact .inl h4
  · refine .inr ⟨c, off, h5, h6, Nat.lt_of_lt_of_le h7 ho.size, fun j hj => ?_⟩
    rw [← h8 j hj]
    unfold World.cell?
    rw [ho.block c h7 (by omega)]
theorem RdU.below {w w' : World} {B : Nat} {p : Option Addr} {n cap : Nat} {L : List UInt8} (h : RdU w B p n cap L) (hb : Below w.heap.size w w') : RdU w' B p n cap L := by
  obtain ⟨h1, h2, h3, h4⟩ := h
  refine ⟨h1, h2, h3, ?_⟩
  rcases h4 with h4 | ⟨c, off, h5, h6, h7, h8⟩
  · exact .inl h4
  · refine .inr ⟨c, off, h5, h6, Nat.lt_of_lt_of_le h7 hb.size, fun j hj => ?_⟩
    rw [← h8 j hj]
    unfold World.cell?
    rw [hb.block c h7]
theorem RdU.drop {w : World} {B : Nat} {b off n cap : Nat} {L : List UInt8} (h : RdU w B (some ⟨b, off, none⟩) n cap L) (k : Nat) (hk : k ≤ n) (o : Nat) (ho : o = off + k ∨ k = n) : RdU w B (some ⟨b, o, none⟩) (n - k) (cap - k) (L.drop k) := by
  obtain ⟨h1, h2, h3, h4⟩ := h
  refine ⟨by rw [List.length_drop, h1], by omega, by omega, ?_⟩
  rcases h4 with ⟨h4, _⟩ | ⟨c, off', h5, h6, h7, h8⟩
  · cases h4
  · cases h5
    refine .inr ⟨b, o, rfl, h6, h7, fun j hj => ?_⟩
    rcases ho with rfl | rfl
    · rw [Nat.add_assoc, h8 (k + j) (by omega)]
      simp [List.getD, List.getElem?_drop]
    · omega
theorem RdU.take {w : World} {B : Nat} {p : Option Addr} {n cap : Nat} {L : List UInt8} (h : RdU w B p n cap L) (k : Nat) (hk : k ≤ n) : RdU w B p k cap (L.take k) := by
  obtain ⟨h1, h2, h3, h4⟩ := h
  refine ⟨by rw [List.length_take]; omega, by omega, h3, ?_⟩
  rcases h4 with ⟨h4, h5, h6⟩ | ⟨c, off, h5, h6, h7, h8⟩
  · exact .inl ⟨h4, by omega, h6⟩
  · refine .inr ⟨c, off, h5, h6, h7, fun j hj => ?_⟩
    rw [h8 j (by omega)]
    simp [List.getD, List.getElem?_take, hj]
def Rdr (w : World) (b : Nat) (S : Option (List UInt8)) : Prop := ∃ p n cap bad, BlkC w b #[.slice p n cap, .bool bad] tRd ∧
  match S with
  | none => bad = true ∧ p = none ∧ n = 0 ∧ cap = 0
  | some L => bad = false ∧ L.length ≤ 100000 ∧ RdU w b p n cap L
theorem Rdr.below {w w' : World} {b : Nat} {S : Option (List UInt8)} (h : Rdr w b S) (hb : Below w.heap.size w w') : Rdr w' b S := by
  obtain ⟨p, n, cap, bad, h1, h2⟩ := h
  refine ⟨p, n, cap, bad, h1.below hb, ?_⟩
  cases S with
  | none => exact h2
  | some L => exact ⟨h2.1, h2.2.1, h2.2.2.below hb⟩
theorem Rdr.lt {w : World} {b : Nat} {S : Option (List UInt8)} (h : Rdr w b S) : b < w.heap.size := by
  obtain ⟨p, n, cap, bad, h1, h2⟩ := h
  exact lt_some h1
set_option maxRecDepth 100000 in
set_option maxHeartbeats 1000000 in
theorem spoil_any (b : Nat) (v : Value) (bad : Bool) (w : World) (h : BlkC w b #[v, .bool bad] tRd) :
    Calls Tryz.prog 81 #[.pointer (some ⟨b, 0, none⟩)] w fun e w' => e = .returned (.tuple #[]) ∧ Rdr w' b none ∧ Off b w w' := by
  have c0 : w.cell? ⟨b, 0, none⟩ = some v := h.cell 0 _ rfl
  have c1 : w.cell? ⟨b, 1, none⟩ = some (.bool bad) := h.cell 1 _ rfl
  have f0 := h.fz 0
  have f1 := h.fz 1
  have H := Lib.hid h
  clear h
  go_enter Tryz.func81, Tryz.ntmps81
  go_wp2_with fail
  go_end0
  exact ⟨rfl, ⟨none, 0, 0, true, block_setCell (block_setCell H.out _) _, rfl, rfl, rfl, rfl⟩, ((Off.refl _ _).set _ _).set _ _⟩
theorem read_any (p : Option Addr) (n cap : Nat) (L : List UInt8) (w : World) (hL : L.length ≤ 100000) (h : RdU w w.heap.size p n cap L) :
    Calls Tryz.prog 20 #[.slice p n cap] w fun e w' => e = .returned (.pointer (some ⟨w.heap.size, 0, none⟩)) ∧ Rdr w' w.heap.size (some L) ∧ Below w.heap.size w w' := by
  have hb : Hid (Below w.heap.size w (w.alloc (.cells #[.slice p n cap, .bool false] tRd))) := by unfold Hid; (repeat' (first | (with_reducible exact Below.refl _ _) | (with_reducible assumption) | (with_reducible refine Below.alloc ?_ ?_ _) | (with_reducible refine bel_drewN ?_ _) | (with_reducible refine Below.drew ?_) | (with_reducible refine Below.setCell ?_ ?_ _) | (with_reducible refine bel_call ‹_› ?_ ?_) | go_size))
  have hn := Lib.hid (blk_new w #[.slice p n cap, .bool false] tRd)
  have H := Lib.hid h
  clear h
  go_enter Tryz.func20, Tryz.ntmps20
  go_wp2_with fail
  go_ret
  exact ⟨rfl, ⟨p, n, cap, false, hn.out, rfl, hL, H.out.below hb.out⟩, hb.out⟩
theorem fine_any (b : Nat) (S : Option (List UInt8)) (w : World) (h : Rdr w b S) :
    Calls Tryz.prog 49 #[.pointer (some ⟨b, 0, none⟩)] w fun e w' => e = .returned (.bool S.isSome) ∧ w = w' := by
  obtain ⟨p, n, cap, bad, h1, h2⟩ := h
  have hbad : Hid (S.isSome = !bad) := by
    unfold Hid
    cases S with
    | none => rw [h2.1]; rfl
    | some L => rw [h2.1]; rfl
  have c1 : w.cell? ⟨b, 1, none⟩ = some (.bool bad) := h1.cell 1 _ rfl
  clear h1 h2
  rw [hbad.out]
  go_enter Tryz.func49, Tryz.ntmps49
  go_wp2_with fail
  go_ret
  exact ⟨rfl, rfl⟩
set_option maxRecDepth 100000 in
theorem and127_is : ∀ c : Fin 256, bits .and .u8 ((c.val : Nat) : Int) 127 = ((c.val % 128 : Nat) : Int) := by decide
theorem and127 {c : Nat} (h : c < 256) : bits .and .u8 (c : Int) 127 = ((c % 128 : Nat) : Int) := and127_is ⟨c, h⟩
theorem p128 (i : Nat) : (2 : Nat) ^ (7 * i) = 128 ^ i := by rw [Nat.pow_mul]
theorem num_words (i acc m : Nat) (hi : i ≤ 9) (ha : acc < 128 ^ i) (hm : m < 128) (h9 : i = 9 → m ≤ 1) :
    IntKind.u64.wrap (m : Int) = (m : Int) ∧ IntKind.u64.wrap ((m : Int) * 2 ^ (7 * i)) = ((m * 128 ^ i : Nat) : Int) ∧ bits .or .u64 (acc : Int) ((m * 128 ^ i : Nat) : Int) = ((acc + m * 128 ^ i : Nat) : Int) := by
  have hs : m * 128 ^ i < 18446744073709551616 ∧ acc < 18446744073709551616 := by
    by_cases h : i = 9
    · subst h
      have h1 := h9 rfl
      rw [p128_9] at ha ⊢
      have : m * 9223372036854775808 ≤ 1 * 9223372036854775808 := Nat.mul_le_mul_right _ h1
      omega
    · have h8 : (128 : Nat) ^ i ≤ 128 ^ 8 := Nat.pow_le_pow_right (by omega) (by omega)
      have h7 : (128 : Nat) ^ 8 = 72057594037927936 := by decide
      have h6 : m * 128 ^ i ≤ 127 * 72057594037927936 := Nat.mul_le_mul (by omega) (by omega)
      omega
  refine ⟨IntWalk.u64_in _ (by omega), ?_, ?_⟩
  · have e : (m : Int) * 2 ^ (7 * i) = ((m * 128 ^ i : Nat) : Int) := by rw [← p128]; simp
    rw [e]
    exact IntWalk.u64_in _ (by omega)
  · rw [bits_or_u64_nat acc (m * 128 ^ i) hs.2 hs.1, Nat.add_comm, ← p128, Nat.or_comm, Nat.mul_comm]
    congr 1
    exact (Nat.two_pow_add_eq_or_of_lt (by rw [p128]; exact ha) m).symm
def numR (S : Option (List UInt8)) : Nat × Option (List UInt8) := match S with
  | none => (0, none)
  | some L => match numD L with
    | none => (0, none)
    | some (v, r) => (v, some r)
def NumP (b : Nat) (R : Nat × Option (List UInt8)) (w : World) (e : Ending) (w' : World) : Prop := e = .returned (.int .u64 (R.1 : Nat)) ∧ Rdr w' b R.2 ∧ Off b w w'
set_option maxRecDepth 100000 in
set_option maxHeartbeats 4000000 in
theorem num_any (b : Nat) (S : Option (List UInt8)) (w : World) (h : Rdr w b S) (R : Nat × Option (List UInt8)) (hR : numR S = R) :
    Calls Tryz.prog 65 #[.pointer (some ⟨b, 0, none⟩)] w (NumP b R w) := by
  obtain ⟨p, n, cap, bad, h1, h2⟩ := h
  have c0 : w.cell? ⟨b, 0, none⟩ = some (.slice p n cap) := h1.cell 0 _ rfl
  have f0 := h1.fz 0
  have HB := Lib.hid h1
  have HSP := Lib.hid (fun W (hW : BlkC W b #[.slice p n cap, .bool bad] tRd) => spoil_any b (.slice p n cap) bad W hW)
  clear h1
  cases S with
  | none =>
    obtain ⟨rfl, rfl, rfl, rfl⟩ := h2
    have HR : Hid (((0, none) : Nat × Option (List UInt8)) = R) := hR
    clear hR
    go_enter Tryz.func65, Tryz.ntmps65
    go_wp2_with fail
    go_loop [11] (fun v => v = .int .i64 0) (fun _ => 0)
    case atStart => rfl
    case round =>
      subst hrel
      go_wp2_with fail
      refine (HSP.out _ HB.out).mono ?_
      rintro e w1 ⟨rfl, hrd, hoff⟩
      have HRD := Lib.hid hrd
      have HOF := Lib.hid hoff
      clear hrd hoff
      go_wp2_with fail
      go_ret
      rw [← HR.out]
      exact ⟨rfl, HRD.out, HOF.out⟩
  | some L =>
    obtain ⟨rfl, hL, hl, hnc, hcm, hcs⟩ := h2
    unfold maxLen at hcm
    have HR : Hid ((match numL 0 0 (L.drop 0) with | none => (0, none) | some (v, r) => (v, some r) : Nat × Option (List UInt8)) = R) := hR
    rw [hl] at hL
    have HL := Lib.hid hl
    clear hR hl
    rcases hcs with ⟨rfl, rfl, rfl⟩ | ⟨b', off, rfl, hb', hbw, hcell⟩
    · have hLn : L = [] := List.eq_nil_of_length_eq_zero HL.out
      have HR2 : Hid (((0, none) : Nat × Option (List UInt8)) = R) := by unfold Hid; rw [← HR.out, hLn]; rfl
      clear hLn HR HL
      go_enter Tryz.func65, Tryz.ntmps65
      go_wp2_with fail
      go_loop [11] (fun v => v = .int .i64 0) (fun _ => 0)
      case atStart => rfl
      case round =>
        subst hrel
        go_wp2_with fail
        refine (HSP.out _ HB.out).mono ?_
        rintro e w1 ⟨rfl, hrd, hoff⟩
        have HRD := Lib.hid hrd
        have HOF := Lib.hid hoff
        clear hrd hoff
        go_wp2_with fail
        go_ret
        rw [← HR2.out]
        exact ⟨rfl, HRD.out, HOF.out⟩
    · have HC := Lib.hid hcell
      clear hcell
      obtain ⟨Q, hQ⟩ : ∃ Q, numL 0 0 (L.drop 0) = Q := ⟨_, rfl⟩
      have HQ := Lib.hid hQ
      rw [hQ] at HR
      clear hQ
      go_enter Tryz.func65, Tryz.ntmps65
      go_wp2_with fail
      go_loopg [3, 11] n (fun g v3 v11 wr => wr = w ∧ ∃ i acc : Nat, i + g = n ∧ i ≤ 9 ∧ v11 = .int .i64 i ∧ v3 = .int .u64 acc ∧ acc < 128 ^ i ∧ numL i acc (L.drop i) = Q)
      case atStart => exact ⟨rfl, 0, 0, by omega, by omega, rfl, rfl, by decide, HQ.out⟩
      case round =>
        obtain ⟨rfl, i, acc, hig, hi9, rfl, rfl, hacc, hq⟩ := hrel
        have HI := Lib.hid hq
        have HA := Lib.hid hacc
        clear hq hacc
        by_cases hlt : i < n
        · have hli : (i : Int) < (n : Int) := by omega
          have hc := HC.out i hlt
          have hx : L.drop i = L.getD i 0 :: L.drop (i + 1) := by
            rw [List.drop_eq_getElem_cons (by rw [HL.out]; exact hlt)]
            simp [List.getD, HL.out, hlt]
          have HI2 := Lib.hid HI.out
          rw [hx] at HI2
          unfold numL at HI2
          clear hx HI
          have hc8 : (L.getD i 0).toNat < 256 := (L.getD i 0).toNat_lt
          generalize (L.getD i 0).toNat = c at hc HI2 hc8
          obtain ⟨bd, hbd⟩ : ∃ bd, decide ((i = 9 ∧ 1 < c) ∨ (0 < i ∧ c = 0)) = bd := ⟨_, rfl⟩
          have HBD := Lib.hid hbd
          clear hbd
          go_upto_region 5 with fail
          go_cut [29] (fun v wx => v = .bool bd ∧ wx = wr)
          case first =>
            by_cases h9 : i = 9
            · subst h9
              by_cases h1 : 1 < c
              · have h1i : (1 : Int) < (c : Int) := by omega
                have HS : Hid (bd = true) := by unfold Hid; rw [← HBD.out]; exact decide_eq_true (.inl ⟨rfl, h1⟩)
                clear HBD h1
                go_wp2_with fail
                go_meet
                exact ⟨by rw [HS.out], rfl⟩
              · have h1i : ¬ (1 : Int) < (c : Int) := by omega
                by_cases h0 : c = 0
                · have HS : Hid (bd = true) := by unfold Hid; rw [← HBD.out]; exact decide_eq_true (.inr ⟨by omega, h0⟩)
                  have h0i : ((c : Int) == 0) = true := by simp; omega
                  clear HBD h1 h0
                  go_wp2_with fail
                  go_meet
                  exact ⟨by rw [HS.out], rfl⟩
                · have HS : Hid (bd = false) := by unfold Hid; rw [← HBD.out]; exact decide_eq_false (by rintro (h | h); exact h1 h.2; exact h0 h.2)
                  have h0i : ((c : Int) == 0) = false := by simp; omega
                  clear HBD h1 h0
                  go_wp2_with fail
                  go_meet
                  exact ⟨by rw [HS.out], rfl⟩
            · have h9i : ((i : Int) == 9) = false := by simp; omega
              by_cases hi0 : 0 < i
              · have hi0i : (0 : Int) < (i : Int) := by omega
                by_cases h0 : c = 0
                · have HS : Hid (bd = true) := by unfold Hid; rw [← HBD.out]; exact decide_eq_true (.inr ⟨by omega, h0⟩)
                  have h0i : ((c : Int) == 0) = true := by simp; omega
                  clear HBD h0 h9
                  go_wp2_with fail
                  go_meet
                  exact ⟨by rw [HS.out], rfl⟩
                · have HS : Hid (bd = false) := by unfold Hid; rw [← HBD.out]; exact decide_eq_false (by rintro (h | h); exact h9 h.1; exact h0 h.2)
                  have h0i : ((c : Int) == 0) = false := by simp; omega
                  clear HBD h0 h9
                  go_wp2_with fail
                  go_meet
                  exact ⟨by rw [HS.out], rfl⟩
              · have hi0i : ¬ (0 : Int) < (i : Int) := by omega
                have HS : Hid (bd = false) := by unfold Hid; rw [← HBD.out]; exact decide_eq_false (by rintro (h | h); exact h9 h.1; exact hi0 h.1)
                clear HBD h9
                go_wp2_with fail
                go_meet
                exact ⟨by rw [HS.out], rfl⟩
          case rest =>
          obtain ⟨rfl, hwr⟩ := hcut
          rw [hwr]
          clear hwr
          cases bd
          case true =>
            have HR2 : Hid (((0, none) : Nat × Option (List UInt8)) = R) := by
              unfold Hid
              have := HI2.out
              rw [if_pos (of_decide_eq_true HBD.out)] at this
              rw [← HR.out, ← this]
            clear HR HI2 HBD
            go_wp2_with fail
            refine (HSP.out _ HB.out).mono ?_
            rintro e w1 ⟨rfl, hrd, hoff⟩
            have HRD := Lib.hid hrd
            have HOF := Lib.hid hoff
            clear hrd hoff
            go_wp2_with fail
            go_ret
            rw [← HR2.out]
            exact ⟨rfl, HRD.out, HOF.out⟩
          have HI3 : Hid ((if c < 128 then some (acc + c % 128 * 128 ^ i, L.drop (i + 1)) else numL (i + 1) (acc + c % 128 * 128 ^ i) (L.drop (i + 1))) = Q) := by
            unfold Hid
            have := HI2.out
            rw [if_neg (of_decide_eq_false HBD.out)] at this
            exact this
          clear HI2
          have hb9 : i = 9 → c ≤ 1 := fun h => by
            have := of_decide_eq_false HBD.out
            omega
          obtain ⟨m, hm⟩ : ∃ m, c % 128 = m := ⟨_, rfl⟩
          have hm128 : m < 128 := by omega
          obtain ⟨wd1, wd2, wd3⟩ := num_words i acc m hi9 HA.out hm128 (fun h => by have := hb9 h; omega)
          have wd0 := and127 hc8
          rw [hm] at wd0 HI3
          have hnx : acc + m * 128 ^ i < 128 ^ (i + 1) := by
            have h1 := HA.out
            have h2 : m * 128 ^ i ≤ 127 * 128 ^ i := Nat.mul_le_mul_right _ (by omega)
            rw [Nat.pow_succ]
            omega
          generalize m * 128 ^ i = s at wd2 wd3 HI3 hnx
          generalize acc + s = a2 at wd3 HI3 hnx
          have HN := Lib.hid hnx
          clear hnx hm hm128 HBD HA
          by_cases h128 : c < 128
          · have h128i : (c : Int) < 128 := by omega
            have HR2 : Hid (((a2, some (L.drop (i + 1))) : Nat × Option (List UInt8)) = R) := by
              unfold Hid
              have := HI3.out
              rw [if_pos h128] at this
              rw [← HR.out, ← this]
            have HRU : Hid (RdU wr b (some ⟨b', off, none⟩) n cap L) := ⟨HL.out, hnc, by unfold maxLen; omega, .inr ⟨b', off, rfl, hb', hbw, HC.out⟩⟩
            have hLd : Hid ((L.drop (i + 1)).length ≤ 100000) := by unfold Hid; rw [List.length_drop, HL.out]; omega
            clear HI3 HR h128 hb9
            by_cases hce : cap = i + 1
            · subst hce
              have hin : n = i + 1 := by omega
              have HRX : Hid (RdU wr b (some ⟨b', off, none⟩) 0 0 (L.drop (i + 1))) := by
                have := HRU.out.drop (i + 1) (by omega) off (by omega)
                rw [hin, Nat.sub_self] at this
                exact this
              clear hin
              go_wp2_with fail
              go_ret
              rw [← HR2.out]
              exact ⟨rfl, ⟨_, _, _, _, block_setCell HB.out _, rfl, hLd.out, HRX.out.off ((Off.refl b wr).set 0 _) (Nat.le_refl _)⟩, (Off.refl _ _).set _ _⟩
            · have hcl : (i : Int) + 1 < (cap : Int) := by omega
              have HRX := Lib.hid (HRU.out.drop (i + 1) (by omega) (off + (i + 1)) (.inl rfl))
              clear hce
              go_wp2_with fail
              go_ret
              rw [← HR2.out]
              exact ⟨rfl, ⟨_, _, _, _, block_setCell HB.out _, rfl, hLd.out, HRX.out.off ((Off.refl b wr).set 0 _) (Nat.le_refl _)⟩, (Off.refl _ _).set _ _⟩
          · have h128i : ¬ (c : Int) < 128 := by omega
            have HI5 : Hid (numL (i + 1) a2 (L.drop (i + 1)) = Q) := by
              unfold Hid
              have := HI3.out
              rw [if_neg h128] at this
              exact this
            have hi8 : i + 1 ≤ 9 := by
              rcases Nat.lt_or_ge i 9 with h | h
              · omega
              · have := hb9 (by omega)
                omega
            clear HI3 h128 hb9
            go_wp2_with fail
            go_roundg (gk - 1)
            case measure => omega
            case rel => exact ⟨rfl, i + 1, a2, by omega, hi8, by go_num, rfl, HN.out, HI5.out⟩
        · obtain rfl : i = n := by omega
          have hli : ¬ (i : Int) < (i : Int) := by omega
          have HR2 : Hid (((0, none) : Nat × Option (List UInt8)) = R) := by
            unfold Hid
            have := HI.out
            rw [List.drop_eq_nil_of_le (by rw [HL.out]; exact Nat.le_refl _)] at this
            rw [← HR.out, ← this]
            rfl
          clear HR HI
          go_wp2_with fail
          refine (HSP.out _ HB.out).mono ?_
          rintro e w1 ⟨rfl, hrd, hoff⟩
          have HRD := Lib.hid hrd
          have HOF := Lib.hid hoff
          clear hrd hoff
          go_wp2_with fail
          go_ret
          rw [← HR2.out]
          exact ⟨rfl, HRD.out, HOF.out⟩
def intR (most : Nat) (S : Option (List UInt8)) : Nat × Option (List UInt8) := match S with
  | none => (0, none)
  | some L => match intD most L with
    | none => (0, none)
    | some (v, r) => (v, some r)
theorem intR_is (most : Nat) (S : Option (List UInt8)) : intR most S = if most < (numR S).1 then (0, none) else numR S := by
  cases S with
  | none => exact (if_neg (show ¬ most < 0 by omega)).symm
  | some L =>
    show (match intD most L with | none => (0, none) | some (v, r) => (v, some r)) = if most < (match numD L with | none => (0, none) | some (v, r) => (v, some r) : Nat × Option (List UInt8)).1 then (0, none) else (match numD L with | none => (0, none) | some (v, r) => (v, some r))
    unfold intD
    cases numD L with
    | none => exact (if_neg (show ¬ most < 0 by omega)).symm
    | some x =>
      obtain ⟨v, r⟩ := x
      by_cases h : most < v
      · simp [h]
      · simp [h]
theorem numR_lt (S : Option (List UInt8)) : (numR S).1 < 18446744073709551616 := by
  cases S with
  | none => show 0 < _; omega
  | some L =>
    unfold numR
    simp only []
    cases h : numD L with
    | none => show 0 < _; omega
    | some x =>
      obtain ⟨v, r⟩ := x
      exact numD_lt h
def IntP (b : Nat) (R : Nat × Option (List UInt8)) (w : World) (e : Ending) (w' : World) : Prop := e = .returned (.int .i64 (R.1 : Nat)) ∧ Rdr w' b R.2 ∧ Off b w w'
theorem Rdr.blk {w : World} {b : Nat} {S : Option (List UInt8)} (h : Rdr w b S) : ∃ v bad, BlkC w b #[v, .bool bad] tRd := by
  obtain ⟨p, n, cap, bad, h1, h2⟩ := h
  exact ⟨_, bad, h1⟩
set_option maxRecDepth 100000 in
set_option maxHeartbeats 4000000 in
theorem int_any (b : Nat) (S : Option (List UInt8)) (most : Nat) (hm : most ≤ 1000000) (w : World) (h : Rdr w b S) (R : Nat × Option (List UInt8)) (hR : intR most S = R) :
    Calls Tryz.prog 63 #[.pointer (some ⟨b, 0, none⟩), .int .i64 most] w (IntP b R w) := by
  have HN := Lib.hid (num_any b S w h (numR S) rfl)
  have hlt := numR_lt S
  have HR : Hid ((if most < (numR S).1 then (0, none) else numR S) = R) := by unfold Hid; rw [← hR, intR_is]
  clear hR h
  obtain ⟨⟨v, T⟩, hv⟩ : ∃ x, numR S = x := ⟨_, rfl⟩
  rw [hv] at HN HR hlt
  clear hv
  have hvl : v < 18446744073709551616 := hlt
  clear hlt
  have hmw : IntKind.u64.wrap (most : Int) = (most : Int) := IntWalk.u64_in _ (by omega)
  by_cases hmv : most < v
  · have hmi : (most : Int) < (v : Int) := by omega
    have HR2 : Hid (((0, none) : Nat × Option (List UInt8)) = R) := by unfold Hid; rw [← HR.out]; exact (if_pos hmv).symm
    clear HR hmv
    go_enter Tryz.func63, Tryz.ntmps63
    go_wp2_with fail
    refine HN.out.mono ?_
    rintro e w1 ⟨rfl, hrd, hoff⟩
    obtain ⟨v1, bad, hbl⟩ := hrd.blk
    have HBL := Lib.hid hbl
    have HOF := Lib.hid hoff
    clear hrd hbl hoff HN
    go_wp2_with fail
    refine (spoil_any b v1 bad _ HBL.out).mono ?_
    rintro e w2 ⟨rfl, hrd, hoff⟩
    have HRD := Lib.hid hrd
    have HO2 : Hid (Off b w w2) := HOF.out.trans hoff
    clear hrd hoff HOF HBL
    go_wp2_with fail
    go_ret
    rw [← HR2.out]
    exact ⟨rfl, HRD.out, HO2.out⟩
  · have hmi : ¬ (most : Int) < (v : Int) := by omega
    have HR2 : Hid ((v, T) = R) := by unfold Hid; rw [← HR.out]; exact (if_neg hmv).symm
    have hvw : IntKind.i64.wrap (v : Int) = (v : Int) := IntWalk.i64_in _ (by omega)
    clear HR hmv
    go_enter Tryz.func63, Tryz.ntmps63
    go_wp2_with fail
    refine HN.out.mono ?_
    rintro e w1 ⟨rfl, hrd, hoff⟩
    have HRD := Lib.hid hrd
    have HOF := Lib.hid hoff
    clear hrd hoff HN
    go_wp2_with fail
    go_ret
    rw [← HR2.out]
    exact ⟨rfl, HRD.out, HOF.out⟩
end Go.Proofs.YtjklbbmgjjdalaaGreatDoor.Bd
namespace Go.Proofs.YtjklbbmgjjdalaaGreatDoor.Bd
open Go.RowKit Go.Joins
theorem infou8 : (Tryz.prog.info? 5).map (fun i => (i.zero, i.size, i.bytes)) = some (some (.int .u8 0), 1, 1) := by kernel_rfl
def RetU (L : List UInt8) (W : World) (e : Ending) (w' : World) : Prop := ∃ p cap, e = .returned (.slice p L.length cap) ∧ RdU w' w'.heap.size p L.length cap L ∧ Below W.heap.size W w' ∧ ∀ x, p = some x → W.heap.size ≤ x.block
theorem u8_flat (L : List UInt8) : L.flatMap u8E = L.map fun c => Value.int .u8 (c.toNat : Nat) := by
  induction L with
  | nil => rfl
  | cons c L ih => rw [List.flatMap_cons, ih]; rfl
theorem RdU.of_own {w : World} {base : Nat} {e : TypeId} {v : Value} {n : Nat} {L : List UInt8} (hn : L.length = n) (h : w.ownsRow base e 1 v n (L.map fun c => Value.int .u8 (c.toNat : Nat))) : ∃ p cap, v = .slice p n cap ∧ RdU w w.heap.size p n cap L ∧ ∀ x, p = some x → base ≤ x.block := by
  rw [← u8_flat] at h
  obtain ⟨p, cap, hv, h1, h2, h3, h4⟩ := RdG.of_own (enc := u8E) (sz := 1) (fun _ => rfl) hn h
  rcases h4 with h4 | ⟨r, h4, h5, h6⟩
  · rw [hv] at h4
    injection h4 with h4 h5 h6
    subst h4
    subst h5
    subst h6
    exact ⟨none, 0, hv, ⟨hn, Nat.le_refl _, Nat.zero_le _, .inl ⟨rfl, rfl, rfl⟩⟩, fun x hx => by cases hx⟩
  · subst h4
    refine ⟨_, cap, hv, ⟨hn, h1, h2, .inr ⟨r, 0, rfl, h6, h6, fun j hj => ?_⟩⟩, fun x hx => by cases hx; exact h5⟩
    rcases h3.2 with h7 | ⟨b, off, h7, h8, h9⟩
    · omega
    · cases h7
      have hx : L[j]? = some (L.getD j 0) := by simp [List.getD, List.getElem?_eq_getElem (show j < L.length by omega)]
      have := h9 j _ hx 0 _ rfl
      rw [Nat.mul_one, Nat.add_zero] at this
      exact this
theorem wpList_append_u {P : Program} (w : World) {ops : Array Oper} {rest : List Oper} {o : Oper} {a : Act} {Q : Exit → Act → World → Prop} (hgd : o.guard = none) (s x : Operand) (t : TypeId)
    (ho : o.op = .call { callee := .builtin .append, args := #[s, x], argTypes := #[t, t] })
    (base Bd : Nat) (e : TypeId) (i : TypeInfo) (ht : P.underlying t = some (.slice e)) (hi : P.info? e = some i) (hz : i.zero = some (.int .u8 0))
    (hsize : i.size = 1) (hby : i.bytes = 1) (v : Value) (n : Nat) (L : List UInt8) (hs : a.eval s = v) (hown : w.ownsRow base e 1 v n (L.map fun c => Value.int .u8 (c.toNat : Nat)))
    (q : Option Addr) (m cap : Nat) (B : List UInt8) (hx : a.eval x = .slice q m cap) (hB : RdU w Bd q m cap B) (h63 : n + m ≤ 1000000) (hbase : base ≤ w.heap.size)
    (h : ∀ v' w', w'.ownsRow base e 1 v' (n + m) ((L ++ B).map fun c => Value.int .u8 (c.toNat : Nat)) → w.grownBy w' v.ownBlock → wpList P ops Q rest (a.put o.dst v') w') : wpList P ops Q (o :: rest) a w := by
  obtain ⟨h1, h2, h3, h5⟩ := hB
  rcases h5 with ⟨rfl, rfl, rfl⟩ | ⟨b, off, rfl, h6, h7, h8⟩
  · have : B = [] := List.eq_nil_of_length_eq_zero h1
    subst this
    exact wpList_append_own_none hgd s x t ho base e i 1 ht hi v n _ hs hown hx (h v w (by simpa using hown) ⟨rfl, rfl, rfl, Nat.le_refl _, fun _ _ _ => rfl⟩)
  · refine wpList_append_own w hgd s x t ho base e i (.int .u8 0) 1 1 ht hi hz hsize hby rfl (by decide) v n _ hs hown ⟨b, off, none⟩ m cap (B.map fun c => Value.int .u8 (c.toNat : Nat)) hx (by simp [h1]) ?_ ?_ (by unfold maxLen; omega) (by omega) hbase (fun v' w' r1 r2 _ => h v' w' (by simpa using r1) r2)
    · intro j u hj
      have hjl : j < B.length := by
        rcases Nat.lt_or_ge j B.length with h' | h'
        · exact h'
        · simp [h'] at hj
      have hj2 : some (Value.int .u8 ((B.getD j 0).toNat : Nat)) = some u := by rw [← hj]; simp [List.getD, hjl]
      rw [← hj2, Addr.add_mid]
      exact h8 j (by omega)
    · intro u hu
      simp only [List.mem_map] at hu
      obtain ⟨d, _, rfl⟩ := hu
      rfl
set_option maxRecDepth 100000 in
set_option maxHeartbeats 1000000 in
theorem clone_u (p : Option Addr) (n cap B : Nat) (L : List UInt8) (hn : n ≤ 100000) (w : World) (hL : RdU w B p n cap L) :
    Calls Tryz.prog 42 #[.slice p n cap] w (RetU L w) := by
  obtain ⟨i0, hi, hz0, hz1, hz2⟩ := info_parts infou8
  have hq := fun (w : World) (a : Option Addr) (n c : Nat) => Lib.run_eql_slice_nil (P := Tryz.prog) w 65 5 a n c 0 0 Tryz.underlying65
  have HL := Lib.hid hL
  obtain ⟨hl, hnc, hcm, hcs⟩ := hL
  unfold maxLen at hcm
  have HLL := Lib.hid hl
  clear hl
  rcases hcs with ⟨rfl, rfl, rfl⟩ | ⟨b, off, rfl, h6, h7, h8⟩
  · have hnil : L = [] := List.eq_nil_of_length_eq_zero HLL.out
    subst hnil
    clear hnc hcm
    go_enter Tryz.func42, Tryz.ntmps42
    go_wp2_with fail
    go_ret
    exact ⟨none, 0, rfl, ⟨rfl, Nat.le_refl _, Nat.zero_le _, .inl ⟨rfl, rfl, rfl⟩⟩, Below.refl _ _, fun x hx => by cases hx⟩
  · clear h8
    go_enter Tryz.func42, Tryz.ntmps42
    go_wp2_with (at_builtin; refine wpList_append_u _ rfl (.tmp 5) (.tmp 6) 65 rfl w.heap.size B 5 i0 Tryz.underlying65 hi hz0 hz1 hz2 _ 0 [] rfl (World.ownsRow_made w #[] 0 (Nat.le_refl _) (by unfold maxLen; omega) rfl) _ n cap L rfl (HL.out.below ((Below.refl _ _).alloc (Nat.le_refl _) _)) (by omega) (by simp) ?_; intro v' w' hown hgr)
    go_ret
    obtain ⟨p', c', rfl, hr, hfz⟩ := RdU.of_own (n := L.length) rfl (by rw [HLL.out]; simpa using hown)
    exact ⟨p', c', by simp [HLL.out], hr, ((Below.refl _ _).alloc (Nat.le_refl _) _).grown hgr (by simp) (fun k hk => by cases hk; exact Nat.le_refl _), hfz⟩
theorem RdU.off_ne {w w' : World} {B : Nat} {p : Option Addr} {n cap : Nat} {L : List UInt8} (h : RdU w B p n cap L) {b : Nat} (ho : Off b w w') (hb : ∀ x, p = some x → x.block ≠ b) : RdU w' B p n cap L := by
  obtain ⟨h1, h2, h3, h4⟩ := h
  refine ⟨h1, h2, h3, ?_⟩
  rcases h4 with h4 | ⟨c, off, h5, h6, h7, h8⟩
  · exact .inl h4
  · refine .inr ⟨c, off, h5, h6, Nat.lt_of_lt_of_le h7 ho.size, fun j hj => ?_⟩
    rw [← h8 j hj]
    unfold World.cell?
    rw [ho.block c h7 (hb _ h5)]
theorem RdU.mono {w : World} {B B' : Nat} {p : Option Addr} {n cap : Nat} {L : List UInt8} (h : RdU w B p n cap L) (hB : B ≤ B') : RdU w B' p n cap L := by
  obtain ⟨h1, h2, h3, h4⟩ := h
  refine ⟨h1, h2, h3, ?_⟩
  rcases h4 with h4 | ⟨c, off, h5, h6, h7, h8⟩
  · exact .inl h4
  · exact .inr ⟨c, off, h5, by omega, h7, h8⟩
theorem RdU.conv {B : Nat} {w : World} {p : Option Addr} {n c : Nat} {L : List UInt8} (h : RdU w B p n c L) : (convert 65 9 (.slice p n c)).run Tryz.prog w = .ok (.string ⟨L.toArray⟩) w := by
  obtain ⟨hl, h2, h3, ⟨rfl, rfl, rfl⟩ | ⟨b, off, rfl, h6, h7, h8⟩⟩ := h
  · have : L = [] := List.eq_nil_of_length_eq_zero hl
    subst this
    exact run_convert_bytes_nil w 65 5 Tryz.underlying65 Tryz.underlying5 0 0 9 Tryz.underlying9
  · subst hl
    exact run_convert_bytes_back w 65 9 5 ⟨b, off, none⟩ c L Tryz.underlying65 Tryz.underlying5 Tryz.underlying9 (fun j hj => by
      rw [Addr.add_mid, h8 j hj]
      simp [List.getD, hj])
def bytR (S : Option (List UInt8)) : List UInt8 × Option (List UInt8) := match S with
  | none => ([], none)
  | some L => match bytD L with
    | none => ([], none)
    | some (x, r) => (x, some r)
def BytP (b : Nat) (R : List UInt8 × Option (List UInt8)) (w : World) (e : Ending) (w' : World) : Prop := ∃ p cap, e = .returned (.slice p R.1.length cap) ∧ RdU w' w'.heap.size p R.1.length cap R.1 ∧ Rdr w' b R.2 ∧ Off b w w'
theorem bytR_is (S : Option (List UInt8)) : bytR S = match intR 65536 S with
    | (n, none) => ([], none)
    | (n, some r) => if r.length < n then ([], none) else (r.take n, some (r.drop n)) := by
  cases S with
  | none => rfl
  | some L =>
    show (match bytD L with | none => ([], none) | some (x, r) => (x, some r) : List UInt8 × Option (List UInt8)) = match (match intD 65536 L with | none => (0, none) | some (v, r) => (v, some r) : Nat × Option (List UInt8)) with | (n, none) => ([], none) | (n, some r) => if r.length < n then ([], none) else (r.take n, some (r.drop n))
    unfold bytD
    cases intD 65536 L with
    | none => rfl
    | some x =>
      obtain ⟨v, r⟩ := x
      by_cases h : r.length < v
      · simp [h]
      · simp [h]
theorem intR_le (most : Nat) (S : Option (List UInt8)) : (intR most S).1 ≤ most := by
  rw [intR_is]
  split
  · exact Nat.zero_le _
  · omega
theorem intR_bad (most : Nat) (S : Option (List UInt8)) (h : (intR most S).2 = none) : (intR most S).1 = 0 := by
  cases S with
  | none => rfl
  | some L =>
    unfold intR at h ⊢
    simp only [] at h ⊢
    cases hi : intD most L with
    | none => rfl
    | some x =>
      obtain ⟨v, r⟩ := x
      rw [hi] at h
      cases h
set_option maxRecDepth 100000 in
set_option maxHeartbeats 4000000 in
theorem bytes_any (b : Nat) (S : Option (List UInt8)) (w : World) (h : Rdr w b S) (R : List UInt8 × Option (List UInt8)) (hR : bytR S = R) :
    Calls Tryz.prog 82 #[.pointer (some ⟨b, 0, none⟩)] w (BytP b R w) := by
  have HN := Lib.hid (int_any b S 65536 (by omega) w h (intR 65536 S) rfl)
  have hle := intR_le 65536 S
  have hbd := intR_bad 65536 S
  have HR : Hid ((match intR 65536 S with | (n, none) => ([], none) | (n, some r) => if r.length < n then ([], none) else (r.take n, some (r.drop n)) : List UInt8 × Option (List UInt8)) = R) := by unfold Hid; rw [← hR, bytR_is]
  clear hR h
  obtain ⟨⟨v, T⟩, hv⟩ : ∃ x, intR 65536 S = x := ⟨_, rfl⟩
  rw [hv] at HN HR hle hbd
  have hvl : v ≤ 65536 := hle
  clear hle hv
  go_enter Tryz.func82, Tryz.ntmps82
  go_wp2_with fail
  refine HN.out.mono ?_
  rintro e w1 ⟨rfl, hrd, hoff⟩
  have HOF := Lib.hid hoff
  obtain ⟨p, n, cap, bad, hbl, hrd⟩ := hrd
  have HBL := Lib.hid hbl
  have c0 : w1.cell? ⟨b, 0, none⟩ = some (.slice p n cap) := hbl.cell 0 _ rfl
  have f0 := hbl.fz 0
  clear hbl hoff HN
  cases T with
  | none =>
    obtain rfl : v = 0 := hbd rfl
    obtain ⟨rfl, rfl, rfl, rfl⟩ := hrd
    have HR2 : Hid ((([], none) : List UInt8 × Option (List UInt8)) = R) := HR.out
    have HRU : Hid (RdU w1 b none 0 0 []) := ⟨rfl, Nat.le_refl _, Nat.zero_le _, .inl ⟨rfl, rfl, rfl⟩⟩
    clear HR hbd
    go_wp2_with fail
    refine (clone_u none 0 0 b [] (by omega) _ HRU.out).mono ?_
    rintro e w2 ⟨p2, cap2, rfl, hru, hb2, hnew⟩
    have HR3 := Lib.hid hru
    have HBL2 := Lib.hid (HBL.out.below hb2)
    have HO2 : Hid (Off b w w2) := HOF.out.call hb2
    have hbw : b < w1.heap.size := lt_some HBL.out
    have hne := Lib.hid (fun x hx => Nat.ne_of_gt (Nat.lt_of_lt_of_le hbw (hnew x hx)))
    have c0 : w2.cell? ⟨b, 0, none⟩ = some (.slice none 0 0) := HBL2.out.cell 0 _ rfl
    have f0 := HBL2.out.fz 0
    clear hru hb2 hnew hbw HRU
    go_wp2_with fail
    go_ret
    rw [← HR2.out]
    exact ⟨p2, cap2, rfl, (HR3.out.off_ne ((Off.refl b w2).set 0 _) hne.out).mono (by simp [World.setCell]), ⟨none, 0, 0, true, block_setCell HBL2.out _, rfl, rfl, rfl, rfl⟩, HO2.out.set _ _⟩
  | some r =>
    obtain ⟨rfl, hL, hru⟩ := hrd
    have HRU := Lib.hid hru
    have hrl : r.length = n := hru.1
    have hnc : n ≤ cap := hru.2.1
    have hcm : cap ≤ maxLen := hru.2.2.1
    unfold maxLen at hcm
    rw [hrl] at hL
    have HRL := Lib.hid hrl
    clear hru hrl hbd
    by_cases hvn : n < v
    · have hvi : (n : Int) < (v : Int) := by omega
      have HR2 : Hid ((([], none) : List UInt8 × Option (List UInt8)) = R) := by
        unfold Hid
        rw [← HR.out]
        exact (if_pos (by rw [HRL.out]; exact hvn)).symm
      clear HR hvn
      go_wp2_with fail
      refine (spoil_any b _ false _ HBL.out).mono ?_
      rintro e w2 ⟨rfl, hrd, hoff⟩
      have HRD := Lib.hid hrd
      have HO2 : Hid (Off b w w2) := HOF.out.trans hoff
      clear hrd hoff
      go_wp2_with fail
      go_ret
      rw [← HR2.out]
      exact ⟨none, 0, rfl, ⟨rfl, Nat.le_refl _, Nat.zero_le _, .inl ⟨rfl, rfl, rfl⟩⟩, HRD.out, HO2.out⟩
    · have hvi : ¬ (n : Int) < (v : Int) := by omega
      have HR2 : Hid (((r.take v, some (r.drop v)) : List UInt8 × Option (List UInt8)) = R) := by
        unfold Hid
        rw [← HR.out]
        exact (if_neg (by rw [HRL.out]; exact hvn)).symm
      have hvc : (v : Int) ≤ (cap : Int) := by omega
      have hvn2 : (v : Int) ≤ (n : Int) := by omega
      have HTK := Lib.hid (HRU.out.take v (by omega))
      have htl : (r.take v).length = v := by rw [List.length_take, HRL.out]; omega
      have HTL := Lib.hid htl
      have hdl : (r.drop v).length ≤ 100000 := by rw [List.length_drop, HRL.out]; omega
      have HDL := Lib.hid hdl
      clear HR hvn htl hdl
      go_wp2_with fail
      refine (clone_u p v cap b (r.take v) (by omega) _ HTK.out).mono ?_
      rintro e w2 ⟨p2, cap2, rfl, hru, hb2, hnew⟩
      rw [HTL.out] at hru ⊢
      have HR3 := Lib.hid hru
      have HBL2 := Lib.hid (HBL.out.below hb2)
      have HO2 : Hid (Off b w w2) := HOF.out.call hb2
      have HRU2 := Lib.hid (HRU.out.below hb2)
      have hbw : b < w1.heap.size := lt_some HBL.out
      have hne := Lib.hid (fun x hx => Nat.ne_of_gt (Nat.lt_of_lt_of_le hbw (hnew x hx)))
      have c0 : w2.cell? ⟨b, 0, none⟩ = some (.slice p n cap) := HBL2.out.cell 0 _ rfl
      have f0 := HBL2.out.fz 0
      clear hru hb2 hnew hbw HRU HTK
      have hcases := HRU2.out.2.2.2
      rcases hcases with ⟨rfl, rfl, rfl⟩ | ⟨b', off, rfl, _, _, _⟩
      · obtain rfl : v = 0 := by omega
        go_wp2_with fail
        go_ret
        rw [← HR2.out]
        refine ⟨p2, cap2, by rw [HTL.out]; rfl, by rw [HTL.out]; exact (HR3.out.off_ne ((Off.refl b w2).set 0 _) hne.out).mono (by simp [World.setCell]), ⟨none, 0, 0, false, block_setCell HBL2.out _, rfl, HDL.out, ?_⟩, HO2.out.set _ _⟩
        exact ⟨by rw [List.length_drop, HRL.out], Nat.le_refl _, Nat.zero_le _, .inl ⟨rfl, rfl, rfl⟩⟩
      · by_cases hce : cap = v
        · subst hce
          have hnv : n = cap := by omega
          subst hnv
          have HDR : Hid (RdU w2 b (some ⟨b', off, none⟩) 0 0 (r.drop n)) := by
            have := HRU2.out.drop n (Nat.le_refl _) off (.inr rfl)
            rw [Nat.sub_self] at this
            exact this
          go_wp2_with fail
          go_ret
          rw [← HR2.out]
          exact ⟨p2, cap2, by rw [HTL.out]; rfl, by rw [HTL.out]; exact (HR3.out.off_ne ((Off.refl b w2).set 0 _) hne.out).mono (by simp [World.setCell]), ⟨_, 0, 0, false, block_setCell HBL2.out _, rfl, HDL.out, HDR.out.off ((Off.refl b w2).set 0 _) (Nat.le_refl _)⟩, HO2.out.set _ _⟩
        · have hvl2 : (v : Int) < (cap : Int) := by omega
          have HDR := Lib.hid (HRU2.out.drop v (by omega) (off + v) (.inl rfl))
          clear hce
          go_wp2_with fail
          go_ret
          rw [← HR2.out]
          exact ⟨p2, cap2, by rw [HTL.out]; rfl, by rw [HTL.out]; exact (HR3.out.off_ne ((Off.refl b w2).set 0 _) hne.out).mono (by simp [World.setCell]), ⟨_, _, _, false, block_setCell HBL2.out _, rfl, HDL.out, HDR.out.off ((Off.refl b w2).set 0 _) (Nat.le_refl _)⟩, HO2.out.set _ _⟩
def TxtP (b : Nat) (R : List UInt8 × Option (List UInt8)) (w : World) (e : Ending) (w' : World) : Prop := e = .returned (.string ⟨R.1.toArray⟩) ∧ Rdr w' b R.2 ∧ Off b w w'
theorem rtext_any (b : Nat) (S : Option (List UInt8)) (w : World) (h : Rdr w b S) (R : List UInt8 × Option (List UInt8)) (hR : bytR S = R) :
    Calls Tryz.prog 66 #[.pointer (some ⟨b, 0, none⟩)] w (TxtP b R w) := by
  have HN := Lib.hid (bytes_any b S w h R hR)
  clear h hR
  go_enter Tryz.func66, Tryz.ntmps66
  go_wp2_with fail
  refine HN.out.mono ?_
  rintro e w1 ⟨p, cap, rfl, hru, hrd, hoff⟩
  have hcv := hru.conv
  have HRD := Lib.hid hrd
  have HOF := Lib.hid hoff
  clear hru hrd hoff HN
  go_wp2_with fail
  go_ret
  exact ⟨rfl, HRD.out, HOF.out⟩
end Go.Proofs.YtjklbbmgjjdalaaGreatDoor.Bd
