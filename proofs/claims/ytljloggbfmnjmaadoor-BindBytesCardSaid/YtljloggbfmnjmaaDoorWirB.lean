/- Wire: a reader in memory: Read, spoil, Fine, Left, Num, Int. -/
import Derived.Test.YtljloggbfmnjmaaDoorWirA
import Derived.Test.YtljloggbfmnjmaaDoorRow
import Derived.Test.YtljloggbfmnjmaaDoorBinF
import Derived.Test.YtljloggbfmnjmaaDoorBlk
import Derived.Deep.DeepCutAuto
import Derived.Deep.LoopGhost
import Derived.Lib.Hide
import Derived.IntWalk
import Derived.Lib.ItoaNum
set_option linter.unusedSimpArgs false
set_option linter.unusedVariables false
namespace Go.Proofs.YtljloggbfmnjmaaDoor
open Go.RowKit Go.Joins

abbrev tRd : TypeId := 68
/-- A byte's cell. -/
def u8E (c : UInt8) : List Value := [.int .u8 (c.toNat : Nat)]
/-- Block b alone, and new ones, may change. -/
structure Off (b : Nat) (w w' : World) : Prop where
  os : w'.os = w.os
  tape : w'.tape = w.tape
  output : w'.output = w.output
  size : w.heap.size ≤ w'.heap.size
  block : ∀ k, k < w.heap.size → k ≠ b → w'.heap[k]? = w.heap[k]?
theorem Off.refl (b : Nat) (w : World) : Off b w w := ⟨rfl, rfl, rfl, Nat.le_refl _, fun _ _ _ => rfl⟩
theorem Off.trans {b : Nat} {w w1 w2 : World} (h : Off b w w1) (h' : Off b w1 w2) : Off b w w2 :=
  ⟨h'.os.trans h.os, h'.tape.trans h.tape, h'.output.trans h.output, Nat.le_trans h.size h'.size, fun k hk hn => (h'.block k (Nat.lt_of_lt_of_le hk h.size) hn).trans (h.block k hk hn)⟩
theorem Off.of_below {b : Nat} {w w' : World} (h : Below w.heap.size w w') : Off b w w' := ⟨h.os, h.tape, h.output, h.size, fun k hk _ => h.block k hk⟩
theorem Off.call {b : Nat} {w w1 w2 : World} (h : Off b w w1) (h' : Below w1.heap.size w1 w2) : Off b w w2 := h.trans (Off.of_below h')
theorem Off.set {b : Nat} {w w' : World} (h : Off b w w') (j : Nat) (u : Value) : Off b w (w'.setCell ⟨b, j, none⟩ u) :=
  h.trans ⟨rfl, rfl, rfl, by simp [World.setCell], fun k _ hn => Below.heap_setCell w' _ u k (fun e => hn e)⟩
theorem Off.drewN {b : Nat} {w w' : World} (h : Off b w w') (n : Nat) : Off b w (w'.drewN n) := ⟨h.os, h.tape, h.output, h.size, h.block⟩
theorem Off.alloc {b : Nat} {w w' : World} (h : Off b w w') (o : Obj) : Off b w (w'.alloc o) := h.call ((Below.refl _ _).alloc (Nat.le_refl _) o)
theorem Off.below {b : Nat} {w w' : World} (h : Off b w w') {B : Nat} (hb : B ≤ b) (hB : B ≤ w.heap.size) : Below B w w' :=
  ⟨h.os, h.tape, h.output, h.size, fun k hk => h.block k (by omega) (by omega)⟩
theorem Off.blk {b k : Nat} {w w' : World} (h : Off b w w') {o : Obj} (hk : k ≠ b) (hc : w.heap[k]? = some o) : w'.heap[k]? = some o := (h.block k (lt_some hc) hk).trans hc
/-- A slice of bytes that lie below a block. -/
def RdU (w : World) (B : Nat) (p : Option Addr) (n cap : Nat) (L : List UInt8) : Prop :=
  L.length = n ∧ n ≤ cap ∧ cap ≤ maxLen ∧ ((p = none ∧ n = 0 ∧ cap = 0) ∨ ∃ b off, p = some ⟨b, off, none⟩ ∧ b < B ∧ b < w.heap.size ∧ ∀ j, j < n → w.cell? ⟨b, off + j, none⟩ = some (.int .u8 ((L.getD j 0).toNat : Nat)))
theorem RdU.off {w w' : World} {B : Nat} {p : Option Addr} {n cap : Nat} {L : List UInt8} (h : RdU w B p n cap L) {b : Nat} (ho : Off b w w') (hb : B ≤ b) : RdU w' B p n cap L := by
  obtain ⟨h1, h2, h3, h4⟩ := h
  refine ⟨h1, h2, h3, ?_⟩
  rcases h4 with h4 | ⟨c, off, h5, h6, h7, h8⟩
  · exact .inl h4
  · refine .inr ⟨c, off, h5, h6, Nat.lt_of_lt_of_le h7 ho.size, fun j hj => ?_⟩
    rw [← h8 j hj]
    unfold World.cell?
    rw [ho.block c h7 (by omega)]
theorem RdU.below {w w' : World} {B : Nat} {p : Option Addr} {n cap : Nat} {L : List UInt8} (h : RdU w B p n cap L) (hb : Below w.heap.size w w') : RdU w' B p n cap L := by
  obtain ⟨h1, h2, h3, h4⟩ := h
  refine ⟨h1, h2, h3, ?_⟩
  rcases h4 with h4 | ⟨c, off, h5, h6, h7, h8⟩
  · exact .inl h4
  · refine .inr ⟨c, off, h5, h6, Nat.lt_of_lt_of_le h7 hb.size, fun j hj => ?_⟩
    rw [← h8 j hj]
    unfold World.cell?
    rw [hb.block c h7]
/-- What lies behind the first k bytes. -/
theorem RdU.drop {w : World} {B : Nat} {b off n cap : Nat} {L : List UInt8} (h : RdU w B (some ⟨b, off, none⟩) n cap L) (k : Nat) (hk : k ≤ n) (o : Nat) (ho : o = off + k ∨ k = n) : RdU w B (some ⟨b, o, none⟩) (n - k) (cap - k) (L.drop k) := by
  obtain ⟨h1, h2, h3, h4⟩ := h
  refine ⟨by rw [List.length_drop, h1], by omega, by omega, ?_⟩
  rcases h4 with ⟨h4, _⟩ | ⟨c, off', h5, h6, h7, h8⟩
  · cases h4
  · cases h5
    refine .inr ⟨b, o, rfl, h6, h7, fun j hj => ?_⟩
    rcases ho with rfl | rfl
    · rw [Nat.add_assoc, h8 (k + j) (by omega)]
      simp [List.getD, List.getElem?_drop]
    · omega
/-- The first k bytes. -/
theorem RdU.take {w : World} {B : Nat} {p : Option Addr} {n cap : Nat} {L : List UInt8} (h : RdU w B p n cap L) (k : Nat) (hk : k ≤ n) : RdU w B p k cap (L.take k) := by
  obtain ⟨h1, h2, h3, h4⟩ := h
  refine ⟨by rw [List.length_take]; omega, by omega, h3, ?_⟩
  rcases h4 with ⟨h4, h5, h6⟩ | ⟨c, off, h5, h6, h7, h8⟩
  · exact .inl ⟨h4, by omega, h6⟩
  · refine .inr ⟨c, off, h5, h6, h7, fun j hj => ?_⟩
    rw [h8 j (by omega)]
    simp [List.getD, List.getElem?_take, hj]
/-- A reader: what is left; none: it is spoilt. -/
def Rdr (w : World) (b : Nat) (S : Option (List UInt8)) : Prop := ∃ p n cap bad, BlkC w b #[.slice p n cap, .bool bad] tRd ∧
  match S with
  | none => bad = true ∧ p = none ∧ n = 0 ∧ cap = 0
  | some L => bad = false ∧ L.length ≤ 100000 ∧ RdU w b p n cap L
theorem Rdr.below {w w' : World} {b : Nat} {S : Option (List UInt8)} (h : Rdr w b S) (hb : Below w.heap.size w w') : Rdr w' b S := by
  obtain ⟨p, n, cap, bad, h1, h2⟩ := h
  refine ⟨p, n, cap, bad, h1.below hb, ?_⟩
  cases S with
  | none => exact h2
  | some L => exact ⟨h2.1, h2.2.1, h2.2.2.below hb⟩
theorem Rdr.lt {w : World} {b : Nat} {S : Option (List UInt8)} (h : Rdr w b S) : b < w.heap.size := by
  obtain ⟨p, n, cap, bad, h1, h2⟩ := h
  exact lt_some h1
set_option maxRecDepth 100000 in
set_option maxHeartbeats 1000000 in
theorem spoil_any (b : Nat) (v : Value) (bad : Bool) (w : World) (h : BlkC w b #[v, .bool bad] tRd) :
    Calls Tryd.prog 41 #[.pointer (some ⟨b, 0, none⟩)] w fun e w' => e = .returned (.tuple #[]) ∧ Rdr w' b none ∧ Off b w w' := by
  have c0 : w.cell? ⟨b, 0, none⟩ = some v := h.cell 0 _ rfl
  have c1 : w.cell? ⟨b, 1, none⟩ = some (.bool bad) := h.cell 1 _ rfl
  have f0 := h.fz 0
  have f1 := h.fz 1
  have H := Lib.hid h
  clear h
  go_enter Tryd.func41, Tryd.ntmps41
  go_wp2_with fail
  go_end0
  exact ⟨rfl, ⟨none, 0, 0, true, block_setCell (block_setCell H.out _) _, rfl, rfl, rfl, rfl⟩, ((Off.refl _ _).set _ _).set _ _⟩
/-- A new reader. -/
theorem read_any (p : Option Addr) (n cap : Nat) (L : List UInt8) (w : World) (hL : L.length ≤ 100000) (h : RdU w w.heap.size p n cap L) :
    Calls Tryd.prog 11 #[.slice p n cap] w fun e w' => e = .returned (.pointer (some ⟨w.heap.size, 0, none⟩)) ∧ Rdr w' w.heap.size (some L) ∧ Below w.heap.size w w' := by
  have hb : Hid (Below w.heap.size w (w.alloc (.cells #[.slice p n cap, .bool false] tRd))) := by unfold Hid; (repeat' (first | (with_reducible exact Below.refl _ _) | (with_reducible assumption) | (with_reducible refine Below.alloc ?_ ?_ _) | (with_reducible refine bel_drewN ?_ _) | (with_reducible refine Below.drew ?_) | (with_reducible refine Below.setCell ?_ ?_ _) | (with_reducible refine bel_call ‹_› ?_ ?_) | go_size))
  have hn := Lib.hid (blk_new w #[.slice p n cap, .bool false] tRd)
  have H := Lib.hid h
  clear h
  go_enter Tryd.func11, Tryd.ntmps11
  go_wp2_with fail
  go_ret
  exact ⟨rfl, ⟨p, n, cap, false, hn.out, rfl, hL, H.out.below hb.out⟩, hb.out⟩
theorem fine_any (b : Nat) (S : Option (List UInt8)) (w : World) (h : Rdr w b S) :
    Calls Tryd.prog 29 #[.pointer (some ⟨b, 0, none⟩)] w fun e w' => e = .returned (.bool S.isSome) ∧ w = w' := by
  obtain ⟨p, n, cap, bad, h1, h2⟩ := h
  have hbad : Hid (S.isSome = !bad) := by
    unfold Hid
    cases S with
    | none => rw [h2.1]; rfl
    | some L => rw [h2.1]; rfl
  have c1 : w.cell? ⟨b, 1, none⟩ = some (.bool bad) := h1.cell 1 _ rfl
  clear h1 h2
  rw [hbad.out]
  go_enter Tryd.func29, Tryd.ntmps29
  go_wp2_with fail
  go_ret
  exact ⟨rfl, rfl⟩
theorem left_any (b : Nat) (L : List UInt8) (w : World) (h : Rdr w b (some L)) :
    Calls Tryd.prog 16 #[.pointer (some ⟨b, 0, none⟩)] w fun e w' => e = .returned (.int .i64 (L.length : Nat)) ∧ w = w' := by
  obtain ⟨p, n, cap, bad, h1, h2⟩ := h
  have hn : L.length = n := h2.2.2.1
  have c0 : w.cell? ⟨b, 0, none⟩ = some (.slice p n cap) := h1.cell 0 _ rfl
  clear h1 h2
  rw [hn]
  clear hn
  go_enter Tryd.func16, Tryd.ntmps16
  go_wp2_with fail
  go_ret
  exact ⟨rfl, rfl⟩
set_option maxRecDepth 100000 in
theorem and127_is : ∀ c : Fin 256, bits .and .u8 ((c.val : Nat) : Int) 127 = ((c.val % 128 : Nat) : Int) := by decide
theorem and127 {c : Nat} (h : c < 256) : bits .and .u8 (c : Int) 127 = ((c % 128 : Nat) : Int) := and127_is ⟨c, h⟩
theorem p128 (i : Nat) : (2 : Nat) ^ (7 * i) = 128 ^ i := by rw [Nat.pow_mul]
/-- The words of one round of Num. -/
theorem num_words (i acc m : Nat) (hi : i ≤ 9) (ha : acc < 128 ^ i) (hm : m < 128) (h9 : i = 9 → m ≤ 1) :
    IntKind.u64.wrap (m : Int) = (m : Int) ∧ IntKind.u64.wrap ((m : Int) * 2 ^ (7 * i)) = ((m * 128 ^ i : Nat) : Int) ∧ bits .or .u64 (acc : Int) ((m * 128 ^ i : Nat) : Int) = ((acc + m * 128 ^ i : Nat) : Int) := by
  have hs : m * 128 ^ i < 18446744073709551616 ∧ acc < 18446744073709551616 := by
    by_cases h : i = 9
    · subst h
      have h1 := h9 rfl
      rw [p128_9] at ha ⊢
      have : m * 9223372036854775808 ≤ 1 * 9223372036854775808 := Nat.mul_le_mul_right _ h1
      omega
    · have h8 : (128 : Nat) ^ i ≤ 128 ^ 8 := Nat.pow_le_pow_right (by omega) (by omega)
      have h7 : (128 : Nat) ^ 8 = 72057594037927936 := by decide
      have h6 : m * 128 ^ i ≤ 127 * 72057594037927936 := Nat.mul_le_mul (by omega) (by omega)
      omega
  refine ⟨IntWalk.u64_in _ (by omega), ?_, ?_⟩
  · have e : (m : Int) * 2 ^ (7 * i) = ((m * 128 ^ i : Nat) : Int) := by rw [← p128]; simp
    rw [e]
    exact IntWalk.u64_in _ (by omega)
  · rw [bits_or_u64_nat acc (m * 128 ^ i) hs.2 hs.1, Nat.add_comm, ← p128, Nat.or_comm, Nat.mul_comm]
    congr 1
    exact (Nat.two_pow_add_eq_or_of_lt (by rw [p128]; exact ha) m).symm
/-- What Num answers, and what it leaves. -/
def numR (S : Option (List UInt8)) : Nat × Option (List UInt8) := match S with
  | none => (0, none)
  | some L => match numD L with
    | none => (0, none)
    | some (v, r) => (v, some r)
def NumP (b : Nat) (R : Nat × Option (List UInt8)) (w : World) (e : Ending) (w' : World) : Prop := e = .returned (.int .u64 (R.1 : Nat)) ∧ Rdr w' b R.2 ∧ Off b w w'
set_option maxRecDepth 100000 in
set_option maxHeartbeats 4000000 in
theorem num_any (b : Nat) (S : Option (List UInt8)) (w : World) (h : Rdr w b S) (R : Nat × Option (List UInt8)) (hR : numR S = R) :
    Calls Tryd.prog 26 #[.pointer (some ⟨b, 0, none⟩)] w (NumP b R w) := by
  obtain ⟨p, n, cap, bad, h1, h2⟩ := h
  have c0 : w.cell? ⟨b, 0, none⟩ = some (.slice p n cap) := h1.cell 0 _ rfl
  have f0 := h1.fz 0
  have HB := Lib.hid h1
  have HSP := Lib.hid (fun W (hW : BlkC W b #[.slice p n cap, .bool bad] tRd) => spoil_any b (.slice p n cap) bad W hW)
  clear h1
  cases S with
  | none =>
    obtain ⟨rfl, rfl, rfl, rfl⟩ := h2
    have HR : Hid (((0, none) : Nat × Option (List UInt8)) = R) := hR
    clear hR
    go_enter Tryd.func26, Tryd.ntmps26
    go_wp2_with fail
    go_loop [11] (fun v => v = .int .i64 0) (fun _ => 0)
    case atStart => rfl
    case round =>
      subst hrel
      go_wp2_with fail
      refine (HSP.out _ HB.out).mono ?_
      rintro e w1 ⟨rfl, hrd, hoff⟩
      have HRD := Lib.hid hrd
      have HOF := Lib.hid hoff
      clear hrd hoff
      go_wp2_with fail
      go_ret
      rw [← HR.out]
      exact ⟨rfl, HRD.out, HOF.out⟩
  | some L =>
    obtain ⟨rfl, hL, hl, hnc, hcm, hcs⟩ := h2
    unfold maxLen at hcm
    have HR : Hid ((match numL 0 0 (L.drop 0) with | none => (0, none) | some (v, r) => (v, some r) : Nat × Option (List UInt8)) = R) := hR
    rw [hl] at hL
    have HL := Lib.hid hl
    clear hR hl
    rcases hcs with ⟨rfl, rfl, rfl⟩ | ⟨b', off, rfl, hb', hbw, hcell⟩
    · have hLn : L = [] := List.eq_nil_of_length_eq_zero HL.out
      have HR2 : Hid (((0, none) : Nat × Option (List UInt8)) = R) := by unfold Hid; rw [← HR.out, hLn]; rfl
      clear hLn HR HL
      go_enter Tryd.func26, Tryd.ntmps26
      go_wp2_with fail
      go_loop [11] (fun v => v = .int .i64 0) (fun _ => 0)
      case atStart => rfl
      case round =>
        subst hrel
        go_wp2_with fail
        refine (HSP.out _ HB.out).mono ?_
        rintro e w1 ⟨rfl, hrd, hoff⟩
        have HRD := Lib.hid hrd
        have HOF := Lib.hid hoff
        clear hrd hoff
        go_wp2_with fail
        go_ret
        rw [← HR2.out]
        exact ⟨rfl, HRD.out, HOF.out⟩
    · have HC := Lib.hid hcell
      clear hcell
      obtain ⟨Q, hQ⟩ : ∃ Q, numL 0 0 (L.drop 0) = Q := ⟨_, rfl⟩
      have HQ := Lib.hid hQ
      rw [hQ] at HR
      clear hQ
      go_enter Tryd.func26, Tryd.ntmps26
      go_wp2_with fail
      go_loopg [3, 11] n (fun g v3 v11 wr => wr = w ∧ ∃ i acc : Nat, i + g = n ∧ i ≤ 9 ∧ v11 = .int .i64 i ∧ v3 = .int .u64 acc ∧ acc < 128 ^ i ∧ numL i acc (L.drop i) = Q)
      case atStart => exact ⟨rfl, 0, 0, by omega, by omega, rfl, rfl, by decide, HQ.out⟩
      case round =>
        obtain ⟨rfl, i, acc, hig, hi9, rfl, rfl, hacc, hq⟩ := hrel
        have HI := Lib.hid hq
        have HA := Lib.hid hacc
        clear hq hacc
        by_cases hlt : i < n
        · have hli : (i : Int) < (n : Int) := by omega
          have hc := HC.out i hlt
          have hx : L.drop i = L.getD i 0 :: L.drop (i + 1) := by
            rw [List.drop_eq_getElem_cons (by rw [HL.out]; exact hlt)]
            simp [List.getD, HL.out, hlt]
          have HI2 := Lib.hid HI.out
          rw [hx] at HI2
          unfold numL at HI2
          clear hx HI
          have hc8 : (L.getD i 0).toNat < 256 := (L.getD i 0).toNat_lt
          generalize (L.getD i 0).toNat = c at hc HI2 hc8
          obtain ⟨bd, hbd⟩ : ∃ bd, decide ((i = 9 ∧ 1 < c) ∨ (0 < i ∧ c = 0)) = bd := ⟨_, rfl⟩
          have HBD := Lib.hid hbd
          clear hbd
          go_upto_region 5 with fail
          go_cut [29] (fun v wx => v = .bool bd ∧ wx = wr)
          case first =>
            by_cases h9 : i = 9
            · subst h9
              by_cases h1 : 1 < c
              · have h1i : (1 : Int) < (c : Int) := by omega
                have HS : Hid (bd = true) := by unfold Hid; rw [← HBD.out]; exact decide_eq_true (.inl ⟨rfl, h1⟩)
                clear HBD h1
                go_wp2_with fail
                go_meet
                exact ⟨by rw [HS.out], rfl⟩
              · have h1i : ¬ (1 : Int) < (c : Int) := by omega
                by_cases h0 : c = 0
                · have HS : Hid (bd = true) := by unfold Hid; rw [← HBD.out]; exact decide_eq_true (.inr ⟨by omega, h0⟩)
                  have h0i : ((c : Int) == 0) = true := by simp; omega
                  clear HBD h1 h0
                  go_wp2_with fail
                  go_meet
                  exact ⟨by rw [HS.out], rfl⟩
                · have HS : Hid (bd = false) := by unfold Hid; rw [← HBD.out]; exact decide_eq_false (by rintro (h | h); exact h1 h.2; exact h0 h.2)
                  have h0i : ((c : Int) == 0) = false := by simp; omega
                  clear HBD h1 h0
                  go_wp2_with fail
                  go_meet
                  exact ⟨by rw [HS.out], rfl⟩
            · have h9i : ((i : Int) == 9) = false := by simp; omega
              by_cases hi0 : 0 < i
              · have hi0i : (0 : Int) < (i : Int) := by omega
                by_cases h0 : c = 0
                · have HS : Hid (bd = true) := by unfold Hid; rw [← HBD.out]; exact decide_eq_true (.inr ⟨by omega, h0⟩)
                  have h0i : ((c : Int) == 0) = true := by simp; omega
                  clear HBD h0 h9
                  go_wp2_with fail
                  go_meet
                  exact ⟨by rw [HS.out], rfl⟩
                · have HS : Hid (bd = false) := by unfold Hid; rw [← HBD.out]; exact decide_eq_false (by rintro (h | h); exact h9 h.1; exact h0 h.2)
                  have h0i : ((c : Int) == 0) = false := by simp; omega
                  clear HBD h0 h9
                  go_wp2_with fail
                  go_meet
                  exact ⟨by rw [HS.out], rfl⟩
              · have hi0i : ¬ (0 : Int) < (i : Int) := by omega
                have HS : Hid (bd = false) := by unfold Hid; rw [← HBD.out]; exact decide_eq_false (by rintro (h | h); exact h9 h.1; exact hi0 h.1)
                clear HBD h9
                go_wp2_with fail
                go_meet
                exact ⟨by rw [HS.out], rfl⟩
          case rest =>
          obtain ⟨rfl, hwr⟩ := hcut
          rw [hwr]
          clear hwr
          cases bd
          case true =>
            have HR2 : Hid (((0, none) : Nat × Option (List UInt8)) = R) := by
              unfold Hid
              have := HI2.out
              rw [if_pos (of_decide_eq_true HBD.out)] at this
              rw [← HR.out, ← this]
            clear HR HI2 HBD
            go_wp2_with fail
            refine (HSP.out _ HB.out).mono ?_
            rintro e w1 ⟨rfl, hrd, hoff⟩
            have HRD := Lib.hid hrd
            have HOF := Lib.hid hoff
            clear hrd hoff
            go_wp2_with fail
            go_ret
            rw [← HR2.out]
            exact ⟨rfl, HRD.out, HOF.out⟩
          have HI3 : Hid ((if c < 128 then some (acc + c % 128 * 128 ^ i, L.drop (i + 1)) else numL (i + 1) (acc + c % 128 * 128 ^ i) (L.drop (i + 1))) = Q) := by
            unfold Hid
            have := HI2.out
            rw [if_neg (of_decide_eq_false HBD.out)] at this
            exact this
          clear HI2
          have hb9 : i = 9 → c ≤ 1 := fun h => by
            have := of_decide_eq_false HBD.out
            omega
          obtain ⟨m, hm⟩ : ∃ m, c % 128 = m := ⟨_, rfl⟩
          have hm128 : m < 128 := by omega
          obtain ⟨wd1, wd2, wd3⟩ := num_words i acc m hi9 HA.out hm128 (fun h => by have := hb9 h; omega)
          have wd0 := and127 hc8
          rw [hm] at wd0 HI3
          have hnx : acc + m * 128 ^ i < 128 ^ (i + 1) := by
            have h1 := HA.out
            have h2 : m * 128 ^ i ≤ 127 * 128 ^ i := Nat.mul_le_mul_right _ (by omega)
            rw [Nat.pow_succ]
            omega
          generalize m * 128 ^ i = s at wd2 wd3 HI3 hnx
          generalize acc + s = a2 at wd3 HI3 hnx
          have HN := Lib.hid hnx
          clear hnx hm hm128 HBD HA
          by_cases h128 : c < 128
          · have h128i : (c : Int) < 128 := by omega
            have HR2 : Hid (((a2, some (L.drop (i + 1))) : Nat × Option (List UInt8)) = R) := by
              unfold Hid
              have := HI3.out
              rw [if_pos h128] at this
              rw [← HR.out, ← this]
            have HRU : Hid (RdU wr b (some ⟨b', off, none⟩) n cap L) := ⟨HL.out, hnc, by unfold maxLen; omega, .inr ⟨b', off, rfl, hb', hbw, HC.out⟩⟩
            have hLd : Hid ((L.drop (i + 1)).length ≤ 100000) := by unfold Hid; rw [List.length_drop, HL.out]; omega
            clear HI3 HR h128 hb9
            by_cases hce : cap = i + 1
            · subst hce
              have hin : n = i + 1 := by omega
              have HRX : Hid (RdU wr b (some ⟨b', off, none⟩) 0 0 (L.drop (i + 1))) := by
                have := HRU.out.drop (i + 1) (by omega) off (by omega)
                rw [hin, Nat.sub_self] at this
                exact this
              clear hin
              go_wp2_with fail
              go_ret
              rw [← HR2.out]
              exact ⟨rfl, ⟨_, _, _, _, block_setCell HB.out _, rfl, hLd.out, HRX.out.off ((Off.refl b wr).set 0 _) (Nat.le_refl _)⟩, (Off.refl _ _).set _ _⟩
            · have hcl : (i : Int) + 1 < (cap : Int) := by omega
              have HRX := Lib.hid (HRU.out.drop (i + 1) (by omega) (off + (i + 1)) (.inl rfl))
              clear hce
              go_wp2_with fail
              go_ret
              rw [← HR2.out]
              exact ⟨rfl, ⟨_, _, _, _, block_setCell HB.out _, rfl, hLd.out, HRX.out.off ((Off.refl b wr).set 0 _) (Nat.le_refl _)⟩, (Off.refl _ _).set _ _⟩
          · have h128i : ¬ (c : Int) < 128 := by omega
            have HI5 : Hid (numL (i + 1) a2 (L.drop (i + 1)) = Q) := by
              unfold Hid
              have := HI3.out
              rw [if_neg h128] at this
              exact this
            have hi8 : i + 1 ≤ 9 := by
              rcases Nat.lt_or_ge i 9 with h | h
              · omega
              · have := hb9 (by omega)
                omega
            clear HI3 h128 hb9
            go_wp2_with fail
            go_roundg (gk - 1)
            case measure => omega
            case rel => exact ⟨rfl, i + 1, a2, by omega, hi8, by go_num, rfl, HN.out, HI5.out⟩
        · obtain rfl : i = n := by omega
          have hli : ¬ (i : Int) < (i : Int) := by omega
          have HR2 : Hid (((0, none) : Nat × Option (List UInt8)) = R) := by
            unfold Hid
            have := HI.out
            rw [List.drop_eq_nil_of_le (by rw [HL.out]; exact Nat.le_refl _)] at this
            rw [← HR.out, ← this]
            rfl
          clear HR HI
          go_wp2_with fail
          refine (HSP.out _ HB.out).mono ?_
          rintro e w1 ⟨rfl, hrd, hoff⟩
          have HRD := Lib.hid hrd
          have HOF := Lib.hid hoff
          clear hrd hoff
          go_wp2_with fail
          go_ret
          rw [← HR2.out]
          exact ⟨rfl, HRD.out, HOF.out⟩
def intR (most : Nat) (S : Option (List UInt8)) : Nat × Option (List UInt8) := match S with
  | none => (0, none)
  | some L => match intD most L with
    | none => (0, none)
    | some (v, r) => (v, some r)
theorem intR_is (most : Nat) (S : Option (List UInt8)) : intR most S = if most < (numR S).1 then (0, none) else numR S := by
  cases S with
  | none => exact (if_neg (show ¬ most < 0 by omega)).symm
  | some L =>
    show (match intD most L with | none => (0, none) | some (v, r) => (v, some r)) = if most < (match numD L with | none => (0, none) | some (v, r) => (v, some r) : Nat × Option (List UInt8)).1 then (0, none) else (match numD L with | none => (0, none) | some (v, r) => (v, some r))
    unfold intD
    cases numD L with
    | none => exact (if_neg (show ¬ most < 0 by omega)).symm
    | some x =>
      obtain ⟨v, r⟩ := x
      by_cases h : most < v
      · simp [h]
      · simp [h]
theorem numR_lt (S : Option (List UInt8)) : (numR S).1 < 18446744073709551616 := by
  cases S with
  | none => show 0 < _; omega
  | some L =>
    unfold numR
    simp only []
    cases h : numD L with
    | none => show 0 < _; omega
    | some x =>
      obtain ⟨v, r⟩ := x
      exact numD_lt h
def IntP (b : Nat) (R : Nat × Option (List UInt8)) (w : World) (e : Ending) (w' : World) : Prop := e = .returned (.int .i64 (R.1 : Nat)) ∧ Rdr w' b R.2 ∧ Off b w w'
theorem Rdr.blk {w : World} {b : Nat} {S : Option (List UInt8)} (h : Rdr w b S) : ∃ v bad, BlkC w b #[v, .bool bad] tRd := by
  obtain ⟨p, n, cap, bad, h1, h2⟩ := h
  exact ⟨_, bad, h1⟩
set_option maxRecDepth 100000 in
set_option maxHeartbeats 4000000 in
theorem int_any (b : Nat) (S : Option (List UInt8)) (most : Nat) (hm : most ≤ 1000000) (w : World) (h : Rdr w b S) (R : Nat × Option (List UInt8)) (hR : intR most S = R) :
    Calls Tryd.prog 24 #[.pointer (some ⟨b, 0, none⟩), .int .i64 most] w (IntP b R w) := by
  have HN := Lib.hid (num_any b S w h (numR S) rfl)
  have hlt := numR_lt S
  have HR : Hid ((if most < (numR S).1 then (0, none) else numR S) = R) := by unfold Hid; rw [← hR, intR_is]
  clear hR h
  obtain ⟨⟨v, T⟩, hv⟩ : ∃ x, numR S = x := ⟨_, rfl⟩
  rw [hv] at HN HR hlt
  clear hv
  have hvl : v < 18446744073709551616 := hlt
  clear hlt
  have hmw : IntKind.u64.wrap (most : Int) = (most : Int) := IntWalk.u64_in _ (by omega)
  by_cases hmv : most < v
  · have hmi : (most : Int) < (v : Int) := by omega
    have HR2 : Hid (((0, none) : Nat × Option (List UInt8)) = R) := by unfold Hid; rw [← HR.out]; exact (if_pos hmv).symm
    clear HR hmv
    go_enter Tryd.func24, Tryd.ntmps24
    go_wp2_with fail
    refine HN.out.mono ?_
    rintro e w1 ⟨rfl, hrd, hoff⟩
    obtain ⟨v1, bad, hbl⟩ := hrd.blk
    have HBL := Lib.hid hbl
    have HOF := Lib.hid hoff
    clear hrd hbl hoff HN
    go_wp2_with fail
    refine (spoil_any b v1 bad _ HBL.out).mono ?_
    rintro e w2 ⟨rfl, hrd, hoff⟩
    have HRD := Lib.hid hrd
    have HO2 : Hid (Off b w w2) := HOF.out.trans hoff
    clear hrd hoff HOF HBL
    go_wp2_with fail
    go_ret
    rw [← HR2.out]
    exact ⟨rfl, HRD.out, HO2.out⟩
  · have hmi : ¬ (most : Int) < (v : Int) := by omega
    have HR2 : Hid ((v, T) = R) := by unfold Hid; rw [← HR.out]; exact (if_neg hmv).symm
    have hvw : IntKind.i64.wrap (v : Int) = (v : Int) := IntWalk.i64_in _ (by omega)
    clear HR hmv
    go_enter Tryd.func24, Tryd.ntmps24
    go_wp2_with fail
    refine HN.out.mono ?_
    rintro e w1 ⟨rfl, hrd, hoff⟩
    have HRD := Lib.hid hrd
    have HOF := Lib.hid hoff
    clear hrd hoff HN
    go_wp2_with fail
    go_ret
    rw [← HR2.out]
    exact ⟨rfl, HRD.out, HOF.out⟩
end Go.Proofs.YtljloggbfmnjmaaDoor
