/- Contract of dec.Parse. -/
import Derived.Test.YtilajcibjlcffaaGreatDoorDecB
import Derived.Deep.DeepCutAuto
set_option linter.unusedSimpArgs false
set_option linter.unusedVariables false

namespace Go.Proofs.YtilajcibjlcffaaGreatDoor
open Go.RowKit

theorem shaped_below {P : Program} {w w' : World} (h : w.ShapedOpen P) (hb : Below w.heap.size w w') : w'.ShapedOpen P := h.keptBut (hb.frame (fun _ => False)) (fun _ h => h.elim)

/-- What Parse reads. -/
def prsMi (L : List UInt8) : Bool := Lib.hasPrefix L [45]
def prsA (L : List UInt8) : List UInt8 := (Lib.cut (Lib.trimPrefix L [45]) [46]).1
def prsB (L : List UInt8) : List UInt8 := if (Lib.cut (Lib.trimPrefix L [45]) [46]).2.2 then (Lib.cut (Lib.trimPrefix L [45]) [46]).2.1 else [48]
def prsN (L : List UInt8) : Nat := rdV (prsA L) * 1000000 + rdV (prsB L) * 10 ^ (6 - (prsB L).length)
def prsOk (L : List UInt8) : Bool := rdOk (prsA L) && (rdOk (prsB L) && (decide ((prsB L).length ≤ 6) && (decide (prsN L < U64) && inR (sv (prsMi L) (prsN L)))))
def prsV (L : List UInt8) : Int := if prsOk L then sv (prsMi L) (prsN L) else 0

theorem rd_lt : ∀ (L : List UInt8) (n v : Nat), rdFrom (some n) L = some v → v < (n + 1) * 10 ^ L.length
  | [], n, v, h => by
    have : some n = some v := h
    cases this
    simp
  | c :: L, n, v, h => by
    have h1 : rdFrom (rdStep (some n) c) L = some v := h
    simp only [rdStep] at h1
    split at h1
    · rename_i hc
      have ih := rd_lt L _ v h1
      refine Nat.lt_of_lt_of_le ih ?_
      rw [List.length_cons, Nat.pow_succ, Nat.mul_comm (10 ^ L.length), ← Nat.mul_assoc]
      exact Nat.mul_le_mul_right _ (by omega)
    · rw [rdFrom_none] at h1
      cases h1
theorem rdV_lt (L : List UInt8) : rdV L < 10 ^ L.length := by
  unfold rdV
  cases h : rdFrom (some 0) L with
  | none => exact Nat.pow_pos (by omega)
  | some v => simpa using rd_lt L 0 v h
theorem rdV_u64 (L : List UInt8) : rdV L < U64 := by
  have key : ∀ (L : List UInt8) (n v : Nat), n < U64 → rdFrom (some n) L = some v → v < U64 := by
    intro L
    induction L with
    | nil =>
      intro n v hn h
      have : some n = some v := h
      cases this
      exact hn
    | cons c L ih =>
      intro n v hn h
      have h1 : rdFrom (rdStep (some n) c) L = some v := h
      simp only [rdStep] at h1
      split at h1
      · rename_i hc
        exact ih _ v hc.2.2 h1
      · rw [rdFrom_none] at h1
        cases h1
  unfold rdV
  cases h : rdFrom (some 0) L with
  | none => unfold U64; simp
  | some v => exact key L 0 v (by unfold U64; omega) h
theorem cut_len1 (s sep : List UInt8) : (Lib.cut s sep).1.length ≤ s.length := by
  unfold Lib.cut
  split
  · simp; omega
  · exact Nat.le_refl _
theorem cut_len2 (s sep : List UInt8) : (Lib.cut s sep).2.1.length ≤ s.length := by
  unfold Lib.cut
  split
  · simp
  · simp
theorem trimPrefix_len (s p : List UInt8) : (Lib.trimPrefix s p).length ≤ s.length := by
  unfold Lib.trimPrefix
  split <;> simp

theorem unit_at (l u : Nat) (hl : l ≤ 6) (hu : u = 10 ^ (6 - l)) (w : World) : Calls Tryz.prog 79 #[.int .i64 l] w fun e w' => e = .returned (.int .u64 (u : Int)) ∧ w = w' := by
  have := unit_any (l : Int) w
  rw [show (6 - min (max (l : Int) 0) 6).toNat = 6 - l from by omega, ← hu] at this
  exact this
theorem unit_at0 (w : World) : Calls Tryz.prog 79 #[.int .i64 0] w fun e w' => e = .returned (.int .u64 1000000) ∧ w = w' := unit_at 0 1000000 (by omega) (by decide) w

theorem read_list (A : List UInt8) (hA : A.length ≤ 1000000) (w : World) :
    Calls Tryz.prog 78 #[.string ⟨A.toArray⟩] w fun e w' => e = .returned (.tuple #[.int .u64 (rdV A : Int), .bool (rdOk A)]) ∧ Below w.heap.size w w' := by
  have e1 : (⟨A.toArray⟩ : ByteArray).data.toList = A := by simp
  have := read_any ⟨A.toArray⟩ (by rw [Lib.size_eq]; simpa using hA) w
  rw [e1] at this
  exact this
theorem cutPrefix_any (s : ByteArray) (mi : Bool) (R : List UInt8) (h1 : Lib.hasPrefix s.data.toList [45] = mi) (h2 : Lib.trimPrefix s.data.toList [45] = R) (w : World) :
    Calls Tryz.prog 76 #[.string s, .string ⟨#[45]⟩] w fun e w' => e = .returned (.tuple #[.string ⟨R.toArray⟩, .bool mi]) ∧ w = w' := by
  subst h1 h2
  exact (Tryz.strings_CutPrefix s ⟨#[45]⟩ w).mono fun e w' ⟨h1, h2⟩ => ⟨h1, h2.symm⟩
theorem cut_point (R A B : List UInt8) (pt : Bool) (h : Lib.cut R [46] = (A, B, pt)) (hlen : R.length ≤ 1000000) (w : World) (hsh : w.ShapedOpen Tryz.prog) :
    Calls Tryz.prog 77 #[.string ⟨R.toArray⟩, .string ⟨#[46]⟩] w fun e w' => e = .returned (.tuple #[.string ⟨A.toArray⟩, .string ⟨B.toArray⟩, .bool pt]) ∧ Below w.heap.size w w' := by
  refine (Tryz.strings_Cut_shaped ⟨R.toArray⟩ ⟨#[46]⟩ w hsh (by rw [Lib.size_eq]; simp; omega)).mono fun e w' ⟨h1, n, h2⟩ => ?_
  have e1 : (⟨R.toArray⟩ : ByteArray).data.toList = R := by simp
  have e2 : (⟨#[46]⟩ : ByteArray).data.toList = [46] := rfl
  rw [e1, e2, h] at h1
  subst h2
  exact ⟨h1, bel_drewN (Below.refl _ _) _⟩

set_option maxRecDepth 100000 in
set_option maxHeartbeats 2000000 in
theorem parse_any (s : ByteArray) (hs : s.size ≤ 100000) (w : World) (hsh : w.ShapedOpen Tryz.prog) :
    Calls Tryz.prog 45 #[.string s] w fun e w' => e = .returned (.tuple #[.int .i64 (prsV s.data.toList), .bool (prsOk s.data.toList)]) ∧ Below w.heap.size w w' := by
  have hl : s.data.toList.length ≤ 100000 := by rw [← Lib.size_eq]; exact hs
  obtain ⟨L, hL⟩ : ∃ L, s.data.toList = L := ⟨_, rfl⟩
  obtain ⟨mi, hmi⟩ : ∃ mi, Lib.hasPrefix s.data.toList [45] = mi := ⟨_, rfl⟩
  obtain ⟨R, hR⟩ : ∃ R, Lib.trimPrefix s.data.toList [45] = R := ⟨_, rfl⟩
  obtain ⟨⟨A, B0, pt⟩, hcut⟩ : ∃ x, Lib.cut R [46] = x := ⟨_, rfl⟩
  obtain ⟨B, hB⟩ : ∃ B, (if pt then B0 else [48]) = B := ⟨_, rfl⟩
  have hRl : R.length ≤ 100000 := by rw [← hR]; exact Nat.le_trans (trimPrefix_len _ _) hl
  have hAl : A.length ≤ 100000 := by have := cut_len1 R [46]; rw [hcut] at this; exact Nat.le_trans this hRl
  have hB0l : B0.length ≤ 100000 := by have := cut_len2 R [46]; rw [hcut] at this; exact Nat.le_trans this hRl
  have hBl : B.length ≤ 100000 := by rw [← hB]; split; exact hB0l; simp
  have eMi : prsMi L = mi := by rw [← hL]; exact hmi
  have eA : prsA L = A := by unfold prsA; rw [← hL, hR, hcut]
  have eB : prsB L = B := by unfold prsB; rw [← hL, hR, hcut]; exact hB
  rw [hL]
  have H1 := Lib.hid hmi
  have H2 := Lib.hid hR
  have H3 := Lib.hid hcut
  have H4 := Lib.hid hB
  have H5 := Lib.hid (And.intro eMi (And.intro eA eB))
  have HSH := Lib.hid hsh
  clear hL hmi hR hcut hB eMi eA eB hsh hl
  go_enter Tryz.func45, Tryz.ntmps45
  go_wp2_with fail
  refine (cutPrefix_any s mi R H1.out H2.out _).mono ?_
  rintro e w1 ⟨rfl, rfl⟩
  go_wp2_with fail
  refine (cut_point R A B0 pt H3.out (by omega) _ HSH.out).mono ?_
  rintro e w1 ⟨rfl, hb1⟩
  have hs1 := hb1.size
  go_upto_if 29 with fail
  go_cut [7] (fun v7 wx => wx = w1 ∧ v7 = .string ⟨B.toArray⟩)
  case first =>
    cases pt
    · have hB := H4.out
      simp at hB
      subst hB
      go_wp2_with fail
      go_meet
      exact ⟨rfl, rfl⟩
    · have hB := H4.out
      simp at hB
      subst hB
      go_wp2_with fail
      go_meet
      exact ⟨rfl, rfl⟩
  case rest =>
    obtain ⟨rfl, rfl⟩ := hcut
    go_wp2_with fail
    refine (read_list A (by omega) _).mono ?_
    rintro e w2 ⟨rfl, hb2⟩
    have hs2 := hb2.size
    go_wp2_with fail
    refine (read_list B (by omega) _).mono ?_
    rintro e w3 ⟨rfl, hb3⟩
    have hs3 := hb3.size
    have hbw : Below w.heap.size w w3 := bel_call hb3 (bel_call hb2 hb1 (by omega)) (by omega)
    clear hb1 hb2 hb3
    obtain ⟨n, hn⟩ : ∃ n, rdV A = n := ⟨_, rfl⟩
    obtain ⟨m, hm⟩ : ∃ m, rdV B = m := ⟨_, rfl⟩
    have fin0 : Hid (prsOk L = false) → ∀ W : World, Below w.heap.size w W → (Ending.returned (.tuple #[.int .i64 0, .bool false]) = .returned (.tuple #[.int .i64 (prsV L), .bool (prsOk L)]) ∧ Below w.heap.size w W) := fun h W hW => ⟨by unfold prsV; rw [h.out]; rfl, hW⟩
    have hnU : n < U64 := by rw [← hn]; exact rdV_u64 A
    have hmB : m < 10 ^ B.length := by rw [← hm]; exact rdV_lt B
    cases oA : rdOk A
    · have hbad : Hid (prsOk L = false) := by unfold Hid prsOk; rw [H5.out.2.1, oA]; rfl
      have HF := Lib.hid fin0
      clear fin0 hnU hmB
      go_wp2_with fail
      go_ret2
      exact HF.out hbad _ hbw
    cases oB : rdOk B
    · have hbad : Hid (prsOk L = false) := by unfold Hid prsOk; rw [H5.out.2.1, H5.out.2.2, oA, oB]; rfl
      have HF := Lib.hid fin0
      clear fin0 hnU hmB
      go_wp2_with fail
      go_ret2
      exact HF.out hbad _ hbw
    by_cases hlen : B.length ≤ 6
    · obtain ⟨u, hu⟩ : ∃ u, u = 10 ^ (6 - B.length) := ⟨_, rfl⟩
      have hmu : m * u < 1000000 := by
        rw [hu]
        have h1 : m * 10 ^ (6 - B.length) < 10 ^ B.length * 10 ^ (6 - B.length) := Nat.mul_lt_mul_of_pos_right hmB (Nat.pow_pos (by omega))
        rw [← Nat.pow_add, show B.length + (6 - B.length) = 6 from by omega] at h1
        exact h1
      obtain ⟨t, ht⟩ : ∃ t, m * u = t := ⟨_, rfl⟩
      rw [ht] at hmu
      have htz : IntKind.u64.wrap ((m : Int) * (u : Int)) = (t : Int) := by
        rw [← Int.natCast_mul, ht]
        exact IntWalk.u64_in _ (by omega)
      have hP : prsN L = n * 1000000 + t := by
        unfold prsN
        rw [H5.out.2.1, H5.out.2.2, hn, hm, ← hu, ht]
      obtain ⟨hi64, lo, hlo, hlt⟩ : ∃ hi64 lo, n * 1000000 = hi64 * U64 + lo ∧ lo < U64 := ⟨n * 1000000 / U64, n * 1000000 % U64, by rw [Nat.mul_comm (_ / _)]; exact (Nat.div_add_mod _ _).symm, Nat.mod_lt _ (by unfold U64; omega)⟩
      obtain ⟨q, hq⟩ : ∃ q, IntKind.u64.wrap ((lo : Int) + (t : Int)) = q := ⟨_, rfl⟩
      have HN := Lib.hid hnU
      have HLO := Lib.hid hlo
      have HLT := Lib.hid hlt
      have HU := Lib.hid hu
      have HLEN := Lib.hid hlen
      have hok0 : prsOk L = (decide (n * 1000000 + t < U64) && inR (sv mi (n * 1000000 + t))) := by
        unfold prsOk
        rw [H5.out.1, H5.out.2.1, H5.out.2.2, oA, oB, hP]
        simp [hlen]
      by_cases hsum : n * 1000000 + t < U64
      · have h0 : hi64 = 0 := by
          rcases Nat.eq_zero_or_pos hi64 with h | h
          · exact h
          · have : U64 ≤ hi64 * U64 := Nat.le_mul_of_pos_left _ h
            omega
        subst h0
        obtain ⟨S, hS⟩ : ∃ S, n * 1000000 + t = S := ⟨_, rfl⟩
        have hq2 : q = (S : Int) := by
          rw [← hq, IntKind.wrap_u64]
          unfold U64 at hsum hlo
          omega
        have hq3 : ¬ q < (lo : Int) := by omega
        have hS64 : S ≤ 18446744073709551615 := by unfold U64 at hsum; omega
        rw [hq2] at hq hq3
        have HS64 := Lib.hid hS64
        rw [hS] at hP
        have hok1 : prsOk L = inR (sv mi S) := by rw [hok0, hS, decide_eq_true (by rw [← hS]; exact hsum)]; rfl
        have hokE : (okE (sv mi S) == 0) = inR (sv mi S) := by unfold okE; cases inR (sv mi S) <;> rfl
        have hval : prsV L = okV (sv mi S) := by
          unfold prsV okV
          rw [hok1, H5.out.1, hP]
        have HV := Lib.hid (And.intro hval hok1)
        clear fin0 hnU hmB hsum hlo hlt hu hok0 hok1 hval hP hS hS64 hq2 ht hmu
        go_wp2_with fail
        refine (unit_at B.length u HLEN.out HU.out _).mono ?_
        rintro e w4 ⟨rfl, rfl⟩
        go_wp2_with fail
        refine (mul64_any n 1000000 0 lo 1000000 rfl HN.out (by unfold U64; omega) HLO.out HLT.out _).mono ?_
        rintro e w5 ⟨rfl, rfl⟩
        go_wp2_with fail
        refine (sign_any S HS64.out mi _).mono ?_
        rintro e w6 ⟨rfl, rfl⟩
        go_wp2_with fail
        go_ret2
        exact ⟨by rw [HV.out.1, HV.out.2, ← hokE]; rfl, hbw⟩
      · have hbad : Hid (prsOk L = false) := by
          unfold Hid
          rw [hok0, decide_eq_false hsum]
          rfl
        have hcase : 0 < hi64 ∨ (hi64 = 0 ∧ q < (lo : Int)) := by
          rcases Nat.eq_zero_or_pos hi64 with h | h
          · right
            refine ⟨h, ?_⟩
            subst h
            rw [← hq, IntKind.wrap_u64]
            unfold U64 at hsum hlo hlt
            omega
          · exact .inl h
        have HF := Lib.hid fin0
        clear fin0 hnU hmB hsum hlo hlt hu hok0 hP ht hmu
        rcases hcase with h | ⟨rfl, h⟩
        · go_wp2_with fail
          refine (unit_at B.length u HLEN.out HU.out _).mono ?_
          rintro e w4 ⟨rfl, rfl⟩
          go_wp2_with fail
          refine (mul64_any n 1000000 hi64 lo 1000000 rfl HN.out (by unfold U64; omega) HLO.out HLT.out _).mono ?_
          rintro e w5 ⟨rfl, rfl⟩
          go_wp2_with fail
          go_ret2
          exact HF.out hbad _ hbw
        · go_wp2_with fail
          refine (unit_at B.length u HLEN.out HU.out _).mono ?_
          rintro e w4 ⟨rfl, rfl⟩
          go_wp2_with fail
          refine (mul64_any n 1000000 0 lo 1000000 rfl HN.out (by unfold U64; omega) HLO.out HLT.out _).mono ?_
          rintro e w5 ⟨rfl, rfl⟩
          go_wp2_with fail
          go_ret2
          exact HF.out hbad _ hbw
    · have hbad : Hid (prsOk L = false) := by unfold Hid prsOk; rw [H5.out.2.1, H5.out.2.2, oA, oB]; simp; omega
      have HF := Lib.hid fin0
      clear fin0 hnU hmB
      go_wp2_with fail
      go_ret2
      exact HF.out hbad _ hbw
end Go.Proofs.YtilajcibjlcffaaGreatDoor
