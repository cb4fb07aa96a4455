/- Floor, Mod and Round of dec. -/
import Derived.Test.YteknbdodihfbeaaDoorDecG
set_option linter.unusedSimpArgs false
set_option linter.unusedVariables false

namespace Go.Proofs.YteknbdodihfbeaaDoor
open Go.RowKit

theorem tmod_lit (a : Int) : a.tmod 1000000 = if 0 ≤ a ∨ a % 1000000 = 0 then a % 1000000 else a % 1000000 - 1000000 := by
  rw [Int.tmod_eq_emod]
  have e : (1000000 : Int) ∣ a ↔ a % 1000000 = 0 := ⟨Int.emod_eq_zero_of_dvd, Int.dvd_of_emod_eq_zero⟩
  by_cases h : 0 ≤ a ∨ a % 1000000 = 0
  · rw [if_pos h, if_pos (by rw [e]; exact h)]; simp
  · rw [if_neg h, if_neg (by rw [e]; exact h)]; rfl

/-- What Mod tells. -/
def modV (a b : Int) : Int := if b = 0 then 0 else a.fmod b
def modE (b : Int) : Int := if b = 0 then 32 else 0

/-- The unit of so many places. -/
def uN (k : Int) : Nat := 10 ^ (6 - (min (max k 0) 6)).toNat
theorem uN_pos (k : Int) : 1 ≤ uN k := Nat.pow_pos (by omega)
theorem uN_le (k : Int) : uN k ≤ 1000000 := by
  have h : (6 - (min (max k 0) 6)).toNat ≤ 6 := by omega
  exact Nat.le_trans (Nat.pow_le_pow_right (by omega) h) (by decide)
theorem rdiv_mul_le (A u : Nat) (hu : 1 ≤ u) : rdiv A u * u ≤ A + u := by
  unfold rdiv
  have h1 := Nat.div_mul_le_self A u
  split
  · rw [Nat.add_mul]; omega
  · omega

set_option maxRecDepth 100000 in
set_option maxHeartbeats 1000000 in
theorem round_any (a : Int) (k : Int) (ha1 : -9223372036854775808 ≤ a) (ha2 : a ≤ 9223372036854775807) (w : World) :
    Calls Tryd.prog 20 #[.int .i64 a, .int .i64 k] w fun e w' => e = .returned (.tuple #[.int .i64 (okV (sv (decide (a < 0)) (rdiv a.natAbs (uN k) * uN k))), .int .i64 (okE (sv (decide (a < 0)) (rdiv a.natAbs (uN k) * uN k)))]) ∧ Below w.heap.size w w' := by
  have HP := Lib.hid (fun W => part_any a ha1 ha2 W)
  have HU := Lib.hid (fun W => unit_any k W)
  obtain ⟨A, hA⟩ : ∃ A, a.natAbs = A := ⟨_, rfl⟩
  have hAb : A ≤ 9223372036854775808 := by omega
  obtain ⟨u, hu⟩ : ∃ u, uN k = u := ⟨_, rfl⟩
  have hu1 : 1 ≤ u := by rw [← hu]; exact uN_pos k
  have hu2 : u ≤ 1000000 := by rw [← hu]; exact uN_le k
  rw [hA] at HP ⊢
  rw [hu]
  rw [show 10 ^ (6 - (min (max k 0) 6)).toNat = u from hu] at HU
  obtain ⟨n, hn⟩ : ∃ n, rdiv A u = n := ⟨_, rfl⟩
  have hnu : n * u ≤ A + u := by rw [← hn]; exact rdiv_mul_le A u hu1
  have hnA : n ≤ A + u := Nat.le_trans (Nat.le_mul_of_pos_right n hu1) hnu
  have HM := Lib.hid (fun W => mul64_any n u 0 (n * u) (u : Int) rfl (by unfold U64; omega) (by unfold U64; omega) (by omega) (by unfold U64; omega) W)
  have HS := Lib.hid (fun W => sign_any (n * u) (by omega) (decide (a < 0)) W)
  rw [hn]
  obtain ⟨p, hp⟩ : ∃ p, n * u = p := ⟨_, rfl⟩
  rw [hp] at HM HS ⊢
  obtain ⟨q, hq⟩ : ∃ q, A / u = q := ⟨_, rfl⟩
  obtain ⟨r, hr⟩ : ∃ r, A % u = r := ⟨_, rfl⟩
  have hru : r < u := by rw [← hr]; exact Nat.mod_lt _ hu1
  have hqA : q ≤ A := by rw [← hq]; exact Nat.div_le_self _ _
  unfold rdiv at hn
  rw [hq, hr] at hn
  clear hnu hp hA hu ha1 ha2
  have une : u ≠ 0 := by omega
  have hq' : (A : Int) / (u : Int) = (q : Int) := by rw [← hq]; rfl
  have hr' : (A : Int) % (u : Int) = (r : Int) := by rw [← hr]; rfl
  by_cases hup : u ≤ 2 * r
  · subst hn
    have g1 : (u : Int) - (r : Int) ≤ (r : Int) := by omega
    have g2 : (0 : Int) < (r : Int) := by omega
    have w1 : IntKind.u64.wrap (q : Int) = (q : Int) := by rw [IntKind.wrap_u64]; omega
    have w3 : IntKind.u64.wrap (r : Int) = (r : Int) := by rw [IntKind.wrap_u64]; omega
    have w4 : IntKind.u64.wrap ((u : Int) - (r : Int)) = (u : Int) - (r : Int) := by rw [IntKind.wrap_u64]; omega
    have w2 : IntKind.u64.wrap ((q : Int) + 1) = (q : Int) + 1 := by rw [IntKind.wrap_u64]; omega
    rw [show (((if u ≤ 2 * r then q + 1 else q) : Nat) : Int) = (q : Int) + 1 from by rw [if_pos hup]; rfl] at HM
    clear hq hr hru hqA hAb hu1 hu2 hnA hup
    go_enter Tryd.func20, Tryd.ntmps20
    go_wp2_with fail
    refine (HU.out _).mono ?_
    rintro e w1 ⟨rfl, rfl⟩
    go_wp2_with fail
    go_region_held3 (fun w' => True) (trivial) ((go_at_call 32; refine (HP.out _).mono ?_; rintro e w1 ⟨rfl, rfl⟩))
    go_wp2_with fail
    refine (HM.out _).mono ?_
    rintro e w1 ⟨rfl, rfl⟩
    go_wp2_with fail
    refine (HS.out _).mono ?_
    rintro e w1 ⟨rfl, rfl⟩
    go_wp2_with fail
    go_ret2
    exact ⟨rfl, (Below.refl _ _).drew⟩
  · subst hn
    have g1 : ¬ (u : Int) - (r : Int) ≤ (r : Int) := by omega
    have w1 : IntKind.u64.wrap (q : Int) = (q : Int) := by rw [IntKind.wrap_u64]; omega
    have w3 : IntKind.u64.wrap (r : Int) = (r : Int) := by rw [IntKind.wrap_u64]; omega
    have w4 : IntKind.u64.wrap ((u : Int) - (r : Int)) = (u : Int) - (r : Int) := by rw [IntKind.wrap_u64]; omega
    rw [if_neg hup] at HM
    clear hq hr hru hqA hAb hu1 hu2 hnA hup
    go_enter Tryd.func20, Tryd.ntmps20
    go_wp2_with fail
    refine (HU.out _).mono ?_
    rintro e w1 ⟨rfl, rfl⟩
    go_wp2_with fail
    go_region_held3 (fun w' => True) (trivial) ((go_at_call 32; refine (HP.out _).mono ?_; rintro e w1 ⟨rfl, rfl⟩))
    go_wp2_with fail
    refine (HM.out _).mono ?_
    rintro e w1 ⟨rfl, rfl⟩
    go_wp2_with fail
    refine (HS.out _).mono ?_
    rintro e w1 ⟨rfl, rfl⟩
    go_wp2_with fail
    go_ret2
    exact ⟨rfl, (Below.refl _ _).drew⟩
end Go.Proofs.YteknbdodihfbeaaDoor
