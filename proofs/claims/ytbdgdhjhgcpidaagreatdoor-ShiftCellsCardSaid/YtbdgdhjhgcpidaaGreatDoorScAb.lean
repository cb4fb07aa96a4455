/- Division at numbers of one word, and the law's helper awake. -/
import Derived.Test.YtbdgdhjhgcpidaaGreatDoorScI
set_option linter.unusedSimpArgs false
set_option linter.unusedVariables false
namespace Go.Proofs.YtbdgdhjhgcpidaaGreatDoor
open Go.RowKit

set_option maxRecDepth 100000 in
set_option maxHeartbeats 1000000 in
theorem div64_small (lo y : Nat) (hy : 0 < y) (hy6 : y ≤ 100000000) (hlo : lo ≤ 100000000000000) (w : World) :
    Calls Tryz.prog 83 #[.int .u64 0, .int .u64 lo, .int .u64 y] w fun e w' => e = .returned (.tuple #[.int .u64 ((lo / y : Nat) : Int), .int .u64 ((lo % y : Nat) : Int)]) ∧ Below w.heap.size w w' := by
  obtain ⟨q, hq⟩ : ∃ q : Nat, lo / y = q := ⟨_, rfl⟩
  obtain ⟨r, hr⟩ : ∃ r : Nat, lo % y = r := ⟨_, rfl⟩
  have hq2 : q ≤ lo := by rw [← hq]; exact Nat.div_le_self _ _
  have hr2 : r < y := by rw [← hr]; exact Nat.mod_lt _ hy
  have e1 : (lo : Int) / (y : Int) = (q : Int) := by rw [← hq]; rfl
  have e2 : (lo : Int) % (y : Int) = (r : Int) := by rw [← hr]; rfl
  have e3 : IntKind.u64.wrap (q : Int) = (q : Int) := IntWalk.u64_in _ (by omega)
  have e4 : IntKind.u64.wrap (r : Int) = (r : Int) := IntWalk.u64_in _ (by omega)
  have e5 : IntKind.u64.wrap ((lo : Int) / (y : Int)) = (q : Int) := by rw [e1]; exact e3
  rw [hq, hr]
  clear hq hr
  have t1 : ((y : Int) == 0) = false := by simp; omega
  go_enter Tryz.func83, Tryz.ntmps83
  go_wp2_with fail
  go_quiet (fail)
  go_wp2
  go_ret2
  exact ⟨by first | rfl | (rw [← e2]; rfl), bel_drewN (Below.refl _ _) _⟩

theorem rdiv_bound (lo y : Nat) (hy : 0 < y) (hlo : lo ≤ 100000000000000) : rdiv lo y ≤ 100000000000001 := by
  unfold rdiv
  have := Nat.div_le_self lo y
  split <;> omega

set_option maxRecDepth 100000 in
set_option maxHeartbeats 1000000 in
theorem divided_small (lo y : Nat) (hy : 0 < y) (hy6 : y ≤ 100000000) (hlo : lo ≤ 100000000000000) (w : World) :
    Calls Tryz.prog 66 #[.int .u64 0, .int .u64 lo, .int .u64 y] w fun e w' => e = .returned (.tuple #[.int .u64 ((rdiv lo y : Nat) : Int), .int .i64 0]) ∧ Below w.heap.size w w' := by
  have HD := Lib.hid (fun W => div64_small lo y hy hy6 hlo W)
  obtain ⟨q, hq⟩ : ∃ q : Nat, lo / y = q := ⟨_, rfl⟩
  obtain ⟨r, hr⟩ : ∃ r : Nat, lo % y = r := ⟨_, rfl⟩
  have hq2 : q ≤ lo := by rw [← hq]; exact Nat.div_le_self _ _
  have hr2 : r < y := by rw [← hr]; exact Nat.mod_lt _ hy
  have HQ := Lib.hid (And.intro hq hr)
  by_cases hc : y ≤ 2 * r
  · have e : Hid (rdiv lo y = q + 1) := by unfold Hid rdiv; rw [hr, hq, if_pos hc]
    have t2 : ((((q + 1 : Nat)) : Int) == 0) = false := by simp; omega
    have t3 : (((q : Int) + 1) == 0) = false := by simp; omega
    have hc' : (y : Int) - (r : Int) ≤ (r : Int) := by omega
    clear hq hr hc
    go_enter Tryz.func66, Tryz.ntmps66
    go_wp2_with fail
    refine (HD.out _).mono ?_
    rintro e w1 ⟨rfl, hb⟩
    rw [HQ.out.1, HQ.out.2]
    go_wp2_with fail
    go_ret2
    exact ⟨by rw [e.out]; rfl, hb⟩
  · have e : Hid (rdiv lo y = q) := by unfold Hid rdiv; rw [hr, hq, if_neg hc]
    have hc' : ¬ (y : Int) - (r : Int) ≤ (r : Int) := by omega
    clear hq hr hc
    go_enter Tryz.func66, Tryz.ntmps66
    go_wp2_with fail
    refine (HD.out _).mono ?_
    rintro e w1 ⟨rfl, hb⟩
    rw [HQ.out.1, HQ.out.2]
    go_wp2_with fail
    go_ret2
    exact ⟨by rw [e.out]; rfl, hb⟩

theorem parse_a (w : World) (hsh : w.ShapedOpen Tryz.prog) : Calls Tryz.prog 34 #[.string ⟨#[49, 46, 53, 48]⟩] w fun e w' => e = .returned (.tuple #[.int .i64 1500000, .bool true]) ∧ Below w.heap.size w w' := by
  have h := parse_any ⟨#[49, 46, 53, 48]⟩ (by decide) w hsh
  have e1 : prsV (⟨#[49, 46, 53, 48]⟩ : ByteArray).data.toList = 1500000 := by decide +kernel
  have e2 : prsOk (⟨#[49, 46, 53, 48]⟩ : ByteArray).data.toList = true := by decide +kernel
  rw [e1, e2] at h
  exact h
theorem text_a (w : World) : Calls Tryz.prog 43 #[.int .i64 1500000] w fun e w' => e = .returned (.string ⟨#[49, 46, 53]⟩) ∧ Below w.heap.size w w' := by
  have h := text_any 1500000 (by omega) (by omega) w
  have e1 : txt 1500000 = [49, 46, 53] := by decide +kernel
  rw [e1] at h
  exact h

end Go.Proofs.YtbdgdhjhgcpidaaGreatDoor
