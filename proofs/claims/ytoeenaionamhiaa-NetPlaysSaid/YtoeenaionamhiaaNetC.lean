/- Contracts of Grow and Concat as the net calls them. -/
import Derived.Test.YtoeenaionamhiaaNetB
import Derived.Lib.AppendZeros
set_option linter.unusedSimpArgs false
set_option linter.unusedVariables false
namespace Go.Proofs.Ytoeenaionamhiaa
open Go.RowKit

theorem info_p : (Try.prog.info? tPk).map (fun i => (i.zero, i.size, i.bytes)) = some (some (.agg #[.int .i64 0, .int .i64 0, .slice none 0 0]), 3, 40) := by kernel_rfl

/-- What a call hands back that makes a row of packets. -/
def RetRow (n : Nat) (xs : List Value) (W : World) (e : Ending) (w' : World) : Prop := ∃ v, e = .returned v ∧ w'.ownsRow W.heap.size tPk 3 v n xs ∧ Below W.heap.size W w'

set_option maxRecDepth 100000 in
set_option maxHeartbeats 1000000 in
theorem grow_any (n : Nat) (hn : n ≤ 100000) (w : World) :
    Calls Try.prog 27 #[.slice none 0 0, .int .i64 n] w (RetRow 0 [] w) := by
  obtain ⟨i0, hi, hz0, hz1, hz2⟩ := info_parts info_p
  rcases Nat.eq_zero_or_pos n with h0 | h0
  · subst h0
    go_enter Try.func27, Try.ntmps27
    go_wp2
    go_ret
    exact ⟨_, rfl, World.ownsRow_nil _ _ _ _, Below.refl _ _⟩
  · have happ := Lib.run_append_nil_zeros (P := Try.prog) w 48 3 48 tPk i0 (.agg #[.int .i64 0, .int .i64 0, .slice none 0 0]) .i64 .i64 Try.underlying48 Try.underlying3 hi hz0 n h0 (by omega) (by omega) (by rw [hz2]; omega)
    have hc1 := grownCap_ge w n 0 tPk
    have hc2 := grownCap_le_maxLen w n 0 tPk (by unfold maxLen; omega)
    obtain ⟨K, hK⟩ : ∃ K, K = grownCap w n 0 tPk := ⟨_, rfl⟩
    rw [← hK] at happ hc1 hc2
    have HA := Lib.hid happ
    have HM := Lib.hid hc2
    unfold maxLen at hc2
    clear happ hK
    go_enter Try.func27, Try.ntmps27
    go_wp2_with (at_builtin; refine Lib.wpList_append_run _ rfl _ _ _ _ rfl _ _ rfl rfl _ _ HA.out ?_)
    go_ret
    refine ⟨_, rfl, World.ownsRow_made w.drew _ K (by simp) HM.out ?_, by (repeat' (first | (with_reducible exact Below.refl _ _) | (with_reducible assumption) | (with_reducible refine Below.alloc ?_ ?_ _) | (with_reducible refine bel_drewN ?_ _) | (with_reducible refine Below.drew ?_) | (with_reducible refine Below.setCell ?_ ?_ _) | (with_reducible refine bel_call ‹_› ?_ ?_) | go_size))⟩
    simp only [Array.size_append, size_zeroCells]
    show n * 3 + (K - n) * 3 = K * 3
    omega

/-- Packets' cells from an address on. -/
def RdC (w : World) (a : Addr) (n : Nat) (xs : List Value) : Prop := xs.length = n * 3 ∧ (∀ j u, xs[j]? = some u → w.cell? (a.add j) = some u) ∧ ∀ u ∈ xs, u.oneCell' = true
theorem RdC.kept {w w' : World} {a : Addr} {n : Nat} {xs : List Value} (h : RdC w a n xs) (ha : w'.heap[a.block]? = w.heap[a.block]?) : RdC w' a n xs :=
  ⟨h.1, fun j u hu => by rw [World.cell?_of_block (w := w) (w' := w') (by rw [block_add]; exact ha)]; exact h.2.1 j u hu, h.2.2⟩

def cc (n1 n2 : Nat) : Nat → Nat | 0 => 0 | 1 => n1 | _ => n1 + n2
def cx (x1 x2 : List Value) : Nat → List Value | 0 => [] | 1 => x1 | _ => x1 ++ x2

set_option maxRecDepth 100000 in
set_option maxHeartbeats 2000000 in
theorem concat_any (h : Nat) (a1 a2 : Addr) (n1 c1 n2 c2 : Nat) (x1 x2 : List Value) (hn1 : n1 ≤ 10000) (hn2 : n2 ≤ 10000) (w : World)
    (hh : h < w.heap.size) (hb1 : a1.block < w.heap.size) (hb2 : a2.block < w.heap.size)
    (e1 : w.cell? ⟨h, 0, none⟩ = some (.slice (some a1) n1 c1)) (e2 : w.cell? ⟨h, 1, none⟩ = some (.slice (some a2) n2 c2)) (r1 : RdC w a1 n1 x1) (r2 : RdC w a2 n2 x2) :
    Calls Try.prog 25 #[.slice (some ⟨h, 0, none⟩) 2 2] w (RetRow (n1 + n2) (x1 ++ x2) w) := by
  obtain ⟨i0, hi, hz0, hz1, hz2⟩ := info_parts info_p
  have R1 := Lib.hid r1
  have R2 := Lib.hid r2
  have E1 := Lib.hid e1
  have E2 := Lib.hid e2
  clear r1 r2
  go_enter Try.func25, Try.ntmps25
  go_wp2
  go_loop [3, 11] (fun s i => ∃ k : Nat, k ≤ 2 ∧ i = .int .i64 k ∧ s = .int .i64 (cc n1 n2 k)) (fun _ i => 2 - (intOf i).toNat)
  case atStart => exact ⟨0, by omega, rfl, rfl⟩
  case round =>
    obtain ⟨k, hk, rfl, rfl⟩ := hrel
    obtain rfl | rfl | rfl : k = 0 ∨ k = 1 ∨ k = 2 := by omega
    · simp only [cc]
      go_wp2
      go_round
      case rel => exact ⟨1, by omega, rfl, by simp [cc]⟩
      case measure => simp [intOf]
    · simp only [cc]
      go_wp2
      go_round
      case rel => exact ⟨2, by omega, rfl, by simp [cc]⟩
      case measure => simp [intOf]
    · simp only [cc]
      go_wp2_with fail
      refine (grow_any (n1 + n2) (by omega) _).mono ?_
      rintro e wg ⟨vg, rfl, hog, hbg⟩
      clear e1 e2
      go_wp2_with fail
      go_loopw [6, 27] (fun v i wr => ∃ k : Nat, k ≤ 2 ∧ i = .int .i64 k ∧ wr.ownsRow w.heap.size tPk 3 v (cc n1 n2 k) (cx x1 x2 k) ∧ Below w.heap.size w wr) (fun _ i _ => 2 - (intOf i).toNat)
      case atStart => exact ⟨0, by omega, rfl, hog, hbg⟩
      case round =>
        obtain ⟨k, hk, rfl, hown, hb⟩ := hrel
        have f1 : wr.cell? ⟨h, 0, none⟩ = some (.slice (some a1) n1 c1) := (hb.cell (p := ⟨h, 0, none⟩) hh).trans E1.out
        have f2 : wr.cell? ⟨h, 1, none⟩ = some (.slice (some a2) n2 c2) := (hb.cell (p := ⟨h, 1, none⟩) hh).trans E2.out
        obtain rfl | rfl | rfl : k = 0 ∨ k = 1 ∨ k = 2 := by omega
        · have RK := R1.out.kept (hb.block a1.block hb1)
          have RL := Lib.hid RK
          have hbs := hb.size
          clear RK
          go_wp2_with (at_builtin; refine wpList_append_own _ rfl (.tmp 31) (.tmp 32) _ rfl w.heap.size tPk i0 (.agg #[.int .i64 0, .int .i64 0, .slice none 0 0]) 3 40 Try.underlying48 hi hz0 hz1 hz2 rfl (by decide) _ _ _ rfl hown a1 n1 c1 x1 rfl RL.out.1 RL.out.2.1 RL.out.2.2 (by simp only [cc]; unfold maxLen; omega) (by simp only [cc]; omega) hbs ?_; intro v' w1 hown1 hgr _)
          go_roundw
          case rel => exact ⟨1, by omega, rfl, by simpa [cc, cx] using hown1, hb.grown hgr hbs (fun k hk => (hown.lt k hk).1)⟩
          case measure => simp [intOf]
        · have RK := R2.out.kept (hb.block a2.block hb2)
          have RL := Lib.hid RK
          have hbs := hb.size
          clear RK
          go_wp2_with (at_builtin; refine wpList_append_own _ rfl (.tmp 31) (.tmp 32) _ rfl w.heap.size tPk i0 (.agg #[.int .i64 0, .int .i64 0, .slice none 0 0]) 3 40 Try.underlying48 hi hz0 hz1 hz2 rfl (by decide) _ _ _ rfl hown a2 n2 c2 x2 rfl RL.out.1 RL.out.2.1 RL.out.2.2 (by simp only [cc]; unfold maxLen; omega) (by simp only [cc]; omega) hbs ?_; intro v' w1 hown1 hgr _)
          go_roundw
          case rel => exact ⟨2, by omega, rfl, by simpa [cc, cx] using hown1, hb.grown hgr hbs (fun k hk => (hown.lt k hk).1)⟩
          case measure => simp [intOf]
        · go_wp2
          go_ret
          exact ⟨_, rfl, hown, hb⟩
end Go.Proofs.Ytoeenaionamhiaa
