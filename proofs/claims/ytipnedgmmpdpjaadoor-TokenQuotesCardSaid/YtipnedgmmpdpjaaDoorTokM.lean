/- Contract of the law's same, at slices that read as the same tokens. -/
import Derived.Test.YtipnedgmmpdpjaaDoorTokK
import Derived.Deep.QuietTactic
import Derived.BigQuiet
set_option linter.unusedSimpArgs false
set_option linter.unusedVariables false
namespace Go.Proofs.YtipnedgmmpdpjaaDoor
open Go.RowKit

theorem RdT.drewN {w : World} {p : Option Addr} {n cap : Nat} {Ts : List Tk} (h : RdT w p n cap Ts) (m : Nat) : RdT (w.drewN m) p n cap Ts := h.below ⟨rfl, rfl, rfl, Nat.le_refl _, fun _ _ => rfl⟩

set_option maxRecDepth 100000 in
set_option maxHeartbeats 4000000 in
theorem same_yes (p : Option Addr) (n cap : Nat) (q : Option Addr) (cap2 : Nat) (Ts : List Tk) (hn : n ≤ 100000) (w : World) (hA : RdT w p n cap Ts) (hB : RdT w q n cap2 Ts) :
    Calls Tryd.prog 8 #[.slice p n cap, .slice q n cap2] w fun e w' => e = .returned (.bool true) ∧ Below w.heap.size w w' := by
  obtain ⟨a1, a2, a3, a4⟩ := hA
  obtain ⟨b1, b2, b3, b4⟩ := hB
  have ha1 := Lib.hid a1
  unfold maxLen at a3 b3
  clear b1 a1
  rcases Nat.eq_zero_or_pos n with h0 | h0
  · subst h0
    clear a4 b4
    go_enter Tryd.func8, Tryd.ntmps8
    go_wp2_with fail
    refine wp_loop_rounds 1 ?_
    rw [rounds_succ]
    go_wp2_with fail
    go_ret
    exact ⟨rfl, Below.refl _ _⟩
  · rcases a4 with ⟨_, a4, _⟩ | ⟨x, rfl, a5, a6⟩
    · omega
    rcases b4 with ⟨_, b4, _⟩ | ⟨y, rfl, b5, b6⟩
    · omega
    have A6 := Lib.hid a6
    have B6 := Lib.hid b6
    clear a6 b6
    go_enter Tryd.func8, Tryd.ntmps8
    go_wp2_with fail
    go_loopw [5] (fun i wr => ∃ k : Nat, i = .int .i64 k ∧ k ≤ n ∧ ∃ m, wr = w.drewN m) (fun i _ => n - (intOf i).toNat)
    case atStart => exact ⟨0, rfl, by omega, 0, rfl⟩
    case round =>
      obtain ⟨k, rfl, hk, m, rfl⟩ := hrel
      rcases Nat.lt_or_ge k n with hlt | hge
      · have hkl : k < Ts.length := by rw [ha1.out]; exact hlt
        obtain ⟨T, hT⟩ : ∃ T, Ts[k]? = some T := ⟨Ts[k], List.getElem?_eq_getElem hkl⟩
        obtain ⟨f1, f2, f3⟩ := A6.out k T hT
        obtain ⟨g1, g2, g3⟩ := B6.out k T hT
        obtain ⟨kd, tx, at'⟩ := T
        simp only at f1 f2 f3 g1 g2 g3
        have hklt : (k : Int) < (n : Int) := by omega
        have e1 : ((kd : Int) != kd) = false := by simp
        have e2 : ((⟨tx.toArray⟩ : ByteArray).toList != (⟨tx.toArray⟩ : ByteArray).toList) = false := by simp
        have e3 : (((at' : Nat) : Int) != (at' : Int)) = false := by simp
        clear hT hkl
        go_wp2_with fail
        go_quiet (fail)
        go_wp2_with fail
        go_roundw
        case rel => exact ⟨k + 1, by go_num, by omega, _, rfl⟩
        case measure => simp [intOf]; omega
      · have hkn : k = n := by omega
        subst hkn
        go_wp2_with fail
        go_ret
        exact ⟨rfl, bel_drewN (Below.refl _ _) _⟩

def awT : List Tk := [(3, [65, 49], 0), (4, [60, 61], 2), (1, [50, 46, 53], 4)]
theorem aw_spl : spl (⟨#[65, 49, 60, 61, 50, 46, 53]⟩ : ByteArray).data.toList 0 = (some awT, 0) := by decide
theorem aw_lit (w : World) : RdT (w.alloc (.cells #[.int .i64 3, .string ⟨#[65, 49]⟩, .int .i64 0, .int .i64 4, .string ⟨#[60, 61]⟩, .int .i64 2, .int .i64 1, .string ⟨#[50, 46, 53]⟩, .int .i64 4] tRk)) (some ⟨w.heap.size, 0, none⟩) 3 3 awT := by
  refine ⟨rfl, Nat.le_refl _, by unfold maxLen; omega, .inr ⟨w.heap.size, rfl, by simp, fun j x hx => ?_⟩⟩
  have hj : j < 3 := (List.getElem?_eq_some_iff.1 hx).1
  simp only [World.cell?, heap_alloc_new]
  match j, hj with
  | 0, _ => cases hx; exact ⟨rfl, rfl, rfl⟩
  | 1, _ => cases hx; exact ⟨rfl, rfl, rfl⟩
  | 2, _ => cases hx; exact ⟨rfl, rfl, rfl⟩

set_option maxRecDepth 100000 in
set_option maxHeartbeats 1000000 in
theorem awake_any (w : World) : Calls Tryd.prog 4 #[] w fun e w' => e = .returned (.bool true) ∧ Below w.heap.size w w' := by
  go_enter Tryd.func4, Tryd.ntmps4
  go_wp2_with fail
  refine (split_any ⟨#[65, 49, 60, 61, 50, 46, 53]⟩ _ (by show (7 : Nat) ≤ 100000; omega) aw_spl _).mono ?_
  rintro e w1 ⟨hb1, p, cap, rfl, hr⟩
  have HR := Lib.hid hr
  have hz1 := hb1.size
  have HB := Lib.hid hb1
  clear hr hb1
  go_wp2_with fail
  refine (same_yes p 3 cap _ 3 awT (by omega) _ (HR.out.below ((Below.refl _ _).alloc (Nat.le_refl _) _)) (aw_lit w1)).mono ?_
  rintro e w2 ⟨rfl, hb2⟩
  have hb3 : Below w.heap.size w w2 := (HB.out.alloc (by omega) _).trans (hb2.mono (by simp; omega))
  clear hb2
  go_wp2_with fail
  go_ret
  exact ⟨rfl, hb3⟩

theorem splF_len (L : List UInt8) : ∀ (f i : Nat) (Ts : List Tk) (x : Nat), splF L f i = (some Ts, x) → Ts.length ≤ L.length - i := by
  intro f
  induction f with
  | zero => intro i Ts x h; simp only [splF, Prod.mk.injEq, Option.some.injEq] at h; rw [← h.1]; simp
  | succ f ih =>
    intro i Ts x h
    rw [splF] at h
    split at h
    · simp only [Prod.mk.injEq, Option.some.injEq] at h; rw [← h.1]; simp
    · rename_i hl
      split at h
      · have := ih _ _ _ h; omega
      · cases ht : tok L i with
        | none => rw [ht] at h; simp at h
        | some y =>
          obtain ⟨k, t, n⟩ := y
          have hp := tok_pos (by omega) ht
          rw [ht] at h
          simp only [] at h
          cases hs : splF L f (i + n) with
          | mk o z =>
            rw [hs] at h
            cases o with
            | none => simp at h
            | some r =>
              simp only [Prod.mk.injEq, Option.some.injEq] at h
              have := ih _ _ _ hs
              rw [← h.1, List.length_cons]
              omega
theorem spl_len (L : List UInt8) (i : Nat) (Ts : List Tk) (x : Nat) (h : spl L i = (some Ts, x)) : Ts.length ≤ L.length - i := splF_len L _ i Ts x h

end Go.Proofs.YtipnedgmmpdpjaaDoor
