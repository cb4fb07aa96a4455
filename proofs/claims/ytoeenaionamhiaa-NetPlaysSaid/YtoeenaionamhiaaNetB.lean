/- Contracts of Clone and of the net's small functions. -/
import Derived.Test.YtoeenaionamhiaaNetA
set_option linter.unusedSimpArgs false
set_option linter.unusedVariables false
namespace Go.Proofs.Ytoeenaionamhiaa
open Go.RowKit

theorem info_b : (Try.prog.info? tU8).map (fun i => (i.zero, i.size, i.bytes)) = some (some (.int .u8 0), 1, 1) := by kernel_rfl

/-- What a call that copies bytes hands back. -/
def RetB (B0 : Nat) (L : List UInt8) (W : World) (e : Ending) (w' : World) : Prop := ∃ p n c, e = .returned (.slice p n c) ∧ RdB B0 w' p n c L ∧ Below W.heap.size W w' ∧ ∀ x, p = some x → W.heap.size ≤ x.block ∧ ∀ k, w'.frozen? ⟨x.block, k, none⟩ = false

set_option maxRecDepth 100000 in
set_option maxHeartbeats 1000000 in
theorem clone_any (B0 : Nat) (p : Option Addr) (n c : Nat) (L : List UInt8) (hn : n ≤ 300) (w : World) (hL : RdB B0 w p n c L) :
    Calls Try.prog 26 #[.slice p n c] w (RetB B0 L w) := by
  obtain ⟨i0, hi, hz0, hz1, hz2⟩ := info_parts info_b
  have hq := fun (w : World) (a : Option Addr) (n c : Nat) => Lib.run_eql_slice_nil (P := Try.prog) w 26 5 a n c 0 0 Try.underlying26
  have HL := Lib.hid hL
  rcases hL with ⟨hl, hnc, hcm, ⟨rfl, rfl, rfl⟩ | ⟨ad, rfl, ht, hcell⟩⟩
  · have hnil : L = [] := List.eq_nil_of_length_eq_zero hl
    subst hnil
    clear hl hnc hcm
    go_enter Try.func26, Try.ntmps26
    go_wp2
    go_ret
    exact ⟨none, 0, 0, rfl, RdB.nil _ _, Below.refl _ _, fun x hx => by cases hx⟩
  · have HC := Lib.hid hcell
    clear hcell ht hl
    unfold maxLen at hcm
    go_enter Try.func26, Try.ntmps26
    go_wp2_with (at_builtin; refine wpList_append_b _ rfl (.tmp 5) (.tmp 6) 26 rfl w.heap.size B0 5 i0 Try.underlying26 hi hz0 hz1 hz2 _ 0 [] rfl (World.ownsRow_made w #[] 0 (Nat.le_refl _) (by unfold maxLen; omega) rfl) _ n c L rfl (HL.out.below ((Below.refl _ _).alloc (Nat.le_refl _) _)) (by omega) (by simp) ?_; intro v' w' hown hgr)
    go_ret
    obtain ⟨p', c', rfl, hr, hfz⟩ := RdB.of_own (B0 := B0) hown
    simp only [Nat.zero_add, List.nil_append] at hr
    exact ⟨p', n, c', by simp, hr, ((Below.refl _ _).alloc (Nat.le_refl _) _).grown hgr (by simp) (fun k hk => by cases hk; exact Nat.le_refl _), hfz⟩

theorem frozen_set (w : World) (p : Addr) (u : Value) (a : Addr) : (w.setCell p u).frozen? a = w.frozen? a := by
  by_cases h : a.block = p.block
  · unfold World.frozen? World.setCell
    rw [h]
    simp only [Array.getElem?_modify]
    cases hh : w.heap[p.block]? with
    | none => simp [hh]
    | some o => cases o <;> simp [hh]
  · exact World.frozen?_of_block (Below.heap_setCell w p u _ h)
theorem is_yes (g : Nat) (i : Nat) (v : Value) (r : Addr) (n cap : Nat) (hn : n ≤ 1000) (hi : i < n) (w : World) (h : w.cell? ⟨g, 1, none⟩ = some (.slice (some r) n cap)) :
    Calls Try.prog 18 #[.pointer (some ⟨g, 0, none⟩), .int .i64 i] w fun e w' => e = .returned (.bool true) ∧ w = w' := by
  go_enter Try.func18, Try.ntmps18
  go_wp2
  go_ret
  exact ⟨rfl, rfl⟩
theorem is_none (i : Int) (w : World) :
    Calls Try.prog 18 #[.pointer none, .int .i64 i] w fun e w' => e = .returned (.bool false) ∧ w = w' := by
  go_enter Try.func18, Try.ntmps18
  go_wp2
  go_ret
  exact ⟨rfl, rfl⟩
theorem is_low (g : Nat) (i : Int) (hi : i < 0) (w : World) :
    Calls Try.prog 18 #[.pointer (some ⟨g, 0, none⟩), .int .i64 i] w fun e w' => e = .returned (.bool false) ∧ w = w' := by
  go_enter Try.func18, Try.ntmps18
  go_wp2
  go_ret
  exact ⟨rfl, rfl⟩
theorem is_high (g : Nat) (i : Int) (A : Option Addr) (n cap : Nat) (hn : n ≤ 1000) (h0 : 0 ≤ i) (hi : n ≤ i) (w : World) (h : w.cell? ⟨g, 1, none⟩ = some (.slice A n cap)) :
    Calls Try.prog 18 #[.pointer (some ⟨g, 0, none⟩), .int .i64 i] w fun e w' => e = .returned (.bool false) ∧ w = w' := by
  have hd : decide (i < (n : Int)) = false := by simpa using hi
  go_enter Try.func18, Try.ntmps18
  go_wp2
  go_ret
  exact ⟨rfl, rfl⟩

set_option maxHeartbeats 1000000 in
theorem counts_any (g : Nat) (s l c : Int) (w : World) (h2 : w.cell? ⟨g, 2, none⟩ = some (.int .i64 s)) (h3 : w.cell? ⟨g, 3, none⟩ = some (.int .i64 l)) (h4 : w.cell? ⟨g, 4, none⟩ = some (.int .i64 c)) :
    Calls Try.prog 13 #[.pointer (some ⟨g, 0, none⟩)] w fun e w' => e = .returned (.tuple #[.int .i64 s, .int .i64 c, .int .i64 l]) ∧ ∃ n, w' = w.drewN n := by
  go_enter Try.func13, Try.ntmps13
  go_wp2
  go_quiet (fail)
  go_wp2
  go_ret3
  exact ⟨rfl, _, rfl⟩

theorem len_any (g : Nat) (A : Option Addr) (n cap : Nat) (hn : n ≤ 1000) (w : World) (h : w.cell? ⟨g, 1, none⟩ = some (.slice A n cap)) :
    Calls Try.prog 14 #[.pointer (some ⟨g, 0, none⟩)] w fun e w' => e = .returned (.int .i64 n) ∧ w = w' := by
  go_enter Try.func14, Try.ntmps14
  go_wp2
  go_ret
  exact ⟨rfl, rfl⟩

theorem new_any (m : Int) (w : World) :
    Calls Try.prog 6 #[.int .i64 m] w fun e w' => e = .returned (.pointer (some ⟨w.heap.size, 0, none⟩)) ∧ NetW w.heap.size w' w.heap.size (min (max m 0) 1000) 0 0 0 (.slice none 0 0) [] ∧ Below w.heap.size w w' := by
  have key : ∀ k : Int, k = min (max m 0) 1000 → NetW w.heap.size (w.alloc (.cells #[.int .i64 k, .slice none 0 0, .int .i64 0, .int .i64 0, .int .i64 0] tNet)) w.heap.size (min (max m 0) 1000) 0 0 0 (.slice none 0 0) [] := by
    rintro _ rfl
    exact ⟨heap_alloc_new w _, World.ownsRow_nil _ _ _ _, Nat.le_refl _, by simp⟩
  have K := Lib.hid key
  clear key
  go_enter Try.func6, Try.ntmps6
  go_wp2
  all_goals go_ret
  all_goals exact ⟨rfl, K.out _ (by omega), by (repeat' (first | (with_reducible exact Below.refl _ _) | (with_reducible assumption) | (with_reducible refine Below.alloc ?_ ?_ _) | (with_reducible refine bel_drewN ?_ _) | (with_reducible refine Below.drew ?_) | (with_reducible refine Below.setCell ?_ ?_ _) | (with_reducible refine bel_call ‹_› ?_ ?_) | go_size))⟩

/-- What a call that copies a packet hands back. -/
def RetP (B0 : Nat) (f t : Int) (L : List UInt8) (W : World) (e : Ending) (w' : World) : Prop := ∃ q : Pk, e = .returned q.val ∧ q.f = f ∧ q.t = t ∧ q.bs = L ∧ q.ok B0 w' ∧ Below W.heap.size W w' ∧ ∀ x, q.A = some x → W.heap.size ≤ x.block ∧ ∀ k, w'.frozen? ⟨x.block, k, none⟩ = false

set_option maxRecDepth 100000 in
set_option maxHeartbeats 1000000 in
theorem copied_any (B0 : Nat) (f t : Int) (p : Option Addr) (n c : Nat) (L : List UInt8) (hn : n ≤ 300) (w : World) (hB : B0 ≤ w.heap.size) (hL : RdB B0 w p n c L) :
    Calls Try.prog 20 #[.agg #[.int .i64 f, .int .i64 t, .slice p n c]] w (RetP B0 f t L w) := by
  have HL := Lib.hid hL
  clear hL
  go_enter Try.func20, Try.ntmps20
  go_wp2_with fail
  refine (clone_any B0 _ _ _ L (by omega) _ (HL.out.below (by (repeat' (first | (with_reducible exact Below.refl _ _) | (with_reducible assumption) | (with_reducible refine Below.alloc ?_ ?_ _) | (with_reducible refine bel_drewN ?_ _) | (with_reducible refine Below.drew ?_) | (with_reducible refine Below.setCell ?_ ?_ _) | (with_reducible refine bel_call ‹_› ?_ ?_) | go_size))))).mono ?_
  rintro e w1 ⟨p', n', c', rfl, hr, hb, hfz⟩
  obtain ⟨hc, hf, hz⟩ := bcell hb (by first | (simp only [World.size_alloc, World.size_setCell, World.size_drew]; rfl) | rfl)
  have HR := Lib.hid hr
  have HZ : Hid (∀ x, p' = some x → w.heap.size ≤ x.block ∧ ∀ k, w1.frozen? ⟨x.block, k, none⟩ = false) := fun x hx => ⟨Nat.le_trans (by simp; omega) (hfz x hx).1, (hfz x hx).2⟩
  clear hr hfz
  have t0 : Hid (tyAt w1 w.heap.size = some tPk) := ty_call hb (ty_old (ty_new rfl) _)
  have t1 : Hid (tyAt w1 (w.heap.size + 1) = some tPk) := ty_call hb (ty_new (by simp))
  have hn' : n' ≤ 300 := by have := HR.out.1; have := HL.out.1; omega
  go_wp2
  refine bodyPost_ret (v := .agg #[.int .i64 f, .int .i64 t, .slice p' n' c']) (by simp [results, Try.results20, go_sem, hc, hz]) rfl ?_
  refine ⟨⟨f, t, p', n', c', L⟩, rfl, rfl, rfl, rfl, ⟨?_, hn'⟩, by (repeat' (first | (with_reducible exact Below.refl _ _) | (with_reducible assumption) | (with_reducible refine Below.alloc ?_ ?_ _) | (with_reducible refine bel_drewN ?_ _) | (with_reducible refine Below.drew ?_) | (with_reducible refine Below.setCell ?_ ?_ _) | (with_reducible refine bel_call ‹_› ?_ ?_) | go_size)), fun x hx => ⟨(HZ.out x hx).1, fun k => by rw [frozen_set, frozen_set, frozen_set, frozen_set]; exact (HZ.out x hx).2 k⟩⟩
  exact HR.out.fr (((((Fr.refl B0 _).set (by simp; omega) (.inr t0.out) _).set (by simp; omega) (.inr (ty_set t1.out _ _)) _).set (by simp; omega) (.inr (ty_set (ty_set t1.out _ _) _ _)) _).set (by simp; omega) (.inr (ty_set (ty_set (ty_set t1.out _ _) _ _) _ _)) _)
end Go.Proofs.Ytoeenaionamhiaa
