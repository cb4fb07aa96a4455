/- What the count of packets needs of each call of the net; the chapter's example. -/
import Derived.Test.YtoeenaionamhiaaNetG
import Derived.Test.YtoeenaionamhiaaNetH
set_option linter.unusedSimpArgs false
set_option linter.unusedVariables false
namespace Go.Proofs.Ytoeenaionamhiaa
open Go.RowKit

/-- Whatever a call answers: the count stays in balance. -/
def Bal (B0 g : Nat) (m s l c : Int) (n : Nat) (W : World) (e : Ending) (w' : World) : Prop := ∃ (v0 : Value) (s' l' c' : Int) (Ps' : List Pk), e = .returned v0 ∧ s' - c' - l' - (Ps'.length : Int) = s - c - l - (n : Int) ∧ (Ps'.length : Int) ≤ m ∧
  s ≤ s' ∧ s' ≤ s + 1 ∧ l ≤ l' ∧ l' ≤ l + 1 ∧ c ≤ c' ∧ c' ≤ c + 1 ∧ Left B0 g m s' l' c' Ps' W w'

theorem at_int {Ps : List Pk} {i : Int} (h : ¬ (i < 0 ∨ (Ps.length : Int) ≤ i)) : ∃ (k : Nat) (p : Pk), i = (k : Int) ∧ Ps[k]? = some p := by
  obtain ⟨k, rfl⟩ : ∃ k : Nat, i = (k : Int) := ⟨i.toNat, by omega⟩
  have hk : k < Ps.length := by omega
  exact ⟨k, Ps[k], rfl, List.getElem?_eq_getElem hk⟩
theorem erase_len {Ps : List Pk} {k : Nat} {p : Pk} (h : Ps[k]? = some p) : (Ps.eraseIdx k).length + 1 = Ps.length := by
  have hk := (List.getElem?_eq_some_iff.1 h).1
  rw [List.length_eraseIdx, if_pos hk]
  omega

theorem take_bal (B0 g : Nat) (m s l c : Int) (v : Value) (Ps : List Pk) (hm0 : m ≤ 1000) (hm : (Ps.length : Int) ≤ m) (hs0 : 0 ≤ s) (hs1 : s ≤ 100000) (hl0 : 0 ≤ l) (hl1 : l ≤ 100000) (hc0 : 0 ≤ c) (hc1 : c ≤ 100000) (w : World) (hB : B0 ≤ w.heap.size) (hN : NetW B0 w g m s l c v Ps) (i : Int) : Calls Try.prog 7 #[.pointer (some ⟨g, 0, none⟩), .int .i64 i] w (Bal B0 g m s l c Ps.length w) := by
  by_cases h : i < 0 ∨ (Ps.length : Int) ≤ i
  · exact (take_miss B0 g m s l c v Ps i h (by omega) w hB hN).mono fun e w' ⟨he, hl⟩ => ⟨_, s, l, c, Ps, he, rfl, hm, by omega, by omega, by omega, by omega, by omega, by omega, hl⟩
  · obtain ⟨k, p, rfl, hp⟩ := at_int h
    have := erase_len hp
    exact (take_hit B0 g m s l c v Ps k p hp (by omega) hc0 (by omega) w hB hN).mono fun e w' ⟨he, hl⟩ => ⟨_, s, l, c + 1, _, he, by omega, by omega, by omega, by omega, by omega, by omega, by omega, by omega, hl⟩
theorem drop_bal (B0 g : Nat) (m s l c : Int) (v : Value) (Ps : List Pk) (hm0 : m ≤ 1000) (hm : (Ps.length : Int) ≤ m) (hs0 : 0 ≤ s) (hs1 : s ≤ 100000) (hl0 : 0 ≤ l) (hl1 : l ≤ 100000) (hc0 : 0 ≤ c) (hc1 : c ≤ 100000) (w : World) (hB : B0 ≤ w.heap.size) (hN : NetW B0 w g m s l c v Ps) (i : Int) : Calls Try.prog 8 #[.pointer (some ⟨g, 0, none⟩), .int .i64 i] w (Bal B0 g m s l c Ps.length w) := by
  by_cases h : i < 0 ∨ (Ps.length : Int) ≤ i
  · exact (drop_miss B0 g m s l c v Ps i h (by omega) w hB hN).mono fun e w' ⟨he, hl⟩ => ⟨_, s, l, c, Ps, he, rfl, hm, by omega, by omega, by omega, by omega, by omega, by omega, hl⟩
  · obtain ⟨k, p, rfl, hp⟩ := at_int h
    have := erase_len hp
    exact (drop_hit B0 g m s l c v Ps k p hp (by omega) hl0 (by omega) w hB hN).mono fun e w' ⟨he, hl⟩ => ⟨_, s, l + 1, c, _, he, by omega, by omega, by omega, by omega, by omega, by omega, by omega, by omega, hl⟩
theorem twice_bal (B0 g : Nat) (m s l c : Int) (v : Value) (Ps : List Pk) (hm0 : m ≤ 1000) (hm : (Ps.length : Int) ≤ m) (hs0 : 0 ≤ s) (hs1 : s ≤ 100000) (hl0 : 0 ≤ l) (hl1 : l ≤ 100000) (hc0 : 0 ≤ c) (hc1 : c ≤ 100000) (w : World) (hB : B0 ≤ w.heap.size) (hN : NetW B0 w g m s l c v Ps) (i : Int) : Calls Try.prog 9 #[.pointer (some ⟨g, 0, none⟩), .int .i64 i] w (Bal B0 g m s l c Ps.length w) := by
  by_cases h : i < 0 ∨ (Ps.length : Int) ≤ i
  · exact (twice_miss B0 g m s l c v Ps i h (by omega) w hB hN).mono fun e w' ⟨he, hl⟩ => ⟨_, s, l, c, Ps, he, rfl, hm, by omega, by omega, by omega, by omega, by omega, by omega, hl⟩
  · obtain ⟨k, p, rfl, hp⟩ := at_int h
    have hk := (List.getElem?_eq_some_iff.1 hp).1
    by_cases hf : m ≤ (Ps.length : Int)
    · exact (twice_full B0 g m s l c v Ps k hk hf (by omega) w hB hN).mono fun e w' ⟨he, hl⟩ => ⟨_, s, l, c, Ps, he, rfl, hm, by omega, by omega, by omega, by omega, by omega, by omega, hl⟩
    · exact (twice_ok B0 g m s l c v Ps k p hp (by omega) (by omega) hs0 (by omega) w hB hN).mono fun e w' ⟨he, q, _, _, _, hl⟩ => ⟨_, s + 1, l, c, _, he, by simp; omega, by simp; omega, by omega, by omega, by omega, by omega, by omega, by omega, hl⟩
theorem send_bal (B0 g : Nat) (m s l c : Int) (v : Value) (Ps : List Pk) (hm0 : m ≤ 1000) (hm : (Ps.length : Int) ≤ m) (hs0 : 0 ≤ s) (hs1 : s ≤ 100000) (hl0 : 0 ≤ l) (hl1 : l ≤ 100000) (hc0 : 0 ≤ c) (hc1 : c ≤ 100000) (w : World) (hB : B0 ≤ w.heap.size) (hN : NetW B0 w g m s l c v Ps) (f t : Int) (A : Option Addr) (k cp : Nat) (L : List UInt8) (hk : k ≤ 300) (hL : RdB B0 w A k cp L) : Calls Try.prog 11 #[.pointer (some ⟨g, 0, none⟩), .agg #[.int .i64 f, .int .i64 t, .slice A k cp]] w (Bal B0 g m s l c Ps.length w) := by
  by_cases hf : m ≤ (Ps.length : Int)
  · exact (send_full B0 g m s l c v Ps f t A k cp hf (by omega) hs0 (by omega) hl0 (by omega) w hB hN).mono fun e w' ⟨he, hl⟩ => ⟨_, s + 1, l + 1, c, Ps, he, by omega, hm, by omega, by omega, by omega, by omega, by omega, by omega, hl⟩
  · exact (send_ok B0 g m s l c v Ps f t A k cp L (by omega) (by omega) hs0 (by omega) hk w hB hN hL).mono fun e w' ⟨he, q, _, _, _, hl⟩ => ⟨_, s + 1, l, c, _, he, by simp; omega, by simp; omega, by omega, by omega, by omega, by omega, by omega, by omega, hl⟩
theorem spoil_bal (B0 g : Nat) (m s l c : Int) (v : Value) (Ps : List Pk) (hm0 : m ≤ 1000) (hm : (Ps.length : Int) ≤ m) (hs0 : 0 ≤ s) (hs1 : s ≤ 100000) (hl0 : 0 ≤ l) (hl1 : l ≤ 100000) (hc0 : 0 ≤ c) (hc1 : c ≤ 100000) (w : World) (hB : B0 ≤ w.heap.size) (hN : NetW B0 w g m s l c v Ps) (i : Int) (a : Nat) (bt : UInt8) (ha : a ≤ 9223372036854775807) : Calls Try.prog 10 #[.pointer (some ⟨g, 0, none⟩), .int .i64 i, .int .i64 a, .int .u8 (bt.toNat : Int)] w (Bal B0 g m s l c Ps.length w) := by
  by_cases h : i < 0 ∨ (Ps.length : Int) ≤ i
  · exact (spoil_miss B0 g m s l c v Ps i a bt.toNat h (by omega) w hB hN).mono fun e w' ⟨he, hl⟩ => ⟨_, s, l, c, Ps, he, rfl, hm, by omega, by omega, by omega, by omega, by omega, by omega, hl⟩
  · obtain ⟨k, p, rfl, hp⟩ := at_int h
    by_cases hz : p.n = 0
    · exact (spoil_empty B0 g m s l c v Ps k a bt.toNat p hp hz (by omega) w hB hN).mono fun e w' ⟨he, hl⟩ => ⟨_, s, l, c, Ps, he, rfl, hm, by omega, by omega, by omega, by omega, by omega, by omega, hl⟩
    · exact (spoil_ok B0 g m s l c v Ps k a bt p hp (by omega) ha (by omega) w hB hN).mono fun e w' ⟨he, q, _, _, _, hl⟩ => ⟨_, s, l, c, _, he, by simp, by simp; omega, by omega, by omega, by omega, by omega, by omega, by omega, hl⟩

theorem spoil_bal0 (B0 g : Nat) (m s l c : Int) (v : Value) (Ps : List Pk) (hm0 : m ≤ 1000) (hm : (Ps.length : Int) ≤ m) (hs0 : 0 ≤ s) (hs1 : s ≤ 100000) (hl0 : 0 ≤ l) (hl1 : l ≤ 100000) (hc0 : 0 ≤ c) (hc1 : c ≤ 100000) (w : World) (hB : B0 ≤ w.heap.size) (hN : NetW B0 w g m s l c v Ps) (i : Int) (bt : UInt8) : Calls Try.prog 10 #[.pointer (some ⟨g, 0, none⟩), .int .i64 i, .int .i64 0, .int .u8 (bt.toNat : Int)] w (Bal B0 g m s l c Ps.length w) :=
  spoil_bal B0 g m s l c v Ps hm0 hm hs0 hs1 hl0 hl1 hc0 hc1 w hB hN i 0 bt (by omega)
theorem RdB.up {B0 B1 : Nat} {w : World} {p : Option Addr} {n c : Nat} {L : List UInt8} (h : RdB B0 w p n c L) (hB : B0 ≤ B1) : RdB B1 w p n c L := by
  obtain ⟨h1, h2, h3, h4⟩ := h
  refine ⟨h1, h2, h3, ?_⟩
  rcases h4 with h4 | ⟨x, h5, h7, h8⟩
  · exact .inl h4
  · refine .inr ⟨x, h5, fun hn => ?_, h8⟩
    rcases h7 hn with h7 | h7
    · exact .inl (by omega)
    · exact .inr h7

set_option maxRecDepth 100000 in
set_option maxHeartbeats 2000000 in
theorem awake_any (w : World) : Calls Try.prog 5 #[] w fun e w' => e = .returned (.bool true) ∧ Below w.heap.size w w' := by
  go_enter Try.func5, Try.ntmps5
  go_wp2_with fail
  refine (new_any 1 _).mono ?_
  rintro e w1 ⟨rfl, N1, hb⟩
  have N1 : Hid (NetW w.heap.size w1 w.heap.size 1 0 0 0 (.slice none 0 0) []) := N1
  have hz := hb.size
  go_wp2_with fail
  refine (send_ok w.heap.size w.heap.size 1 0 0 0 _ [] 0 0 none 0 0 [] (by simp) (by simp) (by omega) (by omega) (by omega) _ hz N1.out (RdB.nil _ _)).mono ?_
  rintro e w2 ⟨rfl, q, _, _, _, ⟨v2, N2⟩, F2⟩
  have N2 : Hid (NetW w.heap.size w2 w.heap.size 1 1 0 0 v2 [q]) := N2
  have hz2 := F2.size
  go_wp2_with fail
  refine (send_full w.heap.size w.heap.size 1 1 0 0 v2 [q] 0 0 none 0 0 (by simp) (by simp) (by omega) (by omega) (by omega) (by omega) _ (by omega) N2.out).mono ?_
  rintro e w3 ⟨rfl, ⟨v3, N3⟩, F3⟩
  have N3 : NetW w.heap.size w3 w.heap.size 1 2 1 0 v3 [q] := N3
  obtain ⟨q0, q1, q2, q3, q4, q5⟩ := N3.cell
  have hb2 : Below w.heap.size w w3 := (hb.trans (F2.below hz)).trans (F3.below (by omega))
  clear q0 q1 q5 N3
  go_wp2_with fail
  refine (counts_any w.heap.size 2 1 0 _ q2 q3 q4).mono ?_
  rintro e w4 ⟨rfl, n, rfl⟩
  go_wp2_with fail
  go_ret
  exact ⟨rfl, bel_drewN hb2 n⟩
end Go.Proofs.Ytoeenaionamhiaa
