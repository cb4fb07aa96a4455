/- The walk of the law NetPlays. -/
import Derived.Test.YtoeenaionamhiaaNetYf
import Derived.Test.YtoeenaionamhiaaNetP
import Derived.BigQuiet
set_option linter.unusedSimpArgs false
set_option linter.unusedVariables false
namespace Go.Proofs.Ytoeenaionamhiaa
open Go.RowKit

/-- The blocks other than x stand as they stood. -/
def Off (x : Nat) (w w' : World) : Prop := w.heap.size ≤ w'.heap.size ∧ ∀ b, b ≠ x → b < w.heap.size → w'.heap[b]? = w.heap[b]?
theorem Off.refl (x : Nat) (w : World) : Off x w w := ⟨Nat.le_refl _, fun _ _ _ => rfl⟩
theorem Off.drew {x : Nat} {w w' : World} (h : Off x w w') : Off x w w'.drew := h
theorem Off.drewN {x : Nat} {w w' : World} (h : Off x w w') (n : Nat) : Off x w (w'.drewN n) := h
theorem Off.alloc {x : Nat} {w w' : World} (h : Off x w w') (o : Obj) : Off x w (w'.alloc o) := by
  have hb := (Below.refl w'.heap.size w').alloc (Nat.le_refl _) o
  exact ⟨Nat.le_trans h.1 hb.size, fun b h1 h2 => (hb.block b (Nat.lt_of_lt_of_le h2 h.1)).trans (h.2 b h1 h2)⟩
theorem Off.set {x : Nat} {w w' : World} (h : Off x w w') {p : Addr} (hp : p.block = x ∨ w.heap.size ≤ p.block) (u : Value) : Off x w (w'.setCell p u) :=
  ⟨by simpa [World.setCell] using h.1, fun b h1 h2 => (Below.heap_setCell w' p u b (by rintro rfl; omega)).trans (h.2 b h1 h2)⟩
theorem Off.cell {x : Nat} {w w' : World} (h : Off x w w') {p : Addr} (h1 : p.block < w.heap.size) (h2 : p.block ≠ x) : w'.cell? p = w.cell? p := World.cell?_of_block (a := p) (h.2 _ h2 h1)

set_option maxRecDepth 100000 in
set_option maxHeartbeats 4000000 in
theorem plays_walk0 (most : Int) (A : Option Addr) (len cap : Nat) (hlc : len ≤ cap) (hcm : cap ≤ maxLen) (w : World) (hact : len = 0 ∨ ∃ b o, A = some ⟨b, o, none⟩ ∧ b < w.heap.size ∧ ∀ i, i < len → ActAt w b (o + i * 7)) :
    Calls Try.prog 4 #[.int .i64 most, .slice A len cap] w fun e w' => e = .returned (.bool true) ∧ Below w.heap.size w w' := by
  have HA := Lib.hid hact
  clear hact
  unfold maxLen at hcm
  have hM0 : 0 ≤ min (max most 0) 1000 := by omega
  have hM1 : min (max most 0) 1000 ≤ 1000 := by omega
  obtain ⟨M, hM⟩ : ∃ M, M = min (max most 0) 1000 := ⟨_, rfl⟩
  have HM := Lib.hid hM
  rw [← hM] at hM0 hM1
  have hmx : (most < 0 ∧ M = 0) ∨ (0 ≤ most ∧ 1000 < most ∧ M = 1000) ∨ (0 ≤ most ∧ most ≤ 1000 ∧ M = most) := by omega
  clear hM
  go_enter Try.func4, Try.ntmps4
  go_wp2_with fail
  refine (awake_any _).mono ?_
  rintro e w1 ⟨rfl, hb1⟩
  go_wp2_with fail
  refine (new_any most _).mono ?_
  rintro e w2 ⟨rfl, N2, hb2⟩
  rw [← HM.out] at N2
  have hz1 := hb1.size
  have hz2 : w1.heap.size < w2.heap.size := N2.lt
  have HN2 := Lib.hid N2
  have HB02 : Hid (Below w.heap.size w w2) := hb1.trans (hb2.mono hz1)
  clear N2 hb1 hb2 HM
  rcases hmx with ⟨m1, hm⟩ | ⟨m1, m2, hm⟩ | ⟨m1, m2, hm⟩
  all_goals
    have HME := Lib.hid hm
    clear hm
    go_wp2_with fail
    go_loopw [7] (fun i wr => ∃ (k : Nat) (v : Value) (Ps Qs : List Pk) (s l c : Int) (RA : Option Addr) (RC : Nat), i = .int .i64 k ∧ k ≤ len ∧ k ≤ 60 ∧ NetW w1.heap.size wr w1.heap.size M s l c v Ps ∧ RefW w1.heap.size wr (.slice RA Qs.length RC) Qs ∧ Ps.map Pk.key = Qs.map Pk.key ∧
      wr.heap[w2.heap.size]? = some (.cells #[.int .i64 M, .slice RA Qs.length RC, .int .i64 s, .int .i64 c, .int .i64 l] tRN (0, 0)) ∧ (Ps.length : Int) ≤ M ∧ 0 ≤ s ∧ s ≤ k ∧ 0 ≤ l ∧ l ≤ k ∧ 0 ≤ c ∧ c ≤ k ∧ Below w.heap.size w wr ∧ w1.heap.size ≤ wr.heap.size) (fun i _ => len - (intOf i).toNat)
    case atStart => exact ⟨0, _, [], [], 0, 0, 0, none, 0, rfl, by omega, by omega, HN2.out.below (by (repeat' (first | (with_reducible exact Below.refl _ _) | (with_reducible assumption) | (with_reducible refine Below.alloc ?_ ?_ _) | (with_reducible refine bel_drewN ?_ _) | (with_reducible refine Below.drew ?_) | (with_reducible refine Below.setCell ?_ ?_ _) | (with_reducible refine bel_call ‹_› ?_ ?_) | go_size))), ⟨World.ownsRow_nil _ _ _ _, by simp⟩, rfl, by rw [HME.out]; exact heap_alloc_new w2 _, by simpa using hM0, by omega, by omega, by omega, by omega, by omega, by omega, HB02.out.trans (Below.mono (by (repeat' (first | (with_reducible exact Below.refl _ _) | (with_reducible assumption) | (with_reducible refine Below.alloc ?_ ?_ _) | (with_reducible refine bel_drewN ?_ _) | (with_reducible refine Below.drew ?_) | (with_reducible refine Below.setCell ?_ ?_ _) | (with_reducible refine bel_call ‹_› ?_ ?_) | go_size))) HB02.out.size), by go_size⟩
    case round =>
      obtain ⟨k, v, Ps, Qs, s, l, c, RA, RC, rfl, hk, hk60, N, R, hK, hbox, hPM, hs0, hs1, hl0, hl1, hc0, hc1, hb, hz⟩ := hrel
      have HN := Lib.hid N
      have HR := Lib.hid R
      have HK := Lib.hid hK
      have HBOX := Lib.hid hbox
      have hg1 := N.lt
      have hgb : w2.heap.size < wr.heap.size := tyAt_lt (tyAt_cells hbox)
      have hKL : Ps.length = Qs.length := by simpa using congrArg List.length hK
      clear N R hK
      by_cases hgo : k < len ∧ k < 60
      · obtain ⟨hgo1, hgo2⟩ := hgo
        rcases HA.out with h0 | ⟨b, o, rfl, hbl, hact⟩
        · omega
        obtain ⟨kd, f, t, A, n, cp, L, ii, aa, bt, h0, h1, h2, h3, h4, h5, h6, hL, hi0, hi1, ha0, ha1⟩ := (hact k hgo1).below hb hbl
        clear hact
        have HL := Lib.hid hL
        have hncp := hL.2.1
        have hcpm := hL.2.2.1
        unfold maxLen at hcpm
        clear hL
        by_cases h300 : 300 < n
        · clear hbox
          go_wp2_with fail
          refine (awake_any _).mono ?_
          rintro e w3 ⟨rfl, hb3⟩
          go_wp2_with fail
          go_ret
          exact ⟨rfl, by (repeat' (first | (with_reducible exact Below.refl _ _) | (with_reducible assumption) | (with_reducible refine Below.alloc ?_ ?_ _) | (with_reducible refine bel_drewN ?_ _) | (with_reducible refine Below.drew ?_) | (with_reducible refine Below.setCell ?_ ?_ _) | (with_reducible refine bel_call ‹_› ?_ ?_) | go_size))⟩
        · obtain ⟨x0, x1, x2, x3, x4, xf⟩ := cells5 hbox
          clear hbox
          go_wp2_with fail
          have hbr : b < wr.heap.size := Nat.lt_of_lt_of_le hbl hb.size
          have hbw1 : b < w1.heap.size := Nat.lt_of_lt_of_le hbl hz1
          have hgbn : w2.heap.size ≠ wr.heap.size := Nat.ne_of_lt hgb
          have hbrn : b ≠ wr.heap.size := Nat.ne_of_lt hbr
          go_region_held3 (fun w' => w'.cell? ⟨w2.heap.size, 0, none⟩ = some (.int .i64 M) ∧ w'.cell? ⟨w2.heap.size, 1, none⟩ = some (.slice RA Qs.length RC) ∧ w'.cell? ⟨w2.heap.size, 2, none⟩ = some (.int .i64 s) ∧ w'.cell? ⟨w2.heap.size, 3, none⟩ = some (.int .i64 c) ∧ w'.cell? ⟨w2.heap.size, 4, none⟩ = some (.int .i64 l) ∧ w'.cell? ⟨b, o + k * 7, none⟩ = some (.int .i64 kd) ∧ w'.cell? ⟨b, o + k * 7 + 1, none⟩ = some (.int .i64 f) ∧ w'.cell? ⟨b, o + k * 7 + 2, none⟩ = some (.int .i64 t) ∧ w'.cell? ⟨b, o + k * 7 + 3, none⟩ = some (.slice A n cp) ∧ w'.cell? ⟨b, o + k * 7 + 4, none⟩ = some (.int .i64 ii) ∧ w'.cell? ⟨b, o + k * 7 + 5, none⟩ = some (.int .i64 aa) ∧ w'.cell? ⟨b, o + k * 7 + 6, none⟩ = some (.int .u8 (bt.toNat : Int))) ((first | (exact ⟨(Off.cell (x := wr.heap.size) (w := w4) (p := ⟨w2.heap.size, 0, none⟩) (by repeat' (first | (with_reducible exact Off.refl _ _) | (with_reducible refine Off.alloc ?_ _) | (with_reducible refine Off.drew ?_) | (with_reducible refine Off.drewN ?_ _) | (with_reducible refine Off.set ?_ ?_ _) | (simp; done) | (simp; omega))) hgb4 hgbn).trans y0, (Off.cell (x := wr.heap.size) (w := w4) (p := ⟨w2.heap.size, 1, none⟩) (by repeat' (first | (with_reducible exact Off.refl _ _) | (with_reducible refine Off.alloc ?_ _) | (with_reducible refine Off.drew ?_) | (with_reducible refine Off.drewN ?_ _) | (with_reducible refine Off.set ?_ ?_ _) | (simp; done) | (simp; omega))) hgb4 hgbn).trans y1, (Off.cell (x := wr.heap.size) (w := w4) (p := ⟨w2.heap.size, 2, none⟩) (by repeat' (first | (with_reducible exact Off.refl _ _) | (with_reducible refine Off.alloc ?_ _) | (with_reducible refine Off.drew ?_) | (with_reducible refine Off.drewN ?_ _) | (with_reducible refine Off.set ?_ ?_ _) | (simp; done) | (simp; omega))) hgb4 hgbn).trans y2, (Off.cell (x := wr.heap.size) (w := w4) (p := ⟨w2.heap.size, 3, none⟩) (by repeat' (first | (with_reducible exact Off.refl _ _) | (with_reducible refine Off.alloc ?_ _) | (with_reducible refine Off.drew ?_) | (with_reducible refine Off.drewN ?_ _) | (with_reducible refine Off.set ?_ ?_ _) | (simp; done) | (simp; omega))) hgb4 hgbn).trans y3, (Off.cell (x := wr.heap.size) (w := w4) (p := ⟨w2.heap.size, 4, none⟩) (by repeat' (first | (with_reducible exact Off.refl _ _) | (with_reducible refine Off.alloc ?_ _) | (with_reducible refine Off.drew ?_) | (with_reducible refine Off.drewN ?_ _) | (with_reducible refine Off.set ?_ ?_ _) | (simp; done) | (simp; omega))) hgb4 hgbn).trans y4, (Off.cell (x := wr.heap.size) (w := w4) (p := ⟨b, o + k * 7, none⟩) (by repeat' (first | (with_reducible exact Off.refl _ _) | (with_reducible refine Off.alloc ?_ _) | (with_reducible refine Off.drew ?_) | (with_reducible refine Off.drewN ?_ _) | (with_reducible refine Off.set ?_ ?_ _) | (simp; done) | (simp; omega))) hbr4 hbrn).trans j0, (Off.cell (x := wr.heap.size) (w := w4) (p := ⟨b, o + k * 7 + 1, none⟩) (by repeat' (first | (with_reducible exact Off.refl _ _) | (with_reducible refine Off.alloc ?_ _) | (with_reducible refine Off.drew ?_) | (with_reducible refine Off.drewN ?_ _) | (with_reducible refine Off.set ?_ ?_ _) | (simp; done) | (simp; omega))) hbr4 hbrn).trans j1, (Off.cell (x := wr.heap.size) (w := w4) (p := ⟨b, o + k * 7 + 2, none⟩) (by repeat' (first | (with_reducible exact Off.refl _ _) | (with_reducible refine Off.alloc ?_ _) | (with_reducible refine Off.drew ?_) | (with_reducible refine Off.drewN ?_ _) | (with_reducible refine Off.set ?_ ?_ _) | (simp; done) | (simp; omega))) hbr4 hbrn).trans j2, (Off.cell (x := wr.heap.size) (w := w4) (p := ⟨b, o + k * 7 + 3, none⟩) (by repeat' (first | (with_reducible exact Off.refl _ _) | (with_reducible refine Off.alloc ?_ _) | (with_reducible refine Off.drew ?_) | (with_reducible refine Off.drewN ?_ _) | (with_reducible refine Off.set ?_ ?_ _) | (simp; done) | (simp; omega))) hbr4 hbrn).trans j3, (Off.cell (x := wr.heap.size) (w := w4) (p := ⟨b, o + k * 7 + 4, none⟩) (by repeat' (first | (with_reducible exact Off.refl _ _) | (with_reducible refine Off.alloc ?_ _) | (with_reducible refine Off.drew ?_) | (with_reducible refine Off.drewN ?_ _) | (with_reducible refine Off.set ?_ ?_ _) | (simp; done) | (simp; omega))) hbr4 hbrn).trans j4, (Off.cell (x := wr.heap.size) (w := w4) (p := ⟨b, o + k * 7 + 5, none⟩) (by repeat' (first | (with_reducible exact Off.refl _ _) | (with_reducible refine Off.alloc ?_ _) | (with_reducible refine Off.drew ?_) | (with_reducible refine Off.drewN ?_ _) | (with_reducible refine Off.set ?_ ?_ _) | (simp; done) | (simp; omega))) hbr4 hbrn).trans j5, (Off.cell (x := wr.heap.size) (w := w4) (p := ⟨b, o + k * 7 + 6, none⟩) (by repeat' (first | (with_reducible exact Off.refl _ _) | (with_reducible refine Off.alloc ?_ _) | (with_reducible refine Off.drew ?_) | (with_reducible refine Off.drewN ?_ _) | (with_reducible refine Off.set ?_ ?_ _) | (simp; done) | (simp; omega))) hbr4 hbrn).trans j6⟩) | (exact ⟨(Below.cell (B := wr.heap.size) (w := wr) (p := ⟨w2.heap.size, 0, none⟩) (by (repeat' (first | (with_reducible exact Below.refl _ _) | (with_reducible assumption) | (with_reducible refine Below.alloc ?_ ?_ _) | (with_reducible refine bel_drewN ?_ _) | (with_reducible refine Below.drew ?_) | (with_reducible refine Below.setCell ?_ ?_ _) | (with_reducible refine bel_call ‹_› ?_ ?_) | go_size))) hgb).trans x0, (Below.cell (B := wr.heap.size) (w := wr) (p := ⟨w2.heap.size, 1, none⟩) (by (repeat' (first | (with_reducible exact Below.refl _ _) | (with_reducible assumption) | (with_reducible refine Below.alloc ?_ ?_ _) | (with_reducible refine bel_drewN ?_ _) | (with_reducible refine Below.drew ?_) | (with_reducible refine Below.setCell ?_ ?_ _) | (with_reducible refine bel_call ‹_› ?_ ?_) | go_size))) hgb).trans x1, (Below.cell (B := wr.heap.size) (w := wr) (p := ⟨w2.heap.size, 2, none⟩) (by (repeat' (first | (with_reducible exact Below.refl _ _) | (with_reducible assumption) | (with_reducible refine Below.alloc ?_ ?_ _) | (with_reducible refine bel_drewN ?_ _) | (with_reducible refine Below.drew ?_) | (with_reducible refine Below.setCell ?_ ?_ _) | (with_reducible refine bel_call ‹_› ?_ ?_) | go_size))) hgb).trans x2, (Below.cell (B := wr.heap.size) (w := wr) (p := ⟨w2.heap.size, 3, none⟩) (by (repeat' (first | (with_reducible exact Below.refl _ _) | (with_reducible assumption) | (with_reducible refine Below.alloc ?_ ?_ _) | (with_reducible refine bel_drewN ?_ _) | (with_reducible refine Below.drew ?_) | (with_reducible refine Below.setCell ?_ ?_ _) | (with_reducible refine bel_call ‹_› ?_ ?_) | go_size))) hgb).trans x3, (Below.cell (B := wr.heap.size) (w := wr) (p := ⟨w2.heap.size, 4, none⟩) (by (repeat' (first | (with_reducible exact Below.refl _ _) | (with_reducible assumption) | (with_reducible refine Below.alloc ?_ ?_ _) | (with_reducible refine bel_drewN ?_ _) | (with_reducible refine Below.drew ?_) | (with_reducible refine Below.setCell ?_ ?_ _) | (with_reducible refine bel_call ‹_› ?_ ?_) | go_size))) hgb).trans x4, (Below.cell (B := wr.heap.size) (w := wr) (p := ⟨b, o + k * 7, none⟩) (by (repeat' (first | (with_reducible exact Below.refl _ _) | (with_reducible assumption) | (with_reducible refine Below.alloc ?_ ?_ _) | (with_reducible refine bel_drewN ?_ _) | (with_reducible refine Below.drew ?_) | (with_reducible refine Below.setCell ?_ ?_ _) | (with_reducible refine bel_call ‹_› ?_ ?_) | go_size))) hbr).trans h0, (Below.cell (B := wr.heap.size) (w := wr) (p := ⟨b, o + k * 7 + 1, none⟩) (by (repeat' (first | (with_reducible exact Below.refl _ _) | (with_reducible assumption) | (with_reducible refine Below.alloc ?_ ?_ _) | (with_reducible refine bel_drewN ?_ _) | (with_reducible refine Below.drew ?_) | (with_reducible refine Below.setCell ?_ ?_ _) | (with_reducible refine bel_call ‹_› ?_ ?_) | go_size))) hbr).trans h1, (Below.cell (B := wr.heap.size) (w := wr) (p := ⟨b, o + k * 7 + 2, none⟩) (by (repeat' (first | (with_reducible exact Below.refl _ _) | (with_reducible assumption) | (with_reducible refine Below.alloc ?_ ?_ _) | (with_reducible refine bel_drewN ?_ _) | (with_reducible refine Below.drew ?_) | (with_reducible refine Below.setCell ?_ ?_ _) | (with_reducible refine bel_call ‹_› ?_ ?_) | go_size))) hbr).trans h2, (Below.cell (B := wr.heap.size) (w := wr) (p := ⟨b, o + k * 7 + 3, none⟩) (by (repeat' (first | (with_reducible exact Below.refl _ _) | (with_reducible assumption) | (with_reducible refine Below.alloc ?_ ?_ _) | (with_reducible refine bel_drewN ?_ _) | (with_reducible refine Below.drew ?_) | (with_reducible refine Below.setCell ?_ ?_ _) | (with_reducible refine bel_call ‹_› ?_ ?_) | go_size))) hbr).trans h3, (Below.cell (B := wr.heap.size) (w := wr) (p := ⟨b, o + k * 7 + 4, none⟩) (by (repeat' (first | (with_reducible exact Below.refl _ _) | (with_reducible assumption) | (with_reducible refine Below.alloc ?_ ?_ _) | (with_reducible refine bel_drewN ?_ _) | (with_reducible refine Below.drew ?_) | (with_reducible refine Below.setCell ?_ ?_ _) | (with_reducible refine bel_call ‹_› ?_ ?_) | go_size))) hbr).trans h4, (Below.cell (B := wr.heap.size) (w := wr) (p := ⟨b, o + k * 7 + 5, none⟩) (by (repeat' (first | (with_reducible exact Below.refl _ _) | (with_reducible assumption) | (with_reducible refine Below.alloc ?_ ?_ _) | (with_reducible refine bel_drewN ?_ _) | (with_reducible refine Below.drew ?_) | (with_reducible refine Below.setCell ?_ ?_ _) | (with_reducible refine bel_call ‹_› ?_ ?_) | go_size))) hbr).trans h5, (Below.cell (B := wr.heap.size) (w := wr) (p := ⟨b, o + k * 7 + 6, none⟩) (by (repeat' (first | (with_reducible exact Below.refl _ _) | (with_reducible assumption) | (with_reducible refine Below.alloc ?_ ?_ _) | (with_reducible refine bel_drewN ?_ _) | (with_reducible refine Below.drew ?_) | (with_reducible refine Below.setCell ?_ ?_ _) | (with_reducible refine bel_call ‹_› ?_ ?_) | go_size))) hbr).trans h6⟩))) ((go_at_call 15; refine (does_any w1.heap.size w1.heap.size M s l c v Ps Qs RA RC f t ii aa A n cp L bt hM1 hPM hs0 (by omega) hl0 (by omega) hc0 (by omega) (by omega) _ (by go_size) (HN.out.below (by (repeat' (first | (with_reducible exact Below.refl _ _) | (with_reducible assumption) | (with_reducible refine Below.alloc ?_ ?_ _) | (with_reducible refine bel_drewN ?_ _) | (with_reducible refine Below.drew ?_) | (with_reducible refine Below.setCell ?_ ?_ _) | (with_reducible refine bel_call ‹_› ?_ ?_) | go_size)))) (HR.out.below (by (repeat' (first | (with_reducible exact Below.refl _ _) | (with_reducible assumption) | (with_reducible refine Below.alloc ?_ ?_ _) | (with_reducible refine bel_drewN ?_ _) | (with_reducible refine Below.drew ?_) | (with_reducible refine Below.setCell ?_ ?_ _) | (with_reducible refine bel_call ‹_› ?_ ?_) | go_size)))) HK.out ((HL.out.fr (.of_below (by (repeat' (first | (with_reducible exact Below.refl _ _) | (with_reducible assumption) | (with_reducible refine Below.alloc ?_ ?_ _) | (with_reducible refine bel_drewN ?_ _) | (with_reducible refine Below.drew ?_) | (with_reducible refine Below.setCell ?_ ?_ _) | (with_reducible refine bel_call ‹_› ?_ ?_) | go_size))))).up hz1) kd ha1).mono ?_; rintro e w4 ⟨A4, n4, cap4, s4, c4, l4, Ps4, Qs4, rfl, W4, K4, ⟨v4, N4⟩, F4, hP4, hs40, hs41, hl40, hl41, hc40, hc41⟩; have hF4 : Fr w1.heap.size wr w4 := Fr.trans (.of_below (by (repeat' (first | (with_reducible exact Below.refl _ _) | (with_reducible assumption) | (with_reducible refine Below.alloc ?_ ?_ _) | (with_reducible refine bel_drewN ?_ _) | (with_reducible refine Below.drew ?_) | (with_reducible refine Below.setCell ?_ ?_ _) | (with_reducible refine bel_call ‹_› ?_ ?_) | go_size)))) F4; have HF4 := Lib.hid hF4; have HW4 := Lib.hid W4; have HN4 := Lib.hid N4; have HK4 := Lib.hid K4; have hz4 : wr.heap.size ≤ w4.heap.size := hF4.size; have hgb4 : w2.heap.size < w4.heap.size := Nat.lt_of_lt_of_le hgb hz4; have hbr4 : b < w4.heap.size := Nat.lt_of_lt_of_le hbr hz4; have z := fr_box hF4 HBOX.out (by decide) (by decide); have HZ := Lib.hid z; obtain ⟨y0, y1, y2, y3, y4, yf⟩ := cells5 z; clear z; have hb04 : Below w1.heap.size wr w4 := hF4.below hz; have j0 := (hb04.cell (p := ⟨b, o + k * 7, none⟩) hbw1).trans h0; have j1 := (hb04.cell (p := ⟨b, o + k * 7 + 1, none⟩) hbw1).trans h1; have j2 := (hb04.cell (p := ⟨b, o + k * 7 + 2, none⟩) hbw1).trans h2; have j3 := (hb04.cell (p := ⟨b, o + k * 7 + 3, none⟩) hbw1).trans h3; have j4 := (hb04.cell (p := ⟨b, o + k * 7 + 4, none⟩) hbw1).trans h4; have j5 := (hb04.cell (p := ⟨b, o + k * 7 + 5, none⟩) hbw1).trans h5; have j6 := (hb04.cell (p := ⟨b, o + k * 7 + 6, none⟩) hbw1).trans h6; (first | ((with_reducible have z14 := fr_box F4 (box_drew wr (.cells #[.int .i64 0, .slice none 0 0, .int .i64 0, .int .i64 0, .int .i64 0] tRN)) (by decide) (by decide)); have HZ14 := Lib.hid z14; obtain ⟨u0, u1, u2, u3, u4', uf⟩ := cells5 z14; clear z14) | skip); clear F4 W4 N4 K4 hF4 hb04))
          · skip
            obtain ⟨_, _, hv⟩ := HW4.out.slice
            cases hv
            have hb4 : Below w.heap.size w w4 := hb.trans ((HF4.out.below hz).mono hz1)
            clear hb hncp hcpm
            clear j0 j1 j2 j3 j4 j5 j6 h0 h1 h2 h3 h4 h5 h6 x0 x1 x2 x3 x4 xf y0 y1 y2 y3 y4 yf
            have HB5 : Below w.heap.size w (w4.alloc (.cells #[.int .i64 M, .slice A4 Qs4.length cap4, .int .i64 s4, .int .i64 c4, .int .i64 l4] 44)) := by (repeat' (first | (with_reducible exact Below.refl _ _) | (with_reducible assumption) | (with_reducible refine Below.alloc ?_ ?_ _) | (with_reducible refine bel_drewN ?_ _) | (with_reducible refine Below.drew ?_) | (with_reducible refine Below.setCell ?_ ?_ _) | (with_reducible refine bel_call ‹_› ?_ ?_) | go_size))
            have hbb : Below w4.heap.size w4 (w4.alloc (.cells #[.int .i64 M, .slice A4 Qs4.length cap4, .int .i64 s4, .int .i64 c4, .int .i64 l4] 44)) := by (repeat' (first | (with_reducible exact Below.refl _ _) | (with_reducible assumption) | (with_reducible refine Below.alloc ?_ ?_ _) | (with_reducible refine bel_drewN ?_ _) | (with_reducible refine Below.drew ?_) | (with_reducible refine Below.setCell ?_ ?_ _) | (with_reducible refine bel_call ‹_› ?_ ?_) | go_size))
            have HN5 := Lib.hid (HN4.out.below hbb)
            have HR5 := Lib.hid (HW4.out.below hbb)
            have HX5 := Lib.hid (be_box hbb HZ.out)
            have HQ5 := Lib.hid (heap_alloc_new w4 (.cells #[.int .i64 M, .slice A4 Qs4.length cap4, .int .i64 s4, .int .i64 c4, .int .i64 l4] 44))
            have HS5 : w1.heap.size ≤ (w4.alloc (.cells #[.int .i64 M, .slice A4 Qs4.length cap4, .int .i64 s4, .int .i64 c4, .int .i64 l4] 44)).heap.size := Nat.le_trans (Nat.le_trans hz hz4) hbb.size
            have HT5 : w2.heap.size < (w4.alloc (.cells #[.int .i64 M, .slice A4 Qs4.length cap4, .int .i64 s4, .int .i64 c4, .int .i64 l4] 44)).heap.size := Nat.lt_of_lt_of_le hgb4 hbb.size
            have HU5 : w2.heap.size ≠ w4.heap.size := Nat.ne_of_lt hgb4
            have HV5 : w4.heap.size < (w4.alloc (.cells #[.int .i64 M, .slice A4 Qs4.length cap4, .int .i64 s4, .int .i64 c4, .int .i64 l4] 44)).heap.size := by go_size
            obtain ⟨g5, hg5⟩ : ∃ g5, g5 = w4.heap.size := ⟨_, rfl⟩
            rw [← hg5] at HQ5 HU5 HV5
            generalize (w4.alloc (.cells #[.int .i64 M, .slice A4 Qs4.length cap4, .int .i64 s4, .int .i64 c4, .int .i64 l4] 44)) = W5 at HB5 HN5 HR5 HX5 HQ5 HS5 HT5 HV5 ⊢
            rw [← hg5]
            clear hbb hg5
            clear HN4 HW4 HZ hb4 HBOX HN HR HK HF4 HL
            obtain ⟨a0, a1, a2, a3, a4, af⟩ := cells5 HX5.out
            obtain ⟨e0, e1, e2, e3, e4, ef⟩ := cells5 HQ5.out
            go_wp2_with fail
            clear a0 a1 a2 a3 a4 af e0 e1 e2 e3 e4 ef
            have HB6 : Below w.heap.size w (((((W5.setCell ⟨w2.heap.size, 0, none⟩ (.int .i64 M)).setCell ⟨w2.heap.size, 1, none⟩ (.slice A4 Qs4.length cap4)).setCell ⟨w2.heap.size, 2, none⟩ (.int .i64 s4)).setCell ⟨w2.heap.size, 3, none⟩ (.int .i64 c4)).setCell ⟨w2.heap.size, 4, none⟩ (.int .i64 l4)) := by (repeat' (first | (with_reducible exact Below.refl _ _) | (with_reducible assumption) | (with_reducible refine Below.alloc ?_ ?_ _) | (with_reducible refine bel_drewN ?_ _) | (with_reducible refine Below.drew ?_) | (with_reducible refine Below.setCell ?_ ?_ _) | (with_reducible refine bel_call ‹_› ?_ ?_) | go_size))
            have HN6 := Lib.hid (HN5.out.five (b := w2.heap.size) (Nat.le_of_lt hz2) (tyAt_cells HX5.out) (.int .i64 M) (.slice A4 Qs4.length cap4) (.int .i64 s4) (.int .i64 c4) (.int .i64 l4))
            have HR6 := Lib.hid (HR5.out.five (b := w2.heap.size) (Nat.le_of_lt hz2) (tyAt_cells HX5.out) (.int .i64 M) (.slice A4 Qs4.length cap4) (.int .i64 s4) (.int .i64 c4) (.int .i64 l4))
            have HX6 := Lib.hid (five_cells HX5.out (.int .i64 M) (.slice A4 Qs4.length cap4) (.int .i64 s4) (.int .i64 c4) (.int .i64 l4))
            have HT6 : w2.heap.size < (((((W5.setCell ⟨w2.heap.size, 0, none⟩ (.int .i64 M)).setCell ⟨w2.heap.size, 1, none⟩ (.slice A4 Qs4.length cap4)).setCell ⟨w2.heap.size, 2, none⟩ (.int .i64 s4)).setCell ⟨w2.heap.size, 3, none⟩ (.int .i64 c4)).setCell ⟨w2.heap.size, 4, none⟩ (.int .i64 l4)).heap.size := tyAt_lt (tyAt_cells HX6.out)
            have HS6 : w1.heap.size ≤ (((((W5.setCell ⟨w2.heap.size, 0, none⟩ (.int .i64 M)).setCell ⟨w2.heap.size, 1, none⟩ (.slice A4 Qs4.length cap4)).setCell ⟨w2.heap.size, 2, none⟩ (.int .i64 s4)).setCell ⟨w2.heap.size, 3, none⟩ (.int .i64 c4)).setCell ⟨w2.heap.size, 4, none⟩ (.int .i64 l4)).heap.size := Nat.le_trans (Nat.le_of_lt hz2) (Nat.le_of_lt HT6)
            generalize (((((W5.setCell ⟨w2.heap.size, 0, none⟩ (.int .i64 M)).setCell ⟨w2.heap.size, 1, none⟩ (.slice A4 Qs4.length cap4)).setCell ⟨w2.heap.size, 2, none⟩ (.int .i64 s4)).setCell ⟨w2.heap.size, 3, none⟩ (.int .i64 c4)).setCell ⟨w2.heap.size, 4, none⟩ (.int .i64 l4)) = W6 at HB6 HN6 HR6 HX6 HT6 HS6 ⊢
            clear HB5 HN5 HR5 HX5 HQ5 HS5 HT5 HU5 HV5
            obtain ⟨A6, cap6, rfl⟩ := HN6.out.slice
            obtain ⟨q0, q1, q2, q3, q4, q5⟩ := HN6.out.cell
            obtain ⟨a0, a1, a2, a3, a4, af⟩ := cells5 HX6.out
            have hK4 : Ps4.length = Qs4.length := by simpa using congrArg List.length HK4.out
            refine (counts_any w1.heap.size s4 l4 c4 _ q2 q3 q4).mono ?_
            rintro e w7 ⟨rfl, nq, rfl⟩
            go_wp2_with fail
            clear q0 q1 q2 q3 q4 q5 a0 a1 a2 a3 a4 af
            have HB7 : Below w.heap.size w (W6.drewN nq) := bel_drewN HB6 nq
            have HN7 := Lib.hid (HN6.out.drewN nq)
            have HR7 := Lib.hid (HR6.out.below (bel_drewN (Below.refl W6.heap.size W6) nq))
            have HX7 : Hid ((W6.drewN nq).heap[w2.heap.size]? = some (.cells #[.int .i64 M, .slice A4 Qs4.length cap4, .int .i64 s4, .int .i64 c4, .int .i64 l4] tRN (0, 0))) := HX6.out
            have HT7 : w2.heap.size < (W6.drewN nq).heap.size := HT6
            have HS7 : w1.heap.size ≤ (W6.drewN nq).heap.size := HS6
            generalize W6.drewN nq = W7 at HB7 HN7 HR7 HX7 HT7 HS7 ⊢
            clear HB6 HN6 HR6 HX6 HT6 HS6
            obtain ⟨q0, q1, q2, q3, q4, q5⟩ := HN7.out.cell
            obtain ⟨a0, a1, a2, a3, a4, af⟩ := cells5 HX7.out
            clear q0 q2 q3 q4 q5
            have q1' := q1
            rw [hK4] at q1'
            clear q1
            go_quiet ((go_at_call 14; exact quiet_same (len_any w1.heap.size A6 Qs4.length cap6 (by omega) _ q1')))
            go_wp2_with fail
            clear a0 a1 a2 a3 a4 af q1'
            go_loopw [13] (fun i wr => ∃ j : Nat, i = .int .i64 j ∧ j ≤ Qs4.length ∧ Below W7.heap.size W7 wr) (fun i _ => Qs4.length - (intOf i).toNat)
            case atStart => exact ⟨0, rfl, Nat.zero_le _, by (repeat' (first | (with_reducible exact Below.refl _ _) | (with_reducible assumption) | (with_reducible refine Below.alloc ?_ ?_ _) | (with_reducible refine bel_drewN ?_ _) | (with_reducible refine Below.drew ?_) | (with_reducible refine Below.setCell ?_ ?_ _) | (with_reducible refine bel_call ‹_› ?_ ?_) | go_size))⟩
            case round =>
              obtain ⟨j, rfl, hj, hbj⟩ := hrel
              have hXj := be_box hbj HX7.out
              have HXJ := Lib.hid hXj
              obtain ⟨a0, a1, a2, a3, a4, af⟩ := cells5 hXj
              have hTj : w2.heap.size < wr.heap.size := tyAt_lt (tyAt_cells hXj)
              have hSj : w1.heap.size ≤ wr.heap.size := Nat.le_trans (Nat.le_of_lt hz2) (Nat.le_of_lt hTj)
              clear hXj
              by_cases hjl : j < Qs4.length
              · obtain ⟨p, hp⟩ : ∃ p, Ps4[j]? = some p := ⟨_, List.getElem?_eq_getElem (by omega)⟩
                obtain ⟨q, hq⟩ : ∃ q, Qs4[j]? = some q := ⟨_, List.getElem?_eq_getElem hjl⟩
                have HKY : Hid (p.key = q.key) := key_at HK4.out hp hq
                have HP := Lib.hid hp
                have HQ := Lib.hid hq
                clear hp hq
                go_wp2_with fail
                refine (at_hit w1.heap.size w1.heap.size M s4 l4 c4 _ Ps4 j p HP.out (by omega) _ (by go_size) (HN7.out.below (by (repeat' (first | (with_reducible exact Below.refl _ _) | (with_reducible assumption) | (with_reducible refine Below.alloc ?_ ?_ _) | (with_reducible refine bel_drewN ?_ _) | (with_reducible refine Below.drew ?_) | (with_reducible refine Below.setCell ?_ ?_ _) | (with_reducible refine bel_call ‹_› ?_ ?_) | go_size))))).mono ?_
                rintro e w8 ⟨x, he, hxk, hxo, hb8⟩
                obtain ⟨k1, k2, k3⟩ := key_parts (hxk.trans HKY.out)
                have hv : x.val = .agg #[.int .i64 q.f, .int .i64 q.t, .slice x.A x.n x.c] := by unfold Pk.val; rw [k1, k2]
                rw [hv] at he
                subst he
                clear hv k1 k2
                have hxr : RdB w1.heap.size w8 x.A x.n x.c q.bs := by rw [← k3]; exact hxo.1
                have HXR := Lib.hid hxr
                have hxn := hxr.2.1
                have hxm := hxr.2.2.1
                clear hxr hxk hxo k3
                have hzj := hbj.size
                have hb78 : Below W7.heap.size W7 w8 := by (repeat' (first | (with_reducible exact Below.refl _ _) | (with_reducible assumption) | (with_reducible refine Below.alloc ?_ ?_ _) | (with_reducible refine bel_drewN ?_ _) | (with_reducible refine Below.drew ?_) | (with_reducible refine Below.setCell ?_ ?_ _) | (with_reducible refine bel_call ‹_› ?_ ?_) | go_size))
                have HB78 := Lib.hid hb78
                clear hb8
                clear a0 a1 a2 a3 a4 af
                have hz8 := hb78.size
                go_wp2_with fail
                obtain ⟨rr, rc, hv, hrc, hrm, hrl, hrB, hrt, _, key⟩ := own_row HR7.out.own (by omega)
                cases hv
                have k0 : W7.cell? ⟨rr, j * 3, none⟩ = some (.int .i64 q.f) := key _ _ (flat_at Qs4 j _ HQ.out 0 (by omega))
                have k1 : W7.cell? ⟨rr, j * 3 + 1, none⟩ = some (.int .i64 q.t) := key _ _ (flat_at Qs4 j _ HQ.out 1 (by omega))
                have k2 : W7.cell? ⟨rr, j * 3 + 2, none⟩ = some (.slice q.A q.n q.c) := key _ _ (flat_at Qs4 j _ HQ.out 2 (by omega))
                have g4 : (j : Int) < (Qs4.length : Int) := by omega
                clear key hrt
                unfold maxLen at hrm
                have hv8 : Below w8.heap.size w8 (w8.alloc (.cells #[.int .i64 q.f, .int .i64 q.t, .slice x.A x.n x.c] 31)) := by (repeat' (first | (with_reducible exact Below.refl _ _) | (with_reducible assumption) | (with_reducible refine Below.alloc ?_ ?_ _) | (with_reducible refine bel_drewN ?_ _) | (with_reducible refine Below.drew ?_) | (with_reducible refine Below.setCell ?_ ?_ _) | (with_reducible refine bel_call ‹_› ?_ ?_) | go_size))
                have hb79 := hb78.trans (hv8.mono hz8)
                have HB9 := Lib.hid hb79
                have HX9 := be_box hb79 HX7.out
                have HXR9 := Lib.hid (HXR.out.below hv8)
                have HQR9 := Lib.hid ((HR7.out.pk q (List.mem_of_getElem? HQ.out)).1.below hb79)
                have z9 := heap_alloc_new w8 (.cells #[.int .i64 q.f, .int .i64 q.t, .slice x.A x.n x.c] 31)
                have hg9 : w8.heap.size < (w8.alloc (.cells #[.int .i64 q.f, .int .i64 q.t, .slice x.A x.n x.c] 31)).heap.size := by go_size
                have ht9 : w2.heap.size < (w8.alloc (.cells #[.int .i64 q.f, .int .i64 q.t, .slice x.A x.n x.c] 31)).heap.size := tyAt_lt (tyAt_cells HX9)
                have hr9 : rr < (w8.alloc (.cells #[.int .i64 q.f, .int .i64 q.t, .slice x.A x.n x.c] 31)).heap.size := Nat.lt_of_lt_of_le hrl hb79.size
                have l0 := (hb79.cell (p := ⟨rr, j * 3, none⟩) hrl).trans k0
                have l1 := (hb79.cell (p := ⟨rr, j * 3 + 1, none⟩) hrl).trans k1
                have l2 := (hb79.cell (p := ⟨rr, j * 3 + 2, none⟩) hrl).trans k2
                have hs9 : w1.heap.size ≤ (w8.alloc (.cells #[.int .i64 q.f, .int .i64 q.t, .slice x.A x.n x.c] 31)).heap.size := Nat.le_trans (Nat.le_of_lt hz2) (Nat.le_of_lt ht9)
                clear k0 k1 k2 hv8 hb79 hb78 HB78 hz8
                obtain ⟨g9, hg⟩ : ∃ g9, g9 = w8.heap.size := ⟨_, rfl⟩
                generalize (w8.alloc (.cells #[.int .i64 q.f, .int .i64 q.t, .slice x.A x.n x.c] 31)) = V9 at HB9 HX9 HXR9 HQR9 z9 hg9 ht9 hr9 l0 l1 l2 hs9 ⊢
                rw [← hg] at z9 hg9 ⊢
                clear hg
                obtain ⟨z0, z1, z2⟩ := cells3' z9
                obtain ⟨a0, a1, a2, a3, a4, af⟩ := cells5 HX9
                clear z9 HX9 a0 a2 a3 a4 af
                have k0 := l0
                have k1 := l1
                have k2 := l2
                clear l0 l1 l2
                go_region_held3 (fun w' => w'.cell? ⟨g9, 0, none⟩ = some (.int .i64 q.f) ∧ w'.cell? ⟨g9, 1, none⟩ = some (.int .i64 q.t) ∧ w'.cell? ⟨g9, 2, none⟩ = some (.slice x.A x.n x.c) ∧ w'.cell? ⟨w2.heap.size, 1, none⟩ = some (.slice (some ⟨rr, 0, none⟩) Qs4.length cap4) ∧ w'.cell? ⟨rr, j * 3, none⟩ = some (.int .i64 q.f) ∧ w'.cell? ⟨rr, j * 3 + 1, none⟩ = some (.int .i64 q.t) ∧ w'.cell? ⟨rr, j * 3 + 2, none⟩ = some (.slice q.A q.n q.c)) (exact ⟨(Below.cell (B := V9.heap.size) (w := V9) (p := ⟨g9, 0, none⟩) (by (repeat' (first | (with_reducible exact Below.refl _ _) | (with_reducible assumption) | (with_reducible refine Below.alloc ?_ ?_ _) | (with_reducible refine bel_drewN ?_ _) | (with_reducible refine Below.drew ?_) | (with_reducible refine Below.setCell ?_ ?_ _) | (with_reducible refine bel_call ‹_› ?_ ?_) | go_size))) hg9).trans z0, (Below.cell (B := V9.heap.size) (w := V9) (p := ⟨g9, 1, none⟩) (by (repeat' (first | (with_reducible exact Below.refl _ _) | (with_reducible assumption) | (with_reducible refine Below.alloc ?_ ?_ _) | (with_reducible refine bel_drewN ?_ _) | (with_reducible refine Below.drew ?_) | (with_reducible refine Below.setCell ?_ ?_ _) | (with_reducible refine bel_call ‹_› ?_ ?_) | go_size))) hg9).trans z1, (Below.cell (B := V9.heap.size) (w := V9) (p := ⟨g9, 2, none⟩) (by (repeat' (first | (with_reducible exact Below.refl _ _) | (with_reducible assumption) | (with_reducible refine Below.alloc ?_ ?_ _) | (with_reducible refine bel_drewN ?_ _) | (with_reducible refine Below.drew ?_) | (with_reducible refine Below.setCell ?_ ?_ _) | (with_reducible refine bel_call ‹_› ?_ ?_) | go_size))) hg9).trans z2, (Below.cell (B := V9.heap.size) (w := V9) (p := ⟨w2.heap.size, 1, none⟩) (by (repeat' (first | (with_reducible exact Below.refl _ _) | (with_reducible assumption) | (with_reducible refine Below.alloc ?_ ?_ _) | (with_reducible refine bel_drewN ?_ _) | (with_reducible refine Below.drew ?_) | (with_reducible refine Below.setCell ?_ ?_ _) | (with_reducible refine bel_call ‹_› ?_ ?_) | go_size))) ht9).trans a1, (Below.cell (B := V9.heap.size) (w := V9) (p := ⟨rr, j * 3, none⟩) (by (repeat' (first | (with_reducible exact Below.refl _ _) | (with_reducible assumption) | (with_reducible refine Below.alloc ?_ ?_ _) | (with_reducible refine bel_drewN ?_ _) | (with_reducible refine Below.drew ?_) | (with_reducible refine Below.setCell ?_ ?_ _) | (with_reducible refine bel_call ‹_› ?_ ?_) | go_size))) hr9).trans k0, (Below.cell (B := V9.heap.size) (w := V9) (p := ⟨rr, j * 3 + 1, none⟩) (by (repeat' (first | (with_reducible exact Below.refl _ _) | (with_reducible assumption) | (with_reducible refine Below.alloc ?_ ?_ _) | (with_reducible refine bel_drewN ?_ _) | (with_reducible refine Below.drew ?_) | (with_reducible refine Below.setCell ?_ ?_ _) | (with_reducible refine bel_call ‹_› ?_ ?_) | go_size))) hr9).trans k1, (Below.cell (B := V9.heap.size) (w := V9) (p := ⟨rr, j * 3 + 2, none⟩) (by (repeat' (first | (with_reducible exact Below.refl _ _) | (with_reducible assumption) | (with_reducible refine Below.alloc ?_ ?_ _) | (with_reducible refine bel_drewN ?_ _) | (with_reducible refine Below.drew ?_) | (with_reducible refine Below.setCell ?_ ?_ _) | (with_reducible refine bel_call ‹_› ?_ ?_) | go_size))) hr9).trans k2⟩) ((go_at_call 17; refine (same_yes w1.heap.size q.f q.t x.A x.n x.c q.A q.n q.c q.bs _ (HXR9.out.below (by (repeat' (first | (with_reducible exact Below.refl _ _) | (with_reducible assumption) | (with_reducible refine Below.alloc ?_ ?_ _) | (with_reducible refine bel_drewN ?_ _) | (with_reducible refine Below.drew ?_) | (with_reducible refine Below.setCell ?_ ?_ _) | (with_reducible refine bel_call ‹_› ?_ ?_) | go_size)))) (HQR9.out.below (by (repeat' (first | (with_reducible exact Below.refl _ _) | (with_reducible assumption) | (with_reducible refine Below.alloc ?_ ?_ _) | (with_reducible refine bel_drewN ?_ _) | (with_reducible refine Below.drew ?_) | (with_reducible refine Below.setCell ?_ ?_ _) | (with_reducible refine bel_call ‹_› ?_ ?_) | go_size))))).mono ?_; rintro e w9 ⟨rfl, hb9⟩; have hb99 : Below V9.heap.size V9 w9 := (by (repeat' (first | (with_reducible exact Below.refl _ _) | (with_reducible assumption) | (with_reducible refine Below.alloc ?_ ?_ _) | (with_reducible refine bel_drewN ?_ _) | (with_reducible refine Below.drew ?_) | (with_reducible refine Below.setCell ?_ ?_ _) | (with_reducible refine bel_call ‹_› ?_ ?_) | go_size))); have hz99 := hb99.size))
                all_goals
                  go_wp2_with fail
                  go_roundw
                  case rel => exact ⟨j + 1, by go_num, by omega, HB9.out.trans (Below.mono (by (repeat' (first | (with_reducible exact Below.refl _ _) | (with_reducible assumption) | (with_reducible refine Below.alloc ?_ ?_ _) | (with_reducible refine bel_drewN ?_ _) | (with_reducible refine Below.drew ?_) | (with_reducible refine Below.setCell ?_ ?_ _) | (with_reducible refine bel_call ‹_› ?_ ?_) | go_size))) HB9.out.size)⟩
                  case measure => simp [intOf]; omega
              · go_wp2_with fail
                go_roundw
                case rel => exact ⟨k + 1, _, Ps4, Qs4, s4, l4, c4, A4, cap4, by go_num, by omega, by omega, HN7.out.below hbj, HR7.out.below hbj, HK4.out, HXJ.out, hP4, by omega, by omega, by omega, by omega, by omega, by omega, HB7.trans (hbj.mono HB7.size), hSj⟩
                case measure => simp [intOf]; omega
          · skip
            obtain ⟨_, _, hv⟩ := HW4.out.slice
            cases hv
            have hb4 : Below w.heap.size w w4 := hb.trans ((HF4.out.below hz).mono hz1)
            clear hb hncp hcpm
            clear j0 j1 j2 j3 j4 j5 j6 h0 h1 h2 h3 h4 h5 h6 x0 x1 x2 x3 x4 xf y0 y1 y2 y3 y4 yf
            have HB5 : Below w.heap.size w (((((w4.setCell ⟨wr.heap.size, 0, none⟩ (.int .i64 M)).setCell ⟨wr.heap.size, 1, none⟩ (.slice A4 Qs4.length cap4)).setCell ⟨wr.heap.size, 2, none⟩ (.int .i64 s4)).setCell ⟨wr.heap.size, 3, none⟩ (.int .i64 c4)).setCell ⟨wr.heap.size, 4, none⟩ (.int .i64 l4)) := by (repeat' (first | (with_reducible exact Below.refl _ _) | (with_reducible assumption) | (with_reducible refine Below.alloc ?_ ?_ _) | (with_reducible refine bel_drewN ?_ _) | (with_reducible refine Below.drew ?_) | (with_reducible refine Below.setCell ?_ ?_ _) | (with_reducible refine bel_call ‹_› ?_ ?_) | go_size))
            have HN5 := Lib.hid (HN4.out.five (b := wr.heap.size) hz (tyAt_cells HZ14.out) (.int .i64 M) (.slice A4 Qs4.length cap4) (.int .i64 s4) (.int .i64 c4) (.int .i64 l4))
            have HR5 := Lib.hid (HW4.out.five (b := wr.heap.size) hz (tyAt_cells HZ14.out) (.int .i64 M) (.slice A4 Qs4.length cap4) (.int .i64 s4) (.int .i64 c4) (.int .i64 l4))
            have HX5 := Lib.hid ((five_other w4 wr.heap.size (.int .i64 M) (.slice A4 Qs4.length cap4) (.int .i64 s4) (.int .i64 c4) (.int .i64 l4) w2.heap.size hgbn).trans HZ.out)
            have HQ5 := Lib.hid (five_cells HZ14.out (.int .i64 M) (.slice A4 Qs4.length cap4) (.int .i64 s4) (.int .i64 c4) (.int .i64 l4))
            have HT5 : w2.heap.size < (((((w4.setCell ⟨wr.heap.size, 0, none⟩ (.int .i64 M)).setCell ⟨wr.heap.size, 1, none⟩ (.slice A4 Qs4.length cap4)).setCell ⟨wr.heap.size, 2, none⟩ (.int .i64 s4)).setCell ⟨wr.heap.size, 3, none⟩ (.int .i64 c4)).setCell ⟨wr.heap.size, 4, none⟩ (.int .i64 l4)).heap.size := tyAt_lt (tyAt_cells HX5.out)
            have HS5 : w1.heap.size ≤ (((((w4.setCell ⟨wr.heap.size, 0, none⟩ (.int .i64 M)).setCell ⟨wr.heap.size, 1, none⟩ (.slice A4 Qs4.length cap4)).setCell ⟨wr.heap.size, 2, none⟩ (.int .i64 s4)).setCell ⟨wr.heap.size, 3, none⟩ (.int .i64 c4)).setCell ⟨wr.heap.size, 4, none⟩ (.int .i64 l4)).heap.size := Nat.le_trans (Nat.le_of_lt hz2) (Nat.le_of_lt HT5)
            have HU5 : w2.heap.size ≠ wr.heap.size := hgbn
            have HV5 : wr.heap.size < (((((w4.setCell ⟨wr.heap.size, 0, none⟩ (.int .i64 M)).setCell ⟨wr.heap.size, 1, none⟩ (.slice A4 Qs4.length cap4)).setCell ⟨wr.heap.size, 2, none⟩ (.int .i64 s4)).setCell ⟨wr.heap.size, 3, none⟩ (.int .i64 c4)).setCell ⟨wr.heap.size, 4, none⟩ (.int .i64 l4)).heap.size := tyAt_lt (tyAt_cells HQ5.out)
            obtain ⟨g5, hg5⟩ : ∃ g5, g5 = wr.heap.size := ⟨_, rfl⟩
            generalize (((((w4.setCell ⟨wr.heap.size, 0, none⟩ (.int .i64 M)).setCell ⟨wr.heap.size, 1, none⟩ (.slice A4 Qs4.length cap4)).setCell ⟨wr.heap.size, 2, none⟩ (.int .i64 s4)).setCell ⟨wr.heap.size, 3, none⟩ (.int .i64 c4)).setCell ⟨wr.heap.size, 4, none⟩ (.int .i64 l4)) = W5 at HB5 HN5 HR5 HX5 HQ5 HS5 HT5 HV5 ⊢
            rw [← hg5] at HQ5 HU5 HV5 ⊢
            clear hg5 u0 u1 u2 u3 u4' uf HZ14
            clear HN4 HW4 HZ hb4 HBOX HN HR HK HF4 HL
            obtain ⟨a0, a1, a2, a3, a4, af⟩ := cells5 HX5.out
            obtain ⟨e0, e1, e2, e3, e4, ef⟩ := cells5 HQ5.out
            go_wp2_with fail
            clear a0 a1 a2 a3 a4 af e0 e1 e2 e3 e4 ef
            have HB6 : Below w.heap.size w (((((W5.setCell ⟨w2.heap.size, 0, none⟩ (.int .i64 M)).setCell ⟨w2.heap.size, 1, none⟩ (.slice A4 Qs4.length cap4)).setCell ⟨w2.heap.size, 2, none⟩ (.int .i64 s4)).setCell ⟨w2.heap.size, 3, none⟩ (.int .i64 c4)).setCell ⟨w2.heap.size, 4, none⟩ (.int .i64 l4)) := by (repeat' (first | (with_reducible exact Below.refl _ _) | (with_reducible assumption) | (with_reducible refine Below.alloc ?_ ?_ _) | (with_reducible refine bel_drewN ?_ _) | (with_reducible refine Below.drew ?_) | (with_reducible refine Below.setCell ?_ ?_ _) | (with_reducible refine bel_call ‹_› ?_ ?_) | go_size))
            have HN6 := Lib.hid (HN5.out.five (b := w2.heap.size) (Nat.le_of_lt hz2) (tyAt_cells HX5.out) (.int .i64 M) (.slice A4 Qs4.length cap4) (.int .i64 s4) (.int .i64 c4) (.int .i64 l4))
            have HR6 := Lib.hid (HR5.out.five (b := w2.heap.size) (Nat.le_of_lt hz2) (tyAt_cells HX5.out) (.int .i64 M) (.slice A4 Qs4.length cap4) (.int .i64 s4) (.int .i64 c4) (.int .i64 l4))
            have HX6 := Lib.hid (five_cells HX5.out (.int .i64 M) (.slice A4 Qs4.length cap4) (.int .i64 s4) (.int .i64 c4) (.int .i64 l4))
            have HT6 : w2.heap.size < (((((W5.setCell ⟨w2.heap.size, 0, none⟩ (.int .i64 M)).setCell ⟨w2.heap.size, 1, none⟩ (.slice A4 Qs4.length cap4)).setCell ⟨w2.heap.size, 2, none⟩ (.int .i64 s4)).setCell ⟨w2.heap.size, 3, none⟩ (.int .i64 c4)).setCell ⟨w2.heap.size, 4, none⟩ (.int .i64 l4)).heap.size := tyAt_lt (tyAt_cells HX6.out)
            have HS6 : w1.heap.size ≤ (((((W5.setCell ⟨w2.heap.size, 0, none⟩ (.int .i64 M)).setCell ⟨w2.heap.size, 1, none⟩ (.slice A4 Qs4.length cap4)).setCell ⟨w2.heap.size, 2, none⟩ (.int .i64 s4)).setCell ⟨w2.heap.size, 3, none⟩ (.int .i64 c4)).setCell ⟨w2.heap.size, 4, none⟩ (.int .i64 l4)).heap.size := Nat.le_trans (Nat.le_of_lt hz2) (Nat.le_of_lt HT6)
            generalize (((((W5.setCell ⟨w2.heap.size, 0, none⟩ (.int .i64 M)).setCell ⟨w2.heap.size, 1, none⟩ (.slice A4 Qs4.length cap4)).setCell ⟨w2.heap.size, 2, none⟩ (.int .i64 s4)).setCell ⟨w2.heap.size, 3, none⟩ (.int .i64 c4)).setCell ⟨w2.heap.size, 4, none⟩ (.int .i64 l4)) = W6 at HB6 HN6 HR6 HX6 HT6 HS6 ⊢
            clear HB5 HN5 HR5 HX5 HQ5 HS5 HT5 HU5 HV5
            obtain ⟨A6, cap6, rfl⟩ := HN6.out.slice
            obtain ⟨q0, q1, q2, q3, q4, q5⟩ := HN6.out.cell
            obtain ⟨a0, a1, a2, a3, a4, af⟩ := cells5 HX6.out
            have hK4 : Ps4.length = Qs4.length := by simpa using congrArg List.length HK4.out
            refine (counts_any w1.heap.size s4 l4 c4 _ q2 q3 q4).mono ?_
            rintro e w7 ⟨rfl, nq, rfl⟩
            go_wp2_with fail
            clear q0 q1 q2 q3 q4 q5 a0 a1 a2 a3 a4 af
            have HB7 : Below w.heap.size w (W6.drewN nq) := bel_drewN HB6 nq
            have HN7 := Lib.hid (HN6.out.drewN nq)
            have HR7 := Lib.hid (HR6.out.below (bel_drewN (Below.refl W6.heap.size W6) nq))
            have HX7 : Hid ((W6.drewN nq).heap[w2.heap.size]? = some (.cells #[.int .i64 M, .slice A4 Qs4.length cap4, .int .i64 s4, .int .i64 c4, .int .i64 l4] tRN (0, 0))) := HX6.out
            have HT7 : w2.heap.size < (W6.drewN nq).heap.size := HT6
            have HS7 : w1.heap.size ≤ (W6.drewN nq).heap.size := HS6
            generalize W6.drewN nq = W7 at HB7 HN7 HR7 HX7 HT7 HS7 ⊢
            clear HB6 HN6 HR6 HX6 HT6 HS6
            obtain ⟨q0, q1, q2, q3, q4, q5⟩ := HN7.out.cell
            obtain ⟨a0, a1, a2, a3, a4, af⟩ := cells5 HX7.out
            clear q0 q2 q3 q4 q5
            have q1' := q1
            rw [hK4] at q1'
            clear q1
            go_quiet ((go_at_call 14; exact quiet_same (len_any w1.heap.size A6 Qs4.length cap6 (by omega) _ q1')))
            go_wp2_with fail
            clear a0 a1 a2 a3 a4 af q1'
            go_loopw [13] (fun i wr => ∃ j : Nat, i = .int .i64 j ∧ j ≤ Qs4.length ∧ Below W7.heap.size W7 wr) (fun i _ => Qs4.length - (intOf i).toNat)
            case atStart => exact ⟨0, rfl, Nat.zero_le _, by (repeat' (first | (with_reducible exact Below.refl _ _) | (with_reducible assumption) | (with_reducible refine Below.alloc ?_ ?_ _) | (with_reducible refine bel_drewN ?_ _) | (with_reducible refine Below.drew ?_) | (with_reducible refine Below.setCell ?_ ?_ _) | (with_reducible refine bel_call ‹_› ?_ ?_) | go_size))⟩
            case round =>
              obtain ⟨j, rfl, hj, hbj⟩ := hrel
              have hXj := be_box hbj HX7.out
              have HXJ := Lib.hid hXj
              obtain ⟨a0, a1, a2, a3, a4, af⟩ := cells5 hXj
              have hTj : w2.heap.size < wr.heap.size := tyAt_lt (tyAt_cells hXj)
              have hSj : w1.heap.size ≤ wr.heap.size := Nat.le_trans (Nat.le_of_lt hz2) (Nat.le_of_lt hTj)
              clear hXj
              by_cases hjl : j < Qs4.length
              · obtain ⟨p, hp⟩ : ∃ p, Ps4[j]? = some p := ⟨_, List.getElem?_eq_getElem (by omega)⟩
                obtain ⟨q, hq⟩ : ∃ q, Qs4[j]? = some q := ⟨_, List.getElem?_eq_getElem hjl⟩
                have HKY : Hid (p.key = q.key) := key_at HK4.out hp hq
                have HP := Lib.hid hp
                have HQ := Lib.hid hq
                clear hp hq
                go_wp2_with fail
                refine (at_hit w1.heap.size w1.heap.size M s4 l4 c4 _ Ps4 j p HP.out (by omega) _ (by go_size) (HN7.out.below (by (repeat' (first | (with_reducible exact Below.refl _ _) | (with_reducible assumption) | (with_reducible refine Below.alloc ?_ ?_ _) | (with_reducible refine bel_drewN ?_ _) | (with_reducible refine Below.drew ?_) | (with_reducible refine Below.setCell ?_ ?_ _) | (with_reducible refine bel_call ‹_› ?_ ?_) | go_size))))).mono ?_
                rintro e w8 ⟨x, he, hxk, hxo, hb8⟩
                obtain ⟨k1, k2, k3⟩ := key_parts (hxk.trans HKY.out)
                have hv : x.val = .agg #[.int .i64 q.f, .int .i64 q.t, .slice x.A x.n x.c] := by unfold Pk.val; rw [k1, k2]
                rw [hv] at he
                subst he
                clear hv k1 k2
                have hxr : RdB w1.heap.size w8 x.A x.n x.c q.bs := by rw [← k3]; exact hxo.1
                have HXR := Lib.hid hxr
                have hxn := hxr.2.1
                have hxm := hxr.2.2.1
                clear hxr hxk hxo k3
                have hzj := hbj.size
                have hb78 : Below W7.heap.size W7 w8 := by (repeat' (first | (with_reducible exact Below.refl _ _) | (with_reducible assumption) | (with_reducible refine Below.alloc ?_ ?_ _) | (with_reducible refine bel_drewN ?_ _) | (with_reducible refine Below.drew ?_) | (with_reducible refine Below.setCell ?_ ?_ _) | (with_reducible refine bel_call ‹_› ?_ ?_) | go_size))
                have HB78 := Lib.hid hb78
                clear hb8
                clear a0 a1 a2 a3 a4 af
                have hz8 := hb78.size
                go_wp2_with fail
                obtain ⟨rr, rc, hv, hrc, hrm, hrl, hrB, hrt, _, key⟩ := own_row HR7.out.own (by omega)
                cases hv
                have k0 : W7.cell? ⟨rr, j * 3, none⟩ = some (.int .i64 q.f) := key _ _ (flat_at Qs4 j _ HQ.out 0 (by omega))
                have k1 : W7.cell? ⟨rr, j * 3 + 1, none⟩ = some (.int .i64 q.t) := key _ _ (flat_at Qs4 j _ HQ.out 1 (by omega))
                have k2 : W7.cell? ⟨rr, j * 3 + 2, none⟩ = some (.slice q.A q.n q.c) := key _ _ (flat_at Qs4 j _ HQ.out 2 (by omega))
                have g4 : (j : Int) < (Qs4.length : Int) := by omega
                clear key hrt
                unfold maxLen at hrm
                have hv8 : Below w8.heap.size w8 (w8.alloc (.cells #[.int .i64 q.f, .int .i64 q.t, .slice x.A x.n x.c] 31)) := by (repeat' (first | (with_reducible exact Below.refl _ _) | (with_reducible assumption) | (with_reducible refine Below.alloc ?_ ?_ _) | (with_reducible refine bel_drewN ?_ _) | (with_reducible refine Below.drew ?_) | (with_reducible refine Below.setCell ?_ ?_ _) | (with_reducible refine bel_call ‹_› ?_ ?_) | go_size))
                have hb79 := hb78.trans (hv8.mono hz8)
                have HB9 := Lib.hid hb79
                have HX9 := be_box hb79 HX7.out
                have HXR9 := Lib.hid (HXR.out.below hv8)
                have HQR9 := Lib.hid ((HR7.out.pk q (List.mem_of_getElem? HQ.out)).1.below hb79)
                have z9 := heap_alloc_new w8 (.cells #[.int .i64 q.f, .int .i64 q.t, .slice x.A x.n x.c] 31)
                have hg9 : w8.heap.size < (w8.alloc (.cells #[.int .i64 q.f, .int .i64 q.t, .slice x.A x.n x.c] 31)).heap.size := by go_size
                have ht9 : w2.heap.size < (w8.alloc (.cells #[.int .i64 q.f, .int .i64 q.t, .slice x.A x.n x.c] 31)).heap.size := tyAt_lt (tyAt_cells HX9)
                have hr9 : rr < (w8.alloc (.cells #[.int .i64 q.f, .int .i64 q.t, .slice x.A x.n x.c] 31)).heap.size := Nat.lt_of_lt_of_le hrl hb79.size
                have l0 := (hb79.cell (p := ⟨rr, j * 3, none⟩) hrl).trans k0
                have l1 := (hb79.cell (p := ⟨rr, j * 3 + 1, none⟩) hrl).trans k1
                have l2 := (hb79.cell (p := ⟨rr, j * 3 + 2, none⟩) hrl).trans k2
                have hs9 : w1.heap.size ≤ (w8.alloc (.cells #[.int .i64 q.f, .int .i64 q.t, .slice x.A x.n x.c] 31)).heap.size := Nat.le_trans (Nat.le_of_lt hz2) (Nat.le_of_lt ht9)
                clear k0 k1 k2 hv8 hb79 hb78 HB78 hz8
                obtain ⟨g9, hg⟩ : ∃ g9, g9 = w8.heap.size := ⟨_, rfl⟩
                generalize (w8.alloc (.cells #[.int .i64 q.f, .int .i64 q.t, .slice x.A x.n x.c] 31)) = V9 at HB9 HX9 HXR9 HQR9 z9 hg9 ht9 hr9 l0 l1 l2 hs9 ⊢
                rw [← hg] at z9 hg9 ⊢
                clear hg
                obtain ⟨z0, z1, z2⟩ := cells3' z9
                obtain ⟨a0, a1, a2, a3, a4, af⟩ := cells5 HX9
                clear z9 HX9 a0 a2 a3 a4 af
                have k0 := l0
                have k1 := l1
                have k2 := l2
                clear l0 l1 l2
                go_region_held3 (fun w' => w'.cell? ⟨g9, 0, none⟩ = some (.int .i64 q.f) ∧ w'.cell? ⟨g9, 1, none⟩ = some (.int .i64 q.t) ∧ w'.cell? ⟨g9, 2, none⟩ = some (.slice x.A x.n x.c) ∧ w'.cell? ⟨w2.heap.size, 1, none⟩ = some (.slice (some ⟨rr, 0, none⟩) Qs4.length cap4) ∧ w'.cell? ⟨rr, j * 3, none⟩ = some (.int .i64 q.f) ∧ w'.cell? ⟨rr, j * 3 + 1, none⟩ = some (.int .i64 q.t) ∧ w'.cell? ⟨rr, j * 3 + 2, none⟩ = some (.slice q.A q.n q.c)) (exact ⟨(Below.cell (B := V9.heap.size) (w := V9) (p := ⟨g9, 0, none⟩) (by (repeat' (first | (with_reducible exact Below.refl _ _) | (with_reducible assumption) | (with_reducible refine Below.alloc ?_ ?_ _) | (with_reducible refine bel_drewN ?_ _) | (with_reducible refine Below.drew ?_) | (with_reducible refine Below.setCell ?_ ?_ _) | (with_reducible refine bel_call ‹_› ?_ ?_) | go_size))) hg9).trans z0, (Below.cell (B := V9.heap.size) (w := V9) (p := ⟨g9, 1, none⟩) (by (repeat' (first | (with_reducible exact Below.refl _ _) | (with_reducible assumption) | (with_reducible refine Below.alloc ?_ ?_ _) | (with_reducible refine bel_drewN ?_ _) | (with_reducible refine Below.drew ?_) | (with_reducible refine Below.setCell ?_ ?_ _) | (with_reducible refine bel_call ‹_› ?_ ?_) | go_size))) hg9).trans z1, (Below.cell (B := V9.heap.size) (w := V9) (p := ⟨g9, 2, none⟩) (by (repeat' (first | (with_reducible exact Below.refl _ _) | (with_reducible assumption) | (with_reducible refine Below.alloc ?_ ?_ _) | (with_reducible refine bel_drewN ?_ _) | (with_reducible refine Below.drew ?_) | (with_reducible refine Below.setCell ?_ ?_ _) | (with_reducible refine bel_call ‹_› ?_ ?_) | go_size))) hg9).trans z2, (Below.cell (B := V9.heap.size) (w := V9) (p := ⟨w2.heap.size, 1, none⟩) (by (repeat' (first | (with_reducible exact Below.refl _ _) | (with_reducible assumption) | (with_reducible refine Below.alloc ?_ ?_ _) | (with_reducible refine bel_drewN ?_ _) | (with_reducible refine Below.drew ?_) | (with_reducible refine Below.setCell ?_ ?_ _) | (with_reducible refine bel_call ‹_› ?_ ?_) | go_size))) ht9).trans a1, (Below.cell (B := V9.heap.size) (w := V9) (p := ⟨rr, j * 3, none⟩) (by (repeat' (first | (with_reducible exact Below.refl _ _) | (with_reducible assumption) | (with_reducible refine Below.alloc ?_ ?_ _) | (with_reducible refine bel_drewN ?_ _) | (with_reducible refine Below.drew ?_) | (with_reducible refine Below.setCell ?_ ?_ _) | (with_reducible refine bel_call ‹_› ?_ ?_) | go_size))) hr9).trans k0, (Below.cell (B := V9.heap.size) (w := V9) (p := ⟨rr, j * 3 + 1, none⟩) (by (repeat' (first | (with_reducible exact Below.refl _ _) | (with_reducible assumption) | (with_reducible refine Below.alloc ?_ ?_ _) | (with_reducible refine bel_drewN ?_ _) | (with_reducible refine Below.drew ?_) | (with_reducible refine Below.setCell ?_ ?_ _) | (with_reducible refine bel_call ‹_› ?_ ?_) | go_size))) hr9).trans k1, (Below.cell (B := V9.heap.size) (w := V9) (p := ⟨rr, j * 3 + 2, none⟩) (by (repeat' (first | (with_reducible exact Below.refl _ _) | (with_reducible assumption) | (with_reducible refine Below.alloc ?_ ?_ _) | (with_reducible refine bel_drewN ?_ _) | (with_reducible refine Below.drew ?_) | (with_reducible refine Below.setCell ?_ ?_ _) | (with_reducible refine bel_call ‹_› ?_ ?_) | go_size))) hr9).trans k2⟩) ((go_at_call 17; refine (same_yes w1.heap.size q.f q.t x.A x.n x.c q.A q.n q.c q.bs _ (HXR9.out.below (by (repeat' (first | (with_reducible exact Below.refl _ _) | (with_reducible assumption) | (with_reducible refine Below.alloc ?_ ?_ _) | (with_reducible refine bel_drewN ?_ _) | (with_reducible refine Below.drew ?_) | (with_reducible refine Below.setCell ?_ ?_ _) | (with_reducible refine bel_call ‹_› ?_ ?_) | go_size)))) (HQR9.out.below (by (repeat' (first | (with_reducible exact Below.refl _ _) | (with_reducible assumption) | (with_reducible refine Below.alloc ?_ ?_ _) | (with_reducible refine bel_drewN ?_ _) | (with_reducible refine Below.drew ?_) | (with_reducible refine Below.setCell ?_ ?_ _) | (with_reducible refine bel_call ‹_› ?_ ?_) | go_size))))).mono ?_; rintro e w9 ⟨rfl, hb9⟩; have hb99 : Below V9.heap.size V9 w9 := (by (repeat' (first | (with_reducible exact Below.refl _ _) | (with_reducible assumption) | (with_reducible refine Below.alloc ?_ ?_ _) | (with_reducible refine bel_drewN ?_ _) | (with_reducible refine Below.drew ?_) | (with_reducible refine Below.setCell ?_ ?_ _) | (with_reducible refine bel_call ‹_› ?_ ?_) | go_size))); have hz99 := hb99.size))
                all_goals
                  go_wp2_with fail
                  go_roundw
                  case rel => exact ⟨j + 1, by go_num, by omega, HB9.out.trans (Below.mono (by (repeat' (first | (with_reducible exact Below.refl _ _) | (with_reducible assumption) | (with_reducible refine Below.alloc ?_ ?_ _) | (with_reducible refine bel_drewN ?_ _) | (with_reducible refine Below.drew ?_) | (with_reducible refine Below.setCell ?_ ?_ _) | (with_reducible refine bel_call ‹_› ?_ ?_) | go_size))) HB9.out.size)⟩
                  case measure => simp [intOf]; omega
              · go_wp2_with fail
                go_roundw
                case rel => exact ⟨k + 1, _, Ps4, Qs4, s4, l4, c4, A4, cap4, by go_num, by omega, by omega, HN7.out.below hbj, HR7.out.below hbj, HK4.out, HXJ.out, hP4, by omega, by omega, by omega, by omega, by omega, by omega, HB7.trans (hbj.mono HB7.size), hSj⟩
                case measure => simp [intOf]; omega
      · rcases (show (¬ k < len) ∨ (k < len ∧ ¬ k < 60) by omega) with hex | ⟨hex1, hex2⟩
        all_goals
          have t0 := hb.size
          obtain ⟨x0, x1, x2, x3, x4, xf⟩ := cells5 hbox
          clear hbox
          go_wp2_with fail
          refine (at_miss w1.heap.size w1.heap.size M s l c v Ps Qs.length (by omega) (by omega) wr hz HN.out).mono ?_
          rintro e w3 ⟨rfl, hb3⟩
          have c3 : Below w.heap.size w w3 := Below.trans (b := _) (by (repeat' (first | (with_reducible exact Below.refl _ _) | (with_reducible assumption) | (with_reducible refine Below.alloc ?_ ?_ _) | (with_reducible refine bel_drewN ?_ _) | (with_reducible refine Below.drew ?_) | (with_reducible refine Below.setCell ?_ ?_ _) | (with_reducible refine bel_call ‹_› ?_ ?_) | go_size))) (hb3.mono (by go_size))
          have t3 := c3.size
          clear hb3
          clear x0 x1 x2 x3 x4 xf
          go_wp2_with fail
          refine (take_none 0 _).mono ?_
          rintro e w4 ⟨rfl, hb4⟩
          have c4 : Below w.heap.size w w4 := Below.trans (b := _) (by (repeat' (first | (with_reducible exact Below.refl _ _) | (with_reducible assumption) | (with_reducible refine Below.alloc ?_ ?_ _) | (with_reducible refine bel_drewN ?_ _) | (with_reducible refine Below.drew ?_) | (with_reducible refine Below.setCell ?_ ?_ _) | (with_reducible refine bel_call ‹_› ?_ ?_) | go_size))) (hb4.mono (by go_size))
          have t4 := c4.size
          clear hb4
          go_wp2_with fail
          refine (at_none 0 _).mono ?_
          rintro e w5 ⟨rfl, hb5⟩
          have c5 : Below w.heap.size w w5 := Below.trans (b := _) (by (repeat' (first | (with_reducible exact Below.refl _ _) | (with_reducible assumption) | (with_reducible refine Below.alloc ?_ ?_ _) | (with_reducible refine bel_drewN ?_ _) | (with_reducible refine Below.drew ?_) | (with_reducible refine Below.setCell ?_ ?_ _) | (with_reducible refine bel_call ‹_› ?_ ?_) | go_size))) (hb5.mono (by go_size))
          have t5 := c5.size
          clear hb5
          go_wp2_with fail
          refine (send_none 0 0 none 0 0 _).mono ?_
          rintro e w6 ⟨rfl, hb6⟩
          have c6 : Below w.heap.size w w6 := Below.trans (b := _) (by (repeat' (first | (with_reducible exact Below.refl _ _) | (with_reducible assumption) | (with_reducible refine Below.alloc ?_ ?_ _) | (with_reducible refine bel_drewN ?_ _) | (with_reducible refine Below.drew ?_) | (with_reducible refine Below.setCell ?_ ?_ _) | (with_reducible refine bel_call ‹_› ?_ ?_) | go_size))) (hb6.mono (by go_size))
          have t6 := c6.size
          clear hb6
          go_wp2_with fail
          refine (drop_none 0 _).mono ?_
          rintro e w7 ⟨rfl, rfl⟩
          go_wp2_with fail
          refine (twice_none 0 _).mono ?_
          rintro e w8 ⟨rfl, hb8⟩
          have c8 : Below w.heap.size w w8 := Below.trans (b := _) (by (repeat' (first | (with_reducible exact Below.refl _ _) | (with_reducible assumption) | (with_reducible refine Below.alloc ?_ ?_ _) | (with_reducible refine bel_drewN ?_ _) | (with_reducible refine Below.drew ?_) | (with_reducible refine Below.setCell ?_ ?_ _) | (with_reducible refine bel_call ‹_› ?_ ?_) | go_size))) (hb8.mono (by go_size))
          have t8 := c8.size
          clear hb8
          go_wp2_with fail
          refine (spoil_none 0 0 1 _).mono ?_
          rintro e w9 ⟨rfl, rfl⟩
          go_wp2_with fail
          refine (len_none _).mono ?_
          rintro e w10 ⟨rfl, rfl⟩
          go_wp2_with fail
          refine (awake_any _).mono ?_
          rintro e w11 ⟨rfl, hb11⟩
          have c11 : Below w.heap.size w w11 := Below.trans (b := _) (by (repeat' (first | (with_reducible exact Below.refl _ _) | (with_reducible assumption) | (with_reducible refine Below.alloc ?_ ?_ _) | (with_reducible refine bel_drewN ?_ _) | (with_reducible refine Below.drew ?_) | (with_reducible refine Below.setCell ?_ ?_ _) | (with_reducible refine bel_call ‹_› ?_ ?_) | go_size))) (hb11.mono (by go_size))
          have t11 := c11.size
          clear hb11
          go_wp2_with fail
          go_ret
          exact ⟨rfl, by (repeat' (first | (with_reducible exact Below.refl _ _) | (with_reducible assumption) | (with_reducible refine Below.alloc ?_ ?_ _) | (with_reducible refine bel_drewN ?_ _) | (with_reducible refine Below.drew ?_) | (with_reducible refine Below.setCell ?_ ?_ _) | (with_reducible refine bel_call ‹_› ?_ ?_) | go_size))⟩
end Go.Proofs.Ytoeenaionamhiaa
