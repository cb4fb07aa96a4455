/- Contracts of quadrilleref01.Less and Minus. -/
import Derived.Test.YtpggidkcifnhjaaDoorRefB
set_option linter.unusedSimpArgs false
set_option linter.unusedVariables false

namespace Go.Proofs.YtpggidkcifnhjaaDoor
open Go.RowKit

def ltN (a b : Nat) : Bool := decide (a < b)

theorem ltN_len {a b : Nat} (h : (digs a).length ≠ (digs b).length) : ltN a b = decide ((digs a).length < (digs b).length) := by
  unfold ltN
  rw [Bool.eq_iff_iff]
  simp only [decide_eq_true_eq]
  constructor
  · intro hab
    rcases Nat.lt_or_ge (digs a).length (digs b).length with h1 | h1
    · exact h1
    · have := digs_len_lt (a := b) (b := a) (by omega)
      omega
  · exact digs_len_lt

theorem ltN_at {a b k x y : Nat} (hl : (digs a).length = (digs b).length) (hd : (digs a).drop (k + 1) = (digs b).drop (k + 1)) (hx : nth (digs a) k = x) (hy : nth (digs b) k = y) (hne : x ≠ y) : ltN a b = decide (x < y) := by
  unfold ltN
  rw [Bool.eq_iff_iff]
  simp only [decide_eq_true_eq]
  have e1 := dval_digs a
  have e2 := dval_digs b
  constructor
  · intro hab
    rcases Nat.lt_or_ge x y with h1 | h1
    · exact h1
    · have := dval_less (digs b) (digs a) k (digs_lt b) (digs_lt a) hl.symm hd.symm (by simp only [nth] at hx hy; omega)
      omega
  · intro h
    have := dval_less (digs a) (digs b) k (digs_lt a) (digs_lt b) hl hd (by simp only [nth] at hx hy; omega)
    omega

theorem drop_step {A B : List Nat} {k : Nat} (hl : A.length = B.length) (hk : k < A.length) (hd : A.drop (k + 1) = B.drop (k + 1)) (h : nth A k = nth B k) : A.drop k = B.drop k := by
  rw [List.drop_eq_getElem_cons hk, List.drop_eq_getElem_cons (by omega : k < B.length), hd]
  congr 1
  simpa [nth, List.getD, List.getElem?_eq_getElem hk, List.getElem?_eq_getElem (by omega : k < B.length)] using h

set_option maxRecDepth 100000 in
set_option maxHeartbeats 2000000 in
theorem less_any (p : Option Addr) (n cap : Nat) (a : Nat) (q : Option Addr) (m cap2 : Nat) (b : Nat) (hn : n ≤ 1000) (hm : m ≤ 1000) (w : World) (hA : RdN w p n cap (digs a)) (hB : RdN w q m cap2 (digs b)) :
    Calls Tryd.prog 55 #[.slice p n cap, .slice q m cap2] w fun e w' => e = .returned (.bool (ltN a b)) ∧ Below w.heap.size w w' := by
  obtain ⟨a1, a2, a3, a4, a5⟩ := hA
  obtain ⟨b1, b2, b3, b4, b5⟩ := hB
  have hA1 := Lib.hid a1
  have hB1 := Lib.hid b1
  clear a1 a4 b1 b4
  unfold maxLen at a3 b3
  by_cases hnm : n = m
  · subst hnm
    by_cases hn0 : n = 0
    · subst hn0
      have e : ltN a b = false := by
        have x1 : a = 0 := digs_nil.1 (List.eq_nil_of_length_eq_zero hA1.out)
        have x2 : b = 0 := digs_nil.1 (List.eq_nil_of_length_eq_zero hB1.out)
        subst x1 x2
        rfl
      have E := Lib.hid e
      clear e a5 b5
      go_enter Tryd.func55, Tryd.ntmps55
      go_wp2
      go_loop [5] (fun v5 => v5 = .int .i64 (-1)) (fun _ => 0)
      case atStart => rfl
      case round =>
        subst hrel
        go_wp2
        go_ret
        exact ⟨by rw [E.out]; rfl, Below.refl _ _⟩
    · rcases a5 with ⟨_, a5, _⟩ | ⟨ba, oa, rfl, ha, hca⟩
      · omega
      · rcases b5 with ⟨_, b5, _⟩ | ⟨bb, ob, rfl, hb, hcb⟩
        · omega
        · have HCA := Lib.hid hca
          have HCB := Lib.hid hcb
          clear hca hcb
          go_enter Tryd.func55, Tryd.ntmps55
          go_wp2
          go_loopw [5] (fun v5 wr => ∃ k : Nat, k ≤ n ∧ v5 = .int .i64 ((k : Int) - 1) ∧ (digs a).drop k = (digs b).drop k ∧ Below w.heap.size w wr) (fun v5 _ => (intOf v5 + 1).toNat)
          case atStart => exact ⟨n, Nat.le_refl _, rfl, by rw [List.drop_of_length_le (by have := hA1.out; omega), List.drop_of_length_le (by have := hB1.out; omega)], Below.refl _ _⟩
          case round =>
            obtain ⟨k, hk, rfl, hd, hbel⟩ := hrel
            have HD := Lib.hid hd
            clear hd
            by_cases hk0 : k = 0
            · subst hk0
              have e : ltN a b = false := by
                have h1 := congrArg dval HD.out
                simp only [List.drop_zero, dval_digs] at h1
                subst h1
                simp [ltN]
              have E := Lib.hid e
              clear e
              go_wp2
              go_ret
              exact ⟨by rw [E.out]; rfl, hbel⟩
            · obtain ⟨j, rfl⟩ : ∃ j, k = j + 1 := ⟨k - 1, by omega⟩
              have hj1 : ((j + 1 : Nat) : Int) - 1 = (j : Int) := by omega
              rw [hj1]
              clear hj1 hk0
              have hj : (j : Int) < (n : Int) := by omega
              have hj0 : (0 : Int) ≤ (j : Int) := by omega
              obtain ⟨x, hx⟩ : ∃ x, nth (digs a) j = x := ⟨_, rfl⟩
              obtain ⟨y, hy⟩ : ∃ y, nth (digs b) j = y := ⟨_, rfl⟩
              have c1 : wr.cell? ⟨ba, oa + j, none⟩ = some (.int .u8 (x : Int)) := by rw [hbel.cell (by exact ha), HCA.out j (by omega), hx]
              have c2 : wr.cell? ⟨bb, ob + j, none⟩ = some (.int .u8 (y : Int)) := by rw [hbel.cell (by exact hb), HCB.out j (by omega), hy]
              have HX := Lib.hid hx
              have HY := Lib.hid hy
              clear hx hy
              by_cases hxy : x = y
              · have t1 : (((x : Nat) : Int) != (y : Int)) = false := by simp [hxy]
                have HXY := Lib.hid hxy
                clear hxy
                go_wp2
                go_quiet (fail)
                go_wp2
                go_roundw
                case rel => exact ⟨j, by omega, rfl, drop_step (by rw [hA1.out, hB1.out]) (by rw [hA1.out]; omega) HD.out (by rw [HX.out, HY.out, HXY.out]), bel_drewN hbel _⟩
                case measure => simp [intOf]
              · have t1 : (((x : Nat) : Int) != (y : Int)) = true := by rw [bne_iff_ne]; omega
                have E : Hid (ltN a b = decide (x < y)) := ltN_at (by rw [hA1.out, hB1.out]) HD.out HX.out HY.out hxy
                clear hxy
                go_wp2
                go_quiet (fail)
                go_wp2
                go_quiet (fail)
                go_wp2
                go_ret
                refine ⟨?_, bel_drewN (bel_drewN hbel _) _⟩
                rw [E.out]
                simp
  · have t1 : (((n : Nat) : Int) != (m : Int)) = true := by rw [bne_iff_ne]; omega
    have E : Hid (ltN a b = decide (n < m)) := by
      unfold Hid
      rw [ltN_len (by rw [hA1.out, hB1.out]; exact hnm), hA1.out, hB1.out]
    clear a5 b5 hnm
    go_enter Tryd.func55, Tryd.ntmps55
    go_wp2
    go_ret
    refine ⟨?_, Below.refl _ _⟩
    rw [E.out]
    simp

theorem minus_step {p x y c r c' X Y D : Nat} (h : X + p * c = D + Y) (h2 : x + 10 * c' = r + y + c) : X + p * x + p * 10 * c' = D + p * r + (Y + p * y) := by
  have h3 : p * (x + 10 * c') = p * (r + y + c) := by rw [h2]
  simp only [Nat.mul_add] at h3
  rw [Nat.mul_assoc]
  omega

end Go.Proofs.YtpggidkcifnhjaaDoor
