/- Contract of quadrilleref01.Sum. Contract of quadrilleref01.To. Contracts of package dec: part, sign, Add, Sub, Neg. Contracts of package dec: unit, read. -/
import Derived.Test.YtigmcoelkkihkaaGreatDoorPwF
import Derived.Test.YtigmcoelkkihkaaGreatDoorShelf
import Derived.Lib.ConvBytes
set_option linter.unusedSimpArgs false
set_option linter.unusedVariables false
namespace Go.Proofs.YtigmcoelkkihkaaGreatDoor
open Go.RowKit
attribute [local go_sem ↓] Go.wp_at_zero Go.wp_at_succ

/-- The sign and the size of a sum. -/
def sumM (ma : Bool) (a : Nat) (mb : Bool) (b : Nat) : Bool := if ma = mb then ma else if a < b then mb else ma
def sumN (ma : Bool) (a : Nat) (mb : Bool) (b : Nat) : Nat := if ma = mb then a + b else if a < b then b - a else a - b

end Go.Proofs.YtigmcoelkkihkaaGreatDoor
namespace Go.Proofs.YtigmcoelkkihkaaGreatDoor
open Go.RowKit

def M63 : Nat := 9223372036854775808
/-- Is a number with a sign too great for an int64? -/
def toBad (mi : Bool) (x : Nat) : Bool := decide (M63 < x) || (!mi && !decide (x < M63))
def toV (mi : Bool) (x : Nat) : Int := if toBad mi x then 0 else if mi then -(x : Int) else (x : Int)
def toE (mi : Bool) (x : Nat) : Int := if toBad mi x then 31 else 0

theorem from_most (w : World) : Calls Tryz.prog 78 #[.int .i64 (-9223372036854775808)] w (RetI true M63 w) := by
  have h := from_any (-9223372036854775808) (by omega) (by omega) w
  have e1 : decide ((-9223372036854775808 : Int) < 0) = true := by decide
  have e2 : (-9223372036854775808 : Int).natAbs = M63 := rfl
  rw [e1, e2] at h
  exact h

theorem field_N (m : Bool) (p : Option Addr) (n c : Nat) (w : World) : (Instr.field 115 (.agg #[.bool m, .slice p n c]) 1).run Tryz.prog w = .ok (.slice p n c) w := by kernel_rfl
theorem dval_drop_le (L : List Nat) (k : Nat) : dval (L.drop k) ≤ dval L := by
  rcases take_le L k with h | h
  · have h1 : dval (L.drop k) ≤ 10 ^ k * dval (L.drop k) := Nat.le_mul_of_pos_left _ (Nat.pow_pos (by omega))
    omega
  · rw [List.drop_of_length_le (by omega)]
    exact Nat.zero_le _

set_option maxRecDepth 100000 in
set_option maxHeartbeats 2000000 in
theorem to_wide (mi : Bool) (p : Option Addr) (n cap : Nat) (x : Nat) (hn : n ≤ 1000) (w : World) (hA : RdN w p n cap (digs x)) :
    Calls Tryz.prog 84 #[.agg #[.bool mi, .slice p n cap]] w fun e w' => e = .returned (.tuple #[.int .i64 (toV mi x), .int .i64 (toE mi x)]) ∧ Below w.heap.size w w' := by
  have HA := Lib.hid hA
  have hcA := hA.max
  have hlA := hA.le
  unfold maxLen at hcA
  obtain ⟨a1, a2, a3, a4, a5⟩ := hA
  obtain ⟨ba, oa, hp, hca⟩ : ∃ ba oa, (n = 0 ∨ p = some ⟨ba, oa, none⟩) ∧ (0 < n → ba < w.heap.size) ∧ ∀ j, j < n → w.cell? ⟨ba, oa + j, none⟩ = some (.int .u8 (nth (digs x) j : Int)) := by
    rcases a5 with ⟨_, h, _⟩ | ⟨ba, oa, h1, h2, h3⟩
    · exact ⟨0, 0, .inl h, (fun h' => by omega), fun j hj => by omega⟩
    · exact ⟨ba, oa, .inr h1, (fun _ => h2), h3⟩
  have HP := Lib.hid hp
  have HCA := Lib.hid hca
  clear hp hca a1 a2 a3 a4 a5
  go_enter Tryz.func84, Tryz.ntmps84
  go_wp2_with fail
  refine (from_most _).mono ?_
  rintro e w1 ⟨p1, n1, c1, rfl, h1, hb1⟩
  have hn1 : n1 ≤ 20 := by rw [← h1.len]; exact digs_length_le (by unfold M63; omega)
  obtain ⟨hc1, hf1, hz1⟩ := bcell hb1 (by first | (simp only [World.size_alloc, World.size_setCell, World.size_drew]; rfl) | rfl)
  have hbw1 : Below w.heap.size w w1 := by (repeat' (first | (with_reducible exact Below.refl _ _) | (with_reducible assumption) | (with_reducible refine Below.alloc ?_ ?_ _) | (with_reducible refine bel_drewN ?_ _) | (with_reducible refine Below.drew ?_) | (with_reducible refine Below.setCell ?_ ?_ _) | (with_reducible refine bel_call ‹_› ?_ ?_) | go_size))
  have H1 := Lib.hid h1
  have HA1 := Lib.hid (HA.out.below hbw1)
  clear h1
  have hfl := field_N true p1 n1 c1 w1
  cases hg1 : decide (M63 < x)
  · have hl1 : ltN M63 x = false := hg1
    by_cases hok : mi = true ∨ x < M63
    · -- it fits
      have hbad : toBad mi x = false := by
        unfold toBad
        rw [hg1]
        rcases hok with h | h
        · simp [h]
        · simp [h]
      have ev : Hid (toV mi x = if mi then -(x : Int) else (x : Int)) := by unfold Hid toV; simp [hbad]
      have ee : Hid (toE mi x = 0) := by unfold Hid toE; simp [hbad]
      have hxle : Hid (x ≤ M63 ∧ (mi = false → x < M63)) := by
        unfold Hid
        refine ⟨by simpa using hg1, fun h => ?_⟩
        rcases hok with h' | h'
        · rw [h] at h'; cases h'
        · exact h'
      have hl2 : mi = false → ltN x M63 = true := fun h => by
        rcases hok with h' | h'
        · rw [h] at h'; cases h'
        · simp [ltN, h']
      clear hok hg1 hbad
      cases mi
      · have hl2' := hl2 rfl
        clear hl2
        go_wp2_with fail
        refine (less_any p1 n1 c1 M63 p n cap x (by omega) (by omega) _ H1.out HA1.out).mono ?_
        rintro e w2 ⟨rfl, hb2⟩
        obtain ⟨hc2, hf2, hz2⟩ := bcell hb2 (by first | (simp only [World.size_alloc, World.size_setCell, World.size_drew]; rfl) | rfl)
        go_wp2_with fail
        refine (less_any p n cap x p1 n1 c1 M63 (by omega) (by omega) _ (HA1.out.below hb2) (H1.out.below hb2)).mono ?_
        rintro e w3 ⟨rfl, hb3⟩
        obtain ⟨hc3, hf3, hz3⟩ := bcell hb3 (by first | (simp only [World.size_alloc, World.size_setCell, World.size_drew]; rfl) | rfl)
        have hbz : Below w.heap.size w w3 := by (repeat' (first | (with_reducible exact Below.refl _ _) | (with_reducible assumption) | (with_reducible refine Below.alloc ?_ ?_ _) | (with_reducible refine bel_drewN ?_ _) | (with_reducible refine Below.drew ?_) | (with_reducible refine Below.setCell ?_ ?_ _) | (with_reducible refine bel_call ‹_› ?_ ?_) | go_size))
        have cm : w3.cell? ⟨w.heap.size, 0, none⟩ = some (.bool false) := by go_simp
        have cs : w3.cell? ⟨w.heap.size, 1, none⟩ = some (.slice p n cap) := by go_simp
        go_wp2_with fail
        go_loopg [4, 6] n (fun g v4 v6 wr => wr = w3 ∧ ∃ z : Int, g ≤ n ∧ v6 = .int .i64 ((g : Int) - 1) ∧ v4 = .int .i64 z ∧ z = ((dval ((digs x).drop g) : Nat) : Int))
        case atStart => exact ⟨rfl, 0, Nat.le_refl _, rfl, rfl, by rw [List.drop_of_length_le (by have := HA.out.len; omega)]; rfl⟩
        case round =>
          obtain ⟨rfl, z, hg, rfl, rfl, hz⟩ := hrel
          have HZ := Lib.hid hz
          clear hz
          by_cases hk0 : gk = 0
          · subst hk0
            have ez : Hid (z = toV false x) := by
              unfold Hid
              rw [ev.out, HZ.out]
              simp [dval_digs]
            clear cm cs
            go_wp2_with fail
            go_ret2
            exact ⟨by rw [ee.out, ← ez.out]; rfl, hbz⟩
          · obtain ⟨j, rfl⟩ : ∃ j, gk = j + 1 := ⟨gk - 1, by omega⟩
            have hj1 : ((j + 1 : Nat) : Int) - 1 = (j : Int) := by omega
            rw [hj1]
            clear hj1 hk0
            obtain rfl : p = some ⟨ba, oa, none⟩ := by
              rcases HP.out with h | h
              · omega
              · exact h
            obtain ⟨y, hy⟩ : ∃ y, nth (digs x) j = y := ⟨_, rfl⟩
            have hy10 : y < 10 := by rw [← hy]; exact nth_lt (digs_lt x) j
            have cy : wr.cell? ⟨ba, oa + j, none⟩ = some (.int .u8 (y : Int)) := by
              rw [hbz.cell (by exact HCA.out.1 (by omega)), HCA.out.2 j (by omega), hy]
            have hdr : dval ((digs x).drop j) = y + 10 * dval ((digs x).drop (j + 1)) := by
              rw [dval_drop (digs x) j (by rw [HA.out.len]; omega), show (digs x).getD j 0 = y from hy]
            have hle := dval_drop_le (digs x) j
            rw [dval_digs] at hle
            have HW : Hid (IntKind.i64.wrap (z * 10) = z * 10 ∧ IntKind.i64.wrap (z * 10 + (y : Int)) = z * 10 + (y : Int)) := by
              unfold Hid
              have h1 := hxle.out
              have h2 := HZ.out
              unfold M63 at h1
              have h3 := h1.2
              exact ⟨IntWalk.i64_in _ (by first | (have := h3 rfl; omega) | (have := h3 trivial; omega) | omega), IntWalk.i64_in _ (by first | (have := h3 rfl; omega) | (have := h3 trivial; omega) | omega)⟩
            have e1 := HW.out.1
            have e2 := HW.out.2
            have HD := Lib.hid hdr
            clear hy hdr hle HW
            have hjn : (j : Int) < (n : Int) := by omega
            have hj0 : (0 : Int) ≤ (j : Int) := by omega
            go_wp2
            go_roundg j
            case measure => omega
            case rel => exact ⟨rfl, z * 10 + (y : Int), by omega, by go_num, rfl, by rw [HD.out, HZ.out]; omega⟩
      · clear hl2
        go_wp2_with fail
        refine (less_any p1 n1 c1 M63 p n cap x (by omega) (by omega) _ H1.out HA1.out).mono ?_
        rintro e w2 ⟨rfl, hb2⟩
        obtain ⟨hc2, hf2, hz2⟩ := bcell hb2 (by first | (simp only [World.size_alloc, World.size_setCell, World.size_drew]; rfl) | rfl)
        have hbz : Below w.heap.size w w2 := by (repeat' (first | (with_reducible exact Below.refl _ _) | (with_reducible assumption) | (with_reducible refine Below.alloc ?_ ?_ _) | (with_reducible refine bel_drewN ?_ _) | (with_reducible refine Below.drew ?_) | (with_reducible refine Below.setCell ?_ ?_ _) | (with_reducible refine bel_call ‹_› ?_ ?_) | go_size))
        have cm : w2.cell? ⟨w.heap.size, 0, none⟩ = some (.bool true) := by go_simp
        have cs : w2.cell? ⟨w.heap.size, 1, none⟩ = some (.slice p n cap) := by go_simp
        go_wp2_with fail
        go_loopg [4, 6] n (fun g v4 v6 wr => wr = w2 ∧ ∃ z : Int, g ≤ n ∧ v6 = .int .i64 ((g : Int) - 1) ∧ v4 = .int .i64 z ∧ z = -((dval ((digs x).drop g) : Nat) : Int))
        case atStart => exact ⟨rfl, 0, Nat.le_refl _, rfl, rfl, by rw [List.drop_of_length_le (by have := HA.out.len; omega)]; rfl⟩
        case round =>
          obtain ⟨rfl, z, hg, rfl, rfl, hz⟩ := hrel
          have HZ := Lib.hid hz
          clear hz
          by_cases hk0 : gk = 0
          · subst hk0
            have ez : Hid (z = toV true x) := by
              unfold Hid
              rw [ev.out, HZ.out]
              simp [dval_digs]
            clear cm cs
            go_wp2_with fail
            go_ret2
            exact ⟨by rw [ee.out, ← ez.out]; rfl, hbz⟩
          · obtain ⟨j, rfl⟩ : ∃ j, gk = j + 1 := ⟨gk - 1, by omega⟩
            have hj1 : ((j + 1 : Nat) : Int) - 1 = (j : Int) := by omega
            rw [hj1]
            clear hj1 hk0
            obtain rfl : p = some ⟨ba, oa, none⟩ := by
              rcases HP.out with h | h
              · omega
              · exact h
            obtain ⟨y, hy⟩ : ∃ y, nth (digs x) j = y := ⟨_, rfl⟩
            have hy10 : y < 10 := by rw [← hy]; exact nth_lt (digs_lt x) j
            have cy : wr.cell? ⟨ba, oa + j, none⟩ = some (.int .u8 (y : Int)) := by
              rw [hbz.cell (by exact HCA.out.1 (by omega)), HCA.out.2 j (by omega), hy]
            have hdr : dval ((digs x).drop j) = y + 10 * dval ((digs x).drop (j + 1)) := by
              rw [dval_drop (digs x) j (by rw [HA.out.len]; omega), show (digs x).getD j 0 = y from hy]
            have hle := dval_drop_le (digs x) j
            rw [dval_digs] at hle
            have HW : Hid (IntKind.i64.wrap (z * 10) = z * 10 ∧ IntKind.i64.wrap (z * 10 - (y : Int)) = z * 10 - (y : Int)) := by
              unfold Hid
              have h1 := hxle.out
              have h2 := HZ.out
              unfold M63 at h1
              have h3 := h1.2
              exact ⟨IntWalk.i64_in _ (by first | (have := h3 rfl; omega) | (have := h3 trivial; omega) | omega), IntWalk.i64_in _ (by first | (have := h3 rfl; omega) | (have := h3 trivial; omega) | omega)⟩
            have e1 := HW.out.1
            have e2 := HW.out.2
            have HD := Lib.hid hdr
            clear hy hdr hle HW
            have hjn : (j : Int) < (n : Int) := by omega
            have hj0 : (0 : Int) ≤ (j : Int) := by omega
            go_wp2
            go_roundg j
            case measure => omega
            case rel => exact ⟨rfl, z * 10 - (y : Int), by omega, by go_num, rfl, by rw [HD.out, HZ.out]; omega⟩
    · have hmi : mi = false := by cases mi <;> simp_all
      subst hmi
      have hx2 : ¬ x < M63 := by simp at hok; omega
      have hl2 : ltN x M63 = false := by simp [ltN, hx2]
      have ev : Hid (toV false x = 0) := by unfold Hid toV toBad; simp [hx2]
      have ee : Hid (toE false x = 31) := by unfold Hid toE toBad; simp [hx2]
      clear hok hg1 hx2
      go_wp2_with fail
      refine (less_any p1 n1 c1 M63 p n cap x (by omega) (by omega) _ H1.out HA1.out).mono ?_
      rintro e w2 ⟨rfl, hb2⟩
      obtain ⟨hc2, hf2, hz2⟩ := bcell hb2 (by first | (simp only [World.size_alloc, World.size_setCell, World.size_drew]; rfl) | rfl)
      go_wp2_with fail
      refine (less_any p n cap x p1 n1 c1 M63 (by omega) (by omega) _ (HA1.out.below hb2) (H1.out.below hb2)).mono ?_
      rintro e w3 ⟨rfl, hb3⟩
      go_wp2_with fail
      go_ret2
      exact ⟨by rw [ev.out, ee.out]; rfl, by (repeat' (first | (with_reducible exact Below.refl _ _) | (with_reducible assumption) | (with_reducible refine Below.alloc ?_ ?_ _) | (with_reducible refine bel_drewN ?_ _) | (with_reducible refine Below.drew ?_) | (with_reducible refine Below.setCell ?_ ?_ _) | (with_reducible refine bel_call ‹_› ?_ ?_) | go_size))⟩
  · have hl1 : ltN M63 x = true := hg1
    have hM : M63 < x := by simpa using hg1
    have ev : Hid (toV mi x = 0) := by unfold Hid toV toBad; simp [hM]
    have ee : Hid (toE mi x = 31) := by unfold Hid toE toBad; simp [hM]
    clear hg1 hM
    go_wp2_with fail
    refine (less_any p1 n1 c1 M63 p n cap x (by omega) (by omega) _ H1.out HA1.out).mono ?_
    rintro e w2 ⟨rfl, hb2⟩
    go_wp2_with fail
    go_ret2
    exact ⟨by rw [ev.out, ee.out]; rfl, by (repeat' (first | (with_reducible exact Below.refl _ _) | (with_reducible assumption) | (with_reducible refine Below.alloc ?_ ?_ _) | (with_reducible refine bel_drewN ?_ _) | (with_reducible refine Below.drew ?_) | (with_reducible refine Below.setCell ?_ ?_ _) | (with_reducible refine bel_call ‹_› ?_ ?_) | go_size))⟩
theorem to_any (mi : Bool) (p : Option Addr) (n cap : Nat) (x : Nat) (hn : n ≤ 200) (w : World) (hA : RdN w p n cap (digs x)) :
    Calls Tryz.prog 84 #[.agg #[.bool mi, .slice p n cap]] w fun e w' => e = .returned (.tuple #[.int .i64 (toV mi x), .int .i64 (toE mi x)]) ∧ Below w.heap.size w w' := to_wide mi p n cap x (by omega) w hA
end Go.Proofs.YtigmcoelkkihkaaGreatDoor
namespace Go.Proofs.YtigmcoelkkihkaaGreatDoor
open Go.RowKit

/-- A number with a sign, as an integer. -/
def sv (mi : Bool) (x : Nat) : Int := if mi then -(x : Int) else (x : Int)
/-- Is it an int64? -/
def inR (z : Int) : Bool := decide (-9223372036854775808 ≤ z) && decide (z ≤ 9223372036854775807)
/-- The number, or nothing and the error. -/
def okV (z : Int) : Int := if inR z then z else 0
def okE (z : Int) : Int := if inR z then 0 else 31

theorem inR_yes {z : Int} (h1 : -9223372036854775808 ≤ z) (h2 : z ≤ 9223372036854775807) : inR z = true := by simp [inR, h1, h2]
theorem inR_no {z : Int} (h : z < -9223372036854775808 ∨ 9223372036854775807 < z) : inR z = false := by
  unfold inR
  rcases h with h | h
  · rw [decide_eq_false (by omega)]; rfl
  · rw [decide_eq_false (by omega : ¬ z ≤ 9223372036854775807)]; simp
theorem okV_yes {z : Int} (h1 : -9223372036854775808 ≤ z) (h2 : z ≤ 9223372036854775807) : okV z = z := by simp [okV, inR_yes h1 h2]
theorem okE_yes {z : Int} (h1 : -9223372036854775808 ≤ z) (h2 : z ≤ 9223372036854775807) : okE z = 0 := by simp [okE, inR_yes h1 h2]
theorem okV_no {z : Int} (h : z < -9223372036854775808 ∨ 9223372036854775807 < z) : okV z = 0 := by simp [okV, inR_no h]
theorem okE_no {z : Int} (h : z < -9223372036854775808 ∨ 9223372036854775807 < z) : okE z = 31 := by simp [okE, inR_no h]

theorem toBad_is (mi : Bool) (x : Nat) : toBad mi x = !inR (sv mi x) := by
  unfold toBad inR sv M63
  cases mi
  · simp only [Bool.not_false, Bool.true_and, Bool.false_eq_true, if_false]
    rw [Bool.eq_iff_iff]
    simp
    omega
  · simp only [Bool.not_true, Bool.false_and, Bool.or_false, if_true]
    rw [Bool.eq_iff_iff]
    simp
    omega
theorem toV_is (mi : Bool) (x : Nat) : toV mi x = okV (sv mi x) := by
  unfold toV okV
  rw [toBad_is]
  cases inR (sv mi x) <;> simp [sv]
theorem toE_is (mi : Bool) (x : Nat) : toE mi x = okE (sv mi x) := by
  unfold toE okE
  rw [toBad_is]
  cases inR (sv mi x) <;> simp

/-- Two results. -/
def Ret2 (v e : Int) (w : World) (en : Ending) (w' : World) : Prop := en = .returned (.tuple #[.int .i64 v, .int .i64 e]) ∧ Below w.heap.size w w'

set_option maxRecDepth 100000 in
set_option maxHeartbeats 1000000 in
theorem part_any (d : Int) (hlo : -9223372036854775808 ≤ d) (hhi : d ≤ 9223372036854775807) (w : World) :
    Calls Tryz.prog 89 #[.int .i64 d] w fun e w' => e = .returned (.int .u64 (d.natAbs : Int)) ∧ w = w' := by
  by_cases h0 : d < 0
  · obtain ⟨u, hu⟩ : ∃ u, IntKind.u64.wrap d = u := ⟨_, rfl⟩
    have e2 : IntKind.u64.wrap (-u) = (d.natAbs : Int) := by
      rw [← hu, IntKind.wrap_u64, IntKind.wrap_u64]
      omega
    clear hlo hhi
    go_enter Tryz.func89, Tryz.ntmps89
    go_wp2
    go_ret
    exact ⟨rfl, rfl⟩
  · have e1 : IntKind.u64.wrap d = (d.natAbs : Int) := by
      rw [IntKind.wrap_u64]
      omega
    clear hlo hhi
    go_enter Tryz.func89, Tryz.ntmps89
    go_wp2
    go_ret
    exact ⟨rfl, rfl⟩

set_option maxRecDepth 100000 in
set_option maxHeartbeats 1000000 in
theorem sign_any (n : Nat) (hn : n ≤ 18446744073709551615) (mi : Bool) (w : World) :
    Calls Tryz.prog 113 #[.int .u64 n, .bool mi] w fun e w' => e = .returned (.tuple #[.int .i64 (okV (sv mi n)), .int .i64 (okE (sv mi n))]) ∧ w = w' := by
  cases mi
  · have hs : sv false n = (n : Int) := rfl
    rw [hs]
    clear hs
    by_cases h : n < 9223372036854775808
    · have ev := Lib.hid (okV_yes (z := (n : Int)) (by omega) (by omega))
      have ee := Lib.hid (okE_yes (z := (n : Int)) (by omega) (by omega))
      have e1 : IntKind.i64.wrap (n : Int) = (n : Int) := IntWalk.i64_in _ (by omega)
      have t1 : decide ((n : Int) < 9223372036854775808) = true := by simp; omega
      clear h hn
      go_enter Tryz.func113, Tryz.ntmps113
      go_wp2
      go_ret2
      exact ⟨by rw [ev.out, ee.out]; rfl, rfl⟩
    · have ev := Lib.hid (okV_no (z := (n : Int)) (by omega))
      have ee := Lib.hid (okE_no (z := (n : Int)) (by omega))
      have t1 : decide ((n : Int) < 9223372036854775808) = false := by simp; omega
      clear h hn
      go_enter Tryz.func113, Tryz.ntmps113
      go_wp2
      go_ret2
      exact ⟨by rw [ev.out, ee.out]; rfl, rfl⟩
  · have hs : sv true n = -(n : Int) := rfl
    rw [hs]
    clear hs
    by_cases h : n ≤ 9223372036854775808
    · have ev := Lib.hid (okV_yes (z := -(n : Int)) (by omega) (by omega))
      have ee := Lib.hid (okE_yes (z := -(n : Int)) (by omega) (by omega))
      obtain ⟨u, hu⟩ : ∃ u, IntKind.u64.wrap (-(n : Int)) = u := ⟨_, rfl⟩
      have e2 : IntKind.i64.wrap u = -(n : Int) := by
        rw [← hu, IntKind.wrap_u64, IntKind.wrap_i64]
        omega
      have t1 : decide ((n : Int) ≤ 9223372036854775808) = true := by simp; omega
      clear h hn
      go_enter Tryz.func113, Tryz.ntmps113
      go_wp2
      go_ret2
      exact ⟨by rw [ev.out, ee.out]; rfl, rfl⟩
    · have ev := Lib.hid (okV_no (z := -(n : Int)) (by omega))
      have ee := Lib.hid (okE_no (z := -(n : Int)) (by omega))
      have t1 : decide ((n : Int) ≤ 9223372036854775808) = false := by simp; omega
      clear h hn
      go_enter Tryz.func113, Tryz.ntmps113
      go_wp2
      go_ret2
      exact ⟨by rw [ev.out, ee.out]; rfl, rfl⟩

end Go.Proofs.YtigmcoelkkihkaaGreatDoor
namespace Go.Proofs.YtigmcoelkkihkaaGreatDoor
open Go.RowKit

def U64 : Nat := 18446744073709551616
/-- One digit more of a number that is read. -/
def rdStep (o : Option Nat) (c : UInt8) : Option Nat :=
  match o with
  | none => none
  | some n => if 48 ≤ c.toNat ∧ c.toNat ≤ 57 ∧ n * 10 + (c.toNat - 48) < U64 then some (n * 10 + (c.toNat - 48)) else none
def rdFrom (o : Option Nat) (L : List UInt8) : Option Nat := L.foldl rdStep o
def rdV (L : List UInt8) : Nat := (rdFrom (some 0) L).getD 0
def rdOk (L : List UInt8) : Bool := (rdFrom (some 0) L).isSome && !L.isEmpty

theorem rdFrom_none (L : List UInt8) : rdFrom none L = none := by
  induction L with
  | nil => rfl
  | cons c L ih => simpa [rdFrom, rdStep] using ih

/-- A byte as a number. -/
def byt (L : List UInt8) (j : Nat) : Nat := (L.getD j 0).toNat
theorem byt_lt (L : List UInt8) (j : Nat) : byt L j < 256 := by unfold byt; exact (L.getD j 0).toNat_lt
theorem drop_byte (L : List UInt8) (j : Nat) (h : j < L.length) : L.drop j = UInt8.ofNat (byt L j) :: L.drop (j + 1) := by
  rw [List.drop_eq_getElem_cons h]
  congr 1
  simp [byt, List.getD, h]
theorem rd_yes (n c : Nat) (L : List UInt8) (hc : c < 256) (h1 : 48 ≤ c) (h2 : c ≤ 57) (h3 : n * 10 + (c - 48) < U64) : rdFrom (some n) (UInt8.ofNat c :: L) = rdFrom (some (n * 10 + (c - 48))) L := by
  have e : (UInt8.ofNat c).toNat = c := by simp; omega
  show rdFrom (rdStep (some n) _) L = _
  simp only [rdStep, e]
  rw [if_pos ⟨h1, h2, h3⟩]
theorem rd_no (n c : Nat) (L : List UInt8) (hc : c < 256) (h : ¬ (48 ≤ c ∧ c ≤ 57 ∧ n * 10 + (c - 48) < U64)) : rdFrom (some n) (UInt8.ofNat c :: L) = none := by
  have e : (UInt8.ofNat c).toNat = c := by simp; omega
  show rdFrom (rdStep (some n) _) L = _
  simp only [rdStep, e]
  rw [if_neg h, rdFrom_none]

theorem mul64_any (x y hi lo : Nat) (yi : Int) (hyi : yi = (y : Int)) (hx : x < U64) (hy : y < U64) (h : x * y = hi * U64 + lo) (hlo : lo < U64) (w : World) :
    Calls Tryz.prog 112 #[.int .u64 x, .int .u64 yi] w fun e w' => e = .returned (.tuple #[.int .u64 (hi : Int), .int .u64 (lo : Int)]) ∧ w = w' := by
  subst hyi
  unfold U64 at hx hy h hlo
  have e1 : x * y / 18446744073709551616 = hi := by rw [h, Nat.add_comm, Nat.add_mul_div_right _ _ (by omega), Nat.div_eq_of_lt hlo]; omega
  have e2 : x * y % 18446744073709551616 = lo := by rw [h, Nat.add_comm, Nat.add_mul_mod_self_right, Nat.mod_eq_of_lt hlo]
  have := Tryz.bits_Mul64 x y hx hy w
  rw [e1, e2] at this
  exact this.mono fun e w' ⟨h1, h2⟩ => ⟨h1, h2.symm⟩

set_option maxRecDepth 100000 in
set_option maxHeartbeats 1000000 in
theorem unit_any (k : Int) (w : World) : Calls Tryz.prog 111 #[.int .i64 k] w fun e w' => e = .returned (.int .u64 ((10 ^ (6 - (min (max k 0) 6)).toNat : Nat) : Int)) ∧ w = w' := by
  obtain ⟨m, hm, hm6⟩ : ∃ m : Nat, (6 - (min (max k 0) 6)).toNat = m ∧ m ≤ 6 := ⟨_, rfl, by omega⟩
  rw [hm]
  have hk : (6 : Int) - min (max k 0) 6 = (m : Int) := by omega
  clear hm
  go_enter Tryz.func111, Tryz.ntmps111
  go_wp2_with fail
  go_loopg [3, 8] m (fun g v3 v8 wr => wr = w ∧ ∃ i u : Nat, i + g = m ∧ v8 = .int .i64 i ∧ v3 = .int .u64 u ∧ u = 10 ^ i)
  case atStart => exact ⟨rfl, 0, 1, by omega, rfl, rfl, rfl⟩
  case round =>
    obtain ⟨rfl, i, u, hi, rfl, rfl, hu⟩ := hrel
    have HU := Lib.hid hu
    have hub : i < 6 → u ≤ 100000 := fun h => by
      rw [hu]
      exact Nat.le_trans (Nat.pow_le_pow_right (by omega) (by omega : i ≤ 5)) (by decide)
    clear hu
    by_cases hgo : i < m
    · have hub' := hub (by omega)
      clear hub
      go_wp2
      go_roundg (gk - 1)
      case measure => omega
      case rel => exact ⟨rfl, i + 1, u * 10, by omega, by go_num, by go_num, by rw [HU.out, Nat.pow_succ]⟩
    · have e : i = m := by omega
      subst e
      clear hub
      go_wp2
      go_ret
      exact ⟨by rw [← HU.out]; rfl, rfl⟩

set_option maxRecDepth 100000 in
set_option maxHeartbeats 2000000 in
theorem read_any (s : ByteArray) (hs : s.size ≤ 1000000) (w : World) :
    Calls Tryz.prog 110 #[.string s] w fun e w' => e = .returned (.tuple #[.int .u64 (rdV s.data.toList : Int), .bool (rdOk s.data.toList)]) ∧ Below w.heap.size w w' := by
  have hconv := Lib.run_convert_string_bytes (P := Tryz.prog) w 9 84 5 s Tryz.underlying9 Tryz.underlying84 Tryz.underlying5
  obtain ⟨W0, hW0⟩ : ∃ W0, Lib.bytesWorld w 5 s = W0 := ⟨_, rfl⟩
  have hcell : ∀ j, j < s.size → W0.cell? ⟨w.heap.size, 0 + j, none⟩ = some (.int .u8 (byt s.data.toList j : Int)) := fun j hj => by
    rw [← hW0, Nat.zero_add]
    exact Lib.bytesWorld_cell w _ s j hj
  have hbel : Below w.heap.size w W0 := by
    rw [← hW0]
    exact ⟨rfl, rfl, rfl, by rw [Lib.bytesWorld_size]; omega, fun k hk => Lib.bytesWorld_at_old w _ s k hk⟩
  rw [hW0] at hconv
  clear hW0
  have HC := Lib.hid hcell
  clear hcell
  have hsl : s.size = s.data.toList.length := by simp
  have HSL := Lib.hid hsl
  clear hsl
  obtain ⟨L, hL⟩ : ∃ L, s.data.toList = L := ⟨_, rfl⟩
  have HL := Lib.hid hL
  rw [hL] at HC HSL ⊢
  clear hL
  go_enter Tryz.func110, Tryz.ntmps110
  go_wp2_with fail
  clear hconv
  go_loopg [4, 13] s.size (fun g v4 v13 wr => wr = W0 ∧ ∃ i n : Nat, i + g = s.size ∧ v13 = .int .i64 i ∧ v4 = .int .u64 n ∧ n < U64 ∧ rdFrom (some 0) L = rdFrom (some n) (L.drop i))
  case atStart => exact ⟨rfl, 0, 0, by omega, rfl, rfl, by unfold U64; omega, rfl⟩
  case round =>
    obtain ⟨rfl, i, n, hi, rfl, rfl, hn, hrd⟩ := hrel
    have HN := Lib.hid hn
    have HR := Lib.hid hrd
    clear hn hrd
    by_cases hgo : i < s.size
    · obtain ⟨c, hc⟩ : ∃ c, byt L i = c := ⟨_, rfl⟩
      have hc256 : c < 256 := by rw [← hc]; exact byt_lt L i
      have c1 : wr.cell? ⟨w.heap.size, i, none⟩ = some (.int .u8 (c : Int)) := by
        have := HC.out i hgo
        rw [Nat.zero_add, hc] at this
        exact this
      have hdrop := drop_byte L i (by rw [← HSL.out]; exact hgo)
      rw [hc] at hdrop
      have HD := Lib.hid hdrop
      clear hc hdrop
      obtain ⟨hi64, lo, hlo, hlt⟩ : ∃ hi64 lo, n * 10 = hi64 * U64 + lo ∧ lo < U64 := ⟨n * 10 / U64, n * 10 % U64, by rw [Nat.mul_comm (_ / _)]; exact (Nat.div_add_mod _ _).symm, Nat.mod_lt _ (by unfold U64; omega)⟩
      have HLO := Lib.hid hlo
      have HLT := Lib.hid hlt
      obtain ⟨d, hd⟩ : ∃ d : Int, IntKind.u64.wrap ((c : Int) - 48) = d := ⟨_, rfl⟩
      obtain ⟨m, hm⟩ : ∃ m : Int, IntKind.u64.wrap ((lo : Int) + d) = m := ⟨_, rfl⟩
      by_cases hok : 48 ≤ c ∧ c ≤ 57 ∧ n * 10 + (c - 48) < U64
      · have h0 : hi64 = 0 := by
          rcases Nat.eq_zero_or_pos hi64 with h | h
          · exact h
          · have : U64 ≤ hi64 * U64 := Nat.le_mul_of_pos_left _ h
            omega
        subst h0
        have hd2 : d = ((c - 48 : Nat) : Int) := by rw [← hd, IntKind.wrap_u64]; omega
        have hm2 : m = ((n * 10 + (c - 48) : Nat) : Int) := by
          rw [← hm, hd2, IntKind.wrap_u64]
          unfold U64 at hok hlo
          omega
        have hm3 : ¬ m < (lo : Int) := by omega
        have g1 : ¬ c < 48 := by omega
        have g2 : ¬ 57 < c := by omega
        have HM2 := Lib.hid hm2
        have HR2 : Hid (rdFrom (some 0) L = rdFrom (some (n * 10 + (c - 48))) (L.drop (i + 1))) := by
          unfold Hid
          rw [HR.out, HD.out]
          exact rd_yes n c _ hc256 hok.1 hok.2.1 hok.2.2
        have HOK := Lib.hid hok
        clear hok hlo hlt hd2 hm2
        go_wp2_with fail
        refine (mul64_any n 10 0 lo 10 rfl HN.out (by unfold U64; omega) HLO.out HLT.out _).mono ?_
        rintro e w1 ⟨rfl, rfl⟩
        go_wp2_with fail
        go_roundg (gk - 1)
        case measure => omega
        case rel => exact ⟨rfl, i + 1, n * 10 + (c - 48), by omega, by go_num, by rw [← HM2.out], HOK.out.2.2, HR2.out⟩
      · have HR2 : Hid (rdFrom (some 0) L = none) := by
          unfold Hid
          rw [HR.out, HD.out]
          exact rd_no n c _ hc256 hok
        have ev : Hid (rdV L = 0) := by unfold Hid rdV; rw [HR2.out]; rfl
        have eo : Hid (rdOk L = false) := by unfold Hid rdOk; rw [HR2.out]; rfl
        have hbad : c < 48 ∨ 57 < c ∨ 0 < hi64 ∨ m < (lo : Int) := by
          rcases Nat.lt_or_ge c 48 with h1 | h1
          · exact .inl h1
          · rcases Nat.lt_or_ge 57 c with h2 | h2
            · exact .inr (.inl h2)
            · rcases Nat.eq_zero_or_pos hi64 with h3 | h3
              · right; right; right
                subst h3
                rw [← hm, ← hd, IntKind.wrap_u64, IntKind.wrap_u64]
                unfold U64 at hok hlo hlt
                omega
              · exact .inr (.inr (.inl h3))
        clear hok hlo hlt
        have fin : ∀ W : World, Below w.heap.size w W → (Ending.returned (.tuple #[.int .u64 0, .bool false]) = .returned (.tuple #[.int .u64 (rdV L : Int), .bool (rdOk L)]) ∧ Below w.heap.size w W) := fun W h => ⟨by rw [ev.out, eo.out]; rfl, h⟩
        by_cases g1 : c < 48
        · clear hbad
          go_wp2_with fail
          refine (mul64_any n 10 hi64 lo 10 rfl HN.out (by unfold U64; omega) HLO.out HLT.out _).mono ?_
          rintro e w1 ⟨rfl, rfl⟩
          go_wp2_with fail
          go_ret2
          exact fin _ hbel
        · by_cases g2 : 57 < c
          · clear hbad
            go_wp2_with fail
            refine (mul64_any n 10 hi64 lo 10 rfl HN.out (by unfold U64; omega) HLO.out HLT.out _).mono ?_
            rintro e w1 ⟨rfl, rfl⟩
            go_wp2_with fail
            go_ret2
            exact fin _ hbel
          · by_cases g3 : 0 < hi64
            · clear hbad
              go_wp2_with fail
              refine (mul64_any n 10 hi64 lo 10 rfl HN.out (by unfold U64; omega) HLO.out HLT.out _).mono ?_
              rintro e w1 ⟨rfl, rfl⟩
              go_wp2_with fail
              go_ret2
              exact fin _ hbel
            · have g4 : m < (lo : Int) := by omega
              clear hbad
              go_wp2_with fail
              refine (mul64_any n 10 hi64 lo 10 rfl HN.out (by unfold U64; omega) HLO.out HLT.out _).mono ?_
              rintro e w1 ⟨rfl, rfl⟩
              go_wp2_with fail
              go_ret2
              exact fin _ hbel
    · have hend : Hid (rdFrom (some 0) L = some n) := by
        unfold Hid
        rw [HR.out, List.drop_of_length_le (by rw [← HSL.out]; omega)]
        rfl
      have ev : Hid (rdV L = n) := by unfold Hid rdV; rw [hend.out]; rfl
      have eo : Hid (rdOk L = !s.toList.isEmpty) := by
        unfold Hid rdOk
        rw [hend.out, ← HL.out, Lib.toList_data]
        simp
      go_wp2
      go_ret2
      exact ⟨by rw [ev.out, eo.out]; rfl, hbel⟩
end Go.Proofs.YtigmcoelkkihkaaGreatDoor
