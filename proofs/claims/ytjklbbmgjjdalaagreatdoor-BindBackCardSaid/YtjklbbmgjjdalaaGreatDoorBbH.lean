/- Contracts of quadrilleref01's Rounded, From, Sum, To. Contract of quadrilleref01.Sum. Contract of quadrilleref01.To. -/
import Derived.Test.YtjklbbmgjjdalaaGreatDoorBbG
set_option linter.unusedSimpArgs false
set_option linter.unusedVariables false
namespace Go.Proofs.YtjklbbmgjjdalaaGreatDoor
open Go.RowKit
def RetI (minus : Bool) (x : Nat) (W : World) (e : Ending) (w' : World) : Prop := ∃ p n cap, e = .returned (.agg #[.bool minus, .slice p n cap]) ∧ RdN w' p n cap (digs x) ∧ Below W.heap.size W w'
theorem RetI.mk {minus : Bool} {x : Nat} {W w' : World} {p : Option Addr} {n cap : Nat} (hr : RdN w' p n cap (digs x)) (hb : Below W.heap.size W w') : RetI minus x W (.returned (.agg #[.bool minus, .slice p n cap])) w' := ⟨p, n, cap, rfl, hr, hb⟩
set_option maxRecDepth 100000 in
set_option maxHeartbeats 1000000 in
theorem from_any (n : Int) (hlo : -9223372036854775808 ≤ n) (hhi : n ≤ 9223372036854775807) (w : World) :
    Calls Tryz.prog 76 #[.int .i64 n] w (RetI (decide (n < 0)) n.natAbs w) := by
  by_cases h0 : n < 0
  · have hd : decide (n < 0) = true := by simp [h0]
    rw [hd]
    obtain ⟨k, hk⟩ : ∃ k : Nat, n = -(k : Int) - 1 := ⟨(-n - 1).toNat, by omega⟩
    have hk2 : k ≤ 18446744073709551615 := by omega
    have HK := Lib.hid hk2
    have e1 : n.natAbs = k + 1 := by omega
    rw [e1]
    have e2 : IntKind.i64.wrap (n + 1) = n + 1 := IntWalk.i64_in _ (by omega)
    have e3 : IntKind.i64.wrap (-(n + 1)) = (k : Int) := by rw [IntWalk.i64_in _ (by omega)]; omega
    have e4 : IntKind.u64.wrap (k : Int) = (k : Int) := IntWalk.u64_in _ (by omega)
    clear hk hk2 e1 hd hlo hhi
    go_enter Tryz.func76, Tryz.ntmps76
    go_wp2_with fail
    refine (of_digs k HK.out _).mono ?_
    rintro e w1 ⟨p1, n1, c1, rfl, h1, hb1, _⟩
    have hn1 : n1 ≤ 20 := by rw [← h1.len]; exact digs_length_le (by have := HK.out; omega)
    have H1 := Lib.hid h1
    have hs1 : w.heap.size + 1 ≤ w1.heap.size := by have := hb1.size; simpa using this
    clear h1
    go_wp2_with fail
    refine (of_digs 1 (by omega) _).mono ?_
    rintro e w2 ⟨p2, n2, c2, rfl, h2, hb2, _⟩
    have hn2 : n2 ≤ 20 := by rw [← h2.len]; exact digs_length_le (by omega)
    have H2 := Lib.hid h2
    have H12 := Lib.hid (H1.out.below hb2)
    have hs2 := hb2.size
    clear h2
    go_wp2_with fail
    refine (plus_any p1 n1 c1 (digs k) p2 n2 c2 (digs 1) (by omega) (by omega) _ H12.out H2.out).mono ?_
    rintro e w3 ⟨p3, n3, c3, rfl, h3, hb3, hf3⟩
    rw [dval_digs, dval_digs] at h3
    have H3 := Lib.hid h3
    have HF3 := Lib.hid hf3
    clear hf3
    have hs3 := hb3.size
    clear h3
    have hbel := bel_call hb3 (bel_call hb2 hb1 hb1.size) (Nat.le_trans hb1.size hb2.size)
    have x0 : w3.cell? ⟨w.heap.size, 0, none⟩ = some (.bool false) := (hbel.cell (p := ⟨w.heap.size, 0, none⟩) (by simp)).trans (by simp)
    have x1 : w3.cell? ⟨w.heap.size, 1, none⟩ = some (.slice none 0 0) := (hbel.cell (p := ⟨w.heap.size, 1, none⟩) (by simp)).trans (by simp)
    have f0 : w3.frozen? ⟨w.heap.size, 0, none⟩ = false := (hbel.frozen (p := ⟨w.heap.size, 0, none⟩) (by simp)).trans (by simp)
    have f1 : w3.frozen? ⟨w.heap.size, 1, none⟩ = false := (hbel.frozen (p := ⟨w.heap.size, 1, none⟩) (by simp)).trans (by simp)
    go_wp2_with fail
    refine bodyPost_ret (v := .agg #[.bool true, .slice p3 n3 c3]) (by simp [results, Tryz.results76, go_sem, x0, x1, f0, f1]) rfl ?_
    have hbw : Below w.heap.size w w3 := ((Below.refl _ _).alloc (Nat.le_refl _) _).trans (hbel.mono (by simp))
    exact RetI.mk ((H3.out.stored _ _ (fun x hx => by have := HF3.out x hx; simp; omega)).stored _ _ (fun x hx => by have := HF3.out x hx; simp; omega)) ((hbw.setCell (Nat.le_refl _) _).setCell (Nat.le_refl _) _)
  · have hd : decide (n < 0) = false := by simp [h0]
    rw [hd]
    obtain ⟨k, rfl⟩ : ∃ k : Nat, n = (k : Int) := ⟨n.toNat, by omega⟩
    have hk2 : k ≤ 18446744073709551615 := by omega
    have HK := Lib.hid hk2
    rw [Int.natAbs_natCast]
    have e4 : IntKind.u64.wrap (k : Int) = (k : Int) := IntWalk.u64_in _ (by omega)
    clear hk2 hd hlo hhi
    go_enter Tryz.func76, Tryz.ntmps76
    go_wp2_with fail
    refine (of_digs k HK.out _).mono ?_
    rintro e w1 ⟨p1, n1, c1, rfl, h1, hb1, hf1⟩
    have H1 := Lib.hid h1
    have HF1 := Lib.hid hf1
    have hs1 : w.heap.size + 1 ≤ w1.heap.size := by have := hb1.size; simpa using this
    clear h1 hf1
    have x0 : w1.cell? ⟨w.heap.size, 0, none⟩ = some (.bool false) := (hb1.cell (p := ⟨w.heap.size, 0, none⟩) (by simp)).trans (by simp)
    have x1 : w1.cell? ⟨w.heap.size, 1, none⟩ = some (.slice none 0 0) := (hb1.cell (p := ⟨w.heap.size, 1, none⟩) (by simp)).trans (by simp)
    have f0 : w1.frozen? ⟨w.heap.size, 0, none⟩ = false := (hb1.frozen (p := ⟨w.heap.size, 0, none⟩) (by simp)).trans (by simp)
    have f1 : w1.frozen? ⟨w.heap.size, 1, none⟩ = false := (hb1.frozen (p := ⟨w.heap.size, 1, none⟩) (by simp)).trans (by simp)
    go_wp2_with fail
    refine bodyPost_ret (v := .agg #[.bool false, .slice p1 n1 c1]) (by simp [results, Tryz.results76, go_sem, x0, x1, f0, f1]) rfl ?_
    have hbw : Below w.heap.size w w1 := ((Below.refl _ _).alloc (Nat.le_refl _) _).trans (hb1.mono (by simp))
    exact RetI.mk ((H1.out.stored _ _ (fun x hx => by have := HF1.out x hx; simp at this; simp; omega)).stored _ _ (fun x hx => by have := HF1.out x hx; simp at this; simp; omega)) ((hbw.setCell (Nat.le_refl _) _).setCell (Nat.le_refl _) _)
end Go.Proofs.YtjklbbmgjjdalaaGreatDoor
namespace Go.Proofs.YtjklbbmgjjdalaaGreatDoor
open Go.RowKit
attribute [local go_sem ↓] Go.wp_at_zero Go.wp_at_succ
end Go.Proofs.YtjklbbmgjjdalaaGreatDoor
namespace Go.Proofs.YtjklbbmgjjdalaaGreatDoor
open Go.RowKit
def M63 : Nat := 9223372036854775808
def toBad (mi : Bool) (x : Nat) : Bool := decide (M63 < x) || (!mi && !decide (x < M63))
def toV (mi : Bool) (x : Nat) : Int := if toBad mi x then 0 else if mi then -(x : Int) else (x : Int)
def toE (mi : Bool) (x : Nat) : Int := if toBad mi x then 31 else 0
theorem from_most (w : World) : Calls Tryz.prog 76 #[.int .i64 (-9223372036854775808)] w (RetI true M63 w) := by
  have h := from_any (-9223372036854775808) (by omega) (by omega) w
  have e1 : decide ((-9223372036854775808 : Int) < 0) = true := by decide
  have e2 : (-9223372036854775808 : Int).natAbs = M63 := rfl
  rw [e1, e2] at h
  exact h
theorem field_N (m : Bool) (p : Option Addr) (n c : Nat) (w : World) : (Instr.field 149 (.agg #[.bool m, .slice p n c]) 1).run Tryz.prog w = .ok (.slice p n c) w := by kernel_rfl
theorem dval_drop_le (L : List Nat) (k : Nat) : dval (L.drop k) ≤ dval L := by
  rcases take_le L k with h | h
  · have h1 : dval (L.drop k) ≤ 10 ^ k * dval (L.drop k) := Nat.le_mul_of_pos_left _ (Nat.pow_pos (by omega))
    omega
  · rw [List.drop_of_length_le (by omega)]
    exact Nat.zero_le _
set_option maxRecDepth 100000 in
set_option maxHeartbeats 2000000 in
theorem to_wide (mi : Bool) (p : Option Addr) (n cap : Nat) (x : Nat) (hn : n ≤ 1000) (w : World) (hA : RdN w p n cap (digs x)) :
    Calls Tryz.prog 112 #[.agg #[.bool mi, .slice p n cap]] w fun e w' => e = .returned (.tuple #[.int .i64 (toV mi x), .int .i64 (toE mi x)]) ∧ Below w.heap.size w w' := by
  have HA := Lib.hid hA
  have hcA := hA.max
  have hlA := hA.le
  unfold maxLen at hcA
  obtain ⟨a1, a2, a3, a4, a5⟩ := hA
  obtain ⟨ba, oa, hp, hca⟩ : ∃ ba oa, (n = 0 ∨ p = some ⟨ba, oa, none⟩) ∧ (0 < n → ba < w.heap.size) ∧ ∀ j, j < n → w.cell? ⟨ba, oa + j, none⟩ = some (.int .u8 (nth (digs x) j : Int)) := by
    rcases a5 with ⟨_, h, _⟩ | ⟨ba, oa, h1, h2, h3⟩
    · exact ⟨0, 0, .inl h, (fun h' => by omega), fun j hj => by omega⟩
    · exact ⟨ba, oa, .inr h1, (fun _ => h2), h3⟩
  have HP := Lib.hid hp
  have HCA := Lib.hid hca
  clear hp hca a1 a2 a3 a4 a5
  go_enter Tryz.func112, Tryz.ntmps112
  go_wp2_with fail
  refine (from_most _).mono ?_
  rintro e w1 ⟨p1, n1, c1, rfl, h1, hb1⟩
  have hn1 : n1 ≤ 20 := by rw [← h1.len]; exact digs_length_le (by unfold M63; omega)
  obtain ⟨hc1, hf1, hz1⟩ := bcell hb1 (by first | (simp only [World.size_alloc, World.size_setCell, World.size_drew]; rfl) | rfl)
  have hbw1 : Below w.heap.size w w1 := by (repeat' (first | (with_reducible exact Below.refl _ _) | (with_reducible assumption) | (with_reducible refine Below.alloc ?_ ?_ _) | (with_reducible refine bel_drewN ?_ _) | (with_reducible refine Below.drew ?_) | (with_reducible refine Below.setCell ?_ ?_ _) | (with_reducible refine bel_call ‹_› ?_ ?_) | go_size))
  have H1 := Lib.hid h1
  have HA1 := Lib.hid (HA.out.below hbw1)
  clear h1
  have hfl := field_N true p1 n1 c1 w1
  cases hg1 : decide (M63 < x)
  · have hl1 : ltN M63 x = false := hg1
    by_cases hok : mi = true ∨ x < M63
    ·
      have hbad : toBad mi x = false := by
        unfold toBad
        rw [hg1]
        rcases hok with h | h
        · simp [h]
        · simp [h]
      have ev : Hid (toV mi x = if mi then -(x : Int) else (x : Int)) := by unfold Hid toV; simp [hbad]
      have ee : Hid (toE mi x = 0) := by unfold Hid toE; simp [hbad]
      have hxle : Hid (x ≤ M63 ∧ (mi = false → x < M63)) := by
        unfold Hid
        refine ⟨by simpa using hg1, fun h => ?_⟩
        rcases hok with h' | h'
        · rw [h] at h'; cases h'
        · exact h'
      have hl2 : mi = false → ltN x M63 = true := fun h => by
        rcases hok with h' | h'
        · rw [h] at h'; cases h'
        · simp [ltN, h']
      clear hok hg1 hbad
      cases mi
      · have hl2' := hl2 rfl
        clear hl2
        go_wp2_with fail
        refine (less_any p1 n1 c1 M63 p n cap x (by omega) (by omega) _ H1.out HA1.out).mono ?_
        rintro e w2 ⟨rfl, hb2⟩
        obtain ⟨hc2, hf2, hz2⟩ := bcell hb2 (by first | (simp only [World.size_alloc, World.size_setCell, World.size_drew]; rfl) | rfl)
        go_wp2_with fail
        refine (less_any p n cap x p1 n1 c1 M63 (by omega) (by omega) _ (HA1.out.below hb2) (H1.out.below hb2)).mono ?_
        rintro e w3 ⟨rfl, hb3⟩
        obtain ⟨hc3, hf3, hz3⟩ := bcell hb3 (by first | (simp only [World.size_alloc, World.size_setCell, World.size_drew]; rfl) | rfl)
        have hbz : Below w.heap.size w w3 := by (repeat' (first | (with_reducible exact Below.refl _ _) | (with_reducible assumption) | (with_reducible refine Below.alloc ?_ ?_ _) | (with_reducible refine bel_drewN ?_ _) | (with_reducible refine Below.drew ?_) | (with_reducible refine Below.setCell ?_ ?_ _) | (with_reducible refine bel_call ‹_› ?_ ?_) | go_size))
        have cm : w3.cell? ⟨w.heap.size, 0, none⟩ = some (.bool false) := by go_simp
        have cs : w3.cell? ⟨w.heap.size, 1, none⟩ = some (.slice p n cap) := by go_simp
        go_wp2_with fail
        go_loopg [4, 6] n (fun g v4 v6 wr => wr = w3 ∧ ∃ z : Int, g ≤ n ∧ v6 = .int .i64 ((g : Int) - 1) ∧ v4 = .int .i64 z ∧ z = ((dval ((digs x).drop g) : Nat) : Int))
        case atStart => exact ⟨rfl, 0, Nat.le_refl _, rfl, rfl, by rw [List.drop_of_length_le (by have := HA.out.len; omega)]; rfl⟩
        case round =>
          obtain ⟨rfl, z, hg, rfl, rfl, hz⟩ := hrel
          have HZ := Lib.hid hz
          clear hz
          by_cases hk0 : gk = 0
          · subst hk0
            have ez : Hid (z = toV false x) := by
              unfold Hid
              rw [ev.out, HZ.out]
              simp [dval_digs]
            clear cm cs
            go_wp2_with fail
            go_ret2
            exact ⟨by rw [ee.out, ← ez.out]; rfl, hbz⟩
          · obtain ⟨j, rfl⟩ : ∃ j, gk = j + 1 := ⟨gk - 1, by omega⟩
            have hj1 : ((j + 1 : Nat) : Int) - 1 = (j : Int) := by omega
            rw [hj1]
            clear hj1 hk0
            obtain rfl : p = some ⟨ba, oa, none⟩ := by
              rcases HP.out with h | h
              · omega
              · exact h
            obtain ⟨y, hy⟩ : ∃ y, nth (digs x) j = y := ⟨_, rfl⟩
            have hy10 : y < 10 := by rw [← hy]; exact nth_lt (digs_lt x) j
            have cy : wr.cell? ⟨ba, oa + j, none⟩ = some (.int .u8 (y : Int)) := by
              rw [hbz.cell (by exact HCA.out.1 (by omega)), HCA.out.2 j (by omega), hy]
            have hdr : dval ((digs x).drop j) = y + 10 * dval ((digs x).drop (j + 1)) := by
              rw [dval_drop (digs x) j (by rw [HA.out.len]; omega), show (digs x).getD j 0 = y from hy]
            have hle := dval_drop_le (digs x) j
            rw [dval_digs] at hle
            have HW : Hid (IntKind.i64.wrap (z * 10) = z * 10 ∧ IntKind.i64.wrap (z * 10 + (y : Int)) = z * 10 + (y : Int)) := by
              unfold Hid
              have h1 := hxle.out
              have h2 := HZ.out
              unfold M63 at h1
              have h3 := h1.2
              exact ⟨IntWalk.i64_in _ (by first | (have := h3 rfl; omega) | (have := h3 trivial; omega) | omega), IntWalk.i64_in _ (by first | (have := h3 rfl; omega) | (have := h3 trivial; omega) | omega)⟩
            have e1 := HW.out.1
            have e2 := HW.out.2
            have HD := Lib.hid hdr
            clear hy hdr hle HW
            have hjn : (j : Int) < (n : Int) := by omega
            have hj0 : (0 : Int) ≤ (j : Int) := by omega
            go_wp2
            go_roundg j
            case measure => omega
            case rel => exact ⟨rfl, z * 10 + (y : Int), by omega, by go_num, rfl, by rw [HD.out, HZ.out]; omega⟩
      · clear hl2
        go_wp2_with fail
        refine (less_any p1 n1 c1 M63 p n cap x (by omega) (by omega) _ H1.out HA1.out).mono ?_
        rintro e w2 ⟨rfl, hb2⟩
        obtain ⟨hc2, hf2, hz2⟩ := bcell hb2 (by first | (simp only [World.size_alloc, World.size_setCell, World.size_drew]; rfl) | rfl)
        have hbz : Below w.heap.size w w2 := by (repeat' (first | (with_reducible exact Below.refl _ _) | (with_reducible assumption) | (with_reducible refine Below.alloc ?_ ?_ _) | (with_reducible refine bel_drewN ?_ _) | (with_reducible refine Below.drew ?_) | (with_reducible refine Below.setCell ?_ ?_ _) | (with_reducible refine bel_call ‹_› ?_ ?_) | go_size))
        have cm : w2.cell? ⟨w.heap.size, 0, none⟩ = some (.bool true) := by go_simp
        have cs : w2.cell? ⟨w.heap.size, 1, none⟩ = some (.slice p n cap) := by go_simp
        go_wp2_with fail
        go_loopg [4, 6] n (fun g v4 v6 wr => wr = w2 ∧ ∃ z : Int, g ≤ n ∧ v6 = .int .i64 ((g : Int) - 1) ∧ v4 = .int .i64 z ∧ z = -((dval ((digs x).drop g) : Nat) : Int))
        case atStart => exact ⟨rfl, 0, Nat.le_refl _, rfl, rfl, by rw [List.drop_of_length_le (by have := HA.out.len; omega)]; rfl⟩
        case round =>
          obtain ⟨rfl, z, hg, rfl, rfl, hz⟩ := hrel
          have HZ := Lib.hid hz
          clear hz
          by_cases hk0 : gk = 0
          · subst hk0
            have ez : Hid (z = toV true x) := by
              unfold Hid
              rw [ev.out, HZ.out]
              simp [dval_digs]
            clear cm cs
            go_wp2_with fail
            go_ret2
            exact ⟨by rw [ee.out, ← ez.out]; rfl, hbz⟩
          · obtain ⟨j, rfl⟩ : ∃ j, gk = j + 1 := ⟨gk - 1, by omega⟩
            have hj1 : ((j + 1 : Nat) : Int) - 1 = (j : Int) := by omega
            rw [hj1]
            clear hj1 hk0
            obtain rfl : p = some ⟨ba, oa, none⟩ := by
              rcases HP.out with h | h
              · omega
              · exact h
            obtain ⟨y, hy⟩ : ∃ y, nth (digs x) j = y := ⟨_, rfl⟩
            have hy10 : y < 10 := by rw [← hy]; exact nth_lt (digs_lt x) j
            have cy : wr.cell? ⟨ba, oa + j, none⟩ = some (.int .u8 (y : Int)) := by
              rw [hbz.cell (by exact HCA.out.1 (by omega)), HCA.out.2 j (by omega), hy]
            have hdr : dval ((digs x).drop j) = y + 10 * dval ((digs x).drop (j + 1)) := by
              rw [dval_drop (digs x) j (by rw [HA.out.len]; omega), show (digs x).getD j 0 = y from hy]
            have hle := dval_drop_le (digs x) j
            rw [dval_digs] at hle
            have HW : Hid (IntKind.i64.wrap (z * 10) = z * 10 ∧ IntKind.i64.wrap (z * 10 - (y : Int)) = z * 10 - (y : Int)) := by
              unfold Hid
              have h1 := hxle.out
              have h2 := HZ.out
              unfold M63 at h1
              have h3 := h1.2
              exact ⟨IntWalk.i64_in _ (by first | (have := h3 rfl; omega) | (have := h3 trivial; omega) | omega), IntWalk.i64_in _ (by first | (have := h3 rfl; omega) | (have := h3 trivial; omega) | omega)⟩
            have e1 := HW.out.1
            have e2 := HW.out.2
            have HD := Lib.hid hdr
            clear hy hdr hle HW
            have hjn : (j : Int) < (n : Int) := by omega
            have hj0 : (0 : Int) ≤ (j : Int) := by omega
            go_wp2
            go_roundg j
            case measure => omega
            case rel => exact ⟨rfl, z * 10 - (y : Int), by omega, by go_num, rfl, by rw [HD.out, HZ.out]; omega⟩
    · have hmi : mi = false := by cases mi <;> simp_all
      subst hmi
      have hx2 : ¬ x < M63 := by simp at hok; omega
      have hl2 : ltN x M63 = false := by simp [ltN, hx2]
      have ev : Hid (toV false x = 0) := by unfold Hid toV toBad; simp [hx2]
      have ee : Hid (toE false x = 31) := by unfold Hid toE toBad; simp [hx2]
      clear hok hg1 hx2
      go_wp2_with fail
      refine (less_any p1 n1 c1 M63 p n cap x (by omega) (by omega) _ H1.out HA1.out).mono ?_
      rintro e w2 ⟨rfl, hb2⟩
      obtain ⟨hc2, hf2, hz2⟩ := bcell hb2 (by first | (simp only [World.size_alloc, World.size_setCell, World.size_drew]; rfl) | rfl)
      go_wp2_with fail
      refine (less_any p n cap x p1 n1 c1 M63 (by omega) (by omega) _ (HA1.out.below hb2) (H1.out.below hb2)).mono ?_
      rintro e w3 ⟨rfl, hb3⟩
      go_wp2_with fail
      go_ret2
      exact ⟨by rw [ev.out, ee.out]; rfl, by (repeat' (first | (with_reducible exact Below.refl _ _) | (with_reducible assumption) | (with_reducible refine Below.alloc ?_ ?_ _) | (with_reducible refine bel_drewN ?_ _) | (with_reducible refine Below.drew ?_) | (with_reducible refine Below.setCell ?_ ?_ _) | (with_reducible refine bel_call ‹_› ?_ ?_) | go_size))⟩
  · have hl1 : ltN M63 x = true := hg1
    have hM : M63 < x := by simpa using hg1
    have ev : Hid (toV mi x = 0) := by unfold Hid toV toBad; simp [hM]
    have ee : Hid (toE mi x = 31) := by unfold Hid toE toBad; simp [hM]
    clear hg1 hM
    go_wp2_with fail
    refine (less_any p1 n1 c1 M63 p n cap x (by omega) (by omega) _ H1.out HA1.out).mono ?_
    rintro e w2 ⟨rfl, hb2⟩
    go_wp2_with fail
    go_ret2
    exact ⟨by rw [ev.out, ee.out]; rfl, by (repeat' (first | (with_reducible exact Below.refl _ _) | (with_reducible assumption) | (with_reducible refine Below.alloc ?_ ?_ _) | (with_reducible refine bel_drewN ?_ _) | (with_reducible refine Below.drew ?_) | (with_reducible refine Below.setCell ?_ ?_ _) | (with_reducible refine bel_call ‹_› ?_ ?_) | go_size))⟩
end Go.Proofs.YtjklbbmgjjdalaaGreatDoor
