/- Contract of the program's Distance. -/
import Derived.Test.YtcmpeppjopdeaaaDoorStrA
set_option linter.unusedSimpArgs false
set_option linter.unusedVariables false

namespace Go.Proofs.YtcmpeppjopdeaaaDoor
open Go.RowKit

/-- Where the inner loop stands: the new row up to k, the old one behind. -/
def mixR (A B : List UInt8) (i k : Nat) : Nat → Nat := fun x => if x ≤ k then lev A B (i + 1) x else lev A B i x

set_option maxRecDepth 100000 in
set_option maxHeartbeats 4000000 in
theorem dist_core (a b : ByteArray) (A B : List UInt8) (hA : a.data.toList = A) (hB : b.data.toList = B) (ha : a.size ≤ 1000) (hb : b.size ≤ 1000) (w : World) :
    Calls Tryd.prog 12 #[.string a, .string b] w fun e w' => e = .returned (.int .i64 (lev A B a.size b.size : Int)) ∧ Below w.heap.size w w' := by
  obtain ⟨i0, hi, hz0, hz1, hz2⟩ := info_parts info_int
  have hconv := fun (W : World) (s : ByteArray) => Lib.run_convert_string_bytes (P := Tryd.prog) W 9 32 5 s Tryd.underlying9 Tryd.underlying32 Tryd.underlying5
  have HA := Lib.hid hA
  have HB := Lib.hid hB
  clear hA hB
  obtain ⟨n, hn⟩ : ∃ n, b.size = n := ⟨_, rfl⟩
  have HN := Lib.hid hn
  go_enter Tryd.func12, Tryd.ntmps12
  rw [hn]
  rw [hn] at hb
  go_wp2_with (at_make; refine wpList_make_full _ rfl _ _ _ rfl w.heap.size 3 i0 (.int .i64 0) 1 Tryd.underlying43 hi hz0 hz1 .i64 .i64 _ _ (n + 1) rfl rfl rfl rfl (by rw [hz2]; omega) (by unfold maxLen; omega) (Nat.le_refl _) ?_; intro w0 hown0 hgrow0)
  have HR0 : Hid (RowF w0 w.heap.size n (fun _ => 0)) := RowF.of_own hown0 (by omega) _ (fun j hj => by rw [show (madeCells (Value.int IntKind.i64 0).cells ((n + 1) * 1)).toList = _ from made_ints (n + 1)]; simp [List.getElem?_replicate]; omega)
  have hbl0 : Below w.heap.size w w0 := (Below.refl _ _).grown hgrow0 (Nat.le_refl _) (fun k hk => by cases hk)
  have HBL0 := Lib.hid hbl0
  clear hown0 hgrow0 hbl0
  go_loopw [19] (fun v wr => ∃ k : Nat, v = .int .i64 k ∧ k ≤ n + 1 ∧ RowF wr w.heap.size n (fun x => if x < k then x else 0) ∧ Below w.heap.size w wr) (fun v _ => n + 1 - (intOf v).toNat)
  case atStart => exact ⟨0, rfl, by omega, HR0.out.congr (fun x hx => by simp), HBL0.out⟩
  case round =>
    obtain ⟨k, rfl, hk, hrow, hbel⟩ := hrel
    have HROW := Lib.hid hrow
    have HBEL := Lib.hid hbel
    have hzr := hrow.lt
    rcases Nat.lt_or_ge k (n + 1) with hlt | hge
    · have hki : (k : Int) < (n : Int) + 1 := by omega
      have c1 := hrow.cell (j := k) (by omega)
      have f1 := hrow.free k
      clear hrow hbel
      go_wp2_with fail
      go_roundw
      case rel => exact ⟨k + 1, by go_num, by omega, HROW.out.set (by omega) k (fun x hx => by
          by_cases h : x = k
          · subst h; simp
          · rw [if_neg h]
            by_cases h2 : x < k
            · rw [if_pos (by omega), if_pos h2]
            · rw [if_neg (by omega), if_neg h2]), HBEL.out.setCell (Nat.le_refl _) _⟩
      case measure => simp [intOf]; omega
    · have hki : (n : Int) + 1 ≤ (k : Int) := by omega
      have HR1 : Hid (RowF wr w.heap.size n (lev A B 0)) := HROW.out.congr (fun x hx => by rw [lev_0, if_pos (by omega)])
      clear hrow hbel HROW
      have HGA := Lib.hid (gb_below (bytes_below wr a) (some w.heap.size))
      have HCA := Lib.hid (bytes_cell wr a)
      rw [HA.out] at HCA
      have HR2 := Lib.hid (HR1.out.below (bytes_below wr a))
      have HBL2 : Hid (Below w.heap.size w (Lib.bytesWorld wr 5 a)) := HBEL.out.trans ((bytes_below wr a).mono HBEL.out.size)
      have hzba : wr.heap.size < (Lib.bytesWorld wr 5 a).heap.size := by rw [Lib.bytesWorld_size]; omega
      clear HR1 HBEL HBL0 HR0
      go_wp2_with fail
      clear HGA
      generalize Lib.bytesWorld wr 5 a = W0 at HCA HR2 HBL2 hzba ⊢
      generalize wr.heap.size = zb at HCA hzba hzr ⊢
      go_loopw [30] (fun v wx => ∃ i : Nat, v = .int .i64 i ∧ i ≤ a.size ∧ RowF wx w.heap.size n (lev A B i) ∧ W0.grownBy wx (some w.heap.size)) (fun v _ => a.size - (intOf v).toNat)
      case atStart => exact ⟨0, rfl, by omega, HR2.out, gb_below (Below.refl _ _) _⟩
      case round =>
        obtain ⟨i, rfl, hia, hrow, hgb⟩ := hrel
        have HROW := Lib.hid hrow
        have HGB := Lib.hid hgb
        have hzx := hgb.size
        rcases Nat.lt_or_ge i a.size with hilt | hige
        · have hii : (i : Int) < (a.size : Int) := by omega
          have ca : wr.cell? ⟨zb, i, none⟩ = some (.int .u8 (nx A i : Int)) := (gb_cell hgb hzba (by omega) i).trans (HCA.out i hilt)
          obtain ⟨c, hc⟩ : ∃ c, nx A i = c := ⟨_, rfl⟩
          rw [hc] at ca
          have HC := Lib.hid hc
          have c0 := hrow.cell (j := 0) (by omega)
          rw [lev_i0] at c0
          have f0 := hrow.free 0
          have hrs := hrow.set (j := 0) (by omega) (i + 1) (g := mixR A B i 0) (fun x hx => by
            unfold mixR
            by_cases h : x = 0
            · subst h; simp [lev_i0]
            · rw [if_neg (by omega), if_neg h])
          have hgs : W0.grownBy (wr.setCell ⟨w.heap.size, 0, none⟩ (.int .i64 ((i : Int) + 1))) (some w.heap.size) := gb_set hgb (.inr rfl) _
          rw [show ((i + 1 : Nat) : Int) = (i : Int) + 1 from by omega] at hrs
          have HG1 := Lib.hid (gb_call hgs (bytes_below _ b))
          have HR3 := Lib.hid (hrs.below (bytes_below _ b))
          have HCB := Lib.hid (bytes_cell (wr.setCell ⟨w.heap.size, 0, none⟩ (.int .i64 ((i : Int) + 1))) b)
          rw [HB.out, HN.out] at HCB
          have hzb : wr.heap.size < (Lib.bytesWorld (wr.setCell ⟨w.heap.size, 0, none⟩ (.int .i64 ((i : Int) + 1))) 5 b).heap.size := by rw [Lib.bytesWorld_size]; simp [World.setCell]
          simp only [World.size_setCell] at HCB
          clear hrow hgb hc hrs hgs
          go_wp2_with fail
          generalize Lib.bytesWorld (wr.setCell ⟨w.heap.size, 0, none⟩ (.int .i64 ((i : Int) + 1))) 5 b = W1 at HG1 HR3 HCB hzb ⊢
          generalize wr.heap.size = zc at HCB hzb hzx ⊢
          go_loopw [9, 45] (fun l v wx => ∃ k : Nat, v = .int .i64 k ∧ k ≤ n ∧ l = .int .i64 (lev A B i k : Int) ∧ RowF wx w.heap.size n (mixR A B i k) ∧ W1.grownBy wx (some w.heap.size)) (fun _ v _ => n - (intOf v).toNat)
          case atStart => exact ⟨0, rfl, by omega, by rw [lev_i0], HR3.out, gb_below (Below.refl _ _) _⟩
          case round =>
            obtain ⟨k, rfl, hkn, rfl, hrow, hgb⟩ := hrel
            have HROW2 := Lib.hid hrow
            have HGB2 := Lib.hid hgb
            have hzy := hgb.size
            rcases Nat.lt_or_ge k n with hlt | hge
            · have hki : (k : Int) < (n : Int) := by omega
              have hki2 : (k : Int) + 1 < (n : Int) + 1 := by omega
              have cb : wr.cell? ⟨zc, k, none⟩ = some (.int .u8 (nx B k : Int)) := (gb_cell hgb hzb (by omega) k).trans (HCB.out k hlt)
              obtain ⟨d, hd⟩ : ∃ d, nx B k = d := ⟨_, rfl⟩
              rw [hd] at cb
              have c1 := hrow.cell (j := k) (by omega)
              have c2 := hrow.cell (j := k + 1) (by omega)
              have e1 : mixR A B i k k = lev A B (i + 1) k := by unfold mixR; rw [if_pos (Nat.le_refl _)]
              have e2 : mixR A B i k (k + 1) = lev A B i (k + 1) := by unfold mixR; rw [if_neg (by omega)]
              rw [e1] at c1
              rw [e2] at c2
              have f2 := hrow.free (k + 1)
              have hl := lev_s A B i k
              have b1 := lev_le A B i k
              have b2 := lev_le A B (i + 1) k
              have b3 := lev_le A B i (k + 1)
              rw [HC.out, hd] at hl
              have hset : ∀ v, v = lev A B (i + 1) (k + 1) → RowF (wr.setCell ⟨w.heap.size, k + 1, none⟩ (.int .i64 (v : Int))) w.heap.size n (mixR A B i (k + 1)) := fun v hv => hrow.set (by omega) v (fun x hx => by
                unfold mixR
                by_cases h : x = k + 1
                · subst h; rw [if_pos (Nat.le_refl _), if_pos rfl, hv]
                · rw [if_neg h]
                  by_cases h2 : x ≤ k
                  · rw [if_pos (by omega), if_pos h2]
                  · rw [if_neg (by omega), if_neg h2])
              have HSET := Lib.hid hset
              obtain ⟨p, hp⟩ : ∃ p, lev A B i k = p := ⟨_, rfl⟩
              obtain ⟨q, hq⟩ : ∃ q, lev A B (i + 1) k = q := ⟨_, rfl⟩
              obtain ⟨t, ht⟩ : ∃ t, lev A B i (k + 1) = t := ⟨_, rfl⟩
              rw [hp, hq, ht] at hl
              rw [hq] at c1 b2
              rw [ht] at c2 b3
              rw [hp] at b1 ⊢
              have HL := Lib.hid hl
              have HTT := Lib.hid ht
              clear hrow hgb hset hd hl hp hq ht
              by_cases hcd : c = d
              · have ecd : (((c : Nat) : Int) != (d : Int)) = false := by simp [hcd]
                have HCD := Lib.hid hcd
                clear hcd
                go_wp2_with fail
                go_region
                all_goals
                  have hv : (if (t : Int) + 1 < (if (q : Int) + 1 < (p : Int) then (q : Int) + 1 else (p : Int)) then (t : Int) + 1 else if (q : Int) + 1 < (p : Int) then (q : Int) + 1 else (p : Int)) = ((lev A B (i + 1) (k + 1) : Nat) : Int) := by
                    rw [HL.out, if_pos HCD.out]
                    repeat' split
                    all_goals omega
                  rw [hv]
                  clear hv
                  have HNW := Lib.hid (HSET.out _ rfl)
                  have HGW := Lib.hid (gb_set (p := ⟨w.heap.size, k + 1, none⟩) HGB2.out (.inr rfl) (.int .i64 ((lev A B (i + 1) (k + 1) : Nat) : Int)))
                  go_wp2_with fail
                  go_roundw
                  case rel => exact ⟨k + 1, by go_num, by omega, by rw [← HTT.out], HNW.out.drew, gb_drew HGW.out⟩
                  case measure => simp [intOf]; omega
              · have ecd : (((c : Nat) : Int) != (d : Int)) = true := by simp; omega
                have HCD := Lib.hid hcd
                clear hcd
                go_wp2_with fail
                go_region
                all_goals
                  have hv : (if (t : Int) + 1 < (if q < p then (q : Int) + 1 else (p : Int) + 1) then (t : Int) + 1 else if q < p then (q : Int) + 1 else (p : Int) + 1) = ((lev A B (i + 1) (k + 1) : Nat) : Int) := by
                    rw [HL.out, if_neg HCD.out]
                    repeat' split
                    all_goals omega
                  rw [hv]
                  clear hv
                  have HNW := Lib.hid (HSET.out _ rfl)
                  have HGW := Lib.hid (gb_set (p := ⟨w.heap.size, k + 1, none⟩) HGB2.out (.inr rfl) (.int .i64 ((lev A B (i + 1) (k + 1) : Nat) : Int)))
                  go_wp2_with fail
                  go_roundw
                  case rel => exact ⟨k + 1, by go_num, by omega, by rw [← HTT.out], HNW.out.drew, gb_drew HGW.out⟩
                  case measure => simp [intOf]; omega
            · obtain rfl : k = n := by omega
              have HFN : Hid (RowF wr w.heap.size k (lev A B (i + 1))) := HROW2.out.congr (fun x hx => by unfold mixR; rw [if_pos hx])
              have HGN := Lib.hid (gb_trans HG1.out HGB2.out)
              clear hrow hgb
              go_wp2_with fail
              go_roundw
              case rel => exact ⟨i + 1, by go_num, by omega, HFN.out, HGN.out⟩
              case measure => simp [intOf]; omega
        · obtain rfl : i = a.size := by omega
          have cn := hrow.cell (j := n) (Nat.le_refl _)
          have hnn : (n : Int) < (n : Int) + 1 := by omega
          clear hrow hgb
          go_wp2_with fail
          go_ret
          exact ⟨rfl, HBL2.out.trans (gb_below_of HGB.out (Nat.le_refl _) HBL2.out.size)⟩

theorem dist_any (a b : ByteArray) (d : Nat) (ha : a.size ≤ 1000) (hb : b.size ≤ 1000) (hd : lev a.data.toList b.data.toList a.size b.size = d) (w : World) :
    Calls Tryd.prog 12 #[.string a, .string b] w fun e w' => e = .returned (.int .i64 (d : Int)) ∧ Below w.heap.size w w' := by
  subst hd
  exact dist_core a b _ _ rfl rfl ha hb w
end Go.Proofs.YtcmpeppjopdeaaaDoor
