/- Conditions: does a pattern stand for a text? The document's way. -/
import Derived.Test.YtpggidkcifnhjaaMatD
import Derived.Test.YtpggidkcifnhjaaStill
import Derived.StillTailTactics
import Derived.Deep.QuietTactic
import Derived.BigQuiet
set_option linter.unusedSimpArgs false
set_option linter.unusedVariables false
namespace Go.Proofs.Ytpggidkcifnhjaa
open Go.RowKit

theorem sgAt_low (L : List Sg) : sgAt (L.map low) = lowAt L := by
  funext i
  unfold lowAt sgAt
  rw [List.getD_eq_getElem?_getD, List.getD_eq_getElem?_getD, List.getElem?_map]
  cases L[i]? <;> rfl
/-- A row reckoned up to a place. -/
def mixT (p : Nat → Sg) (s : Nat → Nat) (i k : Nat) : Nat → Bool := fun x => if x < k then TT p s (i + 1) x else false
theorem mixT_same {p : Nat → Sg} {s : Nat → Nat} {i k : Nat} (h : TT p s (i + 1) k = false) (x : Nat) : mixT p s i (k + 1) x = mixT p s i k x := by
  unfold mixT
  by_cases h1 : x = k
  · subst h1
    rw [if_pos (by omega), if_neg (by omega), h]
  · by_cases h2 : x < k
    · rw [if_pos (by omega), if_pos h2]
    · rw [if_neg (by omega), if_neg h2]
theorem mixT_set {p : Nat → Sg} {s : Nat → Nat} {i k : Nat} {v : Bool} (h : TT p s (i + 1) k = v) (x : Nat) : mixT p s i (k + 1) x = if x = k then v else mixT p s i k x := by
  unfold mixT
  by_cases h1 : x = k
  · subst h1
    rw [if_pos (by omega), if_pos rfl, h]
  · rw [if_neg h1]
    by_cases h2 : x < k
    · rw [if_pos (by omega), if_pos h2]
    · rw [if_neg (by omega), if_neg h2]

set_option maxRecDepth 100000 in
set_option maxHeartbeats 16000000 in
theorem rfits_any (L : List Sg) (p : Option Addr) (cap : Nat) (s : ByteArray) (hlen : L.length ≤ 1000) (hs : s.size ≤ 1000) (hok : ∀ x ∈ L, x.1 ≤ 2 ∧ x.2 < 256) (w : World) (hL : RdG sgE 2 w p L.length L) :
    Calls Try.prog 24 #[.slice p L.length cap, .string s] w fun e w' => e = .returned (.bool (TT (sgAt L) (lowS s.data.toList) L.length s.data.toList.length)) ∧ Below w.heap.size w w' := by
  obtain ⟨i0, hi, hz0, hz1, hz2⟩ := info_of info_bool
  obtain ⟨n, hn⟩ : ∃ n, L.length = n := ⟨_, rfl⟩
  have hbs : ∀ i (h : i < s.size), ((s[i].toNat : Nat) : Int) = (btN s.data.toList i : Int) := fun i h => btN_str s i h
  obtain ⟨T, hT⟩ : ∃ T, s.data.toList = T := ⟨_, rfl⟩
  have hm : T.length = s.size := by rw [← hT, Lib.size_eq]
  rw [hT] at hbs ⊢
  rw [hn] at hL hlen ⊢
  rw [hm]
  have HN := Lib.hid hn
  have HL := Lib.hid hL
  have HOK := Lib.hid hok
  have HBS := Lib.hid hbs
  clear hn hT hL hok hm hbs
  go_enter Try.func24, Try.ntmps24
  go_wp2_with (at_make; refine wpList_make_full _ rfl _ _ _ rfl w.heap.size 4 i0 (.bool false) 1 Try.underlying101 hi hz0 hz1 .i64 .i64 _ _ (s.size + 1) rfl rfl rfl rfl (by rw [hz2]; omega) (by unfold maxLen; omega) (Nat.le_refl _) ?_)
  intro w0 hown0 hgrow0
  have hb0 : Below w.heap.size w w0 := (Below.refl _ _).grown hgrow0 (Nat.le_refl _) (fun k hk => by cases hk)
  have HR0 : Hid (RowV 4 w0 w.heap.size (s.size + 1) (fun _ => .bool false)) := RowV.of_own hown0 (Nat.le_refl _) _ (fun j hj => by
    rw [← Nat.mul_one (s.size + 1), show (madeCells #[Value.bool false] ((s.size + 1) * 1)).toList = _ from made_bools (s.size + 1)]
    simp [List.getElem?_replicate]
    omega)
  have hz0' := HR0.out.lt
  have hfr0 := HR0.out.free 0
  have hce0 := HR0.out.cell (j := 0) (by omega)
  have HB0 := Lib.hid hb0
  have HR1 : Hid (RowV 4 (w0.setCell ⟨w.heap.size, 0, none⟩ (.bool true)) w.heap.size (s.size + 1) (fun j => .bool (TT (sgAt L) (lowS T) 0 j))) := HR0.out.set (by omega) _ (fun x hx => by
    by_cases h : x = 0
    · subst h; rfl
    · rw [if_neg h]
      show Value.bool (decide (x = 0)) = _
      rw [decide_eq_false h])
  have HB1 : Hid (Below w.heap.size w (w0.setCell ⟨w.heap.size, 0, none⟩ (.bool true))) := HB0.out.setCell (Nat.le_refl _) _
  clear hown0 hgrow0 hb0
  go_wp2_with fail
  clear hfr0 hce0 hz0' HB0 HR0
  go_loopg [5, 6] n (fun g v5 v6 wr => ∃ i r : Nat, i + g = n ∧ v6 = .int .i64 i ∧ v5 = .slice (some ⟨r, 0, none⟩) (s.size + 1) (s.size + 1) ∧ RowV 4 wr r (s.size + 1) (fun j => .bool (TT (sgAt L) (lowS T) i j)) ∧ Below w.heap.size w wr)
  case atStart => exact ⟨0, w.heap.size, by omega, rfl, rfl, HR1.out, HB1.out⟩
  case round =>
    obtain ⟨G, rfl⟩ : ∃ G, G = gk := ⟨_, rfl⟩
    obtain ⟨i, r, hig, rfl, rfl, hrow, hbel⟩ := hrel
    have hzr := hbel.size
    have hrl := hrow.lt
    have HROW := Lib.hid hrow
    have HBEL := Lib.hid hbel
    by_cases hlt : i < n
    · have hli : (i : Int) < (n : Int) := by omega
      have hi0 : (0 : Int) ≤ (i : Int) := by omega
      have hiL : i < L.length := by rw [HN.out]; exact hlt
      have hx := sgAt_get hiL
      have hxo := HOK.out _ (lowAt_mem hiL)
      obtain ⟨kd, ch, hkc⟩ : ∃ kd ch, sgAt L i = (kd, ch) := ⟨_, _, rfl⟩
      rw [hkc] at hx hxo
      obtain ⟨b, off, rfl, hb, hcs⟩ := HL.out.some hlt
      have HQ1 : Hid (∀ W, Below w.heap.size w W → W.cell? ⟨b, off + i * 2, none⟩ = some (.int .i64 (kd : Int)) ∧ W.cell? ⟨b, off + i * 2 + 1, none⟩ = some (.int .u8 (ch : Int))) := fun W hW => ⟨(hW.cell (p := ⟨b, off + i * 2, none⟩) hb).trans (hcs i _ hx 0 _ rfl), (hW.cell (p := ⟨b, off + i * 2 + 1, none⟩) hb).trans (hcs i _ hx 1 _ rfl)⟩
      have HKC := Lib.hid hkc
      obtain ⟨wo, hwo⟩ : ∃ wo, wr = wo := ⟨_, rfl⟩
      clear hrow hbel hx hkc hcs
      rw [hwo] at hzr hrl HROW HBEL ⊢
      clear hwo
      go_wp2_with (at_make; refine wpList_make_full _ rfl _ _ _ rfl w.heap.size 4 i0 (.bool false) 1 Try.underlying101 hi hz0 hz1 .i64 .i64 _ _ (s.size + 1) rfl rfl rfl rfl (by rw [hz2]; omega) (by unfold maxLen; omega) hzr ?_)
      intro w3 hown3 hgrow3
      have hb3 : Below wo.heap.size wo w3 := (Below.refl _ _).grown hgrow3 (Nat.le_refl _) (fun k hk => by cases hk)
      have HRN : Hid (RowV 4 w3 wo.heap.size (s.size + 1) (fun _ => .bool false)) := RowV.of_own hown3 (Nat.le_refl _) _ (fun j hj => by
        rw [← Nat.mul_one (s.size + 1), show (madeCells #[Value.bool false] ((s.size + 1) * 1)).toList = _ from made_bools (s.size + 1)]
        simp [List.getElem?_replicate]
        omega)
      have hrn := HRN.out.lt
      have HB33 := Lib.hid hb3
      clear hown3 hgrow3 hb3
      go_wp2_with fail
      go_loopg [8] (s.size + 1) (fun g v8 wx => ∃ k : Nat, k + g = s.size + 1 ∧ v8 = .int .i64 k ∧ RowV 4 wx wo.heap.size (s.size + 1) (fun j => .bool (mixT (sgAt L) (lowS T) i k j)) ∧ w3.grownBy wx (some wo.heap.size))
      case atStart => exact ⟨0, by omega, rfl, HRN.out.congr (fun x hx => by unfold mixT; rw [if_neg (by omega)]), gb_below (Below.refl _ _) _⟩
      case round =>
        obtain ⟨k, hkg, rfl, hrow, hgb⟩ := hrel
        have hzx := hgb.size
        have HROWN := Lib.hid hrow
        have HGB := Lib.hid hgb
        have hbwr : Below w.heap.size w wr := (HBEL.out.trans (HB33.out.mono (by omega))).trans (gb_below_of hgb (by omega) (by omega))
        have HBWR := Lib.hid hbwr
        by_cases hk : k < s.size + 1
        · have hki : (k : Int) ≤ (s.size : Int) := by omega
          have hk0 : (0 : Int) ≤ (k : Int) := by omega
          have hk1 : (k : Int) < (s.size : Int) + 1 := by omega
          obtain ⟨q1, q2⟩ := HQ1.out _ hbwr
          have hnow : ∀ j, j < s.size + 1 → wr.cell? ⟨r, j, none⟩ = some (.bool (TT (sgAt L) (lowS T) i j)) := fun j hj => by
            rw [gb_cell hgb (by omega) (by omega), HB33.out.cell (p := ⟨r, j, none⟩) hrl]
            exact HROW.out.cell hj
          have HNOW := Lib.hid hnow
          have f1 := hrow.free k
          have q5 := hrow.cell (j := k) hk
          have HMS := Lib.hid (fun h x => mixT_same (p := sgAt L) (s := lowS T) (i := i) (k := k) h x)
          have HMT := Lib.hid (fun v h x => mixT_set (p := sgAt L) (s := lowS T) (i := i) (k := k) (v := v) h x)
          cases k with
          | zero =>
            have q3 := hnow 0 (by omega)
            obtain ⟨o, ho⟩ : ∃ o, TT (sgAt L) (lowS T) i 0 = o := ⟨_, rfl⟩
            have hT0 : TT (sgAt L) (lowS T) (i + 1) 0 = (decide (kd = 2) && o) := by rw [TT_s0, HKC.out, ho]
            rw [ho] at q3
            by_cases hkd : kd = 2
            · subst hkd
              have HX := Lib.hid (HMT.out o (by rw [hT0]; rfl))
              clear hrow hgb hnow ho hT0 hbwr
              cases o
              · go_wp2_with fail
                go_roundg (gk - 1)
                case measure => omega
                case rel => exact ⟨1, by omega, by go_num, HROWN.out.set (by omega) (.bool false) (fun x hx => by
                  rw [HX.out]
                  split <;> rfl), gb_set HGB.out (.inr rfl) _⟩
              · go_wp2_with fail
                go_roundg (gk - 1)
                case measure => omega
                case rel => exact ⟨1, by omega, by go_num, HROWN.out.set (by omega) (.bool true) (fun x hx => by
                  rw [HX.out]
                  split <;> rfl), gb_set HGB.out (.inr rfl) _⟩
            · have HX := Lib.hid (HMS.out (by rw [hT0, decide_eq_false hkd]; rfl))
              have hkd2 : ((kd : Int) == 2) = false := by simp; omega
              clear hrow hgb hnow ho hT0 hbwr
              go_wp2_with fail
              go_roundg (gk - 1)
              case measure => omega
              case rel => exact ⟨1, by omega, by go_num, HROWN.out.congr (fun x hx => by rw [HX.out]), HGB.out⟩
          | succ k =>
            by_cases hkd : kd = 2
            · subst hkd
              have q3 := hnow (k + 1) (by omega)
              have q6 := hrow.cell (j := k) (by omega)
              have e6 : mixT (sgAt L) (lowS T) i (k + 1) k = TT (sgAt L) (lowS T) (i + 1) k := by unfold mixT; rw [if_pos (by omega)]
              rw [e6] at q6
              obtain ⟨o, ho⟩ : ∃ o, TT (sgAt L) (lowS T) i (k + 1) = o := ⟨_, rfl⟩
              obtain ⟨u, hu⟩ : ∃ u, TT (sgAt L) (lowS T) (i + 1) k = u := ⟨_, rfl⟩
              have hT0 : TT (sgAt L) (lowS T) (i + 1) (k + 1) = (o || u) := by rw [TT_ss, HKC.out, if_pos rfl, ho, hu]
              rw [ho] at q3
              rw [hu] at q6
              have HX := Lib.hid (HMT.out _ hT0)
              have hk0' : (0 : Int) < (k : Int) + 1 := by omega
              clear hrow hgb hnow ho hu e6 hT0 hbwr
              cases o
              · cases u
                · go_wp2_with fail
                  go_roundg (gk - 1)
                  case measure => omega
                  case rel => exact ⟨k + 1 + 1, by omega, by go_num, HROWN.out.set (by omega) (.bool false) (fun x hx => by
                    rw [HX.out]
                    split <;> rfl), gb_set HGB.out (.inr rfl) _⟩
                · go_wp2_with fail
                  go_roundg (gk - 1)
                  case measure => omega
                  case rel => exact ⟨k + 1 + 1, by omega, by go_num, HROWN.out.set (by omega) (.bool true) (fun x hx => by
                    rw [HX.out]
                    split <;> rfl), gb_set HGB.out (.inr rfl) _⟩
              · go_wp2_with fail
                go_roundg (gk - 1)
                case measure => omega
                case rel => exact ⟨k + 1 + 1, by omega, by go_num, HROWN.out.set (by omega) (.bool true) (fun x hx => by
                  rw [HX.out]
                  split <;> rfl), gb_set HGB.out (.inr rfl) _⟩
            · have q3 := hnow k (by omega)
              have hks : k < s.size := by omega
              have hb := HBS.out k hks
              obtain ⟨c, hc⟩ : ∃ c, btN T k = c := ⟨_, rfl⟩
              have hc256 : c < 256 := by rw [← hc]; exact btN_lt T k
              have hls : lowS T k = lowN c := by unfold lowS; rw [hc]
              rw [hc] at hb
              obtain ⟨o, ho⟩ : ∃ o, TT (sgAt L) (lowS T) i k = o := ⟨_, rfl⟩
              have hT0 : TT (sgAt L) (lowS T) (i + 1) (k + 1) = (o && (decide (kd = 1) || decide (ch = lowN c))) := by rw [TT_ss, HKC.out, if_neg hkd, ho, hls]
              rw [ho] at q3
              have hkd2 : ((kd : Int) == 2) = false := by simp; omega
              have hk0' : (0 : Int) < (k : Int) + 1 := by omega
              have HLC : Hid (∀ W, Calls Try.prog 25 #[.int .u8 (((s[k]'hks).toNat : Nat) : Int)] W fun e w' => e = .returned (.int .u8 (lowN c : Int)) ∧ w' = W) := fun W => by rw [hb]; exact (rsmall_any c hc256 W).mono fun _ _ h => ⟨h.1, h.2.symm⟩
              clear hb
              have HMT2 := Lib.hid (fun v h => HMT.out v (hT0.trans h))
              have W2 : Hid (IntKind.i64.wrap (k : Int) = (k : Int)) := IntWalk.i64_in _ (by omega)
              have w4 : (k : Int) < (s.size : Int) + 1 := by omega
              clear hrow hgb hnow ho hT0 hbwr hc hls
              cases o
              · have HX := Lib.hid (HMT2.out false (by simp))
                go_wp2_with fail
                refine wp_region_still_tail 29 (by kernel_rfl) (by kernel_rfl) ?_
                simp only [List.take_succ_cons, List.take_zero, List.drop_succ_cons, List.drop_zero]
                change wpStill _ _ (World.drew wr) _ _ _
                refine still_of_quiet _ _ ?_
                repeat (first | go_big_quiet_skip | (go_big_quiet_want; go_big_quiet_op; first | go_big_quiet_on | (apply Exists.intro; refine ⟨HLC.out _, ?_⟩; go_big_quiet_on)))
                refine wpQuiet_nil ?_
                change wpList _ _ _ _ _ (World.drew wr)
                go_wp2_with fail
                go_roundg (gk - 1)
                case measure => omega
                case rel => exact ⟨k + 1 + 1, by omega, by go_num, (HROWN.out.set (by omega) (.bool false) (fun x hx => by
                  rw [HX.out]
                  split <;> rfl)).below (Below.drew (Below.refl _ _)), gb_drew (gb_set HGB.out (.inr rfl) _)⟩

              · obtain rfl | rfl | rfl : kd = 0 ∨ kd = 1 ∨ kd = 2 := by omega
                · by_cases hm : ch = lowN c
                  · have HX := Lib.hid (HMT2.out true (by simp [hm]))
                    have hmi : ((ch : Int) == (lowN c : Int)) = true := by simp [hm]
                    clear hm
                    go_wp2_with fail
                    refine wp_region_still_tail 29 (by kernel_rfl) (by kernel_rfl) ?_
                    simp only [List.take_succ_cons, List.take_zero, List.drop_succ_cons, List.drop_zero]
                    change wpStill _ _ (World.drew wr) _ _ _
                    refine still_of_quiet _ _ ?_
                    repeat (first | go_big_quiet_skip | (go_big_quiet_want; go_big_quiet_op; first | go_big_quiet_on | (apply Exists.intro; refine ⟨HLC.out _, ?_⟩; go_big_quiet_on)))
                    refine wpQuiet_nil ?_
                    change wpList _ _ _ _ _ (World.drew wr)
                    go_wp2_with fail
                    go_roundg (gk - 1)
                    case measure => omega
                    case rel => exact ⟨k + 1 + 1, by omega, by go_num, (HROWN.out.set (by omega) (.bool true) (fun x hx => by
                      rw [HX.out]
                      split <;> rfl)).below (Below.drew (Below.refl _ _)), gb_drew (gb_set HGB.out (.inr rfl) _)⟩

                  · have HX := Lib.hid (HMT2.out false (by simp [hm]))
                    have hmi : ((ch : Int) == (lowN c : Int)) = false := by simp; omega
                    clear hm
                    go_wp2_with fail
                    refine wp_region_still_tail 29 (by kernel_rfl) (by kernel_rfl) ?_
                    simp only [List.take_succ_cons, List.take_zero, List.drop_succ_cons, List.drop_zero]
                    change wpStill _ _ (World.drew wr) _ _ _
                    refine still_of_quiet _ _ ?_
                    repeat (first | go_big_quiet_skip | (go_big_quiet_want; go_big_quiet_op; first | go_big_quiet_on | (apply Exists.intro; refine ⟨HLC.out _, ?_⟩; go_big_quiet_on)))
                    refine wpQuiet_nil ?_
                    change wpList _ _ _ _ _ (World.drew wr)
                    go_wp2_with fail
                    go_roundg (gk - 1)
                    case measure => omega
                    case rel => exact ⟨k + 1 + 1, by omega, by go_num, (HROWN.out.set (by omega) (.bool false) (fun x hx => by
                      rw [HX.out]
                      split <;> rfl)).below (Below.drew (Below.refl _ _)), gb_drew (gb_set HGB.out (.inr rfl) _)⟩

                · have HX := Lib.hid (HMT2.out true (by simp))
                  go_wp2_with fail
                  refine wp_region_still_tail 29 (by kernel_rfl) (by kernel_rfl) ?_
                  simp only [List.take_succ_cons, List.take_zero, List.drop_succ_cons, List.drop_zero]
                  change wpStill _ _ (World.drew wr) _ _ _
                  refine still_of_quiet _ _ ?_
                  repeat (first | go_big_quiet_skip | (go_big_quiet_want; go_big_quiet_op; first | go_big_quiet_on | (apply Exists.intro; refine ⟨HLC.out _, ?_⟩; go_big_quiet_on)))
                  refine wpQuiet_nil ?_
                  change wpList _ _ _ _ _ (World.drew wr)
                  go_wp2_with fail
                  go_roundg (gk - 1)
                  case measure => omega
                  case rel => exact ⟨k + 1 + 1, by omega, by go_num, (HROWN.out.set (by omega) (.bool true) (fun x hx => by
                    rw [HX.out]
                    split <;> rfl)).below (Below.drew (Below.refl _ _)), gb_drew (gb_set HGB.out (.inr rfl) _)⟩

                · exact absurd rfl hkd
        · have hki : ¬ (k : Int) ≤ (s.size : Int) := by omega
          have HRE : Hid (RowV 4 wr wo.heap.size (s.size + 1) (fun j => .bool (TT (sgAt L) (lowS T) (i + 1) j))) := hrow.congr (fun x hx => by unfold mixT; rw [if_pos (by omega)])
          clear hrow hgb hbwr
          go_wp2_with fail
          go_roundg (G - 1)
          case measure => omega
          case rel => exact ⟨i + 1, wo.heap.size, by omega, by go_num, rfl, HRE.out, HBWR.out⟩
    · have hli : ¬ (i : Int) < (n : Int) := by omega
      have hin : i = n := by omega
      have q1 := hrow.cell (j := s.size) (by omega)
      rw [hin] at q1
      clear hrow hbel
      go_wp2_with fail
      go_ret
      exact ⟨rfl, HBEL.out⟩
end Go.Proofs.Ytpggidkcifnhjaa
