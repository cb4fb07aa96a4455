/- Numfmt: the document's Parse: the walk. Printed by gen_nume.py. -/
import Derived.Test.YteknbdodihfbeaaDoorNumE
import Derived.Test.YteknbdodihfbeaaDoorBlk
import Derived.Deep.CutBlock
set_option linter.unusedSimpArgs false
set_option linter.unusedVariables false
namespace Go.Proofs.YteknbdodihfbeaaDoor
open Go.RowKit Go.Joins

def RaR (O : Option Rm) (e : Ending) : Prop := match O with
  | some f => e = .returned (.tuple #[.agg (rmC f), .bool true])
  | none => e = .returned (.tuple #[.agg (rmC rm0), .bool false])
theorem two_rm (w : World) (a b : Obj) : ((w.alloc a).alloc b).heap[w.heap.size]? = some a ∧ ((w.alloc a).alloc b).heap[w.heap.size + 1]? = some b := by
  refine ⟨?_, ?_⟩ <;> simp only [World.alloc, Array.getElem?_push, Array.size_push] <;> (repeat (first | rfl | (rw [if_neg (by omega)]) | (rw [if_pos (by omega)])))
theorem RmB.other {w : World} {b g o : Nat} {f : Rm} {v : Value} (h : RmB w b f) (hne : b ≠ g) : RmB (w.setCell ⟨g, o, none⟩ v) b f := (heap_setCell_other _ _ _ _ hne).trans h
/-- What is made of the signs. -/
def rfE (L : Bs) (Q : Option (Nat × Bool × Rm × Bs)) : Option Rm := match Q with
  | none => none
  | some (_, pt, f, tl) => if noS tl = false ∨ 64 < L.length ∨ f.a0 + f.a1 = 0 ∨ 6 < f.r0 + f.r1 ∨ (pt = true ∧ f.r0 + f.r1 = 0) then none else some { f with tl := tl }
/-- The world of the signs' loop. -/
def RwS (w : World) (F i : Nat) (f : Rm) (wx : World) : Prop := RmB wx (w.heap.size + 1) f ∧ RmB wx w.heap.size rm0 ∧ f.a0 ≤ i ∧ f.a1 ≤ i ∧ f.r0 ≤ i ∧ f.r1 ≤ i ∧ Below w.heap.size w wx
set_option maxRecDepth 100000 in
set_option maxHeartbeats 32000000 in
theorem rparse_loop (s : ByteArray) (hs : s.size ≤ 200) (w : World) (O : Option Rm) (hO : rprs s.data.toList = O) :
    Calls Tryd.prog 8 #[.string s] w fun e w' => RaR O e ∧ Below w.heap.size w w' := by
  have hbs : ∀ i (h : i < s.size), ((s[i].toNat : Nat) : Int) = (btN s.data.toList i : Int) := fun i h => by rw [btN_str s i h]
  have HBS := Lib.hid hbs
  have HSZ : Hid (s.data.toList.length = s.size) := (Lib.size_eq s).symm
  have HSG := Lib.hid (fun i W => rsign_any (btN s.data.toList i) W)
  have HXD : Hid (∀ i, s.extract i s.size = ⟨(s.data.toList.drop i).toArray⟩) := fun i => by
    rw [mid_bytes, List.take_of_length_le (by rw [List.length_drop, ← Lib.size_eq]; exact Nat.le_refl _)]
  have HXT : Hid (∀ i, s.extract 0 i = ⟨(s.data.toList.take i).toArray⟩) := fun i => mid_bytes s 0 i
  have HNX : Hid (∀ i, s.size ≤ i → btN s.data.toList i = 0) := fun i h => by
    rw [Lib.size_eq] at h
    simp [btN, List.getD, List.getElem?_eq_none h]
  generalize s.data.toList = L at HBS HSZ HSG HXT HXD HNX hO
  clear hbs
  obtain ⟨F, hF⟩ : ∃ F, frN L = F := ⟨_, rfl⟩
  have HF : Hid (0 + rnS false (L.drop 0) = F) := by unfold Hid; rw [List.drop_zero, Nat.zero_add]; exact hF
  have hFL : F ≤ s.size := by
    rw [← hF, ← HSZ.out]
    exact (List.takeWhile_prefix _).length_le
  obtain ⟨Q, hQ⟩ : ∃ Q, rfF true (L.drop (frN L)) 0 false ⟨L.take (frN L), [], 0, 0, 0, 0, false, false⟩ = Q := ⟨_, rfl⟩
  have HO : Hid (O = rfE L Q) := by unfold Hid; rw [← hO, ← hQ]; rfl
  rw [hF] at hQ
  have HQ : Hid (rfF (decide (F = F)) (L.drop F) 0 false ⟨L.take F, [], 0, 0, 0, 0, false, false⟩ = Q) := by unfold Hid; rw [decide_eq_true rfl]; exact hQ
  clear hF hQ hO
  have hh := Lib.hid (two_rm w (.cells #[.string ⟨#[]⟩, .string ⟨#[]⟩, .int .i64 0, .int .i64 0, .int .i64 0, .int .i64 0, .bool false, .bool false] tRm) (.cells #[.string ⟨#[]⟩, .string ⟨#[]⟩, .int .i64 0, .int .i64 0, .int .i64 0, .int .i64 0, .bool false, .bool false] tRm))
  have hAB : Hid (Below w.heap.size w ((w.alloc (.cells #[.string ⟨#[]⟩, .string ⟨#[]⟩, .int .i64 0, .int .i64 0, .int .i64 0, .int .i64 0, .bool false, .bool false] tRm)).alloc (.cells #[.string ⟨#[]⟩, .string ⟨#[]⟩, .int .i64 0, .int .i64 0, .int .i64 0, .int .i64 0, .bool false, .bool false] tRm))) := by unfold Hid; (repeat' (first | (with_reducible exact Below.refl _ _) | (with_reducible assumption) | (with_reducible refine Below.alloc ?_ ?_ _) | (with_reducible refine bel_drewN ?_ _) | (with_reducible refine Below.drew ?_) | (with_reducible refine Below.setCell ?_ ?_ _) | (with_reducible refine bel_call ‹_› ?_ ?_) | go_size))
  go_enter Tryd.func8, Tryd.ntmps8
  go_upto_region 2 with fail
  generalize (w.alloc (.cells #[.string ⟨#[]⟩, .string ⟨#[]⟩, .int .i64 0, .int .i64 0, .int .i64 0, .int .i64 0, .bool false, .bool false] tRm)).alloc (.cells #[.string ⟨#[]⟩, .string ⟨#[]⟩, .int .i64 0, .int .i64 0, .int .i64 0, .int .i64 0, .bool false, .bool false] tRm) = w0 at hh hAB ⊢
  have hz0 : Hid (RmB w0 w.heap.size rm0) := hh.out.1
  have hg0 : Hid (RmB w0 (w.heap.size + 1) rm0) := hh.out.2
  clear hh
  go_upto_block 0 with fail
  go_cut [5] (fun v wx => v = .int .i64 (F : Nat) ∧ wx = w0)
  case first =>
    go_wp2_with fail
    go_loopg [5] s.size (fun g v5 wr => wr = w0 ∧ ∃ i : Nat, i + g = s.size ∧ v5 = .int .i64 i ∧ i + rnS false (L.drop i) = F)
    case atStart => exact ⟨rfl, 0, by omega, rfl, HF.out⟩
    case round =>
      obtain ⟨rfl, i, hig, rfl, hr⟩ := hrel
      have HR := Lib.hid hr
      clear hr
      by_cases hlt : i < s.size
      · have hli : (i : Int) < (s.size : Int) := by omega
        have hb := HBS.out i hlt
        have HS := Lib.hid (fun W => HSG.out i W)
        obtain ⟨c, hc⟩ : ∃ c, btN L i = c := ⟨_, rfl⟩
        rw [hc] at hb HS
        obtain ⟨o, ho⟩ : ∃ o, sgB c = o := ⟨_, rfl⟩
        rw [ho] at HS
        have HOO : Hid (sgB (btN L i) = o) := by unfold Hid; rw [hc]; exact ho
        clear hc ho
        cases o
        · have HR2 : Hid (i + 1 + rnS false (L.drop (i + 1)) = F) := by
            unfold Hid
            rw [← HR.out, rnS_step (by rw [HSZ.out]; exact hlt) HOO.out]
            omega
          go_wp2_with fail
          refine (HS.out _).mono ?_
          rintro e w1 ⟨rfl, rfl⟩
          go_wp2_with fail
          go_roundg (gk - 1)
          case measure => omega
          case rel => exact ⟨rfl, i + 1, by omega, by go_num, HR2.out⟩
        · have HR2 : Hid (i = F) := by
            unfold Hid
            rw [← HR.out, rnS_stop (by rw [HSZ.out]; exact hlt) (by rw [HOO.out]; simp)]
            omega
          go_wp2_with fail
          refine (HS.out _).mono ?_
          rintro e w1 ⟨rfl, rfl⟩
          go_wp2_with fail
          go_meet
          exact ⟨by rw [HR2.out], rfl⟩
      · obtain rfl : i = s.size := by omega
        have hli : ¬ (s.size : Int) < (s.size : Int) := by omega
        have HR2 : Hid (s.size = F) := by
          unfold Hid
          rw [← HR.out, rnS_end (by rw [HSZ.out]; exact Nat.le_refl _)]
          omega
        go_wp2_with fail
        go_meet
        exact ⟨by rw [HR2.out], rfl⟩
  case rest =>
  obtain ⟨rfl, rfl⟩ := hcut
  have k0 : wc.cell? ⟨w.heap.size + 1, 0, none⟩ = some (.string ⟨#[]⟩) := hg0.out.cell 0 _ rfl
  have k0f := hg0.out.fz 0
  go_upto_region 6 with fail
  rw [HXT.out]
  have hg1 : Hid (RmB (wc.setCell ⟨w.heap.size + 1, 0, none⟩ (.string ⟨(L.take F).toArray⟩)) (w.heap.size + 1) ⟨L.take F, [], 0, 0, 0, 0, false, false⟩) := hg0.out.s0 (L.take F)
  have hz1 : Hid (RmB (wc.setCell ⟨w.heap.size + 1, 0, none⟩ (.string ⟨(L.take F).toArray⟩)) w.heap.size rm0) := hz0.out.other (by omega)
  have hB1 : Hid (Below w.heap.size w (wc.setCell ⟨w.heap.size + 1, 0, none⟩ (.string ⟨(L.take F).toArray⟩))) := hAB.out.setCell (by show w.heap.size ≤ w.heap.size + 1; omega) _
  generalize wc.setCell ⟨w.heap.size + 1, 0, none⟩ (.string ⟨(L.take F).toArray⟩) = w1 at hg1 hz1 hB1 ⊢
  clear k0 k0f hg0 hz0 hAB
  go_upto_block 2 with fail
  go_cut [5, 8] (fun v5 v8 wx => ∃ (i : Nat) (pl : Nat) (pt : Bool) (f : Rm) (pz : Int), v5 = .int .i64 i ∧ v8 = .int .i64 pz ∧ i ≤ s.size ∧ (pt = decide (0 ≤ pz)) ∧ Q = some (pl, pt, f, L.drop i) ∧ RwS w F i f wx)
  case first =>
    go_wp2_with fail
    go_loopg [5, 6, 8, 9] (s.size - F) (fun g v5 v6 v8 v9 wr => ∃ (i : Nat) (pl : Nat) (pt : Bool) (f : Rm) (pz : Int), i + g = s.size ∧ v5 = .int .i64 i ∧ v6 = .int .i64 pl ∧ v8 = .int .i64 pz ∧ F ≤ i ∧ pl ≤ 4 ∧ (pt = decide (0 ≤ pz)) ∧ rfF (decide (i = F)) (L.drop i) pl pt f = Q ∧ RwS w F i f wr)
    case atStart => exact ⟨F, 0, false, _, -1, by omega, rfl, rfl, rfl, Nat.le_refl _, by omega, rfl, by simpa using HQ.out, hg1.out, hz1.out, by show 0 ≤ F; omega, by show 0 ≤ F; omega, by show 0 ≤ F; omega, by show 0 ≤ F; omega, hB1.out⟩
    case round =>
      obtain ⟨i, pl, pt, f, pz, hig, rfl, rfl, rfl, hFi, hpl4, hpz, hq, hgw, hzw, ha0, ha1, hr0, hr1, hbw⟩ := hrel
      have HPZ := Lib.hid hpz
      have HQI := Lib.hid hq
      have HGW := Lib.hid hgw
      have HZW := Lib.hid hzw
      have HBW := Lib.hid hbw
      clear hpz hq hgw hzw hbw
      by_cases hlt : i < s.size
      · have hli : (i : Int) < (s.size : Int) := by omega
        have hb := HBS.out i hlt
        have HS := Lib.hid (fun W => HSG.out i W)
        have HST := Lib.hid (rfF_at (L := L) (i := i) (by rw [HSZ.out]; exact hlt) hFi pl pt f)
        rw [HQI.out] at HST
        obtain ⟨c, hc⟩ : ∃ c, btN L i = c := ⟨_, rfl⟩
        rw [hc] at hb HS HST
        clear hc
        by_cases hsg : sgB c = true
        · have HC := Lib.hid hsg
          rw [hsg] at HS HST
          have HST2 : Hid (Q = match rfS (decide (i = F)) c (btN L (i + 1)) pl pt f with | none => none | some (pl', pt', f') => rfF (decide (i + 1 = F)) (L.drop (i + 1)) pl' pt' f') := by unfold Hid; rw [HST.out]; rfl
          clear HST hsg HQI
          have HST := HST2
          clear HST2
          go_upto_region 9 with (go_at_call 18; refine (HS.out _).mono ?_; rintro e wq ⟨rfl, hwq⟩; rw [← hwq]; clear hwq wq)
          obtain ⟨nx, hnx⟩ : ∃ nx, btN L (i + 1) = nx := ⟨_, rfl⟩
          rw [hnx] at HST
          have HNXT := Lib.hid hnx
          clear hnx
          obtain ⟨b1, hb1⟩ : ∃ b, decide (c = 35 ∧ pl = 0) = b := ⟨_, rfl⟩
          have HB1 := Lib.hid hb1
          clear hb1
          obtain ⟨b2, hb2⟩ : ∃ b, decide (c = 48 ∧ pl ≤ 1) = b := ⟨_, rfl⟩
          have HB2 := Lib.hid hb2
          clear hb2
          obtain ⟨b3, hb3⟩ : ∃ b, decide (c = 44 ∧ pl ≤ 1 ∧ f.cm = false ∧ decide (i = F) = false ∧ (nx = 48 ∨ nx = 35)) = b := ⟨_, rfl⟩
          have HB3 := Lib.hid hb3
          clear hb3
          obtain ⟨b4, hb4⟩ : ∃ b, decide (c = 46 ∧ pl ≤ 1 ∧ pt = false) = b := ⟨_, rfl⟩
          have HB4 := Lib.hid hb4
          clear hb4
          obtain ⟨b5, hb5⟩ : ∃ b, decide (c = 48 ∧ pl = 2) = b := ⟨_, rfl⟩
          have HB5 := Lib.hid hb5
          clear hb5
          obtain ⟨b6, hb6⟩ : ∃ b, decide (c = 35 ∧ (pl = 2 ∨ pl = 3)) = b := ⟨_, rfl⟩
          have HB6 := Lib.hid hb6
          clear hb6
          obtain ⟨b7, hb7⟩ : ∃ b, decide (c = 37 ∧ pl < 4) = b := ⟨_, rfl⟩
          have HB7 := Lib.hid hb7
          clear hb7
          go_upto_region 11 with fail
          go_cut [47] (fun v wx => v = .bool b1 ∧ wx = wr)
          case first => as_aux_lemma =>
            by_cases hc : c = 35
            · have hci : ((c : Int) == 35) = true := by simp; omega
              by_cases hp : pl = 0
              · have hpi : ((pl : Int) == 0) = true := by simp; omega
                have HK : Hid (b1 = true) := by unfold Hid; rw [← HB1.out]; exact decide_eq_true (⟨hc, hp⟩)
                try clear hp3
                try clear h48
                try clear h35
                try clear hz
                try clear hm
                try clear hp
                try clear hc
                go_wp2_with fail
                go_meet
                exact ⟨by rw [HK.out], rfl⟩
              · have hpi : ((pl : Int) == 0) = false := by simp; omega
                have HK : Hid (b1 = false) := by unfold Hid; rw [← HB1.out]; exact decide_eq_false (fun h => hp h.2)
                try clear hp3
                try clear h48
                try clear h35
                try clear hz
                try clear hm
                try clear hp
                try clear hc
                go_wp2_with fail
                go_meet
                exact ⟨by rw [HK.out], rfl⟩
            · have hci : ((c : Int) == 35) = false := by simp; omega
              have HK : Hid (b1 = false) := by unfold Hid; rw [← HB1.out]; exact decide_eq_false (fun h => hc h.1)
              try clear hp3
              try clear h48
              try clear h35
              try clear hz
              try clear hm
              try clear hp
              try clear hc
              go_wp2_with fail
              go_meet
              exact ⟨by rw [HK.out], rfl⟩
          case rest =>
          obtain ⟨hv1, hw1⟩ := hcut
          subst hv1
          rw [hw1]
          clear hw1
          cases b1
          case true => as_aux_lemma =>
            have qq : wr.cell? ⟨w.heap.size + 1, 3, none⟩ = some (.int .i64 (f.a1 : Nat)) := HGW.out.cell 3 _ rfl
            have uu := HGW.out.fz 3
            have hwrp : IntKind.i64.wrap ((f.a1 : Int) + 1) = (f.a1 : Int) + 1 := IntWalk.i64_in _ (by omega)
            have HPZ2 : Hid (pt = decide (0 ≤ pz)) := HPZ.out
            have HSV : Hid (rfS (decide (i = F)) c nx pl pt f = some (0, pt, { f with a1 := f.a1 + 1 })) := by unfold Hid; unfold rfS; rw [if_pos (of_decide_eq_true HB1.out)]
            have HR : Hid (rfF (decide (i + 1 = F)) (L.drop (i + 1)) 0 pt { f with a1 := f.a1 + 1 } = Q) := by unfold Hid; rw [HST.out, HSV.out]
            clear HST HSV
            go_wp2_with fail
            go_roundg (gk - 1)
            case measure => omega
            case rel => exact ⟨i + 1, 0, pt, { f with a1 := f.a1 + 1 }, pz, by omega, by go_num, by rw [(of_decide_eq_true HB1.out).2], rfl, by omega, by omega, HPZ2.out, HR.out, ⟨HGW.out.s3 (f.a1 + 1) _ (by omega), HZW.out.other (by omega), by show f.a0 ≤ i + 1; omega, by show f.a1 + 1 ≤ i + 1; omega, by show f.r0 ≤ i + 1; omega, by show f.r1 ≤ i + 1; omega, HBW.out.setCell (by show w.heap.size ≤ w.heap.size + 1; omega) _⟩⟩
          go_upto_region 13 with fail
          go_cut [60] (fun v wx => v = .bool b2 ∧ wx = wr)
          case first => as_aux_lemma =>
            by_cases hc : c = 48
            · have hci : ((c : Int) == 48) = true := by simp; omega
              by_cases hp : pl ≤ 1
              · have hpi : (pl : Int) ≤ 1 := by omega
                have HK : Hid (b2 = true) := by unfold Hid; rw [← HB2.out]; exact decide_eq_true (⟨hc, hp⟩)
                try clear hp3
                try clear h48
                try clear h35
                try clear hz
                try clear hm
                try clear hp
                try clear hc
                go_wp2_with fail
                go_meet
                exact ⟨by rw [HK.out], rfl⟩
              · have hpi : ¬ (pl : Int) ≤ 1 := by omega
                have HK : Hid (b2 = false) := by unfold Hid; rw [← HB2.out]; exact decide_eq_false (fun h => hp h.2)
                try clear hp3
                try clear h48
                try clear h35
                try clear hz
                try clear hm
                try clear hp
                try clear hc
                go_wp2_with fail
                go_meet
                exact ⟨by rw [HK.out], rfl⟩
            · have hci : ((c : Int) == 48) = false := by simp; omega
              have HK : Hid (b2 = false) := by unfold Hid; rw [← HB2.out]; exact decide_eq_false (fun h => hc h.1)
              try clear hp3
              try clear h48
              try clear h35
              try clear hz
              try clear hm
              try clear hp
              try clear hc
              go_wp2_with fail
              go_meet
              exact ⟨by rw [HK.out], rfl⟩
          case rest =>
          obtain ⟨hv2, hw2⟩ := hcut
          subst hv2
          rw [hw2]
          clear hw2
          cases b2
          case true => as_aux_lemma =>
            have qq : wr.cell? ⟨w.heap.size + 1, 2, none⟩ = some (.int .i64 (f.a0 : Nat)) := HGW.out.cell 2 _ rfl
            have uu := HGW.out.fz 2
            have hwrp : IntKind.i64.wrap ((f.a0 : Int) + 1) = (f.a0 : Int) + 1 := IntWalk.i64_in _ (by omega)
            have HPZ2 : Hid (pt = decide (0 ≤ pz)) := HPZ.out
            have HSV : Hid (rfS (decide (i = F)) c nx pl pt f = some (1, pt, { f with a0 := f.a0 + 1 })) := by unfold Hid; unfold rfS; rw [if_neg (of_decide_eq_false HB1.out), if_pos (of_decide_eq_true HB2.out)]
            have HR : Hid (rfF (decide (i + 1 = F)) (L.drop (i + 1)) 1 pt { f with a0 := f.a0 + 1 } = Q) := by unfold Hid; rw [HST.out, HSV.out]
            clear HST HSV
            go_wp2_with fail
            go_roundg (gk - 1)
            case measure => omega
            case rel => exact ⟨i + 1, 1, pt, { f with a0 := f.a0 + 1 }, pz, by omega, by go_num, by first | rfl | go_num, rfl, by omega, by omega, HPZ2.out, HR.out, ⟨HGW.out.s2 (f.a0 + 1) _ (by omega), HZW.out.other (by omega), by show f.a0 + 1 ≤ i + 1; omega, by show f.a1 ≤ i + 1; omega, by show f.r0 ≤ i + 1; omega, by show f.r1 ≤ i + 1; omega, HBW.out.setCell (by show w.heap.size ≤ w.heap.size + 1; omega) _⟩⟩
          go_upto_region 16 with fail
          go_cut [73] (fun v wx => v = .bool b3 ∧ wx = wr)
          case first => as_aux_lemma =>
            by_cases hc : c = 44
            · have hci : ((c : Int) == 44) = true := by simp; omega
              by_cases hp : pl ≤ 1
              · have hpi : (pl : Int) ≤ 1 := by omega
                have q6 : wr.cell? ⟨w.heap.size + 1, 6, none⟩ = some (.bool f.cm) := HGW.out.cell 6 _ rfl
                by_cases hm : f.cm = false
                · rw [hm] at q6
                  by_cases hf : F < i
                  · have hfi : (F : Int) < (i : Int) := by omega
                    by_cases hl1 : i + 1 < s.size
                    · have hl1i : (i : Int) + 1 < (s.size : Int) := by omega
                      have hbn := HBS.out (i + 1) hl1
                      rw [HNXT.out] at hbn
                      by_cases h48 : nx = 48
                      · have h48i : ((nx : Int) == 48) = true := by simp; omega
                        have HK : Hid (b3 = true) := by unfold Hid; rw [← HB3.out]; exact decide_eq_true (⟨hc, hp, hm, decide_eq_false (by omega), .inl h48⟩)
                        try clear hp3
                        try clear h48
                        try clear h35
                        try clear hz
                        try clear hm
                        try clear hp
                        try clear hc
                        go_wp2_with fail
                        go_meet
                        exact ⟨by rw [HK.out], rfl⟩
                      · have h48i : ((nx : Int) == 48) = false := by simp; omega
                        by_cases h35 : nx = 35
                        · have h35i : ((nx : Int) == 35) = true := by simp; omega
                          have HK : Hid (b3 = true) := by unfold Hid; rw [← HB3.out]; exact decide_eq_true (⟨hc, hp, hm, decide_eq_false (by omega), .inr h35⟩)
                          try clear hp3
                          try clear h48
                          try clear h35
                          try clear hz
                          try clear hm
                          try clear hp
                          try clear hc
                          go_wp2_with fail
                          go_meet
                          exact ⟨by rw [HK.out], rfl⟩
                        · have h35i : ((nx : Int) == 35) = false := by simp; omega
                          have HK : Hid (b3 = false) := by unfold Hid; rw [← HB3.out]; exact decide_eq_false (fun h => h.2.2.2.2.elim h48 h35)
                          try clear hp3
                          try clear h48
                          try clear h35
                          try clear hz
                          try clear hm
                          try clear hp
                          try clear hc
                          go_wp2_with fail
                          go_meet
                          exact ⟨by rw [HK.out], rfl⟩
                    · have hl1i : ¬ (i : Int) + 1 < (s.size : Int) := by omega
                      have hnx0 : nx = 0 := by rw [← HNXT.out]; exact HNX.out (i + 1) (by omega)
                      have HK : Hid (b3 = false) := by unfold Hid; rw [← HB3.out]; exact decide_eq_false (fun h => by have := h.2.2.2.2; omega)
                      try clear hp3
                      try clear h48
                      try clear h35
                      try clear hz
                      try clear hm
                      try clear hp
                      try clear hc
                      go_wp2_with fail
                      go_meet
                      exact ⟨by rw [HK.out], rfl⟩
                  · have hfi : ¬ (F : Int) < (i : Int) := by omega
                    have HK : Hid (b3 = false) := by unfold Hid; rw [← HB3.out]; exact decide_eq_false (fun h => by have := of_decide_eq_false h.2.2.2.1; omega)
                    try clear hp3
                    try clear h48
                    try clear h35
                    try clear hz
                    try clear hm
                    try clear hp
                    try clear hc
                    go_wp2_with fail
                    go_meet
                    exact ⟨by rw [HK.out], rfl⟩
                · have hm2 : f.cm = true := by
                    cases hx : f.cm
                    · exact absurd hx hm
                    · rfl
                  rw [hm2] at q6
                  have HK : Hid (b3 = false) := by unfold Hid; rw [← HB3.out]; exact decide_eq_false (fun h => hm h.2.2.1)
                  try clear hp3
                  try clear h48
                  try clear h35
                  try clear hz
                  try clear hm
                  try clear hp
                  try clear hc
                  go_wp2_with fail
                  go_meet
                  exact ⟨by rw [HK.out], rfl⟩
              · have hpi : ¬ (pl : Int) ≤ 1 := by omega
                have HK : Hid (b3 = false) := by unfold Hid; rw [← HB3.out]; exact decide_eq_false (fun h => hp h.2.1)
                try clear hp3
                try clear h48
                try clear h35
                try clear hz
                try clear hm
                try clear hp
                try clear hc
                go_wp2_with fail
                go_meet
                exact ⟨by rw [HK.out], rfl⟩
            · have hci : ((c : Int) == 44) = false := by simp; omega
              have HK : Hid (b3 = false) := by unfold Hid; rw [← HB3.out]; exact decide_eq_false (fun h => hc h.1)
              try clear hp3
              try clear h48
              try clear h35
              try clear hz
              try clear hm
              try clear hp
              try clear hc
              go_wp2_with fail
              go_meet
              exact ⟨by rw [HK.out], rfl⟩
          case rest =>
          obtain ⟨hv3, hw3⟩ := hcut
          subst hv3
          rw [hw3]
          clear hw3
          cases b3
          case true => as_aux_lemma =>
            have qq : wr.cell? ⟨w.heap.size + 1, 6, none⟩ = some (.bool f.cm) := HGW.out.cell 6 _ rfl
            have uu := HGW.out.fz 6
            have HPZ2 : Hid (pt = decide (0 ≤ pz)) := HPZ.out
            have HSV : Hid (rfS (decide (i = F)) c nx pl pt f = some (pl, pt, { f with cm := true })) := by unfold Hid; unfold rfS; rw [if_neg (of_decide_eq_false HB1.out), if_neg (of_decide_eq_false HB2.out), if_pos (of_decide_eq_true HB3.out)]
            have HR : Hid (rfF (decide (i + 1 = F)) (L.drop (i + 1)) pl pt { f with cm := true } = Q) := by unfold Hid; rw [HST.out, HSV.out]
            clear HST HSV
            go_wp2_with fail
            go_roundg (gk - 1)
            case measure => omega
            case rel => exact ⟨i + 1, pl, pt, { f with cm := true }, pz, by omega, by go_num, by first | rfl | go_num, rfl, by omega, by omega, HPZ2.out, HR.out, ⟨HGW.out.s6 true, HZW.out.other (by omega), by show f.a0 ≤ i + 1; omega, by show f.a1 ≤ i + 1; omega, by show f.r0 ≤ i + 1; omega, by show f.r1 ≤ i + 1; omega, HBW.out.setCell (by show w.heap.size ≤ w.heap.size + 1; omega) _⟩⟩
          go_upto_region 18 with fail
          go_cut [112] (fun v wx => v = .bool b4 ∧ wx = wr)
          case first => as_aux_lemma =>
            by_cases hc : c = 46
            · have hci : ((c : Int) == 46) = true := by simp; omega
              by_cases hp : pl ≤ 1
              · have hpi : (pl : Int) ≤ 1 := by omega
                by_cases hz : 0 ≤ pz
                · have hzi : ¬ pz < 0 := by omega
                  have HK : Hid (b4 = false) := by unfold Hid; rw [← HB4.out]; exact decide_eq_false (fun h => by rw [HPZ.out, decide_eq_true hz] at h; exact absurd h.2.2 (by simp))
                  try clear hp3
                  try clear h48
                  try clear h35
                  try clear hz
                  try clear hm
                  try clear hp
                  try clear hc
                  go_wp2_with fail
                  go_meet
                  exact ⟨by rw [HK.out], rfl⟩
                · have hzi : pz < 0 := by omega
                  have HK : Hid (b4 = true) := by unfold Hid; rw [← HB4.out]; exact decide_eq_true (⟨hc, hp, by rw [HPZ.out]; exact decide_eq_false hz⟩)
                  try clear hp3
                  try clear h48
                  try clear h35
                  try clear hz
                  try clear hm
                  try clear hp
                  try clear hc
                  go_wp2_with fail
                  go_meet
                  exact ⟨by rw [HK.out], rfl⟩
              · have hpi : ¬ (pl : Int) ≤ 1 := by omega
                have HK : Hid (b4 = false) := by unfold Hid; rw [← HB4.out]; exact decide_eq_false (fun h => hp h.2.1)
                try clear hp3
                try clear h48
                try clear h35
                try clear hz
                try clear hm
                try clear hp
                try clear hc
                go_wp2_with fail
                go_meet
                exact ⟨by rw [HK.out], rfl⟩
            · have hci : ((c : Int) == 46) = false := by simp; omega
              have HK : Hid (b4 = false) := by unfold Hid; rw [← HB4.out]; exact decide_eq_false (fun h => hc h.1)
              try clear hp3
              try clear h48
              try clear h35
              try clear hz
              try clear hm
              try clear hp
              try clear hc
              go_wp2_with fail
              go_meet
              exact ⟨by rw [HK.out], rfl⟩
          case rest =>
          obtain ⟨hv4, hw4⟩ := hcut
          subst hv4
          rw [hw4]
          clear hw4
          cases b4
          case true => as_aux_lemma =>
            have HPZ2 : Hid (true = decide (0 ≤ (i : Int))) := by unfold Hid; rw [decide_eq_true (by omega)]
            have HSV : Hid (rfS (decide (i = F)) c nx pl pt f = some (2, true, f)) := by unfold Hid; unfold rfS; rw [if_neg (of_decide_eq_false HB1.out), if_neg (of_decide_eq_false HB2.out), if_neg (of_decide_eq_false HB3.out), if_pos (of_decide_eq_true HB4.out)]
            have HR : Hid (rfF (decide (i + 1 = F)) (L.drop (i + 1)) 2 true f = Q) := by unfold Hid; rw [HST.out, HSV.out]
            clear HST HSV
            go_wp2_with fail
            go_roundg (gk - 1)
            case measure => omega
            case rel => exact ⟨i + 1, 2, true, f, (i : Int), by omega, by go_num, by first | rfl | go_num, rfl, by omega, by omega, HPZ2.out, HR.out, ⟨HGW.out, HZW.out, by omega, by omega, by omega, by omega, HBW.out⟩⟩
          go_upto_region 21 with fail
          go_cut [124] (fun v wx => v = .bool b5 ∧ wx = wr)
          case first => as_aux_lemma =>
            by_cases hc : c = 48
            · have hci : ((c : Int) == 48) = true := by simp; omega
              by_cases hp : pl = 2
              · have hpi : ((pl : Int) == 2) = true := by simp; omega
                have HK : Hid (b5 = true) := by unfold Hid; rw [← HB5.out]; exact decide_eq_true (⟨hc, hp⟩)
                try clear hp3
                try clear h48
                try clear h35
                try clear hz
                try clear hm
                try clear hp
                try clear hc
                go_wp2_with fail
                go_meet
                exact ⟨by rw [HK.out], rfl⟩
              · have hpi : ((pl : Int) == 2) = false := by simp; omega
                have HK : Hid (b5 = false) := by unfold Hid; rw [← HB5.out]; exact decide_eq_false (fun h => hp h.2)
                try clear hp3
                try clear h48
                try clear h35
                try clear hz
                try clear hm
                try clear hp
                try clear hc
                go_wp2_with fail
                go_meet
                exact ⟨by rw [HK.out], rfl⟩
            · have hci : ((c : Int) == 48) = false := by simp; omega
              have HK : Hid (b5 = false) := by unfold Hid; rw [← HB5.out]; exact decide_eq_false (fun h => hc h.1)
              try clear hp3
              try clear h48
              try clear h35
              try clear hz
              try clear hm
              try clear hp
              try clear hc
              go_wp2_with fail
              go_meet
              exact ⟨by rw [HK.out], rfl⟩
          case rest =>
          obtain ⟨hv5, hw5⟩ := hcut
          subst hv5
          rw [hw5]
          clear hw5
          cases b5
          case true => as_aux_lemma =>
            have qq : wr.cell? ⟨w.heap.size + 1, 4, none⟩ = some (.int .i64 (f.r0 : Nat)) := HGW.out.cell 4 _ rfl
            have uu := HGW.out.fz 4
            have hwrp : IntKind.i64.wrap ((f.r0 : Int) + 1) = (f.r0 : Int) + 1 := IntWalk.i64_in _ (by omega)
            have HPZ2 : Hid (pt = decide (0 ≤ pz)) := HPZ.out
            have HSV : Hid (rfS (decide (i = F)) c nx pl pt f = some (pl, pt, { f with r0 := f.r0 + 1 })) := by unfold Hid; unfold rfS; rw [if_neg (of_decide_eq_false HB1.out), if_neg (of_decide_eq_false HB2.out), if_neg (of_decide_eq_false HB3.out), if_neg (of_decide_eq_false HB4.out), if_pos (of_decide_eq_true HB5.out)]
            have HR : Hid (rfF (decide (i + 1 = F)) (L.drop (i + 1)) pl pt { f with r0 := f.r0 + 1 } = Q) := by unfold Hid; rw [HST.out, HSV.out]
            clear HST HSV
            go_wp2_with fail
            go_roundg (gk - 1)
            case measure => omega
            case rel => exact ⟨i + 1, pl, pt, { f with r0 := f.r0 + 1 }, pz, by omega, by go_num, by first | rfl | go_num, rfl, by omega, by omega, HPZ2.out, HR.out, ⟨HGW.out.s4 (f.r0 + 1) _ (by omega), HZW.out.other (by omega), by show f.a0 ≤ i + 1; omega, by show f.a1 ≤ i + 1; omega, by show f.r0 + 1 ≤ i + 1; omega, by show f.r1 ≤ i + 1; omega, HBW.out.setCell (by show w.heap.size ≤ w.heap.size + 1; omega) _⟩⟩
          go_upto_region 23 with fail
          go_cut [137] (fun v wx => v = .bool b6 ∧ wx = wr)
          case first => as_aux_lemma =>
            by_cases hc : c = 35
            · have hci : ((c : Int) == 35) = true := by simp; omega
              by_cases hp : pl = 2
              · have hpi : ((pl : Int) == 2) = true := by simp; omega
                have HK : Hid (b6 = true) := by unfold Hid; rw [← HB6.out]; exact decide_eq_true (⟨hc, .inl hp⟩)
                try clear hp3
                try clear h48
                try clear h35
                try clear hz
                try clear hm
                try clear hp
                try clear hc
                go_wp2_with fail
                go_meet
                exact ⟨by rw [HK.out], rfl⟩
              · have hpi : ((pl : Int) == 2) = false := by simp; omega
                by_cases hp3 : pl = 3
                · have hp3i : ((pl : Int) == 3) = true := by simp; omega
                  have HK : Hid (b6 = true) := by unfold Hid; rw [← HB6.out]; exact decide_eq_true (⟨hc, .inr hp3⟩)
                  try clear hp3
                  try clear h48
                  try clear h35
                  try clear hz
                  try clear hm
                  try clear hp
                  try clear hc
                  go_wp2_with fail
                  go_meet
                  exact ⟨by rw [HK.out], rfl⟩
                · have hp3i : ((pl : Int) == 3) = false := by simp; omega
                  have HK : Hid (b6 = false) := by unfold Hid; rw [← HB6.out]; exact decide_eq_false (fun h => h.2.elim hp hp3)
                  try clear hp3
                  try clear h48
                  try clear h35
                  try clear hz
                  try clear hm
                  try clear hp
                  try clear hc
                  go_wp2_with fail
                  go_meet
                  exact ⟨by rw [HK.out], rfl⟩
            · have hci : ((c : Int) == 35) = false := by simp; omega
              have HK : Hid (b6 = false) := by unfold Hid; rw [← HB6.out]; exact decide_eq_false (fun h => hc h.1)
              try clear hp3
              try clear h48
              try clear h35
              try clear hz
              try clear hm
              try clear hp
              try clear hc
              go_wp2_with fail
              go_meet
              exact ⟨by rw [HK.out], rfl⟩
          case rest =>
          obtain ⟨hv6, hw6⟩ := hcut
          subst hv6
          rw [hw6]
          clear hw6
          cases b6
          case true => as_aux_lemma =>
            have qq : wr.cell? ⟨w.heap.size + 1, 5, none⟩ = some (.int .i64 (f.r1 : Nat)) := HGW.out.cell 5 _ rfl
            have uu := HGW.out.fz 5
            have hwrp : IntKind.i64.wrap ((f.r1 : Int) + 1) = (f.r1 : Int) + 1 := IntWalk.i64_in _ (by omega)
            have HPZ2 : Hid (pt = decide (0 ≤ pz)) := HPZ.out
            have HSV : Hid (rfS (decide (i = F)) c nx pl pt f = some (3, pt, { f with r1 := f.r1 + 1 })) := by unfold Hid; unfold rfS; rw [if_neg (of_decide_eq_false HB1.out), if_neg (of_decide_eq_false HB2.out), if_neg (of_decide_eq_false HB3.out), if_neg (of_decide_eq_false HB4.out), if_neg (of_decide_eq_false HB5.out), if_pos (of_decide_eq_true HB6.out)]
            have HR : Hid (rfF (decide (i + 1 = F)) (L.drop (i + 1)) 3 pt { f with r1 := f.r1 + 1 } = Q) := by unfold Hid; rw [HST.out, HSV.out]
            clear HST HSV
            go_wp2_with fail
            go_roundg (gk - 1)
            case measure => omega
            case rel => exact ⟨i + 1, 3, pt, { f with r1 := f.r1 + 1 }, pz, by omega, by go_num, by first | rfl | go_num, rfl, by omega, by omega, HPZ2.out, HR.out, ⟨HGW.out.s5 (f.r1 + 1) _ (by omega), HZW.out.other (by omega), by show f.a0 ≤ i + 1; omega, by show f.a1 ≤ i + 1; omega, by show f.r0 ≤ i + 1; omega, by show f.r1 + 1 ≤ i + 1; omega, HBW.out.setCell (by show w.heap.size ≤ w.heap.size + 1; omega) _⟩⟩
          go_upto_region 26 with fail
          go_cut [154] (fun v wx => v = .bool b7 ∧ wx = wr)
          case first => as_aux_lemma =>
            by_cases hc : c = 37
            · have hci : ((c : Int) == 37) = true := by simp; omega
              by_cases hp : pl < 4
              · have hpi : (pl : Int) < 4 := by omega
                have HK : Hid (b7 = true) := by unfold Hid; rw [← HB7.out]; exact decide_eq_true (⟨hc, hp⟩)
                try clear hp3
                try clear h48
                try clear h35
                try clear hz
                try clear hm
                try clear hp
                try clear hc
                go_wp2_with fail
                go_meet
                exact ⟨by rw [HK.out], rfl⟩
              · have hpi : ¬ (pl : Int) < 4 := by omega
                have HK : Hid (b7 = false) := by unfold Hid; rw [← HB7.out]; exact decide_eq_false (fun h => hp h.2)
                try clear hp3
                try clear h48
                try clear h35
                try clear hz
                try clear hm
                try clear hp
                try clear hc
                go_wp2_with fail
                go_meet
                exact ⟨by rw [HK.out], rfl⟩
            · have hci : ((c : Int) == 37) = false := by simp; omega
              have HK : Hid (b7 = false) := by unfold Hid; rw [← HB7.out]; exact decide_eq_false (fun h => hc h.1)
              try clear hp3
              try clear h48
              try clear h35
              try clear hz
              try clear hm
              try clear hp
              try clear hc
              go_wp2_with fail
              go_meet
              exact ⟨by rw [HK.out], rfl⟩
          case rest =>
          obtain ⟨hv7, hw7⟩ := hcut
          subst hv7
          rw [hw7]
          clear hw7
          cases b7
          case true => as_aux_lemma =>
            have qq : wr.cell? ⟨w.heap.size + 1, 7, none⟩ = some (.bool f.pc) := HGW.out.cell 7 _ rfl
            have uu := HGW.out.fz 7
            have HPZ2 : Hid (pt = decide (0 ≤ pz)) := HPZ.out
            have HSV : Hid (rfS (decide (i = F)) c nx pl pt f = some (4, pt, { f with pc := true })) := by unfold Hid; unfold rfS; rw [if_neg (of_decide_eq_false HB1.out), if_neg (of_decide_eq_false HB2.out), if_neg (of_decide_eq_false HB3.out), if_neg (of_decide_eq_false HB4.out), if_neg (of_decide_eq_false HB5.out), if_neg (of_decide_eq_false HB6.out), if_pos (of_decide_eq_true HB7.out)]
            have HR : Hid (rfF (decide (i + 1 = F)) (L.drop (i + 1)) 4 pt { f with pc := true } = Q) := by unfold Hid; rw [HST.out, HSV.out]
            clear HST HSV
            go_wp2_with fail
            go_roundg (gk - 1)
            case measure => omega
            case rel => exact ⟨i + 1, 4, pt, { f with pc := true }, pz, by omega, by go_num, by first | rfl | go_num, rfl, by omega, by omega, HPZ2.out, HR.out, ⟨HGW.out.s7 true, HZW.out.other (by omega), by show f.a0 ≤ i + 1; omega, by show f.a1 ≤ i + 1; omega, by show f.r0 ≤ i + 1; omega, by show f.r1 ≤ i + 1; omega, HBW.out.setCell (by show w.heap.size ≤ w.heap.size + 1; omega) _⟩⟩
          have HSV : Hid (rfS (decide (i = F)) c nx pl pt f = none) := by unfold Hid; unfold rfS; rw [if_neg (of_decide_eq_false HB1.out), if_neg (of_decide_eq_false HB2.out), if_neg (of_decide_eq_false HB3.out), if_neg (of_decide_eq_false HB4.out), if_neg (of_decide_eq_false HB5.out), if_neg (of_decide_eq_false HB6.out), if_neg (of_decide_eq_false HB7.out)]
          have HNO : Hid (O = none) := by
            have : Q = none := by rw [HST.out, HSV.out]
            unfold Hid
            rw [HO.out, this]
            rfl
          clear HST HSV
          clear HB1 HB2 HB3 HB4 HB5 HB6 HB7 HO HPZ HXD HXT HNX HSG HS HBS HC HSZ hb HNXT hg1 hz1 hB1
          go_upto_region 10 with fail
          refine wp_region_lit ?_
          refine wpList_plain rfl fun K hK => ?_
          go_simp
          refine hK _ _ ?_
          clear hK K
          refine wpList_store_mid (by rfl) _ _ _ (by rfl) w.heap.size 0 #[.string ⟨#[]⟩, .string ⟨#[]⟩, .int .i64 0, .int .i64 0, .int .i64 0, .int .i64 0, .bool false, .bool false] (by rfl) (by rfl) (block_there HZW.out 8 (Nat.le_refl _)) (by kernel_rfl) (by simp [Value.oneCell']) ?_
          have hs8 : Hid (RmB (wr.setCells w.heap.size 0 #[.string ⟨#[]⟩, .string ⟨#[]⟩, .int .i64 0, .int .i64 0, .int .i64 0, .int .i64 0, .bool false, .bool false].toList) w.heap.size rm0) := store_block HZW.out _ rfl
          have hb8 : Hid (Below w.heap.size w (wr.setCells w.heap.size 0 #[.string ⟨#[]⟩, .string ⟨#[]⟩, .int .i64 0, .int .i64 0, .int .i64 0, .int .i64 0, .bool false, .bool false].toList)) := store_below (Nat.le_refl _) _ _ _ HBW.out
          generalize wr.setCells w.heap.size 0 #[.string ⟨#[]⟩, .string ⟨#[]⟩, .int .i64 0, .int .i64 0, .int .i64 0, .int .i64 0, .bool false, .bool false].toList = w9 at hs8 hb8 ⊢
          go_simp
          iterate 6 (first | go_values | go_skip | go_guarded | go_step | go_upon)
          apply wp_ret
          try simp only [Exit.inBlock, Exit.then]
          have e0 : w9.cell? ⟨w.heap.size, 0, none⟩ = some (.string ⟨#[]⟩) := hs8.out.cell 0 _ rfl
          have e1 : w9.cell? ⟨w.heap.size, 1, none⟩ = some (.string ⟨#[]⟩) := hs8.out.cell 1 _ rfl
          have e2 : w9.cell? ⟨w.heap.size, 2, none⟩ = some (.int .i64 0) := hs8.out.cell 2 _ rfl
          have e3 : w9.cell? ⟨w.heap.size, 3, none⟩ = some (.int .i64 0) := hs8.out.cell 3 _ rfl
          have e4 : w9.cell? ⟨w.heap.size, 4, none⟩ = some (.int .i64 0) := hs8.out.cell 4 _ rfl
          have e5 : w9.cell? ⟨w.heap.size, 5, none⟩ = some (.int .i64 0) := hs8.out.cell 5 _ rfl
          have e6 : w9.cell? ⟨w.heap.size, 6, none⟩ = some (.bool false) := hs8.out.cell 6 _ rfl
          have e7 : w9.cell? ⟨w.heap.size, 7, none⟩ = some (.bool false) := hs8.out.cell 7 _ rfl
          refine bodyPost_ret (v := .tuple #[.agg #[.string ⟨#[]⟩, .string ⟨#[]⟩, .int .i64 0, .int .i64 0, .int .i64 0, .int .i64 0, .bool false, .bool false], .bool false]) (by simp only [results, Tryd.results8]; go_simp) rfl ⟨by rw [HNO.out]; exact rfl, hb8.out⟩
        · have hsf : sgB c = false := by simpa using hsg
          rw [hsf] at HS HST
          have HST2 : Hid (Q = some (pl, pt, f, L.drop i)) := HST.out
          clear HST hsg hsf HQI
          go_wp2_with fail
          refine (HS.out _).mono ?_
          rintro e wq ⟨rfl, hwq⟩
          rw [← hwq]
          clear hwq wq
          go_wp2_with fail
          go_meet
          exact ⟨i, pl, pt, f, pz, rfl, rfl, by omega, HPZ.out, HST2.out, HGW.out, HZW.out, ha0, ha1, hr0, hr1, HBW.out⟩
      · obtain rfl : i = s.size := by omega
        have hli : ¬ (s.size : Int) < (s.size : Int) := by omega
        have HQE : Hid (Q = some (pl, pt, f, L.drop s.size)) := by
          unfold Hid
          rw [← HQI.out, List.drop_eq_nil_of_le (by rw [HSZ.out]; exact Nat.le_refl _), rfF]
        go_wp2_with fail
        go_meet
        exact ⟨s.size, pl, pt, f, pz, rfl, rfl, Nat.le_refl _, HPZ.out, HQE.out, HGW.out, HZW.out, ha0, ha1, hr0, hr1, HBW.out⟩
  case rest =>
  obtain ⟨i, pl, pt, f, pz, rfl, rfl, his, hpz, hq, hgw, hzw, ha0, ha1, hr0, hr1, hbw⟩ := hcut
  have HPZ := Lib.hid hpz
  have HG := Lib.hid hgw
  have HZ := Lib.hid hzw
  have HB := Lib.hid hbw
  have HO2 : Hid (O = rfE L (some (pl, pt, f, L.drop i))) := by unfold Hid; rw [← hq]; exact HO.out
  clear hpz hgw hzw hbw hq HO HQ hg1 hz1 hB1 HF
  have k1 : wc.cell? ⟨w.heap.size + 1, 1, none⟩ = some (.string ⟨f.tl.toArray⟩) := HG.out.cell 1 _ rfl
  have k1f := HG.out.fz 1
  go_upto_region 30 with fail
  rw [HXD.out]
  have hTl : (L.drop i).length ≤ 200 := by rw [List.length_drop, HSZ.out]; omega
  have HLL : Hid (L.length = s.size) := HSZ.out
  generalize L.drop i = T at HO2 hTl ⊢
  have HG2 : Hid (RmB (wc.setCell ⟨w.heap.size + 1, 1, none⟩ (.string ⟨T.toArray⟩)) (w.heap.size + 1) { f with tl := T }) := HG.out.s1 T
  have HZ2 : Hid (RmB (wc.setCell ⟨w.heap.size + 1, 1, none⟩ (.string ⟨T.toArray⟩)) w.heap.size rm0) := HZ.out.other (by omega)
  have HB2 : Hid (Below w.heap.size w (wc.setCell ⟨w.heap.size + 1, 1, none⟩ (.string ⟨T.toArray⟩))) := HB.out.setCell (by show w.heap.size ≤ w.heap.size + 1; omega) _
  generalize wc.setCell ⟨w.heap.size + 1, 1, none⟩ (.string ⟨T.toArray⟩) = w2 at HG2 HZ2 HB2 ⊢
  clear k1 k1f HG HZ HB HXD HXT HNX HSZ
  have HBT : Hid (∀ j (h : j < (⟨T.toArray⟩ : ByteArray).size), (((⟨T.toArray⟩ : ByteArray)[j].toNat : Nat) : Int) = (btN T j : Int)) := fun j h => by rw [btN_str ⟨T.toArray⟩ j h]
  have hTs : (⟨T.toArray⟩ : ByteArray).size = T.length := by rw [Lib.size_eq]
  have HSG := Lib.hid (fun j W => rsign_any (btN T j) W)
  have d1 : w2.cell? ⟨w.heap.size + 1, 1, none⟩ = some (.string ⟨T.toArray⟩) := HG2.out.cell 1 _ rfl
  go_wp2_with fail
  go_loopg [10] T.length (fun gm v wr => wr = w2 ∧ ∃ k : Nat, k + gm = T.length ∧ v = .int .i64 k ∧ noS (T.drop k) = noS T)
  case atStart => exact ⟨rfl, 0, by omega, rfl, rfl⟩
  case round =>
    obtain ⟨rfl, k, hkg, rfl, hns⟩ := hrel
    have HNS := Lib.hid hns
    clear hns
    by_cases hlt : k < T.length
    · have hli : (k : Int) < (T.length : Int) := by omega
      have hb := HBT.out k (by rw [hTs]; exact hlt)
      have HS := Lib.hid (fun W => HSG.out k W)
      have HAT := Lib.hid (noS_at hlt)
      generalize btN T k = c at hb HS HAT
      obtain ⟨o, ho⟩ : ∃ o, sgB c = o := ⟨_, rfl⟩
      rw [ho] at HS HAT
      clear ho
      cases o
      · have HR : Hid (noS (T.drop (k + 1)) = noS T) := by unfold Hid; rw [← HNS.out, HAT.out]; rfl
        clear HNS HAT
        go_wp2_with fail
        refine (HS.out _).mono ?_
        rintro e wq ⟨rfl, hwq⟩
        rw [← hwq]
        clear hwq wq
        go_wp2_with fail
        go_roundg (gk - 1)
        case measure => omega
        case rel => exact ⟨rfl, k + 1, by omega, by go_num, HR.out⟩
      · have HNO : Hid (O = none) := by
          unfold Hid
          have : noS T = false := by rw [← HNS.out, HAT.out]; rfl
          rw [HO2.out]
          exact if_pos (.inl this)
        clear HNS HAT HO2
        go_wp2_with fail
        refine (HS.out _).mono ?_
        rintro e wq ⟨rfl, hwq⟩
        rw [← hwq]
        clear hwq wq
        go_upto_region 34 with fail
        refine wp_region_lit ?_
        refine wpList_plain rfl fun K hK => ?_
        go_simp
        refine hK _ _ ?_
        clear hK K
        refine wpList_store_mid (by rfl) _ _ _ (by rfl) w.heap.size 0 #[.string ⟨#[]⟩, .string ⟨#[]⟩, .int .i64 0, .int .i64 0, .int .i64 0, .int .i64 0, .bool false, .bool false] (by rfl) (by rfl) (block_there HZ2.out 8 (Nat.le_refl _)) (by kernel_rfl) (by simp [Value.oneCell']) ?_
        have hs8 : Hid (RmB (wr.setCells w.heap.size 0 #[.string ⟨#[]⟩, .string ⟨#[]⟩, .int .i64 0, .int .i64 0, .int .i64 0, .int .i64 0, .bool false, .bool false].toList) w.heap.size rm0) := store_block HZ2.out _ rfl
        have hb8 : Hid (Below w.heap.size w (wr.setCells w.heap.size 0 #[.string ⟨#[]⟩, .string ⟨#[]⟩, .int .i64 0, .int .i64 0, .int .i64 0, .int .i64 0, .bool false, .bool false].toList)) := store_below (Nat.le_refl _) _ _ _ HB2.out
        generalize wr.setCells w.heap.size 0 #[.string ⟨#[]⟩, .string ⟨#[]⟩, .int .i64 0, .int .i64 0, .int .i64 0, .int .i64 0, .bool false, .bool false].toList = w9 at hs8 hb8 ⊢
        go_simp
        iterate 6 (first | go_values | go_skip | go_guarded | go_step | go_upon)
        apply wp_ret
        try simp only [Exit.inBlock, Exit.then]
        have e0 : w9.cell? ⟨w.heap.size, 0, none⟩ = some (.string ⟨#[]⟩) := hs8.out.cell 0 _ rfl
        have e1 : w9.cell? ⟨w.heap.size, 1, none⟩ = some (.string ⟨#[]⟩) := hs8.out.cell 1 _ rfl
        have e2 : w9.cell? ⟨w.heap.size, 2, none⟩ = some (.int .i64 0) := hs8.out.cell 2 _ rfl
        have e3 : w9.cell? ⟨w.heap.size, 3, none⟩ = some (.int .i64 0) := hs8.out.cell 3 _ rfl
        have e4 : w9.cell? ⟨w.heap.size, 4, none⟩ = some (.int .i64 0) := hs8.out.cell 4 _ rfl
        have e5 : w9.cell? ⟨w.heap.size, 5, none⟩ = some (.int .i64 0) := hs8.out.cell 5 _ rfl
        have e6 : w9.cell? ⟨w.heap.size, 6, none⟩ = some (.bool false) := hs8.out.cell 6 _ rfl
        have e7 : w9.cell? ⟨w.heap.size, 7, none⟩ = some (.bool false) := hs8.out.cell 7 _ rfl
        refine bodyPost_ret (v := .tuple #[.agg #[.string ⟨#[]⟩, .string ⟨#[]⟩, .int .i64 0, .int .i64 0, .int .i64 0, .int .i64 0, .bool false, .bool false], .bool false]) (by simp only [results, Tryd.results8]; go_simp) rfl ⟨by rw [HNO.out]; exact rfl, hb8.out⟩
    · obtain rfl : k = T.length := by omega
      have hli : ¬ (T.length : Int) < (T.length : Int) := by omega
      have HT : Hid (noS T = true) := by
        unfold Hid
        rw [← HNS.out, List.drop_eq_nil_of_le (Nat.le_refl _)]
        rfl
      clear HNS HBT HSG
      have d2 : wr.cell? ⟨w.heap.size + 1, 2, none⟩ = some (.int .i64 (f.a0 : Nat)) := HG2.out.cell 2 _ rfl
      have d3 : wr.cell? ⟨w.heap.size + 1, 3, none⟩ = some (.int .i64 (f.a1 : Nat)) := HG2.out.cell 3 _ rfl
      have d4 : wr.cell? ⟨w.heap.size + 1, 4, none⟩ = some (.int .i64 (f.r0 : Nat)) := HG2.out.cell 4 _ rfl
      have d5 : wr.cell? ⟨w.heap.size + 1, 5, none⟩ = some (.int .i64 (f.r1 : Nat)) := HG2.out.cell 5 _ rfl
      obtain ⟨bad, hbad⟩ : ∃ bad, decide (64 < s.size ∨ f.a0 + f.a1 = 0 ∨ 6 < f.r0 + f.r1 ∨ (0 ≤ pz ∧ f.r0 + f.r1 = 0)) = bad := ⟨_, rfl⟩
      have HBAD := Lib.hid hbad
      clear hbad
      have HO3 : Hid (O = if bad = true then none else some { f with tl := T }) := by
        unfold Hid
        rw [HO2.out, ← HBAD.out]
        have e : (noS T = false ∨ 64 < L.length ∨ f.a0 + f.a1 = 0 ∨ 6 < f.r0 + f.r1 ∨ (pt = true ∧ f.r0 + f.r1 = 0)) ↔ (64 < s.size ∨ f.a0 + f.a1 = 0 ∨ 6 < f.r0 + f.r1 ∨ (0 ≤ pz ∧ f.r0 + f.r1 = 0)) := by
          rw [HT.out, HLL.out, HPZ.out, decide_eq_true_eq]
          simp
        unfold rfE
        simp only [e, decide_eq_true_eq]
      clear HO2 HT HLL HPZ
      go_upto_region 36 with fail
      go_cut [210] (fun v wx => v = .bool bad ∧ wx = wr)
      case first =>
        by_cases c1 : 64 < s.size
        · have i1 : (64 : Int) < (s.size : Int) := by omega
          have HS : Hid (bad = true) := by unfold Hid; rw [← HBAD.out]; exact decide_eq_true (.inl c1)
          clear HBAD HO3 c1
          go_wp2_with fail
          go_meet
          exact ⟨by rw [HS.out], rfl⟩
        · have i1 : ¬ (64 : Int) < (s.size : Int) := by omega
          by_cases c2 : f.a0 + f.a1 = 0
          · have i2 : (((f.a0 : Int) + (f.a1 : Int)) == 0) = true := by simp; omega
            have HS : Hid (bad = true) := by unfold Hid; rw [← HBAD.out]; exact decide_eq_true (.inr (.inl c2))
            clear HBAD HO3 c1 c2
            go_wp2_with fail
            go_meet
            exact ⟨by rw [HS.out], rfl⟩
          · have i2 : (((f.a0 : Int) + (f.a1 : Int)) == 0) = false := by simp; omega
            by_cases c3 : 6 < f.r0 + f.r1
            · have i3 : (6 : Int) < (f.r0 : Int) + (f.r1 : Int) := by omega
              have HS : Hid (bad = true) := by unfold Hid; rw [← HBAD.out]; exact decide_eq_true (.inr (.inr (.inl c3)))
              clear HBAD HO3 c1 c2 c3
              go_wp2_with fail
              go_meet
              exact ⟨by rw [HS.out], rfl⟩
            · have i3 : ¬ (6 : Int) < (f.r0 : Int) + (f.r1 : Int) := by omega
              by_cases c4 : 0 ≤ pz
              · by_cases c5 : f.r0 + f.r1 = 0
                · have i5 : (((f.r0 : Int) + (f.r1 : Int)) == 0) = true := by simp; omega
                  have HS : Hid (bad = true) := by unfold Hid; rw [← HBAD.out]; exact decide_eq_true (.inr (.inr (.inr ⟨c4, c5⟩)))
                  clear HBAD HO3 c1 c2 c3 c5
                  go_wp2_with fail
                  go_meet
                  exact ⟨by rw [HS.out], rfl⟩
                · have i5 : (((f.r0 : Int) + (f.r1 : Int)) == 0) = false := by simp; omega
                  have HS : Hid (bad = false) := by unfold Hid; rw [← HBAD.out]; exact decide_eq_false (by rintro (h | h | h | h); exact c1 h; exact c2 h; exact c3 h; exact c5 h.2)
                  clear HBAD HO3 c1 c2 c3 c5
                  go_wp2_with fail
                  go_meet
                  exact ⟨by rw [HS.out], rfl⟩
              · have HS : Hid (bad = false) := by unfold Hid; rw [← HBAD.out]; exact decide_eq_false (by rintro (h | h | h | h); exact c1 h; exact c2 h; exact c3 h; exact c4 h.1)
                have i4 : pz < 0 := by omega
                clear HBAD HO3 c1 c2 c3 c4
                go_wp2_with fail
                go_meet
                exact ⟨by rw [HS.out], rfl⟩
      case rest =>
      obtain ⟨rfl, hwr⟩ := hcut
      rw [hwr]
      clear hwr
      cases bad
      · have HNO : Hid (O = some { f with tl := T }) := by unfold Hid; rw [HO3.out]; rfl
        clear HO3 HBAD
        go_upto_region 38 with fail
        refine wp_region_lit ?_
        refine wpList_load_mid (by rfl) _ _ (by rfl) (w.heap.size + 1) 0 (by rfl) [.string ⟨f.hd.toArray⟩, .string ⟨T.toArray⟩, .int .i64 (f.a0 : Nat), .int .i64 (f.a1 : Nat), .int .i64 (f.r0 : Nat), .int .i64 (f.r1 : Nat), .bool f.cm, .bool f.pc] _ (block_range HG2.out [.string ⟨f.hd.toArray⟩, .string ⟨T.toArray⟩, .int .i64 (f.a0 : Nat), .int .i64 (f.a1 : Nat), .int .i64 (f.r0 : Nat), .int .i64 (f.r1 : Nat), .bool f.cm, .bool f.pc] rfl) Tryd.underlying30 rfl (by kernel_rfl) ?_
        refine wpList_store_mid (by rfl) _ _ _ (by rfl) w.heap.size 0 #[.string ⟨f.hd.toArray⟩, .string ⟨T.toArray⟩, .int .i64 (f.a0 : Nat), .int .i64 (f.a1 : Nat), .int .i64 (f.r0 : Nat), .int .i64 (f.r1 : Nat), .bool f.cm, .bool f.pc] (by rfl) (by rfl) (block_there HZ2.out 8 (Nat.le_refl _)) (by kernel_rfl) (by simp [Value.oneCell']) ?_
        have hs8 : Hid (RmB (wr.setCells w.heap.size 0 #[.string ⟨f.hd.toArray⟩, .string ⟨T.toArray⟩, .int .i64 (f.a0 : Nat), .int .i64 (f.a1 : Nat), .int .i64 (f.r0 : Nat), .int .i64 (f.r1 : Nat), .bool f.cm, .bool f.pc].toList) w.heap.size { f with tl := T }) := store_block HZ2.out _ rfl
        have hb8 : Hid (Below w.heap.size w (wr.setCells w.heap.size 0 #[.string ⟨f.hd.toArray⟩, .string ⟨T.toArray⟩, .int .i64 (f.a0 : Nat), .int .i64 (f.a1 : Nat), .int .i64 (f.r0 : Nat), .int .i64 (f.r1 : Nat), .bool f.cm, .bool f.pc].toList)) := store_below (Nat.le_refl _) _ _ _ HB2.out
        generalize wr.setCells w.heap.size 0 #[.string ⟨f.hd.toArray⟩, .string ⟨T.toArray⟩, .int .i64 (f.a0 : Nat), .int .i64 (f.a1 : Nat), .int .i64 (f.r0 : Nat), .int .i64 (f.r1 : Nat), .bool f.cm, .bool f.pc].toList = w9 at hs8 hb8 ⊢
        go_simp
        iterate 6 (first | go_values | go_skip | go_guarded | go_step | go_upon)
        apply wp_ret
        try simp only [Exit.inBlock, Exit.then]
        have e0 : w9.cell? ⟨w.heap.size, 0, none⟩ = some (.string ⟨f.hd.toArray⟩) := hs8.out.cell 0 _ rfl
        have e1 : w9.cell? ⟨w.heap.size, 1, none⟩ = some (.string ⟨T.toArray⟩) := hs8.out.cell 1 _ rfl
        have e2 : w9.cell? ⟨w.heap.size, 2, none⟩ = some (.int .i64 (f.a0 : Nat)) := hs8.out.cell 2 _ rfl
        have e3 : w9.cell? ⟨w.heap.size, 3, none⟩ = some (.int .i64 (f.a1 : Nat)) := hs8.out.cell 3 _ rfl
        have e4 : w9.cell? ⟨w.heap.size, 4, none⟩ = some (.int .i64 (f.r0 : Nat)) := hs8.out.cell 4 _ rfl
        have e5 : w9.cell? ⟨w.heap.size, 5, none⟩ = some (.int .i64 (f.r1 : Nat)) := hs8.out.cell 5 _ rfl
        have e6 : w9.cell? ⟨w.heap.size, 6, none⟩ = some (.bool f.cm) := hs8.out.cell 6 _ rfl
        have e7 : w9.cell? ⟨w.heap.size, 7, none⟩ = some (.bool f.pc) := hs8.out.cell 7 _ rfl
        refine bodyPost_ret (v := .tuple #[.agg #[.string ⟨f.hd.toArray⟩, .string ⟨T.toArray⟩, .int .i64 (f.a0 : Nat), .int .i64 (f.a1 : Nat), .int .i64 (f.r0 : Nat), .int .i64 (f.r1 : Nat), .bool f.cm, .bool f.pc], .bool true]) (by simp only [results, Tryd.results8]; go_simp) rfl ⟨by rw [HNO.out]; exact rfl, hb8.out⟩
      · have HNO : Hid (O = none) := by unfold Hid; rw [HO3.out]; rfl
        clear HO3 HBAD
        go_upto_region 37 with fail
        refine wp_region_lit ?_
        refine wpList_plain rfl fun K hK => ?_
        go_simp
        refine hK _ _ ?_
        clear hK K
        refine wpList_store_mid (by rfl) _ _ _ (by rfl) w.heap.size 0 #[.string ⟨#[]⟩, .string ⟨#[]⟩, .int .i64 0, .int .i64 0, .int .i64 0, .int .i64 0, .bool false, .bool false] (by rfl) (by rfl) (block_there HZ2.out 8 (Nat.le_refl _)) (by kernel_rfl) (by simp [Value.oneCell']) ?_
        have hs8 : Hid (RmB (wr.setCells w.heap.size 0 #[.string ⟨#[]⟩, .string ⟨#[]⟩, .int .i64 0, .int .i64 0, .int .i64 0, .int .i64 0, .bool false, .bool false].toList) w.heap.size rm0) := store_block HZ2.out _ rfl
        have hb8 : Hid (Below w.heap.size w (wr.setCells w.heap.size 0 #[.string ⟨#[]⟩, .string ⟨#[]⟩, .int .i64 0, .int .i64 0, .int .i64 0, .int .i64 0, .bool false, .bool false].toList)) := store_below (Nat.le_refl _) _ _ _ HB2.out
        generalize wr.setCells w.heap.size 0 #[.string ⟨#[]⟩, .string ⟨#[]⟩, .int .i64 0, .int .i64 0, .int .i64 0, .int .i64 0, .bool false, .bool false].toList = w9 at hs8 hb8 ⊢
        go_simp
        iterate 6 (first | go_values | go_skip | go_guarded | go_step | go_upon)
        apply wp_ret
        try simp only [Exit.inBlock, Exit.then]
        have e0 : w9.cell? ⟨w.heap.size, 0, none⟩ = some (.string ⟨#[]⟩) := hs8.out.cell 0 _ rfl
        have e1 : w9.cell? ⟨w.heap.size, 1, none⟩ = some (.string ⟨#[]⟩) := hs8.out.cell 1 _ rfl
        have e2 : w9.cell? ⟨w.heap.size, 2, none⟩ = some (.int .i64 0) := hs8.out.cell 2 _ rfl
        have e3 : w9.cell? ⟨w.heap.size, 3, none⟩ = some (.int .i64 0) := hs8.out.cell 3 _ rfl
        have e4 : w9.cell? ⟨w.heap.size, 4, none⟩ = some (.int .i64 0) := hs8.out.cell 4 _ rfl
        have e5 : w9.cell? ⟨w.heap.size, 5, none⟩ = some (.int .i64 0) := hs8.out.cell 5 _ rfl
        have e6 : w9.cell? ⟨w.heap.size, 6, none⟩ = some (.bool false) := hs8.out.cell 6 _ rfl
        have e7 : w9.cell? ⟨w.heap.size, 7, none⟩ = some (.bool false) := hs8.out.cell 7 _ rfl
        refine bodyPost_ret (v := .tuple #[.agg #[.string ⟨#[]⟩, .string ⟨#[]⟩, .int .i64 0, .int .i64 0, .int .i64 0, .int .i64 0, .bool false, .bool false], .bool false]) (by simp only [results, Tryd.results8]; go_simp) rfl ⟨by rw [HNO.out]; exact rfl, hb8.out⟩
end Go.Proofs.YteknbdodihfbeaaDoor
