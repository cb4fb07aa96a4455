/- Numfmt: the program's Parse: the walk. -/
import Derived.Test.YteknbdodihfbeaaDoorNumC
import Derived.Test.YteknbdodihfbeaaDoorDecC
set_option linter.unusedSimpArgs false
set_option linter.unusedVariables false
namespace Go.Proofs.YteknbdodihfbeaaDoor
open Go.RowKit Go.Joins
/-- What stands ahead of the tail's loop. -/
def ParS (O1 : Option Fm) (g h : Nat) (tl : Bs) (w : World) (wx : World) : Prop := (∃ f', FmB wx g f' ∧ f'.tl = tl ∧ ∀ f, O1 = some f → f' = f) ∧ FmB wx h fm0 ∧ Below w.heap.size w wx
theorem ParS.no {g h : Nat} {tl : Bs} {w wx : World} {f' : Fm} {O1 : Option Fm} (hO : O1 = none) (hf : FmB wx g f') (ht : f'.tl = tl) (h0 : FmB wx h fm0) (hb : Below w.heap.size w wx) : ParS O1 g h tl w wx := ⟨⟨f', hf, ht, fun f e => by rw [hO] at e; cases e⟩, h0, hb⟩
theorem ParS.yes {g h : Nat} {tl : Bs} {w wx : World} {f' : Fm} {O1 : Option Fm} (hO : O1 = some f') (hf : FmB wx g f') (ht : f'.tl = tl) (h0 : FmB wx h fm0) (hb : Below w.heap.size w wx) : ParS O1 g h tl w wx := ⟨⟨f', hf, ht, fun f e => by rw [hO] at e; cases e; rfl⟩, h0, hb⟩
theorem FmB.off {w w' : World} {b h : Nat} {f : Fm} (hf : FmB w h f) (ho : Off b w w') (hne : h ≠ b) : FmB w' h f := (ho.block h (lt_some hf) hne).trans hf

set_option maxRecDepth 100000 in
set_option maxHeartbeats 16000000 in
theorem parse_fm (s : ByteArray) (hs : s.size ≤ 200) (w : World) (hsh : w.ShapedOpen Tryd.prog) (O : Option Fm) (hO : prsP s.data.toList = O) :
    Calls Tryd.prog 7 #[.string s] w fun e w' => PaR O e ∧ Below w.heap.size w w' := by
  have HSZ : Hid (s.data.toList.length = s.size) := (Lib.size_eq s).symm
  have HCO := Lib.hid (fun W => core_any s (by omega) W)
  have hF : frN s.data.toList ≤ s.size := by rw [Lib.size_eq]; exact (List.takeWhile_prefix _).length_le
  have hT : toN s.data.toList ≤ s.size := by
    have h1 : rnS true (s.data.toList.drop (frN s.data.toList)) ≤ (s.data.toList.drop (frN s.data.toList)).length := (List.takeWhile_prefix _).length_le
    rw [List.length_drop, ← Lib.size_eq] at h1
    unfold toN
    omega
  have hFT : frN s.data.toList ≤ toN s.data.toList := by unfold toN; omega
  have HX1 : Hid (s.extract 0 (frN s.data.toList) = ⟨(s.data.toList.take (frN s.data.toList)).toArray⟩) := by unfold Hid; rw [mid_bytes]; rfl
  have HX2 : Hid (s.extract (toN s.data.toList) s.size = ⟨(s.data.toList.drop (toN s.data.toList)).toArray⟩) := by
    unfold Hid
    rw [mid_bytes, List.take_of_length_le (by rw [List.length_drop, ← Lib.size_eq]; exact Nat.le_refl _)]
  have HX3 : Hid (s.extract (frN s.data.toList) (toN s.data.toList) = ⟨(midB s.data.toList).toArray⟩) := by unfold Hid; rw [mid_bytes]; rfl
  have HP1 : Hid (prsP s.data.toList = O) := hO
  have hle := lefB_le s.data.toList
  rw [← Lib.size_eq] at hle
  have hml : (midB s.data.toList).length ≤ s.size := by unfold midB; simp only [List.length_take, List.length_drop, ← Lib.size_eq]; omega
  have htl := trimS_le (midB s.data.toList) [37]
  unfold prsP prs1 at HP1
  rw [← Lib.size_eq] at HP1
  have HLF : Hid (lefB s.data.toList = Lib.cut (Lib.trimSuffix (midB s.data.toList) [37]) [46]) := rfl
  clear hO
  generalize lefB s.data.toList = lf at HP1 hle HLF
  generalize midB s.data.toList = M at HX3 HP1 hml htl HLF
  generalize s.data.toList.take (frN s.data.toList) = hd at HX1 HP1
  obtain ⟨tl, htl0⟩ : ∃ tl, s.data.toList.drop (toN s.data.toList) = tl := ⟨_, rfl⟩
  have htll : tl.length ≤ s.size := by rw [← htl0, List.length_drop, ← Lib.size_eq]; omega
  rw [htl0] at HX2 HP1
  clear htl0
  generalize frN s.data.toList = F at HCO hF hFT HX1 HX3
  generalize toN s.data.toList = T at HCO hT hFT HX2 HX3
  go_enter Tryd.func7, Tryd.ntmps7
  go_wp2_with fail
  refine (HCO.out _).mono ?_
  rintro e w1 ⟨rfl, hw1⟩
  have hB1 : Hid (Below w.heap.size w w1) := by rw [← hw1]; unfold Hid; (repeat' (first | (with_reducible exact Below.refl _ _) | (with_reducible assumption) | (with_reducible refine Below.alloc ?_ ?_ _) | (with_reducible refine bel_drewN ?_ _) | (with_reducible refine Below.drew ?_) | (with_reducible refine Below.setCell ?_ ?_ _) | (with_reducible refine bel_call ‹_› ?_ ?_) | go_size))
  have hA1 : Hid (FmB w1 w.heap.size fm0) := by rw [← hw1]; exact heap_alloc_new w _
  clear hw1 HCO
  go_upto_region 2 with fail
  go_region_with (fail)
  rw [HX1.out, HX2.out]
  have hf1 : Hid (FmB (w1.alloc (.cells #[.string ⟨hd.toArray⟩, .string ⟨tl.toArray⟩, .int .i64 0, .int .i64 0, .int .i64 0, .bool false, .bool false] tFm)).drew w1.heap.size ⟨hd, tl, 0, 0, 0, false, false⟩) := FmB.below (f := ⟨hd, tl, 0, 0, 0, false, false⟩) (heap_alloc_new w1 _) (Below.drew (Below.refl _ _))
  have hA2 : Hid (FmB (w1.alloc (.cells #[.string ⟨hd.toArray⟩, .string ⟨tl.toArray⟩, .int .i64 0, .int .i64 0, .int .i64 0, .bool false, .bool false] tFm)).drew w.heap.size fm0) := hA1.out.below (Below.drew (Below.alloc (Below.refl _ _) (Nat.le_refl _) _))
  have hB2 : Hid (Below w.heap.size w (w1.alloc (.cells #[.string ⟨hd.toArray⟩, .string ⟨tl.toArray⟩, .int .i64 0, .int .i64 0, .int .i64 0, .bool false, .bool false] tFm)).drew) := Below.drew (hB1.out.alloc hB1.out.size _)
  have hg : w.heap.size < w1.heap.size := lt_some hA1.out
  generalize (w1.alloc (.cells #[.string ⟨hd.toArray⟩, .string ⟨tl.toArray⟩, .int .i64 0, .int .i64 0, .int .i64 0, .bool false, .bool false] tFm)).drew = w2 at hf1 hA2 hB2 ⊢
  generalize w1.heap.size = g at hf1 hg ⊢
  clear hB1 hA1 HX1 HX2
  have hx3 := HX3.out
  have hMs : (⟨M.toArray⟩ : ByteArray).size ≤ 200 := by rw [Lib.size_eq]; show M.length ≤ 200; omega
  have HCS := Lib.hid (Tryd.strings_CutSuffix ⟨M.toArray⟩ ⟨#[37]⟩ w2 (by omega))
  rw [show (⟨M.toArray⟩ : ByteArray).data.toList = M from rfl, show (⟨#[37]⟩ : ByteArray).data.toList = [37] from rfl] at HCS
  generalize Lib.trimSuffix M [37] = m1 at HCS htl HLF
  generalize Lib.hasSuffix M [37] = pc at HCS HP1
  go_wp2_with fail
  refine HCS.out.mono ?_
  rintro e w3 ⟨rfl, hw3⟩
  rw [hw3]
  clear hw3 w3 HCS
  have c6 : w2.cell? ⟨g, 6, none⟩ = some (.bool false) := hf1.out.cell 6 _ rfl
  have f6 := hf1.out.fz 6
  go_upto_region 5 with fail
  have hf2 : Hid (FmB (w2.setCell ⟨g, 6, none⟩ (.bool pc)) g ⟨hd, tl, 0, 0, 0, false, pc⟩) := hf1.out.setpc pc
  have hA3 : Hid (FmB (w2.setCell ⟨g, 6, none⟩ (.bool pc)) w.heap.size fm0) := (heap_setCell_other _ _ _ _ (by show w.heap.size ≠ g; omega)).trans hA2.out
  have hB3 : Hid (Below w.heap.size w (w2.setCell ⟨g, 6, none⟩ (.bool pc))) := hB2.out.setCell (by show w.heap.size ≤ g; omega) _
  clear c6 f6 hf1 hA2 hB2
  generalize w2.setCell ⟨g, 6, none⟩ (.bool pc) = w4 at hf2 hA3 hB3 ⊢
  have HCU := Lib.hid (Tryd.strings_Cut_shaped ⟨m1.toArray⟩ ⟨#[46]⟩ w4 (shaped_below hsh hB3.out) (by rw [Lib.size_eq]; show m1.length < 4294967281; omega))
  rw [show (⟨m1.toArray⟩ : ByteArray).data.toList = m1 from rfl, show (⟨#[46]⟩ : ByteArray).data.toList = [46] from rfl, ← HLF.out] at HCU
  obtain ⟨l, r, pt⟩ := lf
  have hle1 : l.length ≤ s.size := hle.1
  have hle2 : r.length ≤ s.size := hle.2
  clear hle HLF HX3 hx3
  go_wp2_with fail
  refine HCU.out.mono ?_
  rintro e w5 ⟨rfl, n5, hw5⟩
  have hd5 : Below w4.heap.size w4 w5 := by rw [hw5]; exact bel_drewN (Below.refl _ _) n5
  have hf5 := Lib.hid (hf2.out.below hd5)
  have hA5 := Lib.hid (hA3.out.below hd5)
  have hB5 : Hid (Below w.heap.size w w5) := bel_call hd5 hB3.out hB3.out.size
  clear hw5 hd5 hf2 hA3 hB3 HCU hsh
  obtain ⟨O1, hO1⟩ : ∃ O1, (if s.size ≤ 64 then
    match whF true l false 0 with
    | none => none
    | some (cm, n) =>
      if l = [] then none
      else if pt = false then some (⟨hd, tl, n, 0, 0, cm, pc⟩ : Fm)
      else match ptF r 0 0 with
        | none => none
        | some (p, o) => if r = [] ∨ 6 < p + o then none else some ⟨hd, tl, n, p, o, cm, pc⟩
    else none) = O1 := ⟨_, rfl⟩
  have HP2 : Hid ((if noS tl = true then O1 else none) = O) := by
    unfold Hid
    rw [← HP1.out, ← hO1]
    rfl
  have HO1 := Lib.hid hO1
  clear hO1 HP1
  go_upto_region 6 with fail
  go_cut [12] (fun v wx => v = .bool O1.isSome ∧ ParS O1 g w.heap.size tl w wx)
  case first =>
    have hls : (⟨l.toArray⟩ : ByteArray).size ≤ 1000 := by rw [Lib.size_eq]; show l.length ≤ 1000; omega
    have hrs : (⟨r.toArray⟩ : ByteArray).size ≤ 1000 := by rw [Lib.size_eq]; show r.length ≤ 1000; omega
    have HW := Lib.hid (whole_any ⟨l.toArray⟩ hls g ⟨hd, tl, 0, 0, 0, false, pc⟩ w5 hf5.out (by show 0 ≤ 1000; omega) (whF true l false 0) rfl)
    have HPT := Lib.hid (fun f W hf hp ho => parts_any ⟨r.toArray⟩ hrs g f W hf hp ho (ptF r f.p f.o) rfl)
    rw [show (⟨l.toArray⟩ : ByteArray).data.toList = l from rfl] at HW
    rw [show (⟨r.toArray⟩ : ByteArray).data.toList = r from rfl] at HPT
    by_cases h64 : s.size ≤ 64
    · have h64i : (s.size : Int) ≤ 64 := by omega
      have HO2 := HO1.out
      rw [if_pos h64] at HO2
      have HO2 := Lib.hid HO2
      clear HO1 h64
      generalize whF true l false 0 = OW at HW HO2
      go_wp2_with fail
      refine HW.out.mono ?_
      rintro e w6 ⟨hoff, hm⟩
      have HOF := Lib.hid hoff
      have hA6 := Lib.hid (hA5.out.off hoff (by omega))
      have hB6 : Hid (Below w.heap.size w w6) := hB5.out.trans (hoff.below (by omega) hB5.out.size)
      clear hoff HW
      cases OW with
      | none =>
        obtain ⟨rfl, f', hf', ht'⟩ := hm
        have HR : Hid (O1 = none) := HO2.out.symm
        have hf'' := Lib.hid hf'
        have ht'' := Lib.hid ht'
        clear hf' ht' HO2
        go_wp2_with fail
        go_meet
        exact ⟨by rw [HR.out]; rfl, ParS.no HR.out hf''.out ht''.out hA6.out hB6.out⟩
      | some cn =>
        obtain ⟨cm, n⟩ := cn
        obtain ⟨rfl, hf'⟩ := hm
        have hf6 : Hid (FmB w6 g ⟨hd, tl, n, 0, 0, cm, pc⟩) := hf'
        clear hf'
        by_cases hl : l = []
        · have HR : Hid (O1 = none) := by unfold Hid; rw [← HO2.out]; simp [hl]
          rw [decide_eq_false (fun h => h hl)]
          clear hl HO2
          go_wp2_with fail
          go_meet
          exact ⟨by rw [HR.out]; rfl, ParS.no HR.out hf6.out rfl hA6.out hB6.out⟩
        · rw [decide_eq_true hl]
          cases pt
          · have HR : Hid (O1 = some ⟨hd, tl, n, 0, 0, cm, pc⟩) := by unfold Hid; rw [← HO2.out]; simp [hl]
            clear hl HO2
            go_wp2_with fail
            go_meet
            exact ⟨by rw [HR.out]; rfl, ParS.yes HR.out hf6.out rfl hA6.out hB6.out⟩
          · have HP6 := Lib.hid (HPT.out ⟨hd, tl, n, 0, 0, cm, pc⟩ w6 hf6.out (by show 0 ≤ 1000; omega) (by show 0 ≤ 1000; omega))
            have HO3 : Hid (O1 = match ptF r 0 0 with | none => none | some (p, o) => if r = [] ∨ 6 < p + o then none else some ⟨hd, tl, n, p, o, cm, pc⟩) := by unfold Hid; rw [← HO2.out]; simp [hl]
            have HP7 : Hid (Calls Tryd.prog 16 #[.pointer (some ⟨g, 0, none⟩), .string ⟨r.toArray⟩] w6 (PtR g ⟨hd, tl, n, 0, 0, cm, pc⟩ r (ptF r 0 0) w6)) := HP6.out
            clear HPT HP6 HO2 hl
            generalize ptF r 0 0 = OP at HP7 HO3
            go_wp2_with fail
            refine HP7.out.mono ?_
            rintro e w7 ⟨hoff, hm⟩
            have hA7 := Lib.hid (hA6.out.off hoff (by omega))
            have hB7 : Hid (Below w.heap.size w w7) := hB6.out.trans (hoff.below (by omega) hB6.out.size)
            clear hoff HP7
            cases OP with
            | none =>
              obtain ⟨rfl, f', hf', ht'⟩ := hm
              have HR : Hid (O1 = none) := HO3.out
              have hf'' := Lib.hid hf'
              have ht'' := Lib.hid ht'
              clear hf' ht' HO3
              go_wp2_with fail
              go_meet
              exact ⟨by rw [HR.out]; rfl, ParS.no HR.out hf''.out ht''.out hA7.out hB7.out⟩
            | some po =>
              obtain ⟨pp, oo⟩ := po
              obtain ⟨rfl, hf'⟩ := hm
              have hf7 : Hid (FmB w7 g ⟨hd, tl, n, pp, oo, cm, pc⟩) := hf'
              clear hf'
              by_cases hr : r = [] ∨ 6 < pp + oo
              · have HR : Hid (O1 = none) := by unfold Hid; rw [HO3.out]; exact if_pos hr
                have hx : (decide (r ≠ []) && decide (pp + oo ≤ 6)) = false := by
                  rcases hr with h | h
                  · rw [decide_eq_false (fun h' => h' h)]; rfl
                  · rw [decide_eq_false (show ¬ pp + oo ≤ 6 by omega), Bool.and_false]
                rw [hx]
                clear hr hx HO3
                go_wp2_with fail
                go_meet
                exact ⟨by rw [HR.out]; rfl, ParS.no HR.out hf7.out rfl hA7.out hB7.out⟩
              · have HR : Hid (O1 = some ⟨hd, tl, n, pp, oo, cm, pc⟩) := by unfold Hid; rw [HO3.out]; exact if_neg hr
                have hx : (decide (r ≠ []) && decide (pp + oo ≤ 6)) = true := by
                  rw [decide_eq_true (show r ≠ [] from fun h => hr (.inl h)), decide_eq_true (show pp + oo ≤ 6 by omega)]
                  rfl
                rw [hx]
                clear hr hx HO3
                go_wp2_with fail
                go_meet
                exact ⟨by rw [HR.out]; rfl, ParS.yes HR.out hf7.out rfl hA7.out hB7.out⟩
    · have h64i : ¬ (s.size : Int) ≤ 64 := by omega
      have HR : Hid (O1 = none) := by unfold Hid; rw [← HO1.out, if_neg h64]
      clear HW HPT HO1 h64
      go_wp2_with fail
      go_meet
      exact ⟨by rw [HR.out]; rfl, ParS.no HR.out hf5.out rfl hA5.out hB5.out⟩
  case rest =>
    obtain ⟨hv, ⟨⟨f', hff, htf, himp⟩, hz0, hbw⟩⟩ := hcut
    subst hv
    have HF := Lib.hid hff
    have HIM := Lib.hid himp
    have HZ := Lib.hid hz0
    have HBW := Lib.hid hbw
    clear hff himp hz0 hbw hf5 hA5 hB5
    have d1 : wc.cell? ⟨g, 1, none⟩ = some (.string ⟨tl.toArray⟩) := by
      have := HF.out.cell 1 _ rfl
      rw [← htf]
      exact this
    have hts : (⟨tl.toArray⟩ : ByteArray).size = tl.length := by rw [Lib.size_eq]
    have hconv := fun (W : World) => Lib.run_convert_string_bytes (P := Tryd.prog) W 9 48 5 ⟨tl.toArray⟩ Tryd.underlying9 Tryd.underlying48 Tryd.underlying5
    go_wp2_with fail
    have hbb := Lib.hid (bytes_below wc ⟨tl.toArray⟩)
    have hbc := Lib.hid (bytes_cell wc ⟨tl.toArray⟩)
    rw [hts, show (⟨tl.toArray⟩ : ByteArray).data.toList = tl from rfl] at hbc
    have HF1 := Lib.hid (HF.out.below hbb.out)
    have HZ1 := Lib.hid (HZ.out.below hbb.out)
    have HB1 : Hid (Below w.heap.size w (Lib.bytesWorld wc 5 ⟨tl.toArray⟩)) := bel_call hbb.out HBW.out HBW.out.size
    generalize Lib.bytesWorld wc 5 ⟨tl.toArray⟩ = W1 at hbb hbc HF1 HZ1 HB1 ⊢
    clear hconv d1 HF HZ HBW
    go_loopg [12, 14, 62] tl.length (fun gm v12 v14 v62 wr => wr = W1 ∧ ∃ (i : Nat) (ok : Bool), i + gm = tl.length ∧ v62 = .int .i64 i ∧ v12 = .bool ok ∧ (ok && noS (tl.drop i)) = (O1.isSome && noS tl))
    case atStart => exact ⟨rfl, 0, O1.isSome, by omega, rfl, rfl, by rw [List.drop_zero]⟩
    case round =>
      obtain ⟨rfl, i, ok, hig, rfl, rfl, hok⟩ := hrel
      have HOK := Lib.hid hok
      clear hok
      by_cases hlt : i < tl.length
      · have hli : (i : Int) < (tl.length : Int) := by omega
        have hc := hbc.out i hlt
        have hd := btN_lt tl i
        have HN := Lib.hid (noS_at hlt)
        have HS := Lib.hid (fun W => nsign_any (btN tl i) hd W)
        generalize btN tl i = c at hc hd HN HS
        cases ok
        · have HR : Hid ((false && noS (tl.drop (i + 1))) = (O1.isSome && noS tl)) := by unfold Hid; rw [← HOK.out]; rfl
          go_wp2_with fail
          go_roundg (gk - 1)
          case measure => omega
          case rel => exact ⟨rfl, i + 1, false, by omega, by go_num, rfl, HR.out⟩
        · obtain ⟨o, ho⟩ : ∃ o, sgB c = o := ⟨_, rfl⟩
          rw [ho] at HS
          have HR : Hid (((!o) && noS (tl.drop (i + 1))) = (O1.isSome && noS tl)) := by unfold Hid; rw [← HOK.out, HN.out, ho, Bool.true_and]
          clear ho
          go_wp2_with fail
          refine (HS.out _).mono ?_
          rintro e w9 ⟨rfl, hw9⟩
          rw [← hw9]
          clear hw9 w9
          go_wp2_with fail
          go_roundg (gk - 1)
          case measure => omega
          case rel => exact ⟨rfl, i + 1, !o, by omega, by go_num, rfl, HR.out⟩
      · obtain rfl : i = tl.length := by omega
        have hli : ¬ (tl.length : Int) < (tl.length : Int) := by omega
        have HE : Hid (ok = (O1.isSome && noS tl)) := by
          unfold Hid
          rw [← HOK.out, List.drop_eq_nil_of_le (Nat.le_refl _)]
          simp [noS]
        have hq : ∀ j u, (fmC fm0)[j]? = some u → wr.cell? ⟨w.heap.size, j, none⟩ = some u := fun j u h => HZ1.out.cell j u h
        have z0 : wr.cell? ⟨w.heap.size, 0, none⟩ = some (.string ⟨#[]⟩) := hq 0 _ rfl
        have z1 : wr.cell? ⟨w.heap.size, 1, none⟩ = some (.string ⟨#[]⟩) := hq 1 _ rfl
        have z2 : wr.cell? ⟨w.heap.size, 2, none⟩ = some (.int .i64 0) := hq 2 _ rfl
        have z3 : wr.cell? ⟨w.heap.size, 3, none⟩ = some (.int .i64 0) := hq 3 _ rfl
        have z4 : wr.cell? ⟨w.heap.size, 4, none⟩ = some (.int .i64 0) := hq 4 _ rfl
        have z5 : wr.cell? ⟨w.heap.size, 5, none⟩ = some (.bool false) := hq 5 _ rfl
        have z6 : wr.cell? ⟨w.heap.size, 6, none⟩ = some (.bool false) := hq 6 _ rfl
        have y0 := HZ1.out.fz 0
        have y1 := HZ1.out.fz 1
        have y2 := HZ1.out.fz 2
        have y3 := HZ1.out.fz 3
        have y4 := HZ1.out.fz 4
        have y5 := HZ1.out.fz 5
        have y6 := HZ1.out.fz 6
        cases ok
        · have HR : Hid (O = none) := by
            unfold Hid
            rw [← HP2.out]
            cases O1 with
            | none => split <;> rfl
            | some f => rw [if_neg (by have := HE.out; simpa using this)]
          go_wp2_with fail
          have hs7 : Hid (FmB (((((((wr.setCell ⟨w.heap.size, 0, none⟩ (.string ⟨#[]⟩)).setCell ⟨w.heap.size, 1, none⟩ (.string ⟨#[]⟩)).setCell ⟨w.heap.size, 2, none⟩ (.int .i64 0)).setCell ⟨w.heap.size, 3, none⟩ (.int .i64 0)).setCell ⟨w.heap.size, 4, none⟩ (.int .i64 0)).setCell ⟨w.heap.size, 5, none⟩ (.bool false)).setCell ⟨w.heap.size, 6, none⟩ (.bool false)) w.heap.size fm0) := seven_set HZ1.out fm0
          have hb7 : Hid (Below w.heap.size w (((((((wr.setCell ⟨w.heap.size, 0, none⟩ (.string ⟨#[]⟩)).setCell ⟨w.heap.size, 1, none⟩ (.string ⟨#[]⟩)).setCell ⟨w.heap.size, 2, none⟩ (.int .i64 0)).setCell ⟨w.heap.size, 3, none⟩ (.int .i64 0)).setCell ⟨w.heap.size, 4, none⟩ (.int .i64 0)).setCell ⟨w.heap.size, 5, none⟩ (.bool false)).setCell ⟨w.heap.size, 6, none⟩ (.bool false))) := by
            have hz := Nat.le_refl w.heap.size
            exact ((((((HB1.out.setCell hz _).setCell hz _).setCell hz _).setCell hz _).setCell hz _).setCell hz _).setCell hz _
          generalize (((((((wr.setCell ⟨w.heap.size, 0, none⟩ (.string ⟨#[]⟩)).setCell ⟨w.heap.size, 1, none⟩ (.string ⟨#[]⟩)).setCell ⟨w.heap.size, 2, none⟩ (.int .i64 0)).setCell ⟨w.heap.size, 3, none⟩ (.int .i64 0)).setCell ⟨w.heap.size, 4, none⟩ (.int .i64 0)).setCell ⟨w.heap.size, 5, none⟩ (.bool false)).setCell ⟨w.heap.size, 6, none⟩ (.bool false)) = w9 at hs7 hb7 ⊢
          have e0 : w9.cell? ⟨w.heap.size, 0, none⟩ = some (.string ⟨#[]⟩) := hs7.out.cell 0 _ rfl
          have e1 : w9.cell? ⟨w.heap.size, 1, none⟩ = some (.string ⟨#[]⟩) := hs7.out.cell 1 _ rfl
          have e2 : w9.cell? ⟨w.heap.size, 2, none⟩ = some (.int .i64 0) := hs7.out.cell 2 _ rfl
          have e3 : w9.cell? ⟨w.heap.size, 3, none⟩ = some (.int .i64 0) := hs7.out.cell 3 _ rfl
          have e4 : w9.cell? ⟨w.heap.size, 4, none⟩ = some (.int .i64 0) := hs7.out.cell 4 _ rfl
          have e5 : w9.cell? ⟨w.heap.size, 5, none⟩ = some (.bool false) := hs7.out.cell 5 _ rfl
          have e6 : w9.cell? ⟨w.heap.size, 6, none⟩ = some (.bool false) := hs7.out.cell 6 _ rfl
          refine bodyPost_ret (v := .tuple #[.agg #[.string ⟨#[]⟩, .string ⟨#[]⟩, .int .i64 0, .int .i64 0, .int .i64 0, .bool false, .bool false], .int .i64 21]) (by simp only [results, Tryd.results7]; go_simp) rfl ⟨by rw [HR.out]; exact rfl, hb7.out⟩
        · obtain ⟨f, hf1⟩ : ∃ f, O1 = some f := by
            cases hO : O1 with
            | none => rw [hO] at HE; have := HE.out; simp at this
            | some f => exact ⟨f, rfl⟩
          have hfe := HIM.out f hf1
          have HFF : Hid (FmB wr g f) := by rw [← hfe]; exact HF1.out
          have HR : Hid (O = some f) := by
            unfold Hid
            rw [← HP2.out, if_pos, hf1]
            have := HE.out
            rw [hf1] at this
            simpa using this.symm
          have x0 : wr.cell? ⟨g, 0, none⟩ = some (.string ⟨f.hd.toArray⟩) := HFF.out.cell 0 _ rfl
          have x1 : wr.cell? ⟨g, 1, none⟩ = some (.string ⟨f.tl.toArray⟩) := HFF.out.cell 1 _ rfl
          have x2 : wr.cell? ⟨g, 2, none⟩ = some (.int .i64 (f.n : Nat)) := HFF.out.cell 2 _ rfl
          have x3 : wr.cell? ⟨g, 3, none⟩ = some (.int .i64 (f.p : Nat)) := HFF.out.cell 3 _ rfl
          have x4 : wr.cell? ⟨g, 4, none⟩ = some (.int .i64 (f.o : Nat)) := HFF.out.cell 4 _ rfl
          have x5 : wr.cell? ⟨g, 5, none⟩ = some (.bool f.cm) := HFF.out.cell 5 _ rfl
          have x6 : wr.cell? ⟨g, 6, none⟩ = some (.bool f.pc) := HFF.out.cell 6 _ rfl
          clear HF1 HIM HE hfe hf1
          go_wp2_with fail
          have hs7 : Hid (FmB (((((((wr.setCell ⟨w.heap.size, 0, none⟩ (.string ⟨f.hd.toArray⟩)).setCell ⟨w.heap.size, 1, none⟩ (.string ⟨f.tl.toArray⟩)).setCell ⟨w.heap.size, 2, none⟩ (.int .i64 (f.n : Nat))).setCell ⟨w.heap.size, 3, none⟩ (.int .i64 (f.p : Nat))).setCell ⟨w.heap.size, 4, none⟩ (.int .i64 (f.o : Nat))).setCell ⟨w.heap.size, 5, none⟩ (.bool f.cm)).setCell ⟨w.heap.size, 6, none⟩ (.bool f.pc)) w.heap.size f) := seven_set HZ1.out f
          have hb7 : Hid (Below w.heap.size w (((((((wr.setCell ⟨w.heap.size, 0, none⟩ (.string ⟨f.hd.toArray⟩)).setCell ⟨w.heap.size, 1, none⟩ (.string ⟨f.tl.toArray⟩)).setCell ⟨w.heap.size, 2, none⟩ (.int .i64 (f.n : Nat))).setCell ⟨w.heap.size, 3, none⟩ (.int .i64 (f.p : Nat))).setCell ⟨w.heap.size, 4, none⟩ (.int .i64 (f.o : Nat))).setCell ⟨w.heap.size, 5, none⟩ (.bool f.cm)).setCell ⟨w.heap.size, 6, none⟩ (.bool f.pc))) := by
            have hz := Nat.le_refl w.heap.size
            exact ((((((HB1.out.setCell hz _).setCell hz _).setCell hz _).setCell hz _).setCell hz _).setCell hz _).setCell hz _
          generalize (((((((wr.setCell ⟨w.heap.size, 0, none⟩ (.string ⟨f.hd.toArray⟩)).setCell ⟨w.heap.size, 1, none⟩ (.string ⟨f.tl.toArray⟩)).setCell ⟨w.heap.size, 2, none⟩ (.int .i64 (f.n : Nat))).setCell ⟨w.heap.size, 3, none⟩ (.int .i64 (f.p : Nat))).setCell ⟨w.heap.size, 4, none⟩ (.int .i64 (f.o : Nat))).setCell ⟨w.heap.size, 5, none⟩ (.bool f.cm)).setCell ⟨w.heap.size, 6, none⟩ (.bool f.pc)) = w9 at hs7 hb7 ⊢
          have e0 : w9.cell? ⟨w.heap.size, 0, none⟩ = some (.string ⟨f.hd.toArray⟩) := hs7.out.cell 0 _ rfl
          have e1 : w9.cell? ⟨w.heap.size, 1, none⟩ = some (.string ⟨f.tl.toArray⟩) := hs7.out.cell 1 _ rfl
          have e2 : w9.cell? ⟨w.heap.size, 2, none⟩ = some (.int .i64 (f.n : Nat)) := hs7.out.cell 2 _ rfl
          have e3 : w9.cell? ⟨w.heap.size, 3, none⟩ = some (.int .i64 (f.p : Nat)) := hs7.out.cell 3 _ rfl
          have e4 : w9.cell? ⟨w.heap.size, 4, none⟩ = some (.int .i64 (f.o : Nat)) := hs7.out.cell 4 _ rfl
          have e5 : w9.cell? ⟨w.heap.size, 5, none⟩ = some (.bool f.cm) := hs7.out.cell 5 _ rfl
          have e6 : w9.cell? ⟨w.heap.size, 6, none⟩ = some (.bool f.pc) := hs7.out.cell 6 _ rfl
          refine bodyPost_ret (v := .tuple #[.agg #[.string ⟨f.hd.toArray⟩, .string ⟨f.tl.toArray⟩, .int .i64 (f.n : Nat), .int .i64 (f.p : Nat), .int .i64 (f.o : Nat), .bool f.cm, .bool f.pc], .int .i64 0]) (by simp only [results, Tryd.results7]; go_simp) rfl ⟨by rw [HR.out]; exact rfl, hb7.out⟩
end Go.Proofs.YteknbdodihfbeaaDoor
