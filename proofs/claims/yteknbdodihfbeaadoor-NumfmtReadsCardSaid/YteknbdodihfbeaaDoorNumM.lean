/- Numfmt: the walks of the laws. Printed by gen_numm.py. -/
import Derived.Test.YteknbdodihfbeaaDoorNumL
import Derived.Test.YteknbdodihfbeaaDoorNumF
set_option linter.unusedSimpArgs false
set_option linter.unusedVariables false
namespace Go.Proofs.YteknbdodihfbeaaDoor
open Go.RowKit Go.Joins

theorem whF_le : ∀ (l : Bs) (first cm : Bool) (n : Nat) (cm' : Bool) (n' : Nat), whF first l cm n = some (cm', n') → n' ≤ n + l.length
  | [], _, _, _, _, _, h => by
    injection h with h
    injection h with h1 h2
    show _ ≤ _ + 0
    omega
  | c :: r, first, cm, n, cm', n', h => by
    rw [whF] at h
    rw [List.length_cons]
    by_cases h1 : c.toNat = 44
    · rw [if_pos h1] at h
      by_cases h2 : cm = true ∨ first = true ∨ r = []
      · rw [if_pos h2] at h
        cases h
      · rw [if_neg h2] at h
        have := whF_le r _ _ _ _ _ h
        omega
    · rw [if_neg h1] at h
      by_cases h2 : c.toNat = 35 ∧ 0 < n
      · rw [if_pos h2] at h
        cases h
      · rw [if_neg h2] at h
        by_cases h3 : c.toNat = 48
        · rw [if_pos h3] at h
          have := whF_le r _ _ _ _ _ h
          omega
        · rw [if_neg h3] at h
          by_cases h4 : c.toNat = 35
          · rw [if_pos h4] at h
            have := whF_le r _ _ _ _ _ h
            omega
          · rw [if_neg h4] at h
            cases h
/-- How great a pattern is. -/
theorem prs_bd {L : Bs} {f : Fm} (h : prsP L = some f) : f.n ≤ 64 ∧ f.p ≤ 6 ∧ f.o ≤ 6 ∧ f.hd.length ≤ 200 ∧ f.tl.length ≤ 200 := by
  unfold prsP prs1 at h
  have hle := lefB_le L
  by_cases hn : noS (L.drop (toN L)) = true
  · rw [if_pos hn] at h
    by_cases h64 : L.length ≤ 64
    · rw [if_pos h64] at h
      have hd : (L.take (frN L)).length ≤ 200 := by rw [List.length_take]; omega
      have ht : (L.drop (toN L)).length ≤ 200 := by rw [List.length_drop]; omega
      cases hW : whF true (lefB L).1 false 0 with
      | none => rw [hW] at h; cases h
      | some cn =>
        obtain ⟨cm, n⟩ := cn
        have hnl := whF_le _ _ _ _ _ _ hW
        rw [hW] at h
        simp only [] at h
        by_cases hl : (lefB L).1 = []
        · rw [if_pos hl] at h; cases h
        · rw [if_neg hl] at h
          by_cases hp : (lefB L).2.2 = false
          · rw [if_pos hp] at h
            injection h with h
            subst h
            exact ⟨by show n ≤ 64; omega, by show 0 ≤ 6; omega, by show 0 ≤ 6; omega, hd, ht⟩
          · rw [if_neg hp] at h
            cases hP : ptF (lefB L).2.1 0 0 with
            | none => rw [hP] at h; cases h
            | some po =>
              obtain ⟨p, o⟩ := po
              rw [hP] at h
              simp only [] at h
              by_cases hb : (lefB L).2.1 = [] ∨ 6 < p + o
              · rw [if_pos hb] at h; cases h
              · rw [if_neg hb] at h
                injection h with h
                subst h
                exact ⟨by show n ≤ 64; omega, by show p ≤ 6; omega, by show o ≤ 6; omega, hd, ht⟩
    · rw [if_neg h64] at h
      cases h
  · rw [if_neg hn] at h
    cases h

set_option maxRecDepth 100000 in
set_option maxHeartbeats 4000000 in
theorem reads_walk (s : ByteArray) (w : World) (hsh : w.ShapedOpen Tryd.prog) :
    Calls Tryd.prog 3 #[.string s] w fun e w' => e = .returned (.bool true) ∧ Below w.heap.size w w' := by
  have HSH := Lib.hid hsh
  clear hsh
  by_cases hs : s.size ≤ 200
  case neg =>
    have hi : (200 : Int) < (s.size : Int) := by omega
    go_enter Tryd.func3, Tryd.ntmps3
    go_wp2_with fail
    refine (awake_any _ HSH.out).mono ?_
    rintro e w1 ⟨rfl, hb1⟩
    go_wp2_with fail
    go_ret
    exact ⟨rfl, hb1⟩
  have hi : ¬ (200 : Int) < (s.size : Int) := by omega
  have hsame := prs_same s.data.toList
  cases hR : rprs s.data.toList with
  | none =>
    rw [hR] at hsame
    have HP := Lib.hid (fun W hW => parse_fm s hs W hW none hsame.symm)
    have HQ := Lib.hid (fun W => rparse_loop s hs W none hR)
    clear hsame hR
    go_enter Tryd.func3, Tryd.ntmps3
    go_wp2_with fail
    refine (HP.out _ HSH.out).mono ?_
    rintro e w1 ⟨he1, hb1⟩
    have HB1 := Lib.hid hb1
    clear hb1
    obtain rfl : e = Ending.returned (.tuple #[.agg #[.string ⟨#[]⟩, .string ⟨#[]⟩, .int .i64 0, .int .i64 0, .int .i64 0, .bool false, .bool false], .int .i64 21]) := he1
    go_upto_region 4 with fail
    have hf1 := Lib.hid (heap_alloc_new w1 (.cells #[.string ⟨#[]⟩, .string ⟨#[]⟩, .int .i64 0, .int .i64 0, .int .i64 0, .bool false, .bool false] tFm))
    have HB2 : Hid (Below w.heap.size w (w1.alloc (.cells #[.string ⟨#[]⟩, .string ⟨#[]⟩, .int .i64 0, .int .i64 0, .int .i64 0, .bool false, .bool false] tFm))) := HB1.out.alloc HB1.out.size _
    generalize w1.alloc (.cells #[.string ⟨#[]⟩, .string ⟨#[]⟩, .int .i64 0, .int .i64 0, .int .i64 0, .bool false, .bool false] tFm) = w2 at hf1 HB2 ⊢
    generalize w1.heap.size = g1 at hf1 ⊢
    clear HB1
    go_wp2_with fail
    refine (HQ.out _).mono ?_
    rintro e w3 ⟨he3, hb3⟩
    have HB3 : Hid (Below w.heap.size w w3) := bel_call hb3 HB2.out HB2.out.size
    have hf3 : Hid (w3.heap[g1]? = some (.cells #[.string ⟨#[]⟩, .string ⟨#[]⟩, .int .i64 0, .int .i64 0, .int .i64 0, .bool false, .bool false] tFm (0, 0))) := (hb3.block g1 (lt_some hf1.out)).trans hf1.out
    clear hb3 hf1 HB2
    obtain rfl : e = Ending.returned (.tuple #[.agg #[.string ⟨#[]⟩, .string ⟨#[]⟩, .int .i64 0, .int .i64 0, .int .i64 0, .int .i64 0, .bool false, .bool false], .bool false]) := he3
    go_upto_region 5 with fail
    have hg4 := Lib.hid (heap_alloc_new w3 (.cells #[.string ⟨#[]⟩, .string ⟨#[]⟩, .int .i64 0, .int .i64 0, .int .i64 0, .int .i64 0, .bool false, .bool false] tRm))
    have hbn : Below w3.heap.size w3 (w3.alloc (.cells #[.string ⟨#[]⟩, .string ⟨#[]⟩, .int .i64 0, .int .i64 0, .int .i64 0, .int .i64 0, .bool false, .bool false] tRm)) := by (repeat' (first | (with_reducible exact Below.refl _ _) | (with_reducible assumption) | (with_reducible refine Below.alloc ?_ ?_ _) | (with_reducible refine bel_drewN ?_ _) | (with_reducible refine Below.drew ?_) | (with_reducible refine Below.setCell ?_ ?_ _) | (with_reducible refine bel_call ‹_› ?_ ?_) | go_size))
    have HB4 : Hid (Below w.heap.size w (w3.alloc (.cells #[.string ⟨#[]⟩, .string ⟨#[]⟩, .int .i64 0, .int .i64 0, .int .i64 0, .int .i64 0, .bool false, .bool false] tRm))) := bel_call hbn HB3.out HB3.out.size
    have hf4 : Hid ((w3.alloc (.cells #[.string ⟨#[]⟩, .string ⟨#[]⟩, .int .i64 0, .int .i64 0, .int .i64 0, .int .i64 0, .bool false, .bool false] tRm)).heap[g1]? = some (.cells #[.string ⟨#[]⟩, .string ⟨#[]⟩, .int .i64 0, .int .i64 0, .int .i64 0, .bool false, .bool false] tFm (0, 0))) := (hbn.block g1 (lt_some hf3.out)).trans hf3.out
    clear hbn
    generalize w3.alloc (.cells #[.string ⟨#[]⟩, .string ⟨#[]⟩, .int .i64 0, .int .i64 0, .int .i64 0, .int .i64 0, .bool false, .bool false] tRm) = w4 at hg4 HB4 hf4 ⊢
    generalize w3.heap.size = g2 at hg4 ⊢
    clear HB3 hf3
    go_wp2_with fail
    refine (awake_any _ (shaped_below HSH.out HB4.out)).mono ?_
    rintro e w5 ⟨rfl, hb5⟩
    have HB5 : Hid (Below w.heap.size w w5) := bel_call hb5 HB4.out HB4.out.size
    clear hb5
    go_wp2_with fail
    go_ret
    exact ⟨rfl, HB5.out⟩
  | some r =>
    rw [hR] at hsame
    obtain ⟨hd, tl, n, a1, p, o, cm, pc⟩ := r
    have HP := Lib.hid (fun W hW => parse_fm s hs W hW (some ⟨hd, tl, n, p, o, cm, pc⟩) hsame.symm)
    have HQ := Lib.hid (fun W => rparse_loop s hs W (some ⟨hd, tl, n, a1, p, o, cm, pc⟩) hR)
    clear hsame hR
    go_enter Tryd.func3, Tryd.ntmps3
    go_wp2_with fail
    refine (HP.out _ HSH.out).mono ?_
    rintro e w1 ⟨he1, hb1⟩
    have HB1 := Lib.hid hb1
    clear hb1
    obtain rfl : e = Ending.returned (.tuple #[.agg #[.string ⟨hd.toArray⟩, .string ⟨tl.toArray⟩, .int .i64 (n : Nat), .int .i64 (p : Nat), .int .i64 (o : Nat), .bool cm, .bool pc], .int .i64 0]) := he1
    go_upto_region 4 with fail
    have hf1 := Lib.hid (heap_alloc_new w1 (.cells #[.string ⟨hd.toArray⟩, .string ⟨tl.toArray⟩, .int .i64 (n : Nat), .int .i64 (p : Nat), .int .i64 (o : Nat), .bool cm, .bool pc] tFm))
    have HB2 : Hid (Below w.heap.size w (w1.alloc (.cells #[.string ⟨hd.toArray⟩, .string ⟨tl.toArray⟩, .int .i64 (n : Nat), .int .i64 (p : Nat), .int .i64 (o : Nat), .bool cm, .bool pc] tFm))) := HB1.out.alloc HB1.out.size _
    generalize w1.alloc (.cells #[.string ⟨hd.toArray⟩, .string ⟨tl.toArray⟩, .int .i64 (n : Nat), .int .i64 (p : Nat), .int .i64 (o : Nat), .bool cm, .bool pc] tFm) = w2 at hf1 HB2 ⊢
    generalize w1.heap.size = g1 at hf1 ⊢
    clear HB1
    go_wp2_with fail
    refine (HQ.out _).mono ?_
    rintro e w3 ⟨he3, hb3⟩
    have HB3 : Hid (Below w.heap.size w w3) := bel_call hb3 HB2.out HB2.out.size
    have hf3 : Hid (w3.heap[g1]? = some (.cells #[.string ⟨hd.toArray⟩, .string ⟨tl.toArray⟩, .int .i64 (n : Nat), .int .i64 (p : Nat), .int .i64 (o : Nat), .bool cm, .bool pc] tFm (0, 0))) := (hb3.block g1 (lt_some hf1.out)).trans hf1.out
    clear hb3 hf1 HB2
    obtain rfl : e = Ending.returned (.tuple #[.agg #[.string ⟨hd.toArray⟩, .string ⟨tl.toArray⟩, .int .i64 (n : Nat), .int .i64 (a1 : Nat), .int .i64 (p : Nat), .int .i64 (o : Nat), .bool cm, .bool pc], .bool true]) := he3
    go_upto_region 5 with fail
    have hg4 := Lib.hid (heap_alloc_new w3 (.cells #[.string ⟨hd.toArray⟩, .string ⟨tl.toArray⟩, .int .i64 (n : Nat), .int .i64 (a1 : Nat), .int .i64 (p : Nat), .int .i64 (o : Nat), .bool cm, .bool pc] tRm))
    have hbn : Below w3.heap.size w3 (w3.alloc (.cells #[.string ⟨hd.toArray⟩, .string ⟨tl.toArray⟩, .int .i64 (n : Nat), .int .i64 (a1 : Nat), .int .i64 (p : Nat), .int .i64 (o : Nat), .bool cm, .bool pc] tRm)) := by (repeat' (first | (with_reducible exact Below.refl _ _) | (with_reducible assumption) | (with_reducible refine Below.alloc ?_ ?_ _) | (with_reducible refine bel_drewN ?_ _) | (with_reducible refine Below.drew ?_) | (with_reducible refine Below.setCell ?_ ?_ _) | (with_reducible refine bel_call ‹_› ?_ ?_) | go_size))
    have HB4 : Hid (Below w.heap.size w (w3.alloc (.cells #[.string ⟨hd.toArray⟩, .string ⟨tl.toArray⟩, .int .i64 (n : Nat), .int .i64 (a1 : Nat), .int .i64 (p : Nat), .int .i64 (o : Nat), .bool cm, .bool pc] tRm))) := bel_call hbn HB3.out HB3.out.size
    have hf4 : Hid ((w3.alloc (.cells #[.string ⟨hd.toArray⟩, .string ⟨tl.toArray⟩, .int .i64 (n : Nat), .int .i64 (a1 : Nat), .int .i64 (p : Nat), .int .i64 (o : Nat), .bool cm, .bool pc] tRm)).heap[g1]? = some (.cells #[.string ⟨hd.toArray⟩, .string ⟨tl.toArray⟩, .int .i64 (n : Nat), .int .i64 (p : Nat), .int .i64 (o : Nat), .bool cm, .bool pc] tFm (0, 0))) := (hbn.block g1 (lt_some hf3.out)).trans hf3.out
    clear hbn
    generalize w3.alloc (.cells #[.string ⟨hd.toArray⟩, .string ⟨tl.toArray⟩, .int .i64 (n : Nat), .int .i64 (a1 : Nat), .int .i64 (p : Nat), .int .i64 (o : Nat), .bool cm, .bool pc] tRm) = w4 at hg4 HB4 hf4 ⊢
    generalize w3.heap.size = g2 at hg4 ⊢
    clear HB3 hf3
    go_wp2_with fail
    refine (awake_any _ (shaped_below HSH.out HB4.out)).mono ?_
    rintro e w5 ⟨rfl, hb5⟩
    have HB5 : Hid (Below w.heap.size w w5) := bel_call hb5 HB4.out HB4.out.size
    clear hb5
    go_wp2_with fail
    go_ret
    exact ⟨rfl, HB5.out⟩
set_option maxRecDepth 100000 in
set_option maxHeartbeats 4000000 in
theorem writes_walk (s : ByteArray) (d : Int) (h1 : -9223372036854775808 ≤ d) (h2 : d ≤ 9223372036854775807) (w : World) (hsh : w.ShapedOpen Tryd.prog) :
    Calls Tryd.prog 4 #[.string s, .int .i64 d] w fun e w' => e = .returned (.bool true) ∧ Below w.heap.size w w' := by
  have HSH := Lib.hid hsh
  clear hsh
  by_cases hs : s.size ≤ 200
  case neg =>
    have hi : (200 : Int) < (s.size : Int) := by omega
    go_enter Tryd.func4, Tryd.ntmps4
    go_wp2_with fail
    refine (awake_any _ HSH.out).mono ?_
    rintro e w1 ⟨rfl, hb1⟩
    go_wp2_with fail
    go_ret
    exact ⟨rfl, hb1⟩
  have hi : ¬ (200 : Int) < (s.size : Int) := by omega
  have hsame := prs_same s.data.toList
  cases hR : rprs s.data.toList with
  | none =>
    rw [hR] at hsame
    have HP := Lib.hid (fun W hW => parse_fm s hs W hW none hsame.symm)
    have HQ := Lib.hid (fun W => rparse_loop s hs W none hR)
    clear hsame hR
    go_enter Tryd.func4, Tryd.ntmps4
    go_wp2_with fail
    refine (HP.out _ HSH.out).mono ?_
    rintro e w1 ⟨he1, hb1⟩
    have HB1 := Lib.hid hb1
    clear hb1
    obtain rfl : e = Ending.returned (.tuple #[.agg #[.string ⟨#[]⟩, .string ⟨#[]⟩, .int .i64 0, .int .i64 0, .int .i64 0, .bool false, .bool false], .int .i64 21]) := he1
    go_upto_region 4 with fail
    have hf1 := Lib.hid (heap_alloc_new w1 (.cells #[.string ⟨#[]⟩, .string ⟨#[]⟩, .int .i64 0, .int .i64 0, .int .i64 0, .bool false, .bool false] tFm))
    have HB2 : Hid (Below w.heap.size w (w1.alloc (.cells #[.string ⟨#[]⟩, .string ⟨#[]⟩, .int .i64 0, .int .i64 0, .int .i64 0, .bool false, .bool false] tFm))) := HB1.out.alloc HB1.out.size _
    generalize w1.alloc (.cells #[.string ⟨#[]⟩, .string ⟨#[]⟩, .int .i64 0, .int .i64 0, .int .i64 0, .bool false, .bool false] tFm) = w2 at hf1 HB2 ⊢
    generalize w1.heap.size = g1 at hf1 ⊢
    clear HB1
    go_wp2_with fail
    refine (HQ.out _).mono ?_
    rintro e w3 ⟨he3, hb3⟩
    have HB3 : Hid (Below w.heap.size w w3) := bel_call hb3 HB2.out HB2.out.size
    have hf3 : Hid (w3.heap[g1]? = some (.cells #[.string ⟨#[]⟩, .string ⟨#[]⟩, .int .i64 0, .int .i64 0, .int .i64 0, .bool false, .bool false] tFm (0, 0))) := (hb3.block g1 (lt_some hf1.out)).trans hf1.out
    clear hb3 hf1 HB2
    obtain rfl : e = Ending.returned (.tuple #[.agg #[.string ⟨#[]⟩, .string ⟨#[]⟩, .int .i64 0, .int .i64 0, .int .i64 0, .int .i64 0, .bool false, .bool false], .bool false]) := he3
    go_upto_region 5 with fail
    have hg4 := Lib.hid (heap_alloc_new w3 (.cells #[.string ⟨#[]⟩, .string ⟨#[]⟩, .int .i64 0, .int .i64 0, .int .i64 0, .int .i64 0, .bool false, .bool false] tRm))
    have hbn : Below w3.heap.size w3 (w3.alloc (.cells #[.string ⟨#[]⟩, .string ⟨#[]⟩, .int .i64 0, .int .i64 0, .int .i64 0, .int .i64 0, .bool false, .bool false] tRm)) := by (repeat' (first | (with_reducible exact Below.refl _ _) | (with_reducible assumption) | (with_reducible refine Below.alloc ?_ ?_ _) | (with_reducible refine bel_drewN ?_ _) | (with_reducible refine Below.drew ?_) | (with_reducible refine Below.setCell ?_ ?_ _) | (with_reducible refine bel_call ‹_› ?_ ?_) | go_size))
    have HB4 : Hid (Below w.heap.size w (w3.alloc (.cells #[.string ⟨#[]⟩, .string ⟨#[]⟩, .int .i64 0, .int .i64 0, .int .i64 0, .int .i64 0, .bool false, .bool false] tRm))) := bel_call hbn HB3.out HB3.out.size
    have hf4 : Hid ((w3.alloc (.cells #[.string ⟨#[]⟩, .string ⟨#[]⟩, .int .i64 0, .int .i64 0, .int .i64 0, .int .i64 0, .bool false, .bool false] tRm)).heap[g1]? = some (.cells #[.string ⟨#[]⟩, .string ⟨#[]⟩, .int .i64 0, .int .i64 0, .int .i64 0, .bool false, .bool false] tFm (0, 0))) := (hbn.block g1 (lt_some hf3.out)).trans hf3.out
    clear hbn
    generalize w3.alloc (.cells #[.string ⟨#[]⟩, .string ⟨#[]⟩, .int .i64 0, .int .i64 0, .int .i64 0, .int .i64 0, .bool false, .bool false] tRm) = w4 at hg4 HB4 hf4 ⊢
    generalize w3.heap.size = g2 at hg4 ⊢
    clear HB3 hf3
    go_wp2_with fail
    refine (awake_any _ (shaped_below HSH.out HB4.out)).mono ?_
    rintro e w5 ⟨rfl, hb5⟩
    have HB5 : Hid (Below w.heap.size w w5) := bel_call hb5 HB4.out HB4.out.size
    clear hb5
    go_wp2_with fail
    go_ret
    exact ⟨rfl, HB5.out⟩
  | some r =>
    rw [hR] at hsame
    obtain ⟨hd, tl, n, a1, p, o, cm, pc⟩ := r
    have HP := Lib.hid (fun W hW => parse_fm s hs W hW (some ⟨hd, tl, n, p, o, cm, pc⟩) hsame.symm)
    have HQ := Lib.hid (fun W => rparse_loop s hs W (some ⟨hd, tl, n, a1, p, o, cm, pc⟩) hR)
    obtain ⟨hbn, hbp, hbo, hbh, hbt⟩ := prs_bd (L := s.data.toList) (f := ⟨hd, tl, n, p, o, cm, pc⟩) hsame.symm
    obtain ⟨r, hr⟩ : ∃ r, wrV bodyP ⟨hd, tl, n, p, o, cm, pc⟩ d = r := ⟨_, rfl⟩
    have HW := Lib.hid (fun W hW => nwrite_any hd tl n p o cm pc hbn hbp hbo hbh hbt d h1 h2 W hW r hr)
    have HV := Lib.hid (fun W => rwrite_any hd tl n a1 p o cm pc hbn hbp hbo hbh hbt d h1 h2 W r (by rw [← wr_same _ _ hbp]; exact hr))
    clear hsame hR hr hbn hbp hbo hbh hbt
    obtain ⟨X, k⟩ := r
    go_enter Tryd.func4, Tryd.ntmps4
    go_wp2_with fail
    refine (HP.out _ HSH.out).mono ?_
    rintro e w1 ⟨he1, hb1⟩
    have HB1 := Lib.hid hb1
    clear hb1
    obtain rfl : e = Ending.returned (.tuple #[.agg #[.string ⟨hd.toArray⟩, .string ⟨tl.toArray⟩, .int .i64 (n : Nat), .int .i64 (p : Nat), .int .i64 (o : Nat), .bool cm, .bool pc], .int .i64 0]) := he1
    go_upto_region 4 with fail
    have hf1 := Lib.hid (heap_alloc_new w1 (.cells #[.string ⟨hd.toArray⟩, .string ⟨tl.toArray⟩, .int .i64 (n : Nat), .int .i64 (p : Nat), .int .i64 (o : Nat), .bool cm, .bool pc] tFm))
    have HB2 : Hid (Below w.heap.size w (w1.alloc (.cells #[.string ⟨hd.toArray⟩, .string ⟨tl.toArray⟩, .int .i64 (n : Nat), .int .i64 (p : Nat), .int .i64 (o : Nat), .bool cm, .bool pc] tFm))) := HB1.out.alloc HB1.out.size _
    generalize w1.alloc (.cells #[.string ⟨hd.toArray⟩, .string ⟨tl.toArray⟩, .int .i64 (n : Nat), .int .i64 (p : Nat), .int .i64 (o : Nat), .bool cm, .bool pc] tFm) = w2 at hf1 HB2 ⊢
    generalize w1.heap.size = g1 at hf1 ⊢
    clear HB1
    go_wp2_with fail
    refine (HQ.out _).mono ?_
    rintro e w3 ⟨he3, hb3⟩
    have HB3 : Hid (Below w.heap.size w w3) := bel_call hb3 HB2.out HB2.out.size
    have hf3 : Hid (w3.heap[g1]? = some (.cells #[.string ⟨hd.toArray⟩, .string ⟨tl.toArray⟩, .int .i64 (n : Nat), .int .i64 (p : Nat), .int .i64 (o : Nat), .bool cm, .bool pc] tFm (0, 0))) := (hb3.block g1 (lt_some hf1.out)).trans hf1.out
    clear hb3 hf1 HB2
    obtain rfl : e = Ending.returned (.tuple #[.agg #[.string ⟨hd.toArray⟩, .string ⟨tl.toArray⟩, .int .i64 (n : Nat), .int .i64 (a1 : Nat), .int .i64 (p : Nat), .int .i64 (o : Nat), .bool cm, .bool pc], .bool true]) := he3
    go_upto_region 5 with fail
    have hg4 := Lib.hid (heap_alloc_new w3 (.cells #[.string ⟨hd.toArray⟩, .string ⟨tl.toArray⟩, .int .i64 (n : Nat), .int .i64 (a1 : Nat), .int .i64 (p : Nat), .int .i64 (o : Nat), .bool cm, .bool pc] tRm))
    have hbn : Below w3.heap.size w3 (w3.alloc (.cells #[.string ⟨hd.toArray⟩, .string ⟨tl.toArray⟩, .int .i64 (n : Nat), .int .i64 (a1 : Nat), .int .i64 (p : Nat), .int .i64 (o : Nat), .bool cm, .bool pc] tRm)) := by (repeat' (first | (with_reducible exact Below.refl _ _) | (with_reducible assumption) | (with_reducible refine Below.alloc ?_ ?_ _) | (with_reducible refine bel_drewN ?_ _) | (with_reducible refine Below.drew ?_) | (with_reducible refine Below.setCell ?_ ?_ _) | (with_reducible refine bel_call ‹_› ?_ ?_) | go_size))
    have HB4 : Hid (Below w.heap.size w (w3.alloc (.cells #[.string ⟨hd.toArray⟩, .string ⟨tl.toArray⟩, .int .i64 (n : Nat), .int .i64 (a1 : Nat), .int .i64 (p : Nat), .int .i64 (o : Nat), .bool cm, .bool pc] tRm))) := bel_call hbn HB3.out HB3.out.size
    have hf4 : Hid ((w3.alloc (.cells #[.string ⟨hd.toArray⟩, .string ⟨tl.toArray⟩, .int .i64 (n : Nat), .int .i64 (a1 : Nat), .int .i64 (p : Nat), .int .i64 (o : Nat), .bool cm, .bool pc] tRm)).heap[g1]? = some (.cells #[.string ⟨hd.toArray⟩, .string ⟨tl.toArray⟩, .int .i64 (n : Nat), .int .i64 (p : Nat), .int .i64 (o : Nat), .bool cm, .bool pc] tFm (0, 0))) := (hbn.block g1 (lt_some hf3.out)).trans hf3.out
    clear hbn
    generalize w3.alloc (.cells #[.string ⟨hd.toArray⟩, .string ⟨tl.toArray⟩, .int .i64 (n : Nat), .int .i64 (a1 : Nat), .int .i64 (p : Nat), .int .i64 (o : Nat), .bool cm, .bool pc] tRm) = w4 at hg4 HB4 hf4 ⊢
    generalize w3.heap.size = g2 at hg4 ⊢
    clear HB3 hf3
    go_upto_region 7 with fail
    refine wp_region_lit ?_
    refine wpList_load_mid (by rfl) _ _ (by rfl) g1 0 (by rfl) [.string ⟨hd.toArray⟩, .string ⟨tl.toArray⟩, .int .i64 (n : Nat), .int .i64 (p : Nat), .int .i64 (o : Nat), .bool cm, .bool pc] _ (block_range hf4.out [.string ⟨hd.toArray⟩, .string ⟨tl.toArray⟩, .int .i64 (n : Nat), .int .i64 (p : Nat), .int .i64 (o : Nat), .bool cm, .bool pc] rfl) Tryd.underlying24 rfl (by kernel_rfl) ?_
    go_simp
    go_wp2_with fail
    refine (HW.out _ (shaped_below HSH.out HB4.out)).mono ?_
    rintro e w5 ⟨he5, hb5⟩
    have HB5 : Hid (Below w.heap.size w w5) := bel_call hb5 HB4.out HB4.out.size
    have hg5 : Hid (w5.heap[g2]? = some (.cells #[.string ⟨hd.toArray⟩, .string ⟨tl.toArray⟩, .int .i64 (n : Nat), .int .i64 (a1 : Nat), .int .i64 (p : Nat), .int .i64 (o : Nat), .bool cm, .bool pc] tRm (0, 0))) := (hb5.block g2 (lt_some hg4.out)).trans hg4.out
    clear hb5 HB4 hg4 hf4
    obtain rfl : e = .returned (.tuple #[.string ⟨X.toArray⟩, .int .i64 k]) := he5
    go_upto_region 8 with fail
    refine wp_region_lit ?_
    refine wpList_load_mid (by rfl) _ _ (by rfl) g2 0 (by rfl) [.string ⟨hd.toArray⟩, .string ⟨tl.toArray⟩, .int .i64 (n : Nat), .int .i64 (a1 : Nat), .int .i64 (p : Nat), .int .i64 (o : Nat), .bool cm, .bool pc] _ (block_range hg5.out [.string ⟨hd.toArray⟩, .string ⟨tl.toArray⟩, .int .i64 (n : Nat), .int .i64 (a1 : Nat), .int .i64 (p : Nat), .int .i64 (o : Nat), .bool cm, .bool pc] rfl) Tryd.underlying30 rfl (by kernel_rfl) ?_
    go_simp
    go_wp2_with fail
    refine (HV.out _).mono ?_
    rintro e w6 ⟨he6, hb6⟩
    have HB6 : Hid (Below w.heap.size w w6) := bel_call hb6 HB5.out HB5.out.size
    clear hb6 HB5 hg5
    obtain rfl : e = .returned (.tuple #[.string ⟨X.toArray⟩, .int .i64 k]) := he6
    go_wp2_with fail
    refine (awake_any _ (shaped_below HSH.out HB6.out)).mono ?_
    rintro e w7 ⟨rfl, hb7⟩
    have HB7 : Hid (Below w.heap.size w w7) := bel_call hb7 HB6.out HB6.out.size
    clear hb7
    go_wp2_with fail
    go_ret
    exact ⟨rfl, HB7.out⟩
set_option maxRecDepth 100000 in
set_option maxHeartbeats 4000000 in
theorem plain_walk (d : Int) (h1 : -9223372036854775808 ≤ d) (h2 : d ≤ 9223372036854775807) (w : World) (hsh : w.ShapedOpen Tryd.prog) :
    Calls Tryd.prog 5 #[.int .i64 d] w fun e w' => e = .returned (.bool true) ∧ Below w.heap.size w w' := by
  have HSH := Lib.hid hsh
  have HW := Lib.hid (fun W hW => nwrite_c d h1 h2 W hW)
  have HT := Lib.hid (fun W => text_any d h1 h2 W)
  clear hsh
  go_enter Tryd.func5, Tryd.ntmps5
  go_wp2_with fail
  refine (nparse_c _ HSH.out).mono ?_
  rintro e w1 ⟨rfl, hb1⟩
  have HB1 := Lib.hid hb1
  clear hb1
  go_upto_region 2 with fail
  have hf1 := Lib.hid (heap_alloc_new w1 (.cells #[.string ⟨#[]⟩, .string ⟨#[]⟩, .int .i64 1, .int .i64 0, .int .i64 6, .bool false, .bool false] tFm))
  have HB2 : Hid (Below w.heap.size w (w1.alloc (.cells #[.string ⟨#[]⟩, .string ⟨#[]⟩, .int .i64 1, .int .i64 0, .int .i64 6, .bool false, .bool false] tFm))) := HB1.out.alloc HB1.out.size _
  generalize w1.alloc (.cells #[.string ⟨#[]⟩, .string ⟨#[]⟩, .int .i64 1, .int .i64 0, .int .i64 6, .bool false, .bool false] tFm) = w2 at hf1 HB2 ⊢
  generalize w1.heap.size = g1 at hf1 ⊢
  clear HB1
  refine wp_region_lit ?_
  refine wpList_load_mid (by rfl) _ _ (by rfl) g1 0 (by rfl) [.string ⟨#[]⟩, .string ⟨#[]⟩, .int .i64 1, .int .i64 0, .int .i64 6, .bool false, .bool false] _ (block_range hf1.out [.string ⟨#[]⟩, .string ⟨#[]⟩, .int .i64 1, .int .i64 0, .int .i64 6, .bool false, .bool false] rfl) Tryd.underlying24 rfl (by kernel_rfl) ?_
  go_simp
  go_wp2_with fail
  refine (HW.out _ (shaped_below HSH.out HB2.out)).mono ?_
  rintro e w3 ⟨rfl, hb3⟩
  have HB3 : Hid (Below w.heap.size w w3) := bel_call hb3 HB2.out HB2.out.size
  clear hb3 HB2 hf1
  go_wp2_with fail
  refine (HT.out _).mono ?_
  rintro e w4 ⟨rfl, hb4⟩
  have HB4 : Hid (Below w.heap.size w w4) := bel_call hb4 HB3.out HB3.out.size
  clear hb4 HB3
  go_wp2_with fail
  refine (awake_any _ (shaped_below HSH.out HB4.out)).mono ?_
  rintro e w5 ⟨rfl, hb5⟩
  have HB5 : Hid (Below w.heap.size w w5) := bel_call hb5 HB4.out HB4.out.size
  clear hb5
  go_wp2_with fail
  go_ret
  exact ⟨rfl, HB5.out⟩
end Go.Proofs.YteknbdodihfbeaaDoor
