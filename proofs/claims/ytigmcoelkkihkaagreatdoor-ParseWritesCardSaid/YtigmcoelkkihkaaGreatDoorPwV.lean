/- The parser: 'Formula' at the text of a tree that may be read. Printed by gen_par.py. Contracts of strings.Builder's WriteString, WriteByte and String at a builder of the call's own. Trees: a builder's writers, which leave nodes alone; WriteByte, deferred. Trees over cells: a builder's writers leave nodes alone. Turned by gen_cel.py out of the texts on trees over numbers. -/
import Derived.Test.YtigmcoelkkihkaaGreatDoorPwU
import Derived.Test.YtigmcoelkkihkaaGreatDoorBase
import Derived.Test.YtigmcoelkkihkaaGreatDoorShelf
import Derived.Lib.Builder
import Derived.OwnWalk
import Derived.Laws.AppendOwnNone
import Derived.Laws.OwnMore
import Derived.Test.YtigmcoelkkihkaaGreatDoorPwC
import Derived.Defers
import Derived.Test.YtigmcoelkkihkaaGreatDoorPwN
set_option linter.unusedSimpArgs false
set_option linter.unusedVariables false
namespace Go.Proofs.YtigmcoelkkihkaaGreatDoor
open Go.RowKit Go.Joins

set_option maxRecDepth 100000 in
set_option maxHeartbeats 8000000 in
theorem formula_ok (n : Nd) (hf : Fm n) (hd : dpN n ≤ 64) (hok : OkN n) (s : ByteArray) (hs : s.data.toList = prN nmS n 1) (hl : s.size ≤ 256) (w : World) (hsh : w.ShapedOpen Tryz.prog) :
    Calls Tryz.prog 9 #[.string s] w fun e w' => (∃ p cap, e = .returned (.tuple #[.agg (Cel.ndA n p n.args.length cap), .int .i64 0]) ∧ ∀ d, dpN n ≤ d + 1 → Cel.RdP w' (fun k => w.heap.size ≤ k ∧ k < w'.heap.size) d n p n.args.length) ∧ Below w.heap.size w w' := by
  obtain ⟨Ts, x, hspl, hmap⟩ : ∃ Ts x, Tks.spl s.data.toList 0 = (some Ts, x) ∧ Ts.map tw = tkN nmS n 1 := by
    have h := tkP_tree nmS nmS_nam hf
    unfold tkP at h
    rw [← hs] at h
    cases h1 : Tks.spl s.data.toList 0 with
    | mk a b =>
      rw [h1] at h
      cases a with
      | none => cases h
      | some T => exact ⟨T, b, rfl, Option.some.inj h⟩
  have hcnt := spl_count s.data.toList _ 0 Ts x (Nat.le_refl _) hspl
  rw [← Lib.size_eq] at hcnt
  have hTl : Ts.length = (tkN nmS n 1).length := by rw [← hmap, List.length_map]
  have hT0 : 0 < Ts.length := by
    rw [hTl]
    obtain ⟨y, l, e, _⟩ := tk_first hf 1
    rw [e]
    simp
  have HAT : Hid (At Ts 0 (tkN nmS n 1 ++ [])) := by unfold Hid At; rw [List.drop_zero, hmap, List.append_nil]
  have HSP := Lib.hid (fun W => Tks.split_any s (some Ts, x) (by omega) hspl W)
  have HBI := Lib.hid (binary_any n hf)
  have HDE := Lib.hid (fun p len cap W (h : ∀ d, dpN n ≤ d + 1 → Cel.RdP W (fun k => w.heap.size < k ∧ k < W.heap.size) d n p len) => Cel.depth_any (dpN n) n p len cap W ((h (dpN n) (by omega)).rdT (fun k hk => hk.2)) hok (by omega))
  have HSH := Lib.hid hsh
  have hA0 : Hid (BlkC (w.alloc (.cells (Cel.ndA nodeZ none 0 0) Cel.tPn)) w.heap.size (Cel.ndA nodeZ none 0 0) Cel.tPn) := heap_alloc_new w _
  have hAB : Hid (Below w.heap.size w (w.alloc (.cells (Cel.ndA nodeZ none 0 0) Cel.tPn))) := by unfold Hid; (repeat' (first | (with_reducible exact Below.refl _ _) | (with_reducible assumption) | (with_reducible refine Below.alloc ?_ ?_ _) | (with_reducible refine bel_drewN ?_ _) | (with_reducible refine Below.drew ?_) | (with_reducible refine Below.setCell ?_ ?_ _) | (with_reducible refine bel_call ‹_› ?_ ?_) | go_size))
  obtain ⟨nT, hnT⟩ : ∃ n, Ts.length = n := ⟨_, rfl⟩
  have HNT := Lib.hid hnT
  have HKN : Hid ((tkN nmS n 1).length = nT) := hTl.symm.trans hnT
  rw [hnT] at hcnt hT0
  clear hs hspl hmap hsh hok hf hTl hnT
  go_enter Tryz.func9, Tryz.ntmps9
  go_upto_region 1 with fail
  have e0 : w.alloc (.cells #[.int .i64 0, .int .i64 0, .string ⟨#[]⟩, .int .i64 0, .int .i64 0, .int .i64 0, .int .i64 0, .slice none 0 0] Cel.tPn) = w.alloc (.cells (Cel.ndA nodeZ none 0 0) Cel.tPn) := rfl
  rw [e0]
  clear e0
  generalize w.alloc (.cells (Cel.ndA nodeZ none 0 0) Cel.tPn) = w0 at hA0 hAB ⊢
  go_wp2_with fail
  refine (HSP.out w0).mono ?_
  rintro e w1 ⟨hb1, p, cT, rfl, hrt⟩
  have hA1 := Lib.hid (hA0.out.below hb1)
  have hB1 : Hid (Below w.heap.size w w1) := bel_call hb1 hAB.out hAB.out.size
  obtain ⟨_, _, _, hcs⟩ := hrt
  obtain ⟨g, rfl, hg1, hgc⟩ : ∃ g, p = some ⟨g, 0, none⟩ ∧ g < w1.heap.size ∧ ∀ (j : Nat) (x : Tks.Tk), Ts[j]? = some x → w1.cell? ⟨g, j * 3, none⟩ = some (.int .i64 x.1) ∧ w1.cell? ⟨g, j * 3 + 1, none⟩ = some (.string ⟨x.2.1.toArray⟩) ∧ w1.cell? ⟨g, j * 3 + 2, none⟩ = some (.int .i64 (x.2.2 : Int)) := by
    rcases hcs with ⟨_, h, _⟩ | ⟨g, h1, h2, h3⟩
    · have := HNT.out; omega
    · exact ⟨g, h1, h2, h3⟩
  have HGC := Lib.hid hgc
  have hw1 : w.heap.size < w1.heap.size := lt_some hA1.out
  clear hb1 hA0 hAB HSP hcs hgc
  go_upto_region 7 with fail
  rw [HNT.out]
  have HPn : Hid (Psr (w1.alloc (.cells #[.slice (some ⟨g, 0, none⟩) nT cT, .int .i64 0, .int .i64 0] tPs)) w1.heap.size (some ⟨g, 0, none⟩) nT cT 0) := heap_alloc_new w1 _
  have hb2 : Below w1.heap.size w1 (w1.alloc (.cells #[.slice (some ⟨g, 0, none⟩) nT cT, .int .i64 0, .int .i64 0] tPs)) := (Below.refl _ _).alloc (Nat.le_refl _) _
  have hA2 := Lib.hid (hA1.out.below hb2)
  have hB2 : Hid (Below w.heap.size w (w1.alloc (.cells #[.slice (some ⟨g, 0, none⟩) nT cT, .int .i64 0, .int .i64 0] tPs))) := bel_call hb2 hB1.out hB1.out.size
  have HTR : Hid (TkR (w1.alloc (.cells #[.slice (some ⟨g, 0, none⟩) nT cT, .int .i64 0, .int .i64 0] tPs)) w1.heap.size (some ⟨g, 0, none⟩) Ts) := .inr ⟨g, rfl, by omega, by rw [World.size_alloc]; omega, fun j x hx => by
    obtain ⟨k1, k2, k3⟩ := HGC.out j x hx
    exact ⟨(hb2.cell (p := ⟨g, j * 3, none⟩) hg1).trans k1, (hb2.cell (p := ⟨g, j * 3 + 1, none⟩) hg1).trans k2, (hb2.cell (p := ⟨g, j * 3 + 2, none⟩) hg1).trans k3⟩⟩
  have hs2 : (w1.alloc (.cells #[.slice (some ⟨g, 0, none⟩) nT cT, .int .i64 0, .int .i64 0] tPs)).heap.size = w1.heap.size + 1 := World.size_alloc _ _
  clear hb2 hA1 hB1 HGC
  generalize w1.alloc (.cells #[.slice (some ⟨g, 0, none⟩) nT cT, .int .i64 0, .int .i64 0] tPs) = w2 at HPn hA2 hB2 HTR hs2 ⊢
  generalize w1.heap.size = b at HPn HTR hs2 hw1 hg1 ⊢
  have HSW : Hid (PSt w w2 b (some ⟨g, 0, none⟩) Ts cT 0) := ⟨by rw [HNT.out]; exact HPn.out, HTR.out, by have := HNT.out; omega, HSH.out, hB2.out, by omega⟩
  have HBJ := Lib.hid (HBI.out w w2 b (some ⟨g, 0, none⟩) cT 0 Ts [] HSW.out HAT.out trivial)
  rw [HNT.out] at HBJ
  clear HBI HAT HTR HPn
  go_wp2_with fail
  refine HBJ.out.mono ?_
  rintro e w4 ⟨⟨p, cap, rfl, hk⟩, hp4, ho4⟩
  rename_i KK aK
  go_simp
  refine aK _ _ ?_
  clear aK
  obtain ⟨l, hl⟩ : ∃ l, n.args.length = l := ⟨_, rfl⟩
  rw [hl] at hk ⊢
  have hA4 := Lib.hid (ho4.bc (by omega) hA2.out)
  have HP4 := Lib.hid hp4
  have HO4 : Hid (Off b w w4) := (Off.of_below hB2.out).trans ho4
  have hB4 : Hid (Below w.heap.size w w4) := hB2.out.trans (ho4.below (by omega) (by omega))
  have HK4 := Lib.hid hk
  have hs4 := ho4.size
  have HL4 := Lib.hid hl
  clear hp4 ho4 hk hA2 hB2 HBJ HSW hl
  rw [show Value.agg (Cel.ndA n p l cap) = .agg #[.int .i64 n.kind, .int .i64 n.num, .string ⟨n.text.toArray⟩, .int .i64 (cC n.frm), .int .i64 (cR n.frm), .int .i64 (cC n.tor), .int .i64 (cR n.tor), .slice p l cap] from rfl]
  iterate 3 (first | go_values | go_step)
  have e2 : w4.alloc (.cells #[.int .i64 0, .int .i64 0, .string ⟨#[]⟩, .int .i64 0, .int .i64 0, .int .i64 0, .int .i64 0, .slice none 0 0] Cel.tPn) = w4.alloc (.cells (Cel.ndA nodeZ none 0 0) Cel.tPn) := rfl
  rw [e2]
  clear e2
  have HG5 : Hid (BlkC (w4.alloc (.cells (Cel.ndA nodeZ none 0 0) Cel.tPn)) w4.heap.size (Cel.ndA nodeZ none 0 0) Cel.tPn) := heap_alloc_new w4 _
  have hAB2 : Below w4.heap.size w4 (w4.alloc (.cells (Cel.ndA nodeZ none 0 0) Cel.tPn)) := by (repeat' (first | (with_reducible exact Below.refl _ _) | (with_reducible assumption) | (with_reducible refine Below.alloc ?_ ?_ _) | (with_reducible refine bel_drewN ?_ _) | (with_reducible refine Below.drew ?_) | (with_reducible refine Below.setCell ?_ ?_ _) | (with_reducible refine bel_call ‹_› ?_ ?_) | go_size))
  have hA5 := Lib.hid (hA4.out.below hAB2)
  have HP5 := Lib.hid (HP4.out.below hAB2)
  have HO5 := Lib.hid (HO4.out.call hAB2)
  have HK5 : Hid (∀ d, dpN n ≤ d + 1 → Cel.RdP (w4.alloc (.cells (Cel.ndA nodeZ none 0 0) Cel.tPn)) (fun k => w2.heap.size ≤ k ∧ k < w4.heap.size) d n p l) := fun d hd => (HK4.out d hd).carry (fun k hk => ⟨hk, hAB2.block k hk.2⟩)
  have hs5 : (w4.alloc (.cells (Cel.ndA nodeZ none 0 0) Cel.tPn)).heap.size = w4.heap.size + 1 := World.size_alloc _ _
  clear hAB2 hA4 HP4 HO4 HK4
  generalize w4.alloc (.cells (Cel.ndA nodeZ none 0 0) Cel.tPn) = w5 at HG5 hA5 HP5 HO5 HK5 hs5 ⊢
  generalize w4.heap.size = G2 at HG5 HK5 hs4 hs5 ⊢
  refine wpList_store_mid (by rfl) _ _ _ (by rfl) G2 0 #[.int .i64 n.kind, .int .i64 n.num, .string ⟨n.text.toArray⟩, .int .i64 (cC n.frm), .int .i64 (cR n.frm), .int .i64 (cC n.tor), .int .i64 (cR n.tor), .slice p l cap] (by rfl) (by rfl) (block_there HG5.out 8 (Nat.le_refl _)) (by kernel_rfl) (by simp [Value.oneCell']) ?_
  have e8 : w5.setCells G2 0 (#[.int .i64 n.kind, .int .i64 n.num, .string ⟨n.text.toArray⟩, .int .i64 (cC n.frm), .int .i64 (cR n.frm), .int .i64 (cC n.tor), .int .i64 (cR n.tor), .slice p l cap]).toList = w5.setCells G2 0 (Cel.ndA n p l cap).toList := rfl
  rw [e8]
  clear e8
  have HG6 : Hid (BlkC (w5.setCells G2 0 (Cel.ndA n p l cap).toList) G2 (Cel.ndA n p l cap) Cel.tPn) := store_block HG5.out _ rfl
  have HO6 : Hid (Off b w (w5.setCells G2 0 (Cel.ndA n p l cap).toList)) := HO5.out.set_cells (by omega) _ _
  have hA6 : Hid (BlkC (w5.setCells G2 0 (Cel.ndA n p l cap).toList) w.heap.size (Cel.ndA nodeZ none 0 0) Cel.tPn) := (store_other (by omega) _ _ _).trans hA5.out
  have HP6 : Hid (Psr (w5.setCells G2 0 (Cel.ndA n p l cap).toList) b (some ⟨g, 0, none⟩) nT cT (0 + (tkN nmS n 1).length)) := (store_other (by omega) _ _ _).trans HP5.out
  have hz6 := (store_below (Nat.zero_le G2) (Cel.ndA n p l cap).toList 0 w5 (Below.refl 0 w5)).size
  have HK6 : Hid (∀ d, dpN n ≤ d + 1 → Cel.RdP (w5.setCells G2 0 (Cel.ndA n p l cap).toList) (fun k => w.heap.size < k ∧ k < (w5.setCells G2 0 (Cel.ndA n p l cap).toList).heap.size ∧ k ≠ G2) d n p l) := fun d hd => (HK5.out d hd).carry (fun k hk => ⟨⟨by omega, by omega, by omega⟩, store_other (by omega) _ _ _⟩)
  have hGb2 : G2 ≠ b := by omega
  clear HG5 hA5 HP5 HO5 HK5
  generalize w5.setCells G2 0 (Cel.ndA n p l cap).toList = w6 at HG6 hA6 HP6 HO6 HK6 hz6 ⊢
  go_simp
  iterate 3 (first | go_values | go_skip | go_guarded | go_step | go_upon)
  have HP6n : Hid (Psr w6 b (some ⟨g, 0, none⟩) nT cT nT) := by
    have h := HP6.out
    rw [Nat.zero_add, HKN.out] at h
    exact h
  have HB6 : Hid (Below w.heap.size w w6) := HO6.out.below (by omega) (Nat.le_refl _)
  obtain ⟨p0, p1, p2, _⟩ := HP6n.out.cells
  have r0 := cell_regrown p0
  have r1 := cell_regrown p1
  have r2 := cell_regrown p2
  have hBR : ∀ dd os, Below w6.heap.size w6 (Go.Sort.grow (redrawn w6 dd) os) := fun dd os => below_regrown w6 dd os
  clear HP6 HO6 p0 p1 p2
  go_upto_region 8 with fail
  refine wp_region_quiet_below (by kernel_rfl) (by kernel_rfl) ?_
  repeat (go_big_quiet_step (fail))
  refine wpQuiet_nil ?_
  intro _ hw'
  obtain ⟨⟨dz, osz⟩, hw''⟩ := hw'
  subst hw''
  have hB7 := hBR dz osz
  have HP7 := Lib.hid (HP6n.out.below hB7)
  have hA7 := Lib.hid (hA6.out.below hB7)
  have HG7 := Lib.hid (HG6.out.below hB7)
  have HB7 : Hid (Below w.heap.size w (Go.Sort.grow (redrawn w6 dz) osz)) := bel_call hB7 HB6.out HB6.out.size
  have hs7 := hB7.size
  have HK7 : Hid (∀ d, dpN n ≤ d + 1 → Cel.RdP (Go.Sort.grow (redrawn w6 dz) osz) (fun k => w.heap.size < k ∧ k < (Go.Sort.grow (redrawn w6 dz) osz).heap.size) d n p l) := fun d hd => (HK6.out d hd).carry (fun k hk => ⟨⟨hk.1, by omega⟩, hB7.block k hk.2.1⟩)
  clear r0 r1 r2 hBR hB7 HP6n hA6 HG6 HB6 HK6
  generalize Go.Sort.grow (redrawn w6 dz) osz = w7 at HP7 hA7 HG7 HB7 HK7 hs7 ⊢
  obtain ⟨_, _, p2, _⟩ := HP7.out.cells
  have c0 : w7.cell? ⟨G2, 0, none⟩ = some (.int .i64 n.kind) := HG7.out.cell 0 _ rfl
  have c1 : w7.cell? ⟨G2, 1, none⟩ = some (.int .i64 n.num) := HG7.out.cell 1 _ rfl
  have c2 : w7.cell? ⟨G2, 2, none⟩ = some (.string ⟨n.text.toArray⟩) := HG7.out.cell 2 _ rfl
  have c3 : w7.cell? ⟨G2, 3, none⟩ = some (.int .i64 (cC n.frm)) := HG7.out.cell 3 _ rfl
  have c4 : w7.cell? ⟨G2, 4, none⟩ = some (.int .i64 (cR n.frm)) := HG7.out.cell 4 _ rfl
  have c5 : w7.cell? ⟨G2, 5, none⟩ = some (.int .i64 (cC n.tor)) := HG7.out.cell 5 _ rfl
  have c6 : w7.cell? ⟨G2, 6, none⟩ = some (.int .i64 (cR n.tor)) := HG7.out.cell 6 _ rfl
  have c7 : w7.cell? ⟨G2, 7, none⟩ = some (.slice p l cap) := HG7.out.cell 7 _ rfl
  have HDD := Lib.hid (HDE.out p l cap w7 HK7.out)
  rw [Cel.ndA_eq] at HDD
  have h64 : ¬ (64 : Int) < (dpN n : Int) := by omega
  generalize dpN n = dp at HDD h64
  clear HDE
  go_wp2_with fail
  refine HDD.out.mono ?_
  rintro e w8 ⟨rfl, hb8⟩
  have hA8 := Lib.hid (hA7.out.below hb8)
  have HG8 := Lib.hid (HG7.out.below hb8)
  have HB8 : Hid (Below w.heap.size w w8) := bel_call hb8 HB7.out HB7.out.size
  have hs8 := hb8.size
  have HK8 : Hid (∀ d, dpN n ≤ d + 1 → Cel.RdP w8 (fun k => w.heap.size < k ∧ k < w8.heap.size) d n p l) := fun d hd => (HK7.out d hd).carry (fun k hk => ⟨⟨hk.1, by omega⟩, hb8.block k hk.2⟩)
  clear hb8 HDD hA7 HG7 HB7 HK7 HP7 p2 c0 c1 c2 c3 c4 c5 c6 c7
  go_upto_region 14 with fail
  refine wp_region_lit ?_
  refine wpList_load_mid (by rfl) _ _ (by rfl) G2 0 (by rfl) [.int .i64 n.kind, .int .i64 n.num, .string ⟨n.text.toArray⟩, .int .i64 (cC n.frm), .int .i64 (cR n.frm), .int .i64 (cC n.tor), .int .i64 (cR n.tor), .slice p l cap] _ (block_range HG8.out [.int .i64 n.kind, .int .i64 n.num, .string ⟨n.text.toArray⟩, .int .i64 (cC n.frm), .int .i64 (cR n.frm), .int .i64 (cC n.tor), .int .i64 (cR n.tor), .slice p l cap] rfl) Tryz.underlying34 rfl (by kernel_rfl) ?_
  go_simp
  refine wpList_store_mid (by rfl) _ _ _ (by rfl) w.heap.size 0 #[.int .i64 n.kind, .int .i64 n.num, .string ⟨n.text.toArray⟩, .int .i64 (cC n.frm), .int .i64 (cR n.frm), .int .i64 (cC n.tor), .int .i64 (cR n.tor), .slice p l cap] (by rfl) (by rfl) (block_there hA8.out 8 (Nat.le_refl _)) (by kernel_rfl) (by simp [Value.oneCell']) ?_
  have e8 : w8.setCells w.heap.size 0 (#[.int .i64 n.kind, .int .i64 n.num, .string ⟨n.text.toArray⟩, .int .i64 (cC n.frm), .int .i64 (cR n.frm), .int .i64 (cC n.tor), .int .i64 (cR n.tor), .slice p l cap]).toList = w8.setCells w.heap.size 0 (Cel.ndA n p l cap).toList := rfl
  rw [e8]
  clear e8
  have HS9 : Hid (BlkC (w8.setCells w.heap.size 0 (Cel.ndA n p l cap).toList) w.heap.size (Cel.ndA n p l cap) Cel.tPn) := store_block hA8.out _ rfl
  have HB9 : Hid (Below w.heap.size w (w8.setCells w.heap.size 0 (Cel.ndA n p l cap).toList)) := store_below (Nat.le_refl _) _ _ _ HB8.out
  have hz9 := (store_below (Nat.zero_le w.heap.size) (Cel.ndA n p l cap).toList 0 w8 (Below.refl 0 w8)).size
  have HK9 : Hid (∀ d, dpN n ≤ d + 1 → Cel.RdP (w8.setCells w.heap.size 0 (Cel.ndA n p l cap).toList) (fun k => w.heap.size ≤ k ∧ k < (w8.setCells w.heap.size 0 (Cel.ndA n p l cap).toList).heap.size) d n p l) := fun d hd => (HK8.out d hd).carry (fun k hk => ⟨⟨by omega, by omega⟩, store_other (by omega) _ _ _⟩)
  clear HB8 HK8 HG8 hA8
  generalize w8.setCells w.heap.size 0 (Cel.ndA n p l cap).toList = w9 at HS9 HB9 HK9 hz9 ⊢
  go_simp
  go_wp2_with fail
  try simp only [Exit.inBlock, Exit.then]
  refine bodyPost_ret (results_row_tmp rfl _ _ w.heap.size Cel.tPn (Cel.ndA n p l cap) (0, 0) _ rfl HS9.out Tryz.underlying34 rfl (by kernel_rfl) _ rfl) rfl ⟨⟨p, cap, by rw [HL4.out]; rfl, ?_⟩, HB9.out⟩
  rw [HL4.out]
  exact HK9.out
end Go.Proofs.YtigmcoelkkihkaaGreatDoor
namespace Go.Proofs.YtigmcoelkkihkaaGreatDoor
open Go.RowKit

abbrev tBd : TypeId := 86
theorem info_bd : (Tryz.prog.info? 86).map (fun i => i.size) = some 2 := by kernel_rfl
theorem lies_bd : liesAt Tryz.prog Tryz.prog.depth 86 (2 / Tryz.prog.cellsOf 86) 0 86 1 = true := by kernel_rfl
theorem info_u8b : (Tryz.prog.info? 5).map (fun i => (i.zero, i.size, i.bytes)) = some (some (.int .u8 0), 1, 1) := by kernel_rfl

set_option maxHeartbeats 1000000 in
set_option maxRecDepth 100000 in
theorem copyCheck_used (b : Nat) (w : World) (h0 : w.cell? ⟨b, 0, none⟩ = some (.pointer (some ⟨b, 0, none⟩))) :
    Calls Tryz.prog 87 #[.pointer (some ⟨b, 0, none⟩)] w fun e w' => e = .returned (.tuple #[]) ∧ w' = w := by
  obtain ⟨j, hj, _⟩ := Option.map_eq_some_iff.1 info_bd
  go_enter Tryz.func87, Tryz.ntmps87
  go_wp2
  rw [Lib.run_neq_ptr_same w _ Tryz.underlying83 hj]
  go_wp2
  go_end0
  exact ⟨rfl, rfl⟩

set_option maxHeartbeats 1000000 in
set_option maxRecDepth 100000 in
theorem copyCheck_fresh (b : Nat) (w : World) (h0 : w.cell? ⟨b, 0, none⟩ = some (.pointer none)) (hsh : w.shape? b = some (tBd, 2)) (hfz : w.frozen? ⟨b, 0, none⟩ = false) :
    Calls Tryz.prog 87 #[.pointer (some ⟨b, 0, none⟩)] w fun e w' => e = .returned (.tuple #[]) ∧ w' = w.setCell ⟨b, 0, none⟩ (.pointer (some ⟨b, 0, none⟩)) := by
  obtain ⟨j, hj, hjs⟩ := Option.map_eq_some_iff.1 info_bd
  go_enter Tryz.func87, Tryz.ntmps87
  go_wp2
  rw [Lib.run_to_unsafe w ⟨b, 0, none⟩ Tryz.underlying83 Tryz.underlying140 hj (by rw [hjs]; decide) hsh (Nat.zero_lt_succ 1)]
  simp only [Result.andThen]
  rw [Oper.upon_value]
  go_wp2
  rw [run_callFunc_extern Tryz.func101 (by kernel_rfl) (by kernel_rfl) (by kernel_rfl) (e := Extern.AbiNoEscape.same) (by kernel_rfl)]
  rw [Lib.run_noEscape]
  simp only [Result.andThen]
  rw [Oper.upon_value]
  go_wp2
  rw [Lib.run_from_unsafe w ⟨b, 0, none⟩ Tryz.underlying140 Tryz.underlying83 hj hsh lies_bd]
  simp only [Result.andThen]
  rw [Oper.upon_value]
  go_wp2
  go_end0
  exact ⟨rfl, rfl⟩

theorem copyCheck_any (B b : Nat) (bs : List Value) (w : World) (h : Lib.IsBuilder tBd 5 B b bs w) :
    Calls Tryz.prog 87 #[.pointer (some ⟨b, 0, none⟩)] w fun e w' => e = .returned (.tuple #[]) ∧ Lib.BuilderAt tBd 5 B b (.pointer (some ⟨b, 0, none⟩)) bs w' ∧ Below B w w' := by
  rcases h with h | h
  · refine (copyCheck_fresh b w h.cell0 h.shape h.frozen0).mono ?_
    rintro e w' ⟨rfl, rfl⟩
    exact ⟨rfl, h.used _, (Below.refl B w).setCell (p := ⟨b, 0, none⟩) h.1 _⟩
  · refine (copyCheck_used b w h.cell0).mono ?_
    rintro e w' ⟨rfl, rfl⟩
    exact ⟨rfl, h, Below.refl B _⟩

set_option maxHeartbeats 2000000 in
set_option maxRecDepth 100000 in
theorem writeString_any (B b : Nat) (bs : List Value) (s : ByteArray) (w : World) (h : Lib.IsBuilder tBd 5 B b bs w) (hlen : bs.length + s.size ≤ 10000000) (hBw : B ≤ w.heap.size) :
    Calls Tryz.prog 64 #[.pointer (some ⟨b, 0, none⟩), .string s] w fun e w' => e = .returned (.tuple #[.int .i64 s.size, .nilIface]) ∧ Lib.BuilderAt tBd 5 B b (.pointer (some ⟨b, 0, none⟩)) (bs ++ Lib.strCells s) w' ∧ Below B w w' := by
  obtain ⟨i0, hi, hz0, hz1, hz2⟩ := info_parts info_u8b
  go_enter Tryz.func64, Tryz.ntmps64
  go_wp2_with (go_at_call 87; refine (copyCheck_any B b bs _ h).mono ?_)
  rintro e w1 ⟨rfl, h1, hb1⟩
  obtain ⟨hB, v, hbk, hown, hne⟩ := h1
  have c0 : w1.cell? ⟨b, 0, none⟩ = some (.pointer (some ⟨b, 0, none⟩)) := by rw [Lib.cell_of_heap hbk]; rfl
  have c1 : w1.cell? ⟨b, 1, none⟩ = some v := by rw [Lib.cell_of_heap hbk]; rfl
  go_wp2_with (at_builtin; refine Lib.wpList_append_own_string _ rfl _ _ 84 9 rfl B 5 i0 Tryz.underlying84 Tryz.underlying9 hi hz0 hz1 hz2 _ _ _ rfl hown s rfl ?c3 ?c4 ?c5 ?_)
  case c3 => unfold maxLen; omega
  case c4 => omega
  case c5 => have := hb1.size; omega
  intro v' w2 hown' hgrow _
  have hlt : b < w1.heap.size := by
    rcases Nat.lt_or_ge b w1.heap.size with h' | h'
    · exact h'
    · simp [Array.getElem?_eq_none h'] at hbk
  have hb2 : w2.heap[b]? = some (.cells #[.pointer (some ⟨b, 0, none⟩), v] tBd (0, 0)) := by
    rw [hgrow.block b hlt (fun e => hne e.symm)]
    exact hbk
  have d0 : w2.cell? ⟨b, 0, none⟩ = some (.pointer (some ⟨b, 0, none⟩)) := by rw [Lib.cell_of_heap hb2]; rfl
  have d1 : w2.cell? ⟨b, 1, none⟩ = some v := by rw [Lib.cell_of_heap hb2]; rfl
  have f1 : w2.frozen? ⟨b, 1, none⟩ = false := Lib.frozen_of_heap hb2 1
  obtain ⟨ao, n', cap, rfl⟩ : ∃ ao n' cap, v' = .slice ao n' cap := by
    rcases hown'.2 with ⟨hv, _⟩ | ⟨g, cap, cur, hv, _⟩
    · exact ⟨_, _, _, hv⟩
    · exact ⟨_, _, _, hv⟩
  go_wp2
  go_ret2
  refine ⟨rfl, ?_, ?_⟩
  · exact Lib.BuilderAt.put (T := tBd) (e := 5) hB hb2 (bs' := bs ++ Lib.strCells s) (by simpa [Lib.strCells_length] using hown') (by decide)
  · exact (hb1.grown hgrow (by have := hb1.size; omega) (fun k hk => (hown.lt k hk).1)).setCell (p := ⟨b, 1, none⟩) hB _

set_option maxHeartbeats 2000000 in
set_option maxRecDepth 100000 in
theorem writeByte_any (B b : Nat) (bs : List Value) (c : Int) (w : World) (h : Lib.IsBuilder tBd 5 B b bs w) (hlen : bs.length ≤ 10000000) (hBw : B ≤ w.heap.size) :
    Calls Tryz.prog 63 #[.pointer (some ⟨b, 0, none⟩), .int .u8 c] w fun e w' => e = .returned .nilIface ∧ Lib.BuilderAt tBd 5 B b (.pointer (some ⟨b, 0, none⟩)) (bs ++ [.int .u8 c]) w' ∧ Below B w w' := by
  obtain ⟨i0, hi, hz0, hz1, hz2⟩ := info_parts info_u8b
  go_enter Tryz.func63, Tryz.ntmps63
  go_wp2_with (go_at_call 87; refine (copyCheck_any B b bs _ h).mono ?_)
  rintro e w1 ⟨rfl, h1, hb1⟩
  obtain ⟨hB, v, hbk, hown, hne⟩ := h1
  have c0 : w1.cell? ⟨b, 0, none⟩ = some (.pointer (some ⟨b, 0, none⟩)) := by rw [Lib.cell_of_heap hbk]; rfl
  have c1 : w1.cell? ⟨b, 1, none⟩ = some v := by rw [Lib.cell_of_heap hbk]; rfl
  go_wp2_with (at_builtin; refine wpList_append_own _ rfl _ _ 84 rfl B 5 i0 (.int .u8 0) 1 1 Tryz.underlying84 hi hz0 hz1 hz2 rfl (by decide) _ _ _ rfl (hown.alloc _) ⟨w1.heap.size, 0, none⟩ 1 1 [.int .u8 c] rfl rfl ?c1 ?c2 ?c3 ?c4 ?c5 ?_)
  case c1 =>
    intro j u hj
    match j, hj with
    | 0, hj => simp at hj; subst hj; simp [Addr.add]
  case c2 => intro u hu; simp at hu; subst hu; rfl
  case c3 => unfold maxLen; omega
  case c4 => omega
  case c5 => have := hb1.size; simp; omega
  intro v' w2 hown' hgrow _
  have hlt : b < w1.heap.size := by
    rcases Nat.lt_or_ge b w1.heap.size with h' | h'
    · exact h'
    · simp [Array.getElem?_eq_none h'] at hbk
  have hb2 : w2.heap[b]? = some (.cells #[.pointer (some ⟨b, 0, none⟩), v] tBd (0, 0)) := by
    rw [hgrow.block b (by simp; omega) (fun e => hne e.symm), Lib.alloc_old w1 _ b hlt]
    exact hbk
  have d0 : w2.cell? ⟨b, 0, none⟩ = some (.pointer (some ⟨b, 0, none⟩)) := by rw [Lib.cell_of_heap hb2]; rfl
  have d1 : w2.cell? ⟨b, 1, none⟩ = some v := by rw [Lib.cell_of_heap hb2]; rfl
  have f1 : w2.frozen? ⟨b, 1, none⟩ = false := Lib.frozen_of_heap hb2 1
  obtain ⟨g, cap, rfl⟩ : ∃ g cap, v' = .slice (some ⟨g, 0, none⟩) (bs.length + 1) cap := by
    rcases hown'.2 with ⟨_, h0⟩ | ⟨g, cap, cur, hv, _⟩
    · omega
    · exact ⟨g, cap, hv⟩
  go_wp2
  go_ret
  refine ⟨rfl, ?_, ?_⟩
  · exact Lib.BuilderAt.put (T := tBd) (e := 5) hB hb2 (bs' := bs ++ [.int .u8 c]) (by simpa using hown') (by decide)
  · exact ((hb1.alloc (by have := hb1.size; omega) _).grown hgrow (by have := hb1.size; simp; omega) (fun k hk => (hown.lt k hk).1)).setCell (p := ⟨b, 1, none⟩) hB _

/-- The writers, as a walk offers them: what the builder holds is a list of bytes. -/
theorem write_at (B b : Nat) (l : List UInt8) (s : ByteArray) (w : World) (h : Lib.IsBuilder tBd 5 B b (Lib.byteCells l) w) (hlen : l.length + s.size ≤ 10000000) (hBw : B ≤ w.heap.size) :
    Calls Tryz.prog 64 #[.pointer (some ⟨b, 0, none⟩), .string s] w fun e w' => e = .returned (.tuple #[.int .i64 s.size, .nilIface]) ∧ Lib.IsBuilder tBd 5 B b (Lib.byteCells (l ++ s.data.toList)) w' ∧ Below B w w' :=
  (writeString_any B b _ s w h (by simpa [Lib.byteCells] using hlen) hBw).mono fun e w' ⟨h1, h2, h3⟩ => ⟨h1, .inr (by
    have e : Lib.byteCells (l ++ s.data.toList) = Lib.byteCells l ++ Lib.strCells s := by simp [Lib.byteCells, Lib.strCells]
    rw [e]; exact h2), h3⟩

theorem writeByte_at (B b : Nat) (l : List UInt8) (c : Nat) (hc : c < 256) (w : World) (h : Lib.IsBuilder tBd 5 B b (Lib.byteCells l) w) (hlen : l.length ≤ 10000000) (hBw : B ≤ w.heap.size) :
    Calls Tryz.prog 63 #[.pointer (some ⟨b, 0, none⟩), .int .u8 (c : Int)] w fun e w' => e = .returned .nilIface ∧ Lib.IsBuilder tBd 5 B b (Lib.byteCells (l ++ [UInt8.ofNat c])) w' ∧ Below B w w' :=
  (writeByte_any B b _ (c : Int) w h (by simpa [Lib.byteCells] using hlen) hBw).mono fun e w' ⟨h1, h2, h3⟩ => ⟨h1, .inr (by
    have e : Lib.byteCells (l ++ [UInt8.ofNat c]) = Lib.byteCells l ++ [.int .u8 (c : Int)] := by
      have : (UInt8.ofNat c).toNat = c := by simp; omega
      simp [Lib.byteCells]
      omega
    rw [e]; exact h2), h3⟩
theorem bd_fresh (B : Nat) (w : World) (hB : B ≤ w.heap.size) : Lib.IsBuilder tBd 5 B w.heap.size [] (w.alloc (.cells #[.pointer none, .slice none 0 0] tBd)) :=
  .inl ⟨hB, .slice none 0 0, heap_alloc_new w _, World.ownsRow_nil _ _ _ _, by intro h; cases h⟩
theorem bd_string (B b : Nat) (l : List UInt8) (w : World) (h : Lib.IsBuilder tBd 5 B b (Lib.byteCells l) w) (hBw : B ≤ w.heap.size) :
    Calls Tryz.prog 43 #[.pointer (some ⟨b, 0, none⟩)] w fun e w' => e = .returned (.string ⟨l.toArray⟩) ∧ Below B w w' := Tryz.Builder_String_any B b l w h hBw
end Go.Proofs.YtigmcoelkkihkaaGreatDoor
namespace Go.Proofs.YtigmcoelkkihkaaGreatDoor
open Go.RowKit Go.Joins

theorem BuilderAt_below {T e : TypeId} {B b : Nat} {p : Value} {bs : List Value} {w w' : World} (h : Lib.BuilderAt T e B b p bs w) (hb : Below w.heap.size w w') : Lib.BuilderAt T e B b p bs w' := by
  have hlt := h.lt
  obtain ⟨h1, v, h2, h3, h4⟩ := h
  exact ⟨h1, v, (hb.block b hlt).trans h2, row_below h3 hb, h4⟩
theorem IsBuilder_below {T e : TypeId} {B b : Nat} {bs : List Value} {w w' : World} (h : Lib.IsBuilder T e B b bs w) (hb : Below w.heap.size w w') : Lib.IsBuilder T e B b bs w' := by
  rcases h with h | h
  · exact .inl (BuilderAt_below h hb)
  · exact .inr (BuilderAt_below h hb)
end Go.Proofs.YtigmcoelkkihkaaGreatDoor
namespace Go.Proofs.YtigmcoelkkihkaaGreatDoor.Cel
open Go.RowKit Go.Joins

/-- Nodes in memory stay. -/
def KeepN (w w' : World) : Prop := ∀ (k : Nat) (cs : Array Value) (fr : Nat × Nat), w.heap[k]? = some (.cells cs tPn fr) → w'.heap[k]? = some (.cells cs tPn fr)
theorem KeepN.refl (w : World) : KeepN w w := fun k cs fr h => h
theorem KeepN.trans {a b c : World} (h : KeepN a b) (h2 : KeepN b c) : KeepN a c := fun k cs fr hk => h2 k cs fr (h k cs fr hk)
theorem KeepN.of {w w' : World} (h : Below w.heap.size w w') : KeepN w w' := fun k cs fr hk => (h.block k (lt_some hk)).trans hk
theorem keep_set {w : World} {b : Nat} {cs : Array Value} {T : TypeId} {fr : Nat × Nat} (h : w.heap[b]? = some (.cells cs T fr)) (hT : T ≠ tPn) (j : Nat) (v : Value) : KeepN w (w.setCell ⟨b, j, none⟩ v) := fun k cs' fr' hk => by
  by_cases e : k = b
  · subst e
    rw [h] at hk
    simp only [Option.some.injEq, Obj.cells.injEq] at hk
    exact absurd hk.2.1 hT
  · exact (Below.heap_setCell w _ v k (by show k ≠ b; exact e)).trans hk
theorem keepB_set {B b : Nat} {p : Value} {bs : List Value} {w : World} (h : Lib.BuilderAt tBd 5 B b p bs w) (j : Nat) (v : Value) : KeepN w (w.setCell ⟨b, j, none⟩ v) := by
  obtain ⟨_, x, h2, _⟩ := h
  exact keep_set h2 (by decide) j v
theorem NdB.keep {w w' : World} {b : Nat} {n : Nd} {p : Option Addr} {len cap : Nat} (h : NdB tPn w b n p len cap) (hk : KeepN w w') : NdB tPn w' b n p len cap := hk b _ _ h
theorem copyCheckK (B b : Nat) (bs : List Value) (w : World) (h : Lib.IsBuilder tBd 5 B b bs w) :
    Calls Tryz.prog 87 #[.pointer (some ⟨b, 0, none⟩)] w fun e w' => e = .returned (.tuple #[]) ∧ Lib.BuilderAt tBd 5 B b (.pointer (some ⟨b, 0, none⟩)) bs w' ∧ Below B w w' ∧ KeepN w w' := by
  rcases h with h | h
  · refine (copyCheck_fresh b w h.cell0 h.shape h.frozen0).mono ?_
    rintro e w' ⟨rfl, rfl⟩
    exact ⟨rfl, h.used _, (Below.refl B w).setCell (p := ⟨b, 0, none⟩) h.1 _, keepB_set h 0 _⟩
  · refine (copyCheck_used b w h.cell0).mono ?_
    rintro e w' ⟨rfl, rfl⟩
    exact ⟨rfl, h, Below.refl B _, KeepN.refl _⟩

set_option maxHeartbeats 2000000 in
set_option maxRecDepth 100000 in
theorem writeStringK (B b : Nat) (bs : List Value) (s : ByteArray) (w : World) (h : Lib.IsBuilder tBd 5 B b bs w) (hlen : bs.length + s.size ≤ 10000000) (hBw : B ≤ w.heap.size) :
    Calls Tryz.prog 64 #[.pointer (some ⟨b, 0, none⟩), .string s] w fun e w' => e = .returned (.tuple #[.int .i64 s.size, .nilIface]) ∧ Lib.BuilderAt tBd 5 B b (.pointer (some ⟨b, 0, none⟩)) (bs ++ Lib.strCells s) w' ∧ Below B w w' ∧ KeepN w w' := by
  obtain ⟨i0, hi, hz0, hz1, hz2⟩ := info_parts info_u8b
  go_enter Tryz.func64, Tryz.ntmps64
  go_wp2_with (go_at_call 87; refine (copyCheckK B b bs _ h).mono ?_)
  rintro e w1 ⟨rfl, h1, hb1, hk1⟩
  obtain ⟨hB, v, hbk, hown, hne⟩ := h1
  have c0 : w1.cell? ⟨b, 0, none⟩ = some (.pointer (some ⟨b, 0, none⟩)) := by rw [Lib.cell_of_heap hbk]; rfl
  have c1 : w1.cell? ⟨b, 1, none⟩ = some v := by rw [Lib.cell_of_heap hbk]; rfl
  go_wp2_with (at_builtin; refine Lib.wpList_append_own_string _ rfl _ _ 84 9 rfl B 5 i0 Tryz.underlying84 Tryz.underlying9 hi hz0 hz1 hz2 _ _ _ rfl hown s rfl ?c3 ?c4 ?c5 ?_)
  case c3 => unfold maxLen; omega
  case c4 => omega
  case c5 => have := hb1.size; omega
  intro v' w2 hown' hgrow _
  have hlt : b < w1.heap.size := by
    rcases Nat.lt_or_ge b w1.heap.size with h' | h'
    · exact h'
    · simp [Array.getElem?_eq_none h'] at hbk
  have hb2 : w2.heap[b]? = some (.cells #[.pointer (some ⟨b, 0, none⟩), v] tBd (0, 0)) := by
    rw [hgrow.block b hlt (fun e => hne e.symm)]
    exact hbk
  have d0 : w2.cell? ⟨b, 0, none⟩ = some (.pointer (some ⟨b, 0, none⟩)) := by rw [Lib.cell_of_heap hb2]; rfl
  have d1 : w2.cell? ⟨b, 1, none⟩ = some v := by rw [Lib.cell_of_heap hb2]; rfl
  have f1 : w2.frozen? ⟨b, 1, none⟩ = false := Lib.frozen_of_heap hb2 1
  obtain ⟨ao, n', cap, rfl⟩ : ∃ ao n' cap, v' = .slice ao n' cap := by
    rcases hown'.2 with ⟨hv, _⟩ | ⟨g, cap, cur, hv, _⟩
    · exact ⟨_, _, _, hv⟩
    · exact ⟨_, _, _, hv⟩
  go_wp2
  go_ret2
  refine ⟨rfl, ?_, ?_, ?_⟩
  · exact Lib.BuilderAt.put (T := tBd) (e := 5) hB hb2 (bs' := bs ++ Lib.strCells s) (by simpa [Lib.strCells_length] using hown') (by decide)
  · exact (hb1.grown hgrow (by have := hb1.size; omega) (fun k hk => (hown.lt k hk).1)).setCell (p := ⟨b, 1, none⟩) hB _
  · refine hk1.trans (KeepN.trans (b := w2) ?_ (keep_set hb2 (by decide) 1 _))
    intro k cs fr hk
    rw [hgrow.block k (lt_some hk) (fun e => Lib.ownBlock_ne hown hk (by decide) e.symm)]
    exact hk
set_option maxHeartbeats 2000000 in
set_option maxRecDepth 100000 in
theorem writeByteK (B b : Nat) (bs : List Value) (c : Int) (w : World) (h : Lib.IsBuilder tBd 5 B b bs w) (hlen : bs.length ≤ 10000000) (hBw : B ≤ w.heap.size) :
    Calls Tryz.prog 63 #[.pointer (some ⟨b, 0, none⟩), .int .u8 c] w fun e w' => e = .returned .nilIface ∧ Lib.BuilderAt tBd 5 B b (.pointer (some ⟨b, 0, none⟩)) (bs ++ [.int .u8 c]) w' ∧ Below B w w' ∧ KeepN w w' := by
  obtain ⟨i0, hi, hz0, hz1, hz2⟩ := info_parts info_u8b
  go_enter Tryz.func63, Tryz.ntmps63
  go_wp2_with (go_at_call 87; refine (copyCheckK B b bs _ h).mono ?_)
  rintro e w1 ⟨rfl, h1, hb1, hk1⟩
  obtain ⟨hB, v, hbk, hown, hne⟩ := h1
  have c0 : w1.cell? ⟨b, 0, none⟩ = some (.pointer (some ⟨b, 0, none⟩)) := by rw [Lib.cell_of_heap hbk]; rfl
  have c1 : w1.cell? ⟨b, 1, none⟩ = some v := by rw [Lib.cell_of_heap hbk]; rfl
  go_wp2_with (at_builtin; refine wpList_append_own _ rfl _ _ 84 rfl B 5 i0 (.int .u8 0) 1 1 Tryz.underlying84 hi hz0 hz1 hz2 rfl (by decide) _ _ _ rfl (hown.alloc _) ⟨w1.heap.size, 0, none⟩ 1 1 [.int .u8 c] rfl rfl ?c1 ?c2 ?c3 ?c4 ?c5 ?_)
  case c1 =>
    intro j u hj
    match j, hj with
    | 0, hj => simp at hj; subst hj; simp [Addr.add]
  case c2 => intro u hu; simp at hu; subst hu; rfl
  case c3 => unfold maxLen; omega
  case c4 => omega
  case c5 => have := hb1.size; simp; omega
  intro v' w2 hown' hgrow _
  have hlt : b < w1.heap.size := by
    rcases Nat.lt_or_ge b w1.heap.size with h' | h'
    · exact h'
    · simp [Array.getElem?_eq_none h'] at hbk
  have hb2 : w2.heap[b]? = some (.cells #[.pointer (some ⟨b, 0, none⟩), v] tBd (0, 0)) := by
    rw [hgrow.block b (by simp; omega) (fun e => hne e.symm), Lib.alloc_old w1 _ b hlt]
    exact hbk
  have d0 : w2.cell? ⟨b, 0, none⟩ = some (.pointer (some ⟨b, 0, none⟩)) := by rw [Lib.cell_of_heap hb2]; rfl
  have d1 : w2.cell? ⟨b, 1, none⟩ = some v := by rw [Lib.cell_of_heap hb2]; rfl
  have f1 : w2.frozen? ⟨b, 1, none⟩ = false := Lib.frozen_of_heap hb2 1
  obtain ⟨g, cap, rfl⟩ : ∃ g cap, v' = .slice (some ⟨g, 0, none⟩) (bs.length + 1) cap := by
    rcases hown'.2 with ⟨_, h0⟩ | ⟨g, cap, cur, hv, _⟩
    · omega
    · exact ⟨g, cap, hv⟩
  go_wp2
  go_ret
  refine ⟨rfl, ?_, ?_, ?_⟩
  · exact Lib.BuilderAt.put (T := tBd) (e := 5) hB hb2 (bs' := bs ++ [.int .u8 c]) (by simpa using hown') (by decide)
  · exact ((hb1.alloc (by have := hb1.size; omega) _).grown hgrow (by have := hb1.size; simp; omega) (fun k hk => (hown.lt k hk).1)).setCell (p := ⟨b, 1, none⟩) hB _
  · refine hk1.trans (KeepN.trans (b := w2) ?_ (keep_set hb2 (by decide) 1 _))
    intro k cs fr hk
    rw [hgrow.block k (by have := lt_some hk; simp; omega) (fun e => Lib.ownBlock_ne hown hk (by decide) e.symm), Lib.alloc_old w1 _ k (lt_some hk)]
    exact hk
set_option maxHeartbeats 2000000 in
set_option maxRecDepth 100000 in
theorem writeByte_d (u : FrameMode) (B b : Nat) (bs : List Value) (c : Int) (w : World) (h : Lib.IsBuilder tBd 5 B b bs w) (hlen : bs.length ≤ 10000000) (hBw : B ≤ w.heap.size) :
    CallsD Tryz.prog 63 #[.pointer (some ⟨b, 0, none⟩), .int .u8 c] u w fun e u' w' => u' = u ∧ (e = .returned .nilIface ∧ Lib.BuilderAt tBd 5 B b (.pointer (some ⟨b, 0, none⟩)) (bs ++ [.int .u8 c]) w' ∧ Below B w w' ∧ KeepN w w') := by
  obtain ⟨i0, hi, hz0, hz1, hz2⟩ := info_parts info_u8b
  go_enter_d Tryz.func63, Tryz.ntmps63
  go_wp2_with (go_at_call 87; refine (copyCheckK B b bs _ h).mono ?_)
  rintro e w1 ⟨rfl, h1, hb1, hk1⟩
  obtain ⟨hB, v, hbk, hown, hne⟩ := h1
  have c0 : w1.cell? ⟨b, 0, none⟩ = some (.pointer (some ⟨b, 0, none⟩)) := by rw [Lib.cell_of_heap hbk]; rfl
  have c1 : w1.cell? ⟨b, 1, none⟩ = some v := by rw [Lib.cell_of_heap hbk]; rfl
  go_wp2_with (at_builtin; refine wpList_append_own _ rfl _ _ 84 rfl B 5 i0 (.int .u8 0) 1 1 Tryz.underlying84 hi hz0 hz1 hz2 rfl (by decide) _ _ _ rfl (hown.alloc _) ⟨w1.heap.size, 0, none⟩ 1 1 [.int .u8 c] rfl rfl ?c1 ?c2 ?c3 ?c4 ?c5 ?_)
  case c1 =>
    intro j u hj
    match j, hj with
    | 0, hj => simp at hj; subst hj; simp [Addr.add]
  case c2 => intro u hu; simp at hu; subst hu; rfl
  case c3 => unfold maxLen; omega
  case c4 => omega
  case c5 => have := hb1.size; simp; omega
  intro v' w2 hown' hgrow _
  have hlt : b < w1.heap.size := by
    rcases Nat.lt_or_ge b w1.heap.size with h' | h'
    · exact h'
    · simp [Array.getElem?_eq_none h'] at hbk
  have hb2 : w2.heap[b]? = some (.cells #[.pointer (some ⟨b, 0, none⟩), v] tBd (0, 0)) := by
    rw [hgrow.block b (by simp; omega) (fun e => hne e.symm), Lib.alloc_old w1 _ b hlt]
    exact hbk
  have d0 : w2.cell? ⟨b, 0, none⟩ = some (.pointer (some ⟨b, 0, none⟩)) := by rw [Lib.cell_of_heap hb2]; rfl
  have d1 : w2.cell? ⟨b, 1, none⟩ = some v := by rw [Lib.cell_of_heap hb2]; rfl
  have f1 : w2.frozen? ⟨b, 1, none⟩ = false := Lib.frozen_of_heap hb2 1
  obtain ⟨g, cap, rfl⟩ : ∃ g cap, v' = .slice (some ⟨g, 0, none⟩) (bs.length + 1) cap := by
    rcases hown'.2 with ⟨_, h0⟩ | ⟨g, cap, cur, hv, _⟩
    · omega
    · exact ⟨g, cap, hv⟩
  go_wp2
  go_ret
  refine ⟨rfl, ?_, ?_, ?_⟩
  · exact Lib.BuilderAt.put (T := tBd) (e := 5) hB hb2 (bs' := bs ++ [.int .u8 c]) (by simpa using hown') (by decide)
  · exact ((hb1.alloc (by have := hb1.size; omega) _).grown hgrow (by have := hb1.size; simp; omega) (fun k hk => (hown.lt k hk).1)).setCell (p := ⟨b, 1, none⟩) hB _
  · refine hk1.trans (KeepN.trans (b := w2) ?_ (keep_set hb2 (by decide) 1 _))
    intro k cs fr hk
    rw [hgrow.block k (by have := lt_some hk; simp; omega) (fun e => Lib.ownBlock_ne hown hk (by decide) e.symm), Lib.alloc_old w1 _ k (lt_some hk)]
    exact hk
/-- The writers, as a walk offers them: what the builder holds is a list of bytes. -/
theorem write_atK (B b : Nat) (l : List UInt8) (s : ByteArray) (w : World) (h : Lib.IsBuilder tBd 5 B b (Lib.byteCells l) w) (hlen : l.length + s.size ≤ 10000000) (hBw : B ≤ w.heap.size) :
    Calls Tryz.prog 64 #[.pointer (some ⟨b, 0, none⟩), .string s] w fun e w' => e = .returned (.tuple #[.int .i64 s.size, .nilIface]) ∧ Lib.IsBuilder tBd 5 B b (Lib.byteCells (l ++ s.data.toList)) w' ∧ Below B w w' ∧ KeepN w w' :=
  (writeStringK B b _ s w h (by simpa [Lib.byteCells] using hlen) hBw).mono fun e w' ⟨h1, h2, h3⟩ => ⟨h1, .inr (by
    have e : Lib.byteCells (l ++ s.data.toList) = Lib.byteCells l ++ Lib.strCells s := by simp [Lib.byteCells, Lib.strCells]
    rw [e]; exact h2), h3⟩

theorem writeByte_atK (B b : Nat) (l : List UInt8) (c : Nat) (hc : c < 256) (w : World) (h : Lib.IsBuilder tBd 5 B b (Lib.byteCells l) w) (hlen : l.length ≤ 10000000) (hBw : B ≤ w.heap.size) :
    Calls Tryz.prog 63 #[.pointer (some ⟨b, 0, none⟩), .int .u8 (c : Int)] w fun e w' => e = .returned .nilIface ∧ Lib.IsBuilder tBd 5 B b (Lib.byteCells (l ++ [UInt8.ofNat c])) w' ∧ Below B w w' ∧ KeepN w w' :=
  (writeByteK B b _ (c : Int) w h (by simpa [Lib.byteCells] using hlen) hBw).mono fun e w' ⟨h1, h2, h3⟩ => ⟨h1, .inr (by
    have e : Lib.byteCells (l ++ [UInt8.ofNat c]) = Lib.byteCells l ++ [.int .u8 (c : Int)] := by
      have : (UInt8.ofNat c).toNat = c := by simp; omega
      simp [Lib.byteCells]
      omega
    rw [e]; exact h2), h3⟩
theorem writeByte_dat (u : FrameMode) (B b : Nat) (l : List UInt8) (c : Nat) (hc : c < 256) (w : World) (h : Lib.IsBuilder tBd 5 B b (Lib.byteCells l) w) (hlen : l.length ≤ 10000000) (hBw : B ≤ w.heap.size) :
    CallsD Tryz.prog 63 #[.pointer (some ⟨b, 0, none⟩), .int .u8 (c : Int)] u w fun e u' w' => u' = u ∧ (e = .returned .nilIface ∧ Lib.IsBuilder tBd 5 B b (Lib.byteCells (l ++ [UInt8.ofNat c])) w' ∧ Below B w w' ∧ KeepN w w') :=
  (writeByte_d u B b _ (c : Int) w h (by simpa [Lib.byteCells] using hlen) hBw).mono fun e u' w' ⟨h0, h1, h2, h3⟩ => ⟨h0, h1, .inr (by
    have e : Lib.byteCells (l ++ [UInt8.ofNat c]) = Lib.byteCells l ++ [.int .u8 (c : Int)] := by
      have : (UInt8.ofNat c).toNat = c := by simp; omega
      simp [Lib.byteCells]
      omega
    rw [e]; exact h2), h3⟩
end Go.Proofs.YtigmcoelkkihkaaGreatDoor.Cel
