/- Numfmt: the document's Write: the walk. -/
import Derived.Test.YteknbdodihfbeaaDoorNumJ
import Derived.Test.YteknbdodihfbeaaDoorNumE
import Derived.Test.YteknbdodihfbeaaDoorDecJ
import Derived.Test.YteknbdodihfbeaaDoorDecR
set_option linter.unusedSimpArgs false
set_option linter.unusedVariables false
namespace Go.Proofs.YteknbdodihfbeaaDoor
open Go.RowKit Go.Joins

theorem grp_at (L : Bs) (i : Nat) (h : i < L.length) : grp (decide (i = 0)) (L.drop i) = (if 0 < i ∧ (L.length - i) % 3 = 0 then [44] else []) ++ L[i] :: grp (decide (i + 1 = 0)) (L.drop (i + 1)) := by
  rw [List.drop_eq_getElem_cons h, grp]
  have e : (L.drop (i + 1)).length + 1 = L.length - i := by rw [List.length_drop]; omega
  rw [e]
  have e2 : decide (i + 1 = 0) = false := by simp
  rw [e2]
  have e3 : (decide (i = 0) = false ∧ (L.length - i) % 3 = 0) ↔ (0 < i ∧ (L.length - i) % 3 = 0) := by
    rw [decide_eq_false_iff_not]
    omega
  simp only [e3]
theorem trim_end (L : Bs) (c : UInt8) : Lib.trimRightB L c = [] ∨ ∃ C y, Lib.trimRightB L c = C ++ [y] ∧ y ≠ c := by
  by_cases h : ∃ x ∈ L, x ≠ c
  · exact .inr (trim_last L c h)
  · left
    unfold Lib.trimRightB
    have key : ∀ M : Bs, (∀ x ∈ M, x = c) → M.dropWhile (· == c) = [] := by
      intro M
      induction M with
      | nil => intro _; rfl
      | cons a r ih =>
        intro hM
        rw [List.dropWhile_cons_of_pos (by simp [hM a (List.mem_cons_self ..)])]
        exact ih fun x hx => hM x (List.mem_cons_of_mem _ hx)
    rw [key _ fun x hx => ?_, List.reverse_nil]
    apply Classical.byContradiction
    intro hne
    exact h ⟨x, List.mem_reverse.1 hx, hne⟩
theorem kp_facts (f : Fm) (s : Nat) (hs : s < 1000000) (hp : f.p ≤ 6) : kpN f s ≤ 6 ∧ f.p ≤ kpN f s ∧ (∀ j, kpN f s ≤ j → j < 6 → btN (dgText s 6) j = 48) ∧ (f.p < kpN f s → btN (dgText s 6) (kpN f s - 1) ≠ 48) := by
  obtain ⟨g, hg⟩ := trim_split (dgText s 6) 48
  have h6 := dgText_six hs
  have he := trim_end (dgText s 6) 48
  unfold kpN
  generalize Lib.trimRightB (dgText s 6) 48 = U at hg he ⊢
  rw [hg] at h6 ⊢
  have hl : U.length + g = 6 := by simpa using h6
  refine ⟨by omega, by omega, fun j h1 h2 => ?_, fun h => ?_⟩
  · unfold btN
    rw [List.getD_eq_getElem?_getD, List.getElem?_append_right (by omega), List.getElem?_replicate, if_pos (by omega)]
    rfl
  · rcases he with he | ⟨C, y, he, hy⟩
    · rw [he] at h
      simp at h
    · have hlen : U.length = C.length + 1 := by rw [he]; simp
      have e : max f.p U.length - 1 = C.length := by omega
      rw [e, he]
      unfold btN
      rw [List.getD_eq_getElem?_getD, List.append_assoc, List.getElem?_append_right (Nat.le_refl _)]
      simp only [Nat.sub_self, List.cons_append, List.getElem?_cons_zero, Option.getD_some]
      intro h2
      exact hy (UInt8.toNat_inj.1 h2)
set_option maxRecDepth 100000 in
set_option maxHeartbeats 8000000 in
theorem rwrite_any (hd tl : Bs) (n a1 p o : Nat) (cm pc : Bool) (hn : n ≤ 64) (hp : p ≤ 6) (ho : o ≤ 6) (hhd : hd.length ≤ 200) (htl : tl.length ≤ 200) (d : Int) (h1 : -9223372036854775808 ≤ d) (h2 : d ≤ 9223372036854775807) (w : World) (r : Bs × Int) (hr : wrV bodyR ⟨hd, tl, n, p, o, cm, pc⟩ d = r) :
    Calls Tryd.prog 10 #[.agg #[.string ⟨hd.toArray⟩, .string ⟨tl.toArray⟩, .int .i64 (n : Nat), .int .i64 (a1 : Nat), .int .i64 (p : Nat), .int .i64 (o : Nat), .bool cm, .bool pc], .int .i64 d] w (WrR r w) := by
  have HM := Lib.hid (fun W => refMul_any d 100000000 h1 h2 (by omega) (by omega) W)
  obtain ⟨d1, hd1⟩ : ∃ d1, (if pc = true then okV (mulZ d) else d) = d1 := ⟨_, rfl⟩
  obtain ⟨e1, he1⟩ : ∃ e1, (if pc = true then okE (mulZ d) else 0) = e1 := ⟨_, rfl⟩
  have hr1 : -9223372036854775808 ≤ d1 ∧ d1 ≤ 9223372036854775807 := by
    rw [← hd1]
    split
    · exact okV_rng _
    · omega
  have HN := Lib.hid (fun W => refRound_any d1 ((p + o : Nat) : Int) hr1.1 hr1.2 W)
  obtain ⟨z, hz⟩ : ∃ z, rndZ d1 ((p + o : Nat) : Int) = z := ⟨_, rfl⟩
  have HW : Hid ((if e1 ≠ 0 then ([], e1) else if okE z ≠ 0 then ([], okE z) else (bodyR ⟨hd, tl, n, p, o, cm, pc⟩ (okV z), 0)) = r) := by
    unfold Hid
    rw [← hr]
    unfold wrV
    rw [← hz, ← hd1]
    cases pc
    · rw [← he1]
      rfl
    · simp only [if_true] at he1 hd1 ⊢
      rw [he1]
      by_cases h : e1 = 0
      · subst h
        simp
      · rw [if_pos h, if_pos ⟨trivial, h⟩]
  have hf0 := Lib.hid (heap_alloc_new w (.cells #[.string ⟨hd.toArray⟩, .string ⟨tl.toArray⟩, .int .i64 (n : Nat), .int .i64 (a1 : Nat), .int .i64 (p : Nat), .int .i64 (o : Nat), .bool cm, .bool pc] tRm))
  have hB0 : Hid (Below w.heap.size w (w.alloc (.cells #[.string ⟨hd.toArray⟩, .string ⟨tl.toArray⟩, .int .i64 (n : Nat), .int .i64 (a1 : Nat), .int .i64 (p : Nat), .int .i64 (o : Nat), .bool cm, .bool pc] tRm))) := by unfold Hid; (repeat' (first | (with_reducible exact Below.refl _ _) | (with_reducible assumption) | (with_reducible refine Below.alloc ?_ ?_ _) | (with_reducible refine bel_drewN ?_ _) | (with_reducible refine Below.drew ?_) | (with_reducible refine Below.setCell ?_ ?_ _) | (with_reducible refine bel_call ‹_› ?_ ?_) | go_size))
  have HD1 := Lib.hid hd1
  have HE1 := Lib.hid he1
  have HZ := Lib.hid hz
  clear hd1 he1 hr hz
  go_enter Tryd.func10, Tryd.ntmps10
  go_upto_region 2 with fail
  generalize w.alloc (.cells #[.string ⟨hd.toArray⟩, .string ⟨tl.toArray⟩, .int .i64 (n : Nat), .int .i64 (a1 : Nat), .int .i64 (p : Nat), .int .i64 (o : Nat), .bool cm, .bool pc] tRm) = w0 at hf0 hB0 ⊢
  have hF : Hid (RmB w0 w.heap.size ⟨hd, tl, n, a1, p, o, cm, pc⟩) := hf0.out
  have c7 : w0.cell? ⟨w.heap.size, 7, none⟩ = some (.bool pc) := hF.out.cell 7 _ rfl
  go_upto_if 16 with fail
  go_cut [1, 6] (fun v1 v6 wx => v1 = .int .i64 d1 ∧ v6 = .int .i64 e1 ∧ RmB wx w.heap.size ⟨hd, tl, n, a1, p, o, cm, pc⟩ ∧ Below w.heap.size w wx)
  case first =>
    cases pc
    · go_wp2_with fail
      go_meet
      exact ⟨by rw [← HD1.out]; rfl, by rw [← HE1.out]; rfl, hF.out, hB0.out⟩
    · go_wp2_with fail
      refine (HM.out _).mono ?_
      rintro e w1 ⟨rfl, hb1⟩
      have HV : Hid (okV (sv (decide (d < 0) != decide ((100000000 : Int) < 0)) (rdiv (d.natAbs * (100000000 : Int).natAbs) 1000000)) = d1) := HD1.out
      have HE : Hid (okE (sv (decide (d < 0) != decide ((100000000 : Int) < 0)) (rdiv (d.natAbs * (100000000 : Int).natAbs) 1000000)) = e1) := HE1.out
      rw [HV.out, HE.out]
      have hfx := Lib.hid (hF.out.below hb1)
      have hbx : Hid (Below w.heap.size w w1) := bel_call hb1 hB0.out hB0.out.size
      clear hb1 HD1 HE1 HV HE
      go_wp2_with fail
      go_meet
      exact ⟨rfl, rfl, hfx.out, hbx.out⟩
  case rest =>
  obtain ⟨rfl, rfl, hfc, hbc⟩ := hcut
  have HF := Lib.hid hfc
  have HB := Lib.hid hbc
  clear hfc hbc hf0 hB0 hF c7 HM HD1 HE1
  by_cases he : e1 = 0
  case neg =>
    have t1 : (e1 != 0) = true := by simpa using he
    have HR : Hid (([], e1) = r) := by unfold Hid; rw [← HW.out, if_pos he]
    clear he HW
    go_wp2_with fail
    go_ret2
    exact WrR.of HR.out HB.out
  have t1 : (e1 != 0) = false := by simpa using he
  have HW1 : Hid ((if okE z ≠ 0 then ([], okE z) else (bodyR ⟨hd, tl, n, p, o, cm, pc⟩ (okV z), 0)) = r) := by
    have hw := HW.out
    rw [if_neg (show ¬ e1 ≠ 0 from fun h => h he)] at hw
    exact hw
  clear he HW
  have c4 : wc.cell? ⟨w.heap.size, 4, none⟩ = some (.int .i64 (p : Nat)) := HF.out.cell 4 _ rfl
  have c5 : wc.cell? ⟨w.heap.size, 5, none⟩ = some (.int .i64 (o : Nat)) := HF.out.cell 5 _ rfl
  have hr2 := okV_rng z
  have HV : Hid (okV (sv (decide (d1 < 0)) (rdiv d1.natAbs (uN ((p + o : Nat) : Int)) * uN ((p + o : Nat) : Int))) = okV z) := by unfold Hid; rw [← HZ.out]; rfl
  have HE : Hid (okE (sv (decide (d1 < 0)) (rdiv d1.natAbs (uN ((p + o : Nat) : Int)) * uN ((p + o : Nat) : Int))) = okE z) := by unfold Hid; rw [← HZ.out]; rfl
  clear HZ
  generalize okV z = d2 at HV HW1 hr2
  generalize okE z = e2 at HE HW1
  go_wp2_with fail
  refine (HN.out _).mono ?_
  rintro e w1 ⟨rfl, hb1⟩
  rw [HV.out, HE.out]
  have HFx := Lib.hid (HF.out.below hb1)
  have HBx : Hid (Below w.heap.size w w1) := bel_call hb1 HB.out HB.out.size
  clear hb1 HV HE HF HB HN c4 c5
  by_cases he : e2 = 0
  case neg =>
    have t2 : (e2 != 0) = true := by simpa using he
    have HR : Hid (([], e2) = r) := by unfold Hid; rw [← HW1.out, if_pos he]
    clear he HW1
    go_wp2_with fail
    go_ret2
    exact WrR.of HR.out HBx.out
  have t2 : (e2 != 0) = false := by simpa using he
  have HR : Hid ((bodyR ⟨hd, tl, n, p, o, cm, pc⟩ d2, 0) = r) := by unfold Hid; rw [← HW1.out, if_neg (fun h => h he)]
  clear he HW1
  have FA := Lib.hid (fun W => from_any d2 hr2.1 hr2.2 W)
  obtain ⟨x, hx⟩ : ∃ x, d2.natAbs = x := ⟨_, rfl⟩
  have hx8 : x ≤ 9223372036854775808 := by omega
  unfold bodyR at HR
  rw [hx] at FA HR
  obtain ⟨q, hq⟩ : ∃ q, x / 1000000 = q := ⟨_, rfl⟩
  obtain ⟨s, hs⟩ : ∃ s, x % 1000000 = s := ⟨_, rfl⟩
  have hs6 : s < 1000000 := by omega
  have hq8 : q ≤ 9223372036854775808 := by omega
  rw [hq, hs] at HR
  have OV : Hid (∀ (p : Option Addr) (n cap : Nat) (p2 : Option Addr) (n2 cap2 : Nat), n ≤ 400 → n2 ≤ 400 → ∀ W, RdN W p n cap (digs x) → RdN W p2 n2 cap2 (digs 1000000) → Calls Tryd.prog 28 #[.slice p n cap, .slice p2 n2 cap2] W (RetN2 q s W)) := by
    unfold Hid
    intro p n cap p2 n2 cap2 h1 h2 W h3 h4
    have := over_any p n cap x p2 n2 cap2 1000000 h1 h2 (by omega) W h3 h4
    rw [hq, hs] at this
    exact this
  have LA : Hid ((digs x).length ≤ 20) := digs_length_le (by omega)
  have LQ : Hid ((digs q).length ≤ 20) := digs_length_le (by omega)
  have LS : Hid ((digs s).length ≤ 20) := digs_length_le (by omega)
  have LM : Hid ((digs 1000000).length ≤ 7) := digs_length_le (by omega)
  obtain ⟨mi, hmi⟩ : ∃ mi, decide (d2 < 0) = mi := ⟨_, rfl⟩
  rw [hmi] at FA HR
  have hmx : mi = true → 0 < (digs x).length := by
    intro h
    rw [h] at hmi
    have h3 := of_decide_eq_true hmi
    rcases Nat.eq_zero_or_pos (digs x).length with h4 | h4
    · have := digs_nil.1 (List.eq_nil_of_length_eq_zero h4)
      omega
    · exact h4
  have HMX := Lib.hid hmx
  clear hx hq hs hmi hmx
  go_wp2_with fail
  refine (FA.out _).mono ?_
  rintro e w2 ⟨p1, n1, c1, rfl, hh1, hb1⟩
  have hs1 := hb1.size
  have hn1 : n1 ≤ 20 := by rw [← hh1.len]; exact LA.out
  have hmn : Hid (mi = true → 0 < n1) := by unfold Hid; rw [← hh1.len]; exact HMX.out
  have H1 := Lib.hid hh1
  have HF2 := Lib.hid (HFx.out.below hb1)
  have HB2 : Hid (Below w.heap.size w w2) := bel_call hb1 HBx.out HBx.out.size
  have hg : w.heap.size < w2.heap.size := lt_some HF2.out
  clear hh1 hb1 hs1 HFx HBx FA LA HMX
  go_upto_region 10 with fail
  have hN := Lib.hid (heap_alloc_new w2 (.cells #[.bool mi, .slice p1 n1 c1] 61))
  have hbn : Below w2.heap.size w2 (w2.alloc (.cells #[.bool mi, .slice p1 n1 c1] 61)) := by (repeat' (first | (with_reducible exact Below.refl _ _) | (with_reducible assumption) | (with_reducible refine Below.alloc ?_ ?_ _) | (with_reducible refine bel_drewN ?_ _) | (with_reducible refine Below.drew ?_) | (with_reducible refine Below.setCell ?_ ?_ _) | (with_reducible refine bel_call ‹_› ?_ ?_) | go_size))
  have HF3 := Lib.hid (HF2.out.below hbn)
  have HB3 : Hid (Below w.heap.size w (w2.alloc (.cells #[.bool mi, .slice p1 n1 c1] 61))) := HB2.out.alloc HB2.out.size _
  have H13 := Lib.hid (H1.out.below hbn)
  clear hbn HF2 HB2 H1
  generalize w2.alloc (.cells #[.bool mi, .slice p1 n1 c1] 61) = w3 at hN HF3 HB3 H13 ⊢
  generalize w2.heap.size = g at hN hg ⊢
  have g0 : w3.cell? ⟨g, 0, none⟩ = some (.bool mi) := by rw [cell_of_block hN.out]; rfl
  have g1 : w3.cell? ⟨g, 1, none⟩ = some (.slice p1 n1 c1) := by rw [cell_of_block hN.out]; rfl
  have hgl : g < w3.heap.size := lt_some hN.out
  have hwl : w.heap.size < w3.heap.size := by omega
  go_region_held3 (fun w' => w'.cell? ⟨g, 1, none⟩ = some (.slice p1 n1 c1)) (first | (go_simp; done) | go_keep)
    (first
      | (go_at_call 29; refine (of_mill _).mono ?_; rintro e w4 ⟨p2, n2, c2, rfl, h2, hb2, hf2⟩; obtain ⟨hc2, hfz2, hz2⟩ := bcell hb2 (by first | (simp only [World.size_alloc, World.size_setCell, World.size_drew]; rfl) | rfl); have hn2 : n2 ≤ 7 := (by rw [← h2.len]; exact LM.out); have H2 := Lib.hid h2; clear h2 hf2)
      | (go_at_call 28; refine (OV.out p1 n1 c1 p2 n2 c2 (by omega) (by omega) _ (H13.out.below (by (repeat' (first | (with_reducible exact Below.refl _ _) | (with_reducible assumption) | (with_reducible refine Below.alloc ?_ ?_ _) | (with_reducible refine bel_drewN ?_ _) | (with_reducible refine Below.drew ?_) | (with_reducible refine Below.setCell ?_ ?_ _) | (with_reducible refine bel_call ‹_› ?_ ?_) | go_size)))) (H2.out.below (by (repeat' (first | (with_reducible exact Below.refl _ _) | (with_reducible assumption) | (with_reducible refine Below.alloc ?_ ?_ _) | (with_reducible refine bel_drewN ?_ _) | (with_reducible refine Below.drew ?_) | (with_reducible refine Below.setCell ?_ ?_ _) | (with_reducible refine bel_call ‹_› ?_ ?_) | go_size))))).mono ?_; rintro e w5 ⟨p3, n3, c3, p4, n4, c4, rfl, h3, h4, hb3, hf3, hf4⟩; obtain ⟨hc3, hfz3, hz3⟩ := bcell hb3 (by first | (simp only [World.size_alloc, World.size_setCell, World.size_drew]; rfl) | rfl); have hn3 : n3 ≤ 20 := (by rw [← h3.len]; exact LQ.out); have hn4 : n4 ≤ 20 := (by rw [← h4.len]; exact LS.out); have H3 := Lib.hid h3; have H4 := Lib.hid h4; clear h3 h4 hf3 hf4))
  have hb35 : Below w3.heap.size w3 w5 := by (repeat' (first | (with_reducible exact Below.refl _ _) | (with_reducible assumption) | (with_reducible refine Below.alloc ?_ ?_ _) | (with_reducible refine bel_drewN ?_ _) | (with_reducible refine Below.drew ?_) | (with_reducible refine Below.setCell ?_ ?_ _) | (with_reducible refine bel_call ‹_› ?_ ?_) | go_size))
  have HF5 := Lib.hid (HF3.out.below hb35)
  have HB5 : Hid (Below w.heap.size w w5) := bel_call hb35 HB3.out HB3.out.size
  have HN5 : Hid (w5.heap[g]? = some (.cells #[.bool mi, .slice p1 n1 c1] 61 (0, 0))) := (hb35.block g hgl).trans hN.out
  have hl5 := hb35.size
  clear hb35 hb2 hb3 hc2 hfz2 hc3 hfz3 HF3 HB3 hN H13 H2 g0 g1 OV LM
  have HL5 : Hid (g < w5.heap.size) := by unfold Hid; omega
  clear hl5 hgl hwl hz2 hz3 hn2
  have k2 : w5.cell? ⟨w.heap.size, 2, none⟩ = some (.int .i64 (n : Nat)) := HF5.out.cell 2 _ rfl
  go_wp2_with fail
  refine (refDigits_any p3 n3 c3 q n (by omega) (by omega) _ H3.out).mono ?_
  rintro e w6 ⟨rfl, hb6⟩
  have HF6 := Lib.hid (HF5.out.below hb6)
  have HB6 : Hid (Below w.heap.size w w6) := bel_call hb6 HB5.out HB5.out.size
  have HN6 : Hid (w6.heap[g]? = some (.cells #[.bool mi, .slice p1 n1 c1] 61 (0, 0))) := (hb6.block g HL5.out).trans HN5.out
  have H46 := Lib.hid (H4.out.below hb6)
  clear k2 hb6 HF5 HB5 HN5 HL5 H3 H4 LQ
  have hLl := dgText_len q n (by omega) (by omega)
  generalize dgText q n = L at HR hLl ⊢
  have k6 : w6.cell? ⟨w.heap.size, 6, none⟩ = some (.bool cm) := HF6.out.cell 6 _ rfl
  obtain ⟨L2, hL2⟩ : ∃ L2, (if cm = true then grp true L else L) = L2 := ⟨_, rfl⟩
  have hL2l : L2.length ≤ 300 := by
    rw [← hL2]
    have := grp_len true L
    split <;> omega
  have HL2 : Hid ([] ++ (if cm = true then grp (decide (0 = 0)) (L.drop 0) else L.drop 0) = L2) := by unfold Hid; rw [List.drop_zero]; exact hL2
  have HR2 : Hid ((hd ++ ((if mi then [45] else []) ++ (L2 ++ (if 0 < p + o ∧ (dgText s 6).take (kpN ⟨hd, tl, n, p, o, cm, pc⟩ s) ≠ [] then 46 :: (dgText s 6).take (kpN ⟨hd, tl, n, p, o, cm, pc⟩ s) else []) ++ (if pc then [37] else []))) ++ tl, 0) = r) := by
    unfold Hid
    rw [← HR.out, ← hL2]
    rfl
  clear hL2 HR
  have hbs : ∀ i (h : i < (⟨L.toArray⟩ : ByteArray).size), (((⟨L.toArray⟩ : ByteArray)[i].toNat : Nat) : Int) = (btN L i : Int) := fun i h => by rw [btN_str ⟨L.toArray⟩ i h]
  have hLs : (⟨L.toArray⟩ : ByteArray).size = L.length := by rw [Lib.size_eq]
  go_upto_block 0 with fail
  go_cut [11] (fun v wx => v = .string ⟨L2.toArray⟩ ∧ wx = w6)
  case first =>
    go_wp2_with fail
    go_loopg [11, 12] L.length (fun gm v11 v12 wr => wr = w6 ∧ ∃ (i : Nat) (X : Bs), i + gm = L.length ∧ v12 = .int .i64 i ∧ v11 = .string ⟨X.toArray⟩ ∧ X.length ≤ 2 * i ∧ X ++ (if cm = true then grp (decide (i = 0)) (L.drop i) else L.drop i) = L2)
    case atStart => exact ⟨rfl, 0, [], by omega, rfl, rfl, by simp, HL2.out⟩
    case round =>
      obtain ⟨rfl, i, X, hig, rfl, rfl, hXl, hX⟩ := hrel
      have HX := Lib.hid hX
      clear hX
      by_cases hlt : i < L.length
      · have hli : (i : Int) < (L.length : Int) := by omega
        have hXs : (⟨X.toArray⟩ : ByteArray).size = X.length := by rw [Lib.size_eq]
        obtain ⟨tb, htb⟩ : ∃ tb, decide (cm = true ∧ 0 < i ∧ (L.length - i) % 3 = 0) = tb := ⟨_, rfl⟩
        have HTB := Lib.hid htb
        clear htb
        go_upto_region 16 with fail
        go_cut [73] (fun v wx => v = .bool tb ∧ wx = wr)
        case first =>
          cases cm
          · have HS : Hid (tb = false) := by unfold Hid; rw [← HTB.out]; exact decide_eq_false (fun h => by cases h.1)
            clear HTB HX
            go_wp2_with fail
            go_meet
            exact ⟨by rw [HS.out], rfl⟩
          · by_cases hi : 0 < i
            · have hii : (0 : Int) < (i : Int) := by omega
              have HS : Hid ((((L.length : Int) - (i : Int)) % 3 == 0) = tb) := by
                unfold Hid
                rw [← HTB.out, Bool.eq_iff_iff]
                simp only [beq_iff_eq, decide_eq_true_eq]
                constructor
                · intro h
                  exact ⟨trivial, hi, by omega⟩
                · rintro ⟨_, _, h⟩
                  omega
              clear HTB HX hi
              go_wp2_with fail
              go_meet
              exact ⟨by rw [← HS.out], rfl⟩
            · have hii : ¬ (0 : Int) < (i : Int) := by omega
              have HS : Hid (tb = false) := by unfold Hid; rw [← HTB.out]; exact decide_eq_false (fun h => hi h.2.1)
              clear HTB HX hi
              go_wp2_with fail
              go_meet
              exact ⟨by rw [HS.out], rfl⟩
        case rest =>
        obtain ⟨rfl, hwr⟩ := hcut
        rw [hwr]
        clear hwr
        obtain ⟨X2, hX2⟩ : ∃ X2, X ++ (if tb = true then [44] else []) = X2 := ⟨_, rfl⟩
        have hX2l : X2.length ≤ 2 * i + 1 := by
          rw [← hX2, List.length_append]
          split
          · simp; omega
          · simp; omega
        have HX2 := Lib.hid hX2
        clear hX2
        go_upto_if 73 with fail
        go_cut [11] (fun v wx => v = .string ⟨X2.toArray⟩ ∧ wx = wr)
        case first =>
          cases tb
          · have HS : Hid (X = X2) := by unfold Hid; rw [← HX2.out]; simp
            clear HTB HX HX2
            go_wp2_with fail
            go_meet
            exact ⟨by rw [HS.out], rfl⟩
          · have k1 : (⟨X.toArray⟩ : ByteArray) ++ ⟨#[44]⟩ = ⟨X2.toArray⟩ := by rw [← HX2.out]; exact cat2 X [44]
            clear HTB HX HX2
            go_wp2_with fail
            go_meet
            exact ⟨rfl, rfl⟩
        case rest =>
        obtain ⟨rfl, hwr⟩ := hcut
        rw [hwr]
        clear hwr
        have hex : (⟨L.toArray⟩ : ByteArray).extract i (i + 1) = ⟨[L[i]].toArray⟩ := by
          rw [mid_bytes]
          show (⟨((L.drop i).take (i + 1 - i)).toArray⟩ : ByteArray) = _
          rw [List.drop_eq_getElem_cons hlt, show i + 1 - i = 1 by omega]
          rfl
        have HNX : Hid ((X2 ++ [L[i]]) ++ (if cm = true then grp (decide (i + 1 = 0)) (L.drop (i + 1)) else L.drop (i + 1)) = L2) := by
          unfold Hid
          rw [← HX.out, ← HX2.out, ← HTB.out]
          cases cm
          · simp
          · simp only [if_true, true_and, decide_eq_true_eq]
            rw [grp_at L i hlt]
            simp
        have hc8 : ([L[i]] : Bs).length = 1 := rfl
        obtain ⟨C, hC⟩ : ∃ C : Bs, [L[i]] = C := ⟨_, rfl⟩
        rw [hC] at hex HNX hc8
        have k1 : (⟨X2.toArray⟩ : ByteArray) ++ ⟨C.toArray⟩ = ⟨(X2 ++ C).toArray⟩ := cat2 _ _
        have hXC : (X2 ++ C).length ≤ 2 * (i + 1) := by rw [List.length_append]; omega
        have hCs : (⟨C.toArray⟩ : ByteArray).size = C.length := by rw [Lib.size_eq]
        have hX2s : (⟨X2.toArray⟩ : ByteArray).size = X2.length := by rw [Lib.size_eq]
        generalize X2 ++ C = X3 at k1 hXC HNX
        have hC1 : C.length ≤ 1 := by omega
        clear hC hc8 HX HX2 HTB
        go_wp2_with fail
        go_roundg (gk - 1)
        case measure => omega
        case rel => exact ⟨rfl, i + 1, X3, by omega, by go_num, rfl, hXC, HNX.out⟩
      · obtain rfl : i = L.length := by omega
        have hli : ¬ (L.length : Int) < (L.length : Int) := by omega
        have HE : Hid (X = L2) := by
          unfold Hid
          rw [← HX.out, List.drop_eq_nil_of_le (Nat.le_refl _)]
          cases cm <;> simp [grp]
        clear HX
        go_wp2_with fail
        go_meet
        exact ⟨by rw [HE.out], rfl⟩
  case rest =>
  obtain ⟨rfl, rfl⟩ := hcut
  clear k6 HL2 hbs hLs
  go_wp2_with fail
  refine (refDigits_6 p4 n4 c4 s (by omega) _ H46.out).mono ?_
  rintro e w7 ⟨rfl, hb7⟩
  have HF7 := Lib.hid (HF6.out.below hb7)
  have HB7 : Hid (Below w.heap.size w w7) := bel_call hb7 HB6.out HB6.out.size
  have hgl6 : g < wc.heap.size := lt_some HN6.out
  have HN7 : Hid (w7.heap[g]? = some (.cells #[.bool mi, .slice p1 n1 c1] 61 (0, 0))) := (hb7.block g hgl6).trans HN6.out
  clear hb7 HF6 HB6 HN6 hgl6 H46 LS
  obtain ⟨hk6, hpk, hk1, hk2⟩ := kp_facts ⟨hd, tl, n, p, o, cm, pc⟩ s hs6 hp
  have hRl := dgText_six hs6
  generalize kpN ⟨hd, tl, n, p, o, cm, pc⟩ s = K at HR2 hk6 hpk hk1 hk2
  generalize dgText s 6 = R at HR2 hk1 hk2 hRl ⊢
  have hpk' : p ≤ K := hpk
  have HK1 := Lib.hid hk1
  have HK2 : Hid (p < K → btN R (K - 1) ≠ 48) := hk2
  clear hpk hk1 hk2
  have hRs : (⟨R.toArray⟩ : ByteArray).size = 6 := by rw [Lib.size_eq]; exact hRl
  have HBS : Hid (∀ i (h : i < (⟨R.toArray⟩ : ByteArray).size), (((⟨R.toArray⟩ : ByteArray)[i].toNat : Nat) : Int) = (btN R i : Int)) := fun i h => by rw [btN_str ⟨R.toArray⟩ i h]
  have k4 : w7.cell? ⟨w.heap.size, 4, none⟩ = some (.int .i64 (p : Nat)) := HF7.out.cell 4 _ rfl
  go_upto_block 2 with fail
  go_cut [14] (fun v wx => v = .int .i64 (K : Nat) ∧ wx = w7)
  case first =>
    go_wp2_with fail
    go_loopg [14] (6 - K) (fun gm v wr => wr = w7 ∧ v = .int .i64 ((K + gm : Nat) : Int) ∧ K + gm ≤ 6)
    case atStart => exact ⟨rfl, by rw [show K + (6 - K) = 6 by omega]; rfl, by omega⟩
    case round =>
      obtain ⟨rfl, rfl, hle⟩ := hrel
      by_cases h0 : gk = 0
      · subst h0
        rw [Nat.add_zero] at hle ⊢
        by_cases hpK : p < K
        · obtain ⟨m, rfl⟩ : ∃ m, K = m + 1 := ⟨K - 1, by omega⟩
          have hpi : (p : Int) < (m : Int) + 1 := by omega
          have hb := HBS.out m (by omega)
          have hne := HK2.out hpK
          rw [show m + 1 - 1 = m by omega] at hne
          generalize btN R m = c at hb hne
          have hni : ((c : Int) == 48) = false := by simp; omega
          clear hne hpK hRl
          go_wp2_with fail
          go_meet
          exact ⟨rfl, rfl⟩
        · have hpi : ¬ (p : Int) < (K : Int) := by omega
          clear hpK hRl
          go_wp2_with fail
          go_meet
          exact ⟨rfl, rfl⟩
      · obtain ⟨j, rfl⟩ : ∃ j, gk = j + 1 := ⟨gk - 1, by omega⟩
        obtain ⟨m, hm⟩ : ∃ m, K + j = m := ⟨_, rfl⟩
        rw [show K + (j + 1) = m + 1 by omega] at hle ⊢
        have hpi : (p : Int) < (m : Int) + 1 := by omega
        have hb := HBS.out m (by omega)
        rw [HK1.out m (by omega) (by omega)] at hb
        have HM := Lib.hid hm
        clear hm h0 hRl
        go_wp2_with fail
        go_roundg j
        case measure => omega
        case rel => exact ⟨rfl, by rw [HM.out], by rw [HM.out]; omega⟩
  case rest =>
  obtain ⟨rfl, rfl⟩ := hcut
  have k5 : wc.cell? ⟨w.heap.size, 5, none⟩ = some (.int .i64 (o : Nat)) := HF7.out.cell 5 _ rfl
  have k7 : wc.cell? ⟨w.heap.size, 7, none⟩ = some (.bool pc) := HF7.out.cell 7 _ rfl
  have k0 : wc.cell? ⟨w.heap.size, 0, none⟩ = some (.string ⟨hd.toArray⟩) := HF7.out.cell 0 _ rfl
  have k1 : wc.cell? ⟨w.heap.size, 1, none⟩ = some (.string ⟨tl.toArray⟩) := HF7.out.cell 1 _ rfl
  have g0 : wc.cell? ⟨g, 0, none⟩ = some (.bool mi) := by rw [cell_of_block HN7.out]; rfl
  have g1 : wc.cell? ⟨g, 1, none⟩ = some (.slice p1 n1 c1) := by rw [cell_of_block HN7.out]; rfl
  clear HK1 HK2 HBS HF7 HN7
  have htk : (R.take K).length = K := by rw [List.length_take]; omega
  have hex : (⟨R.toArray⟩ : ByteArray).extract 0 K = ⟨(R.take K).toArray⟩ := mid_bytes _ 0 K
  generalize R.take K = T at HR2 htk hex
  obtain ⟨L3, hL3⟩ : ∃ L3, L2 ++ (if 0 < p + o ∧ T ≠ [] then 46 :: T else []) = L3 := ⟨_, rfl⟩
  rw [hL3] at HR2
  have hL3l : L3.length ≤ 400 := by
    rw [← hL3, List.length_append]
    split
    · rw [List.length_cons]; omega
    · rw [List.length_nil]; omega
  have HL3 := Lib.hid hL3
  clear hL3
  obtain ⟨tb, htb⟩ : ∃ tb, decide (0 < K ∧ 0 < p + o) = tb := ⟨_, rfl⟩
  have HTB := Lib.hid htb
  clear htb
  have HTT : Hid ((0 < p + o ∧ T ≠ []) ↔ (0 < K ∧ 0 < p + o)) := by
    unfold Hid
    have : T ≠ [] ↔ 0 < K := by
      rw [← htk, List.length_pos_iff]
    rw [this, and_comm]
  go_upto_region 23 with fail
  go_cut [110] (fun v wx => v = .bool tb ∧ wx = wc)
  case first =>
    by_cases hK0 : 0 < K
    · have hki : (0 : Int) < (K : Int) := by omega
      by_cases hpo : 0 < p + o
      · have hpi : (0 : Int) < (p : Int) + (o : Int) := by omega
        have HS : Hid (tb = true) := by unfold Hid; rw [← HTB.out]; exact decide_eq_true ⟨hK0, hpo⟩
        clear HL3 HTB HTT hpo hK0
        go_wp2_with fail
        go_meet
        exact ⟨by rw [HS.out], rfl⟩
      · have hpi : ¬ (0 : Int) < (p : Int) + (o : Int) := by omega
        have HS : Hid (tb = false) := by unfold Hid; rw [← HTB.out]; exact decide_eq_false (fun h => hpo h.2)
        clear HL3 HTB HTT hpo hK0
        go_wp2_with fail
        go_meet
        exact ⟨by rw [HS.out], rfl⟩
    · have hki : ¬ (0 : Int) < (K : Int) := by omega
      have HS : Hid (tb = false) := by unfold Hid; rw [← HTB.out]; exact decide_eq_false (fun h => hK0 h.1)
      clear HL3 HTB HTT hK0
      go_wp2_with fail
      go_meet
      exact ⟨by rw [HS.out], rfl⟩
  case rest =>
  obtain ⟨rfl, rfl⟩ := hcut
  have hL2s : (⟨L2.toArray⟩ : ByteArray).size = L2.length := by rw [Lib.size_eq]
  have hTs : (⟨T.toArray⟩ : ByteArray).size = T.length := by rw [Lib.size_eq]
  go_upto_if 110 with fail
  go_cut [11] (fun v wx => v = .string ⟨L3.toArray⟩ ∧ wx = wc)
  case first =>
    cases tb
    · have HS : Hid (L2 = L3) := by
        unfold Hid
        rw [← HL3.out, if_neg (fun h => of_decide_eq_false HTB.out (HTT.out.1 h)), List.append_nil]
      clear HL3 HTB HTT
      go_wp2_with fail
      go_meet
      exact ⟨by rw [HS.out], rfl⟩
    · have k8 : (⟨L2.toArray⟩ : ByteArray) ++ ⟨#[46]⟩ = ⟨(L2 ++ [46]).toArray⟩ := cat2 L2 [46]
      have k9 : (⟨(L2 ++ [46]).toArray⟩ : ByteArray) ++ ⟨T.toArray⟩ = ⟨L3.toArray⟩ := by
        rw [cat2, ← HL3.out, if_pos (HTT.out.2 (of_decide_eq_true HTB.out))]
        simp
      have k10 : (L2 ++ [46]).length ≤ 301 := by rw [List.length_append]; simp; omega
      have k11 : (⟨(L2 ++ [46]).toArray⟩ : ByteArray).size = (L2 ++ [46]).length := by rw [Lib.size_eq]
      clear HL3 HTB HTT
      generalize L2 ++ [46] = P1 at k8 k9 k10 k11
      go_wp2_with fail
      go_meet
      exact ⟨rfl, rfl⟩
  case rest =>
  obtain ⟨rfl, rfl⟩ := hcut
  clear HL3 HTB HTT hTs hL2s hex
  obtain ⟨L4, hL4⟩ : ∃ L4, L3 ++ (if pc = true then [37] else []) = L4 := ⟨_, rfl⟩
  rw [hL4] at HR2
  have hL4l : L4.length ≤ 401 := by
    rw [← hL4, List.length_append]
    split
    · simp; omega
    · simp; omega
  have HL4 := Lib.hid hL4
  clear hL4
  have hL3s : (⟨L3.toArray⟩ : ByteArray).size = L3.length := by rw [Lib.size_eq]
  go_upto_if 118 with fail
  go_cut [11] (fun v wx => v = .string ⟨L4.toArray⟩ ∧ wx = wc)
  case first =>
    cases pc
    · have HS : Hid (L3 = L4) := by unfold Hid; rw [← HL4.out]; simp
      go_wp2_with fail
      go_meet
      exact ⟨by rw [HS.out], rfl⟩
    · have k8 : (⟨L3.toArray⟩ : ByteArray) ++ ⟨#[37]⟩ = ⟨L4.toArray⟩ := by rw [← HL4.out]; exact cat2 L3 [37]
      go_wp2_with fail
      go_meet
      exact ⟨rfl, rfl⟩
  case rest =>
  obtain ⟨rfl, rfl⟩ := hcut
  clear HL4
  obtain ⟨L5, hL5⟩ : ∃ L5, (if mi = true then [45] else []) ++ L4 = L5 := ⟨_, rfl⟩
  rw [hL5] at HR2
  have hL5l : L5.length ≤ 402 := by
    rw [← hL5, List.length_append]
    split
    · simp; omega
    · simp; omega
  have HL5 := Lib.hid hL5
  clear hL5
  have hL4s : (⟨L4.toArray⟩ : ByteArray).size = L4.length := by rw [Lib.size_eq]
  go_upto_region 27 with fail
  go_cut [128] (fun v wx => v = .bool mi ∧ wx = wc)
  case first =>
    cases mi
    · clear HL5
      go_wp2_with fail
      go_meet
      exact ⟨rfl, rfl⟩
    · have hn1p := hmn.out rfl
      have hni : (0 : Int) < (n1 : Int) := by omega
      clear HL5
      go_wp2_with fail
      go_meet
      exact ⟨rfl, rfl⟩
  case rest =>
  obtain ⟨rfl, rfl⟩ := hcut
  go_upto_if 128 with fail
  go_cut [11] (fun v wx => v = .string ⟨L5.toArray⟩ ∧ wx = wc)
  case first =>
    cases mi
    · have HS : Hid (L4 = L5) := by unfold Hid; rw [← HL5.out]; simp
      go_wp2_with fail
      go_meet
      exact ⟨by rw [HS.out], rfl⟩
    · have k8 : (⟨#[45]⟩ : ByteArray) ++ ⟨L4.toArray⟩ = ⟨L5.toArray⟩ := by rw [← HL5.out]; exact cat2 [45] L4
      go_wp2_with fail
      go_meet
      exact ⟨rfl, rfl⟩
  case rest =>
  obtain ⟨rfl, rfl⟩ := hcut
  clear HL5
  have hL5s : (⟨L5.toArray⟩ : ByteArray).size = L5.length := by rw [Lib.size_eq]
  have hhs : (⟨hd.toArray⟩ : ByteArray).size = hd.length := by rw [Lib.size_eq]
  have hts : (⟨tl.toArray⟩ : ByteArray).size = tl.length := by rw [Lib.size_eq]
  have k8 : (⟨hd.toArray⟩ : ByteArray) ++ ⟨L5.toArray⟩ = ⟨(hd ++ L5).toArray⟩ := cat2 _ _
  have k9 : (⟨(hd ++ L5).toArray⟩ : ByteArray) ++ ⟨tl.toArray⟩ = ⟨(hd ++ L5 ++ tl).toArray⟩ := cat2 _ _
  have k10 : (⟨(hd ++ L5).toArray⟩ : ByteArray).size ≤ 1300 := by rw [Lib.size_eq]; show (hd ++ L5).length ≤ 1300; rw [List.length_append]; omega
  generalize hd ++ L5 ++ tl = X at k9 HR2
  generalize hd ++ L5 = Y1 at k8 k9 k10
  go_wp2_with fail
  go_ret2
  exact WrR.of HR2.out HB7.out
end Go.Proofs.YteknbdodihfbeaaDoor
