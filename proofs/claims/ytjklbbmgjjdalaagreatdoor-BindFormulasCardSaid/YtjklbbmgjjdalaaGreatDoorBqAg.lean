/- Trees over cells: write at texts. Turned by gen_cel.py out of the texts on trees over numbers. Trees over cells: write at numbers and names. Turned by gen_cel.py out of the texts on trees over numbers. Trees over cells: write at a sign ahead and at sums. Turned by gen_cel.py out of the texts on trees over numbers. Trees over cells: write at calls. Turned by gen_cel.py out of the texts on trees over numbers. Trees over cells: write at ranges. Turned by gen_cel.py out of the texts on trees over numbers. -/
import Derived.Test.YtjklbbmgjjdalaaGreatDoorBqR
import Derived.Test.YtjklbbmgjjdalaaGreatDoorBqT
set_option linter.unusedSimpArgs false
set_option linter.unusedVariables false
namespace Go.Proofs.YtjklbbmgjjdalaaGreatDoor.Cel
open Go.RowKit Go.Joins
set_option maxRecDepth 100000 in
set_option maxHeartbeats 4000000 in
theorem write_2 (nm : Int → Bs) (F : Value) (d : Nat) : WriteN nm F (fun n => n.kind = 2) d := by
  intro n p len cap least lv B b l ws w hq hrd hok hrt hl0 hl1 hsh hB0 hw0 hib hB hlen
  have hk : n.kind = 2 := hq
  have HK := Lib.hid hk
  have HST := Lib.hid (fun W => strengthN n p len cap W)
  have hpr : prN nm n least = quoT n.text := by
    cases n with
    | mk k u t f o a =>
      obtain rfl : k = 2 := hk
      rw [prN, if_neg (by unfold hdS; simp; omega)]
      rfl
  have hw : 400 ≤ wtN n := by cases n; rw [wtN]; omega
  rw [hpr]
  have htx : n.text.length ≤ 1100000 := by cases n; rw [wtN] at hlen; simp only [Nd.text]; omega
  have HTX := Lib.hid (fun W (hW : Below B w W) => quote_any ⟨n.text.toArray⟩ (by rw [Lib.size_eq]; exact htx) W (shaped_below hsh (by rw [← hB0]; exact hw0.trans hW)))
  rw [show (⟨n.text.toArray⟩ : ByteArray).data.toList = n.text from rfl] at HTX
  have hbl : (quoT n.text).length ≤ wtN n := by
    have := dblT_len n.text
    cases n
    rw [wtN]
    unfold quoT
    simp only [Nd.text] at *
    simp
    omega
  obtain ⟨X, hX⟩ : ∃ X, quoT n.text = X := ⟨_, rfl⟩
  rw [hX] at HTX ⊢
  have hXl : X.length ≤ wtN n := by rw [← hX]; exact hbl
  clear hX hbl
  rw [show hdS n.kind n.text = 6 from by rw [hk]; rfl] at HST
  clear hrd hok hrt hsh hB0 hw0 hpr hk hq
  have hl6 : ¬ 6 < least := by omega
  have hA0 : Hid (NdB tPn (w.alloc (.cells (ndA n p len cap) tPn)) w.heap.size n p len cap) := heap_alloc_new w _
  have hAB : Hid (Below B w (w.alloc (.cells (ndA n p len cap) tPn))) := (Below.refl B w).alloc hB _
  have hAK : Hid (KeepN w (w.alloc (.cells (ndA n p len cap) tPn))) := KeepN.of (by (repeat' (first | (with_reducible exact Below.refl _ _) | (with_reducible assumption) | (with_reducible refine Below.alloc ?_ ?_ _) | (with_reducible refine bel_drewN ?_ _) | (with_reducible refine Below.drew ?_) | (with_reducible refine Below.setCell ?_ ?_ _) | (with_reducible refine bel_call ‹_› ?_ ?_) | go_size)))
  have HIB := Lib.hid (IsBuilder_below hib (Below.alloc (Below.refl w.heap.size w) (Nat.le_refl _) (.cells (ndA n p len cap) tPn)))
  rw [ndA_eq] at HST ⊢
  clear hib
  go_enter_defers Tryz.func73, Tryz.ntmps73
  go_upto_region 1 with fail
  have e0 : w.alloc (.cells #[.int .i64 n.kind, .int .i64 n.num, .string ⟨n.text.toArray⟩, .int .i64 (cC n.frm), .int .i64 (cR n.frm), .int .i64 (cC n.tor), .int .i64 (cR n.tor), .slice p len cap] tPn) = w.alloc (.cells (ndA n p len cap) tPn) := rfl
  rw [e0]
  clear e0
  generalize w.alloc (.cells (ndA n p len cap) tPn) = w0 at hA0 hAB HIB hAK ⊢
  obtain ⟨c0, c1, c2, c3, cd3, c4, cd4, c5⟩ := hA0.out.cells
  go_wp2_with fail
  refine (HST.out _).mono ?_
  rintro e w1 ⟨rfl, hb1⟩
  have hz0 : B ≤ w0.heap.size := Nat.le_trans hB hAB.out.size
  have hB1 : Hid (Below B w w1) := bel_call hb1 hAB.out hz0
  have hA1 := Lib.hid (hA0.out.below hb1)
  have HI1 := Lib.hid (IsBuilder_below HIB.out hb1)
  have HK1 : Hid (KeepN w w1) := hAK.out.trans (KeepN.of hb1)
  have hz1 : B ≤ w1.heap.size := Nat.le_trans hz0 hb1.size
  generalize w.heap.size = bn at hA0 hA1 hB hb1 ⊢
  clear hb1 hA0 HIB hAB hz0 c0 c1 c2 c3 cd3 c4 cd4 c5 HST hAK
  obtain ⟨c0, c1, c2, c3, cd3, c4, cd4, c5⟩ := hA1.out.cells
  rw [HK.out] at c0
  have hXs : (⟨X.toArray⟩ : ByteArray).size = X.length := by rw [Lib.size_eq]
  go_wp2_with fail
  refine (HTX.out w1 hB1.out).mono ?_
  rintro e w2 ⟨rfl, hb2⟩
  have hB2 : Hid (Below B w w2) := bel_call hb2 hB1.out hz1
  have HI2 := Lib.hid (IsBuilder_below HI1.out hb2)
  have HK2 : Hid (KeepN w w2) := HK1.out.trans (KeepN.of hb2)
  have hz2 : B ≤ w2.heap.size := Nat.le_trans hz1 hb2.size
  clear hb2 hA1 HI1 hB1 hz1 c0 c1 c2 c3 cd3 c4 cd4 c5 HTX HK1
  go_wp2_with fail
  refine (write_atK B b l ⟨X.toArray⟩ w2 HI2.out (by rw [hXs]; omega) hz2).mono ?_
  rintro e w3 ⟨rfl, hi3, hb3, hk3⟩
  have hB3 : Hid (Below B w w3) := hB2.out.trans hb3
  have HI3 := Lib.hid hi3
  have HK3 : Hid (KeepN w w3) := HK2.out.trans hk3
  clear hi3 hb3 HI2 hB2 hXs HK2 hk3
  go_wp2_with fail
  exact ⟨_, results_none rfl _ _ _, rfl, HI3.out, hB3.out, HK3.out⟩
end Go.Proofs.YtjklbbmgjjdalaaGreatDoor.Cel
namespace Go.Proofs.YtjklbbmgjjdalaaGreatDoor.Cel
open Go.RowKit Go.Joins
abbrev nameF : Value := .func (.func 55) #[] #[]
set_option maxRecDepth 100000 in
set_option maxHeartbeats 4000000 in
theorem write_1 (d : Nat) : WriteN nmS nameF (fun n => n.kind = 1) d := by
  intro n p len cap least lv B b l ws w hq hrd hok hrt hl0 hl1 hsh hB0 hw0 hib hB hlen
  have hk : n.kind = 1 := hq
  have HK := Lib.hid hk
  have HST := Lib.hid (fun W => strengthN n p len cap W)
  have hpr : prN nmS n least = txt n.num := by
    cases n with
    | mk k u t f o a =>
      obtain rfl : k = 1 := hk
      rw [prN, if_neg (by unfold hdS; simp; omega)]
      rfl
  have hw : 400 ≤ wtN n := by cases n; rw [wtN]; omega
  rw [hpr]
  have HTX := Lib.hid (fun W (_ : Below B w W) => text_any n.num hok.num.1 hok.num.2 W)
  have hbl : (txt n.num).length ≤ wtN n := by have := txt_lenT n.num hok.num.1 hok.num.2; omega
  obtain ⟨X, hX⟩ : ∃ X, txt n.num = X := ⟨_, rfl⟩
  rw [hX] at HTX ⊢
  have hXl : X.length ≤ wtN n := by rw [← hX]; exact hbl
  clear hX hbl
  rw [show hdS n.kind n.text = 6 from by rw [hk]; rfl] at HST
  clear hrd hok hrt hsh hB0 hw0 hpr hk hq
  have hl6 : ¬ 6 < least := by omega
  have hA0 : Hid (NdB tPn (w.alloc (.cells (ndA n p len cap) tPn)) w.heap.size n p len cap) := heap_alloc_new w _
  have hAB : Hid (Below B w (w.alloc (.cells (ndA n p len cap) tPn))) := (Below.refl B w).alloc hB _
  have hAK : Hid (KeepN w (w.alloc (.cells (ndA n p len cap) tPn))) := KeepN.of (by (repeat' (first | (with_reducible exact Below.refl _ _) | (with_reducible assumption) | (with_reducible refine Below.alloc ?_ ?_ _) | (with_reducible refine bel_drewN ?_ _) | (with_reducible refine Below.drew ?_) | (with_reducible refine Below.setCell ?_ ?_ _) | (with_reducible refine bel_call ‹_› ?_ ?_) | go_size)))
  have HIB := Lib.hid (IsBuilder_below hib (Below.alloc (Below.refl w.heap.size w) (Nat.le_refl _) (.cells (ndA n p len cap) tPn)))
  rw [ndA_eq] at HST ⊢
  clear hib
  go_enter_defers Tryz.func73, Tryz.ntmps73
  go_upto_region 1 with fail
  have e0 : w.alloc (.cells #[.int .i64 n.kind, .int .i64 n.num, .string ⟨n.text.toArray⟩, .int .i64 (cC n.frm), .int .i64 (cR n.frm), .int .i64 (cC n.tor), .int .i64 (cR n.tor), .slice p len cap] tPn) = w.alloc (.cells (ndA n p len cap) tPn) := rfl
  rw [e0]
  clear e0
  generalize w.alloc (.cells (ndA n p len cap) tPn) = w0 at hA0 hAB HIB hAK ⊢
  obtain ⟨c0, c1, c2, c3, cd3, c4, cd4, c5⟩ := hA0.out.cells
  go_wp2_with fail
  refine (HST.out _).mono ?_
  rintro e w1 ⟨rfl, hb1⟩
  have hz0 : B ≤ w0.heap.size := Nat.le_trans hB hAB.out.size
  have hB1 : Hid (Below B w w1) := bel_call hb1 hAB.out hz0
  have hA1 := Lib.hid (hA0.out.below hb1)
  have HI1 := Lib.hid (IsBuilder_below HIB.out hb1)
  have HK1 : Hid (KeepN w w1) := hAK.out.trans (KeepN.of hb1)
  have hz1 : B ≤ w1.heap.size := Nat.le_trans hz0 hb1.size
  generalize w.heap.size = bn at hA0 hA1 hB hb1 ⊢
  clear hb1 hA0 HIB hAB hz0 c0 c1 c2 c3 cd3 c4 cd4 c5 HST hAK
  obtain ⟨c0, c1, c2, c3, cd3, c4, cd4, c5⟩ := hA1.out.cells
  rw [HK.out] at c0
  have hXs : (⟨X.toArray⟩ : ByteArray).size = X.length := by rw [Lib.size_eq]
  go_wp2_with fail
  refine (HTX.out w1 hB1.out).mono ?_
  rintro e w2 ⟨rfl, hb2⟩
  have hB2 : Hid (Below B w w2) := bel_call hb2 hB1.out hz1
  have HI2 := Lib.hid (IsBuilder_below HI1.out hb2)
  have HK2 : Hid (KeepN w w2) := HK1.out.trans (KeepN.of hb2)
  have hz2 : B ≤ w2.heap.size := Nat.le_trans hz1 hb2.size
  clear hb2 hA1 HI1 hB1 hz1 c0 c1 c2 c3 cd3 c4 cd4 c5 HTX HK1
  go_wp2_with fail
  refine (write_atK B b l ⟨X.toArray⟩ w2 HI2.out (by rw [hXs]; omega) hz2).mono ?_
  rintro e w3 ⟨rfl, hi3, hb3, hk3⟩
  have hB3 : Hid (Below B w w3) := hB2.out.trans hb3
  have HI3 := Lib.hid hi3
  have HK3 : Hid (KeepN w w3) := HK2.out.trans hk3
  clear hi3 hb3 HI2 hB2 hXs HK2 hk3
  go_wp2_with fail
  exact ⟨_, results_none rfl _ _ _, rfl, HI3.out, hB3.out, HK3.out⟩
set_option maxRecDepth 100000 in
set_option maxHeartbeats 4000000 in
theorem write_3 (d : Nat) : WriteN nmS nameF (fun n => n.kind = 3) d := by
  intro n p len cap least lv B b l ws w hq hrd hok hrt hl0 hl1 hsh hB0 hw0 hib hB hlen
  have hk : n.kind = 3 := hq
  have HK := Lib.hid hk
  have HST := Lib.hid (fun W => strengthN n p len cap W)
  have hpr : prN nmS n least = nmS n.frm := by
    cases n with
    | mk k u t f o a =>
      obtain rfl : k = 3 := hk
      rw [prN, if_neg (by unfold hdS; simp; omega)]
      rfl
  have hw : 400 ≤ wtN n := by cases n; rw [wtN]; omega
  rw [hpr]
  have HTX := Lib.hid (fun W (_ : Below B w W) => pname_any (cC n.frm) (cR n.frm) W)
  rw [show cellS (cC n.frm) (cR n.frm) = nmS n.frm from rfl] at HTX
  have hbl : (nmS n.frm).length ≤ wtN n := by have := nmS_len n.frm; omega
  obtain ⟨X, hX⟩ : ∃ X, nmS n.frm = X := ⟨_, rfl⟩
  rw [hX] at HTX ⊢
  have hXl : X.length ≤ wtN n := by rw [← hX]; exact hbl
  clear hX hbl
  rw [show hdS n.kind n.text = 6 from by rw [hk]; rfl] at HST
  clear hrd hok hrt hsh hB0 hw0 hpr hk hq
  have hl6 : ¬ 6 < least := by omega
  have hA0 : Hid (NdB tPn (w.alloc (.cells (ndA n p len cap) tPn)) w.heap.size n p len cap) := heap_alloc_new w _
  have hAB : Hid (Below B w (w.alloc (.cells (ndA n p len cap) tPn))) := (Below.refl B w).alloc hB _
  have hAK : Hid (KeepN w (w.alloc (.cells (ndA n p len cap) tPn))) := KeepN.of (by (repeat' (first | (with_reducible exact Below.refl _ _) | (with_reducible assumption) | (with_reducible refine Below.alloc ?_ ?_ _) | (with_reducible refine bel_drewN ?_ _) | (with_reducible refine Below.drew ?_) | (with_reducible refine Below.setCell ?_ ?_ _) | (with_reducible refine bel_call ‹_› ?_ ?_) | go_size)))
  have HIB := Lib.hid (IsBuilder_below hib (Below.alloc (Below.refl w.heap.size w) (Nat.le_refl _) (.cells (ndA n p len cap) tPn)))
  rw [ndA_eq] at HST ⊢
  clear hib
  go_enter_defers Tryz.func73, Tryz.ntmps73
  go_upto_region 1 with fail
  have e0 : w.alloc (.cells #[.int .i64 n.kind, .int .i64 n.num, .string ⟨n.text.toArray⟩, .int .i64 (cC n.frm), .int .i64 (cR n.frm), .int .i64 (cC n.tor), .int .i64 (cR n.tor), .slice p len cap] tPn) = w.alloc (.cells (ndA n p len cap) tPn) := rfl
  rw [e0]
  clear e0
  generalize w.alloc (.cells (ndA n p len cap) tPn) = w0 at hA0 hAB HIB hAK ⊢
  obtain ⟨c0, c1, c2, c3, cd3, c4, cd4, c5⟩ := hA0.out.cells
  go_wp2_with fail
  refine (HST.out _).mono ?_
  rintro e w1 ⟨rfl, hb1⟩
  have hz0 : B ≤ w0.heap.size := Nat.le_trans hB hAB.out.size
  have hB1 : Hid (Below B w w1) := bel_call hb1 hAB.out hz0
  have hA1 := Lib.hid (hA0.out.below hb1)
  have HI1 := Lib.hid (IsBuilder_below HIB.out hb1)
  have HK1 : Hid (KeepN w w1) := hAK.out.trans (KeepN.of hb1)
  have hz1 : B ≤ w1.heap.size := Nat.le_trans hz0 hb1.size
  generalize w.heap.size = bn at hA0 hA1 hB hb1 ⊢
  clear hb1 hA0 HIB hAB hz0 c0 c1 c2 c3 cd3 c4 cd4 c5 HST hAK
  obtain ⟨c0, c1, c2, c3, cd3, c4, cd4, c5⟩ := hA1.out.cells
  rw [HK.out] at c0
  have hXs : (⟨X.toArray⟩ : ByteArray).size = X.length := by rw [Lib.size_eq]
  go_wp2_with fail
  go_at_call 55
  refine (HTX.out w1 hB1.out).mono ?_
  rintro e w2 ⟨rfl, hb2⟩
  have hB2 : Hid (Below B w w2) := bel_call hb2 hB1.out hz1
  have HI2 := Lib.hid (IsBuilder_below HI1.out hb2)
  have HK2 : Hid (KeepN w w2) := HK1.out.trans (KeepN.of hb2)
  have hz2 : B ≤ w2.heap.size := Nat.le_trans hz1 hb2.size
  clear hb2 hA1 HI1 hB1 hz1 c0 c1 c2 c3 cd3 c4 cd4 c5 HTX HK1
  go_wp2_with fail
  refine (write_atK B b l ⟨X.toArray⟩ w2 HI2.out (by rw [hXs]; omega) hz2).mono ?_
  rintro e w3 ⟨rfl, hi3, hb3, hk3⟩
  have hB3 : Hid (Below B w w3) := hB2.out.trans hb3
  have HI3 := Lib.hid hi3
  have HK3 : Hid (KeepN w w3) := HK2.out.trans hk3
  clear hi3 hb3 HI2 hB2 hXs HK2 hk3
  go_wp2_with fail
  exact ⟨_, results_none rfl _ _ _, rfl, HI3.out, hB3.out, HK3.out⟩
end Go.Proofs.YtjklbbmgjjdalaaGreatDoor.Cel
namespace Go.Proofs.YtjklbbmgjjdalaaGreatDoor.Cel
open Go.RowKit Go.Joins
theorem lvS_hi (s : Bs) : lvS s ≤ 4 := by
  unfold lvS
  split
  · omega
  · split
    · omega
    · split
      · omega
      · split <;> omega
set_option maxRecDepth 100000 in
set_option maxHeartbeats 4000000 in
theorem write_5 (d : Nat) (IH : ∀ d', d = d' + 1 → WriteN nmS nameF (fun _ => True) d') : WriteN nmS nameF (fun n => n.kind = 5) d := by
  intro n p len cap least lv B b l ws w hq hrd hok hrt hl0 hl1 hsh hB0 hw0 hib hB hlen
  have hk : n.kind = 5 := hq
  have HK := Lib.hid hk
  have HST := Lib.hid (fun W => strengthN n p len cap W)
  have hpr : prN nmS n least = 45 :: prAt nmS n.args 0 5 := by
    cases n with
    | mk k u t f o a =>
      obtain rfl : k = 5 := hk
      rw [prN, if_neg (by unfold hdS; simp; omega)]
      rfl
  have hw : 400 ≤ wtN n := by cases n; rw [wtN]; omega
  rw [hpr]
  obtain ⟨x, hxa⟩ : ∃ x, n.args = [x] := args_one hrt hk
  have hmx : x ∈ n.args := by rw [hxa]; simp
  rw [hxa, show prAt nmS [x] 0 5 = prN nmS x 5 from by rw [prAt, if_pos rfl]]
  have hwx : wtN n = 400 + 2 * n.text.length + (wtN x + 1) := by rw [wtN_eq, hxa, wtL, wtL]
  have hPl : (prN nmS x 5).length ≤ wtN x := prN_len nmS_len txt_lenT x (hok.child hmx) 5
  obtain rfl : len = 1 := by rw [← hrd.len, hxa]; rfl
  have HRX : Hid (∀ W, Below B w W → ∃ d' bb off p' l' c', d = d' + 1 ∧ p = some ⟨bb, off, none⟩ ∧ RdT W B d' x p' l' ∧ W.cell? ⟨bb, off, none⟩ = some (.int .i64 x.kind) ∧ W.cell? ⟨bb, off + 1, none⟩ = some (.int .i64 x.num) ∧ W.cell? ⟨bb, off + 2, none⟩ = some (.string ⟨x.text.toArray⟩) ∧ W.cell? ⟨bb, off + 3, none⟩ = some (.int .i64 (cC x.frm)) ∧ W.cell? ⟨bb, off + 4, none⟩ = some (.int .i64 (cR x.frm)) ∧ W.cell? ⟨bb, off + 5, none⟩ = some (.int .i64 (cC x.tor)) ∧ W.cell? ⟨bb, off + 6, none⟩ = some (.int .i64 (cR x.tor)) ∧ W.cell? ⟨bb, off + 7, none⟩ = some (.slice p' l' c')) := by
    intro W hW
    obtain ⟨d', bb, off, c, p', l', c', hd, hp, hbN, hc, hrc, q0, q1, q2, q3, qd3, q4, qd4, q5⟩ := (hrd.below hW).at (j := 0) (by omega)
    rw [hxa] at hc
    cases hc
    exact ⟨d', bb, off, p', l', c', hd, hp, hrc, q0, q1, q2, q3, qd3, q4, qd4, q5⟩
  have HIX := Lib.hid (fun d' (hd : d = d' + 1) p' l' c' L W (hW : Below B w W) (hrx : RdT W B d' x p' l') hib' hz' hl' => IH d' hd x p' l' c' 5 (lv - 1) B b L ws W trivial hrx (hok.child hmx) (rtN_kids hrt _ hmx) (by omega) (by omega) hsh hB0 (hw0.trans hW) hib' hz' hl')
  generalize prN nmS x 5 = P at HIX hPl ⊢
  rw [show hdS n.kind n.text = 5 from by rw [hk]; rfl] at HST
  clear hrd hok hrt hsh hB0 hw0 hpr hk hq IH hxa hmx
  have hl6 : ¬ 5 < least := by omega
  have hA0 : Hid (NdB tPn (w.alloc (.cells (ndA n p 1 cap) tPn)) w.heap.size n p 1 cap) := heap_alloc_new w _
  have hAB : Hid (Below B w (w.alloc (.cells (ndA n p 1 cap) tPn))) := (Below.refl B w).alloc hB _
  have hAK : Hid (KeepN w (w.alloc (.cells (ndA n p 1 cap) tPn))) := KeepN.of (by (repeat' (first | (with_reducible exact Below.refl _ _) | (with_reducible assumption) | (with_reducible refine Below.alloc ?_ ?_ _) | (with_reducible refine bel_drewN ?_ _) | (with_reducible refine Below.drew ?_) | (with_reducible refine Below.setCell ?_ ?_ _) | (with_reducible refine bel_call ‹_› ?_ ?_) | go_size)))
  have HIB := Lib.hid (IsBuilder_below hib (Below.alloc (Below.refl w.heap.size w) (Nat.le_refl _) (.cells (ndA n p 1 cap) tPn)))
  rw [ndA_eq] at HST ⊢
  clear hib
  go_enter_defers Tryz.func73, Tryz.ntmps73
  go_upto_region 1 with fail
  have e0 : w.alloc (.cells #[.int .i64 n.kind, .int .i64 n.num, .string ⟨n.text.toArray⟩, .int .i64 (cC n.frm), .int .i64 (cR n.frm), .int .i64 (cC n.tor), .int .i64 (cR n.tor), .slice p 1 cap] tPn) = w.alloc (.cells (ndA n p 1 cap) tPn) := rfl
  rw [e0]
  clear e0
  generalize w.alloc (.cells (ndA n p 1 cap) tPn) = w0 at hA0 hAB HIB hAK ⊢
  obtain ⟨c0, c1, c2, c3, cd3, c4, cd4, c5⟩ := hA0.out.cells
  go_wp2_with fail
  refine (HST.out _).mono ?_
  rintro e w1 ⟨rfl, hb1⟩
  have hz0 : B ≤ w0.heap.size := Nat.le_trans hB hAB.out.size
  have hB1 : Hid (Below B w w1) := bel_call hb1 hAB.out hz0
  have hA1 := Lib.hid (hA0.out.below hb1)
  have HI1 := Lib.hid (IsBuilder_below HIB.out hb1)
  have HK1 : Hid (KeepN w w1) := hAK.out.trans (KeepN.of hb1)
  have hz1 : B ≤ w1.heap.size := Nat.le_trans hz0 hb1.size
  generalize w.heap.size = bn at hA0 hA1 hB hb1 ⊢
  clear hb1 hA0 HIB hAB hz0 c0 c1 c2 c3 cd3 c4 cd4 c5 HST hAK
  obtain ⟨c0, c1, c2, c3, cd3, c4, cd4, c5⟩ := hA1.out.cells
  rw [HK.out] at c0
  go_wp2_with fail
  refine (writeByte_atK B b l 45 (by omega) w1 HI1.out (by omega) hz1).mono ?_
  rintro e w2 ⟨rfl, hi2, hb2, hk2⟩
  have hB2 : Hid (Below B w w2) := hB1.out.trans hb2
  have HI2 := Lib.hid hi2
  have HK2 : Hid (KeepN w w2) := HK1.out.trans hk2
  have hA2 := Lib.hid (hA1.out.keep hk2)
  have hz2 : B ≤ w2.heap.size := Nat.le_trans hz1 hb2.size
  clear hi2 hb2 hk2 hA1 HI1 hB1 hz1 c0 c1 c2 c3 cd3 c4 cd4 c5 HK1
  obtain ⟨c0, c1, c2, c3, cd3, c4, cd4, c5⟩ := hA2.out.cells
  obtain ⟨d', bb, off, p', l', c', hd, rfl, hrx, q0, q1, q2, q3, qd3, q4, qd4, q5⟩ := HRX.out w2 hB2.out
  have HCX := Lib.hid (HIX.out d' hd p' l' c' (l ++ [UInt8.ofNat 45]) w2 hB2.out hrx HI2.out hz2 (by first | omega | (simp; omega)))
  rw [ndA_eq] at HCX
  clear hrx HRX HIX hd
  go_wp2_with fail
  refine HCX.out.mono ?_
  rintro e w3 ⟨rfl, hi3, hb3, hk3⟩
  have hB3 : Hid (Below B w w3) := hB2.out.trans hb3
  have HI3 := Lib.hid hi3
  have HK3 : Hid (KeepN w w3) := HK2.out.trans hk3
  clear hi3 hb3 hk3 HI2 hB2 HK2
  go_wp2_with fail
  exact ⟨_, results_none rfl _ _ _, rfl, (by simpa using HI3.out), hB3.out, HK3.out⟩
set_option maxRecDepth 100000 in
set_option maxHeartbeats 4000000 in
theorem write_6 (d : Nat) (IH : ∀ d', d = d' + 1 → WriteN nmS nameF (fun _ => True) d') : WriteN nmS nameF (fun n => n.kind = 6) d := by
  intro n p len cap least lv B b l ws w hq hrd hok hrt hl0 hl1 hsh hB0 hw0 hib hB hlen
  have hk : n.kind = 6 := hq
  have HK := Lib.hid hk
  have HST := Lib.hid (fun W => strengthN n p len cap W)
  have hpr : prN nmS n least = if lvS n.text < least then 40 :: (prAt nmS n.args 0 (lvS n.text) ++ n.text ++ prAt nmS n.args 1 (lvS n.text + 1) ++ [41]) else prAt nmS n.args 0 (lvS n.text) ++ n.text ++ prAt nmS n.args 1 (lvS n.text + 1) := by
    cases n with
    | mk k u t f o a =>
      obtain rfl : k = 6 := hk
      rw [prN]
      rfl
  have hw : 400 ≤ wtN n := by cases n; rw [wtN]; omega
  rw [hpr]
  have hk1 := rtN_tag6 hrt hk
  have hk4 := lvS_hi n.text
  obtain ⟨x, y, hxa⟩ : ∃ x y, n.args = [x, y] := args_two hrt hk
  have hmx : x ∈ n.args := by rw [hxa]; simp
  have hmy : y ∈ n.args := by rw [hxa]; simp
  rw [hxa, show prAt nmS [x, y] 0 (lvS n.text) = prN nmS x (lvS n.text) from by rw [prAt, if_pos rfl], show prAt nmS [x, y] 1 (lvS n.text + 1) = prN nmS y (lvS n.text + 1) from by rw [prAt, if_neg (by omega), prAt, if_pos rfl]]
  have hwx : wtN n = 400 + 2 * n.text.length + (wtN x + 1 + (wtN y + 1)) := by rw [wtN_eq, hxa, wtL, wtL, wtL]
  have hPl : (prN nmS x (lvS n.text)).length ≤ wtN x := prN_len nmS_len txt_lenT x (hok.child hmx) _
  have hQl : (prN nmS y (lvS n.text + 1)).length ≤ wtN y := prN_len nmS_len txt_lenT y (hok.child hmy) _
  obtain rfl : len = 2 := by rw [← hrd.len, hxa]; rfl
  have HLV := Lib.hid (fun W => level_any ⟨n.text.toArray⟩ W)
  rw [show (⟨n.text.toArray⟩ : ByteArray).data.toList = n.text from rfl] at HLV
  have hST : hdS n.kind n.text = lvS n.text := by rw [hk]; rfl
  rw [hST] at HST
  clear hST
  have HRX : Hid (∀ W, Below B w W → ∃ d' bb off p' l' c', d = d' + 1 ∧ p = some ⟨bb, off, none⟩ ∧ RdT W B d' x p' l' ∧ W.cell? ⟨bb, off, none⟩ = some (.int .i64 x.kind) ∧ W.cell? ⟨bb, off + 1, none⟩ = some (.int .i64 x.num) ∧ W.cell? ⟨bb, off + 2, none⟩ = some (.string ⟨x.text.toArray⟩) ∧ W.cell? ⟨bb, off + 3, none⟩ = some (.int .i64 (cC x.frm)) ∧ W.cell? ⟨bb, off + 4, none⟩ = some (.int .i64 (cR x.frm)) ∧ W.cell? ⟨bb, off + 5, none⟩ = some (.int .i64 (cC x.tor)) ∧ W.cell? ⟨bb, off + 6, none⟩ = some (.int .i64 (cR x.tor)) ∧ W.cell? ⟨bb, off + 7, none⟩ = some (.slice p' l' c')) := by
    intro W hW
    obtain ⟨d', bb, off, c, p', l', c', hd, hp, hbN, hc, hrc, q0, q1, q2, q3, qd3, q4, qd4, q5⟩ := (hrd.below hW).at (j := 0) (by omega)
    rw [hxa] at hc
    cases hc
    exact ⟨d', bb, off, p', l', c', hd, hp, hrc, q0, q1, q2, q3, qd3, q4, qd4, q5⟩
  have HRY : Hid (∀ W, Below B w W → ∃ d' bb off p' l' c', d = d' + 1 ∧ p = some ⟨bb, off, none⟩ ∧ RdT W B d' y p' l' ∧ W.cell? ⟨bb, off + 8, none⟩ = some (.int .i64 y.kind) ∧ W.cell? ⟨bb, off + 9, none⟩ = some (.int .i64 y.num) ∧ W.cell? ⟨bb, off + 10, none⟩ = some (.string ⟨y.text.toArray⟩) ∧ W.cell? ⟨bb, off + 11, none⟩ = some (.int .i64 (cC y.frm)) ∧ W.cell? ⟨bb, off + 12, none⟩ = some (.int .i64 (cR y.frm)) ∧ W.cell? ⟨bb, off + 13, none⟩ = some (.int .i64 (cC y.tor)) ∧ W.cell? ⟨bb, off + 14, none⟩ = some (.int .i64 (cR y.tor)) ∧ W.cell? ⟨bb, off + 15, none⟩ = some (.slice p' l' c')) := by
    intro W hW
    obtain ⟨d', bb, off, c, p', l', c', hd, hp, hbN, hc, hrc, q0, q1, q2, q3, qd3, q4, qd4, q5⟩ := (hrd.below hW).at (j := 1) (by omega)
    rw [hxa] at hc
    cases hc
    exact ⟨d', bb, off, p', l', c', hd, hp, hrc, q0, q1, q2, q3, qd3, q4, qd4, q5⟩
  have HIX := Lib.hid (fun d' (hd : d = d' + 1) p' l' c' L W (hW : Below B w W) (hrx : RdT W B d' x p' l') hib' hz' hl' => IH d' hd x p' l' c' (lvS n.text) (lv - 1) B b L ws W trivial hrx (hok.child hmx) (rtN_kids hrt _ hmx) (by omega) (by omega) hsh hB0 (hw0.trans hW) hib' hz' hl')
  have HIY := Lib.hid (fun d' (hd : d = d' + 1) p' l' c' L W (hW : Below B w W) (hrx : RdT W B d' y p' l') hib' hz' hl' => IH d' hd y p' l' c' (lvS n.text + 1) (lv - 1) B b L ws W trivial hrx (hok.child hmy) (rtN_kids hrt _ hmy) (by omega) (by omega) hsh hB0 (hw0.trans hW) hib' hz' hl')
  generalize prN nmS x (lvS n.text) = P at HIX hPl ⊢
  generalize prN nmS y (lvS n.text + 1) = R at HIY hQl ⊢
  generalize lvS n.text = k at HLV HST HIX HIY hk1 hk4 ⊢
  have hts : (⟨n.text.toArray⟩ : ByteArray).size = n.text.length := by rw [Lib.size_eq]
  clear hrd hok hrt hsh hB0 hw0 hpr hk hq IH hxa hmx hmy
  have hA0 : Hid (NdB tPn (w.alloc (.cells (ndA n p 2 cap) tPn)) w.heap.size n p 2 cap) := heap_alloc_new w _
  have hAB : Hid (Below B w (w.alloc (.cells (ndA n p 2 cap) tPn))) := (Below.refl B w).alloc hB _
  have hAK : Hid (KeepN w (w.alloc (.cells (ndA n p 2 cap) tPn))) := KeepN.of (by (repeat' (first | (with_reducible exact Below.refl _ _) | (with_reducible assumption) | (with_reducible refine Below.alloc ?_ ?_ _) | (with_reducible refine bel_drewN ?_ _) | (with_reducible refine Below.drew ?_) | (with_reducible refine Below.setCell ?_ ?_ _) | (with_reducible refine bel_call ‹_› ?_ ?_) | go_size)))
  have HIB := Lib.hid (IsBuilder_below hib (Below.alloc (Below.refl w.heap.size w) (Nat.le_refl _) (.cells (ndA n p 2 cap) tPn)))
  rw [ndA_eq] at HST ⊢
  clear hib
  go_enter_defers Tryz.func73, Tryz.ntmps73
  go_upto_region 1 with fail
  have e0 : w.alloc (.cells #[.int .i64 n.kind, .int .i64 n.num, .string ⟨n.text.toArray⟩, .int .i64 (cC n.frm), .int .i64 (cR n.frm), .int .i64 (cC n.tor), .int .i64 (cR n.tor), .slice p 2 cap] tPn) = w.alloc (.cells (ndA n p 2 cap) tPn) := rfl
  rw [e0]
  clear e0
  generalize w.alloc (.cells (ndA n p 2 cap) tPn) = w0 at hA0 hAB HIB hAK ⊢
  obtain ⟨c0, c1, c2, c3, cd3, c4, cd4, c5⟩ := hA0.out.cells
  go_wp2_with fail
  refine (HST.out _).mono ?_
  rintro e w1 ⟨rfl, hb1⟩
  have hz0 : B ≤ w0.heap.size := Nat.le_trans hB hAB.out.size
  have hB1 : Hid (Below B w w1) := bel_call hb1 hAB.out hz0
  have hA1 := Lib.hid (hA0.out.below hb1)
  have HI1 := Lib.hid (IsBuilder_below HIB.out hb1)
  have HK1 : Hid (KeepN w w1) := hAK.out.trans (KeepN.of hb1)
  have hz1 : B ≤ w1.heap.size := Nat.le_trans hz0 hb1.size
  generalize w.heap.size = bn at hA0 hA1 hB hb1 ⊢
  clear hb1 hA0 HIB hAB hz0 c0 c1 c2 c3 cd3 c4 cd4 c5 HST hAK
  by_cases hkl : k < least
  · have HG : True := trivial
    go_wp2_with fail
    refine (writeByte_atK B b l 40 (by omega) w1 HI1.out (by omega) hz1).mono ?_
    rintro e w1b ⟨rfl, hi1, hb1b, hk1b⟩
    have hB1b : Hid (Below B w w1b) := hB1.out.trans hb1b
    have HI1b := Lib.hid hi1
    have HK1b : Hid (KeepN w w1b) := HK1.out.trans hk1b
    have hA1b := Lib.hid (hA1.out.keep hk1b)
    have hz1b : B ≤ w1b.heap.size := Nat.le_trans hz1 hb1b.size
    clear hi1 hb1b hk1b hB1 HI1 HK1 hA1 hz1
    have hB1 := hB1b
    have HI1 := HI1b
    have HK1 := HK1b
    have hA1 := hA1b
    have hz1 := hz1b
    clear hB1b HI1b HK1b hA1b hz1b
    obtain ⟨c0, c1, c2, c3, cd3, c4, cd4, c5⟩ := hA1.out.cells
    rw [HK.out] at c0
    go_wp2_with fail
    refine (HLV.out _).mono ?_
    rintro e w2 ⟨rfl, hb2⟩
    have hB2 : Hid (Below B w w2) := bel_call hb2 hB1.out hz1
    have HI2 := Lib.hid (IsBuilder_below HI1.out hb2)
    have HK2 : Hid (KeepN w w2) := HK1.out.trans (KeepN.of hb2)
    have hA2 := Lib.hid (hA1.out.below hb2)
    have hz2 : B ≤ w2.heap.size := Nat.le_trans hz1 hb2.size
    clear hb2 hA1 HI1 hB1 hz1 c0 c1 c2 c3 cd3 c4 cd4 c5 HLV HK1
    obtain ⟨c0, c1, c2, c3, cd3, c4, cd4, c5⟩ := hA2.out.cells
    obtain ⟨d', bb, off, p', l', c', hd, rfl, hrx, q0, q1, q2, q3, qd3, q4, qd4, q5⟩ := HRX.out w2 hB2.out
    have HCX := Lib.hid (HIX.out d' hd p' l' c' (l ++ [UInt8.ofNat 40]) w2 hB2.out hrx HI2.out hz2 (by first | omega | (simp; omega)))
    rw [ndA_eq] at HCX
    clear hrx HRX HIX hd
    go_wp2_with fail
    refine HCX.out.mono ?_
    rintro e w3 ⟨rfl, hi3, hb3, hk3⟩
    have hB3 : Hid (Below B w w3) := hB2.out.trans hb3
    have HI3 := Lib.hid hi3
    have HK3 : Hid (KeepN w w3) := HK2.out.trans hk3
    have hA3 := Lib.hid (hA2.out.keep hk3)
    have hz3 : B ≤ w3.heap.size := Nat.le_trans hz2 hb3.size
    clear hi3 hb3 hk3 hA2 HI2 hB2 hz2 c0 c1 c2 c3 cd3 c4 cd4 c5 HK2 q0 q1 q2 q3 qd3 q4 qd4 q5 HCX
    obtain ⟨c0, c1, c2, c3, cd3, c4, cd4, c5⟩ := hA3.out.cells
    go_wp2_with fail
    refine (write_atK B b _ ⟨n.text.toArray⟩ w3 HI3.out (by rw [hts]; first | omega | (simp; omega)) hz3).mono ?_
    rintro e w4 ⟨rfl, hi4, hb4, hk4b⟩
    have hB4 : Hid (Below B w w4) := hB3.out.trans hb4
    have HI4 := Lib.hid hi4
    have HK4 : Hid (KeepN w w4) := HK3.out.trans hk4b
    have hA4 := Lib.hid (hA3.out.keep hk4b)
    have hz4 : B ≤ w4.heap.size := Nat.le_trans hz3 hb4.size
    clear hi4 hb4 hk4b hA3 HI3 hB3 hz3 c0 c1 c2 c3 cd3 c4 cd4 c5 HK3
    obtain ⟨c0, c1, c2, c3, cd3, c4, cd4, c5⟩ := hA4.out.cells
    obtain ⟨d2, bb2, off2, p2, l2, c2y, hd2, hpe, hry, q0, q1, q2, q3, qd3, q4, qd4, q5⟩ := HRY.out w4 hB4.out
    cases hpe
    have HCY := Lib.hid (HIY.out d2 hd2 p2 l2 c2y _ w4 hB4.out hry HI4.out hz4 (by first | omega | (simp; omega)))
    rw [ndA_eq] at HCY
    clear hry HRY HIY hd2
    go_wp2_with fail
    refine HCY.out.mono ?_
    rintro e w5 ⟨rfl, hi5, hb5, hk5⟩
    have hB5 : Hid (Below B w w5) := hB4.out.trans hb5
    have HI5 := Lib.hid hi5
    have HK5 : Hid (KeepN w w5) := HK4.out.trans hk5
    have hz5 : B ≤ w5.heap.size := Nat.le_trans hz4 hb5.size
    clear hi5 hb5 hk5 hA4 HI4 hB4 hz4 c0 c1 c2 c3 cd3 c4 cd4 c5 HK4 q0 q1 q2 q3 qd3 q4 qd4 q5 HCY
    go_wp2_with fail
    refine leaves_cons (f := 96) (args := #[.pointer (some ⟨b, 0, none⟩), .int .u8 41]) (by simp) (by simp [go_sem]) ?_
    refine (writeByte_dat .returning B b _ 41 (by omega) w5 HI5.out (by simp; omega) hz5).mono ?_
    rintro e u' w6 ⟨rfl, rfl, hi6, hb6, hk6⟩
    refine ⟨_, results_none rfl _ _ _, rfl, ?_, hB5.out.trans hb6, HK5.out.trans hk6⟩
    first | (rw [if_pos hkl]; simpa using hi6) | simpa using hi6
  · have HG : True := trivial
    obtain ⟨c0, c1, c2, c3, cd3, c4, cd4, c5⟩ := hA1.out.cells
    rw [HK.out] at c0
    go_wp2_with fail
    refine (HLV.out _).mono ?_
    rintro e w2 ⟨rfl, hb2⟩
    have hB2 : Hid (Below B w w2) := bel_call hb2 hB1.out hz1
    have HI2 := Lib.hid (IsBuilder_below HI1.out hb2)
    have HK2 : Hid (KeepN w w2) := HK1.out.trans (KeepN.of hb2)
    have hA2 := Lib.hid (hA1.out.below hb2)
    have hz2 : B ≤ w2.heap.size := Nat.le_trans hz1 hb2.size
    clear hb2 hA1 HI1 hB1 hz1 c0 c1 c2 c3 cd3 c4 cd4 c5 HLV HK1
    obtain ⟨c0, c1, c2, c3, cd3, c4, cd4, c5⟩ := hA2.out.cells
    obtain ⟨d', bb, off, p', l', c', hd, rfl, hrx, q0, q1, q2, q3, qd3, q4, qd4, q5⟩ := HRX.out w2 hB2.out
    have HCX := Lib.hid (HIX.out d' hd p' l' c' (l) w2 hB2.out hrx HI2.out hz2 (by first | omega | (simp; omega)))
    rw [ndA_eq] at HCX
    clear hrx HRX HIX hd
    go_wp2_with fail
    refine HCX.out.mono ?_
    rintro e w3 ⟨rfl, hi3, hb3, hk3⟩
    have hB3 : Hid (Below B w w3) := hB2.out.trans hb3
    have HI3 := Lib.hid hi3
    have HK3 : Hid (KeepN w w3) := HK2.out.trans hk3
    have hA3 := Lib.hid (hA2.out.keep hk3)
    have hz3 : B ≤ w3.heap.size := Nat.le_trans hz2 hb3.size
    clear hi3 hb3 hk3 hA2 HI2 hB2 hz2 c0 c1 c2 c3 cd3 c4 cd4 c5 HK2 q0 q1 q2 q3 qd3 q4 qd4 q5 HCX
    obtain ⟨c0, c1, c2, c3, cd3, c4, cd4, c5⟩ := hA3.out.cells
    go_wp2_with fail
    refine (write_atK B b _ ⟨n.text.toArray⟩ w3 HI3.out (by rw [hts]; first | omega | (simp; omega)) hz3).mono ?_
    rintro e w4 ⟨rfl, hi4, hb4, hk4b⟩
    have hB4 : Hid (Below B w w4) := hB3.out.trans hb4
    have HI4 := Lib.hid hi4
    have HK4 : Hid (KeepN w w4) := HK3.out.trans hk4b
    have hA4 := Lib.hid (hA3.out.keep hk4b)
    have hz4 : B ≤ w4.heap.size := Nat.le_trans hz3 hb4.size
    clear hi4 hb4 hk4b hA3 HI3 hB3 hz3 c0 c1 c2 c3 cd3 c4 cd4 c5 HK3
    obtain ⟨c0, c1, c2, c3, cd3, c4, cd4, c5⟩ := hA4.out.cells
    obtain ⟨d2, bb2, off2, p2, l2, c2y, hd2, hpe, hry, q0, q1, q2, q3, qd3, q4, qd4, q5⟩ := HRY.out w4 hB4.out
    cases hpe
    have HCY := Lib.hid (HIY.out d2 hd2 p2 l2 c2y _ w4 hB4.out hry HI4.out hz4 (by first | omega | (simp; omega)))
    rw [ndA_eq] at HCY
    clear hry HRY HIY hd2
    go_wp2_with fail
    refine HCY.out.mono ?_
    rintro e w5 ⟨rfl, hi5, hb5, hk5⟩
    have hB5 : Hid (Below B w w5) := hB4.out.trans hb5
    have HI5 := Lib.hid hi5
    have HK5 : Hid (KeepN w w5) := HK4.out.trans hk5
    have hz5 : B ≤ w5.heap.size := Nat.le_trans hz4 hb5.size
    clear hi5 hb5 hk5 hA4 HI4 hB4 hz4 c0 c1 c2 c3 cd3 c4 cd4 c5 HK4 q0 q1 q2 q3 qd3 q4 qd4 q5 HCY
    go_wp2_with fail
    exact ⟨_, results_none rfl _ _ _, rfl, (by first | (rw [if_neg hkl]; simpa using HI5.out) | simpa using HI5.out), hB5.out, HK5.out⟩
end Go.Proofs.YtjklbbmgjjdalaaGreatDoor.Cel
namespace Go.Proofs.YtjklbbmgjjdalaaGreatDoor.Cel
open Go.RowKit Go.Joins
set_option maxRecDepth 100000 in
set_option maxHeartbeats 4000000 in
theorem write_7 (d : Nat) (IH : ∀ d', d = d' + 1 → WriteN nmS nameF (fun _ => True) d') : WriteN nmS nameF (fun n => n.kind = 7) d := by
  intro n p len cap least lv B b l ws w hq hrd hok hrt hl0 hl1 hsh hB0 hw0 hib hB hlen
  have hk : n.kind = 7 := hq
  have HK := Lib.hid hk
  have HST := Lib.hid (fun W => strengthN n p len cap W)
  have hpr : prN nmS n least = n.text ++ 40 :: ((prT nmS n.args).drop 1 ++ [41]) := by
    cases n with
    | mk k u t f o a =>
      obtain rfl : k = 7 := hk
      rw [prN, if_neg (by unfold hdS; simp; omega)]
      rfl
  have hw : 400 ≤ wtN n := by cases n; rw [wtN]; omega
  rw [hpr]
  have hwx := wtN_eq n
  have hoks : ∀ c ∈ n.args, OkN c := fun c hc => hok.child hc
  have HRD := Lib.hid hrd
  have HAL := Lib.hid hrd.len
  have HJL := Lib.hid (fun i => prJ_len hoks i)
  have hlen9 := hok.len
  rw [hrd.len] at hlen9
  have HIX := Lib.hid (fun d' (hd : d = d' + 1) c (hc : c ∈ n.args) p' l' c' L W (hW : Below B w W) (hrx : RdT W B d' c p' l') hib' hz' hl' => IH d' hd c p' l' c' 1 (lv - 1) B b L ws W trivial hrx (hok.child hc) (rtN_kids hrt _ hc) (by omega) (by omega) hsh hB0 (hw0.trans hW) hib' hz' hl')
  have hall : (prT nmS n.args).drop 1 = prJ n.args len := by unfold prJ; rw [List.take_of_length_le (by rw [hrd.len]; exact Nat.le_refl _)]
  rw [hall]
  obtain ⟨T0, hT0⟩ : ∃ T0, n.text ++ [40] = T0 := ⟨_, rfl⟩
  have hcat : (⟨n.text.toArray⟩ : ByteArray) ++ ⟨#[40]⟩ = ⟨T0.toArray⟩ := by rw [← hT0]; exact cat2 n.text [40]
  have hTl : T0.length = n.text.length + 1 := by rw [← hT0]; simp
  have hcs : (⟨T0.toArray⟩ : ByteArray).size = n.text.length + 1 := by rw [Lib.size_eq]; exact hTl
  obtain ⟨L0, hL0⟩ : ∃ L0, l ++ T0 = L0 := ⟨_, rfl⟩
  have hLl : L0.length = l.length + n.text.length + 1 := by rw [← hL0]; simp; omega
  rw [show l ++ (n.text ++ 40 :: (prJ n.args len ++ [41])) = (L0 ++ prJ n.args len) ++ [41] from by rw [← hL0, ← hT0]; simp]
  have HL0 := Lib.hid hL0
  have HCAT := Lib.hid hcat
  clear hT0 hcat hL0
  have HBW := Lib.hid hB
  rw [show hdS n.kind n.text = 6 from by rw [hk]; rfl] at HST
  clear hrd hok hrt hsh hB0 hw0 hpr hk hq IH hall hoks
  have hl6 : ¬ 6 < least := by omega
  have hA0 : Hid (NdB tPn (w.alloc (.cells (ndA n p len cap) tPn)) w.heap.size n p len cap) := heap_alloc_new w _
  have hAB : Hid (Below B w (w.alloc (.cells (ndA n p len cap) tPn))) := (Below.refl B w).alloc hB _
  have hAK : Hid (KeepN w (w.alloc (.cells (ndA n p len cap) tPn))) := KeepN.of (by (repeat' (first | (with_reducible exact Below.refl _ _) | (with_reducible assumption) | (with_reducible refine Below.alloc ?_ ?_ _) | (with_reducible refine bel_drewN ?_ _) | (with_reducible refine Below.drew ?_) | (with_reducible refine Below.setCell ?_ ?_ _) | (with_reducible refine bel_call ‹_› ?_ ?_) | go_size)))
  have HIB := Lib.hid (IsBuilder_below hib (Below.alloc (Below.refl w.heap.size w) (Nat.le_refl _) (.cells (ndA n p len cap) tPn)))
  rw [ndA_eq] at HST ⊢
  clear hib
  go_enter_defers Tryz.func73, Tryz.ntmps73
  go_upto_region 1 with fail
  have e0 : w.alloc (.cells #[.int .i64 n.kind, .int .i64 n.num, .string ⟨n.text.toArray⟩, .int .i64 (cC n.frm), .int .i64 (cR n.frm), .int .i64 (cC n.tor), .int .i64 (cR n.tor), .slice p len cap] tPn) = w.alloc (.cells (ndA n p len cap) tPn) := rfl
  rw [e0]
  clear e0
  generalize w.alloc (.cells (ndA n p len cap) tPn) = w0 at hA0 hAB HIB hAK ⊢
  obtain ⟨c0, c1, c2, c3, cd3, c4, cd4, c5⟩ := hA0.out.cells
  go_wp2_with fail
  refine (HST.out _).mono ?_
  rintro e w1 ⟨rfl, hb1⟩
  have hz0 : B ≤ w0.heap.size := Nat.le_trans hB hAB.out.size
  have hB1 : Hid (Below B w w1) := bel_call hb1 hAB.out hz0
  have hA1 := Lib.hid (hA0.out.below hb1)
  have HI1 := Lib.hid (IsBuilder_below HIB.out hb1)
  have HK1 : Hid (KeepN w w1) := hAK.out.trans (KeepN.of hb1)
  have hz1 : B ≤ w1.heap.size := Nat.le_trans hz0 hb1.size
  generalize w.heap.size = bn at hA0 hA1 hB hb1 ⊢
  clear hb1 hA0 HIB hAB hz0 c0 c1 c2 c3 cd3 c4 cd4 c5 HST hAK
  obtain ⟨c0, c1, c2, c3, cd3, c4, cd4, c5⟩ := hA1.out.cells
  rw [HK.out] at c0
  have hts : (⟨n.text.toArray⟩ : ByteArray).size = n.text.length := by rw [Lib.size_eq]
  have hts2 : (⟨#[40]⟩ : ByteArray).size = 1 := rfl
  have hcat := HCAT.out
  go_wp2_with fail
  refine (write_atK B b l ⟨T0.toArray⟩ w1 HI1.out (by rw [hcs]; omega) hz1).mono ?_
  rintro e w2 ⟨rfl, hi2, hb2, hk2⟩
  have hB2 : Hid (Below B w w2) := hB1.out.trans hb2
  have HI2 := Lib.hid hi2
  have HK2 : Hid (KeepN w w2) := HK1.out.trans hk2
  have hA2 := Lib.hid (hA1.out.keep hk2)
  have hz2 : B ≤ w2.heap.size := Nat.le_trans hz1 hb2.size
  clear hi2 hb2 hk2 hA1 HI1 hB1 hz1 c0 c1 c2 c3 cd3 c4 cd4 c5 HK1 hts hts2 hcat hcs HCAT
  obtain ⟨c0, c1, c2, c3, cd3, c4, cd4, c5⟩ := hA2.out.cells
  have HI2b : Hid (Lib.IsBuilder tBd 5 B b (Lib.byteCells L0) w2) := by rw [← HL0.out]; exact HI2.out
  clear HI2
  have HI2 := HI2b
  clear HI2b
  have hlen2 : L0.length + 100 + wtL n.args ≤ 2200000 := by omega
  clear hlen hLl hwx
  go_wp2_with fail
  clear c0 c1 c2 c3 cd3 c4 cd4 c5 hA2
  go_loopg [105] len (fun g v105 wr => ∃ i : Nat, i + g = len ∧ v105 = .int .i64 i ∧ Lib.IsBuilder tBd 5 B b (Lib.byteCells (L0 ++ prJ n.args i)) wr ∧ Below B w wr ∧ KeepN w wr)
  case atStart => exact ⟨0, by omega, rfl, by unfold prJ; simpa [prT] using HI2.out, hB2.out, HK2.out⟩
  case round =>
    obtain ⟨i, hig, rfl, hbl, hbel, hkp⟩ := hrel
    have HBL := Lib.hid hbel
    have HKP := Lib.hid hkp
    have HIB := Lib.hid hbl
    have hzr : B ≤ wr.heap.size := Nat.le_trans HBW.out hbel.size
    have hJl := HJL.out i
    clear hbl hbel hkp HI2 hB2 HK2 hz2
    by_cases hlt : i < len
    · have hli : (i : Int) < (len : Int) := by omega
      obtain ⟨d', bb, off, c, p', l', c', hd, rfl, hbN, hc, hrc, q0, q1, q2, q3, qd3, q4, qd4, q5⟩ := (HRD.out.below HBL.out).at hlt
      have hwc := wtL_at hc
      have HC := Lib.hid (HIX.out d' hd c (mem_at hc) p' l' c')
      have HRC := Lib.hid hrc
      have HCC := Lib.hid hc
      clear hc hrc hd
      go_upto_region 27 with fail
      have hA1 : Hid (NdB tPn (wr.alloc (.cells (ndA c p' l' c') tPn)) wr.heap.size c p' l' c') := heap_alloc_new wr _
      have hB1 : Hid (Below B w (wr.alloc (.cells (ndA c p' l' c') tPn))) := HBL.out.alloc hzr _
      have hK1 : Hid (KeepN w (wr.alloc (.cells (ndA c p' l' c') tPn))) := HKP.out.trans (KeepN.of (by (repeat' (first | (with_reducible exact Below.refl _ _) | (with_reducible assumption) | (with_reducible refine Below.alloc ?_ ?_ _) | (with_reducible refine bel_drewN ?_ _) | (with_reducible refine Below.drew ?_) | (with_reducible refine Below.setCell ?_ ?_ _) | (with_reducible refine bel_call ‹_› ?_ ?_) | go_size))))
      have HR1 : Hid (RdT (wr.alloc (.cells (ndA c p' l' c') tPn)) B d' c p' l') := HRC.out.below (by (repeat' (first | (with_reducible exact Below.refl _ _) | (with_reducible assumption) | (with_reducible refine Below.alloc ?_ ?_ _) | (with_reducible refine bel_drewN ?_ _) | (with_reducible refine Below.drew ?_) | (with_reducible refine Below.setCell ?_ ?_ _) | (with_reducible refine bel_call ‹_› ?_ ?_) | go_size)))
      have HI1 := Lib.hid (IsBuilder_below HIB.out (Below.alloc (Below.refl wr.heap.size wr) (Nat.le_refl _) (.cells (ndA c p' l' c') tPn)))
      have e1 : wr.alloc (.cells #[.int .i64 c.kind, .int .i64 c.num, .string ⟨c.text.toArray⟩, .int .i64 (cC c.frm), .int .i64 (cR c.frm), .int .i64 (cC c.tor), .int .i64 (cR c.tor), .slice p' l' c'] tPn) = wr.alloc (.cells (ndA c p' l' c') tPn) := rfl
      rw [e1]
      have hz1 : B ≤ (wr.alloc (.cells (ndA c p' l' c') tPn)).heap.size := by rw [World.size_alloc]; omega
      clear e1 HRC HBL HKP HIB q0 q1 q2 q3 qd3 q4 qd4 q5
      generalize wr.alloc (.cells (ndA c p' l' c') tPn) = w2 at hA1 hB1 HR1 hK1 HI1 hz1 ⊢
      generalize wr.heap.size = b2 at hA1 hzr ⊢
      by_cases hi0 : i = 0
      · subst hi0
        have HJ : Hid (prJ n.args 0 = []) := by unfold Hid prJ; simp [prT]
        rw [HJ.out, List.append_nil] at HI1
        have HJ1 : Hid (prJ n.args (0 + 1) = prN nmS c 1) := prJ_one HCC.out
        obtain ⟨c0, c1, c2, c3, cd3, c4, cd4, c5⟩ := hA1.out.cells
        have HCL := Lib.hid (HC.out L0 w2 hB1.out HR1.out HI1.out hz1 (by omega))
        rw [ndA_eq] at HCL
        clear HC HR1 HI1 HJL
        go_wp2_with fail
        refine HCL.out.mono ?_
        rintro e w3 ⟨rfl, hi3, hb3, hk3⟩
        have hB3 : Hid (Below B w w3) := hB1.out.trans hb3
        have HI3 := Lib.hid hi3
        have HK3 : Hid (KeepN w w3) := hK1.out.trans hk3
        clear hi3 hb3 hk3 hB1 hK1 c0 c1 c2 c3 cd3 c4 cd4 c5 hA1 HCL
        go_wp2_with fail
        go_roundg (gk - 1)
        case measure => omega
        case rel => exact ⟨0 + 1, by omega, by go_num, by rw [HJ1.out]; exact HI3.out, hB3.out, HK3.out⟩
      · have hi1 : 0 < (i : Int) := by omega
        have HJ1 : Hid (prJ n.args (i + 1) = prJ n.args i ++ 44 :: prN nmS c 1) := prJ_step HCC.out (by omega)
        go_wp2_with fail
        refine (writeByte_atK B b (L0 ++ prJ n.args i) 44 (by omega) w2 HI1.out (by simp; omega) hz1).mono ?_
        rintro e w2b ⟨rfl, hi2, hb2, hk2⟩
        have hB2 : Hid (Below B w w2b) := hB1.out.trans hb2
        have HI2 := Lib.hid hi2
        have HK2 : Hid (KeepN w w2b) := hK1.out.trans hk2
        have hA2 := Lib.hid (hA1.out.keep hk2)
        have HR2 := Lib.hid (HR1.out.below hb2)
        have hz2 : B ≤ w2b.heap.size := Nat.le_trans hz1 hb2.size
        obtain ⟨c0, c1, c2, c3, cd3, c4, cd4, c5⟩ := hA2.out.cells
        have HCL := Lib.hid (HC.out _ w2b hB2.out HR2.out HI2.out hz2 (by simp; omega))
        rw [ndA_eq] at HCL
        clear HC HR1 HI1 HJL hi2 hb2 hk2 hB1 hK1 hA1 hz1 HR2
        go_wp2_with fail
        refine HCL.out.mono ?_
        rintro e w3 ⟨rfl, hi3, hb3, hk3⟩
        have hB3 : Hid (Below B w w3) := hB2.out.trans hb3
        have HI3 := Lib.hid hi3
        have HK3 : Hid (KeepN w w3) := HK2.out.trans hk3
        clear hi3 hb3 hk3 hB2 HK2 c0 c1 c2 c3 cd3 c4 cd4 c5 hA2 HCL HI2
        go_wp2_with fail
        go_roundg (gk - 1)
        case measure => omega
        case rel => exact ⟨i + 1, by omega, by go_num, by rw [HJ1.out]; simpa using HI3.out, hB3.out, HK3.out⟩
    · obtain rfl : i = len := by omega
      have hli : ¬ (i : Int) < (i : Int) := by omega
      have hwl := wtL_take n.args i
      go_wp2_with fail
      refine (writeByte_atK B b (L0 ++ prJ n.args i) 41 (by omega) wr HIB.out (by simp; omega) hzr).mono ?_
      rintro e w3 ⟨rfl, hi3, hb3, hk3⟩
      have hB3 : Hid (Below B w w3) := HBL.out.trans hb3
      have HI3 := Lib.hid hi3
      have HK3 : Hid (KeepN w w3) := HKP.out.trans hk3
      clear hi3 hb3 hk3 HBL HKP HIB
      go_wp2_with fail
      exact ⟨_, results_none rfl _ _ _, rfl, HI3.out, hB3.out, HK3.out⟩
end Go.Proofs.YtjklbbmgjjdalaaGreatDoor.Cel
namespace Go.Proofs.YtjklbbmgjjdalaaGreatDoor.Cel
open Go.RowKit Go.Joins
set_option maxRecDepth 100000 in
set_option maxHeartbeats 4000000 in
theorem write_4 (d : Nat) : WriteN nmS nameF (fun n => n.kind = 4) d := by
  intro n p len cap least lv B b l ws w hq hrd hok hrt hl0 hl1 hsh hB0 hw0 hib hB hlen
  have hk : n.kind = 4 := hq
  have HK := Lib.hid hk
  have HST := Lib.hid (fun W => strengthN n p len cap W)
  have hpr : prN nmS n least = nmS n.frm ++ 58 :: nmS n.tor := by
    cases n with
    | mk k u t f o a =>
      obtain rfl : k = 4 := hk
      rw [prN, if_neg (by unfold hdS; simp; omega)]
      rfl
  have hw : 400 ≤ wtN n := by cases n; rw [wtN]; omega
  rw [hpr]
  have HTX := Lib.hid (fun W => pname_any (cC n.frm) (cR n.frm) W)
  rw [show cellS (cC n.frm) (cR n.frm) = nmS n.frm from rfl] at HTX
  have HTY := Lib.hid (fun W => pname_any (cC n.tor) (cR n.tor) W)
  rw [show cellS (cC n.tor) (cR n.tor) = nmS n.tor from rfl] at HTY
  have hx2 := nmS_len n.frm
  have hy2 := nmS_len n.tor
  obtain ⟨X, hX⟩ : ∃ X, nmS n.frm = X := ⟨_, rfl⟩
  obtain ⟨Y, hY⟩ : ∃ X, nmS n.tor = X := ⟨_, rfl⟩
  rw [hX] at HTX hx2 ⊢
  rw [hY] at HTY hy2 ⊢
  clear hX hY
  rw [show hdS n.kind n.text = 6 from by rw [hk]; rfl] at HST
  clear hrd hok hrt hsh hB0 hw0 hpr hk hq
  have hl6 : ¬ 6 < least := by omega
  have hA0 : Hid (NdB tPn (w.alloc (.cells (ndA n p len cap) tPn)) w.heap.size n p len cap) := heap_alloc_new w _
  have hAB : Hid (Below B w (w.alloc (.cells (ndA n p len cap) tPn))) := (Below.refl B w).alloc hB _
  have hAK : Hid (KeepN w (w.alloc (.cells (ndA n p len cap) tPn))) := KeepN.of (by (repeat' (first | (with_reducible exact Below.refl _ _) | (with_reducible assumption) | (with_reducible refine Below.alloc ?_ ?_ _) | (with_reducible refine bel_drewN ?_ _) | (with_reducible refine Below.drew ?_) | (with_reducible refine Below.setCell ?_ ?_ _) | (with_reducible refine bel_call ‹_› ?_ ?_) | go_size)))
  have HIB := Lib.hid (IsBuilder_below hib (Below.alloc (Below.refl w.heap.size w) (Nat.le_refl _) (.cells (ndA n p len cap) tPn)))
  rw [ndA_eq] at HST ⊢
  clear hib
  go_enter_defers Tryz.func73, Tryz.ntmps73
  go_upto_region 1 with fail
  have e0 : w.alloc (.cells #[.int .i64 n.kind, .int .i64 n.num, .string ⟨n.text.toArray⟩, .int .i64 (cC n.frm), .int .i64 (cR n.frm), .int .i64 (cC n.tor), .int .i64 (cR n.tor), .slice p len cap] tPn) = w.alloc (.cells (ndA n p len cap) tPn) := rfl
  rw [e0]
  clear e0
  generalize w.alloc (.cells (ndA n p len cap) tPn) = w0 at hA0 hAB HIB hAK ⊢
  obtain ⟨c0, c1, c2, c3, cd3, c4, cd4, c5⟩ := hA0.out.cells
  go_wp2_with fail
  refine (HST.out _).mono ?_
  rintro e w1 ⟨rfl, hb1⟩
  have hz0 : B ≤ w0.heap.size := Nat.le_trans hB hAB.out.size
  have hB1 : Hid (Below B w w1) := bel_call hb1 hAB.out hz0
  have hA1 := Lib.hid (hA0.out.below hb1)
  have HI1 := Lib.hid (IsBuilder_below HIB.out hb1)
  have HK1 : Hid (KeepN w w1) := hAK.out.trans (KeepN.of hb1)
  have hz1 : B ≤ w1.heap.size := Nat.le_trans hz0 hb1.size
  generalize w.heap.size = bn at hA0 hA1 hB hb1 ⊢
  clear hb1 hA0 HIB hAB hz0 c0 c1 c2 c3 cd3 c4 cd4 c5 HST hAK
  have hXs : (⟨X.toArray⟩ : ByteArray).size ≤ 20 := by rw [Lib.size_eq]; exact hx2
  have hYs : (⟨Y.toArray⟩ : ByteArray).size ≤ 20 := by rw [Lib.size_eq]; exact hy2
  have hCs : (⟨#[58]⟩ : ByteArray).size = 1 := rfl
  have hXC : (⟨X.toArray⟩ : ByteArray) ++ ⟨#[58]⟩ = ⟨(X ++ [58]).toArray⟩ := cat2 X [58]
  have hXCs : (⟨(X ++ [58]).toArray⟩ : ByteArray).size ≤ 21 := by rw [Lib.size_eq]; simp; omega
  have hXY : (⟨(X ++ [58]).toArray⟩ : ByteArray) ++ ⟨Y.toArray⟩ = ⟨(X ++ 58 :: Y).toArray⟩ := by rw [cat2]; simp
  have hZs : (⟨(X ++ 58 :: Y).toArray⟩ : ByteArray).size ≤ 41 := by rw [Lib.size_eq]; simp; omega
  have hop1 : ∀ W, (Op.stringOp .add ⟨X.toArray⟩ ⟨#[58]⟩).run Tryz.prog W = .ok (.string ⟨(X ++ [58]).toArray⟩) W := fun W => by rw [← hXC]; exact run_string_add_sum W _ _ (by rw [hCs]; omega)
  have hop2 : ∀ W, (Op.stringOp .add ⟨(X ++ [58]).toArray⟩ ⟨Y.toArray⟩).run Tryz.prog W = .ok (.string ⟨(X ++ 58 :: Y).toArray⟩) W := fun W => by rw [← hXY]; exact run_string_add_sum W _ _ (by omega)
  clear hXC hXY
  obtain ⟨c0, c1, c2, c3, cd3, c4, cd4, c5⟩ := hA1.out.cells
  rw [HK.out] at c0
  have C3 := Kept.at c3
  have C4 := Kept.at c4
  have D3 := Kept.at cd3
  have D4 := Kept.at cd4
  go_upto_region 13 with fail
  refine wp_region_schedT (fun wx => ∃ x : Kept w1.heap.size w1, wx = x.v) 11 [([0,1,2,3,6,7,8],4),([5],9)] [10] (by kernel_rfl) (by kernel_rfl) (by kernel_rfl) (by kernel_rfl) (kept_drew _ _ (Nat.le_refl _)) ?_
  have kb0 : Hid (Below w1.heap.size w1 w1.drew) := Below.drew (Below.refl _ _)
  (unfold wpSegK; simp only [pick_nil, pick_cons, nthO_zero, nthO_succ, List.append])
  clear c0 c1 c2 c3 cd3 c4 cd4 c5
  repeat (go_big_quiet_step (fail))
  refine wpQuiet_nil ?_
  go_wp2_with fail
  go_at_call 55
  refine (HTX.out _).mono ?_
  rintro e x1 ⟨rfl, hb⟩
  have kb1 : Hid (Below w1.heap.size w1 x1) := bel_call hb kb0.out kb0.out.size
  clear hb
  go_wp2_with fail
  refine ⟨rfl, ⟨⟨x1, kb1.out⟩, rfl⟩, ?_⟩
  (unfold wpSegK; simp only [pick_nil, pick_cons, nthO_zero, nthO_succ, List.append])
  repeat (go_big_quiet_step (fail))
  refine wpQuiet_nil ?_
  go_wp2_with fail
  go_at_call 55
  refine (HTY.out _).mono ?_
  rintro e x2 ⟨rfl, hb⟩
  have kb2 : Hid (Below w1.heap.size w1 x2) := bel_call hb kb1.out kb1.out.size
  clear hb
  go_wp2_with fail
  refine ⟨rfl, ⟨⟨x2, kb2.out⟩, rfl⟩, ?_⟩
  (unfold wpSegK; simp only [pick_nil, pick_cons, nthO_zero, nthO_succ, List.append])
  repeat (go_big_quiet_step (fail))
  refine wpQuiet_nil ?_
  have hB2 : Hid (Below B w x2) := hB1.out.trans (kb2.out.mono hz1)
  have HI2 := Lib.hid (IsBuilder_below HI1.out kb2.out)
  have HK2 : Hid (KeepN w x2) := HK1.out.trans (KeepN.of kb2.out)
  have hz2 : B ≤ x2.heap.size := Nat.le_trans hz1 kb2.out.size
  clear hA1 HI1 hB1 hz1 C3 C4 D3 D4 HTX HTY HK1 kb0 kb1 kb2
  go_wp2_with fail
  refine (write_atK B b l ⟨(X ++ 58 :: Y).toArray⟩ x2 HI2.out (by omega) hz2).mono ?_
  rintro e w3 ⟨rfl, hi3, hb3, hk3⟩
  have hB3 : Hid (Below B w w3) := hB2.out.trans hb3
  have HI3 := Lib.hid hi3
  have HK3 : Hid (KeepN w w3) := HK2.out.trans hk3
  clear hi3 hb3 HI2 hB2 HK2 hk3
  go_wp2_with fail
  first
    | exact ⟨_, results_none rfl _ _ _, rfl, HI3.out, hB3.out, HK3.out⟩
    | exact ⟨rfl, _, results_none rfl _ _ _, rfl, HI3.out, hB3.out, HK3.out⟩
    | (refine ⟨rfl, ?_⟩; go_wp2_with fail; exact ⟨_, results_none rfl _ _ _, rfl, HI3.out, hB3.out, HK3.out⟩)
end Go.Proofs.YtjklbbmgjjdalaaGreatDoor.Cel
