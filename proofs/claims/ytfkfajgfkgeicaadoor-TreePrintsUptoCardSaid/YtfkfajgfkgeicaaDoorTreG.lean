/- Trees: Print at sums of numbers (the law's example). -/
import Derived.Test.YtfkfajgfkgeicaaDoorTreF
import Derived.Test.YtfkfajgfkgeicaaDoorDecE
set_option linter.unusedSimpArgs false
set_option linter.unusedVariables false
namespace Go.Proofs.YtfkfajgfkgeicaaDoor
open Go.RowKit Go.Joins

/-- Numbers and signs. -/
inductive Ex where
  | num (u : Int)
  | bin (t : Bs) (a b : Ex)
def Ex.nd : Ex → Nd
  | .num u => .mk 1 u [] 0 0 []
  | .bin t a b => .mk 6 0 t 0 0 [a.nd, b.nd]
def Ex.st : Ex → Int
  | .num _ => 6
  | .bin t _ _ => lvS t
def wrE : Ex → Int → Bs
  | .num u, _ => txt u
  | .bin t a b, least => if lvS t < least then 40 :: (wrE a (lvS t) ++ t ++ wrE b (lvS t + 1) ++ [41]) else wrE a (lvS t) ++ t ++ wrE b (lvS t + 1)
/-- What may stand. -/
def Ex.ok : Ex → Prop
  | .num u => 0 ≤ u ∧ u ≤ 9223372036854775807
  | .bin t a b => 1 ≤ lvS t ∧ a.ok ∧ b.ok
theorem lvS_hi (s : Bs) : lvS s ≤ 4 := by
  unfold lvS
  split
  · omega
  · split
    · omega
    · split
      · omega
      · split <;> omega
theorem Ex.text (e : Ex) (n : Nd) (h : n = e.nd) : True := trivial

set_option maxRecDepth 100000 in
set_option maxHeartbeats 2000000 in
theorem strength_any (x : Ex) (p : Option Addr) (len cap : Nat) (w : World) : Calls Tryd.prog 37 #[.agg (ndA x.nd p len cap)] w fun e w' => e = .returned (.int .i64 x.st) ∧ Below w.heap.size w w' := by
  have hA0 : Hid (NdB tPn (w.alloc (.cells (ndA x.nd p len cap) tPn)) w.heap.size x.nd p len cap) := heap_alloc_new w _
  have hAB : Hid (Below w.heap.size w (w.alloc (.cells (ndA x.nd p len cap) tPn))) := by unfold Hid; (repeat' (first | (with_reducible exact Below.refl _ _) | (with_reducible assumption) | (with_reducible refine Below.alloc ?_ ?_ _) | (with_reducible refine bel_drewN ?_ _) | (with_reducible refine Below.drew ?_) | (with_reducible refine Below.setCell ?_ ?_ _) | (with_reducible refine bel_call ‹_› ?_ ?_) | go_size))
  have HLV := Lib.hid (fun s W => level_any s W)
  obtain ⟨O, hO⟩ : ∃ O, x.st = O := ⟨_, rfl⟩
  rw [hO]
  have HO := Lib.hid hO
  clear hO
  rw [ndA_eq]
  go_enter Tryd.func37, Tryd.ntmps37
  go_upto_region 1 with fail
  have e0 : w.alloc (.cells #[.int .i64 x.nd.kind, .int .i64 x.nd.num, .string ⟨x.nd.text.toArray⟩, .int .i64 x.nd.frm, .int .i64 x.nd.tor, .slice p len cap] tPn) = w.alloc (.cells (ndA x.nd p len cap) tPn) := rfl
  rw [e0]
  clear e0
  generalize w.alloc (.cells (ndA x.nd p len cap) tPn) = w0 at hA0 hAB ⊢
  obtain ⟨c0, c1, c2, c3, c4, c5⟩ := hA0.out.cells
  cases x with
  | num u =>
    have c0 : w0.cell? ⟨w.heap.size, 0, none⟩ = some (.int .i64 1) := c0
    go_wp2_with fail
    go_ret
    exact ⟨by rw [← HO.out]; rfl, hAB.out⟩
  | bin t a b =>
    have c0 : w0.cell? ⟨w.heap.size, 0, none⟩ = some (.int .i64 6) := c0
    have c2 : w0.cell? ⟨w.heap.size, 2, none⟩ = some (.string ⟨t.toArray⟩) := c2
    have HL := Lib.hid (HLV.out ⟨t.toArray⟩)
    rw [show (⟨t.toArray⟩ : ByteArray).data.toList = t from rfl] at HL
    have HO2 : Hid (lvS t = O) := HO.out
    generalize lvS t = k at HL HO2
    go_wp2_with fail
    refine (HL.out _).mono ?_
    rintro e w1 ⟨rfl, hb⟩
    go_wp2_with fail
    go_ret
    exact ⟨by rw [← HO2.out]; rfl, bel_call hb hAB.out hAB.out.size⟩

def WriteC (x : Ex) : Prop := ∀ (d : Nat) (p : Option Addr) (len cap : Nat) (least : Int) (B b : Nat) (l : Bs) (w : World), RdT w B d x.nd p len → x.ok → 0 ≤ least → least ≤ 6 → Lib.IsBuilder tBd 5 B b (Lib.byteCells l) w → B ≤ w.heap.size → l.length + (wrE x least).length ≤ 1000000 →
    Calls Tryd.prog 29 #[.pointer (some ⟨b, 0, none⟩), .agg (ndA x.nd p len cap), .int .i64 least, .func (.func 26) #[] #[]] w fun e w' => e = .returned (.tuple #[]) ∧ Lib.IsBuilder tBd 5 B b (Lib.byteCells (l ++ wrE x least)) w' ∧ Below B w w' ∧ KeepN w w'

set_option maxRecDepth 100000 in
set_option maxHeartbeats 4000000 in
theorem write_num (u : Int) : WriteC (.num u) := by
  intro d p len cap least B b l w hrd hok hl0 hl1 hib hB hlen
  have hok : 0 ≤ u ∧ u ≤ 9223372036854775807 := hok
  have HTX := Lib.hid (fun W => text_any u (by omega) hok.2 W)
  have hlen : l.length + (txt u).length ≤ 1000000 := hlen
  rw [show wrE (.num u) least = txt u from rfl]
  have HST := Lib.hid (fun W => strength_any (.num u) p len cap W)
  rw [show (Ex.num u).st = 6 from rfl] at HST
  obtain ⟨n, hn⟩ : ∃ n, (Ex.num u).nd = n := ⟨_, rfl⟩
  have hk : n.kind = 1 := by rw [← hn]; rfl
  have hu : n.num = u := by rw [← hn]; rfl
  rw [hn] at HST ⊢
  have HK := Lib.hid hk
  have HU := Lib.hid hu
  clear hn hrd hk hu
  generalize hX : txt u = X at HTX hlen ⊢
  clear hX
  have hl6 : ¬ 6 < least := by omega
  have hA0 : Hid (NdB tPn (w.alloc (.cells (ndA n p len cap) tPn)) w.heap.size n p len cap) := heap_alloc_new w _
  have hAB : Hid (Below B w (w.alloc (.cells (ndA n p len cap) tPn))) := (Below.refl B w).alloc hB _
  have hAK : Hid (KeepN w (w.alloc (.cells (ndA n p len cap) tPn))) := KeepN.of (by (repeat' (first | (with_reducible exact Below.refl _ _) | (with_reducible assumption) | (with_reducible refine Below.alloc ?_ ?_ _) | (with_reducible refine bel_drewN ?_ _) | (with_reducible refine Below.drew ?_) | (with_reducible refine Below.setCell ?_ ?_ _) | (with_reducible refine bel_call ‹_› ?_ ?_) | go_size)))
  have HIB := Lib.hid (IsBuilder_below hib (Below.alloc (Below.refl w.heap.size w) (Nat.le_refl _) (.cells (ndA n p len cap) tPn)))
  rw [ndA_eq] at HST ⊢
  clear hib
  go_enter_defers Tryd.func29, Tryd.ntmps29
  go_upto_region 1 with fail
  have e0 : w.alloc (.cells #[.int .i64 n.kind, .int .i64 n.num, .string ⟨n.text.toArray⟩, .int .i64 n.frm, .int .i64 n.tor, .slice p len cap] tPn) = w.alloc (.cells (ndA n p len cap) tPn) := rfl
  rw [e0]
  clear e0
  generalize w.alloc (.cells (ndA n p len cap) tPn) = w0 at hA0 hAB HIB hAK ⊢
  obtain ⟨c0, c1, c2, c3, c4, c5⟩ := hA0.out.cells
  go_wp2_with fail
  refine (HST.out _).mono ?_
  rintro e w1 ⟨rfl, hb1⟩
  have hz0 : B ≤ w0.heap.size := Nat.le_trans hB hAB.out.size
  have hB1 : Hid (Below B w w1) := bel_call hb1 hAB.out hz0
  have hA1 := Lib.hid (hA0.out.below hb1)
  have HI1 := Lib.hid (IsBuilder_below HIB.out hb1)
  have HK1 : Hid (KeepN w w1) := hAK.out.trans (KeepN.of hb1)
  have hz1 : B ≤ w1.heap.size := Nat.le_trans hz0 hb1.size
  generalize w.heap.size = bn at hA0 hA1 hB hb1 ⊢
  clear hb1 hA0 HIB hAB hz0 c0 c1 c2 c3 c4 c5 HST hAK
  obtain ⟨c0, c1, c2, c3, c4, c5⟩ := hA1.out.cells
  rw [HK.out] at c0
  rw [HU.out] at c1
  go_wp2_with fail
  refine (HTX.out _).mono ?_
  rintro e w2 ⟨rfl, hb2⟩
  have hB2 : Hid (Below B w w2) := bel_call hb2 hB1.out hz1
  have HI2 := Lib.hid (IsBuilder_below HI1.out hb2)
  have HK2 : Hid (KeepN w w2) := HK1.out.trans (KeepN.of hb2)
  have hz2 : B ≤ w2.heap.size := Nat.le_trans hz1 hb2.size
  clear hb2 hA1 HI1 hB1 hz1 c0 c1 c2 c3 c4 c5 HTX HK1
  have hXs : (⟨X.toArray⟩ : ByteArray).size = X.length := by rw [Lib.size_eq]
  go_wp2_with fail
  refine (write_atK B b l ⟨X.toArray⟩ w2 HI2.out (by rw [hXs]; omega) hz2).mono ?_
  rintro e w3 ⟨rfl, hi3, hb3, hk3⟩
  have hB3 : Hid (Below B w w3) := hB2.out.trans hb3
  have HI3 := Lib.hid hi3
  have HK3 : Hid (KeepN w w3) := HK2.out.trans hk3
  clear hi3 hb3 HI2 hB2 hXs HK2 hk3
  go_wp2_with fail
  exact ⟨_, results_none rfl _ _ _, rfl, HI3.out, hB3.out, HK3.out⟩

set_option maxRecDepth 100000 in
set_option maxHeartbeats 16000000 in
theorem write_bin (t : Bs) (x y : Ex) (IHx : WriteC x) (IHy : WriteC y) : WriteC (.bin t x y) := by
  intro d p len cap least B b l w hrd hok hl0 hl1 hib hB hlen
  obtain ⟨hk1, hx, hy⟩ : 1 ≤ lvS t ∧ x.ok ∧ y.ok := hok
  have hk4 := lvS_hi t
  have HLV := Lib.hid (fun W => level_any ⟨t.toArray⟩ W)
  rw [show (⟨t.toArray⟩ : ByteArray).data.toList = t from rfl] at HLV
  have HST := Lib.hid (fun W => strength_any (.bin t x y) p len cap W)
  rw [show (Ex.bin t x y).st = lvS t from rfl] at HST
  rw [show wrE (.bin t x y) least = if lvS t < least then 40 :: (wrE x (lvS t) ++ t ++ wrE y (lvS t + 1) ++ [41]) else wrE x (lvS t) ++ t ++ wrE y (lvS t + 1) from rfl] at hlen ⊢
  obtain ⟨n, hn⟩ : ∃ n, (Ex.bin t x y).nd = n := ⟨_, rfl⟩
  have hk : n.kind = 6 := by rw [← hn]; rfl
  have ht : n.text = t := by rw [← hn]; rfl
  have ha : n.args = [x.nd, y.nd] := by rw [← hn]; rfl
  rw [hn] at HST hrd ⊢
  have HK := Lib.hid hk
  have HT := Lib.hid ht
  have hlen2 : len = 2 := by rw [← hrd.len, ha]; rfl
  have HRX : Hid (∀ W, Below B w W → ∃ d' bb off p' l' c', p = some ⟨bb, off, none⟩ ∧ RdT W B d' x.nd p' l' ∧ W.cell? ⟨bb, off, none⟩ = some (.int .i64 x.nd.kind) ∧ W.cell? ⟨bb, off + 1, none⟩ = some (.int .i64 x.nd.num) ∧ W.cell? ⟨bb, off + 2, none⟩ = some (.string ⟨x.nd.text.toArray⟩) ∧ W.cell? ⟨bb, off + 3, none⟩ = some (.int .i64 x.nd.frm) ∧ W.cell? ⟨bb, off + 4, none⟩ = some (.int .i64 x.nd.tor) ∧ W.cell? ⟨bb, off + 5, none⟩ = some (.slice p' l' c')) := by
    intro W hW
    obtain ⟨d', bb, off, c, p', l', c', hd, hp, hbN, hc, hrc, q0, q1, q2, q3, q4, q5⟩ := (hrd.below hW).at (j := 0) (by omega)
    rw [ha] at hc
    cases hc
    exact ⟨d', bb, off, p', l', c', hp, hrc, q0, q1, q2, q3, q4, q5⟩
  have HRY : Hid (∀ W, Below B w W → ∃ d' bb off p' l' c', p = some ⟨bb, off, none⟩ ∧ RdT W B d' y.nd p' l' ∧ W.cell? ⟨bb, off + 6, none⟩ = some (.int .i64 y.nd.kind) ∧ W.cell? ⟨bb, off + 7, none⟩ = some (.int .i64 y.nd.num) ∧ W.cell? ⟨bb, off + 8, none⟩ = some (.string ⟨y.nd.text.toArray⟩) ∧ W.cell? ⟨bb, off + 9, none⟩ = some (.int .i64 y.nd.frm) ∧ W.cell? ⟨bb, off + 10, none⟩ = some (.int .i64 y.nd.tor) ∧ W.cell? ⟨bb, off + 11, none⟩ = some (.slice p' l' c')) := by
    intro W hW
    obtain ⟨d', bb, off, c, p', l', c', hd, hp, hbN, hc, hrc, q0, q1, q2, q3, q4, q5⟩ := (hrd.below hW).at (j := 1) (by omega)
    rw [ha] at hc
    cases hc
    exact ⟨d', bb, off, p', l', c', hp, hrc, q0, q1, q2, q3, q4, q5⟩
  subst hlen2
  have HIX := Lib.hid IHx
  have HIY := Lib.hid IHy
  have HOX := Lib.hid hx
  have HOY := Lib.hid hy
  clear hn hrd hk ht ha IHx IHy hx hy
  generalize lvS t = k at HLV HST hlen hk1 hk4 ⊢
  have hll : l.length + ((wrE x k).length + t.length + (wrE y (k + 1)).length + 2) ≤ 1000002 := by
    split at hlen <;> simp at hlen <;> omega
  have hts : (⟨t.toArray⟩ : ByteArray).size = t.length := by rw [Lib.size_eq]
  have hA0 : Hid (NdB tPn (w.alloc (.cells (ndA n p 2 cap) tPn)) w.heap.size n p 2 cap) := heap_alloc_new w _
  have hAB : Hid (Below B w (w.alloc (.cells (ndA n p 2 cap) tPn))) := (Below.refl B w).alloc hB _
  have hAK : Hid (KeepN w (w.alloc (.cells (ndA n p 2 cap) tPn))) := KeepN.of (by (repeat' (first | (with_reducible exact Below.refl _ _) | (with_reducible assumption) | (with_reducible refine Below.alloc ?_ ?_ _) | (with_reducible refine bel_drewN ?_ _) | (with_reducible refine Below.drew ?_) | (with_reducible refine Below.setCell ?_ ?_ _) | (with_reducible refine bel_call ‹_› ?_ ?_) | go_size)))
  have HIB := Lib.hid (IsBuilder_below hib (Below.alloc (Below.refl w.heap.size w) (Nat.le_refl _) (.cells (ndA n p 2 cap) tPn)))
  rw [ndA_eq] at HST ⊢
  clear hib
  go_enter_defers Tryd.func29, Tryd.ntmps29
  go_upto_region 1 with fail
  have e0 : w.alloc (.cells #[.int .i64 n.kind, .int .i64 n.num, .string ⟨n.text.toArray⟩, .int .i64 n.frm, .int .i64 n.tor, .slice p 2 cap] tPn) = w.alloc (.cells (ndA n p 2 cap) tPn) := rfl
  rw [e0]
  clear e0
  generalize w.alloc (.cells (ndA n p 2 cap) tPn) = w0 at hA0 hAB HIB hAK ⊢
  obtain ⟨c0, c1, c2, c3, c4, c5⟩ := hA0.out.cells
  go_wp2_with fail
  refine (HST.out _).mono ?_
  rintro e w1 ⟨rfl, hb1⟩
  have hz0 : B ≤ w0.heap.size := Nat.le_trans hB hAB.out.size
  have hB1 : Hid (Below B w w1) := bel_call hb1 hAB.out hz0
  have hA1 := Lib.hid (hA0.out.below hb1)
  have HI1 := Lib.hid (IsBuilder_below HIB.out hb1)
  have HK1 : Hid (KeepN w w1) := hAK.out.trans (KeepN.of hb1)
  have hz1 : B ≤ w1.heap.size := Nat.le_trans hz0 hb1.size
  generalize w.heap.size = bn at hA0 hA1 hB hb1 ⊢
  clear hb1 hA0 HIB hAB hz0 c0 c1 c2 c3 c4 c5 HST hAK
  by_cases hkl : k < least
  · rw [if_pos hkl] at hlen
    simp only [List.length_append, List.length_cons, List.length_nil] at hlen
    have HG : Hid ((if k < least then 40 :: (wrE x k ++ t ++ wrE y (k + 1) ++ [41]) else wrE x k ++ t ++ wrE y (k + 1)) = 40 :: (wrE x k ++ t ++ wrE y (k + 1) ++ [41])) := if_pos hkl
    go_wp2_with fail
    refine (writeByte_atK B b l 40 (by omega) w1 HI1.out (by omega) hz1).mono ?_
    rintro e w1b ⟨rfl, hi1, hb1b, hk1b⟩
    have hB1b : Hid (Below B w w1b) := hB1.out.trans hb1b
    have HI1b := Lib.hid hi1
    have HK1b : Hid (KeepN w w1b) := HK1.out.trans hk1b
    have hA1b := Lib.hid (hA1.out.keep hk1b)
    have hz1b : B ≤ w1b.heap.size := Nat.le_trans hz1 hb1b.size
    clear hi1 hb1b hk1b hB1 HI1 HK1 hA1 hz1
    have hB1 := hB1b
    have HI1 := HI1b
    have HK1 := HK1b
    have hA1 := hA1b
    have hz1 := hz1b
    clear hB1b HI1b HK1b hA1b hz1b
    obtain ⟨c0, c1, c2, c3, c4, c5⟩ := hA1.out.cells
    rw [HK.out] at c0
    rw [HT.out] at c2
    go_wp2_with fail
    refine (HLV.out _).mono ?_
    rintro e w2 ⟨rfl, hb2⟩
    have hB2 : Hid (Below B w w2) := bel_call hb2 hB1.out hz1
    have HI2 := Lib.hid (IsBuilder_below HI1.out hb2)
    have HK2 : Hid (KeepN w w2) := HK1.out.trans (KeepN.of hb2)
    have hA2 := Lib.hid (hA1.out.below hb2)
    have hz2 : B ≤ w2.heap.size := Nat.le_trans hz1 hb2.size
    clear hb2 hA1 HI1 hB1 hz1 c0 c1 c2 c3 c4 c5 HLV HK1
    obtain ⟨c0, c1, c2, c3, c4, c5⟩ := hA2.out.cells
    rw [HT.out] at c2
    obtain ⟨d', bb, off, p', l', c', rfl, hrx, q0, q1, q2, q3, q4, q5⟩ := HRX.out w2 hB2.out
    have HCX := Lib.hid (HIX.out d' p' l' c' k B b (l ++ [UInt8.ofNat 40]) w2 hrx HOX.out (by omega) (by omega) HI2.out hz2 (by first | omega | (simp; omega)))
    rw [ndA_eq] at HCX
    clear hrx HRX HIX
    go_wp2_with fail
    refine HCX.out.mono ?_
    rintro e w3 ⟨rfl, hi3, hb3, hk3⟩
    have hB3 : Hid (Below B w w3) := hB2.out.trans hb3
    have HI3 := Lib.hid hi3
    have HK3 : Hid (KeepN w w3) := HK2.out.trans hk3
    have hA3 := Lib.hid (hA2.out.keep hk3)
    have hz3 : B ≤ w3.heap.size := Nat.le_trans hz2 hb3.size
    clear hi3 hb3 hk3 hA2 HI2 hB2 hz2 c0 c1 c2 c3 c4 c5 HK2 q0 q1 q2 q3 q4 q5 HCX
    obtain ⟨c0, c1, c2, c3, c4, c5⟩ := hA3.out.cells
    rw [HT.out] at c2
    go_wp2_with fail
    refine (write_atK B b _ ⟨t.toArray⟩ w3 HI3.out (by rw [hts]; first | omega | (simp; omega)) hz3).mono ?_
    rintro e w4 ⟨rfl, hi4, hb4, hk4b⟩
    have hB4 : Hid (Below B w w4) := hB3.out.trans hb4
    have HI4 := Lib.hid hi4
    have HK4 : Hid (KeepN w w4) := HK3.out.trans hk4b
    have hA4 := Lib.hid (hA3.out.keep hk4b)
    have hz4 : B ≤ w4.heap.size := Nat.le_trans hz3 hb4.size
    clear hi4 hb4 hk4b hA3 HI3 hB3 hz3 c0 c1 c2 c3 c4 c5 HK3
    obtain ⟨c0, c1, c2, c3, c4, c5⟩ := hA4.out.cells
    obtain ⟨d2, bb2, off2, p2, l2, c2y, hpe, hry, q0, q1, q2, q3, q4, q5⟩ := HRY.out w4 hB4.out
    cases hpe
    have HCY := Lib.hid (HIY.out d2 p2 l2 c2y (k + 1) B b _ w4 hry HOY.out (by omega) (by omega) HI4.out hz4 (by first | omega | (simp; omega)))
    rw [ndA_eq] at HCY
    clear hry HRY HIY
    go_wp2_with fail
    refine HCY.out.mono ?_
    rintro e w5 ⟨rfl, hi5, hb5, hk5⟩
    have hB5 : Hid (Below B w w5) := hB4.out.trans hb5
    have HI5 := Lib.hid hi5
    have HK5 : Hid (KeepN w w5) := HK4.out.trans hk5
    have hz5 : B ≤ w5.heap.size := Nat.le_trans hz4 hb5.size
    clear hi5 hb5 hk5 hA4 HI4 hB4 hz4 c0 c1 c2 c3 c4 c5 HK4 q0 q1 q2 q3 q4 q5 HCY
    go_wp2_with fail
    refine leaves_cons (f := 38) (args := #[.pointer (some ⟨b, 0, none⟩), .int .u8 41]) (by simp) (by simp [go_sem]) ?_
    refine (writeByte_dat .returning B b _ 41 (by omega) w5 HI5.out (by simp; omega) hz5).mono ?_
    rintro e u' w6 ⟨rfl, rfl, hi6, hb6, hk6⟩
    refine ⟨_, results_none rfl _ _ _, rfl, ?_, hB5.out.trans hb6, HK5.out.trans hk6⟩
    simpa using hi6
  · rw [if_neg hkl] at hlen
    simp only [List.length_append, List.length_cons, List.length_nil] at hlen
    have HG : Hid ((if k < least then 40 :: (wrE x k ++ t ++ wrE y (k + 1) ++ [41]) else wrE x k ++ t ++ wrE y (k + 1)) = wrE x k ++ t ++ wrE y (k + 1)) := if_neg hkl
    obtain ⟨c0, c1, c2, c3, c4, c5⟩ := hA1.out.cells
    rw [HK.out] at c0
    rw [HT.out] at c2
    go_wp2_with fail
    refine (HLV.out _).mono ?_
    rintro e w2 ⟨rfl, hb2⟩
    have hB2 : Hid (Below B w w2) := bel_call hb2 hB1.out hz1
    have HI2 := Lib.hid (IsBuilder_below HI1.out hb2)
    have HK2 : Hid (KeepN w w2) := HK1.out.trans (KeepN.of hb2)
    have hA2 := Lib.hid (hA1.out.below hb2)
    have hz2 : B ≤ w2.heap.size := Nat.le_trans hz1 hb2.size
    clear hb2 hA1 HI1 hB1 hz1 c0 c1 c2 c3 c4 c5 HLV HK1
    obtain ⟨c0, c1, c2, c3, c4, c5⟩ := hA2.out.cells
    rw [HT.out] at c2
    obtain ⟨d', bb, off, p', l', c', rfl, hrx, q0, q1, q2, q3, q4, q5⟩ := HRX.out w2 hB2.out
    have HCX := Lib.hid (HIX.out d' p' l' c' k B b (l) w2 hrx HOX.out (by omega) (by omega) HI2.out hz2 (by first | omega | (simp; omega)))
    rw [ndA_eq] at HCX
    clear hrx HRX HIX
    go_wp2_with fail
    refine HCX.out.mono ?_
    rintro e w3 ⟨rfl, hi3, hb3, hk3⟩
    have hB3 : Hid (Below B w w3) := hB2.out.trans hb3
    have HI3 := Lib.hid hi3
    have HK3 : Hid (KeepN w w3) := HK2.out.trans hk3
    have hA3 := Lib.hid (hA2.out.keep hk3)
    have hz3 : B ≤ w3.heap.size := Nat.le_trans hz2 hb3.size
    clear hi3 hb3 hk3 hA2 HI2 hB2 hz2 c0 c1 c2 c3 c4 c5 HK2 q0 q1 q2 q3 q4 q5 HCX
    obtain ⟨c0, c1, c2, c3, c4, c5⟩ := hA3.out.cells
    rw [HT.out] at c2
    go_wp2_with fail
    refine (write_atK B b _ ⟨t.toArray⟩ w3 HI3.out (by rw [hts]; first | omega | (simp; omega)) hz3).mono ?_
    rintro e w4 ⟨rfl, hi4, hb4, hk4b⟩
    have hB4 : Hid (Below B w w4) := hB3.out.trans hb4
    have HI4 := Lib.hid hi4
    have HK4 : Hid (KeepN w w4) := HK3.out.trans hk4b
    have hA4 := Lib.hid (hA3.out.keep hk4b)
    have hz4 : B ≤ w4.heap.size := Nat.le_trans hz3 hb4.size
    clear hi4 hb4 hk4b hA3 HI3 hB3 hz3 c0 c1 c2 c3 c4 c5 HK3
    obtain ⟨c0, c1, c2, c3, c4, c5⟩ := hA4.out.cells
    obtain ⟨d2, bb2, off2, p2, l2, c2y, hpe, hry, q0, q1, q2, q3, q4, q5⟩ := HRY.out w4 hB4.out
    cases hpe
    have HCY := Lib.hid (HIY.out d2 p2 l2 c2y (k + 1) B b _ w4 hry HOY.out (by omega) (by omega) HI4.out hz4 (by first | omega | (simp; omega)))
    rw [ndA_eq] at HCY
    clear hry HRY HIY
    go_wp2_with fail
    refine HCY.out.mono ?_
    rintro e w5 ⟨rfl, hi5, hb5, hk5⟩
    have hB5 : Hid (Below B w w5) := hB4.out.trans hb5
    have HI5 := Lib.hid hi5
    have HK5 : Hid (KeepN w w5) := HK4.out.trans hk5
    have hz5 : B ≤ w5.heap.size := Nat.le_trans hz4 hb5.size
    clear hi5 hb5 hk5 hA4 HI4 hB4 hz4 c0 c1 c2 c3 c4 c5 HK4 q0 q1 q2 q3 q4 q5 HCY
    go_wp2_with fail
    refine ⟨_, results_none rfl _ _ _, rfl, ?_, hB5.out, HK5.out⟩
    simpa using HI5.out
theorem write_ex : ∀ x, WriteC x
  | .num u => write_num u
  | .bin t x y => write_bin t x y (write_ex x) (write_ex y)
end Go.Proofs.YtfkfajgfkgeicaaDoor
