/- Move.Formula: a tree moved. Printed by gen_shf.py. Shift: the law's example, first part: Repeat once, wide, numbered at one text. Shift: the law's example, second part: step, steps, Typed at texts that are no formulas. Shift: the law's example, third part: Typed at a formula. Printed by gen_shk.py. Shift: the law's example: same, Fill, awake. Printed by gen_shk.py. -/
import Derived.Test.YtbdgdhjhgcpidaaGreatDoorScZ
import Derived.Test.YtbdgdhjhgcpidaaGreatDoorScW
import Derived.Test.YtbdgdhjhgcpidaaGreatDoorScI
import Derived.Test.YtbdgdhjhgcpidaaGreatDoorScAc
import Derived.Test.YtbdgdhjhgcpidaaGreatDoorScAf
import Derived.Test.YtbdgdhjhgcpidaaGreatDoorScAh
import Derived.Test.YtbdgdhjhgcpidaaGreatDoorScP
import Derived.Maps.AppendAt
set_option linter.unusedSimpArgs false
set_option linter.unusedVariables false
namespace Go.Proofs.YtbdgdhjhgcpidaaGreatDoor
open Go.RowKit Go.Joins

set_option maxRecDepth 100000 in
set_option maxHeartbeats 16000000 in
theorem mform_any (cols rows : Int) (d : Nat) (n : Nd) (p : Option Addr) (len cap : Nat) (w : World) (hrd : Cel.RdT w w.heap.size d n p len) (hok : Fm n) : Calls Tryz.prog 15 #[.agg #[.int .i64 cols, .int .i64 rows], .agg (Cel.ndA n p len cap)] w fun e w' => (∃ p' len' cap', e = .returned (.agg (Cel.ndA (mvN cols rows n) p' len' cap')) ∧ Cel.RdP w' (fun b => w.heap.size ≤ b ∧ b < w'.heap.size) d (mvN cols rows n) p' len') ∧ Below w.heap.size w w' := by
  have HMP := Lib.hid (fun W (hW : Below w.heap.size w W) => mp_any cols rows d n p len cap W ((hrd.below hW).mono hW.size) hok)
  have hh := Lib.hid (three_hp w (.cells #[.int .i64 cols, .int .i64 rows] 25) (.cells (Cel.ndA n p len cap) Cel.tPn) (.cells (Cel.ndA nodeZ none 0 0) Cel.tPn))
  have hAB : Hid (Below w.heap.size w (((w.alloc (.cells #[.int .i64 cols, .int .i64 rows] 25)).alloc (.cells (Cel.ndA n p len cap) Cel.tPn)).alloc (.cells (Cel.ndA nodeZ none 0 0) Cel.tPn))) := three_bl _ _ _
  rw [Cel.ndA_eq]
  clear hrd hok
  go_enter Tryz.func15, Tryz.ntmps15
  go_upto_region 1 with fail
  have e0 : ((w.alloc (.cells #[.int .i64 cols, .int .i64 rows] 25)).alloc (.cells #[.int .i64 n.kind, .int .i64 n.num, .string ⟨n.text.toArray⟩, .int .i64 (cC n.frm), .int .i64 (cR n.frm), .int .i64 (cC n.tor), .int .i64 (cR n.tor), .slice p len cap] Cel.tPn)).alloc (.cells #[.int .i64 0, .int .i64 0, .string ⟨#[]⟩, .int .i64 0, .int .i64 0, .int .i64 0, .int .i64 0, .slice none 0 0] Cel.tPn) = ((w.alloc (.cells #[.int .i64 cols, .int .i64 rows] 25)).alloc (.cells (Cel.ndA n p len cap) Cel.tPn)).alloc (.cells (Cel.ndA nodeZ none 0 0) Cel.tPn) := rfl
  rw [e0]
  clear e0
  generalize ((w.alloc (.cells #[.int .i64 cols, .int .i64 rows] 25)).alloc (.cells (Cel.ndA n p len cap) Cel.tPn)).alloc (.cells (Cel.ndA nodeZ none 0 0) Cel.tPn) = w0 at hh hAB ⊢
  have hA0 : Hid (BlkC w0 w.heap.size #[.int .i64 cols, .int .i64 rows] 25) := hh.out.1
  have hA1 : Hid (Cel.NdB Cel.tPn w0 (w.heap.size + 1) n p len cap) := hh.out.2.1
  have hA2 : Hid (BlkC w0 (w.heap.size + 2) (Cel.ndA nodeZ none 0 0) Cel.tPn) := hh.out.2.2
  have m0 := hA0.out.cell 0 _ rfl
  have m1 := hA0.out.cell 1 _ rfl
  obtain ⟨c0, c1, c2, c3, cd3, c4, cd4, c5⟩ := hA1.out.cells
  have HM0 := Lib.hid (HMP.out w0 hAB.out)
  rw [Cel.ndA_eq] at HM0
  clear hh hA0 hA1 HMP
  go_wp2_with fail
  refine HM0.out.mono ?_
  rintro e w1 ⟨⟨p', l', c', rfl, hk⟩, hb⟩
  have HZ1 := Lib.hid (hA2.out.below hb)
  have HB1 : Hid (Below w.heap.size w w1) := bel_call hb hAB.out hAB.out.size
  have HK1 : Hid (Cel.RdP w1 (fun b => w.heap.size + 2 < b ∧ b < w1.heap.size) d (mvN cols rows n) p' l') := hk.carry (fun b hb' => ⟨⟨by have := lt_some hA2.out; omega, hb'.2⟩, rfl⟩)
  clear hk hb hA2 hAB HM0 m0 m1 c0 c1 c2 c3 cd3 c4 cd4 c5
  obtain ⟨x, hx⟩ : ∃ x, mvN cols rows n = x := ⟨_, rfl⟩
  have HXE := Lib.hid hx
  rw [hx] at HK1 ⊢
  clear hx
  rename_i KK aK
  go_simp
  refine aK _ _ ?_
  clear aK
  rw [show Value.agg (Cel.ndA x p' l' c') = .agg #[.int .i64 x.kind, .int .i64 x.num, .string ⟨x.text.toArray⟩, .int .i64 (cC x.frm), .int .i64 (cR x.frm), .int .i64 (cC x.tor), .int .i64 (cR x.tor), .slice p' l' c'] from rfl]
  refine wpList_store_mid (by rfl) _ _ _ (by rfl) (w.heap.size + 2) 0 #[.int .i64 x.kind, .int .i64 x.num, .string ⟨x.text.toArray⟩, .int .i64 (cC x.frm), .int .i64 (cR x.frm), .int .i64 (cC x.tor), .int .i64 (cR x.tor), .slice p' l' c'] (by rfl) (by rfl) (block_there HZ1.out 8 (Nat.le_refl _)) (by kernel_rfl) (by simp [Value.oneCell']) ?_
  have e8 : w1.setCells (w.heap.size + 2) 0 (#[.int .i64 x.kind, .int .i64 x.num, .string ⟨x.text.toArray⟩, .int .i64 (cC x.frm), .int .i64 (cR x.frm), .int .i64 (cC x.tor), .int .i64 (cR x.tor), .slice p' l' c']).toList = w1.setCells (w.heap.size + 2) 0 (Cel.ndA x p' l' c').toList := rfl
  rw [e8]
  clear e8
  have HS8 : Hid (BlkC (w1.setCells (w.heap.size + 2) 0 (Cel.ndA x p' l' c').toList) (w.heap.size + 2) (Cel.ndA x p' l' c') Cel.tPn) := store_block HZ1.out _ rfl
  have HB8 : Hid (Below w.heap.size w (w1.setCells (w.heap.size + 2) 0 (Cel.ndA x p' l' c').toList)) := store_below (by omega) _ _ _ HB1.out
  have HK8 : Hid (Cel.RdP (w1.setCells (w.heap.size + 2) 0 (Cel.ndA x p' l' c').toList) (fun b => w.heap.size ≤ b ∧ b < (w1.setCells (w.heap.size + 2) 0 (Cel.ndA x p' l' c').toList).heap.size) d x p' l') := HK1.out.carry (fun b hb => ⟨⟨by omega, Nat.lt_of_lt_of_le hb.2 (store_below (Nat.zero_le (w.heap.size + 2)) (Cel.ndA x p' l' c').toList 0 w1 (Below.refl 0 w1)).size⟩, store_other (by omega) _ _ _⟩)
  clear HZ1 HB1 HK1
  generalize w1.setCells (w.heap.size + 2) 0 (Cel.ndA x p' l' c').toList = w9 at HS8 HB8 HK8 ⊢
  go_simp
  go_wp2_with fail
  try simp only [Exit.inBlock, Exit.then]
  exact bodyPost_ret (results_cell_row rfl _ _ (w.heap.size + 2) Cel.tPn (Cel.ndA x p' l' c') (0, 0) _ rfl HS8.out Tryz.underlying44 rfl (by kernel_rfl)) rfl ⟨⟨p', l', c', by rw [HXE.out], by rw [HXE.out]; exact HK8.out⟩, HB8.out⟩
end Go.Proofs.YtbdgdhjhgcpidaaGreatDoor
namespace Go.Proofs.YtbdgdhjhgcpidaaGreatDoor
open Go.RowKit Go.Joins

set_option maxRecDepth 100000 in
set_option maxHeartbeats 2000000 in
theorem repeat_one (s : ByteArray) (w : World) : Calls Tryz.prog 70 #[.string s, .int .i64 1] w fun e w' => e = .returned (.string s) ∧ w = w' := by
  go_enter Tryz.func70, Tryz.ntmps70
  go_wp2_with fail
  go_ret
  exact ⟨rfl, rfl⟩
set_option maxRecDepth 100000 in
set_option maxHeartbeats 2000000 in
theorem wide_two (n : Nat) (L : List UInt8) (hL : dcL n = L) (h1 : L.length = 1) (hn : n ≤ 10000000) (w : World) : Calls Tryz.prog 45 #[.int .i64 n, .int .i64 2] w fun e w' => e = .returned (.string ⟨(48 :: L).toArray⟩) ∧ Below w.heap.size w w' := by
  have HD := Lib.hid (fun W => decN_any n hn W)
  rw [hL] at HD
  obtain ⟨t, ht⟩ : ∃ t : ByteArray, (⟨L.toArray⟩ : ByteArray) = t := ⟨_, rfl⟩
  have hts : (t.size : Int) = 1 := by rw [← ht, Lib.size_eq]; show (L.length : Int) = 1; omega
  have hcat : (⟨#[48]⟩ : ByteArray) ++ t = ⟨(48 :: L).toArray⟩ := by
    rw [← ht]
    apply ByteArray.ext
    apply Array.ext'
    simp
  rw [ht] at HD
  rw [← hcat]
  have HRP := Lib.hid (fun W => repeat_one ⟨#[48]⟩ W)
  have f1 : IntKind.i64.wrap ((2 : Int) - 1) = 1 := by decide
  clear hL h1 ht hcat
  go_enter Tryz.func45, Tryz.ntmps45
  go_wp2_with fail
  refine (HD.out _).mono ?_
  rintro e w1 ⟨rfl, hb⟩
  go_wp2_with fail
  refine (HRP.out _).mono ?_
  rintro e w2 ⟨rfl, hw⟩
  rw [← hw]
  clear hw
  go_wp2_with fail
  go_ret
  exact ⟨rfl, hb⟩
/-- The text of the example. -/
abbrev q07 : ByteArray := ⟨#[81, 48, 55]⟩
abbrev b07 : ByteArray := ⟨#[48, 55]⟩
set_option maxRecDepth 100000 in
set_option maxHeartbeats 4000000 in
theorem numbered_q (w : World) : Calls Tryz.prog 44 #[.string q07] w fun e w' => e = .returned (.tuple #[.string ⟨#[81]⟩, .int .i64 7, .int .i64 2]) ∧ Below w.heap.size w w' := by
  obtain ⟨s, hs⟩ : ∃ s, q07 = s := ⟨_, rfl⟩
  obtain ⟨t, ht⟩ : ∃ t, b07 = t := ⟨_, rfl⟩
  have hsz : s.size = 3 := by rw [← hs]; rfl
  have htz : t.size = 2 := by rw [← ht]; rfl
  have hx1 : s.extract 1 3 = t := by rw [← hs, ← ht]; rfl
  have hx2 : s.extract 0 1 = ⟨#[81]⟩ := by rw [← hs]; rfl
  have HB := Lib.hid (btN_str s)
  have HBV := Lib.hid (show btN s.data.toList 0 = 81 ∧ btN s.data.toList 1 = 48 ∧ btN s.data.toList 2 = 55 from by rw [← hs]; exact ⟨rfl, rfl, rfl⟩)
  have HTV := Lib.hid (show btN t.data.toList 0 = 48 ∧ btN t.data.toList 1 = 55 from by rw [← ht]; exact ⟨rfl, rfl⟩)
  rw [hs]
  have hconv := fun (W : World) => Lib.run_convert_string_bytes (P := Tryz.prog) W 9 125 5 t Tryz.underlying9 Tryz.underlying125 Tryz.underlying5
  clear hs ht
  have hszi : (s.size : Int) = 3 := by omega
  have htzi : (t.size : Int) = 2 := by omega
  go_enter Tryz.func44, Tryz.ntmps44
  go_wp2_with fail
  go_loopg [5] 3 (fun g v wx => ∃ j : Nat, v = .int .i64 ((j : Nat) + 1 : Int) ∧ j ≤ 2 ∧ j + 1 ≤ g ∧ w = wx)
  case atStart => exact ⟨2, rfl, by omega, by omega, rfl⟩
  case round =>
    obtain ⟨j, rfl, hj, hjg, rfl⟩ := hrel
    have hb := HB.out j (by omega)
    have hjlt : j < s.size := by omega
    have f1 : IntKind.i64.wrap ((j : Int) + 1 - 1) = (j : Int) := by rw [show (j : Int) + 1 - 1 = (j : Int) from by omega]; exact IntWalk.i64_in _ (by omega)
    have f2 : IntKind.i64.wrap ((3 : Int) - ((j : Int) + 1)) = 2 - (j : Int) := by rw [show (3 : Int) - ((j : Int) + 1) = 2 - (j : Int) from by omega]; exact IntWalk.i64_in _ (by omega)
    have hp : (0 : Int) < (j : Int) + 1 := by omega
    by_cases h0 : j = 0
    · subst h0
      rw [HBV.out.1] at hb
      have HBC := Lib.hid (fun W => bytes_cell W t)
      have hbw := Lib.hid (bytes_below w t)
      have hbc := Lib.hid (HBC.out w)
      clear HBV HB HBC
      go_wp2_with fail
      generalize Lib.bytesWorld w 5 t = W1 at hbw hbc ⊢
      go_loopg [6, 41] 2 (fun g v6 v wx => ∃ i n : Nat, v = .int .i64 (i : Int) ∧ v6 = .int .i64 (n : Int) ∧ i + g = 2 ∧ ((i < 2 ∧ n = 0) ∨ (i = 2 ∧ n = 7)) ∧ wx = W1)
      case atStart => exact ⟨0, 0, rfl, rfl, by omega, .inl ⟨by omega, rfl⟩, rfl⟩
      case round =>
        obtain ⟨i, n, rfl, rfl, hig, hin, rfl⟩ := hrel
        rcases hin with ⟨hi2, rfl⟩ | ⟨rfl, rfl⟩
        · have hli : (i : Int) < 2 := by omega
          have hc := hbc.out i (by omega)
          rcases (show i = 0 ∨ i = 1 by omega) with rfl | rfl
          · rw [HTV.out.1] at hc
            go_wp2_with fail
            go_roundg (gk - 1)
            case measure => omega
            case rel => exact ⟨1, 0, by go_num, by go_num, by omega, .inl ⟨by omega, rfl⟩, by first | rfl | trivial⟩
          · rw [HTV.out.2] at hc
            go_wp2_with fail
            go_roundg (gk - 1)
            case measure => omega
            case rel => exact ⟨2, 7, by go_num, by go_num, by omega, .inr ⟨rfl, rfl⟩, by first | rfl | trivial⟩
        · go_wp2_with fail
          go_ret3
          exact ⟨rfl, hbw.out⟩
    · obtain ⟨k, rfl⟩ : ∃ k, j = k + 1 := ⟨j - 1, by omega⟩
      obtain ⟨d, hd⟩ : ∃ d, btN s.data.toList (k + 1) = d := ⟨_, rfl⟩
      have hd1 : (48 : Int) ≤ (d : Int) ∧ (d : Int) ≤ 57 := by
        rcases (show k = 0 ∨ k = 1 by omega) with rfl | rfl
        · rw [HBV.out.2.1] at hd; omega
        · rw [HBV.out.2.2] at hd; omega
      rw [hd] at hb
      clear hd
      obtain ⟨hd1, hd2⟩ := hd1
      have hl9 : 2 - ((k + 1 : Nat) : Int) < 9 := by omega
      go_wp2_with fail
      go_roundg (gk - 1)
      case measure => omega
      case rel => exact ⟨k, by go_num, by omega, by omega, by first | rfl | trivial⟩
end Go.Proofs.YtbdgdhjhgcpidaaGreatDoor
namespace Go.Proofs.YtbdgdhjhgcpidaaGreatDoor
open Go.RowKit Go.Joins

abbrev s3 : ByteArray := ⟨#[51]⟩
abbrev s1 : ByteArray := ⟨#[49]⟩
theorem shaped_bl {w w' : World} (h : w.ShapedOpen Tryz.prog) (hb : Below w.heap.size w w') : w'.ShapedOpen Tryz.prog := shaped_below h hb
theorem prs_q : prsOk q07.data.toList = false := by decide +kernel
theorem prs_3 : prsOk s3.data.toList = true ∧ prsV s3.data.toList = 3000000 := by decide +kernel
theorem prs_1 : prsOk s1.data.toList = true ∧ prsV s1.data.toList = 1000000 := by decide +kernel
set_option maxRecDepth 100000 in
set_option maxHeartbeats 4000000 in
theorem step_q (by_ m : Nat) (h1 : 1 ≤ m) (h2 : m ≤ 2) (w : World) (hsh : w.ShapedOpen Tryz.prog) : Calls Tryz.prog 29 #[.string q07, .int .i64 by_, .int .i64 m] w fun e w' => e = .returned (.tuple #[.string ⟨#[81, 48, UInt8.ofNat (55 + m)]⟩, .int .i64 0]) ∧ Below w.heap.size w w' := by
  have HPR := Lib.hid (parse_any q07 (by decide) w hsh)
  rw [prs_q] at HPR
  have HNB := Lib.hid (fun W => numbered_q W)
  obtain ⟨D, hD⟩ : ∃ D, dcL (7 + m) = D := ⟨_, rfl⟩
  have hD2 : D.length = 1 ∧ D = [UInt8.ofNat (55 + m)] := by
    rw [← hD]
    rcases (show m = 1 ∨ m = 2 by omega) with rfl | rfl <;> decide +kernel
  have HWD := Lib.hid (fun W => wide_two (7 + m) D hD hD2.1 (by omega) W)
  rw [hD2.2] at HWD
  have hcat : (⟨#[81]⟩ : ByteArray) ++ ⟨[48, UInt8.ofNat (55 + m)].toArray⟩ = ⟨#[81, 48, UInt8.ofNat (55 + m)]⟩ := by
    apply ByteArray.ext
    apply Array.ext'
    simp
  have f1 : IntKind.i64.wrap ((7 : Int) + (m : Int)) = ((7 + m : Nat) : Int) := by
    rw [show (7 : Int) + (m : Int) = ((7 + m : Nat) : Int) from by push_cast; rfl]
    exact IntWalk.i64_in _ (by omega)
  rw [← hcat]
  obtain ⟨s, hs⟩ : ∃ s, q07 = s := ⟨_, rfl⟩
  have hb0 : btN s.data.toList 0 = 81 := by rw [← hs]; rfl
  have hlt : 0 < s.size := by rw [← hs]; decide
  have hb := btN_str s 0 hlt
  have hx : (((s[0]'hlt).toNat : Nat) : Int) = 81 := by rw [hb, hb0]; rfl
  clear hb
  rw [hs] at HPR HNB ⊢
  obtain ⟨Z, hZ⟩ : ∃ Z : ByteArray, ⟨[48, UInt8.ofNat (55 + m)].toArray⟩ = Z := ⟨_, rfl⟩
  have hZz : Z.size = 2 := by rw [← hZ]; rfl
  rw [hZ] at HWD ⊢
  generalize prsV s.data.toList = pv at HPR
  clear hD hD2 hcat hZ hb0
  go_enter Tryz.func29, Tryz.ntmps29
  go_wp2_with fail
  refine HPR.out.mono ?_
  rintro e w1 ⟨rfl, hb1⟩
  clear HPR
  go_wp2_with fail
  refine (HNB.out _).mono ?_
  rintro e w2 ⟨rfl, hb2⟩
  have hB2 : Below w.heap.size w w2 := bel_call hb2 hb1 hb1.size
  clear HNB hb1 hb2
  go_wp2_with fail
  refine (HWD.out _).mono ?_
  rintro e w3 ⟨rfl, hb3⟩
  have hB3 : Below w.heap.size w w3 := bel_call hb3 hB2 hB2.size
  go_wp2_with fail
  go_ret2
  exact ⟨rfl, hB3⟩
set_option maxRecDepth 100000 in
set_option maxHeartbeats 4000000 in
theorem step_3 (m : Int) (h1 : 1 ≤ m) (h2 : m ≤ 3) (w : World) (hsh : w.ShapedOpen Tryz.prog) : Calls Tryz.prog 29 #[.string s3, .int .i64 2000000, .int .i64 m] w fun e w' => e = .returned (.tuple #[.string ⟨#[UInt8.ofNat (51 + 2 * m.toNat)]⟩, .int .i64 0]) ∧ Below w.heap.size w w' := by
  have HPR := Lib.hid (parse_any s3 (by decide) w hsh)
  rw [prs_3.1, prs_3.2] at HPR
  have HOF := Lib.hid (fun W => decOf_any m (by omega) (by omega) W)
  have e1 : okV (sv (decide (m < 0)) (m.natAbs * 1000000)) = m * 1000000 ∧ okE (sv (decide (m < 0)) (m.natAbs * 1000000)) = 0 := by
    rcases (show m = 1 ∨ m = 2 ∨ m = 3 by omega) with rfl | rfl | rfl <;> decide +kernel
  rw [e1.1, e1.2] at HOF
  have HML := Lib.hid (fun W => mul_any (m * 1000000) 2000000 (by omega) (by omega) (by omega) (by omega) W)
  have e2 : okV (sv (decide (m * 1000000 < 0) != decide ((2000000 : Int) < 0)) (rdiv ((m * 1000000).natAbs * (2000000 : Int).natAbs) 1000000)) = m * 2000000 ∧ okE (sv (decide (m * 1000000 < 0) != decide ((2000000 : Int) < 0)) (rdiv ((m * 1000000).natAbs * (2000000 : Int).natAbs) 1000000)) = 0 := by
    rcases (show m = 1 ∨ m = 2 ∨ m = 3 by omega) with rfl | rfl | rfl <;> decide +kernel
  rw [e2.1, e2.2] at HML
  have HAD := Lib.hid (fun W => add_any 3000000 (m * 2000000) (by omega) (by omega) (by omega) (by omega) W)
  have e3 : okV (3000000 + m * 2000000) = 3000000 + m * 2000000 ∧ okE (3000000 + m * 2000000) = 0 := by
    rcases (show m = 1 ∨ m = 2 ∨ m = 3 by omega) with rfl | rfl | rfl <;> decide +kernel
  rw [e3.1, e3.2] at HAD
  have HTX := Lib.hid (fun W => text_any (3000000 + m * 2000000) (by omega) (by omega) W)
  have e4 : (⟨(txt (3000000 + m * 2000000)).toArray⟩ : ByteArray) = ⟨#[UInt8.ofNat (51 + 2 * m.toNat)]⟩ := by
    rcases (show m = 1 ∨ m = 2 ∨ m = 3 by omega) with rfl | rfl | rfl <;> decide +kernel
  rw [e4] at HTX
  generalize (⟨#[UInt8.ofNat (51 + 2 * m.toNat)]⟩ : ByteArray) = R at HTX ⊢
  generalize 3000000 + m * 2000000 = x3 at HAD HTX
  generalize m * 2000000 = x2 at HML HAD
  generalize m * 1000000 = x1 at HOF HML
  obtain ⟨s, hs⟩ : ∃ s, s3 = s := ⟨_, rfl⟩
  rw [hs] at HPR ⊢
  clear e1 e2 e3 e4 h1 h2 hs
  go_enter Tryz.func29, Tryz.ntmps29
  go_wp2_with fail
  refine HPR.out.mono ?_
  rintro e w1 ⟨rfl, hb1⟩
  clear HPR
  go_wp2_with fail
  refine (HOF.out _).mono ?_
  rintro e w2 ⟨rfl, hb2⟩
  have hB2 : Below w.heap.size w w2 := bel_call hb2 hb1 hb1.size
  clear HOF hb1 hb2
  go_wp2_with fail
  refine (HML.out _).mono ?_
  rintro e w3 ⟨rfl, hb3⟩
  have hB3 : Below w.heap.size w w3 := bel_call hb3 hB2 hB2.size
  clear HML hb3 hB2
  go_wp2_with fail
  refine (HAD.out _).mono ?_
  rintro e w4 ⟨rfl, hw⟩
  rw [← hw]
  clear hw HAD
  go_wp2_with fail
  refine (HTX.out _).mono ?_
  rintro e w5 ⟨rfl, hb5⟩
  have hB5 : Below w.heap.size w w5 := bel_call hb5 hB3 hB3.size
  go_wp2_with fail
  go_ret2
  exact ⟨rfl, hB5⟩
set_option maxRecDepth 100000 in
set_option maxHeartbeats 4000000 in
theorem steps_one (p : Option Addr) (c : Nat) (w : World) : Calls Tryz.prog 26 #[.slice p 1 c] w fun e w' => e = .returned (.int .i64 1000000) ∧ Below w.heap.size w w' := by
  go_enter Tryz.func26, Tryz.ntmps26
  go_wp2_with fail
  go_ret
  exact ⟨rfl, Below.refl _ _⟩
set_option maxRecDepth 100000 in
set_option maxHeartbeats 4000000 in
theorem steps_two (g c : Nat) (w : World) (hc0 : w.cell? ⟨g, 0, none⟩ = some (.string s1)) (hc1 : w.cell? ⟨g, 1, none⟩ = some (.string s3)) (hsh : w.ShapedOpen Tryz.prog) : Calls Tryz.prog 26 #[.slice (some ⟨g, 0, none⟩) 2 c] w fun e w' => e = .returned (.int .i64 2000000) ∧ Below w.heap.size w w' := by
  have HP1 := Lib.hid (fun W (h : W.ShapedOpen Tryz.prog) => parse_any s1 (by decide) W h)
  rw [prs_1.1, prs_1.2] at HP1
  have HP3 := Lib.hid (fun W (h : W.ShapedOpen Tryz.prog) => parse_any s3 (by decide) W h)
  rw [prs_3.1, prs_3.2] at HP3
  have HSB := Lib.hid (fun W => sub_any 3000000 1000000 (by omega) (by omega) (by omega) (by omega) W)
  rw [show okV ((3000000 : Int) - 1000000) = 2000000 from by decide, show okE ((3000000 : Int) - 1000000) = 0 from by decide] at HSB
  have HSH := Lib.hid hsh
  have hg : g < w.heap.size := lt_of_cell hc0
  obtain ⟨x1, hx1⟩ : ∃ s, s1 = s := ⟨_, rfl⟩
  obtain ⟨x3, hx3⟩ : ∃ s, s3 = s := ⟨_, rfl⟩
  rw [hx1] at HP1 hc0
  rw [hx3] at HP3 hc1
  clear hsh hx1 hx3
  go_enter Tryz.func26, Tryz.ntmps26
  go_wp2_with fail
  refine (HP1.out w HSH.out).mono ?_
  rintro e w1 ⟨rfl, hb1⟩
  have d1 : w1.cell? ⟨g, 1, none⟩ = some (.string x3) := (hb1.cell (p := ⟨g, 1, none⟩) hg).trans hc1
  have HS1 := Lib.hid (shaped_bl HSH.out hb1)
  clear HP1 hc0 hc1
  go_wp2_with fail
  refine (HP3.out w1 HS1.out).mono ?_
  rintro e w2 ⟨rfl, hb2⟩
  have hB2 : Below w.heap.size w w2 := bel_call hb2 hb1 hb1.size
  clear HP3 d1 hb1 hb2
  go_wp2_with fail
  refine (HSB.out w2).mono ?_
  rintro e w3 ⟨rfl, hw⟩
  rw [← hw]
  clear hw
  go_wp2_with fail
  go_ret
  exact ⟨rfl, hB2⟩
set_option maxRecDepth 100000 in
set_option maxHeartbeats 4000000 in
theorem typed_plain (s : ByteArray) (hs : Lib.hasPrefix s.data.toList [61] = false) (cols rows : Int) (w : World) : Calls Tryz.prog 27 #[.agg #[.int .i64 cols, .int .i64 rows], .string s] w fun e w' => e = .returned (.tuple #[.string s, .int .i64 0]) ∧ Below w.heap.size w w' := by
  have HCP := Lib.hid (fun W => Tryz.strings_CutPrefix s ⟨#[61]⟩ W)
  rw [show (⟨#[61]⟩ : ByteArray).data.toList = [61] from rfl, hs] at HCP
  generalize (⟨(Lib.trimPrefix s.data.toList [61]).toArray⟩ : ByteArray) = z at HCP
  have hAB : Hid (Below w.heap.size w (w.alloc (.cells #[.int .i64 cols, .int .i64 rows] 25))) := by unfold Hid; (repeat' (first | (with_reducible exact Below.refl _ _) | (with_reducible assumption) | (with_reducible refine Below.alloc ?_ ?_ _) | (with_reducible refine bel_drewN ?_ _) | (with_reducible refine Below.drew ?_) | (with_reducible refine Below.setCell ?_ ?_ _) | (with_reducible refine bel_call ‹_› ?_ ?_) | go_size))
  clear hs
  go_enter Tryz.func27, Tryz.ntmps27
  go_upto_region 1 with fail
  generalize w.alloc (.cells #[.int .i64 cols, .int .i64 rows] 25) = w0 at hAB ⊢
  go_wp2_with fail
  refine (HCP.out w0).mono ?_
  rintro e w1 ⟨rfl, hw⟩
  rw [hw]
  clear hw
  go_wp2_with fail
  go_ret2
  exact ⟨rfl, hAB.out⟩
end Go.Proofs.YtbdgdhjhgcpidaaGreatDoor
namespace Go.Proofs.YtbdgdhjhgcpidaaGreatDoor
open Go.RowKit Go.Joins

set_option maxRecDepth 100000 in
set_option maxHeartbeats 4000000 in
theorem ptext_any (n : Nd) (d : Nat) (p : Option Addr) (len cap : Nat) (lv : Int) (w : World) (hrd : Cel.RdT w w.heap.size d n p len) (hok : OkN n) (hrt : rtN n lv = true) (hsh : w.ShapedOpen Tryz.prog) (hlen : wtN n ≤ 2200000) :
    Calls Tryz.prog 38 #[.agg (Cel.ndA n p len cap)] w fun e w' => e = .returned (.string ⟨(prN nmS n 1).toArray⟩) ∧ Below w.heap.size w w' := by
  have hA0 : Hid (Cel.NdB Cel.tPn (w.alloc (.cells (Cel.ndA n p len cap) Cel.tPn)) w.heap.size n p len cap) := heap_alloc_new w _
  have hAB : Hid (Below w.heap.size w (w.alloc (.cells (Cel.ndA n p len cap) Cel.tPn))) := by unfold Hid; (repeat' (first | (with_reducible exact Below.refl _ _) | (with_reducible assumption) | (with_reducible refine Below.alloc ?_ ?_ _) | (with_reducible refine bel_drewN ?_ _) | (with_reducible refine Below.drew ?_) | (with_reducible refine Below.setCell ?_ ?_ _) | (with_reducible refine bel_call ‹_› ?_ ?_) | go_size))
  have HP := Lib.hid (Cel.print_any n d p len cap lv (w.alloc (.cells (Cel.ndA n p len cap) Cel.tPn)) ((hrd.below hAB.out).mono hAB.out.size) hok hrt (shaped_below hsh hAB.out) hlen)
  generalize prN nmS n 1 = X at HP ⊢
  rw [Cel.ndA_eq] at HP
  rw [Cel.ndA_eq]
  clear hrd hok hrt hsh hlen
  go_enter Tryz.func38, Tryz.ntmps38
  go_upto_region 1 with fail
  have e0 : w.alloc (.cells #[.int .i64 n.kind, .int .i64 n.num, .string ⟨n.text.toArray⟩, .int .i64 (cC n.frm), .int .i64 (cR n.frm), .int .i64 (cC n.tor), .int .i64 (cR n.tor), .slice p len cap] Cel.tPn) = w.alloc (.cells (Cel.ndA n p len cap) Cel.tPn) := rfl
  rw [e0]
  clear e0
  generalize w.alloc (.cells (Cel.ndA n p len cap) Cel.tPn) = w0 at hA0 hAB HP ⊢
  obtain ⟨c0, c1, c2, c3, cd3, c4, cd4, c5⟩ := hA0.out.cells
  go_wp2_with fail
  refine HP.out.mono ?_
  rintro e w1 ⟨rfl, hb⟩
  have hB1 := bel_call hb hAB.out hAB.out.size
  go_wp2_with fail
  go_ret
  exact ⟨rfl, hB1⟩
abbrev eA1 : ByteArray := ⟨#[61, 65, 49]⟩
abbrev eA2 : ByteArray := ⟨#[61, 65, 50]⟩
theorem fm_a1 : Fm (.mk 3 0 [] 10001 0 []) := .ref _ (by unfold OkC; decide)
theorem fm_a2 : Fm (.mk 3 0 [] 10002 0 []) := .ref _ (by unfold OkC; decide)
theorem ok_a1 : OkN (.mk 3 0 [] 10001 0 []) := (gd_ref (by unfold OkC; decide) (by omega) (by omega)).ok
theorem ok_a2 : OkN (.mk 3 0 [] 10002 0 []) := (gd_ref (by unfold OkC; decide) (by omega) (by omega)).ok
theorem pr_a1 : prN nmS (.mk 3 0 [] 10001 0 []) 1 = [65, 49] := by decide +kernel
theorem pr_a2 : prN nmS (.mk 3 0 [] 10002 0 []) 1 = [65, 50] := by decide +kernel
theorem mv_a1 : mvN 0 1 (.mk 3 0 [] 10001 0 []) = .mk 3 0 [] 10002 0 [] := by
  have e : mvC 0 1 10001 = 10002 := by decide +kernel
  rw [mvN, mvNL, e]
  rfl
set_option maxRecDepth 100000 in
set_option maxHeartbeats 8000000 in
theorem typed_ref (w : World) (hsh : w.ShapedOpen Tryz.prog) : Calls Tryz.prog 27 #[.agg #[.int .i64 0, .int .i64 1], .string eA1] w fun e w' => e = .returned (.tuple #[.string eA2, .int .i64 0]) ∧ Below w.heap.size w w' := by
  have HSH := Lib.hid (fun W (hW : Below w.heap.size w W) => shaped_bl hsh hW)
  have HCP := Lib.hid (fun W => Tryz.strings_CutPrefix eA1 ⟨#[61]⟩ W)
  rw [show (⟨(Lib.trimPrefix eA1.data.toList (⟨#[61]⟩ : ByteArray).data.toList).toArray⟩ : ByteArray) = ⟨#[65, 49]⟩ from by decide +kernel, show Lib.hasPrefix eA1.data.toList (⟨#[61]⟩ : ByteArray).data.toList = true from by decide +kernel] at HCP
  have HFM := Lib.hid (fun W (h : W.ShapedOpen Tryz.prog) => formula_ok (.mk 3 0 [] 10001 0 []) fm_a1 (by decide +kernel) ok_a1 ⟨#[65, 49]⟩ pr_a1.symm (by decide) W h)
  have HMF := Lib.hid (fun q cq W (h : Cel.RdT W W.heap.size 1 (.mk 3 0 [] 10001 0 []) q 0) => mform_any 0 1 1 (.mk 3 0 [] 10001 0 []) q 0 cq W h fm_a1)
  rw [mv_a1] at HMF
  have HPT := Lib.hid (fun q l cq W (h : Cel.RdT W W.heap.size 1 (.mk 3 0 [] 10002 0 []) q l) (hs : W.ShapedOpen Tryz.prog) => ptext_any (.mk 3 0 [] 10002 0 []) 1 q l cq 64 W h ok_a2 (by decide +kernel) hs (by decide +kernel))
  rw [pr_a2] at HPT
  have hdp : dpN (.mk 3 0 [] 10001 0 []) ≤ 1 + 1 := by decide +kernel
  obtain ⟨n, hn⟩ : ∃ n, (.mk 3 0 [] 10001 0 [] : Nd) = n := ⟨_, rfl⟩
  obtain ⟨m, hm⟩ : ∃ m, (.mk 3 0 [] 10002 0 [] : Nd) = m := ⟨_, rfl⟩
  have hal : n.args.length = 0 := by rw [← hn]; rfl
  rw [hn] at HFM HMF hdp
  rw [hm] at HMF HPT
  rw [hal] at HFM
  obtain ⟨s, hs⟩ : ∃ s, eA1 = s := ⟨_, rfl⟩
  obtain ⟨t, ht⟩ : ∃ t, (⟨#[65, 49]⟩ : ByteArray) = t := ⟨_, rfl⟩
  obtain ⟨z, hz⟩ : ∃ z : ByteArray, ⟨([65, 50] : List UInt8).toArray⟩ = z := ⟨_, rfl⟩
  have hzz : z.size = 2 := by rw [← hz]; rfl
  have hcat : (⟨#[61]⟩ : ByteArray) ++ z = eA2 := by rw [← hz]; decide +kernel
  rw [hz] at HPT
  rw [hs] at HCP ⊢
  rw [ht] at HCP HFM
  rw [← hcat]
  have hA0 : Hid (BlkC (w.alloc (.cells #[.int .i64 0, .int .i64 1] 25)) w.heap.size #[.int .i64 0, .int .i64 1] 25) := heap_alloc_new w _
  have hAB : Hid (Below w.heap.size w (w.alloc (.cells #[.int .i64 0, .int .i64 1] 25))) := by unfold Hid; (repeat' (first | (with_reducible exact Below.refl _ _) | (with_reducible assumption) | (with_reducible refine Below.alloc ?_ ?_ _) | (with_reducible refine bel_drewN ?_ _) | (with_reducible refine Below.drew ?_) | (with_reducible refine Below.setCell ?_ ?_ _) | (with_reducible refine bel_call ‹_› ?_ ?_) | go_size))
  clear hn hm hal hs ht hz hcat hsh
  go_enter Tryz.func27, Tryz.ntmps27
  go_upto_region 1 with fail
  generalize w.alloc (.cells #[.int .i64 0, .int .i64 1] 25) = w0 at hA0 hAB ⊢
  have HF0 := Lib.hid (HFM.out w0 (HSH.out w0 hAB.out))
  go_wp2_with fail
  refine (HCP.out w0).mono ?_
  rintro e w1 ⟨rfl, hw⟩
  rw [hw]
  clear hw HCP HFM
  go_wp2_with fail
  refine HF0.out.mono ?_
  rintro e w1 ⟨⟨q, cq, rfl, hk⟩, hb⟩
  have HK1 := Lib.hid (hk 1 hdp)
  have HA1 := Lib.hid (hA0.out.below hb)
  have HB1 : Hid (Below w.heap.size w w1) := bel_call hb hAB.out hAB.out.size
  clear hk hb hA0 hAB HF0 hdp
  rw [Cel.ndA_eq]
  go_upto_region 5 with fail
  have e1 : w1.alloc (.cells #[.int .i64 n.kind, .int .i64 n.num, .string ⟨n.text.toArray⟩, .int .i64 (cC n.frm), .int .i64 (cR n.frm), .int .i64 (cC n.tor), .int .i64 (cR n.tor), .slice q 0 cq] Cel.tPn) = w1.alloc (.cells (Cel.ndA n q 0 cq) Cel.tPn) := rfl
  rw [e1]
  clear e1
  have HX2 : Hid (Cel.NdB Cel.tPn (w1.alloc (.cells (Cel.ndA n q 0 cq) Cel.tPn)) w1.heap.size n q 0 cq) := heap_alloc_new w1 _
  have hb2 : Below w1.heap.size w1 (w1.alloc (.cells (Cel.ndA n q 0 cq) Cel.tPn)) := (Below.refl _ _).alloc (Nat.le_refl _) _
  have HA2 := Lib.hid (HA1.out.below hb2)
  have HB2 : Hid (Below w.heap.size w (w1.alloc (.cells (Cel.ndA n q 0 cq) Cel.tPn))) := bel_call hb2 HB1.out HB1.out.size
  have HK2 : Hid (Cel.RdT (w1.alloc (.cells (Cel.ndA n q 0 cq) Cel.tPn)) (w1.alloc (.cells (Cel.ndA n q 0 cq) Cel.tPn)).heap.size 1 n q 0) := ((HK1.out.rdT (fun b h => h.2)).below hb2).mono hb2.size
  clear hb2 HA1 HB1 HK1
  generalize w1.alloc (.cells (Cel.ndA n q 0 cq) Cel.tPn) = w2 at HX2 HA2 HB2 HK2 ⊢
  generalize w1.heap.size = g at HX2 ⊢
  have m0 := HA2.out.cell 0 _ rfl
  have m1 := HA2.out.cell 1 _ rfl
  obtain ⟨c0, c1, c2, c3, cd3, c4, cd4, c5⟩ := HX2.out.cells
  have HM2 := Lib.hid (HMF.out q cq w2 HK2.out)
  rw [Cel.ndA_eq] at HM2
  clear HMF
  go_wp2_with fail
  refine HM2.out.mono ?_
  rintro e w3 ⟨⟨p', l', c', rfl, hk3⟩, hb3⟩
  have HB3 : Hid (Below w.heap.size w w3) := bel_call hb3 HB2.out HB2.out.size
  have HP3 := Lib.hid (HPT.out p' l' c' w3 (hk3.rdT (fun b h => h.2)) (HSH.out w3 HB3.out))
  rw [Cel.ndA_eq] at HP3
  rw [Cel.ndA_eq]
  clear hk3 hb3 HM2 HPT HX2 HA2 HB2 HK2 m0 m1 c0 c1 c2 c3 cd3 c4 cd4 c5
  go_wp2_with fail
  refine HP3.out.mono ?_
  rintro e w4 ⟨rfl, hb4⟩
  have HB4 : Hid (Below w.heap.size w w4) := bel_call hb4 HB3.out HB3.out.size
  clear hb4 HP3
  go_wp2_with fail
  go_ret2
  exact ⟨rfl, HB4.out⟩
end Go.Proofs.YtbdgdhjhgcpidaaGreatDoor
namespace Go.Proofs.YtbdgdhjhgcpidaaGreatDoor
open Go.RowKit Go.Joins

/-- Strings that lie in a block. -/
def SRow (w : World) (x : Nat) (E : List ByteArray) : Prop := ∀ j s, E[j]? = some s → w.cell? ⟨x, j, none⟩ = some (.string s)
theorem SRow.below {w w' : World} {x : Nat} {E : List ByteArray} (h : SRow w x E) (hx : x < w.heap.size) (hb : Below w.heap.size w w') : SRow w' x E := fun j s hj => (hb.cell (p := ⟨x, j, none⟩) hx).trans (h j s hj)
theorem info_st : (Tryz.prog.info? 9).map (fun i => (i.zero, i.size, i.bytes)) = some (some (.string ⟨#[]⟩), 1, 16) := by kernel_rfl
set_option maxRecDepth 100000 in
set_option maxHeartbeats 8000000 in
theorem same34 (x y n c1 c2 : Nat) (E : List ByteArray) (hn : E.length = n) (hs : n ≤ 100) (w : World) (hA : SRow w x E) (hB : SRow w y E) :
    Calls Tryz.prog 19 #[.slice (some ⟨x, 0, none⟩) n c1, .slice (some ⟨y, 0, none⟩) n c2] w fun e w' => e = .returned (.bool true) ∧ Below w.heap.size w w' := by
  have A6 := Lib.hid hA
  have B6 := Lib.hid hB
  have HN := Lib.hid hn
  clear hA hB hn
  go_enter Tryz.func19, Tryz.ntmps19
  go_wp2_with fail
  go_loopw [5] (fun i wr => ∃ k : Nat, i = .int .i64 k ∧ k ≤ n ∧ ∃ m, wr = w.drewN m) (fun i _ => n - (intOf i).toNat)
  case atStart => exact ⟨0, rfl, by omega, 0, rfl⟩
  case round =>
    obtain ⟨k, rfl, hk, m, rfl⟩ := hrel
    rcases Nat.lt_or_ge k n with hlt | hge
    · obtain ⟨s, hs1⟩ : ∃ s, E[k]? = some s := ⟨_, List.getElem?_eq_getElem (by rw [HN.out]; exact hlt)⟩
      have f1 := A6.out k s hs1
      have g1 := B6.out k s hs1
      have hklt : (k : Int) < (n : Int) := by omega
      have e2 : (s.toList != s.toList) = false := by simp
      clear hs1
      go_wp2_with fail
      go_quiet (fail)
      go_wp2_with fail
      go_roundw
      case rel => exact ⟨k + 1, by go_num, by omega, _, rfl⟩
      case measure => simp [intOf]; omega
    · have hklt : ¬ (k : Int) < (n : Int) := by omega
      go_wp2_with fail
      go_ret
      exact ⟨rfl, by (repeat' (first | (with_reducible exact Below.refl _ _) | (with_reducible assumption) | (with_reducible refine Below.alloc ?_ ?_ _) | (with_reducible refine bel_drewN ?_ _) | (with_reducible refine Below.drew ?_) | (with_reducible refine Below.setCell ?_ ?_ _) | (with_reducible refine bel_call ‹_› ?_ ?_) | go_size))⟩
set_option maxRecDepth 100000 in
set_option maxHeartbeats 8000000 in
theorem fill_any (g m c n : Nat) (last : ByteArray) (by_ : Int) (E T : List ByteArray) (hm1 : 1 ≤ m) (hm2 : m ≤ 2) (hn : E.length = n) (hTl : T.length = n) (hn1 : 1 ≤ n) (hn3 : n ≤ 3) (hp : Bool) (w : World) (hlast : w.cell? ⟨g, m - 1, none⟩ = some (.string last))
    (HPE : ∀ W, Calls Tryz.prog 28 #[.string last, .string ⟨#[61]⟩] W fun e w' => e = .returned (.bool hp) ∧ w' = W)
    (HS : ∀ W, Below w.heap.size w W → Calls Tryz.prog 26 #[.slice (some ⟨g, 0, none⟩) m c] W fun e w' => e = .returned (.int .i64 by_) ∧ Below W.heap.size W w')
    (HT : ∀ (W : World) (k : Nat) (t : ByteArray), Below w.heap.size w W → T[k]? = some t → Calls Tryz.prog 27 #[.agg #[.int .i64 0, .int .i64 ((k : Int) + 1)], .string last] W fun e w' => e = .returned (.tuple #[.string t, .int .i64 0]) ∧ Below W.heap.size W w')
    (HP : hp = false → ∀ (W : World) (k : Nat) (s : ByteArray), Below w.heap.size w W → E[k]? = some s → Calls Tryz.prog 29 #[.string last, .int .i64 by_, .int .i64 ((k : Int) + 1)] W fun e w' => e = .returned (.tuple #[.string s, .int .i64 0]) ∧ Below W.heap.size W w')
    (HE : hp = true → T = E) :
    Calls Tryz.prog 18 #[.slice (some ⟨g, 0, none⟩) m c, .int .i64 n, .bool false] w fun e w' => (∃ x cap, e = .returned (.tuple #[.slice (some ⟨x, 0, none⟩) n cap, .int .i64 0]) ∧ x < w'.heap.size ∧ SRow w' x E) ∧ Below w.heap.size w w' := by
  have HS1 := Lib.hid HS
  have HT1 := Lib.hid HT
  have HP1 := Lib.hid HP
  have HE1 := Lib.hid HE
  have HPE1 := Lib.hid HPE
  have HN := Lib.hid hn
  have HTL := Lib.hid hTl
  have hg : g < w.heap.size := lt_of_cell hlast
  obtain ⟨i0, hi, hz0, hz1, hz2⟩ := info_of info_st
  have f1 : IntKind.i64.wrap ((m : Int) - 1) = ((m - 1 : Nat) : Int) := by rw [show (m : Int) - 1 = ((m - 1 : Nat) : Int) from by omega]; exact IntWalk.i64_in _ (by omega)
  have hml : ((m - 1 : Nat) : Int) < (m : Int) := by omega
  have hml2 : m - 1 < m := by omega
  have hm0 : ((m : Int) == 0) = false := by simp; omega
  have hm00 : (m == 0) = false := by simp; omega
  have hn0 : ¬ (n : Int) < 0 := by omega
  have hn64 : ¬ (64 : Int) < (n : Int) := by omega
  clear HS HT HP HE HPE hn hTl
  go_enter Tryz.func18, Tryz.ntmps18
  go_wp2_with fail
  refine (HS1.out w (Below.refl _ _)).mono ?_
  rintro e w1 ⟨rfl, hb1⟩
  have hl1 : w1.cell? ⟨g, m - 1, none⟩ = some (.string last) := (hb1.cell (p := ⟨g, m - 1, none⟩) hg).trans hlast
  have HB1 := Lib.hid hb1
  clear hb1 hlast HS1
  go_wp2_with fail
  clear hl1 f1 hml hml2 hm0 hm00 hn0 hn64 hg
  go_loopg [10, 35] n (fun g v10 v35 wr => ∃ k : Nat, v35 = .int .i64 k ∧ k + g = n ∧ wr.ownsRow w.heap.size 9 1 v10 k ((E.map Value.string).take k) ∧ Below w.heap.size w wr)
  case atStart => exact ⟨0, rfl, by omega, World.ownsRow_nil _ _ _ _, HB1.out⟩
  case round =>
    obtain ⟨k, rfl, hkg, hown, hbel⟩ := hrel
    have HOW := Lib.hid hown
    have HBL := Lib.hid hbel
    have hzr := hbel.size
    clear hown hbel HB1
    by_cases hk : k < n
    · have hki : (k : Int) < (n : Int) := by omega
      obtain ⟨t, ht⟩ : ∃ t, T[k]? = some t := ⟨_, List.getElem?_eq_getElem (by rw [HTL.out]; exact hk)⟩
      obtain ⟨s, hs⟩ : ∃ s, E[k]? = some s := ⟨_, List.getElem?_eq_getElem (by rw [HN.out]; exact hk)⟩
      have f2 : IntKind.i64.wrap ((k : Int) + 1) = (k : Int) + 1 := IntWalk.i64_in _ (by omega)
      have HT2 := Lib.hid (fun W hW => HT1.out W k t hW ht)
      have HP2 := Lib.hid (fun h W hW => HP1.out h W k s hW hs)
      have HTS := Lib.hid (fun h => (show t = s from by have := HE1.out h; rw [this] at ht; rw [ht] at hs; exact Option.some.inj hs))
      have HES := Lib.hid (show (E.map Value.string).take (k + 1) = (E.map Value.string).take k ++ [.string s] from by rw [List.take_add_one, List.getElem?_map, hs]; rfl)
      clear ht hs
      go_upto_region 12 with fail
      have hm8 : Hid (BlkC (wr.alloc (.cells #[.int .i64 0, .int .i64 ((k : Int) + 1)] 25)) wr.heap.size #[.int .i64 0, .int .i64 ((k : Int) + 1)] 25) := heap_alloc_new wr _
      have hb2 : Below wr.heap.size wr (wr.alloc (.cells #[.int .i64 0, .int .i64 ((k : Int) + 1)] 25)) := (Below.refl _ _).alloc (Nat.le_refl _) _
      have HOW2 := Lib.hid (row_below HOW.out hb2)
      have HB2 : Hid (Below w.heap.size w (wr.alloc (.cells #[.int .i64 0, .int .i64 ((k : Int) + 1)] 25))) := bel_call hb2 HBL.out hzr
      clear hb2 HOW HBL
      generalize wr.alloc (.cells #[.int .i64 0, .int .i64 ((k : Int) + 1)] 25) = w2 at hm8 HOW2 HB2 ⊢
      generalize wr.heap.size = gm at hm8 hzr ⊢
      have m0 := hm8.out.cell 0 _ rfl
      have m1 := hm8.out.cell 1 _ rfl
      have HT3 := Lib.hid (HT2.out w2 HB2.out)
      clear HT2 hm8
      go_wp2_with fail
      refine HT3.out.mono ?_
      rintro e w3 ⟨rfl, hb3⟩
      have HOW3 := Lib.hid (row_below HOW2.out hb3)
      have HB3 : Hid (Below w.heap.size w w3) := bel_call hb3 HB2.out HB2.out.size
      clear hb3 HT3 HOW2 HB2 m0 m1
      go_wp2_with fail
      refine (HPE1.out w3).mono ?_
      rintro e w4 ⟨rfl, hw⟩
      rw [hw]
      clear hw
      cases hp with
      | true =>
        obtain rfl := HTS.out rfl
        clear HTS HP2 HP1 HT1 HE1 HPE1
        go_wp2_with (at_builtin; refine wpList_append_own _ rfl _ _ _ rfl w.heap.size 9 i0 (.string ⟨#[]⟩) 1 16 Tryz.underlying49 hi hz0 hz1 hz2 rfl (by decide) _ _ _ rfl (HOW3.out.alloc _) ⟨w3.heap.size, 0, none⟩ 1 1 [.string t] rfl rfl ?c1 ?c2 ?c3 ?c4 ?c5 ?_)
        case c1 => exact cell_one_new _ _ _
        case c2 => intro u hu; obtain rfl := List.mem_singleton.1 hu; rfl
        case c3 => unfold maxLen; omega
        case c4 => omega
        case c5 => rw [World.size_alloc]; have := HB3.out.size; omega
        intro v' w7 hown7 hgrow7 _
        have HOW7 : Hid (w7.ownsRow w.heap.size 9 1 v' (k + 1) ((E.map Value.string).take (k + 1))) := by
          unfold Hid
          rw [HES.out]
          exact hown7
        have HB7 : Hid (Below w.heap.size w w7) := (HB3.out.alloc HB3.out.size _).grown hgrow7 (by rw [World.size_alloc]; have := HB3.out.size; omega) (fun k' hk' => (HOW3.out.lt k' hk').1)
        clear hown7 hgrow7
        go_wp2_with fail
        go_roundg (gk - 1)
        case measure => omega
        case rel => exact ⟨k + 1, by go_num, by omega, HOW7.out, HB7.out⟩
      | false =>
        have HP3 := Lib.hid (HP2.out rfl w3 HB3.out)
        clear HTS HP2 HP1 HT1 HE1 HPE1
        go_wp2_with fail
        refine HP3.out.mono ?_
        rintro e w5 ⟨rfl, hb5⟩
        have HOW5 := Lib.hid (row_below HOW3.out hb5)
        have HB5 : Hid (Below w.heap.size w w5) := bel_call hb5 HB3.out HB3.out.size
        clear hb5 HP3 HOW3 HB3
        go_wp2_with (at_builtin; refine wpList_append_own _ rfl _ _ _ rfl w.heap.size 9 i0 (.string ⟨#[]⟩) 1 16 Tryz.underlying49 hi hz0 hz1 hz2 rfl (by decide) _ _ _ rfl (HOW5.out.alloc _) ⟨w5.heap.size, 0, none⟩ 1 1 [.string s] rfl rfl ?c1 ?c2 ?c3 ?c4 ?c5 ?_)
        case c1 => exact cell_one_new _ _ _
        case c2 => intro u hu; obtain rfl := List.mem_singleton.1 hu; rfl
        case c3 => unfold maxLen; omega
        case c4 => omega
        case c5 => rw [World.size_alloc]; have := HB5.out.size; omega
        intro v' w7 hown7 hgrow7 _
        have HOW7 : Hid (w7.ownsRow w.heap.size 9 1 v' (k + 1) ((E.map Value.string).take (k + 1))) := by
          unfold Hid
          rw [HES.out]
          exact hown7
        have HB7 : Hid (Below w.heap.size w w7) := (HB5.out.alloc HB5.out.size _).grown hgrow7 (by rw [World.size_alloc]; have := HB5.out.size; omega) (fun k' hk' => (HOW5.out.lt k' hk').1)
        clear hown7 hgrow7
        go_wp2_with fail
        go_roundg (gk - 1)
        case measure => omega
        case rel => exact ⟨k + 1, by go_num, by omega, HOW7.out, HB7.out⟩
    · obtain rfl : k = n := by omega
      have hki : ¬ (k : Int) < (k : Int) := by omega
      have hE : (E.map Value.string).take k = E.map Value.string := by rw [List.take_of_length_le (by rw [List.length_map, HN.out]; exact Nat.le_refl _)]
      rcases HOW.out.2 with ⟨_, h0⟩ | ⟨x, cap, cur, hv, hx1, hx2, _, _, _, _⟩
      · omega
      · subst hv
        have HR := Lib.hid (show SRow wr x E from fun j s hj => by
          have h := World.ownsRow.cells (g := x) HOW.out rfl j (.string s) (by rw [hE, List.getElem?_map, hj]; rfl)
          rw [Addr.add_mid, Nat.zero_add] at h
          exact h)
        have hxl := (HOW.out.lt x rfl).2
        go_wp2_with fail
        go_ret2
        exact ⟨⟨x, ⟨cap, rfl⟩, hxl, HR.out⟩, HBL.out⟩

abbrev eQ8 : ByteArray := ⟨#[81, 48, 56]⟩
abbrev eQ9 : ByteArray := ⟨#[81, 48, 57]⟩
theorem fill_num (g c : Nat) (w : World) (h0 : w.cell? ⟨g, 0, none⟩ = some (.string s1)) (h1 : w.cell? ⟨g, 1, none⟩ = some (.string s3)) (hsh : w.ShapedOpen Tryz.prog) :
    Calls Tryz.prog 18 #[.slice (some ⟨g, 0, none⟩) 2 c, .int .i64 3, .bool false] w fun e w' => (∃ x cap, e = .returned (.tuple #[.slice (some ⟨x, 0, none⟩) 3 cap, .int .i64 0]) ∧ x < w'.heap.size ∧ SRow w' x [⟨#[53]⟩, ⟨#[55]⟩, ⟨#[57]⟩]) ∧ Below w.heap.size w w' :=
  fill_any g 2 c 3 s3 2000000 [⟨#[53]⟩, ⟨#[55]⟩, ⟨#[57]⟩] [s3, s3, s3] (by omega) (by omega) rfl rfl (by omega) (by omega) false w h1
    (fun W => by have := Tryz.strings_HasPrefix s3 ⟨#[61]⟩ W; rwa [show Lib.hasPrefix s3.data.toList (⟨#[61]⟩ : ByteArray).data.toList = false from by decide +kernel] at this)
    (fun W hW => steps_two g c W ((hW.cell (p := ⟨g, 0, none⟩) (lt_of_cell h0)).trans h0) ((hW.cell (p := ⟨g, 1, none⟩) (lt_of_cell h0)).trans h1) (shaped_bl hsh hW))
    (fun W k t hW ht => by
      have e : t = s3 := by
        match k, ht with
        | 0, ht => exact (Option.some.inj ht).symm
        | 1, ht => exact (Option.some.inj ht).symm
        | 2, ht => exact (Option.some.inj ht).symm
        | k + 3, ht => simp at ht
      subst e
      exact typed_plain s3 (by decide +kernel) 0 _ W)
    (fun _ W k s hW hs => by
      match k, hs with
      | 0, hs => obtain rfl := (Option.some.inj hs).symm; exact step_3 1 (by omega) (by omega) W (shaped_bl hsh hW)
      | 1, hs => obtain rfl := (Option.some.inj hs).symm; exact step_3 2 (by omega) (by omega) W (shaped_bl hsh hW)
      | 2, hs => obtain rfl := (Option.some.inj hs).symm; exact step_3 3 (by omega) (by omega) W (shaped_bl hsh hW)
      | k + 3, hs => simp at hs)
    (fun h => by cases h)
theorem fill_txt (g c : Nat) (w : World) (h0 : w.cell? ⟨g, 0, none⟩ = some (.string q07)) (hsh : w.ShapedOpen Tryz.prog) :
    Calls Tryz.prog 18 #[.slice (some ⟨g, 0, none⟩) 1 c, .int .i64 2, .bool false] w fun e w' => (∃ x cap, e = .returned (.tuple #[.slice (some ⟨x, 0, none⟩) 2 cap, .int .i64 0]) ∧ x < w'.heap.size ∧ SRow w' x [eQ8, eQ9]) ∧ Below w.heap.size w w' :=
  fill_any g 1 c 2 q07 1000000 [eQ8, eQ9] [q07, q07] (by omega) (by omega) rfl rfl (by omega) (by omega) false w h0
    (fun W => by have := Tryz.strings_HasPrefix q07 ⟨#[61]⟩ W; rwa [show Lib.hasPrefix q07.data.toList (⟨#[61]⟩ : ByteArray).data.toList = false from by decide +kernel] at this)
    (fun W hW => steps_one _ c W)
    (fun W k t hW ht => by
      have e : t = q07 := by
        match k, ht with
        | 0, ht => exact (Option.some.inj ht).symm
        | 1, ht => exact (Option.some.inj ht).symm
        | k + 2, ht => simp at ht
      subst e
      exact typed_plain q07 (by decide +kernel) 0 _ W)
    (fun _ W k s hW hs => by
      match k, hs with
      | 0, hs => obtain rfl := (Option.some.inj hs).symm; exact step_q 1000000 1 (by omega) (by omega) W (shaped_bl hsh hW)
      | 1, hs => obtain rfl := (Option.some.inj hs).symm; exact step_q 1000000 2 (by omega) (by omega) W (shaped_bl hsh hW)
      | k + 2, hs => simp at hs)
    (fun h => by cases h)
theorem fill_for (g c : Nat) (w : World) (h0 : w.cell? ⟨g, 0, none⟩ = some (.string eA1)) (hsh : w.ShapedOpen Tryz.prog) :
    Calls Tryz.prog 18 #[.slice (some ⟨g, 0, none⟩) 1 c, .int .i64 1, .bool false] w fun e w' => (∃ x cap, e = .returned (.tuple #[.slice (some ⟨x, 0, none⟩) 1 cap, .int .i64 0]) ∧ x < w'.heap.size ∧ SRow w' x [eA2]) ∧ Below w.heap.size w w' :=
  fill_any g 1 c 1 eA1 1000000 [eA2] [eA2] (by omega) (by omega) rfl rfl (by omega) (by omega) true w h0
    (fun W => by have := Tryz.strings_HasPrefix eA1 ⟨#[61]⟩ W; rwa [show Lib.hasPrefix eA1.data.toList (⟨#[61]⟩ : ByteArray).data.toList = true from by decide +kernel] at this)
    (fun W hW => steps_one _ c W)
    (fun W k t hW ht => by
      match k, ht with
      | 0, ht => obtain rfl := (Option.some.inj ht).symm; exact typed_ref W (shaped_bl hsh hW)
      | k + 1, ht => simp at ht)
    (fun h => by cases h)
    (fun _ => rfl)
end Go.Proofs.YtbdgdhjhgcpidaaGreatDoor
