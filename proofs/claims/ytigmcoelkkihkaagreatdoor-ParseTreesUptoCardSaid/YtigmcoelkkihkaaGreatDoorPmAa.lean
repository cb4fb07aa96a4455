/- Names of cells are read: a1's letters, Column, Parse. The parser: 'name' at cells, ranges and calls. Printed by gen_par.py. -/
import Derived.Test.YtigmcoelkkihkaaGreatDoorPmZ
set_option linter.unusedSimpArgs false
set_option linter.unusedVariables false
namespace Go.Proofs.YtigmcoelkkihkaaGreatDoor
open Go.RowKit Go.Joins

set_option maxRecDepth 100000 in
set_option maxHeartbeats 2000000 in
theorem letters_any (s : ByteArray) (k : Nat) (hs : s.size ≤ 1000) (hk : k ≤ s.size) (hup : ∀ j, j < k → 65 ≤ btN s.data.toList j ∧ btN s.data.toList j ≤ 90) (hstop : k = s.size ∨ ¬ (65 ≤ btN s.data.toList k ∧ btN s.data.toList k ≤ 90)) (w : World) :
    Calls Tryz.prog 127 #[.string s] w fun e w' => e = .returned (.int .i64 k) ∧ w = w' := by
  have HB := Lib.hid (btN_str s)
  have HU := Lib.hid hup
  have HS := Lib.hid hstop
  clear hup hstop
  go_enter Tryz.func127, Tryz.ntmps127
  go_wp2_with fail
  go_loopw [3] (fun a wx => ∃ j : Nat, a = .int .i64 j ∧ j ≤ k ∧ wx = w) (fun a _ => k - (intOf a).toNat)
  case atStart => exact ⟨0, rfl, by omega, rfl⟩
  case round =>
    obtain ⟨j, rfl, hjk, rfl⟩ := hrel
    by_cases hj : j < k
    · have hjs : j < s.size := by omega
      have hji : (j : Int) < (s.size : Int) := by omega
      obtain ⟨u1, u2⟩ := HU.out j hj
      have hb := HB.out j hjs
      have g1 : ¬ ((s[j].toNat : Nat) : Int) < 65 := by rw [hb]; omega
      have g2 : ((s[j].toNat : Nat) : Int) ≤ 90 := by rw [hb]; omega
      have g3 : (65 : Int) ≤ ((s[j].toNat : Nat) : Int) := by rw [hb]; omega
      clear hb u1 u2
      go_wp2_with fail
      go_roundw
      case rel => exact ⟨j + 1, by go_num, by omega, by first | rfl | trivial⟩
      case measure => simp [intOf]; omega
    · obtain rfl : j = k := by omega
      by_cases hjs : j < s.size
      · have hji : (j : Int) < (s.size : Int) := by omega
        have hb := HB.out j hjs
        have hst : ¬ (65 ≤ btN s.data.toList j ∧ btN s.data.toList j ≤ 90) := by
          rcases HS.out with h | h
          · omega
          · exact h
        rw [← hb] at hst
        by_cases h1 : 65 ≤ s[j].toNat
        · have g3 : (65 : Int) ≤ ((s[j].toNat : Nat) : Int) := by omega
          have g2 : ¬ ((s[j].toNat : Nat) : Int) ≤ 90 := by omega
          clear hb hst h1
          go_wp2_with fail
          go_ret
          exact ⟨rfl, rfl⟩
        · have g3 : ¬ (65 : Int) ≤ ((s[j].toNat : Nat) : Int) := by omega
          clear hb hst h1
          go_wp2_with fail
          go_ret
          exact ⟨rfl, rfl⟩
      · have hji : ¬ (j : Int) < (s.size : Int) := by omega
        go_wp2_with fail
        go_ret
        exact ⟨rfl, rfl⟩
/-- What a column's letters come to. -/
def colV (L : Bs) : Nat := L.foldl (fun n c => 26 * n + (c.toNat - 64)) 0
theorem colV_at {L : Bs} {i : Nat} (h : i < L.length) : colV (L.take (i + 1)) = 26 * colV (L.take i) + (btN L i - 64) := by
  unfold colV
  rw [List.take_add_one, List.getElem?_eq_getElem h, List.foldl_append, btN_get h]
  rfl
set_option maxRecDepth 100000 in
set_option maxHeartbeats 2000000 in
theorem column_any (s : ByteArray) (hs1 : 1 ≤ s.size) (hs2 : s.size ≤ 2) (hup : ∀ j, j < s.size → 65 ≤ btN s.data.toList j ∧ btN s.data.toList j ≤ 90) (w : World) :
    Calls Tryz.prog 129 #[.string s] w fun e w' => e = .returned (.int .i64 (colV s.data.toList)) ∧ Below w.heap.size w w' := by
  have HL := Lib.hid (fun W => letters_any s s.size (by omega) (Nat.le_refl _) hup (.inl rfl) W)
  have HU := Lib.hid hup
  have HSZ : Hid (s.data.toList.length = s.size) := (Lib.size_eq s).symm
  have HBC := Lib.hid (fun W => bytes_cell W s)
  have hem : s.toList.isEmpty = false := by
    rw [Lib.toList_data]
    cases hd : s.data.toList with
    | nil => have := HSZ.out; rw [hd] at this; simp at this; omega
    | cons c r => rfl
  have hconv := fun (W : World) => Lib.run_convert_string_bytes (P := Tryz.prog) W 9 84 5 s Tryz.underlying9 Tryz.underlying84 Tryz.underlying5
  have g2 : ¬ (2 : Int) < (s.size : Int) := by omega
  obtain ⟨L, hL⟩ : ∃ L, s.data.toList = L := ⟨_, rfl⟩
  rw [hL] at HU HSZ HBC ⊢
  clear hL hup
  go_enter Tryz.func129, Tryz.ntmps129
  go_wp2_with fail
  refine (HL.out w).mono ?_
  rintro e w1 ⟨rfl, rfl⟩
  go_wp2_with fail
  have hbw := Lib.hid (bytes_below w s)
  have hbc := Lib.hid (HBC.out w)
  generalize Lib.bytesWorld w 5 s = W1 at hbw hbc ⊢
  go_loopg [3, 23] s.size (fun g v3 v23 wr => ∃ i : Nat, i + g = s.size ∧ v23 = .int .i64 i ∧ v3 = .int .i64 (colV (L.take i) : Nat) ∧ ((i = 0 → colV (L.take i) = 0) ∧ (i = 1 → colV (L.take i) ≤ 26)) ∧ wr = W1)
  case atStart => exact ⟨0, by omega, rfl, rfl, ⟨fun _ => rfl, fun h => by omega⟩, rfl⟩
  case round =>
    obtain ⟨i, hig, rfl, rfl, hbd, rfl⟩ := hrel
    by_cases hlt : i < s.size
    · have hli : (i : Int) < (s.size : Int) := by omega
      have hc := hbc.out i hlt
      have HAT := Lib.hid (colV_at (L := L) (i := i) (by rw [HSZ.out]; exact hlt))
      obtain ⟨u1, u2⟩ := HU.out i hlt
      obtain ⟨c, hcc⟩ : ∃ c, btN L i = c := ⟨_, rfl⟩
      rw [hcc] at hc HAT u1 u2
      obtain ⟨n, hn⟩ : ∃ n, colV (L.take i) = n := ⟨_, rfl⟩
      rw [hn] at HAT hbd ⊢
      obtain ⟨x, hx⟩ : ∃ x, c - 65 = x := ⟨_, rfl⟩
      have f0 : (c : Int) - 65 = (x : Int) := by omega
      have hx26 : x ≤ 26 := by omega
      have f1 : IntKind.u8.wrap (x : Int) = (x : Int) := IntWalk.u8_in _ (by omega)
      have f2 : IntKind.i64.wrap (x : Int) = (x : Int) := IntWalk.i64_in _ (by omega)
      have hn2 : n ≤ 1404 := by
        rcases (show i = 0 ∨ i = 1 by omega) with h | h
        · have := hbd.1 h; omega
        · have := hbd.2 h; omega
      have f3 : IntKind.i64.wrap (26 * (n : Int)) = 26 * (n : Int) := IntWalk.i64_in _ (by omega)
      have HE : Hid (colV (L.take (i + 1)) = 26 * n + x + 1) := by unfold Hid; rw [HAT.out]; omega
      have hb2 : (i + 1 = 0 → 26 * n + x + 1 = 0) ∧ (i + 1 = 1 → 26 * n + x + 1 ≤ 26) := ⟨fun h => by omega, fun h => by have := hbd.1 (by omega); omega⟩
      have hb3 : 26 * n + x + 1 ≤ 100000 := by omega
      clear hcc hn HAT hconv hx u1 u2
      go_wp2_with fail
      go_roundg (gk - 1)
      case measure => omega
      case rel => exact ⟨i + 1, by omega, by go_num, by rw [HE.out]; go_num, by rw [HE.out]; exact hb2, by first | rfl | trivial⟩
    · obtain rfl : i = s.size := by omega
      have hli : ¬ (s.size : Int) < (s.size : Int) := by omega
      have HE : Hid (colV (L.take s.size) = colV L) := by unfold Hid; rw [List.take_of_length_le (by rw [HSZ.out]; exact Nat.le_refl _)]
      clear hconv
      go_wp2_with fail
      go_ret
      exact ⟨by rw [← HE.out]; rfl, hbw.out⟩
theorem colV_col (c : Int) (h1 : 1 ≤ c) (h2 : c ≤ 702) : (colV (colS c) : Int) = c ∧ 1 ≤ (colS c).length ∧ ∀ j, j < (colS c).length → 65 ≤ btN (colS c) j ∧ btN (colS c) j ≤ 90 := by
  rcases colS_is c h1 h2 with ⟨x, e, h3, h4, h5⟩ | ⟨x, y, e, h3, h4, h5, h6, h7⟩
  · rw [e]
    refine ⟨?_, by simp, fun j hj => ?_⟩
    · unfold colV
      show ((26 * 0 + ((UInt8.ofNat x).toNat - 64) : Nat) : Int) = c
      rw [letr h3 h4]
      omega
    · obtain rfl : j = 0 := by simpa using hj
      show 65 ≤ (UInt8.ofNat x).toNat ∧ (UInt8.ofNat x).toNat ≤ 90
      rw [letr h3 h4]
      exact ⟨h3, h4⟩
  · rw [e]
    refine ⟨?_, by simp, fun j hj => ?_⟩
    · unfold colV
      show ((26 * (26 * 0 + ((UInt8.ofNat x).toNat - 64)) + ((UInt8.ofNat y).toNat - 64) : Nat) : Int) = c
      rw [letr h3 h4, letr h5 h6]
      omega
    · have : j = 0 ∨ j = 1 := by simp at hj; omega
      rcases this with rfl | rfl
      · show 65 ≤ (UInt8.ofNat x).toNat ∧ (UInt8.ofNat x).toNat ≤ 90
        rw [letr h3 h4]
        exact ⟨h3, h4⟩
      · show 65 ≤ (UInt8.ofNat y).toNat ∧ (UInt8.ofNat y).toNat ≤ 90
        rw [letr h5 h6]
        exact ⟨h5, h6⟩
set_option maxRecDepth 100000 in
set_option maxHeartbeats 4000000 in
theorem aparse_any (c r : Int) (hrt : rtC c r = true) (w : World) : Calls Tryz.prog 115 #[.string ⟨(cellS c r).toArray⟩] w fun e w' => e = .returned (.tuple #[.agg #[.int .i64 c, .int .i64 r], .int .i64 0]) ∧ Below w.heap.size w w' := by
  have hr' := hrt
  unfold rtC at hr'
  simp at hr'
  obtain ⟨n, rfl⟩ : ∃ n : Nat, r = (n : Int) := ⟨r.toNat, by omega⟩
  obtain ⟨v1, v2, v3⟩ := colV_col c (by omega) (by omega)
  obtain ⟨d, q, hd, hd10⟩ := dcL_head n (by omega)
  have hl2 := dcL_len n
  have hl1 := colS_len c
  have HN := Lib.hid (fun W => num_dc n (by omega) (by omega) W)
  have HC := Lib.hid (fun W => column_any ⟨(colS c).toArray⟩ (by rw [Lib.size_eq]; simpa using v2) (by rw [Lib.size_eq]; simpa using hl1) (fun j hj => by rw [Lib.size_eq] at hj; simpa using v3 j (by simpa using hj)) W)
  rw [show (⟨(colS c).toArray⟩ : ByteArray).data.toList = colS c from by simp, v1] at HC
  have HR := Lib.hid (fun W => cright_any c (n : Int) W)
  rw [hrt] at HR
  rw [show cellS c (n : Int) = colS c ++ dcL n from by unfold cellS; rw [hrt]; rfl]
  obtain ⟨s, hs⟩ : ∃ s : ByteArray, (⟨(colS c ++ dcL n).toArray⟩ : ByteArray) = s := ⟨_, rfl⟩
  obtain ⟨a, ha⟩ : ∃ a, (colS c).length = a := ⟨_, rfl⟩
  have hdat : s.data.toList = colS c ++ dcL n := by rw [← hs]
  have hsz : s.size = a + (dcL n).length := by rw [Lib.size_eq, hdat, List.length_append, ha]
  have he1 : s.extract a s.size = ⟨(dcL n).toArray⟩ := by
    apply ByteArray.ext
    apply Array.toList_inj.1
    rw [Lib.extract_data, hdat, ← ha, List.drop_append_of_le_length (Nat.le_refl _), List.drop_length, List.nil_append, List.take_of_length_le (by omega)]
  have he2 : s.extract 0 a = ⟨(colS c).toArray⟩ := by
    apply ByteArray.ext
    apply Array.toList_inj.1
    rw [Lib.extract_data, hdat, List.drop_zero, ← ha, Nat.sub_zero, List.take_append_of_le_length (Nat.le_refl _), List.take_length]
  have HL := Lib.hid (fun W => letters_any s a (by omega) (by omega) (fun j hj => by
    have h := v3 j (by omega)
    unfold btN at h ⊢
    rw [hdat]
    rw [List.getD_eq_getElem?_getD] at h ⊢
    rw [List.getElem?_append_left (by omega)]
    exact h) (.inr (by
    unfold btN
    rw [hdat, List.getD_eq_getElem?_getD, List.getElem?_append_right (by omega), ← ha, Nat.sub_self, hd]
    show ¬ (65 ≤ (chr d).toNat ∧ (chr d).toNat ≤ 90)
    rw [chr_toNat hd10]
    omega)) W)
  rw [hs]
  have has : a ≤ s.size := by omega
  have hs100 : s.size ≤ 100 := by omega
  generalize dcL n = D at HN he1
  generalize colS c = E at HC he2
  clear hs hdat hsz hd hl1 hl2 v1 v2 v3 ha hrt
  have hA0 : Hid (BlkC (w.alloc (.cells #[.int .i64 0, .int .i64 0] 31)) w.heap.size #[.int .i64 0, .int .i64 0] 31) := heap_alloc_new w _
  have hAB : Hid (Below w.heap.size w (w.alloc (.cells #[.int .i64 0, .int .i64 0] 31))) := by unfold Hid; (repeat' (first | (with_reducible exact Below.refl _ _) | (with_reducible assumption) | (with_reducible refine Below.alloc ?_ ?_ _) | (with_reducible refine bel_drewN ?_ _) | (with_reducible refine Below.drew ?_) | (with_reducible refine Below.setCell ?_ ?_ _) | (with_reducible refine bel_call ‹_› ?_ ?_) | go_size))
  go_enter Tryz.func115, Tryz.ntmps115
  go_upto_region 1 with fail
  generalize w.alloc (.cells #[.int .i64 0, .int .i64 0] 31) = w0 at hA0 hAB ⊢
  go_wp2_with fail
  refine (HL.out _).mono ?_
  rintro e w1 ⟨rfl, rfl⟩
  go_wp2_with fail
  refine (HN.out _).mono ?_
  rintro e w2 ⟨rfl, hb2⟩
  have hA2 := Lib.hid (hA0.out.below hb2)
  have hB2 : Hid (Below w.heap.size w w2) := bel_call hb2 hAB.out hAB.out.size
  clear hb2 hA0 hAB
  go_wp2_with fail
  refine (HC.out _).mono ?_
  rintro e w3 ⟨rfl, hb3⟩
  have hA3 := Lib.hid (hA2.out.below hb3)
  have hB3 : Hid (Below w.heap.size w w3) := bel_call hb3 hB2.out hB2.out.size
  have hs3 : w.heap.size < w3.heap.size := lt_some hA3.out
  clear hb3 hA2 hB2
  go_upto_region 4 with fail
  have hT4 : Hid (BlkC (w3.alloc (.cells #[.int .i64 c, .int .i64 n] 31)) w3.heap.size #[.int .i64 c, .int .i64 n] 31) := heap_alloc_new w3 _
  have hA4 : Hid (BlkC (w3.alloc (.cells #[.int .i64 c, .int .i64 n] 31)) w.heap.size #[.int .i64 0, .int .i64 0] 31) := hA3.out.alloc _
  have hB4 : Hid (Below w.heap.size w (w3.alloc (.cells #[.int .i64 c, .int .i64 n] 31))) := hB3.out.alloc (by omega) _
  clear hA3 hB3
  generalize w3.alloc (.cells #[.int .i64 c, .int .i64 n] 31) = w4 at hT4 hA4 hB4 ⊢
  generalize w3.heap.size = G at hT4 hs3 ⊢
  have c0 : w4.cell? ⟨G, 0, none⟩ = some (.int .i64 c) := hT4.out.cell 0 _ rfl
  have c1 : w4.cell? ⟨G, 1, none⟩ = some (.int .i64 n) := hT4.out.cell 1 _ rfl
  go_wp2_with fail
  refine (HR.out _).mono ?_
  rintro e w5 ⟨rfl, hb5⟩
  have hA5 := Lib.hid (hA4.out.below hb5)
  have hT5 := Lib.hid (hT4.out.below hb5)
  have hB5 : Hid (Below w.heap.size w w5) := bel_call hb5 hB4.out hB4.out.size
  clear hb5 hA4 hT4 hB4 c0 c1
  go_upto_region 6 with fail
  refine wp_region_lit ?_
  refine wpList_load_mid (by rfl) _ _ (by rfl) G 0 (by rfl) [.int .i64 c, .int .i64 n] _ (block_range hT5.out [.int .i64 c, .int .i64 n] rfl) Tryz.underlying31 rfl (by kernel_rfl) ?_
  go_simp
  refine wpList_store_mid (by rfl) _ _ _ (by rfl) w.heap.size 0 #[.int .i64 c, .int .i64 n] (by rfl) (by rfl) (block_there hA5.out 2 (Nat.le_refl _)) (by kernel_rfl) (by simp [Value.oneCell']) ?_
  have hs8 : Hid (BlkC (w5.setCells w.heap.size 0 #[.int .i64 c, .int .i64 n].toList) w.heap.size #[.int .i64 c, .int .i64 n] 31) := store_block hA5.out _ rfl
  have hb8 : Hid (Below w.heap.size w (w5.setCells w.heap.size 0 #[.int .i64 c, .int .i64 n].toList)) := store_below (Nat.le_refl _) _ _ _ hB5.out
  generalize w5.setCells w.heap.size 0 #[.int .i64 c, .int .i64 n].toList = w9 at hs8 hb8 ⊢
  go_simp
  go_wp2_with fail
  try simp only [Exit.inBlock, Exit.then]
  exact bodyPost_ret (results_row_tmp rfl _ _ w.heap.size 31 #[.int .i64 c, .int .i64 n] (0, 0) _ rfl hs8.out Tryz.underlying31 rfl (by kernel_rfl) _ rfl) rfl ⟨rfl, hb8.out⟩
end Go.Proofs.YtigmcoelkkihkaaGreatDoor
namespace Go.Proofs.YtigmcoelkkihkaaGreatDoor
open Go.RowKit Go.Joins

theorem blk_two {w : World} {b : Nat} {u0 u1 v0 v1 : Value} {T : TypeId} (h : BlkC w b #[u0, u1] T) : BlkC ((w.setCell ⟨b, 0, none⟩ v0).setCell ⟨b, 1, none⟩ v1) b #[v0, v1] T := block_setCell (block_setCell h v0) v1
theorem nmS_eq (k : Int) : nmS k = cellS (cC k) (cR k) := rfl
theorem aparse_nm (k : Int) (h : OkC k) (w : World) : Calls Tryz.prog 115 #[.string ⟨(nmS k).toArray⟩] w fun e w' => e = .returned (.tuple #[.agg #[.int .i64 (cC k), .int .i64 (cR k)], .int .i64 0]) ∧ Below w.heap.size w w' := aparse_any (cC k) (cR k) h w
set_option maxRecDepth 100000 in
set_option maxHeartbeats 8000000 in
theorem nm_ref (f : Int) (hf : OkC f) : NmC (Nd.mk 3 0 [] f 0 []) (nmS f) [] := by
  intro ws w b q cT i Ts rest hst hat hrs
  have hat' : At Ts i rest := hat
  obtain ⟨hb1, hb2, _⟩ := isB_rest hat' hrs
  have hA0 : Hid (BlkC (w.alloc (.cells (Cel.ndA nodeZ none 0 0) Cel.tPn)) w.heap.size (Cel.ndA nodeZ none 0 0) Cel.tPn) := heap_alloc_new w _
  have hAB : Below w.heap.size w (w.alloc (.cells (Cel.ndA nodeZ none 0 0) Cel.tPn)) := by (repeat' (first | (with_reducible exact Below.refl _ _) | (with_reducible assumption) | (with_reducible refine Below.alloc ?_ ?_ _) | (with_reducible refine bel_drewN ?_ _) | (with_reducible refine Below.drew ?_) | (with_reducible refine Below.setCell ?_ ?_ _) | (with_reducible refine bel_call ‹_› ?_ ?_) | go_size))
  have HS0 := Lib.hid (hst.below hAB)
  have HO0 := Lib.hid (Off.of_below (b := b) hAB)
  have hbw := hst.lt
  have HSW := Lib.hid hst
  have HIS1 := Lib.hid (fun W (h : PSt ws W b q Ts cT i) => is_any b q cT i Ts [40] W h.psr h.tks h.len)
  have HIS2 := Lib.hid (fun W (h : PSt ws W b q Ts cT i) => is_any b q cT i Ts [58] W h.psr h.tks h.len)
  rw [hb1] at HIS1
  rw [hb2] at HIS2
  have HPA := Lib.hid (fun W => aparse_nm f hf W)
  generalize nmS f = s at HPA ⊢
  clear hat hat' hrs hb1 hb2 hf
  obtain ⟨nT, hnT⟩ : ∃ n, Ts.length = n := ⟨_, rfl⟩
  have HNT := Lib.hid hnT
  rw [hnT] at HIS1 HIS2 ⊢
  clear hnT
  clear hst hAB
  go_enter Tryz.func95, Tryz.ntmps95
  go_upto_region 1 with fail
  have e0 : w.alloc (.cells #[.int .i64 0, .int .i64 0, .string ⟨#[]⟩, .int .i64 0, .int .i64 0, .int .i64 0, .int .i64 0, .slice none 0 0] Cel.tPn) = w.alloc (.cells (Cel.ndA nodeZ none 0 0) Cel.tPn) := rfl
  rw [e0]
  clear e0
  generalize w.alloc (.cells (Cel.ndA nodeZ none 0 0) Cel.tPn) = w0 at hA0 HS0 HO0 ⊢
  go_wp2_with fail
  refine (HIS1.out w0 HS0.out).mono ?_
  rintro e w1 ⟨rfl, hp, ho⟩
  rw [if_neg (by simp)] at hp
  have hA1 := Lib.hid (ho.bc (by omega) hA0.out)
  have HO1 := Lib.hid (HO0.out.trans ho)
  have HP1 := Lib.hid hp
  have HS1 := Lib.hid (HSW.out.off HO1.out (by rw [HNT.out]; exact hp))
  have hs1 := ho.size
  clear hp ho hA0 HO0 HS0 
  go_wp2_with fail
  refine (HPA.out w1).mono ?_
  rintro e wy ⟨rfl, hb⟩
  have hAy := Lib.hid (hA1.out.below hb)
  have HOy := Lib.hid (HO1.out.call hb)
  have HPy := Lib.hid (HP1.out.below hb)
  have hsy : w.heap.size < wy.heap.size := lt_some hAy.out
  clear hb hA1 HO1 HP1 HS1
  go_upto_region 4 with fail
  have HG2 : Hid (BlkC (wy.alloc (.cells #[.int .i64 (cC f), .int .i64 (cR f)] 31)) wy.heap.size #[.int .i64 (cC f), .int .i64 (cR f)] 31) := heap_alloc_new wy _
  have hb : Below wy.heap.size wy (wy.alloc (.cells #[.int .i64 (cC f), .int .i64 (cR f)] 31)) := (Below.refl _ _).alloc (Nat.le_refl _) _
  have hA2 := Lib.hid (hAy.out.below hb)
  have HO2 := Lib.hid (HOy.out.call hb)
  have HP2 := Lib.hid (HPy.out.below hb)
  have HS2 := Lib.hid (HSW.out.off HO2.out (by rw [HNT.out]; exact HP2.out))
  clear hb hAy HOy HPy
  generalize wy.alloc (.cells #[.int .i64 (cC f), .int .i64 (cR f)] 31) = w2 at HG2 hA2 HO2 HP2 HS2 ⊢
  generalize wy.heap.size = G at HG2 hsy ⊢
  go_wp2_with fail
  refine (HIS2.out w2 HS2.out).mono ?_
  rintro e w3 ⟨rfl, hp, ho⟩
  rw [if_neg (by simp)] at hp
  have hA3 := Lib.hid (ho.bc (by omega) hA2.out)
  have HO3 := Lib.hid (HO2.out.trans ho)
  have HP3 := Lib.hid hp
  have HS3 := Lib.hid (HSW.out.off HO3.out (by rw [HNT.out]; exact hp))
  have hs3 := ho.size
  have HG3 := Lib.hid (ho.bc (by omega) HG2.out)
  clear hp ho hA2 HO2 HS2 HG2
  go_upto_region 7 with fail
  refine wp_region_lit ?_
  refine wpList_load_mid (by rfl) _ _ (by rfl) G 0 (by rfl) [.int .i64 (cC f), .int .i64 (cR f)] _ (block_range HG3.out [.int .i64 (cC f), .int .i64 (cR f)] rfl) Tryz.underlying31 rfl (by kernel_rfl) ?_
  go_simp
  refine wpList_plain rfl fun K hK => ?_
  go_simp
  refine hK _ _ ?_
  clear hK K
  refine wpList_store_mid (by rfl) _ _ _ (by rfl) w.heap.size 0 #[.int .i64 3, .int .i64 0, .string ⟨#[]⟩, .int .i64 (cC f), .int .i64 (cR f), .int .i64 0, .int .i64 0, .slice none 0 0] (by rfl) (by rfl) (block_there hA3.out 8 (Nat.le_refl _)) (by kernel_rfl) (by simp [Value.oneCell']) ?_
  obtain ⟨hs8, hf8⟩ := res_store (n := (Nd.mk 3 0 [] f 0 [])) (p := none) (l := 0) (cp := 0) (k := 0) hA3.out rfl HP3.out HO3.out hbw rfl (fun d _ => rdp_leaf _ _ rfl _ d)
  have HS8 := Lib.hid hs8
  have HF8 := Lib.hid hf8
  clear hs8 hf8
  have e8 : w3.setCells w.heap.size 0 (#[.int .i64 3, .int .i64 0, .string ⟨#[]⟩, .int .i64 (cC f), .int .i64 (cR f), .int .i64 0, .int .i64 0, .slice none 0 0]).toList = w3.setCells w.heap.size 0 (Cel.ndA (Nd.mk 3 0 [] f 0 []) none 0 0).toList := rfl
  rw [e8]
  clear e8
  generalize w3.setCells w.heap.size 0 (Cel.ndA (Nd.mk 3 0 [] f 0 []) none 0 0).toList = w9 at HS8 HF8 ⊢
  go_simp
  iterate 3 (first | go_values | go_skip | go_guarded | go_step | go_upon)
  apply wp_ret
  try simp only [Exit.inBlock, Exit.then]
  exact bodyPost_ret (results_cell_row rfl _ _ w.heap.size Cel.tPn (Cel.ndA (Nd.mk 3 0 [] f 0 []) none 0 0) (0, 0) _ rfl HS8.out Tryz.underlying34 rfl (by kernel_rfl)) rfl HF8.out
set_option maxRecDepth 100000 in
set_option maxHeartbeats 8000000 in
theorem nm_rng (f o : Int) (hf : OkC f) (ho : OkC o) : NmC (Nd.mk 4 0 [] f o []) (nmS f) [(4, [58]), (3, nmS o)] := by
  intro ws w b q cT i Ts rest hst hat hrs
  have hat' : At Ts i ((4, [58]) :: (3, nmS o) :: rest) := hat
  obtain ⟨_, _, _, hat1⟩ := hat'.get
  have hile := hat1.le
  obtain ⟨⟨kx, tx, ax⟩, hy1, hy2, _⟩ := hat1.get
  obtain ⟨rfl, rfl⟩ : 3 = kx ∧ nmS o = tx := by
    have e : (kx, tx) = ((3 : Int), (nmS o : Bs)) := hy2
    exact ⟨(congrArg Prod.fst e).symm, (congrArg Prod.snd e).symm⟩
  obtain ⟨g, rfl, hgb, _, _, _, _⟩ := hst.tks.at hy1
  have hle := hst.len
  have HTK := Lib.hid (fun W (h : TkR W b (some ⟨g, 0, none⟩) Ts) => h.at hy1)
  have hb1 : isB Ts i [40] = false := by rw [isB_head hat']; rfl
  have hb2 : isB Ts i [58] = true := by rw [isB_head hat']; rfl
  have hA0 : Hid (BlkC (w.alloc (.cells (Cel.ndA nodeZ none 0 0) Cel.tPn)) w.heap.size (Cel.ndA nodeZ none 0 0) Cel.tPn) := heap_alloc_new w _
  have hAB : Below w.heap.size w (w.alloc (.cells (Cel.ndA nodeZ none 0 0) Cel.tPn)) := by (repeat' (first | (with_reducible exact Below.refl _ _) | (with_reducible assumption) | (with_reducible refine Below.alloc ?_ ?_ _) | (with_reducible refine bel_drewN ?_ _) | (with_reducible refine Below.drew ?_) | (with_reducible refine Below.setCell ?_ ?_ _) | (with_reducible refine bel_call ‹_› ?_ ?_) | go_size))
  have HS0 := Lib.hid (hst.below hAB)
  have HO0 := Lib.hid (Off.of_below (b := b) hAB)
  have hbw := hst.lt
  have HSW := Lib.hid hst
  have HIS1 := Lib.hid (fun W (h : PSt ws W b (some ⟨g, 0, none⟩) Ts cT i) => is_any b (some ⟨g, 0, none⟩) cT i Ts [40] W h.psr h.tks h.len)
  have HIS2 := Lib.hid (fun W (h : PSt ws W b (some ⟨g, 0, none⟩) Ts cT i) => is_any b (some ⟨g, 0, none⟩) cT i Ts [58] W h.psr h.tks h.len)
  rw [hb1] at HIS1
  rw [hb2] at HIS2
  have HPA := Lib.hid (fun W => aparse_nm f hf W)
  have HPB := Lib.hid (fun W => aparse_nm o ho W)
  generalize nmS f = s at HPA ⊢
  obtain ⟨so, hso⟩ : ∃ so, nmS o = so := ⟨_, rfl⟩
  rw [hso] at HTK HPB
  have HKK : Hid ([((4 : Int), ([58] : Bs)), (3, nmS o)].length = 2) := rfl
  generalize [((4 : Int), ([58] : Bs)), (3, nmS o)].length = kk at HKK ⊢
  obtain ⟨j, hj⟩ : ∃ j, i + 1 = j := ⟨_, rfl⟩
  rw [hj] at HTK hile
  have HJ := Lib.hid hj
  clear hat hat' hrs hb1 hb2 hf ho hat1 hy1 hy2 hso hj
  obtain ⟨nT, hnT⟩ : ∃ n, Ts.length = n := ⟨_, rfl⟩
  have HNT := Lib.hid hnT
  rw [hnT] at HIS1 HIS2 hile hle ⊢
  clear hnT
  clear hst hAB
  go_enter Tryz.func95, Tryz.ntmps95
  go_upto_region 1 with fail
  have e0 : w.alloc (.cells #[.int .i64 0, .int .i64 0, .string ⟨#[]⟩, .int .i64 0, .int .i64 0, .int .i64 0, .int .i64 0, .slice none 0 0] Cel.tPn) = w.alloc (.cells (Cel.ndA nodeZ none 0 0) Cel.tPn) := rfl
  rw [e0]
  clear e0
  generalize w.alloc (.cells (Cel.ndA nodeZ none 0 0) Cel.tPn) = w0 at hA0 HS0 HO0 ⊢
  go_wp2_with fail
  refine (HIS1.out w0 HS0.out).mono ?_
  rintro e w1 ⟨rfl, hp, ho⟩
  rw [if_neg (by simp)] at hp
  have hA1 := Lib.hid (ho.bc (by omega) hA0.out)
  have HO1 := Lib.hid (HO0.out.trans ho)
  have HP1 := Lib.hid hp
  have HS1 := Lib.hid (HSW.out.off HO1.out (by rw [HNT.out]; exact hp))
  have hs1 := ho.size
  clear hp ho hA0 HO0 HS0 
  go_wp2_with fail
  refine (HPA.out w1).mono ?_
  rintro e wy ⟨rfl, hb⟩
  have hAy := Lib.hid (hA1.out.below hb)
  have HOy := Lib.hid (HO1.out.call hb)
  have HPy := Lib.hid (HP1.out.below hb)
  have hsy : w.heap.size < wy.heap.size := lt_some hAy.out
  clear hb hA1 HO1 HP1 HS1
  go_upto_region 4 with fail
  have HG2 : Hid (BlkC (wy.alloc (.cells #[.int .i64 (cC f), .int .i64 (cR f)] 31)) wy.heap.size #[.int .i64 (cC f), .int .i64 (cR f)] 31) := heap_alloc_new wy _
  have hb : Below wy.heap.size wy (wy.alloc (.cells #[.int .i64 (cC f), .int .i64 (cR f)] 31)) := (Below.refl _ _).alloc (Nat.le_refl _) _
  have hA2 := Lib.hid (hAy.out.below hb)
  have HO2 := Lib.hid (HOy.out.call hb)
  have HP2 := Lib.hid (HPy.out.below hb)
  have HS2 := Lib.hid (HSW.out.off HO2.out (by rw [HNT.out]; exact HP2.out))
  clear hb hAy HOy HPy
  generalize wy.alloc (.cells #[.int .i64 (cC f), .int .i64 (cR f)] 31) = w2 at HG2 hA2 HO2 HP2 HS2 ⊢
  generalize wy.heap.size = G at HG2 hsy ⊢
  go_wp2_with fail
  refine (HIS2.out w2 HS2.out).mono ?_
  rintro e w3 ⟨rfl, hp, ho⟩
  rw [if_pos rfl] at hp
  have hA3 := Lib.hid (ho.bc (by omega) hA2.out)
  have HO3 := Lib.hid (HO2.out.trans ho)
  have HP3 := Lib.hid hp
  have HS3 := Lib.hid (HSW.out.off HO3.out (by rw [HNT.out]; exact hp))
  have hs3 := ho.size
  have HG3 := Lib.hid (ho.bc (by omega) HG2.out)
  clear hp ho hA2 HO2 HS2 HG2
  have HP3j : Hid (Psr w3 b (some ⟨g, 0, none⟩) nT cT j) := by unfold Hid; rw [← HJ.out]; exact HP3.out
  obtain ⟨p0, p1, p2, _⟩ := HP3j.out.cells
  obtain ⟨g', hg', _, _, k0, k1, k2⟩ := HTK.out w3 HS3.out.tks
  cases hg'
  try simp only at k0 k1 k2
  have hin : (j : Int) < (nT : Int) := by omega
  have hin2 : ¬ nT ≤ j := by omega
  have r0 := cell_regrown p0
  have r1 := cell_regrown p1
  have r2 := cell_regrown k0
  have hBR : ∀ dd os, Below w3.heap.size w3 (Go.Sort.grow (redrawn w3 dd) os) := fun dd os => below_regrown w3 dd os
  clear HP3
  go_upto_region 8 with fail
  refine wp_region_quiet_below (by kernel_rfl) (by kernel_rfl) ?_
  repeat (go_big_quiet_step (fail))
  refine wpQuiet_nil ?_
  intro _ hw'
  obtain ⟨⟨dz, osz⟩, hw''⟩ := hw'
  subst hw''
  have hB4 := hBR dz osz
  have HP4 := Lib.hid (HP3j.out.below hB4)
  have hA4 := Lib.hid (hA3.out.below hB4)
  have HG4 := Lib.hid (HG3.out.below hB4)
  have HO4 := Lib.hid (HO3.out.call hB4)
  have HT4 := Lib.hid (HS3.out.tks.off (Off.of_below hB4))
  clear r0 r1 r2 hBR p0 p1 p2 k0 k1 k2 HP3j hA3 HG3 HO3 HS3
  have hz4 := hB4.size
  clear hB4
  generalize Go.Sort.grow (redrawn w3 dz) osz = w4 at HP4 hA4 HG4 HO4 HT4 hz4 ⊢
  obtain ⟨p0, p1, p2, pf⟩ := HP4.out.cells
  obtain ⟨g', hg', _, hgl, k0, k1, k2⟩ := HTK.out w4 HT4.out
  cases hg'
  try simp only at k0 k1 k2
  have hbl : b < w4.heap.size := lt_some HP4.out
  go_upto_region 10 with fail
  go_cut [6, 7] (fun v6 v7 wx => v6 = .int .i64 0 ∧ ∃ G2, v7 = .pointer (some ⟨G2, 0, none⟩) ∧ w4.heap.size ≤ G2 ∧ BlkC wx G2 #[.int .i64 (cC o), .int .i64 (cR o)] 31 ∧ Below w4.heap.size w4 wx)
  case first =>
    go_region_with (go_at_call 115; refine (HPB.out _).mono ?_; rintro e wz ⟨rfl, hbz⟩; obtain ⟨hcz, hfz, hzz⟩ := bcell hbz (by first | (simp only [World.size_alloc, World.size_setCell, World.size_drew]; rfl) | rfl))
    all_goals go_wp2_with fail
    all_goals go_meet
    all_goals (refine ⟨rfl, _, rfl, ?_, ?_, ?_⟩)
    all_goals first
      | ((repeat' (first | (with_reducible exact Below.refl _ _) | (with_reducible assumption) | (with_reducible refine Below.alloc ?_ ?_ _) | (with_reducible refine bel_drewN ?_ _) | (with_reducible refine Below.drew ?_) | (with_reducible refine Below.setCell ?_ ?_ _) | (with_reducible refine bel_call ‹_› ?_ ?_) | go_size)); done)
      | omega
      | exact heap_alloc_new _ _
      | exact blk_two ((hbz.block _ (lt_some (heap_alloc_new w4 _))).trans (heap_alloc_new w4 _))
  case rest =>
    obtain ⟨hv6, G2, hv7, hG2, hT5, hB5⟩ := hcut
    subst hv6
    subst hv7
    have HT5 := Lib.hid hT5
    have HP5 := Lib.hid (HP4.out.below hB5)
    have hA5 := Lib.hid (hA4.out.below hB5)
    have HG5 := Lib.hid (HG4.out.below hB5)
    have HO5 := Lib.hid (HO4.out.call hB5)
    have hG2b : G2 ≠ b := by omega
    have hw4 : w.heap.size < w4.heap.size := lt_some hA4.out
    clear hT5 hB5 HP4 hA4 HG4 HO4 HT4 p0 p1 p2 pf k0 k1 k2 HPB HPA HTK
    obtain ⟨_, p1, _, pf⟩ := HP5.out.cells
    have f1 : IntKind.i64.wrap ((j : Int) + 1) = (j : Int) + 1 := IntWalk.i64_in _ (by omega)
    go_upto_region 12 with fail
    have HP6 : Hid (Psr (wc.setCell ⟨b, 1, none⟩ (.int .i64 ((j : Int) + 1))) b (some ⟨g, 0, none⟩) nT cT (i + kk)) := HP5.out.setz ((j : Int) + 1) (i + kk) (by have := HJ.out; have := HKK.out; omega)
    have HO6 := Lib.hid (HO5.out.set 1 (.int .i64 ((j : Int) + 1)))
    have HT6 : Hid (BlkC (wc.setCell ⟨b, 1, none⟩ (.int .i64 ((j : Int) + 1))) G2 #[.int .i64 (cC o), .int .i64 (cR o)] 31) := (heap_setCell_other _ _ _ _ hG2b).trans HT5.out
    have HG6 : Hid (BlkC (wc.setCell ⟨b, 1, none⟩ (.int .i64 ((j : Int) + 1))) G #[.int .i64 (cC f), .int .i64 (cR f)] 31) := (heap_setCell_other _ _ _ _ (show G ≠ b by omega)).trans HG5.out
    have hA6 : Hid (BlkC (wc.setCell ⟨b, 1, none⟩ (.int .i64 ((j : Int) + 1))) w.heap.size (Cel.ndA nodeZ none 0 0) Cel.tPn) := (heap_setCell_other _ _ _ _ (show w.heap.size ≠ b by omega)).trans hA5.out
    clear HP5 HO5 HT5 HG5 hA5 p1 pf f1
    generalize wc.setCell ⟨b, 1, none⟩ (.int .i64 ((j : Int) + 1)) = w6 at HP6 HO6 HT6 HG6 hA6 ⊢
    go_upto_region 14 with fail
    refine wp_region_lit ?_
    refine wpList_load_mid (by rfl) _ _ (by rfl) G 0 (by rfl) [.int .i64 (cC f), .int .i64 (cR f)] _ (block_range HG6.out [.int .i64 (cC f), .int .i64 (cR f)] rfl) Tryz.underlying31 rfl (by kernel_rfl) ?_
    go_simp
    refine wpList_load_mid (by rfl) _ _ (by rfl) G2 0 (by rfl) [.int .i64 (cC o), .int .i64 (cR o)] _ (block_range HT6.out [.int .i64 (cC o), .int .i64 (cR o)] rfl) Tryz.underlying31 rfl (by kernel_rfl) ?_
    go_simp
    refine wpList_plain rfl fun K hK => ?_
    go_simp
    refine hK _ _ ?_
    clear hK K
    refine wpList_store_mid (by rfl) _ _ _ (by rfl) w.heap.size 0 #[.int .i64 4, .int .i64 0, .string ⟨#[]⟩, .int .i64 (cC f), .int .i64 (cR f), .int .i64 (cC o), .int .i64 (cR o), .slice none 0 0] (by rfl) (by rfl) (block_there hA6.out 8 (Nat.le_refl _)) (by kernel_rfl) (by simp [Value.oneCell']) ?_
    obtain ⟨hs8, hf8⟩ := res_store (n := (Nd.mk 4 0 [] f o [])) (p := none) (l := 0) (cp := 0) hA6.out rfl HP6.out HO6.out hbw rfl (fun d _ => rdp_leaf _ _ rfl _ d)
    have HS8 := Lib.hid hs8
    have HF8 := Lib.hid hf8
    clear hs8 hf8
    have e8 : w6.setCells w.heap.size 0 (#[.int .i64 4, .int .i64 0, .string ⟨#[]⟩, .int .i64 (cC f), .int .i64 (cR f), .int .i64 (cC o), .int .i64 (cR o), .slice none 0 0]).toList = w6.setCells w.heap.size 0 (Cel.ndA (Nd.mk 4 0 [] f o []) none 0 0).toList := rfl
    rw [e8]
    clear e8
    generalize w6.setCells w.heap.size 0 (Cel.ndA (Nd.mk 4 0 [] f o []) none 0 0).toList = w9 at HS8 HF8 ⊢
    go_simp
    iterate 3 (first | go_values | go_skip | go_guarded | go_step | go_upon)
    apply wp_ret
    try simp only [Exit.inBlock, Exit.then]
    exact bodyPost_ret (results_cell_row rfl _ _ w.heap.size Cel.tPn (Cel.ndA (Nd.mk 4 0 [] f o []) none 0 0) (0, 0) _ rfl HS8.out Tryz.underlying34 rfl (by kernel_rfl)) rfl HF8.out
end Go.Proofs.YtigmcoelkkihkaaGreatDoor
