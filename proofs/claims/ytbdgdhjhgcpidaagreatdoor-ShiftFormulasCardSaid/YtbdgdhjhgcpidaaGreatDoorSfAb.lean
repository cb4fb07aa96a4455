/- Move.Formula: a tree moved. Printed by gen_shf.py. Shift: the document's Leaves: their kinds. Shift: the law's example, first part: Repeat once, wide, numbered at one text. Shift: the law's example, second part: step, steps, Typed at texts that are no formulas. Shift: the law's example, third part: Typed at a formula. Printed by gen_shk.py. -/
import Derived.Test.YtbdgdhjhgcpidaaGreatDoorSfAa
import Derived.Test.YtbdgdhjhgcpidaaGreatDoorSfW
import Derived.Test.YtbdgdhjhgcpidaaGreatDoorSfP
import Derived.Laws.AppendOwnNone
import Derived.Test.YtbdgdhjhgcpidaaGreatDoorSfU
import Derived.Test.YtbdgdhjhgcpidaaGreatDoorSfI
import Derived.Test.YtbdgdhjhgcpidaaGreatDoorSfAc
import Derived.Test.YtbdgdhjhgcpidaaGreatDoorSfAe
import Derived.Test.YtbdgdhjhgcpidaaGreatDoorSfAg
import Derived.Test.YtbdgdhjhgcpidaaGreatDoorSfO
set_option linter.unusedSimpArgs false
set_option linter.unusedVariables false
namespace Go.Proofs.YtbdgdhjhgcpidaaGreatDoor
open Go.RowKit Go.Joins
set_option maxRecDepth 100000 in
set_option maxHeartbeats 16000000 in
theorem mform_any (cols rows : Int) (d : Nat) (n : Nd) (p : Option Addr) (len cap : Nat) (w : World) (hrd : Cel.RdT w w.heap.size d n p len) (hok : Fm n) : Calls Tryz.prog 15 #[.agg #[.int .i64 cols, .int .i64 rows], .agg (Cel.ndA n p len cap)] w fun e w' => (∃ p' len' cap', e = .returned (.agg (Cel.ndA (mvN cols rows n) p' len' cap')) ∧ Cel.RdP w' (fun b => w.heap.size ≤ b ∧ b < w'.heap.size) d (mvN cols rows n) p' len') ∧ Below w.heap.size w w' := by
  have HMP := Lib.hid (fun W (hW : Below w.heap.size w W) => mp_any cols rows d n p len cap W ((hrd.below hW).mono hW.size) hok)
  have hh := Lib.hid (three_hp w (.cells #[.int .i64 cols, .int .i64 rows] 25) (.cells (Cel.ndA n p len cap) Cel.tPn) (.cells (Cel.ndA nodeZ none 0 0) Cel.tPn))
  have hAB : Hid (Below w.heap.size w (((w.alloc (.cells #[.int .i64 cols, .int .i64 rows] 25)).alloc (.cells (Cel.ndA n p len cap) Cel.tPn)).alloc (.cells (Cel.ndA nodeZ none 0 0) Cel.tPn))) := three_bl _ _ _
  rw [Cel.ndA_eq]
  clear hrd hok
  go_enter Tryz.func15, Tryz.ntmps15
  go_upto_region 1 with fail
  have e0 : ((w.alloc (.cells #[.int .i64 cols, .int .i64 rows] 25)).alloc (.cells #[.int .i64 n.kind, .int .i64 n.num, .string ⟨n.text.toArray⟩, .int .i64 (cC n.frm), .int .i64 (cR n.frm), .int .i64 (cC n.tor), .int .i64 (cR n.tor), .slice p len cap] Cel.tPn)).alloc (.cells #[.int .i64 0, .int .i64 0, .string ⟨#[]⟩, .int .i64 0, .int .i64 0, .int .i64 0, .int .i64 0, .slice none 0 0] Cel.tPn) = ((w.alloc (.cells #[.int .i64 cols, .int .i64 rows] 25)).alloc (.cells (Cel.ndA n p len cap) Cel.tPn)).alloc (.cells (Cel.ndA nodeZ none 0 0) Cel.tPn) := rfl
  rw [e0]
  clear e0
  generalize ((w.alloc (.cells #[.int .i64 cols, .int .i64 rows] 25)).alloc (.cells (Cel.ndA n p len cap) Cel.tPn)).alloc (.cells (Cel.ndA nodeZ none 0 0) Cel.tPn) = w0 at hh hAB ⊢
  have hA0 : Hid (BlkC w0 w.heap.size #[.int .i64 cols, .int .i64 rows] 25) := hh.out.1
  have hA1 : Hid (Cel.NdB Cel.tPn w0 (w.heap.size + 1) n p len cap) := hh.out.2.1
  have hA2 : Hid (BlkC w0 (w.heap.size + 2) (Cel.ndA nodeZ none 0 0) Cel.tPn) := hh.out.2.2
  have m0 := hA0.out.cell 0 _ rfl
  have m1 := hA0.out.cell 1 _ rfl
  obtain ⟨c0, c1, c2, c3, cd3, c4, cd4, c5⟩ := hA1.out.cells
  have HM0 := Lib.hid (HMP.out w0 hAB.out)
  rw [Cel.ndA_eq] at HM0
  clear hh hA0 hA1 HMP
  go_wp2_with fail
  refine HM0.out.mono ?_
  rintro e w1 ⟨⟨p', l', c', rfl, hk⟩, hb⟩
  have HZ1 := Lib.hid (hA2.out.below hb)
  have HB1 : Hid (Below w.heap.size w w1) := bel_call hb hAB.out hAB.out.size
  have HK1 : Hid (Cel.RdP w1 (fun b => w.heap.size + 2 < b ∧ b < w1.heap.size) d (mvN cols rows n) p' l') := hk.carry (fun b hb' => ⟨⟨by have := lt_some hA2.out; omega, hb'.2⟩, rfl⟩)
  clear hk hb hA2 hAB HM0 m0 m1 c0 c1 c2 c3 cd3 c4 cd4 c5
  obtain ⟨x, hx⟩ : ∃ x, mvN cols rows n = x := ⟨_, rfl⟩
  have HXE := Lib.hid hx
  rw [hx] at HK1 ⊢
  clear hx
  rename_i KK aK
  go_simp
  refine aK _ _ ?_
  clear aK
  rw [show Value.agg (Cel.ndA x p' l' c') = .agg #[.int .i64 x.kind, .int .i64 x.num, .string ⟨x.text.toArray⟩, .int .i64 (cC x.frm), .int .i64 (cR x.frm), .int .i64 (cC x.tor), .int .i64 (cR x.tor), .slice p' l' c'] from rfl]
  refine wpList_store_mid (by rfl) _ _ _ (by rfl) (w.heap.size + 2) 0 #[.int .i64 x.kind, .int .i64 x.num, .string ⟨x.text.toArray⟩, .int .i64 (cC x.frm), .int .i64 (cR x.frm), .int .i64 (cC x.tor), .int .i64 (cR x.tor), .slice p' l' c'] (by rfl) (by rfl) (block_there HZ1.out 8 (Nat.le_refl _)) (by kernel_rfl) (by simp [Value.oneCell']) ?_
  have e8 : w1.setCells (w.heap.size + 2) 0 (#[.int .i64 x.kind, .int .i64 x.num, .string ⟨x.text.toArray⟩, .int .i64 (cC x.frm), .int .i64 (cR x.frm), .int .i64 (cC x.tor), .int .i64 (cR x.tor), .slice p' l' c']).toList = w1.setCells (w.heap.size + 2) 0 (Cel.ndA x p' l' c').toList := rfl
  rw [e8]
  clear e8
  have HS8 : Hid (BlkC (w1.setCells (w.heap.size + 2) 0 (Cel.ndA x p' l' c').toList) (w.heap.size + 2) (Cel.ndA x p' l' c') Cel.tPn) := store_block HZ1.out _ rfl
  have HB8 : Hid (Below w.heap.size w (w1.setCells (w.heap.size + 2) 0 (Cel.ndA x p' l' c').toList)) := store_below (by omega) _ _ _ HB1.out
  have HK8 : Hid (Cel.RdP (w1.setCells (w.heap.size + 2) 0 (Cel.ndA x p' l' c').toList) (fun b => w.heap.size ≤ b ∧ b < (w1.setCells (w.heap.size + 2) 0 (Cel.ndA x p' l' c').toList).heap.size) d x p' l') := HK1.out.carry (fun b hb => ⟨⟨by omega, Nat.lt_of_lt_of_le hb.2 (store_below (Nat.zero_le (w.heap.size + 2)) (Cel.ndA x p' l' c').toList 0 w1 (Below.refl 0 w1)).size⟩, store_other (by omega) _ _ _⟩)
  clear HZ1 HB1 HK1
  generalize w1.setCells (w.heap.size + 2) 0 (Cel.ndA x p' l' c').toList = w9 at HS8 HB8 HK8 ⊢
  go_simp
  go_wp2_with fail
  try simp only [Exit.inBlock, Exit.then]
  exact bodyPost_ret (results_cell_row rfl _ _ (w.heap.size + 2) Cel.tPn (Cel.ndA x p' l' c') (0, 0) _ rfl HS8.out Tryz.underlying44 rfl (by kernel_rfl)) rfl ⟨⟨p', l', c', by rw [HXE.out], by rw [HXE.out]; exact HK8.out⟩, HB8.out⟩
end Go.Proofs.YtbdgdhjhgcpidaaGreatDoor
namespace Go.Proofs.YtbdgdhjhgcpidaaGreatDoor
open Go.RowKit Go.Joins
theorem lvKL_app : ∀ a b : List Nd, lvKL (a ++ b) = lvKL a ++ lvKL b
  | [], b => rfl
  | c :: r, b => by rw [List.cons_append, lvKL, lvKL, lvKL_app r b, List.append_assoc]
theorem cnL_take (a : List Nd) (i : Nat) : cnL (a.take i) ≤ cnL a := by
  conv => rhs; rw [← List.take_append_drop i a]
  rw [cnL_app]
  omega
theorem row_base {w : World} {b b' e size n : Nat} {v : Value} {xs : List Value} (h : w.ownsRow b e size v n xs) (hb : b' ≤ b) : w.ownsRow b' e size v n xs := by
  obtain ⟨h1, h2⟩ := h
  refine ⟨h1, ?_⟩
  rcases h2 with h2 | ⟨g, cap, cur, h3, h4, h5⟩
  · exact .inl h2
  · exact .inr ⟨g, cap, cur, h3, by omega, h5⟩
theorem row_cells {w : World} {b e size n g cap : Nat} {xs : List Value} (h : w.ownsRow b e size (.slice (some ⟨g, 0, none⟩) n cap) n xs) : ∀ j u, xs[j]? = some u → w.cell? ((⟨g, 0, none⟩ : Addr).add j) = some u := World.ownsRow.cells (g := g) h rfl
theorem ndA_lit (n : Nd) (p : Option Addr) (l c : Nat) : ndA n p l c = #[.int .i64 n.kind, .int .i64 n.num, .string ⟨n.text.toArray⟩, .int .i64 n.frm, .int .i64 n.tor, .slice p l c] := rfl
def LvP (n : Nd) (w : World) (e : Ending) (w' : World) : Prop := (∃ (L : List Kid) (v : Value), e = .returned v ∧ L.map (fun x => x.1.kind) = lvK n ∧ L.length ≤ cnN n ∧ w'.ownsRow w.heap.size tRn 6 v L.length (L.flatMap kidC)) ∧ Below w.heap.size w w'
def lvC (d : Nat) : Prop := ∀ (n : Nd) (p : Option Addr) (len cap : Nat) (w : World), RdT w w.heap.size d n p len → Fm n → cnN n ≤ 1000 → Calls Tryz.prog 17 #[.agg (ndA n p len cap)] w (LvP n w)
theorem lv_leaf {n : Nd} {p : Option Addr} {len cap : Nat} {w w0 : World} (h : n.kind = 3 ∨ n.kind = 4 ∨ n.kind = 8) (hb : Below w.heap.size w w0) : ∀ s, w0.heap.size = s → LvP n w (.returned (.slice (some ⟨s, 0, none⟩) 1 1)) (w0.alloc (.cells (ndA n p len cap) tRn)) := by
  rintro s rfl
  refine ⟨⟨[(n, p, len, cap)], _, rfl, ?_, cnN_pos n, ?_⟩, hb.alloc hb.size _⟩
  · cases n
    rw [lvK]
    simp only [Nd.kind] at h
    rw [if_pos h]
    rfl
  · refine ⟨rfl, .inr ⟨w0.heap.size, 1, ndA n p len cap, rfl, hb.size, heap_alloc_new w0 _, Nat.le_refl _, by decide, rfl, rfl⟩⟩
set_option maxRecDepth 100000 in
set_option maxHeartbeats 16000000 in
theorem lv_s (d : Nat) (IH : ∀ d', d = d' + 1 → lvC d') : lvC d := by
  intro n p len cap w hrd hok hcn
  have HRD := Lib.hid hrd
  have HIH := Lib.hid IH
  have hlen := fm_len hok
  rw [hrd.len] at hlen
  have HAL := Lib.hid hrd.len
  have HOK := Lib.hid (fun c hc => fm_child (c := c) hok hc)
  have HCN := Lib.hid (show cnL n.args + 1 = cnN n from by cases n; rw [cnN]; exact Nat.add_comm _ _)
  have HLF := Lib.hid (fun W h (hb : Below w.heap.size w W) => lv_leaf (n := n) (p := p) (len := len) (cap := cap) (w := w) (w0 := W) h hb)
  have hA0 : Hid (NdB tRn (w.alloc (.cells (ndA n p len cap) tRn)) w.heap.size n p len cap) := heap_alloc_new w _
  have hAB : Hid (Below w.heap.size w (w.alloc (.cells (ndA n p len cap) tRn))) := by unfold Hid; (repeat' (first | (with_reducible exact Below.refl _ _) | (with_reducible assumption) | (with_reducible refine Below.alloc ?_ ?_ _) | (with_reducible refine bel_drewN ?_ _) | (with_reducible refine Below.drew ?_) | (with_reducible refine Below.setCell ?_ ?_ _) | (with_reducible refine bel_call ‹_› ?_ ?_) | go_size))
  obtain ⟨i0, hi, hz0, hz1, hz2⟩ := info_of info_rn
  rw [ndA_eq]
  clear hrd IH hok
  go_enter Tryz.func17, Tryz.ntmps17
  go_upto_region 1 with fail
  have e0 : w.alloc (.cells #[.int .i64 n.kind, .int .i64 n.num, .string ⟨n.text.toArray⟩, .int .i64 n.frm, .int .i64 n.tor, .slice p len cap] tRn) = w.alloc (.cells (ndA n p len cap) tRn) := rfl
  rw [e0]
  clear e0
  have hs0 : (w.alloc (.cells (ndA n p len cap) tRn)).heap.size = w.heap.size + 1 := World.size_alloc _ _
  generalize w.alloc (.cells (ndA n p len cap) tRn) = w0 at hA0 hAB hs0 ⊢
  obtain ⟨c0, c1, c2, c3, c4, c5⟩ := hA0.out.cells
  by_cases h3 : n.kind = 3
  · have b3 : (n.kind == 3) = true := by simpa using h3
    have HL := Lib.hid (HLF.out w0 (.inl h3) hAB.out _ hs0)
    rw [ndA_lit, h3] at HL
    clear HLF
    go_wp2_with fail
    go_ret
    exact HL.out
  · have b3 : (n.kind == 3) = false := by simpa using h3
    by_cases h4 : n.kind = 4
    · have b4 : (n.kind == 4) = true := by simpa using h4
      have HL := Lib.hid (HLF.out w0 (.inr (.inl h4)) hAB.out _ hs0)
      rw [ndA_lit, h4] at HL
      clear HLF
      go_wp2_with fail
      go_ret
      exact HL.out
    · have b4 : (n.kind == 4) = false := by simpa using h4
      by_cases h8 : n.kind = 8
      · have b8 : (n.kind == 8) = true := by simpa using h8
        have HL := Lib.hid (HLF.out w0 (.inr (.inr h8)) hAB.out _ hs0)
        rw [ndA_lit, h8] at HL
        clear HLF
        go_wp2_with fail
        go_ret
        exact HL.out
      · have b8 : (n.kind == 8) = false := by simpa using h8
        have HLV : Hid (lvK n = lvKL n.args) := by
          unfold Hid
          cases n
          rw [lvK, if_neg (by simp [Nd.kind] at h3 h4 h8; omega)]
          rfl
        clear HLF
        go_wp2_with fail
        go_loopg [3, 4] len (fun g v3 v4 wr => ∃ (i : Nat) (acc : List Kid), i + g = len ∧ v4 = .int .i64 i ∧ acc.map (fun x => x.1.kind) = lvKL (n.args.take i) ∧ acc.length ≤ cnL (n.args.take i) ∧ NdB tRn wr w.heap.size n p len cap ∧ wr.ownsRow (w.heap.size + 1) tRn 6 v3 acc.length (acc.flatMap kidC) ∧ Below w.heap.size w wr ∧ w.heap.size + 1 ≤ wr.heap.size)
        case atStart => exact ⟨0, [], by omega, rfl, rfl, by simp, hA0.out, World.ownsRow_nil _ _ _ _, hAB.out, by omega⟩
        case round =>
          obtain ⟨i, acc, hig, rfl, hacc, hal, hn, hown, hbel, hsz⟩ := hrel
          have HAC := Lib.hid hacc
          have HN := Lib.hid hn
          have HOW := Lib.hid hown
          have HBL := Lib.hid hbel
          have hzr := hbel.size
          clear hacc hn hown hbel hA0 hAB c0 c1 c2 c3 c4 c5 b3 b4 b8 h3 h4 h8
          obtain ⟨a0, a1, a2, a3, a4, a5⟩ := HN.out.cells
          by_cases hlt : i < len
          · have hli : (i : Int) < (len : Int) := by omega
            obtain ⟨d', b, off, c, p', l', c', hd, rfl, hbN, hc, hrc, q0, q1, q2, q3, q4, q5⟩ := (HRD.out.below HBL.out).at hlt
            have htk : n.args.take (i + 1) = n.args.take i ++ [c] := by rw [List.take_add_one, hc]; rfl
            have hcl : cnL (n.args.take (i + 1)) = cnL (n.args.take i) + cnN c := by rw [htk, cnL_app, cnL, cnL]; omega
            have hct := cnL_take n.args (i + 1)
            have HTK := Lib.hid (show lvKL (n.args.take (i + 1)) = lvKL (n.args.take i) ++ lvK c from by rw [htk, lvKL_app, lvKL, lvKL, List.append_nil])
            have hcn2 := HCN.out
            have HCC := Lib.hid (HIH.out d' hd c p' l' c' wr (hrc.mono hzr) (HOK.out c (mem_at hc)) (by omega))
            rw [ndA_eq] at HCC
            clear hc hrc hd htk
            go_wp2_with fail
            refine HCC.out.mono ?_
            rintro e w3 ⟨⟨L, v', rfl, hk, hl, hrow⟩, hb3⟩
            have HRW := Lib.hid hrow
            have HKD := Lib.hid hk
            have HB3 := Lib.hid hb3
            have HN3 := Lib.hid (HN.out.below hb3)
            have HOW3 := Lib.hid (row_below HOW.out hb3)
            have HBW3 : Hid (Below w.heap.size w w3) := bel_call hb3 HBL.out hzr
            have hz3 := hb3.size
            clear HCC hrow hk hb3 HN HBL HOW a0 a1 a2 a3 a4 a5 q0 q1 q2 q3 q4 q5
            rename_i KK aK
            go_simp
            refine aK _ _ ?_
            clear aK
            rcases HRW.out.2 with ⟨hv0, hL0⟩ | ⟨g, cap2, cur, hv1, hg1, hg2, hg3⟩
            · have hLn : L = [] := List.eq_nil_of_length_eq_zero hL0
              subst hv0
              subst hLn
              refine wpList_append_own_none rfl _ _ _ rfl (w.heap.size + 1) tRn i0 6 Tryz.underlying34 hi _ _ _ rfl HOW3.out rfl ?_
              go_simp
              go_wp2_with fail
              go_roundg (gk - 1)
              case measure => omega
              case rel => exact ⟨i + 1, acc, by omega, by go_num, by rw [HAC.out, HTK.out, ← HKD.out]; simp, by omega, HN3.out, HOW3.out, HBW3.out, by omega⟩
            · subst hv1
              have HRC := Lib.hid (row_cells HRW.out)
              refine wpList_append_own_at _ rfl _ _ _ rfl (w.heap.size + 1) tRn i0 _ 6 72 Tryz.underlying34 hi hz0 hz1 hz2 rfl (by decide) _ _ _ rfl HOW3.out ⟨g, 0, none⟩ L.length cap2 (L.flatMap kidC) rfl HRW.out.1 HRC.out ?c2 ?c3 ?c4 ?c5 ?_
              case c2 =>
                intro u hu
                obtain ⟨x, _, hx⟩ := List.mem_flatMap.1 hu
                exact kidC_one x u hx
              case c3 => unfold maxLen; omega
              case c4 => omega
              case c5 => omega
              intro v5 w5 hown5 hgrow5 _ hat5
              have hs5 := hgrow5.size
              have HOW5 : Hid (w5.ownsRow (w.heap.size + 1) tRn 6 v5 (acc ++ L).length ((acc ++ L).flatMap kidC)) := by
                unfold Hid
                rw [List.length_append, List.flatMap_append]
                exact hown5
              have HBW5 : Hid (Below w.heap.size w w5) := HBW3.out.grown hgrow5 (by omega) (fun k hk => by have := (HOW3.out.lt k hk).1; omega)
              have HN5 : Hid (NdB tRn w5 w.heap.size n (some ⟨b, off, none⟩) len cap) := (hgrow5.block _ (by have := lt_some HN3.out; omega) (fun e => by have := (HOW3.out.lt _ e.symm).1; omega)).trans HN3.out
              clear hown5 hgrow5 hat5 HRC HRW HOW3 HN3 HBW3 HB3
              go_simp
              go_wp2_with fail
              go_roundg (gk - 1)
              case measure => omega
              case rel => exact ⟨i + 1, acc ++ L, by omega, by go_num, by rw [List.map_append, HAC.out, HTK.out, HKD.out], by rw [List.length_append]; omega, HN5.out, HOW5.out, HBW5.out, by omega⟩
          · obtain rfl : i = len := by omega
            have hli : ¬ (i : Int) < (i : Int) := by omega
            have hct := cnL_take n.args i
            have hcn2 := HCN.out
            go_wp2_with fail
            go_ret
            exact ⟨⟨acc, _, rfl, by rw [HAC.out, HLV.out, List.take_of_length_le (by rw [HAL.out]; exact Nat.le_refl _)], by omega, row_base HOW.out (by omega)⟩, HBL.out⟩
theorem lv_any : ∀ d, lvC d
  | 0 => lv_s 0 (fun d' h => by omega)
  | d + 1 => lv_s (d + 1) (fun d' h => (show d = d' from by omega) ▸ lv_any d)
end Go.Proofs.YtbdgdhjhgcpidaaGreatDoor
namespace Go.Proofs.YtbdgdhjhgcpidaaGreatDoor
open Go.RowKit Go.Joins
set_option maxRecDepth 100000 in
set_option maxHeartbeats 2000000 in
theorem repeat_one (s : ByteArray) (w : World) : Calls Tryz.prog 70 #[.string s, .int .i64 1] w fun e w' => e = .returned (.string s) ∧ w = w' := by
  go_enter Tryz.func70, Tryz.ntmps70
  go_wp2_with fail
  go_ret
  exact ⟨rfl, rfl⟩
set_option maxRecDepth 100000 in
set_option maxHeartbeats 2000000 in
theorem wide_two (n : Nat) (L : List UInt8) (hL : dcL n = L) (h1 : L.length = 1) (hn : n ≤ 10000000) (w : World) : Calls Tryz.prog 45 #[.int .i64 n, .int .i64 2] w fun e w' => e = .returned (.string ⟨(48 :: L).toArray⟩) ∧ Below w.heap.size w w' := by
  have HD := Lib.hid (fun W => decN_any n hn W)
  rw [hL] at HD
  obtain ⟨t, ht⟩ : ∃ t : ByteArray, (⟨L.toArray⟩ : ByteArray) = t := ⟨_, rfl⟩
  have hts : (t.size : Int) = 1 := by rw [← ht, Lib.size_eq]; show (L.length : Int) = 1; omega
  have hcat : (⟨#[48]⟩ : ByteArray) ++ t = ⟨(48 :: L).toArray⟩ := by
    rw [← ht]
    apply ByteArray.ext
    apply Array.ext'
    simp
  rw [ht] at HD
  rw [← hcat]
  have HRP := Lib.hid (fun W => repeat_one ⟨#[48]⟩ W)
  have f1 : IntKind.i64.wrap ((2 : Int) - 1) = 1 := by decide
  clear hL h1 ht hcat
  go_enter Tryz.func45, Tryz.ntmps45
  go_wp2_with fail
  refine (HD.out _).mono ?_
  rintro e w1 ⟨rfl, hb⟩
  go_wp2_with fail
  refine (HRP.out _).mono ?_
  rintro e w2 ⟨rfl, hw⟩
  rw [← hw]
  clear hw
  go_wp2_with fail
  go_ret
  exact ⟨rfl, hb⟩
abbrev q07 : ByteArray := ⟨#[81, 48, 55]⟩
abbrev b07 : ByteArray := ⟨#[48, 55]⟩
set_option maxRecDepth 100000 in
set_option maxHeartbeats 4000000 in
theorem numbered_q (w : World) : Calls Tryz.prog 44 #[.string q07] w fun e w' => e = .returned (.tuple #[.string ⟨#[81]⟩, .int .i64 7, .int .i64 2]) ∧ Below w.heap.size w w' := by
  obtain ⟨s, hs⟩ : ∃ s, q07 = s := ⟨_, rfl⟩
  obtain ⟨t, ht⟩ : ∃ t, b07 = t := ⟨_, rfl⟩
  have hsz : s.size = 3 := by rw [← hs]; rfl
  have htz : t.size = 2 := by rw [← ht]; rfl
  have hx1 : s.extract 1 3 = t := by rw [← hs, ← ht]; rfl
  have hx2 : s.extract 0 1 = ⟨#[81]⟩ := by rw [← hs]; rfl
  have HB := Lib.hid (btN_str s)
  have HBV := Lib.hid (show btN s.data.toList 0 = 81 ∧ btN s.data.toList 1 = 48 ∧ btN s.data.toList 2 = 55 from by rw [← hs]; exact ⟨rfl, rfl, rfl⟩)
  have HTV := Lib.hid (show btN t.data.toList 0 = 48 ∧ btN t.data.toList 1 = 55 from by rw [← ht]; exact ⟨rfl, rfl⟩)
  rw [hs]
  have hconv := fun (W : World) => Lib.run_convert_string_bytes (P := Tryz.prog) W 9 125 5 t Tryz.underlying9 Tryz.underlying125 Tryz.underlying5
  clear hs ht
  have hszi : (s.size : Int) = 3 := by omega
  have htzi : (t.size : Int) = 2 := by omega
  go_enter Tryz.func44, Tryz.ntmps44
  go_wp2_with fail
  go_loopg [5] 3 (fun g v wx => ∃ j : Nat, v = .int .i64 ((j : Nat) + 1 : Int) ∧ j ≤ 2 ∧ j + 1 ≤ g ∧ w = wx)
  case atStart => exact ⟨2, rfl, by omega, by omega, rfl⟩
  case round =>
    obtain ⟨j, rfl, hj, hjg, rfl⟩ := hrel
    have hb := HB.out j (by omega)
    have hjlt : j < s.size := by omega
    have f1 : IntKind.i64.wrap ((j : Int) + 1 - 1) = (j : Int) := by rw [show (j : Int) + 1 - 1 = (j : Int) from by omega]; exact IntWalk.i64_in _ (by omega)
    have f2 : IntKind.i64.wrap ((3 : Int) - ((j : Int) + 1)) = 2 - (j : Int) := by rw [show (3 : Int) - ((j : Int) + 1) = 2 - (j : Int) from by omega]; exact IntWalk.i64_in _ (by omega)
    have hp : (0 : Int) < (j : Int) + 1 := by omega
    by_cases h0 : j = 0
    · subst h0
      rw [HBV.out.1] at hb
      have HBC := Lib.hid (fun W => bytes_cell W t)
      have hbw := Lib.hid (bytes_below w t)
      have hbc := Lib.hid (HBC.out w)
      clear HBV HB HBC
      go_wp2_with fail
      generalize Lib.bytesWorld w 5 t = W1 at hbw hbc ⊢
      go_loopg [6, 41] 2 (fun g v6 v wx => ∃ i n : Nat, v = .int .i64 (i : Int) ∧ v6 = .int .i64 (n : Int) ∧ i + g = 2 ∧ ((i < 2 ∧ n = 0) ∨ (i = 2 ∧ n = 7)) ∧ wx = W1)
      case atStart => exact ⟨0, 0, rfl, rfl, by omega, .inl ⟨by omega, rfl⟩, rfl⟩
      case round =>
        obtain ⟨i, n, rfl, rfl, hig, hin, rfl⟩ := hrel
        rcases hin with ⟨hi2, rfl⟩ | ⟨rfl, rfl⟩
        · have hli : (i : Int) < 2 := by omega
          have hc := hbc.out i (by omega)
          rcases (show i = 0 ∨ i = 1 by omega) with rfl | rfl
          · rw [HTV.out.1] at hc
            go_wp2_with fail
            go_roundg (gk - 1)
            case measure => omega
            case rel => exact ⟨1, 0, by go_num, by go_num, by omega, .inl ⟨by omega, rfl⟩, by first | rfl | trivial⟩
          · rw [HTV.out.2] at hc
            go_wp2_with fail
            go_roundg (gk - 1)
            case measure => omega
            case rel => exact ⟨2, 7, by go_num, by go_num, by omega, .inr ⟨rfl, rfl⟩, by first | rfl | trivial⟩
        · go_wp2_with fail
          go_ret3
          exact ⟨rfl, hbw.out⟩
    · obtain ⟨k, rfl⟩ : ∃ k, j = k + 1 := ⟨j - 1, by omega⟩
      obtain ⟨d, hd⟩ : ∃ d, btN s.data.toList (k + 1) = d := ⟨_, rfl⟩
      have hd1 : (48 : Int) ≤ (d : Int) ∧ (d : Int) ≤ 57 := by
        rcases (show k = 0 ∨ k = 1 by omega) with rfl | rfl
        · rw [HBV.out.2.1] at hd; omega
        · rw [HBV.out.2.2] at hd; omega
      rw [hd] at hb
      clear hd
      obtain ⟨hd1, hd2⟩ := hd1
      have hl9 : 2 - ((k + 1 : Nat) : Int) < 9 := by omega
      go_wp2_with fail
      go_roundg (gk - 1)
      case measure => omega
      case rel => exact ⟨k, by go_num, by omega, by omega, by first | rfl | trivial⟩
end Go.Proofs.YtbdgdhjhgcpidaaGreatDoor
namespace Go.Proofs.YtbdgdhjhgcpidaaGreatDoor
open Go.RowKit Go.Joins
abbrev s3 : ByteArray := ⟨#[51]⟩
abbrev s1 : ByteArray := ⟨#[49]⟩
theorem shaped_bl {w w' : World} (h : w.ShapedOpen Tryz.prog) (hb : Below w.heap.size w w') : w'.ShapedOpen Tryz.prog := shaped_below h hb
theorem prs_q : prsOk q07.data.toList = false := by decide +kernel
theorem prs_3 : prsOk s3.data.toList = true ∧ prsV s3.data.toList = 3000000 := by decide +kernel
theorem prs_1 : prsOk s1.data.toList = true ∧ prsV s1.data.toList = 1000000 := by decide +kernel
set_option maxRecDepth 100000 in
set_option maxHeartbeats 4000000 in
theorem step_q (by_ m : Nat) (h1 : 1 ≤ m) (h2 : m ≤ 2) (w : World) (hsh : w.ShapedOpen Tryz.prog) : Calls Tryz.prog 29 #[.string q07, .int .i64 by_, .int .i64 m] w fun e w' => e = .returned (.tuple #[.string ⟨#[81, 48, UInt8.ofNat (55 + m)]⟩, .int .i64 0]) ∧ Below w.heap.size w w' := by
  have HPR := Lib.hid (parse_any q07 (by decide) w hsh)
  rw [prs_q] at HPR
  have HNB := Lib.hid (fun W => numbered_q W)
  obtain ⟨D, hD⟩ : ∃ D, dcL (7 + m) = D := ⟨_, rfl⟩
  have hD2 : D.length = 1 ∧ D = [UInt8.ofNat (55 + m)] := by
    rw [← hD]
    rcases (show m = 1 ∨ m = 2 by omega) with rfl | rfl <;> decide +kernel
  have HWD := Lib.hid (fun W => wide_two (7 + m) D hD hD2.1 (by omega) W)
  rw [hD2.2] at HWD
  have hcat : (⟨#[81]⟩ : ByteArray) ++ ⟨[48, UInt8.ofNat (55 + m)].toArray⟩ = ⟨#[81, 48, UInt8.ofNat (55 + m)]⟩ := by
    apply ByteArray.ext
    apply Array.ext'
    simp
  have f1 : IntKind.i64.wrap ((7 : Int) + (m : Int)) = ((7 + m : Nat) : Int) := by
    rw [show (7 : Int) + (m : Int) = ((7 + m : Nat) : Int) from by push_cast; rfl]
    exact IntWalk.i64_in _ (by omega)
  rw [← hcat]
  obtain ⟨s, hs⟩ : ∃ s, q07 = s := ⟨_, rfl⟩
  have hb0 : btN s.data.toList 0 = 81 := by rw [← hs]; rfl
  have hlt : 0 < s.size := by rw [← hs]; decide
  have hb := btN_str s 0 hlt
  have hx : (((s[0]'hlt).toNat : Nat) : Int) = 81 := by rw [hb, hb0]; rfl
  clear hb
  rw [hs] at HPR HNB ⊢
  obtain ⟨Z, hZ⟩ : ∃ Z : ByteArray, ⟨[48, UInt8.ofNat (55 + m)].toArray⟩ = Z := ⟨_, rfl⟩
  have hZz : Z.size = 2 := by rw [← hZ]; rfl
  rw [hZ] at HWD ⊢
  generalize prsV s.data.toList = pv at HPR
  clear hD hD2 hcat hZ hb0
  go_enter Tryz.func29, Tryz.ntmps29
  go_wp2_with fail
  refine HPR.out.mono ?_
  rintro e w1 ⟨rfl, hb1⟩
  clear HPR
  go_wp2_with fail
  refine (HNB.out _).mono ?_
  rintro e w2 ⟨rfl, hb2⟩
  have hB2 : Below w.heap.size w w2 := bel_call hb2 hb1 hb1.size
  clear HNB hb1 hb2
  go_wp2_with fail
  refine (HWD.out _).mono ?_
  rintro e w3 ⟨rfl, hb3⟩
  have hB3 : Below w.heap.size w w3 := bel_call hb3 hB2 hB2.size
  go_wp2_with fail
  go_ret2
  exact ⟨rfl, hB3⟩
set_option maxRecDepth 100000 in
set_option maxHeartbeats 4000000 in
theorem step_3 (m : Int) (h1 : 1 ≤ m) (h2 : m ≤ 3) (w : World) (hsh : w.ShapedOpen Tryz.prog) : Calls Tryz.prog 29 #[.string s3, .int .i64 2000000, .int .i64 m] w fun e w' => e = .returned (.tuple #[.string ⟨#[UInt8.ofNat (51 + 2 * m.toNat)]⟩, .int .i64 0]) ∧ Below w.heap.size w w' := by
  have HPR := Lib.hid (parse_any s3 (by decide) w hsh)
  rw [prs_3.1, prs_3.2] at HPR
  have HOF := Lib.hid (fun W => decOf_any m (by omega) (by omega) W)
  have e1 : okV (sv (decide (m < 0)) (m.natAbs * 1000000)) = m * 1000000 ∧ okE (sv (decide (m < 0)) (m.natAbs * 1000000)) = 0 := by
    rcases (show m = 1 ∨ m = 2 ∨ m = 3 by omega) with rfl | rfl | rfl <;> decide +kernel
  rw [e1.1, e1.2] at HOF
  have HML := Lib.hid (fun W => mul_any (m * 1000000) 2000000 (by omega) (by omega) (by omega) (by omega) W)
  have e2 : okV (sv (decide (m * 1000000 < 0) != decide ((2000000 : Int) < 0)) (rdiv ((m * 1000000).natAbs * (2000000 : Int).natAbs) 1000000)) = m * 2000000 ∧ okE (sv (decide (m * 1000000 < 0) != decide ((2000000 : Int) < 0)) (rdiv ((m * 1000000).natAbs * (2000000 : Int).natAbs) 1000000)) = 0 := by
    rcases (show m = 1 ∨ m = 2 ∨ m = 3 by omega) with rfl | rfl | rfl <;> decide +kernel
  rw [e2.1, e2.2] at HML
  have HAD := Lib.hid (fun W => add_any 3000000 (m * 2000000) (by omega) (by omega) (by omega) (by omega) W)
  have e3 : okV (3000000 + m * 2000000) = 3000000 + m * 2000000 ∧ okE (3000000 + m * 2000000) = 0 := by
    rcases (show m = 1 ∨ m = 2 ∨ m = 3 by omega) with rfl | rfl | rfl <;> decide +kernel
  rw [e3.1, e3.2] at HAD
  have HTX := Lib.hid (fun W => text_any (3000000 + m * 2000000) (by omega) (by omega) W)
  have e4 : (⟨(txt (3000000 + m * 2000000)).toArray⟩ : ByteArray) = ⟨#[UInt8.ofNat (51 + 2 * m.toNat)]⟩ := by
    rcases (show m = 1 ∨ m = 2 ∨ m = 3 by omega) with rfl | rfl | rfl <;> decide +kernel
  rw [e4] at HTX
  generalize (⟨#[UInt8.ofNat (51 + 2 * m.toNat)]⟩ : ByteArray) = R at HTX ⊢
  generalize 3000000 + m * 2000000 = x3 at HAD HTX
  generalize m * 2000000 = x2 at HML HAD
  generalize m * 1000000 = x1 at HOF HML
  obtain ⟨s, hs⟩ : ∃ s, s3 = s := ⟨_, rfl⟩
  rw [hs] at HPR ⊢
  clear e1 e2 e3 e4 h1 h2 hs
  go_enter Tryz.func29, Tryz.ntmps29
  go_wp2_with fail
  refine HPR.out.mono ?_
  rintro e w1 ⟨rfl, hb1⟩
  clear HPR
  go_wp2_with fail
  refine (HOF.out _).mono ?_
  rintro e w2 ⟨rfl, hb2⟩
  have hB2 : Below w.heap.size w w2 := bel_call hb2 hb1 hb1.size
  clear HOF hb1 hb2
  go_wp2_with fail
  refine (HML.out _).mono ?_
  rintro e w3 ⟨rfl, hb3⟩
  have hB3 : Below w.heap.size w w3 := bel_call hb3 hB2 hB2.size
  clear HML hb3 hB2
  go_wp2_with fail
  refine (HAD.out _).mono ?_
  rintro e w4 ⟨rfl, hw⟩
  rw [← hw]
  clear hw HAD
  go_wp2_with fail
  refine (HTX.out _).mono ?_
  rintro e w5 ⟨rfl, hb5⟩
  have hB5 : Below w.heap.size w w5 := bel_call hb5 hB3 hB3.size
  go_wp2_with fail
  go_ret2
  exact ⟨rfl, hB5⟩
set_option maxRecDepth 100000 in
set_option maxHeartbeats 4000000 in
theorem steps_one (p : Option Addr) (c : Nat) (w : World) : Calls Tryz.prog 26 #[.slice p 1 c] w fun e w' => e = .returned (.int .i64 1000000) ∧ Below w.heap.size w w' := by
  go_enter Tryz.func26, Tryz.ntmps26
  go_wp2_with fail
  go_ret
  exact ⟨rfl, Below.refl _ _⟩
set_option maxRecDepth 100000 in
set_option maxHeartbeats 4000000 in
theorem steps_two (g c : Nat) (w : World) (hc0 : w.cell? ⟨g, 0, none⟩ = some (.string s1)) (hc1 : w.cell? ⟨g, 1, none⟩ = some (.string s3)) (hsh : w.ShapedOpen Tryz.prog) : Calls Tryz.prog 26 #[.slice (some ⟨g, 0, none⟩) 2 c] w fun e w' => e = .returned (.int .i64 2000000) ∧ Below w.heap.size w w' := by
  have HP1 := Lib.hid (fun W (h : W.ShapedOpen Tryz.prog) => parse_any s1 (by decide) W h)
  rw [prs_1.1, prs_1.2] at HP1
  have HP3 := Lib.hid (fun W (h : W.ShapedOpen Tryz.prog) => parse_any s3 (by decide) W h)
  rw [prs_3.1, prs_3.2] at HP3
  have HSB := Lib.hid (fun W => sub_any 3000000 1000000 (by omega) (by omega) (by omega) (by omega) W)
  rw [show okV ((3000000 : Int) - 1000000) = 2000000 from by decide, show okE ((3000000 : Int) - 1000000) = 0 from by decide] at HSB
  have HSH := Lib.hid hsh
  have hg : g < w.heap.size := lt_of_cell hc0
  obtain ⟨x1, hx1⟩ : ∃ s, s1 = s := ⟨_, rfl⟩
  obtain ⟨x3, hx3⟩ : ∃ s, s3 = s := ⟨_, rfl⟩
  rw [hx1] at HP1 hc0
  rw [hx3] at HP3 hc1
  clear hsh hx1 hx3
  go_enter Tryz.func26, Tryz.ntmps26
  go_wp2_with fail
  refine (HP1.out w HSH.out).mono ?_
  rintro e w1 ⟨rfl, hb1⟩
  have d1 : w1.cell? ⟨g, 1, none⟩ = some (.string x3) := (hb1.cell (p := ⟨g, 1, none⟩) hg).trans hc1
  have HS1 := Lib.hid (shaped_bl HSH.out hb1)
  clear HP1 hc0 hc1
  go_wp2_with fail
  refine (HP3.out w1 HS1.out).mono ?_
  rintro e w2 ⟨rfl, hb2⟩
  have hB2 : Below w.heap.size w w2 := bel_call hb2 hb1 hb1.size
  clear HP3 d1 hb1 hb2
  go_wp2_with fail
  refine (HSB.out w2).mono ?_
  rintro e w3 ⟨rfl, hw⟩
  rw [← hw]
  clear hw
  go_wp2_with fail
  go_ret
  exact ⟨rfl, hB2⟩
set_option maxRecDepth 100000 in
set_option maxHeartbeats 4000000 in
theorem typed_plain (s : ByteArray) (hs : Lib.hasPrefix s.data.toList [61] = false) (cols rows : Int) (w : World) : Calls Tryz.prog 27 #[.agg #[.int .i64 cols, .int .i64 rows], .string s] w fun e w' => e = .returned (.tuple #[.string s, .int .i64 0]) ∧ Below w.heap.size w w' := by
  have HCP := Lib.hid (fun W => Tryz.strings_CutPrefix s ⟨#[61]⟩ W)
  rw [show (⟨#[61]⟩ : ByteArray).data.toList = [61] from rfl, hs] at HCP
  generalize (⟨(Lib.trimPrefix s.data.toList [61]).toArray⟩ : ByteArray) = z at HCP
  have hAB : Hid (Below w.heap.size w (w.alloc (.cells #[.int .i64 cols, .int .i64 rows] 25))) := by unfold Hid; (repeat' (first | (with_reducible exact Below.refl _ _) | (with_reducible assumption) | (with_reducible refine Below.alloc ?_ ?_ _) | (with_reducible refine bel_drewN ?_ _) | (with_reducible refine Below.drew ?_) | (with_reducible refine Below.setCell ?_ ?_ _) | (with_reducible refine bel_call ‹_› ?_ ?_) | go_size))
  clear hs
  go_enter Tryz.func27, Tryz.ntmps27
  go_upto_region 1 with fail
  generalize w.alloc (.cells #[.int .i64 cols, .int .i64 rows] 25) = w0 at hAB ⊢
  go_wp2_with fail
  refine (HCP.out w0).mono ?_
  rintro e w1 ⟨rfl, hw⟩
  rw [hw]
  clear hw
  go_wp2_with fail
  go_ret2
  exact ⟨rfl, hAB.out⟩
end Go.Proofs.YtbdgdhjhgcpidaaGreatDoor
namespace Go.Proofs.YtbdgdhjhgcpidaaGreatDoor
open Go.RowKit Go.Joins
set_option maxRecDepth 100000 in
set_option maxHeartbeats 4000000 in
theorem ptext_any (n : Nd) (d : Nat) (p : Option Addr) (len cap : Nat) (lv : Int) (w : World) (hrd : Cel.RdT w w.heap.size d n p len) (hok : OkN n) (hrt : rtN n lv = true) (hsh : w.ShapedOpen Tryz.prog) (hlen : wtN n ≤ 2200000) :
    Calls Tryz.prog 38 #[.agg (Cel.ndA n p len cap)] w fun e w' => e = .returned (.string ⟨(prN nmS n 1).toArray⟩) ∧ Below w.heap.size w w' := by
  have hA0 : Hid (Cel.NdB Cel.tPn (w.alloc (.cells (Cel.ndA n p len cap) Cel.tPn)) w.heap.size n p len cap) := heap_alloc_new w _
  have hAB : Hid (Below w.heap.size w (w.alloc (.cells (Cel.ndA n p len cap) Cel.tPn))) := by unfold Hid; (repeat' (first | (with_reducible exact Below.refl _ _) | (with_reducible assumption) | (with_reducible refine Below.alloc ?_ ?_ _) | (with_reducible refine bel_drewN ?_ _) | (with_reducible refine Below.drew ?_) | (with_reducible refine Below.setCell ?_ ?_ _) | (with_reducible refine bel_call ‹_› ?_ ?_) | go_size))
  have HP := Lib.hid (Cel.print_any n d p len cap lv (w.alloc (.cells (Cel.ndA n p len cap) Cel.tPn)) ((hrd.below hAB.out).mono hAB.out.size) hok hrt (shaped_below hsh hAB.out) hlen)
  generalize prN nmS n 1 = X at HP ⊢
  rw [Cel.ndA_eq] at HP
  rw [Cel.ndA_eq]
  clear hrd hok hrt hsh hlen
  go_enter Tryz.func38, Tryz.ntmps38
  go_upto_region 1 with fail
  have e0 : w.alloc (.cells #[.int .i64 n.kind, .int .i64 n.num, .string ⟨n.text.toArray⟩, .int .i64 (cC n.frm), .int .i64 (cR n.frm), .int .i64 (cC n.tor), .int .i64 (cR n.tor), .slice p len cap] Cel.tPn) = w.alloc (.cells (Cel.ndA n p len cap) Cel.tPn) := rfl
  rw [e0]
  clear e0
  generalize w.alloc (.cells (Cel.ndA n p len cap) Cel.tPn) = w0 at hA0 hAB HP ⊢
  obtain ⟨c0, c1, c2, c3, cd3, c4, cd4, c5⟩ := hA0.out.cells
  go_wp2_with fail
  refine HP.out.mono ?_
  rintro e w1 ⟨rfl, hb⟩
  have hB1 := bel_call hb hAB.out hAB.out.size
  go_wp2_with fail
  go_ret
  exact ⟨rfl, hB1⟩
abbrev eA1 : ByteArray := ⟨#[61, 65, 49]⟩
abbrev eA2 : ByteArray := ⟨#[61, 65, 50]⟩
theorem fm_a1 : Fm (.mk 3 0 [] 10001 0 []) := .ref _ (by unfold OkC; decide)
theorem ok_a1 : OkN (.mk 3 0 [] 10001 0 []) := (gd_ref (by unfold OkC; decide) (by omega) (by omega)).ok
theorem ok_a2 : OkN (.mk 3 0 [] 10002 0 []) := (gd_ref (by unfold OkC; decide) (by omega) (by omega)).ok
theorem pr_a1 : prN nmS (.mk 3 0 [] 10001 0 []) 1 = [65, 49] := by decide +kernel
theorem pr_a2 : prN nmS (.mk 3 0 [] 10002 0 []) 1 = [65, 50] := by decide +kernel
theorem mv_a1 : mvN 0 1 (.mk 3 0 [] 10001 0 []) = .mk 3 0 [] 10002 0 [] := by
  have e : mvC 0 1 10001 = 10002 := by decide +kernel
  rw [mvN, mvNL, e]
  rfl
set_option maxRecDepth 100000 in
set_option maxHeartbeats 8000000 in
theorem typed_ref (w : World) (hsh : w.ShapedOpen Tryz.prog) : Calls Tryz.prog 27 #[.agg #[.int .i64 0, .int .i64 1], .string eA1] w fun e w' => e = .returned (.tuple #[.string eA2, .int .i64 0]) ∧ Below w.heap.size w w' := by
  have HSH := Lib.hid (fun W (hW : Below w.heap.size w W) => shaped_bl hsh hW)
  have HCP := Lib.hid (fun W => Tryz.strings_CutPrefix eA1 ⟨#[61]⟩ W)
  rw [show (⟨(Lib.trimPrefix eA1.data.toList (⟨#[61]⟩ : ByteArray).data.toList).toArray⟩ : ByteArray) = ⟨#[65, 49]⟩ from by decide +kernel, show Lib.hasPrefix eA1.data.toList (⟨#[61]⟩ : ByteArray).data.toList = true from by decide +kernel] at HCP
  have HFM := Lib.hid (fun W (h : W.ShapedOpen Tryz.prog) => formula_ok (.mk 3 0 [] 10001 0 []) fm_a1 (by decide +kernel) ok_a1 ⟨#[65, 49]⟩ pr_a1.symm (by decide) W h)
  have HMF := Lib.hid (fun q cq W (h : Cel.RdT W W.heap.size 1 (.mk 3 0 [] 10001 0 []) q 0) => mform_any 0 1 1 (.mk 3 0 [] 10001 0 []) q 0 cq W h fm_a1)
  rw [mv_a1] at HMF
  have HPT := Lib.hid (fun q l cq W (h : Cel.RdT W W.heap.size 1 (.mk 3 0 [] 10002 0 []) q l) (hs : W.ShapedOpen Tryz.prog) => ptext_any (.mk 3 0 [] 10002 0 []) 1 q l cq 64 W h ok_a2 (by decide +kernel) hs (by decide +kernel))
  rw [pr_a2] at HPT
  have hdp : dpN (.mk 3 0 [] 10001 0 []) ≤ 1 + 1 := by decide +kernel
  obtain ⟨n, hn⟩ : ∃ n, (.mk 3 0 [] 10001 0 [] : Nd) = n := ⟨_, rfl⟩
  obtain ⟨m, hm⟩ : ∃ m, (.mk 3 0 [] 10002 0 [] : Nd) = m := ⟨_, rfl⟩
  have hal : n.args.length = 0 := by rw [← hn]; rfl
  rw [hn] at HFM HMF hdp
  rw [hm] at HMF HPT
  rw [hal] at HFM
  obtain ⟨s, hs⟩ : ∃ s, eA1 = s := ⟨_, rfl⟩
  obtain ⟨t, ht⟩ : ∃ t, (⟨#[65, 49]⟩ : ByteArray) = t := ⟨_, rfl⟩
  obtain ⟨z, hz⟩ : ∃ z : ByteArray, ⟨([65, 50] : List UInt8).toArray⟩ = z := ⟨_, rfl⟩
  have hzz : z.size = 2 := by rw [← hz]; rfl
  have hcat : (⟨#[61]⟩ : ByteArray) ++ z = eA2 := by rw [← hz]; decide +kernel
  rw [hz] at HPT
  rw [hs] at HCP ⊢
  rw [ht] at HCP HFM
  rw [← hcat]
  have hA0 : Hid (BlkC (w.alloc (.cells #[.int .i64 0, .int .i64 1] 25)) w.heap.size #[.int .i64 0, .int .i64 1] 25) := heap_alloc_new w _
  have hAB : Hid (Below w.heap.size w (w.alloc (.cells #[.int .i64 0, .int .i64 1] 25))) := by unfold Hid; (repeat' (first | (with_reducible exact Below.refl _ _) | (with_reducible assumption) | (with_reducible refine Below.alloc ?_ ?_ _) | (with_reducible refine bel_drewN ?_ _) | (with_reducible refine Below.drew ?_) | (with_reducible refine Below.setCell ?_ ?_ _) | (with_reducible refine bel_call ‹_› ?_ ?_) | go_size))
  clear hn hm hal hs ht hz hcat hsh
  go_enter Tryz.func27, Tryz.ntmps27
  go_upto_region 1 with fail
  generalize w.alloc (.cells #[.int .i64 0, .int .i64 1] 25) = w0 at hA0 hAB ⊢
  have HF0 := Lib.hid (HFM.out w0 (HSH.out w0 hAB.out))
  go_wp2_with fail
  refine (HCP.out w0).mono ?_
  rintro e w1 ⟨rfl, hw⟩
  rw [hw]
  clear hw HCP HFM
  go_wp2_with fail
  refine HF0.out.mono ?_
  rintro e w1 ⟨⟨q, cq, rfl, hk⟩, hb⟩
  have HK1 := Lib.hid (hk 1 hdp)
  have HA1 := Lib.hid (hA0.out.below hb)
  have HB1 : Hid (Below w.heap.size w w1) := bel_call hb hAB.out hAB.out.size
  clear hk hb hA0 hAB HF0 hdp
  rw [Cel.ndA_eq]
  go_upto_region 5 with fail
  have e1 : w1.alloc (.cells #[.int .i64 n.kind, .int .i64 n.num, .string ⟨n.text.toArray⟩, .int .i64 (cC n.frm), .int .i64 (cR n.frm), .int .i64 (cC n.tor), .int .i64 (cR n.tor), .slice q 0 cq] Cel.tPn) = w1.alloc (.cells (Cel.ndA n q 0 cq) Cel.tPn) := rfl
  rw [e1]
  clear e1
  have HX2 : Hid (Cel.NdB Cel.tPn (w1.alloc (.cells (Cel.ndA n q 0 cq) Cel.tPn)) w1.heap.size n q 0 cq) := heap_alloc_new w1 _
  have hb2 : Below w1.heap.size w1 (w1.alloc (.cells (Cel.ndA n q 0 cq) Cel.tPn)) := (Below.refl _ _).alloc (Nat.le_refl _) _
  have HA2 := Lib.hid (HA1.out.below hb2)
  have HB2 : Hid (Below w.heap.size w (w1.alloc (.cells (Cel.ndA n q 0 cq) Cel.tPn))) := bel_call hb2 HB1.out HB1.out.size
  have HK2 : Hid (Cel.RdT (w1.alloc (.cells (Cel.ndA n q 0 cq) Cel.tPn)) (w1.alloc (.cells (Cel.ndA n q 0 cq) Cel.tPn)).heap.size 1 n q 0) := ((HK1.out.rdT (fun b h => h.2)).below hb2).mono hb2.size
  clear hb2 HA1 HB1 HK1
  generalize w1.alloc (.cells (Cel.ndA n q 0 cq) Cel.tPn) = w2 at HX2 HA2 HB2 HK2 ⊢
  generalize w1.heap.size = g at HX2 ⊢
  have m0 := HA2.out.cell 0 _ rfl
  have m1 := HA2.out.cell 1 _ rfl
  obtain ⟨c0, c1, c2, c3, cd3, c4, cd4, c5⟩ := HX2.out.cells
  have HM2 := Lib.hid (HMF.out q cq w2 HK2.out)
  rw [Cel.ndA_eq] at HM2
  clear HMF
  go_wp2_with fail
  refine HM2.out.mono ?_
  rintro e w3 ⟨⟨p', l', c', rfl, hk3⟩, hb3⟩
  have HB3 : Hid (Below w.heap.size w w3) := bel_call hb3 HB2.out HB2.out.size
  have HP3 := Lib.hid (HPT.out p' l' c' w3 (hk3.rdT (fun b h => h.2)) (HSH.out w3 HB3.out))
  rw [Cel.ndA_eq] at HP3
  rw [Cel.ndA_eq]
  clear hk3 hb3 HM2 HPT HX2 HA2 HB2 HK2 m0 m1 c0 c1 c2 c3 cd3 c4 cd4 c5
  go_wp2_with fail
  refine HP3.out.mono ?_
  rintro e w4 ⟨rfl, hb4⟩
  have HB4 : Hid (Below w.heap.size w w4) := bel_call hb4 HB3.out HB3.out.size
  clear hb4 HP3
  go_wp2_with fail
  go_ret2
  exact ⟨rfl, HB4.out⟩
end Go.Proofs.YtbdgdhjhgcpidaaGreatDoor
