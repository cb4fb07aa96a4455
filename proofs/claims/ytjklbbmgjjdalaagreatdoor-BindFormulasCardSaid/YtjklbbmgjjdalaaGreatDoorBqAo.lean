/- The document's Back of ref11. Printed by gen_bfm.py. The law's read; the walk of BindFormulas. Printed by gen_bfm.py. -/
import Derived.Test.YtjklbbmgjjdalaaGreatDoorBqZ
import Derived.Test.YtjklbbmgjjdalaaGreatDoorBqM
import Derived.Test.YtjklbbmgjjdalaaGreatDoorBqAd
import Derived.Test.YtjklbbmgjjdalaaGreatDoorBqY
import Derived.Test.YtjklbbmgjjdalaaGreatDoorBqAf
import Derived.Test.YtjklbbmgjjdalaaGreatDoorBqAn
import Derived.Test.YtjklbbmgjjdalaaGreatDoorBqAp
import Derived.Test.YtjklbbmgjjdalaaGreatDoorBqAh
import Derived.Test.YtjklbbmgjjdalaaGreatDoorBqAm
set_option linter.unusedSimpArgs false
set_option linter.unusedVariables false
namespace Go.Proofs.YtjklbbmgjjdalaaGreatDoor.Bd
open Go.RowKit Go.Joins
theorem bkC_pl (rows cols : List Idp) (r : Rfp) : (¬ (plL rows r.1 = 0 ∨ plL cols r.2 = 0) → bkC rows cols r = (plL cols r.2 : Int) * 10000 + (plL rows r.1 : Int) ∧ bkC rows cols r ≠ 0) ∧ (plL rows r.1 = 0 ∨ plL cols r.2 = 0 → bkC rows cols r = 0) := by
  unfold bkC plcS
  constructor
  · intro h
    rw [if_pos (by omega)]
    exact ⟨rfl, by show (plL cols r.2 : Int) * 10000 + (plL rows r.1 : Int) ≠ 0; omega⟩
  · intro h
    rw [if_neg (by omega)]
    rfl
def rbkC (rows cols : List Idp) (d : Nat) : Prop := ∀ (n : Bn) (p : Option Addr) (len cap : Nat) (p1 : Option Addr) (n1 c1 : Nat) (p2 : Option Addr) (n2 c2 : Nat) (w : World), RdG idE 2 w p1 n1 rows → RdG idE 2 w p2 n2 cols → n1 ≤ 60 → n2 ≤ 60 → RdQ rfE 12 w okA d n p len → Sm n → Calls Tryz.prog 13 #[.slice p1 n1 c1, .slice p2 n2 c2, .agg (bnA n p len cap)] w fun e w' => (∃ p' len' cap', e = .returned (.agg (ndA (bkN rows cols n) p' len' cap')) ∧ RdP w' (fun b => w.heap.size ≤ b ∧ b < w'.heap.size) d (bkN rows cols n) p' len') ∧ Below w.heap.size w w'
set_option maxRecDepth 100000 in
set_option maxHeartbeats 16000000 in
theorem rbk_s (rows cols : List Idp) (d : Nat) (IH : ∀ d', d = d' + 1 → rbkC rows cols d') : rbkC rows cols d := by
  intro n p len cap p1 n1 c1 p2 n2 c2 w hr1 hr2 hn1 hn2 hrd hok
  have HRD := Lib.hid hrd
  have HIH := Lib.hid IH
  have HR1 := Lib.hid hr1
  have HR2 := Lib.hid hr2
  have hlr : rows.length = n1 := hr1.1
  have hlc : cols.length = n2 := hr2.1
  have hlen := hok.len
  rw [hrd.len] at hlen
  have HAL := Lib.hid hrd.len
  have HOK := Lib.hid (fun c hc => Sm.child (c := c) hok hc)
  have HPF := Lib.hid (bkC_pl rows cols n.frm)
  have HPT := Lib.hid (bkC_pl rows cols n.tor)
  have hp1 := plL_le rows n.frm.1
  have hp2 := plL_le cols n.frm.2
  have hp3 := plL_le rows n.tor.1
  have hp4 := plL_le cols n.tor.2
  rw [show Value.agg (bnA n p len cap) = .agg #[.int .i64 n.kind, .int .i64 n.num, .string ⟨n.text.toArray⟩, .int .u64 n.frm.1.1, .int .i64 n.frm.1.2, .int .u64 n.frm.2.1, .int .i64 n.frm.2.2, .int .u64 n.tor.1.1, .int .i64 n.tor.1.2, .int .u64 n.tor.2.1, .int .i64 n.tor.2.2, .slice p len cap] from rfl]
  clear hrd IH hok hr1 hr2
  go_enter Tryz.func13, Tryz.ntmps13
  go_upto_region 2 with fail
  have e0 : ((w.alloc (.cells #[.int .i64 n.kind, .int .i64 n.num, .string ⟨n.text.toArray⟩, .int .u64 n.frm.1.1, .int .i64 n.frm.1.2, .int .u64 n.frm.2.1, .int .i64 n.frm.2.2, .int .u64 n.tor.1.1, .int .i64 n.tor.1.2, .int .u64 n.tor.2.1, .int .i64 n.tor.2.2, .slice p len cap] tN2)).alloc (.cells #[.int .i64 0, .int .i64 0, .string ⟨#[]⟩, .int .i64 0, .int .i64 0, .slice none 0 0] tRn)).alloc (.cells #[.int .i64 n.kind, .int .i64 n.num, .string ⟨n.text.toArray⟩, .int .i64 0, .int .i64 0, .slice none 0 0] tRn) = ((w.alloc (.cells (bnA n p len cap) tN2)).alloc (.cells (ndA nodeZ none 0 0) tRn)).alloc (.cells #[.int .i64 n.kind, .int .i64 n.num, .string ⟨n.text.toArray⟩, .int .i64 0, .int .i64 0, .slice none 0 0] tRn) := rfl
  rw [e0]
  clear e0
  have HN1 : Hid (BlkC (((w.alloc (.cells (bnA n p len cap) tN2)).alloc (.cells (ndA nodeZ none 0 0) tRn)).alloc (.cells #[.int .i64 n.kind, .int .i64 n.num, .string ⟨n.text.toArray⟩, .int .i64 0, .int .i64 0, .slice none 0 0] tRn)) w.heap.size (bnA n p len cap) tN2) := (three_ho w _ _ _).1
  have HZ1 : Hid (BlkC (((w.alloc (.cells (bnA n p len cap) tN2)).alloc (.cells (ndA nodeZ none 0 0) tRn)).alloc (.cells #[.int .i64 n.kind, .int .i64 n.num, .string ⟨n.text.toArray⟩, .int .i64 0, .int .i64 0, .slice none 0 0] tRn)) (w.heap.size + 1) (ndA nodeZ none 0 0) tRn) := (three_ho w _ _ _).2.1
  have HL1 : Hid (BlkC (((w.alloc (.cells (bnA n p len cap) tN2)).alloc (.cells (ndA nodeZ none 0 0) tRn)).alloc (.cells #[.int .i64 n.kind, .int .i64 n.num, .string ⟨n.text.toArray⟩, .int .i64 0, .int .i64 0, .slice none 0 0] tRn)) (w.heap.size + 2) #[.int .i64 n.kind, .int .i64 n.num, .string ⟨n.text.toArray⟩, .int .i64 0, .int .i64 0, .slice none 0 0] tRn) := (three_ho w _ _ _).2.2
  have HB1 : Hid (Below w.heap.size w (((w.alloc (.cells (bnA n p len cap) tN2)).alloc (.cells (ndA nodeZ none 0 0) tRn)).alloc (.cells #[.int .i64 n.kind, .int .i64 n.num, .string ⟨n.text.toArray⟩, .int .i64 0, .int .i64 0, .slice none 0 0] tRn))) := three_bo _ _ _
  generalize ((w.alloc (.cells (bnA n p len cap) tN2)).alloc (.cells (ndA nodeZ none 0 0) tRn)).alloc (.cells #[.int .i64 n.kind, .int .i64 n.num, .string ⟨n.text.toArray⟩, .int .i64 0, .int .i64 0, .slice none 0 0] tRn) = w1 at HN1 HZ1 HL1 HB1 ⊢
  obtain ⟨k1, hk1⟩ : ∃ k, plL rows n.frm.1 = k := ⟨_, rfl⟩
  obtain ⟨k2, hk2⟩ : ∃ k, plL cols n.frm.2 = k := ⟨_, rfl⟩
  rw [hk1] at HPF hp1
  rw [hk2] at HPF hp2
  have d0 := cell_regrown (HN1.out.cell 3 (.int .u64 n.frm.1.1) rfl)
  have d1 := cell_regrown (HN1.out.cell 4 (.int .i64 n.frm.1.2) rfl)
  have d2 := cell_regrown (HN1.out.cell 5 (.int .u64 n.frm.2.1) rfl)
  have d3 := cell_regrown (HN1.out.cell 6 (.int .i64 n.frm.2.2) rfl)
  have hBR : ∀ dd os, Below w.heap.size w (Go.Sort.grow (redrawn w1 dd) os) := fun dd os => bel_call (below_regrown w1 dd os) HB1.out HB1.out.size
  have cX : ∀ dd os, Calls Tryz.prog 28 #[.slice p1 n1 c1, .agg #[.int .u64 n.frm.1.1, .int .i64 n.frm.1.2]] (Go.Sort.grow (redrawn w1 dd) os) fun e w'' => e = .returned (.int .i64 (k1 : Nat)) ∧ ∃ p : Regrown, w'' = Go.Sort.grow (redrawn w1 p.1) p.2 := fun dd os => by
    have h := rplace_any rows n.frm.1 p1 n1 c1 _ (HR1.out.below (hBR dd os)) (by omega)
    rw [hk1] at h
    exact Calls.regrown_of h
  have cY : ∀ dd os, Calls Tryz.prog 28 #[.slice p2 n2 c2, .agg #[.int .u64 n.frm.2.1, .int .i64 n.frm.2.2]] (Go.Sort.grow (redrawn w1 dd) os) fun e w'' => e = .returned (.int .i64 (k2 : Nat)) ∧ ∃ p : Regrown, w'' = Go.Sort.grow (redrawn w1 p.1) p.2 := fun dd os => by
    have h := rplace_any cols n.frm.2 p2 n2 c2 _ (HR2.out.below (hBR dd os)) (by omega)
    rw [hk2] at h
    exact Calls.regrown_of h
  clear hk1 hk2
  refine wp_region_quiet_below (by kernel_rfl) (by kernel_rfl) ?_
  repeat (go_big_quiet_step ((first | with_reducible exact cX _ _ | with_reducible exact cY _ _)))
  refine wpQuiet_nil ?_
  intro _ hw'
  obtain ⟨⟨dz, osz⟩, hw''⟩ := hw'
  subst hw''
  have hbl := below_regrown w1 dz osz
  have HN2 := Lib.hid (HN1.out.below hbl)
  have HZ2 := Lib.hid (HZ1.out.below hbl)
  have HL2 : Hid (BlkC (Go.Sort.grow (redrawn w1 dz) osz) (w.heap.size + 2) _ _) := BlkC.below HL1.out hbl
  have HB2 : Hid (Below w.heap.size w (Go.Sort.grow (redrawn w1 dz) osz)) := hBR dz osz
  clear d0 d1 d2 d3 hBR cX cY hbl HN1 HZ1 HL1 HB1
  generalize Go.Sort.grow (redrawn w1 dz) osz = w2 at HN2 HZ2 HL2 HB2 ⊢
  go_upto_region 3 with fail
  go_cut [43] (fun v wx => v = .bool (decide ((n.kind = 3 ∨ n.kind = 4) ∧ (k1 = 0 ∨ k2 = 0))) ∧ wx = w2)
  case first =>
    have k0 : w2.cell? ⟨w.heap.size, 0, none⟩ = some (.int .i64 n.kind) := HN2.out.cell 0 _ rfl
    by_cases h3 : n.kind = 3
    · have b3' : (n.kind == 3) = true := by simpa using h3
      by_cases z1 : k1 = 0
      · have y1 : ((k1 : Int) == 0) = true := by simp; omega
        go_wp2_with fail
        go_meet
        exact ⟨by rw [decide_eq_true (show (n.kind = 3 ∨ n.kind = 4) ∧ (k1 = 0 ∨ k2 = 0) from ⟨.inl h3, .inl z1⟩)], rfl⟩
      · have y1 : ((k1 : Int) == 0) = false := by simp; omega
        by_cases z2 : k2 = 0
        · have y2 : ((k2 : Int) == 0) = true := by simp; omega
          go_wp2_with fail
          go_meet
          exact ⟨by rw [decide_eq_true (show (n.kind = 3 ∨ n.kind = 4) ∧ (k1 = 0 ∨ k2 = 0) from ⟨.inl h3, .inr z2⟩)], rfl⟩
        · have y2 : ((k2 : Int) == 0) = false := by simp; omega
          go_wp2_with fail
          go_meet
          exact ⟨by rw [decide_eq_false (by omega)], rfl⟩
    · have b3' : (n.kind == 3) = false := by simpa using h3
      by_cases h4 : n.kind = 4
      · have b4' : (n.kind == 4) = true := by simpa using h4
        by_cases z1 : k1 = 0
        · have y1 : ((k1 : Int) == 0) = true := by simp; omega
          go_wp2_with fail
          go_meet
          exact ⟨by rw [decide_eq_true (show (n.kind = 3 ∨ n.kind = 4) ∧ (k1 = 0 ∨ k2 = 0) from ⟨.inr h4, .inl z1⟩)], rfl⟩
        · have y1 : ((k1 : Int) == 0) = false := by simp; omega
          by_cases z2 : k2 = 0
          · have y2 : ((k2 : Int) == 0) = true := by simp; omega
            go_wp2_with fail
            go_meet
            exact ⟨by rw [decide_eq_true (show (n.kind = 3 ∨ n.kind = 4) ∧ (k1 = 0 ∨ k2 = 0) from ⟨.inr h4, .inr z2⟩)], rfl⟩
          · have y2 : ((k2 : Int) == 0) = false := by simp; omega
            go_wp2_with fail
            go_meet
            exact ⟨by rw [decide_eq_false (by omega)], rfl⟩
      · have b4' : (n.kind == 4) = false := by simpa using h4
        go_wp2_with fail
        go_meet
        exact ⟨by rw [decide_eq_false (by omega)], rfl⟩
  case rest =>
  obtain ⟨hv, hw⟩ := hcut
  rw [hw]
  clear hw
  by_cases hF : (n.kind = 3 ∨ n.kind = 4) ∧ (k1 = 0 ∨ k2 = 0)
  · rw [decide_eq_true hF] at hv
    rw [hv]
    clear hv
    have hz : bkC rows cols n.frm = 0 := HPF.out.2 hF.2
    have HM : Hid (bkN rows cols n = fltN) := bkN_flt (.inl ⟨hF.1, hz⟩)
    go_upto_region 4 with fail
    refine wp_region_lit ?_
    refine wpList_plain rfl fun K hK => ?_
    go_simp
    refine hK _ _ ?_
    clear hK K
    refine wpList_store_mid (by rfl) _ _ _ (by rfl) (w.heap.size + 1) 0 #[.int .i64 8, .int .i64 0, .string ⟨#[]⟩, .int .i64 0, .int .i64 0, .slice none 0 0] (by rfl) (by rfl) (block_there HZ2.out 6 (Nat.le_refl _)) (by kernel_rfl) (by simp [Value.oneCell']) ?_
    have e8 : w2.setCells (w.heap.size + 1) 0 (#[.int .i64 8, .int .i64 0, .string ⟨#[]⟩, .int .i64 0, .int .i64 0, .slice none 0 0]).toList = w2.setCells (w.heap.size + 1) 0 (ndA fltN none 0 0).toList := rfl
    rw [e8]
    clear e8
    have HS8 : Hid (BlkC (w2.setCells (w.heap.size + 1) 0 (ndA fltN none 0 0).toList) (w.heap.size + 1) (ndA fltN none 0 0) tRn) := store_block HZ2.out _ rfl
    have HB8 : Hid (Below w.heap.size w (w2.setCells (w.heap.size + 1) 0 (ndA fltN none 0 0).toList)) := store_below (by omega) _ _ _ HB2.out
    generalize w2.setCells (w.heap.size + 1) 0 (ndA fltN none 0 0).toList = w9 at HS8 HB8 ⊢
    clear HN2 HZ2 HL2 HB2
    go_simp
    go_wp2_with fail
    try simp only [Exit.inBlock, Exit.then]
    rw [HM.out]
    exact bodyPost_ret (results_cell_row rfl _ _ (w.heap.size + 1) tRn (ndA fltN none 0 0) (0, 0) _ rfl HS8.out Tryz.underlying25 rfl (by kernel_rfl)) rfl ⟨⟨none, 0, 0, rfl, rdp6_leaf _ _ rfl _ _⟩, HB8.out⟩
  rw [decide_eq_false hF] at hv
  rw [hv]
  clear hv
  have HNF : Hid (n.kind = 3 ∨ n.kind = 4 → bkC rows cols n.frm = (k2 : Int) * 10000 + (k1 : Int) ∧ bkC rows cols n.frm ≠ 0) := fun h => HPF.out.1 (fun h' => hF ⟨h, h'⟩)
  clear HPF hF
  have k0' : w2.cell? ⟨w.heap.size, 0, none⟩ = some (.int .i64 n.kind) := HN2.out.cell 0 _ rfl
  go_upto_region 5 with fail
  go_cut [52] (fun v wx => v = .bool (decide (n.kind = 3 ∨ n.kind = 4)) ∧ wx = w2)
  case first =>
    have k0 : w2.cell? ⟨w.heap.size, 0, none⟩ = some (.int .i64 n.kind) := HN2.out.cell 0 _ rfl
    by_cases h3 : n.kind = 3
    · have b3' : (n.kind == 3) = true := by simpa using h3
      go_wp2_with fail
      go_meet
      exact ⟨by rw [decide_eq_true (show n.kind = 3 ∨ n.kind = 4 from .inl h3)], rfl⟩
    · have b3' : (n.kind == 3) = false := by simpa using h3
      by_cases h4 : n.kind = 4
      · have b4' : (n.kind == 4) = true := by simpa using h4
        go_wp2_with fail
        go_meet
        exact ⟨by rw [decide_eq_true (show n.kind = 3 ∨ n.kind = 4 from .inr h4)], rfl⟩
      · have b4' : (n.kind == 4) = false := by simpa using h4
        go_wp2_with fail
        go_meet
        exact ⟨by rw [decide_eq_false (by omega)], rfl⟩
  case rest =>
  obtain ⟨hv, hw⟩ := hcut
  rw [hw]
  clear hw
  obtain ⟨T1, hT1⟩ : ∃ x, decide (n.kind = 3 ∨ n.kind = 4) = x := ⟨_, rfl⟩
  rw [hT1] at hv
  rw [hv]
  clear hv k0'
  obtain ⟨F1, hF1⟩ : ∃ x, (if n.kind = 3 ∨ n.kind = 4 then bkC rows cols n.frm else 0) = x := ⟨_, rfl⟩
  go_upto_if 52 with fail
  go_cut [] (fun wx => BlkC wx w.heap.size (bnA n p len cap) tN2 ∧ BlkC wx (w.heap.size + 1) (ndA nodeZ none 0 0) tRn ∧ BlkC wx (w.heap.size + 2) #[.int .i64 n.kind, .int .i64 n.num, .string ⟨n.text.toArray⟩, .int .i64 F1, .int .i64 0, .slice none 0 0] tRn ∧ Below w.heap.size w wx)
  case first =>
    cases T1 with
    | true =>
      have h34 := of_decide_eq_true hT1
      have hfe : F1 = (k2 : Int) * 10000 + (k1 : Int) := by rw [← hF1, if_pos h34]; exact (HNF.out h34).1
      have g1 : IntKind.i64.wrap ((k2 : Int) * 10000) = (k2 : Int) * 10000 := IntWalk.i64_in _ (by omega)
      have g2 : IntKind.i64.wrap ((k2 : Int) * 10000 + (k1 : Int)) = F1 := by rw [hfe]; exact IntWalk.i64_in _ (by omega)
      have l0 : w2.cell? ⟨w.heap.size + 2, 3, none⟩ = some (.int .i64 0) := HL2.out.cell 3 _ rfl
      have f0 := HL2.out.fz 3
      go_wp2_with fail
      go_meet
      rw [hfe]
      have hb2 : Below (w.heap.size + 2) w2 (w2.setCell ⟨w.heap.size + 2, 3, none⟩ (.int .i64 ((k2 : Int) * 10000 + (k1 : Int)))) := (Below.refl _ _).setCell (p := ⟨w.heap.size + 2, 3, none⟩) (Nat.le_refl _) _
      have hl2 := lt_some HL2.out
      exact ⟨(hb2.block _ (by omega)).trans HN2.out, (hb2.block _ (by omega)).trans HZ2.out, block_setCell HL2.out _, HB2.out.trans (hb2.mono (by omega))⟩
    | false =>
      have hfe : F1 = 0 := by rw [← hF1, if_neg (of_decide_eq_false hT1)]
      go_wp2_with fail
      go_meet
      exact ⟨HN2.out, HZ2.out, by rw [hfe]; exact HL2.out, HB2.out⟩
  case rest =>
  obtain ⟨hn3, hz3, hl3, hb3⟩ := hcut
  have HN3 := Lib.hid hn3
  have HZ3 := Lib.hid hz3
  have HL3 := Lib.hid hl3
  have HB3 := Lib.hid hb3
  have HF1 := Lib.hid hF1
  clear hn3 hz3 hl3 hb3 HN2 HZ2 HL2 HB2 hT1 hF1 hp1 hp2
  generalize wc = w3 at *
  obtain ⟨k3, hk1⟩ : ∃ k, plL rows n.tor.1 = k := ⟨_, rfl⟩
  obtain ⟨k4, hk2⟩ : ∃ k, plL cols n.tor.2 = k := ⟨_, rfl⟩
  rw [hk1] at HPT hp3
  rw [hk2] at HPT hp4
  have d0 := cell_regrown (HN3.out.cell 7 (.int .u64 n.tor.1.1) rfl)
  have d1 := cell_regrown (HN3.out.cell 8 (.int .i64 n.tor.1.2) rfl)
  have d2 := cell_regrown (HN3.out.cell 9 (.int .u64 n.tor.2.1) rfl)
  have d3 := cell_regrown (HN3.out.cell 10 (.int .i64 n.tor.2.2) rfl)
  have hBR : ∀ dd os, Below w.heap.size w (Go.Sort.grow (redrawn w3 dd) os) := fun dd os => bel_call (below_regrown w3 dd os) HB3.out HB3.out.size
  have cX : ∀ dd os, Calls Tryz.prog 28 #[.slice p1 n1 c1, .agg #[.int .u64 n.tor.1.1, .int .i64 n.tor.1.2]] (Go.Sort.grow (redrawn w3 dd) os) fun e w'' => e = .returned (.int .i64 (k3 : Nat)) ∧ ∃ p : Regrown, w'' = Go.Sort.grow (redrawn w3 p.1) p.2 := fun dd os => by
    have h := rplace_any rows n.tor.1 p1 n1 c1 _ (HR1.out.below (hBR dd os)) (by omega)
    rw [hk1] at h
    exact Calls.regrown_of h
  have cY : ∀ dd os, Calls Tryz.prog 28 #[.slice p2 n2 c2, .agg #[.int .u64 n.tor.2.1, .int .i64 n.tor.2.2]] (Go.Sort.grow (redrawn w3 dd) os) fun e w'' => e = .returned (.int .i64 (k4 : Nat)) ∧ ∃ p : Regrown, w'' = Go.Sort.grow (redrawn w3 p.1) p.2 := fun dd os => by
    have h := rplace_any cols n.tor.2 p2 n2 c2 _ (HR2.out.below (hBR dd os)) (by omega)
    rw [hk2] at h
    exact Calls.regrown_of h
  clear hk1 hk2
  go_upto_region 7 with fail
  refine wp_region_quiet_below (by kernel_rfl) (by kernel_rfl) ?_
  repeat (go_big_quiet_step ((first | with_reducible exact cX _ _ | with_reducible exact cY _ _)))
  refine wpQuiet_nil ?_
  intro _ hw'
  obtain ⟨⟨dz, osz⟩, hw''⟩ := hw'
  subst hw''
  have hbl := below_regrown w3 dz osz
  have HN4 := Lib.hid (HN3.out.below hbl)
  have HZ4 := Lib.hid (HZ3.out.below hbl)
  have HL4 : Hid (BlkC (Go.Sort.grow (redrawn w3 dz) osz) (w.heap.size + 2) _ _) := BlkC.below HL3.out hbl
  have HB4 : Hid (Below w.heap.size w (Go.Sort.grow (redrawn w3 dz) osz)) := hBR dz osz
  clear d0 d1 d2 d3 hBR cX cY hbl HN3 HZ3 HL3 HB3
  generalize Go.Sort.grow (redrawn w3 dz) osz = w4 at HN4 HZ4 HL4 HB4 ⊢
  go_upto_region 8 with fail
  go_cut [78] (fun v wx => v = .bool (decide (n.kind = 4 ∧ (k3 = 0 ∨ k4 = 0))) ∧ wx = w4)
  case first =>
    have k0 : w4.cell? ⟨w.heap.size, 0, none⟩ = some (.int .i64 n.kind) := HN4.out.cell 0 _ rfl
    by_cases h4 : n.kind = 4
    · have b4' : (n.kind == 4) = true := by simpa using h4
      by_cases z1 : k3 = 0
      · have y1 : ((k3 : Int) == 0) = true := by simp; omega
        go_wp2_with fail
        go_meet
        exact ⟨by rw [decide_eq_true (show n.kind = 4 ∧ (k3 = 0 ∨ k4 = 0) from ⟨h4, .inl z1⟩)], rfl⟩
      · have y1 : ((k3 : Int) == 0) = false := by simp; omega
        by_cases z2 : k4 = 0
        · have y2 : ((k4 : Int) == 0) = true := by simp; omega
          go_wp2_with fail
          go_meet
          exact ⟨by rw [decide_eq_true (show n.kind = 4 ∧ (k3 = 0 ∨ k4 = 0) from ⟨h4, .inr z2⟩)], rfl⟩
        · have y2 : ((k4 : Int) == 0) = false := by simp; omega
          go_wp2_with fail
          go_meet
          exact ⟨by rw [decide_eq_false (by omega)], rfl⟩
    · have b4' : (n.kind == 4) = false := by simpa using h4
      go_wp2_with fail
      go_meet
      exact ⟨by rw [decide_eq_false (fun h => h4 h.1)], rfl⟩
  case rest =>
  obtain ⟨hv, hw⟩ := hcut
  rw [hw]
  clear hw
  by_cases hF : n.kind = 4 ∧ (k3 = 0 ∨ k4 = 0)
  · rw [decide_eq_true hF] at hv
    rw [hv]
    clear hv
    have hz : bkC rows cols n.tor = 0 := HPT.out.2 hF.2
    have HM : Hid (bkN rows cols n = fltN) := bkN_flt (.inr ⟨hF.1, hz⟩)
    go_upto_region 9 with fail
    refine wp_region_lit ?_
    refine wpList_plain rfl fun K hK => ?_
    go_simp
    refine hK _ _ ?_
    clear hK K
    refine wpList_store_mid (by rfl) _ _ _ (by rfl) (w.heap.size + 1) 0 #[.int .i64 8, .int .i64 0, .string ⟨#[]⟩, .int .i64 0, .int .i64 0, .slice none 0 0] (by rfl) (by rfl) (block_there HZ4.out 6 (Nat.le_refl _)) (by kernel_rfl) (by simp [Value.oneCell']) ?_
    have e8 : w4.setCells (w.heap.size + 1) 0 (#[.int .i64 8, .int .i64 0, .string ⟨#[]⟩, .int .i64 0, .int .i64 0, .slice none 0 0]).toList = w4.setCells (w.heap.size + 1) 0 (ndA fltN none 0 0).toList := rfl
    rw [e8]
    clear e8
    have HS8 : Hid (BlkC (w4.setCells (w.heap.size + 1) 0 (ndA fltN none 0 0).toList) (w.heap.size + 1) (ndA fltN none 0 0) tRn) := store_block HZ4.out _ rfl
    have HB8 : Hid (Below w.heap.size w (w4.setCells (w.heap.size + 1) 0 (ndA fltN none 0 0).toList)) := store_below (by omega) _ _ _ HB4.out
    generalize w4.setCells (w.heap.size + 1) 0 (ndA fltN none 0 0).toList = w9 at HS8 HB8 ⊢
    clear HN4 HZ4 HL4 HB4
    go_simp
    go_wp2_with fail
    try simp only [Exit.inBlock, Exit.then]
    rw [HM.out]
    exact bodyPost_ret (results_cell_row rfl _ _ (w.heap.size + 1) tRn (ndA fltN none 0 0) (0, 0) _ rfl HS8.out Tryz.underlying25 rfl (by kernel_rfl)) rfl ⟨⟨none, 0, 0, rfl, rdp6_leaf _ _ rfl _ _⟩, HB8.out⟩
  rw [decide_eq_false hF] at hv
  rw [hv]
  clear hv
  have HNT : Hid (n.kind = 4 → bkC rows cols n.tor = (k4 : Int) * 10000 + (k3 : Int) ∧ bkC rows cols n.tor ≠ 0) := fun h => HPT.out.1 (fun h' => hF ⟨h, h'⟩)
  have HGO := bkN_go (rows := rows) (cols := cols) (n := n) (by rintro (⟨h, h'⟩ | ⟨h, h'⟩); exact (HNF.out h).2 h'; exact (HNT.out h).2 h')
  clear HPT hF
  have k0' : w4.cell? ⟨w.heap.size, 0, none⟩ = some (.int .i64 n.kind) := HN4.out.cell 0 _ rfl
  go_upto_region 10 with fail
  go_cut [82] (fun v wx => v = .bool (decide (n.kind = 4)) ∧ wx = w4)
  case first =>
    by_cases h4 : n.kind = 4
    · have b4' : (n.kind == 4) = true := by simpa using h4
      go_wp2_with fail
      go_meet
      exact ⟨by rw [decide_eq_true (h4)], rfl⟩
    · have b4' : (n.kind == 4) = false := by simpa using h4
      go_wp2_with fail
      go_meet
      exact ⟨by rw [decide_eq_false (h4)], rfl⟩
  case rest =>
  obtain ⟨hv, hw⟩ := hcut
  rw [hw]
  clear hw
  obtain ⟨T1, hT1⟩ : ∃ x, decide (n.kind = 4) = x := ⟨_, rfl⟩
  rw [hT1] at hv
  rw [hv]
  clear hv k0'
  have HGA : Hid ((bkN rows cols n).args = n.args.map (bkN rows cols)) := by unfold Hid; rw [HGO]; rfl
  obtain ⟨G1, hG1⟩ : ∃ x, (if n.kind = 4 then bkC rows cols n.tor else 0) = x := ⟨_, rfl⟩
  have HE : Hid (ndA (bkN rows cols n) none 0 0 = #[.int .i64 n.kind, .int .i64 n.num, .string ⟨n.text.toArray⟩, .int .i64 F1, .int .i64 G1, .slice none 0 0]) := by unfold Hid; rw [HGO, HF1.out, hG1]; rfl
  go_upto_if 82 with fail
  go_cut [] (fun wx => BlkC wx w.heap.size (bnA n p len cap) tN2 ∧ BlkC wx (w.heap.size + 1) (ndA nodeZ none 0 0) tRn ∧ BlkC wx (w.heap.size + 2) (ndA (bkN rows cols n) none 0 0) tRn ∧ Below w.heap.size w wx)
  case first =>
    cases T1 with
    | true =>
      have h34 := of_decide_eq_true hT1
      have hfe : G1 = (k4 : Int) * 10000 + (k3 : Int) := by rw [← hG1, if_pos h34]; exact (HNT.out h34).1
      have g1 : IntKind.i64.wrap ((k4 : Int) * 10000) = (k4 : Int) * 10000 := IntWalk.i64_in _ (by omega)
      have g2 : IntKind.i64.wrap ((k4 : Int) * 10000 + (k3 : Int)) = G1 := by rw [hfe]; exact IntWalk.i64_in _ (by omega)
      have l0 : w4.cell? ⟨w.heap.size + 2, 4, none⟩ = some (.int .i64 0) := HL4.out.cell 4 _ rfl
      have f0 := HL4.out.fz 4
      go_wp2_with fail
      go_meet
      rw [HE.out, hfe]
      have hb2 : Below (w.heap.size + 2) w4 (w4.setCell ⟨w.heap.size + 2, 4, none⟩ (.int .i64 ((k4 : Int) * 10000 + (k3 : Int)))) := (Below.refl _ _).setCell (p := ⟨w.heap.size + 2, 4, none⟩) (Nat.le_refl _) _
      have hl2 := lt_some HL4.out
      exact ⟨(hb2.block _ (by omega)).trans HN4.out, (hb2.block _ (by omega)).trans HZ4.out, block_setCell HL4.out _, HB4.out.trans (hb2.mono (by omega))⟩
    | false =>
      have hfe : G1 = 0 := by rw [← hG1, if_neg (of_decide_eq_false hT1)]
      go_wp2_with fail
      go_meet
      exact ⟨HN4.out, HZ4.out, by rw [HE.out, hfe]; exact HL4.out, HB4.out⟩
  case rest =>
  obtain ⟨hn3, hz3, hl3, hb3⟩ := hcut
  have HN3 := Lib.hid hn3
  have HZ3 := Lib.hid hz3
  have HL3 := Lib.hid hl3
  have HB3 := Lib.hid hb3
  have hLb : w.heap.size + 2 < wc.heap.size := lt_some hl3
  have hLH : w.heap.size + 1 < w.heap.size + 2 := by omega
  have hH1 : w.heap.size + 1 < wc.heap.size := by omega
  clear hn3 hz3 hl3 hb3 HN4 HZ4 HL4 HB4 hT1 HGO HE HF1 hG1 HNF HNT hp3 hp4
  generalize wc = w3 at *
  obtain ⟨L, hLe⟩ : ∃ L, w.heap.size + 2 = L := ⟨_, rfl⟩
  rw [hLe] at HL3 hLb hLH ⊢
  clear hLe
  obtain ⟨base, hbase⟩ : ∃ base, w3.heap.size = base := ⟨_, rfl⟩
  have HB0 := Lib.hid hbase
  rw [hbase] at hLb hH1
  clear hbase
  obtain ⟨i0, hi, hz0, hz1, hz2⟩ := info_of info_rn
  go_wp2_with fail
  go_loopg [10] len (fun g v wr => ∃ (i : Nat) (acc : List Kid) (q : Option Addr) (cp : Nat), i + g = len ∧ v = .int .i64 i ∧ acc.map Prod.fst = (n.args.take i).map (bkN rows cols) ∧ BlkC wr w.heap.size (bnA n p len cap) tN2 ∧ BlkC wr (w.heap.size + 1) (ndA nodeZ none 0 0) tRn ∧ BlkC wr L (ndA (bkN rows cols n) q i cp) tRn ∧ wr.ownsRow base tRn 6 (.slice q i cp) i (acc.flatMap kidC) ∧ (∀ d', d = d' + 1 → ∀ x ∈ acc, RdP wr (okQ base wr (.slice q i cp)) d' x.1 x.2.1 x.2.2.1) ∧ Below w.heap.size w wr ∧ base ≤ wr.heap.size)
  case atStart => exact ⟨0, [], none, 0, by omega, rfl, rfl, HN3.out, HZ3.out, HL3.out, World.ownsRow_nil _ _ _ _, fun _ _ x hx => (by cases hx), HB3.out, by rw [HB0.out]; exact Nat.le_refl _⟩
  case round =>
    obtain ⟨i, acc, q, cp, hig, rfl, hacc, hn1', hn0, hn2', hown, hkid, hbel, hbs⟩ := hrel
    have HAC := Lib.hid hacc
    have HN1 := Lib.hid hn1'
    have HN0 := Lib.hid hn0
    have HN2 := Lib.hid hn2'
    have HOW := Lib.hid hown
    have HKD := Lib.hid hkid
    have HBL := Lib.hid hbel
    have hzr := hbel.size
    clear hacc hn1' hn0 hn2' hown hkid hbel HN3 HZ3 HL3 HB3 HB0
    have a11 : wr.cell? ⟨w.heap.size, 11, none⟩ = some (.slice p len cap) := HN1.out.cell 11 _ rfl
    have b5 : wr.cell? ⟨L, 5, none⟩ = some (.slice q i cp) := HN2.out.cell 5 _ rfl
    by_cases hlt : i < len
    · have hli : (i : Int) < (len : Int) := by omega
      obtain ⟨d', b, off, c, p', l', c', hd, rfl, _, hbN, hc, hrc, hrg⟩ := (HRD.out.below HBL.out).at hlt
      have hbN' : b < w.heap.size := by
        obtain ⟨d2, b2, off2, _, _, _, _, _, e, _, h2, _⟩ := HRD.out.at hlt
        cases e
        exact h2
      have HC : Hid (rbkC rows cols d') := HIH.out d' hd
      have HCO := Lib.hid (HOK.out c (mem_of_at hc))
      have A11 := Kept.cell (N := base) a11 (by omega)
      have B5 := Kept.cell (N := base) b5 (by omega)
      have Q0 := Kept.cell (N := base) (show wr.cell? ⟨b, off + i * 12, none⟩ = some (.int .i64 c.kind) from hrg 0 (.int .i64 c.kind) rfl) (by omega)
      have Q1 := Kept.cell (N := base) (show wr.cell? ⟨b, off + i * 12 + 1, none⟩ = some (.int .i64 c.num) from hrg 1 (.int .i64 c.num) rfl) (by omega)
      have Q2 := Kept.cell (N := base) (show wr.cell? ⟨b, off + i * 12 + 2, none⟩ = some (.string ⟨c.text.toArray⟩) from hrg 2 (.string ⟨c.text.toArray⟩) rfl) (by omega)
      have Q3 := Kept.cell (N := base) (show wr.cell? ⟨b, off + i * 12 + 3, none⟩ = some (.int .u64 c.frm.1.1) from hrg 3 (.int .u64 c.frm.1.1) rfl) (by omega)
      have Q4 := Kept.cell (N := base) (show wr.cell? ⟨b, off + i * 12 + 4, none⟩ = some (.int .i64 c.frm.1.2) from hrg 4 (.int .i64 c.frm.1.2) rfl) (by omega)
      have Q5 := Kept.cell (N := base) (show wr.cell? ⟨b, off + i * 12 + 5, none⟩ = some (.int .u64 c.frm.2.1) from hrg 5 (.int .u64 c.frm.2.1) rfl) (by omega)
      have Q6 := Kept.cell (N := base) (show wr.cell? ⟨b, off + i * 12 + 6, none⟩ = some (.int .i64 c.frm.2.2) from hrg 6 (.int .i64 c.frm.2.2) rfl) (by omega)
      have Q7 := Kept.cell (N := base) (show wr.cell? ⟨b, off + i * 12 + 7, none⟩ = some (.int .u64 c.tor.1.1) from hrg 7 (.int .u64 c.tor.1.1) rfl) (by omega)
      have Q8 := Kept.cell (N := base) (show wr.cell? ⟨b, off + i * 12 + 8, none⟩ = some (.int .i64 c.tor.1.2) from hrg 8 (.int .i64 c.tor.1.2) rfl) (by omega)
      have Q9 := Kept.cell (N := base) (show wr.cell? ⟨b, off + i * 12 + 9, none⟩ = some (.int .u64 c.tor.2.1) from hrg 9 (.int .u64 c.tor.2.1) rfl) (by omega)
      have Q10 := Kept.cell (N := base) (show wr.cell? ⟨b, off + i * 12 + 10, none⟩ = some (.int .i64 c.tor.2.2) from hrg 10 (.int .i64 c.tor.2.2) rfl) (by omega)
      have Q11 := Kept.cell (N := base) (show wr.cell? ⟨b, off + i * 12 + 11, none⟩ = some (.slice p' l' c') from hrg 11 (.slice p' l' c') rfl) (by omega)
      go_upto_region 15 with fail
      refine wp_region_schedT (fun wx => ∃ x : Kept base wr, wx = x.v) 13 [([0,1,2,3,4,5,6,7,8],9),([],10),([],11)] [12] (by kernel_rfl) (by kernel_rfl) (by kernel_rfl) (by kernel_rfl) (kept_drew _ _ (by omega)) ?_
      (unfold wpSegK; simp only [pick_nil, pick_cons, nthO_zero, nthO_succ, List.append])
      clear hrg a11 b5
      repeat (go_big_quiet_step (fail))
      refine wpQuiet_nil ?_
      have HRC := Lib.hid hrc
      have HHC := Lib.hid hc
      have HHD := Lib.hid hd
      clear hrc hc hd
      have hbd : Below w.heap.size w wr.drew := bel_call (Below.drew (Below.refl _ _)) HBL.out hzr
      have HCC := Lib.hid (HC.out c p' l' c' p1 n1 c1 p2 n2 c2 wr.drew (HR1.out.below hbd) (HR2.out.below hbd) hn1 hn2 (HRC.out.below (Below.drew (Below.refl _ _))) HCO.out)
      rw [show Value.agg (bnA c p' l' c') = .agg #[.int .i64 c.kind, .int .i64 c.num, .string ⟨c.text.toArray⟩, .int .u64 c.frm.1.1, .int .i64 c.frm.1.2, .int .u64 c.frm.2.1, .int .i64 c.frm.2.2, .int .u64 c.tor.1.1, .int .i64 c.tor.1.2, .int .u64 c.tor.2.1, .int .i64 c.tor.2.2, .slice p' l' c'] from rfl] at HCC
      clear hbd
      go_wp2_with fail
      refine HCC.out.mono ?_
      rintro e w3 ⟨⟨p3, l3, c3, rfl, hk3⟩, hb3⟩
      have hb4 : Hid (Below wr.heap.size wr w3) := bel_call hb3 (Below.drew (Below.refl _ _)) (Nat.le_refl _)
      have HK3 : Hid (RdP w3 (fun k => wr.heap.size ≤ k ∧ k < w3.heap.size) d' (bkN rows cols c) p3 l3) := hk3
      rw [show Value.agg (ndA (bkN rows cols c) p3 l3 c3) = .agg #[.int .i64 (bkN rows cols c).kind, .int .i64 (bkN rows cols c).num, .string ⟨(bkN rows cols c).text.toArray⟩, .int .i64 (bkN rows cols c).frm, .int .i64 (bkN rows cols c).tor, .slice p3 l3 c3] from rfl]
      clear HCC hk3 hb3
      go_wp2_with fail
      have hB3 : Hid (Below base wr w3) := hb4.out.mono (by omega)
      refine ⟨rfl, ⟨⟨w3, hB3.out⟩, rfl⟩, ?_⟩
      (unfold wpSegK; simp only [pick_nil, pick_cons, nthO_zero, nthO_succ, List.append])
      refine wpQuiet_nil ?_
      go_wp2_with fail
      have e4 : w3.alloc (.cells #[.int .i64 (bkN rows cols c).kind, .int .i64 (bkN rows cols c).num, .string ⟨(bkN rows cols c).text.toArray⟩, .int .i64 (bkN rows cols c).frm, .int .i64 (bkN rows cols c).tor, .slice p3 l3 c3] tRn) = w3.alloc (.cells (ndA (bkN rows cols c) p3 l3 c3) tRn) := rfl
      rw [e4]
      clear e4
      refine ⟨rfl, ⟨⟨_, hB3.out.alloc (by have := hb4.out.size; omega) _⟩, rfl⟩, ?_⟩
      (unfold wpSegK; simp only [pick_nil, pick_cons, nthO_zero, nthO_succ, List.append])
      refine wpQuiet_nil ?_
      have HRW := Lib.hid (row_below HOW.out hb4.out)
      refine wpList_append_own_at _ rfl _ _ _ rfl base tRn i0 _ 6 72 Tryz.underlying23 hi hz0 hz1 hz2 rfl (by decide) _ _ _ rfl (HRW.out.alloc _) ⟨w3.heap.size, 0, none⟩ 1 1 (ndC (bkN rows cols c) p3 l3 c3) rfl rfl (newRn w3 (bkN rows cols c) p3 l3 c3) ?c2 ?c3 ?c4 ?c5 ?_
      case c2 => exact kidC_one (bkN rows cols c, p3, l3, c3)
      case c3 => unfold maxLen; omega
      case c4 => omega
      case c5 => rw [World.size_alloc]; have := hb4.out.size; omega
      intro v' w5 hown5 hgrow5 _ hat5
      have hB5 : Hid (Below base wr w5) := (hB3.out.alloc (by have := hb4.out.size; omega) _).grown hgrow5 (by rw [World.size_alloc]; have := hb4.out.size; omega) (fun k hk => (HRW.out.lt k hk).1)
      have HOW5 : Hid (w5.ownsRow base tRn 6 v' (i + 1) ((acc ++ [(bkN rows cols c, p3, l3, c3)]).flatMap kidC)) := by
        unfold Hid
        rw [flat_snoc]
        exact hown5
      have hla : acc.length = i := by
        have h := congrArg List.length HAC.out
        simp only [List.length_map, List.length_take] at h
        rw [HAL.out] at h
        omega
      obtain ⟨q5, cp5, hv5, _, _, _, _⟩ := RdG.of_own kidC_len (by rw [List.length_append, List.length_singleton, hla]) HOW5.out
      subst hv5
      have HN5 : Hid (BlkC w5 L (ndA (bkN rows cols n) q i cp) tRn) := (hB5.out.block _ hLb).trans HN2.out
      have HKN := Lib.hid (kidsI_off (b := w.heap.size) (G := L) (kk := 5) (u := .slice q5 (i + 1) cp5) (c2 := c3) hLb (by omega) hbs (Off.of_below hb4.out) hgrow5 hat5 (fun b e => (HOW.out.lt b e).2) (HKD.out d' HHD.out) HK3.out)
      have hs5 := hB5.out.size
      clear hown5 hgrow5 hat5 HRW HK3 HKD HCO HC HIH HOK A11 B5 Q0 Q1 Q2 Q3 Q4 Q5 Q6 Q7 Q8 Q9 Q10 Q11
      have e5 : w5.cell? ⟨L, 5, none⟩ = some (.slice q i cp) := HN5.out.cell 5 _ rfl
      have g5 := HN5.out.fz 5
      go_wp2_with fail
      refine ⟨rfl, ⟨⟨w5, hB5.out⟩, rfl⟩, ?_⟩
      (unfold wpSegK; simp only [pick_nil, pick_cons, nthO_zero, nthO_succ, List.append])
      repeat (go_big_quiet_step (fail))
      refine wpQuiet_nil ?_
      go_wp2_with fail
      refine ⟨rfl, ?_⟩
      have HP6 : Hid (BlkC (w5.setCell ⟨L, 5, none⟩ (.slice q5 (i + 1) cp5)) L (ndA (bkN rows cols n) q5 (i + 1) cp5) tRn) := block_setCell HN5.out _
      have HR6 : Hid (BlkC (w5.setCell ⟨L, 5, none⟩ (.slice q5 (i + 1) cp5)) w.heap.size (bnA n (some ⟨b, off, none⟩) len cap) tN2) := by
        unfold Hid BlkC
        rw [heap_setCell_other _ _ _ _ (by show w.heap.size ≠ L; omega), hB5.out.block _ (by omega)]
        exact HN1.out
      have HZ6 : Hid (BlkC (w5.setCell ⟨L, 5, none⟩ (.slice q5 (i + 1) cp5)) (w.heap.size + 1) (ndA nodeZ none 0 0) tRn) := by
        unfold Hid BlkC
        rw [heap_setCell_other _ _ _ _ (by show w.heap.size + 1 ≠ L; omega), hB5.out.block _ (by omega)]
        exact HN0.out
      have HW6 : Hid ((w5.setCell ⟨L, 5, none⟩ (.slice q5 (i + 1) cp5)).ownsRow base tRn 6 (.slice q5 (i + 1) cp5) (i + 1) ((acc ++ [(bkN rows cols c, p3, l3, c3)]).flatMap kidC)) :=
        row_carry HOW5.out (fun b hb => heap_setCell_other _ _ _ _ (by have := (HOW5.out.lt b hb).1; show b ≠ L; omega))
      have HL6 : Hid (Below w.heap.size w (w5.setCell ⟨L, 5, none⟩ (.slice q5 (i + 1) cp5))) := (HBL.out.trans (hB5.out.mono (by omega))).setCell (by show w.heap.size ≤ L; omega) _
      have hz6 : base ≤ (w5.setCell ⟨L, 5, none⟩ (.slice q5 (i + 1) cp5)).heap.size := by rw [World.size_setCell]; omega
      have HAN : Hid ((acc ++ [(bkN rows cols c, p3, l3, c3)]).map Prod.fst = (n.args.take (i + 1)).map (bkN rows cols)) := by
        unfold Hid
        rw [List.map_append, HAC.out, List.take_add_one, HHC.out]
        simp
      generalize w5.setCell ⟨L, 5, none⟩ (.slice q5 (i + 1) cp5) = w6 at HP6 HR6 HZ6 HW6 HL6 HKN hz6 ⊢
      clear HHC HN5 HN0 HN1 HN2 HOW HOW5 hB5 hB3 hb4 e5 g5 HBL
      go_wp2_with fail
      go_roundg (gk - 1)
      case measure => omega
      case rel =>
        refine ⟨i + 1, acc ++ [(bkN rows cols c, p3, l3, c3)], q5, cp5, by omega, by go_num, HAN.out, HR6.out, HZ6.out, HP6.out, HW6.out, fun d'' hd x hx => ?_, HL6.out, hz6⟩
        obtain rfl : d' = d'' := by have := HHD.out; omega
        exact HKN.out x hx
    · obtain rfl : i = len := by omega
      have hli : ¬ (i : Int) < (i : Int) := by omega
      have hla : acc.length = i := by
        have h := congrArg List.length HAC.out
        simp only [List.length_map, List.length_take] at h
        rw [HAL.out] at h
        omega
      clear b5
      go_upto_region 16 with fail
      refine wp_region_lit ?_
      refine wpList_load_mid (by rfl) _ _ (by rfl) L 0 (by rfl) [.int .i64 (bkN rows cols n).kind, .int .i64 (bkN rows cols n).num, .string ⟨(bkN rows cols n).text.toArray⟩, .int .i64 (bkN rows cols n).frm, .int .i64 (bkN rows cols n).tor, .slice q i cp] _ (block_range HN2.out [.int .i64 (bkN rows cols n).kind, .int .i64 (bkN rows cols n).num, .string ⟨(bkN rows cols n).text.toArray⟩, .int .i64 (bkN rows cols n).frm, .int .i64 (bkN rows cols n).tor, .slice q i cp] rfl) Tryz.underlying25 rfl (by kernel_rfl) ?_
      go_simp
      refine wpList_store_mid (by rfl) _ _ _ (by rfl) (w.heap.size + 1) 0 #[.int .i64 (bkN rows cols n).kind, .int .i64 (bkN rows cols n).num, .string ⟨(bkN rows cols n).text.toArray⟩, .int .i64 (bkN rows cols n).frm, .int .i64 (bkN rows cols n).tor, .slice q i cp] (by rfl) (by rfl) (block_there HN0.out 6 (Nat.le_refl _)) (by kernel_rfl) (by simp [Value.oneCell']) ?_
      have e8 : wr.setCells (w.heap.size + 1) 0 (#[.int .i64 (bkN rows cols n).kind, .int .i64 (bkN rows cols n).num, .string ⟨(bkN rows cols n).text.toArray⟩, .int .i64 (bkN rows cols n).frm, .int .i64 (bkN rows cols n).tor, .slice q i cp]).toList = wr.setCells (w.heap.size + 1) 0 (ndA (bkN rows cols n) q i cp).toList := rfl
      rw [e8]
      clear e8
      have HS8 : Hid (BlkC (wr.setCells (w.heap.size + 1) 0 (ndA (bkN rows cols n) q i cp).toList) (w.heap.size + 1) (ndA (bkN rows cols n) q i cp) tRn) := store_block HN0.out _ rfl
      have HB8 : Hid (Below w.heap.size w (wr.setCells (w.heap.size + 1) 0 (ndA (bkN rows cols n) q i cp).toList)) := store_below (by omega) _ _ _ HBL.out
      have hz8 := (store_below (Nat.zero_le (w.heap.size + 1)) (ndA (bkN rows cols n) q i cp).toList 0 wr (Below.refl 0 wr)).size
      have HO8 : Hid (∀ k, k ≠ w.heap.size + 1 → (wr.setCells (w.heap.size + 1) 0 (ndA (bkN rows cols n) q i cp).toList).heap[k]? = wr.heap[k]?) := fun k hk => store_other hk _ _ _
      generalize wr.setCells (w.heap.size + 1) 0 (ndA (bkN rows cols n) q i cp).toList = w9 at HS8 HB8 HO8 hz8 ⊢
      go_simp
      iterate 3 (first | go_values | go_skip | go_guarded | go_step | go_upon)
      apply wp_ret
      try simp only [Exit.inBlock, Exit.then]
      refine bodyPost_ret (results_cell_row rfl _ _ (w.heap.size + 1) tRn (ndA (bkN rows cols n) q i cp) (0, 0) _ rfl HS8.out Tryz.underlying25 rfl (by kernel_rfl)) rfl ⟨⟨q, _, cp, rfl, ?_⟩, HB8.out⟩
      cases d with
      | zero =>
        have h := HRD.out
        refine ⟨?_, h.2⟩
        rw [HGA.out, h.1]; rfl
      | succ d =>
        subst hla
        obtain ⟨q', cp', hv, hr⟩ := RdP.of_rowR (n := bkN rows cols n) (d := d) (ok := fun b => base ≤ b ∧ b < wr.heap.size) HOW.out (by rw [HAC.out, List.take_of_length_le (by rw [HAL.out]; exact Nat.le_refl _)]; exact HGA.out.symm) (fun x hx => RdP.carry (fun b hb => ⟨⟨hb.1, hb.2.1⟩, rfl⟩) (HKD.out d rfl x hx)) (fun b hb => HOW.out.lt b hb)
        cases hv
        exact RdP.carry (fun b hb => ⟨⟨by omega, by omega⟩, HO8.out b (by omega)⟩) hr
theorem rbk_any (rows cols : List Idp) : ∀ d, rbkC rows cols d
  | 0 => rbk_s rows cols 0 (fun d' h => by omega)
  | d + 1 => rbk_s rows cols (d + 1) (fun d' h => (show d = d' from by omega) ▸ rbk_any rows cols d)
end Go.Proofs.YtjklbbmgjjdalaaGreatDoor.Bd
namespace Go.Proofs.YtjklbbmgjjdalaaGreatDoor.Bd
open Go.RowKit Go.Joins
def RedP (w : World) (e : Ending) (w' : World) : Prop := (∃ (n : Nd) (p : Option Addr) (l cap : Nat) (b : Bool), e = .returned (.tuple #[.agg (ndA n p l cap), .bool b]) ∧ (b = true → l = n.args.length ∧ Fm n ∧ OkN n ∧ cnN n ≤ 1000 ∧ wtN n ≤ 260000 ∧ dpN n ≤ 64 ∧ ∀ d, dpN n ≤ d + 1 → RdP w' (fun k => w.heap.size ≤ k ∧ k < w'.heap.size) d n p l)) ∧ Below w.heap.size w w'
set_option maxRecDepth 100000 in
set_option maxHeartbeats 16000000 in
theorem lread_any (s : ByteArray) (w : World) : Calls Tryz.prog 5 #[.string s] w (RedP w) := by
  have hA0 : Hid (BlkC (w.alloc (.cells (ndA nodeZ none 0 0) tRn)) w.heap.size (ndA nodeZ none 0 0) tRn) := heap_alloc_new w _
  have hAB : Hid (Below w.heap.size w (w.alloc (.cells (ndA nodeZ none 0 0) tRn))) := by unfold Hid; (repeat' (first | (with_reducible exact Below.refl _ _) | (with_reducible assumption) | (with_reducible refine Below.alloc ?_ ?_ _) | (with_reducible refine bel_drewN ?_ _) | (with_reducible refine Below.drew ?_) | (with_reducible refine Below.setCell ?_ ?_ _) | (with_reducible refine bel_call ‹_› ?_ ?_) | go_size))
  have HFM := Lib.hid (rformula_any s (w.alloc (.cells (ndA nodeZ none 0 0) tRn)))
  have hsz : (w.alloc (.cells (ndA nodeZ none 0 0) tRn)).heap.size = w.heap.size + 1 := World.size_alloc _ _
  go_enter Tryz.func5, Tryz.ntmps5
  go_upto_region 1 with fail
  have e0 : w.alloc (.cells #[.int .i64 0, .int .i64 0, .string ⟨#[]⟩, .int .i64 0, .int .i64 0, .slice none 0 0] tRn) = w.alloc (.cells (ndA nodeZ none 0 0) tRn) := rfl
  rw [e0]
  clear e0
  generalize w.alloc (.cells (ndA nodeZ none 0 0) tRn) = w0 at hA0 hAB HFM hsz ⊢
  go_wp2_with fail
  refine HFM.out.mono ?_
  rintro e w1 ⟨⟨n, p, l, cap, k, rfl, hk⟩, hb⟩
  have hB1 : Hid (Below w.heap.size w w1) := bel_call hb hAB.out hAB.out.size
  have hA1 := Lib.hid (hA0.out.below hb)
  have HK := Lib.hid hk
  have hs1 := hb.size
  clear hb hk HFM hA0 hAB
  rw [show Value.agg (ndA n p l cap) = .agg #[.int .i64 n.kind, .int .i64 n.num, .string ⟨n.text.toArray⟩, .int .i64 n.frm, .int .i64 n.tor, .slice p l cap] from rfl]
  go_upto_region 2 with fail
  have e1 : w1.alloc (.cells #[.int .i64 n.kind, .int .i64 n.num, .string ⟨n.text.toArray⟩, .int .i64 n.frm, .int .i64 n.tor, .slice p l cap] tRn) = w1.alloc (.cells (ndA n p l cap) tRn) := rfl
  rw [e1]
  clear e1
  have hbn : Below w1.heap.size w1 (w1.alloc (.cells (ndA n p l cap) tRn)) := (Below.refl _ _).alloc (Nat.le_refl _) _
  have hX : Hid (BlkC (w1.alloc (.cells (ndA n p l cap) tRn)) w1.heap.size (ndA n p l cap) tRn) := heap_alloc_new w1 _
  have hA2 := Lib.hid (hA1.out.below hbn)
  have hB2 : Hid (Below w.heap.size w (w1.alloc (.cells (ndA n p l cap) tRn))) := bel_call hbn hB1.out hB1.out.size
  have hs2 := hbn.size
  have HB12 : Hid (∀ j, j < w1.heap.size → (w1.alloc (.cells (ndA n p l cap) tRn)).heap[j]? = w1.heap[j]?) := fun j hj => hbn.block j hj
  clear hbn hA1 hB1
  generalize w1.alloc (.cells (ndA n p l cap) tRn) = w2 at hX hA2 hB2 hs2 HB12 ⊢
  generalize w1.heap.size = gX at hX hs1 hs2 HB12 HK ⊢
  obtain ⟨B, hB⟩ : ∃ B, decide (k = 0) = B := ⟨_, rfl⟩
  have hB3 : (k == 0) = B := by rw [← hB]; by_cases h : k = 0 <;> simp [h]
  have HBK : Hid (B = true → k = 0) := fun h => of_decide_eq_true (hB.trans h)
  clear hB
  have c0 := hX.out.cell 0 (.int .i64 n.kind) rfl
  have c1 := hX.out.cell 1 (.int .i64 n.num) rfl
  have c2 := hX.out.cell 2 (.string ⟨n.text.toArray⟩) rfl
  have c3 := hX.out.cell 3 (.int .i64 n.frm) rfl
  have c4 := hX.out.cell 4 (.int .i64 n.tor) rfl
  have c5 := hX.out.cell 5 (.slice p l cap) rfl
  refine wp_region_lit ?_
  refine wpList_load_mid (by rfl) _ _ (by rfl) gX 0 (by rfl) [.int .i64 n.kind, .int .i64 n.num, .string ⟨n.text.toArray⟩, .int .i64 n.frm, .int .i64 n.tor, .slice p l cap] _ (block_range hX.out [.int .i64 n.kind, .int .i64 n.num, .string ⟨n.text.toArray⟩, .int .i64 n.frm, .int .i64 n.tor, .slice p l cap] rfl) Tryz.underlying25 rfl (by kernel_rfl) ?_
  go_simp
  refine wpList_plain rfl fun K hK => ?_
  go_simp
  refine hK _ _ ?_
  clear hK K
  refine wpList_plain rfl fun K hK => ?_
  go_simp
  refine hK _ _ ?_
  clear hK K
  refine wpList_store_mid (by rfl) _ _ _ (by rfl) w.heap.size 0 #[.int .i64 n.kind, .int .i64 n.num, .string ⟨n.text.toArray⟩, .int .i64 n.frm, .int .i64 n.tor, .slice p l cap] (by rfl) (by rfl) (block_there hA2.out 6 (Nat.le_refl _)) (by kernel_rfl) (by simp [Value.oneCell']) ?_
  have HS8 : Hid (BlkC (w2.setCells w.heap.size 0 (#[.int .i64 n.kind, .int .i64 n.num, .string ⟨n.text.toArray⟩, .int .i64 n.frm, .int .i64 n.tor, .slice p l cap]).toList) w.heap.size (ndA n p l cap) tRn) := store_block hA2.out _ rfl
  have HB8 : Hid (Below w.heap.size w (w2.setCells w.heap.size 0 (#[.int .i64 n.kind, .int .i64 n.num, .string ⟨n.text.toArray⟩, .int .i64 n.frm, .int .i64 n.tor, .slice p l cap]).toList)) := store_below (Nat.le_refl _) _ _ _ hB2.out
  have HO8 : Hid (∀ j, j ≠ w.heap.size → (w2.setCells w.heap.size 0 (#[.int .i64 n.kind, .int .i64 n.num, .string ⟨n.text.toArray⟩, .int .i64 n.frm, .int .i64 n.tor, .slice p l cap]).toList).heap[j]? = w2.heap[j]?) := fun j hj => store_other hj _ _ _
  have hz8 := (store_below (Nat.zero_le w.heap.size) (#[.int .i64 n.kind, .int .i64 n.num, .string ⟨n.text.toArray⟩, .int .i64 n.frm, .int .i64 n.tor, .slice p l cap]).toList 0 w2 (Below.refl 0 w2)).size
  clear hX hA2 hB2 c0 c1 c2 c3 c4 c5
  generalize w2.setCells w.heap.size 0 (#[.int .i64 n.kind, .int .i64 n.num, .string ⟨n.text.toArray⟩, .int .i64 n.frm, .int .i64 n.tor, .slice p l cap]).toList = w9 at HS8 HB8 HO8 hz8 ⊢
  go_simp
  go_wp2_with fail
  try simp only [Exit.inBlock, Exit.then]
  refine bodyPost_ret (results_row_tmp rfl _ _ w.heap.size tRn (ndA n p l cap) (0, 0) _ rfl HS8.out Tryz.underlying25 rfl (by kernel_rfl) _ rfl) rfl ?_
  refine ⟨⟨n, p, l, cap, B, rfl, fun h => ?_⟩, HB8.out⟩
  obtain ⟨h1, h2, h3, h4, h5, h6, h7⟩ := HK.out.1 (HBK.out h)
  exact ⟨h1, h2, h3, h4, h5, h6, fun d hd => (h7 d hd).carry (fun j hj => ⟨⟨by omega, by omega⟩, (HO8.out j (by omega)).trans (HB12.out j hj.2)⟩)⟩
end Go.Proofs.YtjklbbmgjjdalaaGreatDoor.Bd
