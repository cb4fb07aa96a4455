/- Bind: a tree over stamps put down: the walk. Printed by gen_bkd.py. Bind: a bound tree is right, and not too long in bytes: plain. Bind: stamps opened with their bounds; (*Reader).End; the law's read, its texts bounded too. Printed by gen_bki.py. Bind: the document's numbers and runs in bytes, as rows of the call's own. -/
import Derived.Test.YtjklbbmgjjdalaaGreatDoorBbAl
import Derived.Test.YtjklbbmgjjdalaaGreatDoorBbM
import Derived.Test.YtjklbbmgjjdalaaGreatDoorBbY
import Derived.Deep.DeepCutAuto
import Derived.Deep.CutBlock
import Derived.Deep.LoopGhost
import Derived.Test.YtjklbbmgjjdalaaGreatDoorBbV
import Derived.Test.YtjklbbmgjjdalaaGreatDoorBbL
import Derived.Test.YtjklbbmgjjdalaaGreatDoorBbAe
import Derived.Test.YtjklbbmgjjdalaaGreatDoorBbX
import Derived.Test.YtjklbbmgjjdalaaGreatDoorBbA
import Derived.Test.YtjklbbmgjjdalaaGreatDoorBbAd
import Derived.Test.YtjklbbmgjjdalaaGreatDoorBbAf
import Derived.Test.YtjklbbmgjjdalaaGreatDoorBbAk
import Derived.Test.YtjklbbmgjjdalaaGreatDoorBbS
import Derived.Test.YtjklbbmgjjdalaaGreatDoorBbAi
import Derived.Test.YtjklbbmgjjdalaaGreatDoorBbAn
set_option linter.unusedSimpArgs false
set_option linter.unusedVariables false
namespace Go.Proofs.YtjklbbmgjjdalaaGreatDoor.Bd
open Go.RowKit Go.Joins
theorem wnum_int (B b : Nat) (L : List UInt8) (z : Int) (h0 : 0 ≤ z) (h1 : z < 18446744073709551616) (w : World) (hB : B ≤ w.heap.size) (hL : L.length ≤ 200000) (h : Wtr w B b L) :
    Calls Tryz.prog 39 #[.pointer (some ⟨b, 0, none⟩), .int .u64 z] w (WtP B b (L ++ numE z.toNat) w) := by
  obtain ⟨m, rfl⟩ : ∃ m : Nat, z = m := ⟨z.toNat, by omega⟩
  exact wnum_any B b L m (by omega) w hB hL h
def hdN (n : Bn) : List UInt8 := if n.kind = 1 then numE n.num.toNat else if n.kind = 2 ∨ n.kind = 6 ∨ n.kind = 7 then numE n.text.length ++ n.text else if n.kind = 3 then prE n.frm else if n.kind = 4 then prE n.frm ++ prE n.tor else []
theorem putN_is {n : Bn} (h : Cn n) : putN n = (numE n.kind.toNat ++ hdN n) ++ ((if n.kind = 7 then numE n.args.length else []) ++ putNL n.args) := by
  cases h with
  | num u h1 h2 => simp [putN, hdB, hdN, Tn.kind, Tn.num, Tn.args]; congr 2; omega
  | _ => simp [putN, hdB, hdN, Tn.kind, Tn.num, Tn.args, Tn.text, Tn.frm, Tn.tor]
theorem Cn.child {n c : Bn} (h : Cn n) (hc : c ∈ n.args) : Cn c := by
  cases h with
  | neg a h => obtain rfl := List.mem_singleton.1 hc; exact h
  | bin t a b ht h1 h2 =>
    rcases List.mem_cons.1 hc with rfl | hc
    · exact h1
    · obtain rfl := List.mem_singleton.1 hc; exact h2
  | cal t ar ht hl h => exact h c hc
  | _ => cases hc
theorem Cn.len {n : Bn} (h : Cn n) : n.args.length ≤ 16 := by
  cases h with
  | cal t ar ht hl h => exact hl
  | _ => simp [Tn.args]
theorem Cn.facts {n : Bn} (h : Cn n) : (1 ≤ n.kind ∧ n.kind ≤ 8) ∧ (n.kind = 1 → 0 ≤ n.num ∧ n.num ≤ 9223372036854775807) ∧ n.text.length ≤ 65536 ∧ (n.kind = 3 → okI n.frm.1 ∧ okI n.frm.2) ∧ (n.kind = 4 → (okI n.frm.1 ∧ okI n.frm.2) ∧ okI n.tor.1 ∧ okI n.tor.2) := by
  cases h <;> simp_all [Tn.kind, Tn.num, Tn.text, Tn.frm, Tn.tor]
theorem putNL_take {a : List Bn} {i : Nat} {c : Bn} (h : a[i]? = some c) : putNL (a.take (i + 1)) = putNL (a.take i) ++ putN c := by
  have happ : ∀ x y : List Bn, putNL (x ++ y) = putNL x ++ putNL y := by
    intro x
    induction x with
    | nil => intro y; simp [putNL]
    | cons q x ih => intro y; rw [List.cons_append, putNL, putNL, ih, List.append_assoc]
  rw [List.take_add_one, h, happ]
  simp [putNL]
theorem putNL_le {a : List Bn} {i : Nat} {c : Bn} (h : a[i]? = some c) : (putNL (a.take i)).length + (putN c).length ≤ (putNL a).length := by
  have e : a = a.take (i + 1) ++ a.drop (i + 1) := (List.take_append_drop _ _).symm
  have happ : ∀ x y : List Bn, putNL (x ++ y) = putNL x ++ putNL y := by
    intro x
    induction x with
    | nil => intro y; simp [putNL]
    | cons q x ih => intro y; rw [List.cons_append, putNL, putNL, ih, List.append_assoc]
  have e2 := congrArg (fun z => (putNL z).length) e
  simp only [happ, List.length_append, putNL_take h] at e2
  omega
def PSt (w : World) (g B b : Nat) (n : Bn) (p : Option Addr) (len cap : Nat) (A : List UInt8) (wx : World) : Prop := BlkC wx g (bnA n p len cap) tNr ∧ Frk wx b g ∧ g < wx.heap.size ∧ Wtr wx B b A ∧ Below B w wx ∧ Oth b w wx ∧ w.heap.size ≤ wx.heap.size
theorem PSt.next {w w1 w2 : World} {g B b : Nat} {n : Bn} {p : Option Addr} {len cap : Nat} {A A' : List UInt8} (h : PSt w g B b n p len cap A w1) (hw : Wtr w2 B b A') (hb : Below B w1 w2) (ho : Oth b w1 w2) : PSt w g B b n p len cap A' w2 := by
  obtain ⟨h1, h2, h3, h4, h5, h6, h7⟩ := h
  have hs := hb.size
  exact ⟨(ho _ h3 h2).1.trans h1, (ho _ h3 h2).2, by omega, hw, h5.trans hb, h6.trans ho h7, by omega⟩
theorem PSt.below {w w1 w2 : World} {g B b : Nat} {n : Bn} {p : Option Addr} {len cap : Nat} {A : List UInt8} (h : PSt w g B b n p len cap A w1) (hB : B ≤ w.heap.size) (hb : Below w1.heap.size w1 w2) : PSt w g B b n p len cap A w2 := by
  have h4 := h.2.2.2.1
  exact h.next (h4.below hb) (hb.mono (by have := h.2.2.2.2.2.2; omega)) (Oth.of_below h4.lt hb)
def PutC (d : Nat) : Prop := ∀ (B b : Nat) (L : List UInt8) (n : Bn) (p : Option Addr) (len cap : Nat) (w : World), B ≤ w.heap.size → L.length + (putN n).length ≤ 100000 → Wtr w B b L → RdQ rfE 12 w (· < B) d n p len → Cn n →
  Calls Tryz.prog 19 #[.pointer (some ⟨b, 0, none⟩), .agg (bnA n p len cap)] w (PtP B b (L ++ putN n) w)
set_option maxRecDepth 100000 in
set_option maxHeartbeats 16000000 in
theorem put_s (d : Nat) (IH : ∀ d', d = d' + 1 → PutC d') : PutC d := by
  intro B b L n p len cap w hB hL hW hR hC
  have HIH := Lib.hid IH
  have HPN : Hid (putN n = (numE n.kind.toNat ++ hdN n) ++ ((if n.kind = 7 then numE n.args.length else []) ++ putNL n.args)) := putN_is hC
  obtain ⟨⟨hk1, hk8⟩, hf⟩ := hC.facts
  have HF := Lib.hid hf
  have HCN := Lib.hid hC
  have HLL : Hid (L.length + ((numE n.kind.toNat).length + (hdN n).length + ((if n.kind = 7 then numE n.args.length else [] : List UInt8).length + (putNL n.args).length)) ≤ 100000) := by
    unfold Hid
    rw [HPN.out] at hL
    simp only [List.length_append] at hL
    omega
  have HAL : Hid (n.args.length = len) := hR.len
  have hlt := hW.lt
  have HBB := Lib.hid hB
  have HRD : Hid (RdQ rfE 12 w (· < B) d n p len) := hR
  have hA0 : Hid (BlkC (w.alloc (.cells (bnA n p len cap) tNr)) w.heap.size (bnA n p len cap) tNr) := heap_alloc_new w _
  have hAB : Below w.heap.size w (w.alloc (.cells (bnA n p len cap) tNr)) := by (repeat' (first | (with_reducible exact Below.refl _ _) | (with_reducible assumption) | (with_reducible refine Below.alloc ?_ ?_ _) | (with_reducible refine bel_drewN ?_ _) | (with_reducible refine Below.drew ?_) | (with_reducible refine Below.setCell ?_ ?_ _) | (with_reducible refine bel_call ‹_› ?_ ?_) | go_size))
  have HAB := Lib.hid hAB
  have hq : IntKind.u64.wrap n.kind = n.kind := IntWalk.u64_in _ (by omega)
  have HW0 := Lib.hid (hW.below hAB)
  have HN1 := Lib.hid (wnum_int B b L n.kind (by omega) (by omega) (w.alloc (.cells (bnA n p len cap) tNr)) (by have := hAB.size; omega) (by have := HLL.out; omega) HW0.out)
  have HO1 : Hid (Oth b w (w.alloc (.cells (bnA n p len cap) tNr))) := Oth.of_below hlt hAB
  have HFR : Hid (Frk (w.alloc (.cells (bnA n p len cap) tNr)) b w.heap.size) := ⟨by omega, fun v hv e => by
    obtain ⟨_, v', h5, h6, _⟩ := hW
    obtain rfl := blk1_eq ((hAB.block b hlt).trans h5) hv
    have := (h6.lt _ e).2
    omega⟩
  have hz : w.heap.size < (w.alloc (.cells (bnA n p len cap) tNr)).heap.size := by rw [World.size_alloc]; omega
  have hzl : len ≤ 16 := by rw [← HAL.out]; exact hC.len
  have hzi : (len : Int) ≤ 9223372036854775807 := by omega
  have hql : IntKind.u64.wrap (len : Int) = (len : Int) := IntWalk.u64_in _ (by omega)
  clear hW hAB hf hC hL hR hB IH hk1 hk8 HW0
  go_enter Tryz.func19, Tryz.ntmps19
  go_upto_region 1 with fail
  have e1 : w.alloc (.cells #[.int .i64 n.kind, .int .i64 n.num, .string ⟨n.text.toArray⟩, .int .u64 n.frm.1.1, .int .i64 n.frm.1.2, .int .u64 n.frm.2.1, .int .i64 n.frm.2.2, .int .u64 n.tor.1.1, .int .i64 n.tor.1.2, .int .u64 n.tor.2.1, .int .i64 n.tor.2.2, .slice p len cap] tNr) = w.alloc (.cells (bnA n p len cap) tNr) := rfl
  try rw [e1]
  clear e1
  generalize w.alloc (.cells (bnA n p len cap) tNr) = w0 at hA0 HN1 HO1 HAB HFR hz ⊢
  have c0 : w0.cell? ⟨w.heap.size, 0, none⟩ = some (.int .i64 n.kind) := hA0.out.cell 0 _ rfl
  go_upto_region 2 with fail
  refine HN1.out.mono ?_
  rintro e w1 ⟨rfl, hwt, hb, hoth⟩
  have hP1 : PSt w w.heap.size B b n p len cap (L ++ numE n.kind.toNat) w1 := ⟨(hoth _ hz HFR.out).1.trans hA0.out, (hoth _ hz HFR.out).2, by have := hb.size; omega, hwt, (HAB.out.mono HBB.out).trans hb, HO1.out.trans hoth HAB.out.size, by have := hb.size; have := HAB.out.size; omega⟩
  obtain ⟨L1, hL1⟩ : ∃ L1, L ++ numE n.kind.toNat = L1 := ⟨_, rfl⟩
  rw [hL1] at hP1
  have HLN : Hid (L1.length + (hdN n).length + ((if n.kind = 7 then numE n.args.length else [] : List UInt8).length + (putNL n.args).length) ≤ 100000) := by
    unfold Hid
    rw [← hL1, List.length_append]
    have := HLL.out
    omega
  have HPU : Hid (L ++ putN n = (L1 ++ hdN n) ++ ((if n.kind = 7 then numE n.args.length else []) ++ putNL n.args)) := by
    unfold Hid
    rw [HPN.out, ← hL1]
    simp only [List.append_assoc]
  have HP1 := Lib.hid hP1
  have hBw1 : Hid (B ≤ w1.heap.size) := by have := hP1.2.2.2.2.2.2; have := HBB.out; unfold Hid; omega
  obtain ⟨U, hU⟩ : ∃ U, L ++ putN n = U := ⟨_, rfl⟩
  have HUE := Lib.hid hU
  rw [hU] at HPU
  clear hwt hb hoth HN1 HO1 HAB HFR hA0 c0 hP1 hL1 HLL HPN hU
  obtain ⟨g, hg⟩ : ∃ g, w.heap.size = g := ⟨_, rfl⟩
  rw [hg] at hz HP1 ⊢
  have c1 : w1.cell? ⟨g, 0, none⟩ = some (.int .i64 n.kind) := HP1.out.1.cell 0 _ rfl
  clear hz hg hq
  go_upto_block 0 with fail
  clear c1
  go_cut [] (fun wx => PSt w g B b n p len cap (L1 ++ hdN n) wx)
  case first =>
    clear HIH HRD HAL HPU
    by_cases k1 : n.kind = 1
    · have b1 : (n.kind == 1) = true := by simpa using k1
      have HD : Hid (hdN n = numE n.num.toNat) := by unfold Hid hdN; rw [if_pos k1]
      have HX := Lib.hid (HF.out.1 k1)
      have hqn : IntKind.u64.wrap n.num = n.num := IntWalk.u64_in _ (by have := HX.out; omega)
      have HC1 := Lib.hid (wnum_int B b L1 n.num (by have := HX.out; omega) (by have := HX.out; omega) w1 hBw1.out (by have := HLN.out; omega) HP1.out.2.2.2.1)
      have q1 : w1.cell? ⟨g, 1, none⟩ = some (.int .i64 n.num) := HP1.out.1.cell 1 _ rfl
      have c1 : w1.cell? ⟨g, 0, none⟩ = some (.int .i64 n.kind) := HP1.out.1.cell 0 _ rfl
      clear k1
      go_wp2_with fail
      refine HC1.out.mono ?_
      rintro e w2 ⟨rfl, hwt, hb, hoth⟩
      have HP2 := Lib.hid (HP1.out.next hwt hb hoth)
      clear hwt hb hoth HC1
      go_wp2_with fail
      go_meet
      rw [HD.out]
      exact HP2.out
    · skip
      by_cases k2 : n.kind = 2
      · have b1 : (n.kind == 1) = false := by simpa using k1
        have b2 : (n.kind == 2) = true := by simpa using k2
        have HD : Hid (hdN n = numE n.text.length ++ n.text) := by unfold Hid hdN; rw [if_neg k1, if_pos (by omega)]
        have HC1 := Lib.hid (wtext_any B b L1 n.text (by have := HF.out.2.1; omega) w1 hBw1.out (by have := HLN.out; omega) HP1.out.2.2.2.1)
        have q2 : w1.cell? ⟨g, 2, none⟩ = some (.string ⟨n.text.toArray⟩) := HP1.out.1.cell 2 _ rfl
        have c1 : w1.cell? ⟨g, 0, none⟩ = some (.int .i64 n.kind) := HP1.out.1.cell 0 _ rfl
        clear k1 k2
        go_wp2_with fail
        refine HC1.out.mono ?_
        rintro e w2 ⟨rfl, hwt, hb, hoth⟩
        have HP2 := Lib.hid (HP1.out.next hwt hb hoth)
        clear hwt hb hoth HC1
        go_wp2_with fail
        go_meet
        rw [HD.out]
        exact HP2.out
      · skip
        by_cases k6 : n.kind = 6
        · have b1 : (n.kind == 1) = false := by simpa using k1
          have b2 : (n.kind == 2) = false := by simpa using k2
          have b6 : (n.kind == 6) = true := by simpa using k6
          have HD : Hid (hdN n = numE n.text.length ++ n.text) := by unfold Hid hdN; rw [if_neg k1, if_pos (by omega)]
          have HC1 := Lib.hid (wtext_any B b L1 n.text (by have := HF.out.2.1; omega) w1 hBw1.out (by have := HLN.out; omega) HP1.out.2.2.2.1)
          have q2 : w1.cell? ⟨g, 2, none⟩ = some (.string ⟨n.text.toArray⟩) := HP1.out.1.cell 2 _ rfl
          have c1 : w1.cell? ⟨g, 0, none⟩ = some (.int .i64 n.kind) := HP1.out.1.cell 0 _ rfl
          clear k1 k2 k6
          go_wp2_with fail
          refine HC1.out.mono ?_
          rintro e w2 ⟨rfl, hwt, hb, hoth⟩
          have HP2 := Lib.hid (HP1.out.next hwt hb hoth)
          clear hwt hb hoth HC1
          go_wp2_with fail
          go_meet
          rw [HD.out]
          exact HP2.out
        · skip
          by_cases k7 : n.kind = 7
          · have b1 : (n.kind == 1) = false := by simpa using k1
            have b2 : (n.kind == 2) = false := by simpa using k2
            have b6 : (n.kind == 6) = false := by simpa using k6
            have b7 : (n.kind == 7) = true := by simpa using k7
            have HD : Hid (hdN n = numE n.text.length ++ n.text) := by unfold Hid hdN; rw [if_neg k1, if_pos (by omega)]
            have HC1 := Lib.hid (wtext_any B b L1 n.text (by have := HF.out.2.1; omega) w1 hBw1.out (by have := HLN.out; omega) HP1.out.2.2.2.1)
            have q2 : w1.cell? ⟨g, 2, none⟩ = some (.string ⟨n.text.toArray⟩) := HP1.out.1.cell 2 _ rfl
            have c1 : w1.cell? ⟨g, 0, none⟩ = some (.int .i64 n.kind) := HP1.out.1.cell 0 _ rfl
            clear k1 k2 k6 k7
            go_wp2_with fail
            refine HC1.out.mono ?_
            rintro e w2 ⟨rfl, hwt, hb, hoth⟩
            have HP2 := Lib.hid (HP1.out.next hwt hb hoth)
            clear hwt hb hoth HC1
            go_wp2_with fail
            go_meet
            rw [HD.out]
            exact HP2.out
          · skip
            by_cases k3 : n.kind = 3
            · have b1 : (n.kind == 1) = false := by simpa using k1
              have b2 : (n.kind == 2) = false := by simpa using k2
              have b6 : (n.kind == 6) = false := by simpa using k6
              have b7 : (n.kind == 7) = false := by simpa using k7
              have b3 : (n.kind == 3) = true := by simpa using k3
              have HD : Hid (hdN n = prE n.frm) := by unfold Hid hdN; rw [if_neg k1, if_neg (by omega), if_pos k3]
              have HX := Lib.hid (HF.out.2.2.1 k3)
              have HC1 := Lib.hid (rput_any B b L1 n.frm HX.out.1 HX.out.2 w1 hBw1.out (by have := HLN.out; omega) HP1.out.2.2.2.1)
              have q3 : w1.cell? ⟨g, 3, none⟩ = some (.int .u64 n.frm.1.1) := HP1.out.1.cell 3 _ rfl
              have q4 : w1.cell? ⟨g, 4, none⟩ = some (.int .i64 n.frm.1.2) := HP1.out.1.cell 4 _ rfl
              have q5 : w1.cell? ⟨g, 5, none⟩ = some (.int .u64 n.frm.2.1) := HP1.out.1.cell 5 _ rfl
              have q6 : w1.cell? ⟨g, 6, none⟩ = some (.int .i64 n.frm.2.2) := HP1.out.1.cell 6 _ rfl
              have c1 : w1.cell? ⟨g, 0, none⟩ = some (.int .i64 n.kind) := HP1.out.1.cell 0 _ rfl
              clear k1 k2 k6 k7 k3
              go_wp2_with fail
              refine HC1.out.mono ?_
              rintro e w2 ⟨rfl, hwt, hb, hoth⟩
              have HP2 := Lib.hid (HP1.out.next hwt hb hoth)
              clear hwt hb hoth HC1
              go_wp2_with fail
              go_meet
              rw [HD.out]
              exact HP2.out
            · skip
              by_cases k4 : n.kind = 4
              · have b1 : (n.kind == 1) = false := by simpa using k1
                have b2 : (n.kind == 2) = false := by simpa using k2
                have b6 : (n.kind == 6) = false := by simpa using k6
                have b7 : (n.kind == 7) = false := by simpa using k7
                have b3 : (n.kind == 3) = false := by simpa using k3
                have b4 : (n.kind == 4) = true := by simpa using k4
                have HD : Hid (hdN n = prE n.frm ++ prE n.tor) := by unfold Hid hdN; rw [if_neg k1, if_neg (by omega), if_neg k3, if_pos k4]
                have HX := Lib.hid ((HF.out.2.2.2 k4).1)
                have HY := Lib.hid ((HF.out.2.2.2 k4).2)
                have HC1 := Lib.hid (rput_any B b L1 n.frm HX.out.1 HX.out.2 w1 hBw1.out (by have := HLN.out; omega) HP1.out.2.2.2.1)
                have q3 : w1.cell? ⟨g, 3, none⟩ = some (.int .u64 n.frm.1.1) := HP1.out.1.cell 3 _ rfl
                have q4 : w1.cell? ⟨g, 4, none⟩ = some (.int .i64 n.frm.1.2) := HP1.out.1.cell 4 _ rfl
                have q5 : w1.cell? ⟨g, 5, none⟩ = some (.int .u64 n.frm.2.1) := HP1.out.1.cell 5 _ rfl
                have q6 : w1.cell? ⟨g, 6, none⟩ = some (.int .i64 n.frm.2.2) := HP1.out.1.cell 6 _ rfl
                have c1 : w1.cell? ⟨g, 0, none⟩ = some (.int .i64 n.kind) := HP1.out.1.cell 0 _ rfl
                clear k1 k2 k6 k7 k3 k4
                go_wp2_with fail
                refine HC1.out.mono ?_
                rintro e w2 ⟨rfl, hwt, hb, hoth⟩
                have HP2 := Lib.hid (HP1.out.next hwt hb hoth)
                have r7 : w2.cell? ⟨g, 7, none⟩ = some (.int .u64 n.tor.1.1) := HP2.out.1.cell 7 _ rfl
                have r8 : w2.cell? ⟨g, 8, none⟩ = some (.int .i64 n.tor.1.2) := HP2.out.1.cell 8 _ rfl
                have r9 : w2.cell? ⟨g, 9, none⟩ = some (.int .u64 n.tor.2.1) := HP2.out.1.cell 9 _ rfl
                have r10 : w2.cell? ⟨g, 10, none⟩ = some (.int .i64 n.tor.2.2) := HP2.out.1.cell 10 _ rfl
                have HC2 := Lib.hid (rput_any B b (L1 ++ prE n.frm) n.tor HY.out.1 HY.out.2 w2 (by have := hb.size; have := hBw1.out; omega) (by have := HLN.out; rw [HD.out] at this; simp only [List.length_append] at this ⊢; omega) hwt)
                clear hwt hb hoth HC1 q3 q4 q5 q6 c1
                go_wp2_with fail
                refine HC2.out.mono ?_
                rintro e w3 ⟨rfl, hwt, hb, hoth⟩
                have HP3 := Lib.hid (HP2.out.next hwt hb hoth)
                clear hwt hb hoth HC2
                go_wp2_with fail
                go_meet
                rw [HD.out, ← List.append_assoc]
                exact HP3.out
              · have b1 : (n.kind == 1) = false := by simpa using k1
                have b2 : (n.kind == 2) = false := by simpa using k2
                have b6 : (n.kind == 6) = false := by simpa using k6
                have b7 : (n.kind == 7) = false := by simpa using k7
                have b3 : (n.kind == 3) = false := by simpa using k3
                have b4 : (n.kind == 4) = false := by simpa using k4
                have HD : Hid (hdN n = []) := by unfold Hid hdN; rw [if_neg k1, if_neg (by omega), if_neg k3, if_neg k4]
                have c1 : w1.cell? ⟨g, 0, none⟩ = some (.int .i64 n.kind) := HP1.out.1.cell 0 _ rfl
                clear k1 k2 k6 k7 k3 k4
                go_wp2_with fail
                go_meet
                rw [HD.out, List.append_nil]
                exact HP1.out
  case rest =>
  have HP2 := Lib.hid hcut
  clear HP1 hcut hBw1
  obtain ⟨L2, hL2⟩ : ∃ L2, (L1 ++ hdN n) ++ (if n.kind = 7 then numE n.args.length else []) = L2 := ⟨_, rfl⟩
  have HU : Hid (U = L2 ++ putNL n.args) := by unfold Hid; rw [HPU.out, ← hL2]; simp only [List.append_assoc]
  have HLM : Hid (L2.length + (putNL n.args).length ≤ 100000) := by
    unfold Hid
    rw [← hL2]
    simp only [List.length_append]
    have := HLN.out
    omega
  have HL2 := Lib.hid hL2
  have hBc : Hid (B ≤ wc.heap.size) := by have := HP2.out.2.2.2.2.2.2; have := HBB.out; unfold Hid; omega
  have c0 : wc.cell? ⟨g, 0, none⟩ = some (.int .i64 n.kind) := HP2.out.1.cell 0 _ rfl
  clear hL2 HPU
  go_upto_if 46 with fail
  clear c0
  go_cut [] (fun wx => PSt w g B b n p len cap L2 wx)
  case first =>
    clear HU HIH HRD
    by_cases k7 : n.kind = 7
    · have b7 : (n.kind == 7) = true := by simpa using k7
      have HC1 := Lib.hid (wnum_any B b (L1 ++ hdN n) len (by omega) wc hBc.out (by have := HLN.out; simp only [List.length_append]; omega) HP2.out.2.2.2.1)
      have HD : Hid (L2 = (L1 ++ hdN n) ++ numE len) := by unfold Hid; rw [← HL2.out, if_pos k7, HAL.out]
      have q11 : wc.cell? ⟨g, 11, none⟩ = some (.slice p len cap) := HP2.out.1.cell 11 _ rfl
      clear k7 HL2
      go_wp2_with fail
      refine HC1.out.mono ?_
      rintro e w2 ⟨rfl, hwt, hb, hoth⟩
      have HP3 := Lib.hid (HP2.out.next hwt hb hoth)
      clear hwt hb hoth HC1
      go_wp2_with fail
      go_meet
      rw [HD.out]
      exact HP3.out
    · have b7 : (n.kind == 7) = false := by simpa using k7
      have HD : Hid (L2 = L1 ++ hdN n) := by unfold Hid; rw [← HL2.out, if_neg k7, List.append_nil]
      clear k7 HL2
      go_wp2_with fail
      go_meet
      rw [HD.out]
      exact HP2.out
  case rest =>
  have HP3 := Lib.hid hcut
  clear HP2 hcut hBc HLN HL2
  have c11 : wc.cell? ⟨g, 11, none⟩ = some (.slice p len cap) := HP3.out.1.cell 11 _ rfl
  go_wp2_with fail
  clear c11
  go_loopg [56] len (fun gm v56 wr => ∃ i : Nat, i + gm = len ∧ v56 = .int .i64 i ∧ PSt w g B b n p len cap (L2 ++ putNL (n.args.take i)) wr)
  case atStart => exact ⟨0, by omega, rfl, by rw [List.take_zero, putNL, List.append_nil]; exact HP3.out⟩
  case round =>
    obtain ⟨i, hig, rfl, hps⟩ := hrel
    have HPS := Lib.hid hps
    have hBr : B ≤ wr.heap.size := by have := hps.2.2.2.2.2.2; have := HBB.out; omega
    have HBr := Lib.hid hBr
    clear hps HP3
    by_cases hlt2 : i < len
    · have hli : (i : Int) < (len : Int) := by omega
      obtain ⟨d', bb, off, c, p', l', c', hd, rfl, hbN, hbz, hc, hrc, hrg⟩ := (HRD.out.low HPS.out.2.2.2.2.1).at hlt2
      have HC : Hid (PutC d') := HIH.out d' hd
      have HCO := Lib.hid (HCN.out.child (mem_of_at hc))
      have HLE : Hid ((L2 ++ putNL (n.args.take i)).length + (putN c).length ≤ 100000) := by
        unfold Hid
        rw [List.length_append]
        have := putNL_le hc
        have := HLM.out
        omega
      have HTA : Hid (putNL (n.args.take (i + 1)) = putNL (n.args.take i) ++ putN c) := putNL_take hc
      have HRC := Lib.hid hrc
      have HRG := Lib.hid hrg
      clear hc hrc hd hrg
      generalize putNL (n.args.take i) = T0 at HPS HLE HTA
      go_upto_region 18 with fail
      refine wp_region_lit ?_
      refine wpList_plain rfl fun K hK => ?_
      go_simp
      refine hK _ _ ?_
      clear hK K
      refine wpList_load_mid (by rfl) _ _ (by rfl) bb (off + i * 12) (by rfl) [.int .i64 c.kind, .int .i64 c.num, .string ⟨c.text.toArray⟩, .int .u64 c.frm.1.1, .int .i64 c.frm.1.2, .int .u64 c.frm.2.1, .int .i64 c.frm.2.2, .int .u64 c.tor.1.1, .int .i64 c.tor.1.2, .int .u64 c.tor.2.1, .int .i64 c.tor.2.2, .slice p' l' c'] _ HRG.out Tryz.underlying38 rfl (by kernel_rfl) ?_
      go_simp
      go_upto_region 19 with fail
      have hB1 : Below wr.heap.size wr (wr.alloc (.cells (bnA c p' l' c') tNr)) := by (repeat' (first | (with_reducible exact Below.refl _ _) | (with_reducible assumption) | (with_reducible refine Below.alloc ?_ ?_ _) | (with_reducible refine bel_drewN ?_ _) | (with_reducible refine Below.drew ?_) | (with_reducible refine Below.setCell ?_ ?_ _) | (with_reducible refine bel_call ‹_› ?_ ?_) | go_size))
      have hA1 : Hid (BlkC (wr.alloc (.cells (bnA c p' l' c') tNr)) wr.heap.size (bnA c p' l' c') tNr) := heap_alloc_new wr _
      have HP4 : Hid (PSt w g B b n (some ⟨bb, off, none⟩) len cap (L2 ++ T0) (wr.alloc (.cells (bnA c p' l' c') tNr))) := HPS.out.below HBB.out hB1
      have HR1 : Hid (RdQ rfE 12 (wr.alloc (.cells (bnA c p' l' c') tNr)) (· < B) d' c p' l') := HRC.out.low (hB1.mono hBr)
      have e1 : wr.alloc (.cells #[.int .i64 c.kind, .int .i64 c.num, .string ⟨c.text.toArray⟩, .int .u64 c.frm.1.1, .int .i64 c.frm.1.2, .int .u64 c.frm.2.1, .int .i64 c.frm.2.2, .int .u64 c.tor.1.1, .int .i64 c.tor.1.2, .int .u64 c.tor.2.1, .int .i64 c.tor.2.2, .slice p' l' c'] tNr) = wr.alloc (.cells (bnA c p' l' c') tNr) := rfl
      rw [e1]
      clear e1 HRC HPS HRG hB1
      generalize wr.alloc (.cells (bnA c p' l' c') tNr) = w2 at hA1 HP4 HR1 ⊢
      generalize wr.heap.size = b2 at hA1 ⊢
      have HCC := Lib.hid (HC.out B b (L2 ++ T0) c p' l' c' w2 (by have := HP4.out.2.2.2.2.2.2; have := HBB.out; omega) HLE.out HP4.out.2.2.2.1 HR1.out HCO.out)
      rw [bnA_eq] at HCC
      clear HC
      refine wp_region_lit ?_
      refine wpList_plain rfl fun K hK => ?_
      go_simp
      refine hK _ _ ?_
      clear hK K
      refine wpList_load_mid (by rfl) _ _ (by rfl) b2 0 (by rfl) [.int .i64 c.kind, .int .i64 c.num, .string ⟨c.text.toArray⟩, .int .u64 c.frm.1.1, .int .i64 c.frm.1.2, .int .u64 c.frm.2.1, .int .i64 c.frm.2.2, .int .u64 c.tor.1.1, .int .i64 c.tor.1.2, .int .u64 c.tor.2.1, .int .i64 c.tor.2.2, .slice p' l' c'] _ (block_range hA1.out [.int .i64 c.kind, .int .i64 c.num, .string ⟨c.text.toArray⟩, .int .u64 c.frm.1.1, .int .i64 c.frm.1.2, .int .u64 c.frm.2.1, .int .i64 c.frm.2.2, .int .u64 c.tor.1.1, .int .i64 c.tor.1.2, .int .u64 c.tor.2.1, .int .i64 c.tor.2.2, .slice p' l' c'] (by rfl)) Tryz.underlying38 rfl (by kernel_rfl) ?_
      go_simp
      go_wp2_with fail
      refine HCC.out.mono ?_
      rintro e w3 ⟨rfl, hwt, hb, hoth⟩
      have HP5 := Lib.hid (HP4.out.next hwt hb hoth)
      clear hwt hb hoth HCC HP4 HR1 hA1
      go_wp2_with fail
      go_roundg (gk - 1)
      case measure => omega
      case rel => exact ⟨i + 1, by omega, by go_num, by rw [HTA.out, ← List.append_assoc]; exact HP5.out⟩
    · obtain rfl : i = len := by omega
      have hli : ¬ (i : Int) < (i : Int) := by omega
      have HDE : Hid (U = L2 ++ putNL (n.args.take i)) := by
        unfold Hid
        rw [HU.out, List.take_of_length_le (by rw [HAL.out]; exact Nat.le_refl _)]
      go_wp2_with fail
      go_end0
      rw [HUE.out, HDE.out]
      exact ⟨rfl, HPS.out.2.2.2.1, HPS.out.2.2.2.2.1, HPS.out.2.2.2.2.2.1⟩
theorem put_any : ∀ d, PutC d
  | 0 => put_s 0 (fun d' h => by omega)
  | d + 1 => put_s (d + 1) (fun d' h => by obtain rfl : d' = d := by omega
                                           exact put_any d')
end Go.Proofs.YtjklbbmgjjdalaaGreatDoor.Bd
namespace Go.Proofs.YtjklbbmgjjdalaaGreatDoor.Bd
open Go.RowKit Go.Joins
theorem rt_bd {rows cols : List Idp} {n : Nd} (h : Fm n) : bdE rows cols n = 0 → ∀ lv : Int, rtN n lv = true → rtT (bdM rows cols n) lv = true := by
  have key : ∀ (k u : Int) (t : List UInt8) (f o : Int) (a : List Nd), bdE rows cols (.mk k u t f o a) = 0 → (∀ c ∈ a, ∀ lv : Int, rtN c lv = true → rtT (bdM rows cols c) lv = true) → ∀ lv : Int, rtN (.mk k u t f o a) lv = true → rtT (bdM rows cols (.mk k u t f o a)) lv = true := by
    intro k u t f o a he ih lv hr
    rw [bdM_go (bdE_parts he).1, rtT]
    rw [rtN] at hr
    have hL : ∀ (l : List Nd), (∀ c ∈ l, ∀ lv : Int, rtN c lv = true → rtT (bdM rows cols c) lv = true) → rtL l (lv - 1) = true → rtTL (l.map (bdM rows cols)) (lv - 1) = true := by
      intro l
      induction l with
      | nil => intro _ _; rw [List.map_nil, rtTL]
      | cons c l ihl =>
        intro hc hl
        rw [rtL, Bool.and_eq_true] at hl
        rw [List.map_cons, rtTL, hc c (by simp) _ hl.1, ihl (fun x hx => hc x (by simp [hx])) hl.2]
        rfl
    simp only [Bool.and_eq_true] at hr ⊢
    refine ⟨?_, hL a ih hr.2⟩
    have h1 := hr.1
    simp [headB, tagB, headT, tagT, Nd.kind, Nd.args, Nd.num, Nd.text, Tn.kind, Tn.args, Tn.num, Tn.text] at h1 ⊢
    exact h1
  induction h with
  | num u h1 h2 => intro he; exact key _ _ _ _ _ _ he (fun c hc => by cases hc)
  | txt t => intro he; exact key _ _ _ _ _ _ he (fun c hc => by cases hc)
  | ref f h => intro he; exact key _ _ _ _ _ _ he (fun c hc => by cases hc)
  | rng f o h1 h2 => intro he; exact key _ _ _ _ _ _ he (fun c hc => by cases hc)
  | neg a h ih => intro he; exact key _ _ _ _ _ _ he (fun c hc => by obtain rfl := List.mem_singleton.1 hc; exact ih ((bdE_parts he).2 _ (by simp)))
  | bin t a b hl h1 h2 ih1 ih2 =>
    intro he
    refine key _ _ _ _ _ _ he (fun c hc => ?_)
    have hc' := (bdE_parts he).2 c hc
    rcases List.mem_cons.1 hc with rfl | hc
    · exact ih1 hc'
    · obtain rfl := List.mem_singleton.1 hc; exact ih2 hc'
  | cal t ar hn hl h ih => intro he; exact key _ _ _ _ _ _ he (fun c hc => ih c hc ((bdE_parts he).2 c hc))
  | flt => intro he; exact key _ _ _ _ _ _ he (fun c hc => by cases hc)
mutual
theorem txM_S : ∀ n : Nd, txM 256 n → txS n
  | .mk k u t f o a, h => by
    rw [txM] at h
    rw [txS]
    exact ⟨by omega, txM_SL a h.2⟩
theorem txM_SL : ∀ a : List Nd, txM.txL 256 a → txS.txL a
  | [], _ => by rw [txS.txL]; trivial
  | c :: r, h => by
    rw [txM.txL] at h
    rw [txS.txL]
    exact ⟨txM_S c h.1, txM_SL r h.2⟩
end
theorem numE_len (n : Nat) : (numE n).length ≤ 10 := numEF_len 10 n
theorem hdB_len (k u : Int) (t : List UInt8) (f g : Rfp) (ht : t.length ≤ 256) : (hdB k u t f g).length ≤ 266 := by
  have h1 := numE_len (u % 18446744073709551616).toNat
  have h2 := numE_len t.length
  have h3 := stE_len f.1
  have h4 := stE_len f.2
  have h5 := stE_len g.1
  have h6 := stE_len g.2
  unfold hdB prE
  split
  · omega
  · split
    · rw [List.length_append]; omega
    · split
      · rw [List.length_append]; omega
      · split
        · simp only [List.length_append]; omega
        · simp
mutual
theorem put_len (rows cols : List Idp) : ∀ n : Nd, txM 256 n → (putN (bdM rows cols n)).length ≤ 300 * cnN n
  | .mk k u t f o a, h => by
    rw [txM] at h
    rw [cnN]
    by_cases h0 : hdE rows cols k f o = 0
    · have hL := put_lenL rows cols a h.2
      rw [bdM, if_pos h0, putN]
      have h1 := numE_len (k % 18446744073709551616).toNat
      have h2 := hdB_len k u t (if k = 3 ∨ k = 4 then (bdC rows cols f).1 else ((0, 0), (0, 0))) (if k = 4 then (bdC rows cols o).1 else ((0, 0), (0, 0))) h.1
      have h3 := numE_len (bdML rows cols a).length
      have h4 : (if k = 7 then numE (bdML rows cols a).length else [] : List UInt8).length ≤ 10 := by
        split
        · exact h3
        · simp
      simp only [List.length_append]
      omega
    · rw [bdM, if_neg h0]
      have e : (putN fltB).length ≤ 300 := by decide
      omega
theorem put_lenL (rows cols : List Idp) : ∀ a : List Nd, txM.txL 256 a → (putNL (bdML rows cols a)).length ≤ 300 * cnL a
  | [], _ => by rw [bdML, putNL]; simp
  | c :: r, h => by
    rw [txM.txL] at h
    rw [bdML, putNL, List.length_append, cnL]
    have h1 := put_len rows cols c h.1
    have h2 := put_lenL rows cols r h.2
    omega
end
theorem take_put {rows cols : List Idp} {n : Nd} (hr : ∀ x ∈ rows, okI x) (hc : ∀ x ∈ cols, okI x) (h : Fm n) (he : bdE rows cols n = 0) (ht : txM 256 n) (hd : dpN n ≤ 64) : takB (putN (bdM rows cols n)) = some (bdM rows cols n, []) := by
  have hrt : rtT (bdM rows cols n) 64 = true := rt_bd h he 64 (rt_fm h 64 (by omega))
  rw [takB_prog]
  have e := tk_put (cn_bd hr hc h he (txM_S n ht)) 64 [] hrt
  rw [List.append_nil] at e
  rw [e]
  simp only [Option.bind_some]
  rw [if_pos hrt]
end Go.Proofs.YtjklbbmgjjdalaaGreatDoor.Bd
namespace Go.Proofs.YtjklbbmgjjdalaaGreatDoor.Bd
open Go.RowKit Go.ChangeShapes Go.WideShapes Go.ChangeAt Go.Joins
section
variable {H : Type} {enc : TypeId × Value → H} {w : World} {base : Nat} {spare : Nat → Bool} {held : Bool}
set_option maxRecDepth 100000 in
theorem openN_id {fuel : Nat} {c0 c1 : Value} {x : DataW H × List MemPlace} (h : DataW.trod enc Tryz.prog w base spare held fuel tId [c0, c1] = some x) : ∃ q : Idp, c0 = .int .u64 q.1 ∧ c1 = .int .i64 q.2 ∧ 0 ≤ q.1 := by
  have cu : Tryz.prog.cellsOf 31 = 1 := by kernel_rfl
  have ci : Tryz.prog.cellsOf 3 = 1 := by kernel_rfl
  obtain ⟨xs, n1, _, _, _, hxl, hf⟩ := DataW.trod_struct Tryz.underlying33 h
  obtain ⟨y0, y1, rfl⟩ := lst2 hxl
  have f0 := hf 0 _ rfl
  have f1 := hf 1 _ rfl
  simp only [cu, ci, List.drop_zero, List.drop_succ_cons, List.take_succ_cons, List.take_zero, List.getElem?_cons_zero, List.getElem?_cons_succ] at f0 f1
  obtain ⟨c, e0, _, hwf⟩ := DataW.trod_int Tryz.underlying31 f0
  obtain ⟨d, e1, _, _⟩ := DataW.trod_int Tryz.underlying3 f1
  injection e0 with e0
  injection e1 with e1
  have h1 : IntKind.u64.min ≤ c ∧ c ≤ IntKind.u64.max := by simpa only [Lit.wf, Bool.and_eq_true, decide_eq_true_eq] using hwf
  have e2 : IntKind.u64.min = 0 := by decide
  exact ⟨(c, d), e0, e1, by rw [← e2]; exact h1.1⟩
set_option maxRecDepth 100000 in
theorem openN_ids {fuel : Nat} {v : Value} {x : DataW H × List MemPlace} (h : DataW.trod enc Tryz.prog w base spare held fuel 22 [v] = some x) :
    ∃ p n cap L, v = .slice p n cap ∧ n ≤ 9223372036854775807 ∧ RdG idE 2 w p n L ∧ ∀ x ∈ L, 0 ≤ x.1 := by
  rcases Go.Deep.open_slice Tryz.underlying22 h with ⟨hcs, _⟩ | ⟨a, len, cap, m, n, D, Pl, hcs, _, hl, hm, hmm, _, hx⟩
  · injection hcs with hcs
    exact ⟨none, 0, 0, [], hcs, by omega, RdG.nil _ _ _ _, fun x hx => by cases hx⟩
  · injection hcs with hcs
    have hb : len ≤ 9223372036854775807 := by unfold maxLen at hm; omega
    have hml : len ≤ m := by rw [hmm]; split <;> omega
    have hc2 : Tryz.prog.cellsOf tId = 2 := by kernel_rfl
    rw [hc2] at hx
    have each : ∀ i, i < len → ∃ q : Idp, w.cell? (a.add (i * 2)) = some (.int .u64 q.1) ∧ w.cell? (a.add (i * 2 + 1)) = some (.int .i64 q.2) ∧ 0 ≤ q.1 := by
      intro i hi
      obtain ⟨cs', hcs', htr⟩ := hx i (by omega)
      obtain ⟨_, hlen, hcell⟩ := World.cells?_some hcs'
      obtain ⟨c0, c1, rfl⟩ := lst2 hlen
      obtain ⟨q, rfl, rfl, hq0⟩ := openN_id htr
      have p0 := hcell 0 (by omega)
      have p1 := hcell 1 (by omega)
      simp only [Go.Deep.add_add, List.getElem?_cons_zero, List.getElem?_cons_succ, Nat.add_zero] at p0 p1
      exact ⟨q, p0, p1, hq0⟩
    obtain ⟨f, hf⟩ := Go.Deep.choose_lt each
    refine ⟨some a, len, cap, (List.range len).map f, hcs, hb, ⟨by simp, ?_⟩, fun x hx => by
      obtain ⟨j, hj, rfl⟩ := List.mem_map.1 hx
      exact (hf j (List.mem_range.1 hj)).2.2⟩
    rcases Nat.eq_zero_or_pos len with h0 | h0
    · exact .inl h0
    · right
      obtain ⟨b, o, sp⟩ := a
      have hs : sp = none := by
        obtain ⟨p0, _, _⟩ := hf 0 h0
        cases sp with
        | none => rfl
        | some k =>
          unfold Addr.add World.cell? at p0
          simp at p0
          split at p0 <;> cases p0
      subst hs
      refine ⟨b, o, rfl, ?_, fun j y hy k u hu => ?_⟩
      · have hx := World.block_lt_of_cell? w _ (hf 0 h0).1
        rw [block_addB] at hx
        exact hx
      · have hj : j < len := by have := (List.getElem?_eq_some_iff.1 hy).1; simpa using this
        rw [List.getElem?_map, List.getElem?_range hj] at hy
        cases hy
        obtain ⟨p0, p1, _⟩ := hf j hj
        rw [add_plainB] at p0 p1
        match k, hu with
        | 0, hu => cases hu; exact p0
        | 1, hu => cases hu; exact p1
set_option maxRecDepth 100000 in
theorem openN_idl {r : Reach} {b0 : Nat} {v : Value} {d : DataW H} {p : List MemPlace} (hv : Value.okWide Tryz.prog w r b0 22 v) (h : DataW.Trod enc Tryz.prog w base spare held 22 v d p) : ∃ q n cap L, v = .slice q n cap ∧ n ≤ 9223372036854775807 ∧ RdG idE 2 w q n L ∧ ∀ x ∈ L, 0 ≤ x.1 := by
  obtain ⟨a, len, cap, rfl⟩ := okWide_slice Tryz.underlying22 hv
  obtain ⟨fuel, hf⟩ := h
  exact openN_ids hf
end
set_option maxRecDepth 100000 in
theorem rend_any (b : Nat) (L : List UInt8) (w : World) (h : Rdr w b (some L)) : Calls Tryz.prog 25 #[.pointer (some ⟨b, 0, none⟩)] w fun e w' => e = .returned (.bool (decide (L.length = 0))) ∧ Below w.heap.size w w' := by
  obtain ⟨p, n, cap, bad, hb, rfl, hl, hr⟩ := h
  have hn : L.length = n := hr.1
  have c0 : w.cell? ⟨b, 0, none⟩ = some (.slice p n cap) := by rw [cell_of_block hb]; rfl
  have c1 : w.cell? ⟨b, 1, none⟩ = some (.bool false) := by rw [cell_of_block hb]; rfl
  have hd : ((n : Int) == 0) = decide (L.length = 0) := by rw [hn]; by_cases h0 : n = 0 <;> simp [h0]
  obtain ⟨D, hD⟩ : ∃ D, decide (L.length = 0) = D := ⟨_, rfl⟩
  have hFi : Calls Tryz.prog 49 #[.pointer (some ⟨b, 0, none⟩)] w fun e w' => e = .returned (.bool true) ∧ Below w.heap.size w w' := by
    go_enter Tryz.func49, Tryz.ntmps49
    go_wp2_with fail
    go_ret
    exact ⟨rfl, Below.refl _ _⟩
  rw [hD] at hd ⊢
  clear hD hr hn hl hb
  go_enter Tryz.func25, Tryz.ntmps25
  go_wp2_with fail
  refine hFi.mono ?_
  rintro e w1 ⟨rfl, hb⟩
  have c0 := (hb.cell (p := ⟨b, 0, none⟩) (lt_of_cell c0)).trans c0
  go_wp2_with fail
  go_ret
  exact ⟨rfl, hb⟩
def RedX (w : World) (e : Ending) (w' : World) : Prop := (∃ (n : Nd) (p : Option Addr) (l cap : Nat) (b : Bool), e = .returned (.tuple #[.agg (ndA n p l cap), .bool b]) ∧ (b = true → l = n.args.length ∧ Fm n ∧ OkN n ∧ cnN n ≤ 1000 ∧ wtN n ≤ 260000 ∧ dpN n ≤ 64 ∧ (txM 256 n ∧ cnN n ≤ 256) ∧ ∀ d, dpN n ≤ d + 1 → RdP w' (fun k => w.heap.size ≤ k ∧ k < w'.heap.size) d n p l)) ∧ Below w.heap.size w w'
set_option maxRecDepth 100000 in
set_option maxHeartbeats 16000000 in
theorem lread_x (s : ByteArray) (w : World) : Calls Tryz.prog 5 #[.string s] w (RedX w) := by
  have hA0 : Hid (BlkC (w.alloc (.cells (ndA nodeZ none 0 0) tRn)) w.heap.size (ndA nodeZ none 0 0) tRn) := heap_alloc_new w _
  have hAB : Hid (Below w.heap.size w (w.alloc (.cells (ndA nodeZ none 0 0) tRn))) := by unfold Hid; (repeat' (first | (with_reducible exact Below.refl _ _) | (with_reducible assumption) | (with_reducible refine Below.alloc ?_ ?_ _) | (with_reducible refine bel_drewN ?_ _) | (with_reducible refine Below.drew ?_) | (with_reducible refine Below.setCell ?_ ?_ _) | (with_reducible refine bel_call ‹_› ?_ ?_) | go_size))
  have HFM := Lib.hid (rformula_x s (w.alloc (.cells (ndA nodeZ none 0 0) tRn)))
  have hsz : (w.alloc (.cells (ndA nodeZ none 0 0) tRn)).heap.size = w.heap.size + 1 := World.size_alloc _ _
  go_enter Tryz.func5, Tryz.ntmps5
  go_upto_region 1 with fail
  have e0 : w.alloc (.cells #[.int .i64 0, .int .i64 0, .string ⟨#[]⟩, .int .i64 0, .int .i64 0, .slice none 0 0] tRn) = w.alloc (.cells (ndA nodeZ none 0 0) tRn) := rfl
  rw [e0]
  clear e0
  generalize w.alloc (.cells (ndA nodeZ none 0 0) tRn) = w0 at hA0 hAB HFM hsz ⊢
  go_wp2_with fail
  refine HFM.out.mono ?_
  rintro e w1 ⟨⟨n, p, l, cap, k, rfl, hk⟩, hb⟩
  have hB1 : Hid (Below w.heap.size w w1) := bel_call hb hAB.out hAB.out.size
  have hA1 := Lib.hid (hA0.out.below hb)
  have HK := Lib.hid hk
  have hs1 := hb.size
  clear hb hk HFM hA0 hAB
  rw [show Value.agg (ndA n p l cap) = .agg #[.int .i64 n.kind, .int .i64 n.num, .string ⟨n.text.toArray⟩, .int .i64 n.frm, .int .i64 n.tor, .slice p l cap] from rfl]
  go_upto_region 2 with fail
  have e1 : w1.alloc (.cells #[.int .i64 n.kind, .int .i64 n.num, .string ⟨n.text.toArray⟩, .int .i64 n.frm, .int .i64 n.tor, .slice p l cap] tRn) = w1.alloc (.cells (ndA n p l cap) tRn) := rfl
  rw [e1]
  clear e1
  have hbn : Below w1.heap.size w1 (w1.alloc (.cells (ndA n p l cap) tRn)) := (Below.refl _ _).alloc (Nat.le_refl _) _
  have hX : Hid (BlkC (w1.alloc (.cells (ndA n p l cap) tRn)) w1.heap.size (ndA n p l cap) tRn) := heap_alloc_new w1 _
  have hA2 := Lib.hid (hA1.out.below hbn)
  have hB2 : Hid (Below w.heap.size w (w1.alloc (.cells (ndA n p l cap) tRn))) := bel_call hbn hB1.out hB1.out.size
  have hs2 := hbn.size
  have HB12 : Hid (∀ j, j < w1.heap.size → (w1.alloc (.cells (ndA n p l cap) tRn)).heap[j]? = w1.heap[j]?) := fun j hj => hbn.block j hj
  clear hbn hA1 hB1
  generalize w1.alloc (.cells (ndA n p l cap) tRn) = w2 at hX hA2 hB2 hs2 HB12 ⊢
  generalize w1.heap.size = gX at hX hs1 hs2 HB12 HK ⊢
  obtain ⟨B, hB⟩ : ∃ B, decide (k = 0) = B := ⟨_, rfl⟩
  have hB3 : (k == 0) = B := by rw [← hB]; by_cases h : k = 0 <;> simp [h]
  have HBK : Hid (B = true → k = 0) := fun h => of_decide_eq_true (hB.trans h)
  clear hB
  have c0 := hX.out.cell 0 (.int .i64 n.kind) rfl
  have c1 := hX.out.cell 1 (.int .i64 n.num) rfl
  have c2 := hX.out.cell 2 (.string ⟨n.text.toArray⟩) rfl
  have c3 := hX.out.cell 3 (.int .i64 n.frm) rfl
  have c4 := hX.out.cell 4 (.int .i64 n.tor) rfl
  have c5 := hX.out.cell 5 (.slice p l cap) rfl
  refine wp_region_lit ?_
  refine wpList_load_mid (by rfl) _ _ (by rfl) gX 0 (by rfl) [.int .i64 n.kind, .int .i64 n.num, .string ⟨n.text.toArray⟩, .int .i64 n.frm, .int .i64 n.tor, .slice p l cap] _ (block_range hX.out [.int .i64 n.kind, .int .i64 n.num, .string ⟨n.text.toArray⟩, .int .i64 n.frm, .int .i64 n.tor, .slice p l cap] rfl) Tryz.underlying25 rfl (by kernel_rfl) ?_
  go_simp
  refine wpList_plain rfl fun K hK => ?_
  go_simp
  refine hK _ _ ?_
  clear hK K
  refine wpList_plain rfl fun K hK => ?_
  go_simp
  refine hK _ _ ?_
  clear hK K
  refine wpList_store_mid (by rfl) _ _ _ (by rfl) w.heap.size 0 #[.int .i64 n.kind, .int .i64 n.num, .string ⟨n.text.toArray⟩, .int .i64 n.frm, .int .i64 n.tor, .slice p l cap] (by rfl) (by rfl) (block_there hA2.out 6 (Nat.le_refl _)) (by kernel_rfl) (by simp [Value.oneCell']) ?_
  have HS8 : Hid (BlkC (w2.setCells w.heap.size 0 (#[.int .i64 n.kind, .int .i64 n.num, .string ⟨n.text.toArray⟩, .int .i64 n.frm, .int .i64 n.tor, .slice p l cap]).toList) w.heap.size (ndA n p l cap) tRn) := store_block hA2.out _ rfl
  have HB8 : Hid (Below w.heap.size w (w2.setCells w.heap.size 0 (#[.int .i64 n.kind, .int .i64 n.num, .string ⟨n.text.toArray⟩, .int .i64 n.frm, .int .i64 n.tor, .slice p l cap]).toList)) := store_below (Nat.le_refl _) _ _ _ hB2.out
  have HO8 : Hid (∀ j, j ≠ w.heap.size → (w2.setCells w.heap.size 0 (#[.int .i64 n.kind, .int .i64 n.num, .string ⟨n.text.toArray⟩, .int .i64 n.frm, .int .i64 n.tor, .slice p l cap]).toList).heap[j]? = w2.heap[j]?) := fun j hj => store_other hj _ _ _
  have hz8 := (store_below (Nat.zero_le w.heap.size) (#[.int .i64 n.kind, .int .i64 n.num, .string ⟨n.text.toArray⟩, .int .i64 n.frm, .int .i64 n.tor, .slice p l cap]).toList 0 w2 (Below.refl 0 w2)).size
  clear hX hA2 hB2 c0 c1 c2 c3 c4 c5
  generalize w2.setCells w.heap.size 0 (#[.int .i64 n.kind, .int .i64 n.num, .string ⟨n.text.toArray⟩, .int .i64 n.frm, .int .i64 n.tor, .slice p l cap]).toList = w9 at HS8 HB8 HO8 hz8 ⊢
  go_simp
  go_wp2_with fail
  try simp only [Exit.inBlock, Exit.then]
  refine bodyPost_ret (results_row_tmp rfl _ _ w.heap.size tRn (ndA n p l cap) (0, 0) _ rfl HS8.out Tryz.underlying25 rfl (by kernel_rfl) _ rfl) rfl ?_
  refine ⟨⟨n, p, l, cap, B, rfl, fun h => ?_⟩, HB8.out⟩
  obtain ⟨h1, h2, h3, h4, h5, h6, hx, h7⟩ := HK.out.1 (HBK.out h)
  exact ⟨h1, h2, h3, h4, h5, h6, hx, fun d hd => (h7 d hd).carry (fun j hj => ⟨⟨by omega, by omega⟩, (HO8.out j (by omega)).trans (HB12.out j hj.2)⟩)⟩
theorem bsm_self : ∀ n : Bn, bsmN n n = true
  | .mk k u t f o a => by
    rw [bsmN, bsmL_self a]
    simp
where bsmL_self : ∀ a : List Bn, bsmL a a = true
  | [] => by rw [bsmL]
  | x :: r => by rw [bsmL, bsm_self x, bsmL_self r]; rfl
def fltL (l : List Idp) : List Idp := (l.take 60).filter rtI
theorem flt_len (l : List Idp) : (fltL l).length ≤ 60 := by
  unfold fltL
  have h1 := List.length_filter_le rtI (l.take 60)
  have h2 : (l.take 60).length ≤ 60 := by simp; omega
  omega
theorem flt_step {l : List Idp} {x : Idp} {i : Nat} (h : l[i]? = some x) : (l.take (i + 1)).filter rtI = (l.take i).filter rtI ++ (if rtI x then [x] else []) := by
  rw [List.take_add_one, h, List.filter_append]
  by_cases hx : rtI x = true <;> simp [hx]
theorem lines_ok {l : List Idp} (h : ∀ x ∈ l, 0 ≤ x.1) : ∀ x ∈ linesL (fltL l), okI x := by
  intro x hx
  have h1 := lines_mem hx
  unfold fltL at h1
  rw [List.mem_filter] at h1
  exact ⟨h x (List.mem_of_mem_take h1.1), h1.2⟩
end Go.Proofs.YtjklbbmgjjdalaaGreatDoor.Bd
namespace Go.Proofs.YtjklbbmgjjdalaaGreatDoor.Bd
open Go.RowKit Go.Joins
def RetO (L : List UInt8) (W : World) (e : Ending) (w' : World) : Prop := ∃ v, e = .returned v ∧ w'.ownsRow W.heap.size 5 1 v L.length (L.map u8V) ∧ Below W.heap.size W w'
set_option maxRecDepth 100000 in
set_option maxHeartbeats 2000000 in
theorem rnum_own (n : Nat) (hn : n < 18446744073709551616) (w : World) : Calls Tryz.prog 45 #[.int .u64 n] w (RetO (numE n) w) := by
  obtain ⟨i0, hi, hz0, hz1, hz2⟩ := info_parts infou8
  have HN := Lib.hid hn
  obtain ⟨E, hE⟩ : ∃ E, numE n = E := ⟨_, rfl⟩
  have HE : Hid (numEF 10 n = E) := hE
  rw [hE]
  clear hn hE
  go_enter Tryz.func45, Tryz.ntmps45
  go_wp2_with fail
  go_loopg [0, 3] 10 (fun gm v0 v3 wr => ∃ (m : Nat) (A : List UInt8), 0 < gm ∧ m < 18446744073709551616 ∧ v0 = .int .u64 m ∧ m < 128 ^ gm ∧ A.length + gm = 10 ∧ A ++ numEF gm m = E ∧ wr.ownsRow w.heap.size 5 1 v3 A.length (A.map u8V) ∧ Below w.heap.size w wr)
  case atStart => exact ⟨n, [], by omega, HN.out, rfl, by rw [p128_10]; have := HN.out; omega, rfl, HE.out, World.ownsRow_nil _ _ _ _, Below.refl _ _⟩
  case round =>
    obtain ⟨m, A, hg0, hm, rfl, hmg, hA, hAE, hown, hb⟩ := hrel
    have HAE := Lib.hid hAE
    have HM := Lib.hid hm
    have HMG := Lib.hid hmg
    have HAL := Lib.hid hA
    have hAl : A.length ≤ 9 := by omega
    obtain ⟨f, rfl⟩ : ∃ f, gk = f + 1 := ⟨gk - 1, by omega⟩
    have hsz := hb.size
    clear hAE hm hmg hA
    by_cases h128 : m < 128
    · have hi127 : ¬ (127 : Int) < (m : Int) := by omega
      have hq : IntKind.u8.wrap (m : Int) = (m : Int) := IntWalk.u8_in _ (by omega)
      have HF : Hid (A ++ [UInt8.ofNat m] = E) := by unfold Hid; rw [← HAE.out, numEF_small h128]
      have hmn : (UInt8.ofNat m).toNat = m := u8_of (by omega)
      have HMN := Lib.hid hmn
      clear HAE hmn
      go_wp2_with (at_builtin; refine wpList_append_own _ rfl (.tmp 15) (.tmp 18) _ rfl w.heap.size 5 i0 (.int .u8 0) 1 1 Tryz.underlying65 hi hz0 hz1 hz2 rfl (by decide) _ A.length (A.map u8V) rfl (hown.alloc _) ⟨wr.heap.size, 0, none⟩ 1 1 [.int .u8 (m : Nat)] rfl rfl (new1 wr (.int .u8 (m : Nat)) _) ?c2 ?c3 ?c4 ?c5 ?_)
      case c2 => first | exact one_u8 m | rfl
      case c3 => unfold maxLen; omega
      case c4 => omega
      case c5 => first | (simp; omega) | omega | (rw [World.size_alloc]; omega)
      intro v' w1 hown1 hgrow1 _
      go_wp2_with fail
      go_ret
      have hown2 : w1.ownsRow w.heap.size 5 1 v' E.length (E.map fun c => Value.int .u8 (c.toNat : Nat)) := by
        rw [← HF.out, List.map_append, List.length_append]
        simpa [HMN.out] using hown1
      exact ⟨v', rfl, hown2, (hb.alloc hsz _).grown hgrow1 (by simp; omega) (fun k hk => (hown.lt k hk).1)⟩
    · have hi127 : (127 : Int) < (m : Int) := by omega
      obtain ⟨x, hx⟩ : ∃ x, m % 128 = x := ⟨_, rfl⟩
      have hxi : (m : Int) % 128 = (x : Int) := by omega
      have hq : IntKind.u8.wrap (x : Int) = (x : Int) := IntWalk.u8_in _ (by omega)
      have hq2 : IntKind.u8.wrap ((x : Int) + 128) = (x : Int) + 128 := IntWalk.u8_in _ (by omega)
      have hq3 : IntKind.u64.wrap ((m : Int) / 128) = (m : Int) / 128 := IntWalk.u64_in _ (by have := HM.out; omega)
      have HF : Hid ((A ++ [UInt8.ofNat (x + 128)]) ++ numEF f (m / 128) = E) := by unfold Hid; rw [← HAE.out, numEF_great h128, hx, List.append_assoc]; rfl
      have HMN : Hid ((UInt8.ofNat (x + 128)).toNat = x + 128) := u8_of (by omega)
      generalize UInt8.ofNat (x + 128) = dd at HF HMN
      have hf0 : 0 < f := by
        rcases Nat.eq_zero_or_pos f with h | h
        · subst h
          have := HMG.out
          simp at this
          omega
        · exact h
      have HMD : Hid (m / 128 < 128 ^ f) := by
        unfold Hid
        have := HMG.out
        rw [Nat.pow_succ] at this
        omega
      clear HAE hx
      go_wp2_with (at_builtin; refine wpList_append_own _ rfl (.tmp 6) (.tmp 11) _ rfl w.heap.size 5 i0 (.int .u8 0) 1 1 Tryz.underlying65 hi hz0 hz1 hz2 rfl (by decide) _ A.length (A.map u8V) rfl (hown.alloc _) ⟨wr.heap.size, 0, none⟩ 1 1 [.int .u8 ((x : Int) + 128)] rfl rfl (new1 wr (.int .u8 ((x : Int) + 128)) _) ?c2 ?c3 ?c4 ?c5 ?_)
      case c2 => exact one_u8i _
      case c3 => unfold maxLen; omega
      case c4 => omega
      case c5 => first | (simp; omega) | omega | (rw [World.size_alloc]; omega)
      intro v' w1 hown1 hgrow1 _
      go_wp2_with fail
      go_roundg f
      case measure => omega
      case rel =>
        refine ⟨m / 128, A ++ [dd], hf0, by have := HM.out; omega, by go_num, HMD.out, by rw [List.length_append]; have := HAL.out; simp; omega, HF.out, ?_, (hb.alloc hsz _).grown hgrow1 (by simp; omega) (fun k hk => (hown.lt k hk).1)⟩
        rw [List.map_append, List.length_append, List.map_cons, List.map_nil, show u8V dd = Value.int .u8 ((x : Int) + 128) by show Value.int .u8 (dd.toNat : Nat) = _; rw [HMN.out]; rfl]
        simpa using hown1
set_option maxRecDepth 100000 in
set_option maxHeartbeats 2000000 in
theorem rbytes_own (p : Option Addr) (n cap B : Nat) (T : List UInt8) (hn : n ≤ 100000) (w : World) (hT : RdU w B p n cap T) :
    Calls Tryz.prog 46 #[.slice p n cap] w (RetO (numE n ++ T) w) := by
  obtain ⟨i0, hi, hz0, hz1, hz2⟩ := info_parts infou8
  have HN := Lib.hid (rnum_own n (by omega) w)
  have HT := Lib.hid hT
  have HTL := Lib.hid hT.1
  have HLE : Hid ((numE n).length ≤ 10) := numEF_len 10 n
  clear hT
  go_enter Tryz.func46, Tryz.ntmps46
  go_wp2_with fail
  refine HN.out.mono ?_
  rintro e w1 ⟨v, rfl, hown, hb⟩
  have HTT := Lib.hid (HT.out.below hb)
  have HB := Lib.hid hb
  have HO := Lib.hid hown
  have hsz := hb.size
  clear hown hb HN HT
  go_wp2_with (at_builtin; refine wpList_append_u_at _ rfl (.tmp 6) (.tmp 7) 65 rfl w.heap.size B 5 i0 Tryz.underlying65 hi hz0 hz1 hz2 v (numE n).length (numE n) rfl HO.out p n cap T rfl HTT.out (by have := HLE.out; omega) hsz ?_)
  intro v' w2 hown2 hgr2 hat
  go_wp2_with fail
  go_ret
  exact ⟨v', rfl, by rw [List.length_append, HTL.out, List.map_append]; simpa using hown2, HB.out.grown hgr2 hsz (fun k hk => (HO.out.lt k hk).1)⟩
end Go.Proofs.YtjklbbmgjjdalaaGreatDoor.Bd
