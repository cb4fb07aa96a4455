/- The law's 'placed'. Printed by gen_map2.py. Which trees 'placed' and 'plain' make: plain part. -/
import Derived.Test.YtigmcoelkkihkaaGreatDoorPwR
import Derived.Test.YtigmcoelkkihkaaGreatDoorPwJ
import Derived.Test.YtigmcoelkkihkaaGreatDoorPwY
set_option linter.unusedSimpArgs false
set_option linter.unusedVariables false
namespace Go.Proofs.YtigmcoelkkihkaaGreatDoor
open Go.RowKit Go.Joins

/-- A number as that of a cell that may be. -/
def onK (k : Int) : Int := (1 + ((IntKind.u64.wrap k).toNat % 702 : Nat) : Int) * 10000 + (1 + ((IntKind.u64.wrap k).toNat / 702 % 9999 : Nat) : Int)
mutual
/-- A tree whose references are cells that may be. -/
def pcN : Nd → Nd
  | .mk k u t f o a => .mk k u t (if k = 3 ∨ k = 4 then onK f else 0) (if k = 4 then onK o else 0) (pcNL a)
def pcNL : List Nd → List Nd
  | [] => []
  | c :: r => pcN c :: pcNL r
end
theorem pcNL_map : ∀ a, pcNL a = a.map pcN
  | [] => rfl
  | c :: r => by rw [pcNL, pcNL_map r]; rfl
theorem pcN_args (n : Nd) : (pcN n).args = n.args.map pcN := by cases n; rw [pcN]; exact pcNL_map _
theorem pcN_arr (n : Nd) (q : Option Addr) (i cp : Nat) : ndA (pcN n) q i cp = #[.int .i64 n.kind, .int .i64 n.num, .string ⟨n.text.toArray⟩, .int .i64 (if n.kind = 3 ∨ n.kind = 4 then onK n.frm else 0), .int .i64 (if n.kind = 4 then onK n.tor else 0), .slice q i cp] := by cases n; rw [pcN]; rfl
set_option maxRecDepth 100000 in
set_option maxHeartbeats 16000000 in
theorem rcell_num (c r : Int) (h1 : 0 ≤ c) (h2 : c ≤ 100000) (h3 : 0 ≤ r) (h4 : r ≤ 100000) (w : World) : Calls Tryz.prog 37 #[.int .i64 c, .int .i64 r] w fun e w' => e = .returned (.int .i64 (c * 10000 + r)) ∧ w = w' := by
  have f1 : IntKind.i64.wrap (c * 10000) = c * 10000 := IntWalk.i64_in _ (by omega)
  have f2 : IntKind.i64.wrap (c * 10000 + r) = c * 10000 + r := IntWalk.i64_in _ (by omega)
  go_enter Tryz.func37, Tryz.ntmps37
  go_wp2_with fail
  go_ret
  exact ⟨rfl, rfl⟩
set_option maxRecDepth 100000 in
set_option maxHeartbeats 16000000 in
theorem one_any (k : Int) (w : World) : Calls Tryz.prog 36 #[.int .i64 k] w fun e w' => e = .returned (.int .i64 (onK k)) ∧ w = w' := by
  obtain ⟨m, hm⟩ : ∃ m : Nat, IntKind.u64.wrap k = (m : Int) := ⟨(IntKind.u64.wrap k).toNat, by rw [IntKind.wrap_u64]; omega⟩
  have hm2 : m ≤ 18446744073709551615 := by rw [IntKind.wrap_u64] at hm; omega
  unfold onK
  rw [hm, Int.toNat_natCast]
  obtain ⟨a, ha⟩ : ∃ a, m % 702 = a := ⟨_, rfl⟩
  obtain ⟨q, hq⟩ : ∃ q, m / 702 = q := ⟨_, rfl⟩
  obtain ⟨r, hr⟩ : ∃ r, q % 9999 = r := ⟨_, rfl⟩
  rw [ha, hq, hr]
  have ha2 : a < 702 := by omega
  have hr2 : r < 9999 := by omega
  have e1 : (m : Int) % 702 = (a : Int) := by omega
  have e1t : (m : Int).tmod 702 = (a : Int) := by rw [Int.tmod_eq_emod_of_nonneg (by omega)]; exact e1
  have e2 : (m : Int) / 702 = (q : Int) := by omega
  have e2t : (m : Int).tdiv 702 = (q : Int) := by rw [Int.tdiv_eq_ediv_of_nonneg (by omega)]; exact e2
  have e3 : (q : Int) % 9999 = (r : Int) := by omega
  have e3t : (q : Int).tmod 9999 = (r : Int) := by rw [Int.tmod_eq_emod_of_nonneg (by omega)]; exact e3
  have f1 : IntKind.u64.wrap (a : Int) = (a : Int) := IntWalk.u64_in _ (by omega)
  have f2 : IntKind.u64.wrap (q : Int) = (q : Int) := IntWalk.u64_in _ (by omega)
  have f3 : IntKind.u64.wrap (r : Int) = (r : Int) := IntWalk.u64_in _ (by omega)
  have f4 : IntKind.i64.wrap (a : Int) = (a : Int) := IntWalk.i64_in _ (by omega)
  have f5 : IntKind.i64.wrap (r : Int) = (r : Int) := IntWalk.i64_in _ (by omega)
  have f6 : IntKind.i64.wrap (1 + (a : Int)) = 1 + (a : Int) := IntWalk.i64_in _ (by omega)
  have f7 : IntKind.i64.wrap (1 + (r : Int)) = 1 + (r : Int) := IntWalk.i64_in _ (by omega)
  have HC := Lib.hid (fun W => rcell_num (1 + (a : Int)) (1 + (r : Int)) (by omega) (by omega) (by omega) (by omega) W)
  clear hm2 ha hq hr
  go_enter Tryz.func36, Tryz.ntmps36
  go_wp2_with fail
  refine (HC.out _).mono ?_
  rintro e w1 ⟨rfl, rfl⟩
  go_wp2_with fail
  go_ret
  exact ⟨rfl, rfl⟩
/-- Which blocks the parts of a row may lie in. -/
def okMpc (base : Nat) (w : World) (v : Value) (k : Nat) : Prop := base ≤ k ∧ k < w.heap.size ∧ v.ownBlock ≠ some k
theorem kidsMpc {base G d' l' c2 : Nat} {wr w3 w5 : World} {o : Obj} {v v' u : Value} {acc : List Kid} {c : Nd} {p2 : Option Addr} (hG : G < base) (hbs : base ≤ wr.heap.size) (hb : Below wr.heap.size wr w3) (hg : (w3.alloc o).grownBy w5 v.ownBlock)
    (hat : v'.ownBlock = v.ownBlock ∨ v'.ownBlock = some (w3.alloc o).heap.size) (hlt : ∀ b, v.ownBlock = some b → b < wr.heap.size) (hk : ∀ x ∈ acc, RdP wr (okMpc base wr v) d' x.1 x.2.1 x.2.2.1)
    (hn : RdP w3 (fun b => wr.heap.size ≤ b ∧ b < w3.heap.size) d' c p2 l') :
    ∀ x ∈ acc ++ [(c, p2, l', c2)], RdP (w5.setCell ⟨G, 5, none⟩ u) (okMpc base (w5.setCell ⟨G, 5, none⟩ u) v') d' x.1 x.2.1 x.2.2.1 := by
  have hs := hb.size
  have hs2 := hg.size
  rw [World.size_alloc] at hs2 hat
  have hblk : ∀ b, G ≠ b → b < w3.heap.size → v.ownBlock ≠ some b → (w5.setCell ⟨G, 5, none⟩ u).heap[b]? = w3.heap[b]? := fun b h1 h2 h3 => by
    rw [heap_setCell_other _ _ _ _ (fun e => h1 e.symm), hg.block b (by rw [World.size_alloc]; omega) (fun e => h3 e.symm), heap_alloc_old _ _ h2]
  intro x hx
  rcases List.mem_append.1 hx with hx | hx
  · refine RdP.carry (fun b hb' => ?_) (hk x hx)
    obtain ⟨h1, h2, h3⟩ := hb'
    refine ⟨⟨h1, by rw [World.size_setCell]; omega, ?_⟩, ?_⟩
    · rcases hat with e | e
      · rw [e]; exact h3
      · rw [e]; intro e'; have := Option.some.inj e'; omega
    · rw [hblk b (by omega) (by omega) h3, hb.block b h2]
  · obtain rfl := List.mem_singleton.1 hx
    refine RdP.carry (fun b hb' => ?_) hn
    obtain ⟨h1, h2⟩ := hb'
    have h3 : v.ownBlock ≠ some b := fun e => by have := hlt b e; omega
    refine ⟨⟨by omega, by rw [World.size_setCell]; omega, ?_⟩, ?_⟩
    · rcases hat with e | e
      · rw [e]; exact h3
      · rw [e]; intro e'; have := Option.some.inj e'; omega
    · exact hblk b (by omega) h2 h3
def pcC (d : Nat) : Prop := ∀ (n : Nd) (p : Option Addr) (len cap : Nat) (w : World), RdT w w.heap.size d n p len → OkN n → FewN n → Calls Tryz.prog 16 #[.agg (ndA n p len cap)] w fun e w' => (∃ p' cap', e = .returned (.agg (ndA (pcN n) p' len cap')) ∧ RdP w' (fun b => w.heap.size ≤ b ∧ b < w'.heap.size) d (pcN n) p' len) ∧ Below w.heap.size w w'
set_option maxRecDepth 100000 in
set_option maxHeartbeats 16000000 in
theorem pc_s (d : Nat) (IH : ∀ d', d = d' + 1 → pcC d') : pcC d := by
  intro n p len cap w hrd hok hfew
  have HRD := Lib.hid hrd
  have HIH := Lib.hid IH
  have hlen := hfew.len
  rw [hrd.len] at hlen
  have HAL := Lib.hid hrd.len
  have HOK := Lib.hid (fun c hc => OkN.child (c := c) hok hc)
  have HFW := Lib.hid (fun c hc => FewN.child (c := c) hfew hc)
  have hofr := hok.frm
  have hoto := hok.tor
  have HGA : Hid ((pcN n).args = n.args.map pcN) := pcN_args n
  have HOF := Lib.hid (fun W => one_any n.frm W)
  have HOT := Lib.hid (fun W => one_any n.tor W)
  rw [ndA_eq]
  clear hrd IH hok hfew hofr hoto
  have HPA := Lib.hid (pcN_arr n none 0 0)
  go_enter Tryz.func16, Tryz.ntmps16
  go_upto_region 3 with fail
  have e0 : ((w.alloc (.cells #[.int .i64 n.kind, .int .i64 n.num, .string ⟨n.text.toArray⟩, .int .i64 n.frm, .int .i64 n.tor, .slice p len cap] tRn)).alloc (.cells #[.int .i64 0, .int .i64 0, .string ⟨#[]⟩, .int .i64 0, .int .i64 0, .slice none 0 0] tRn)).alloc (.cells #[.int .i64 n.kind, .int .i64 n.num, .string ⟨n.text.toArray⟩, .int .i64 0, .int .i64 0, .slice none 0 0] tRn) = ((w.alloc (.cells (ndA n p len cap) tRn)).alloc (.cells (ndA nodeZ none 0 0) tRn)).alloc (.cells (ndA (.mk n.kind n.num n.text 0 0 []) none 0 0) tRn) := rfl
  rw [e0]
  clear e0
  have HN1 : Hid (NdB tRn (((w.alloc (.cells (ndA n p len cap) tRn)).alloc (.cells (ndA nodeZ none 0 0) tRn)).alloc (.cells (ndA (.mk n.kind n.num n.text 0 0 []) none 0 0) tRn)) w.heap.size n p len cap) := (three_heap w _ _ _).1
  have HZ1 : Hid (BlkC (((w.alloc (.cells (ndA n p len cap) tRn)).alloc (.cells (ndA nodeZ none 0 0) tRn)).alloc (.cells (ndA (.mk n.kind n.num n.text 0 0 []) none 0 0) tRn)) (w.heap.size + 1) (ndA nodeZ none 0 0) tRn) := (three_heap w _ _ _).2.1
  have HL1 : Hid (BlkC (((w.alloc (.cells (ndA n p len cap) tRn)).alloc (.cells (ndA nodeZ none 0 0) tRn)).alloc (.cells (ndA (.mk n.kind n.num n.text 0 0 []) none 0 0) tRn)) (w.heap.size + 2) (ndA (.mk n.kind n.num n.text 0 0 []) none 0 0) tRn) := (three_heap w _ _ _).2.2
  have HB1 : Hid (Below w.heap.size w (((w.alloc (.cells (ndA n p len cap) tRn)).alloc (.cells (ndA nodeZ none 0 0) tRn)).alloc (.cells (ndA (.mk n.kind n.num n.text 0 0 []) none 0 0) tRn))) := three_below _ _ _
  generalize ((w.alloc (.cells (ndA n p len cap) tRn)).alloc (.cells (ndA nodeZ none 0 0) tRn)).alloc (.cells (ndA (.mk n.kind n.num n.text 0 0 []) none 0 0) tRn) = w1 at HN1 HZ1 HL1 HB1 ⊢
  obtain ⟨c0, c1, c2, c3, c4, c5⟩ := HN1.out.cells
  have hl1 : w.heap.size + 2 < w1.heap.size := lt_some HL1.out
  by_cases h4 : n.kind = 4
  · have b3 : (n.kind == 3) = false := by simp; omega
    have b4 : (n.kind == 4) = true := by simpa using h4
    have HE : Hid (ndA (pcN n) none 0 0 = #[.int .i64 n.kind, .int .i64 n.num, .string ⟨n.text.toArray⟩, .int .i64 (onK n.frm), .int .i64 (onK n.tor), .slice none 0 0]) := by unfold Hid; rw [HPA.out, if_pos (.inr h4), if_pos h4]
    clear h4 HPA
    have HLz := HL1.out.fz 3
    have HLc : w1.cell? ⟨w.heap.size + 2, 3, none⟩ = some (.int .i64 0) := HL1.out.cell 3 _ rfl
    go_wp2_with fail
    go_at_call 36
    refine (HOF.out _).mono ?_
    rintro e wx ⟨rfl, rfl⟩
    go_upto_region 5 with fail
    have HA5 : Hid (BlkC (w1.setCell ⟨w.heap.size + 2, 3, none⟩ (.int .i64 (onK n.frm))) (w.heap.size + 2) #[.int .i64 n.kind, .int .i64 n.num, .string ⟨n.text.toArray⟩, .int .i64 (onK n.frm), .int .i64 0, .slice none 0 0] tRn) := block_setCell HL1.out _
    have HLy := HA5.out.fz 4
    have HLd : (w1.setCell ⟨w.heap.size + 2, 3, none⟩ (.int .i64 (onK n.frm))).cell? ⟨w.heap.size + 2, 4, none⟩ = some (.int .i64 0) := HA5.out.cell 4 _ rfl
    have l4 : w1.cell? ⟨w.heap.size + 2, 4, none⟩ = some (.int .i64 0) := HL1.out.cell 4 _ rfl
    have z4 := HL1.out.fz 4
    go_wp2_with fail
    go_at_call 36
    refine (HOT.out _).mono ?_
    rintro e wx ⟨rfl, rfl⟩
    go_upto_region 7 with fail
    clear HOF HOT HLz HLy HLc HLd l4 z4
    have HL3 : Hid (BlkC ((w1.setCell ⟨w.heap.size + 2, 3, none⟩ (.int .i64 (onK n.frm))).setCell ⟨w.heap.size + 2, 4, none⟩ (.int .i64 (onK n.tor))) (w.heap.size + 2) (ndA (pcN n) none 0 0) tRn) := by unfold Hid; rw [HE.out]; exact block_setCell HA5.out _
    have hb2 : Below (w.heap.size + 2) w1 ((w1.setCell ⟨w.heap.size + 2, 3, none⟩ (.int .i64 (onK n.frm))).setCell ⟨w.heap.size + 2, 4, none⟩ (.int .i64 (onK n.tor))) := ((Below.refl _ _).setCell (p := ⟨w.heap.size + 2, 3, none⟩) (Nat.le_refl _) _).setCell (p := ⟨w.heap.size + 2, 4, none⟩) (Nat.le_refl _) _
    have HN3 : Hid (NdB tRn ((w1.setCell ⟨w.heap.size + 2, 3, none⟩ (.int .i64 (onK n.frm))).setCell ⟨w.heap.size + 2, 4, none⟩ (.int .i64 (onK n.tor))) w.heap.size n p len cap) := (hb2.block _ (by omega)).trans HN1.out
    have HZ3 : Hid (BlkC ((w1.setCell ⟨w.heap.size + 2, 3, none⟩ (.int .i64 (onK n.frm))).setCell ⟨w.heap.size + 2, 4, none⟩ (.int .i64 (onK n.tor))) (w.heap.size + 1) (ndA nodeZ none 0 0) tRn) := (hb2.block _ (by omega)).trans HZ1.out
    have HB3 : Hid (Below w.heap.size w ((w1.setCell ⟨w.heap.size + 2, 3, none⟩ (.int .i64 (onK n.frm))).setCell ⟨w.heap.size + 2, 4, none⟩ (.int .i64 (onK n.tor)))) := HB1.out.trans (hb2.mono (by omega))
    have hLb : w.heap.size + 2 < ((w1.setCell ⟨w.heap.size + 2, 3, none⟩ (.int .i64 (onK n.frm))).setCell ⟨w.heap.size + 2, 4, none⟩ (.int .i64 (onK n.tor))).heap.size := by have := hb2.size; first | omega | (simp only [World.size_setCell] at *; omega)
    have hLH : w.heap.size + 1 < w.heap.size + 2 := by omega
    have hH1 : w.heap.size + 1 < ((w1.setCell ⟨w.heap.size + 2, 3, none⟩ (.int .i64 (onK n.frm))).setCell ⟨w.heap.size + 2, 4, none⟩ (.int .i64 (onK n.tor))).heap.size := by omega
    clear hb2 HN1 HZ1 HL1 HB1 HE c0 c1 c2 c3 c4 c5 hl1
    generalize (w1.setCell ⟨w.heap.size + 2, 3, none⟩ (.int .i64 (onK n.frm))).setCell ⟨w.heap.size + 2, 4, none⟩ (.int .i64 (onK n.tor)) = w3 at HL3 HN3 HZ3 HB3 hLb hH1 ⊢
    obtain ⟨L, hLe⟩ : ∃ L, w.heap.size + 2 = L := ⟨_, rfl⟩
    rw [hLe] at HL3 hLb hLH ⊢
    clear hLe
    obtain ⟨base, hbase⟩ : ∃ base, w3.heap.size = base := ⟨_, rfl⟩
    have HB0 := Lib.hid hbase
    rw [hbase] at hLb hH1
    clear hbase
    obtain ⟨i0, hi, hz0, hz1, hz2⟩ := info_of info_rn
    go_wp2_with fail
    go_loopg [5] len (fun g v wr => ∃ (i : Nat) (acc : List Kid) (q : Option Addr) (cp : Nat), i + g = len ∧ v = .int .i64 i ∧ acc.map Prod.fst = (n.args.take i).map pcN ∧ NdB tRn wr w.heap.size n p len cap ∧ BlkC wr (w.heap.size + 1) (ndA nodeZ none 0 0) tRn ∧ BlkC wr L (ndA (pcN n) q i cp) tRn ∧ wr.ownsRow base tRn 6 (.slice q i cp) i (acc.flatMap kidC) ∧ (∀ d', d = d' + 1 → ∀ x ∈ acc, RdP wr (okMpc base wr (.slice q i cp)) d' x.1 x.2.1 x.2.2.1) ∧ Below w.heap.size w wr ∧ base ≤ wr.heap.size)
    case atStart => exact ⟨0, [], none, 0, by omega, rfl, rfl, HN3.out, HZ3.out, HL3.out, World.ownsRow_nil _ _ _ _, fun _ _ x hx => (by cases hx), HB3.out, by rw [HB0.out]; exact Nat.le_refl _⟩
    case round =>
      obtain ⟨i, acc, q, cp, hig, rfl, hacc, hn1, hn0, hn2, hown, hkid, hbel, hbs⟩ := hrel
      have HAC := Lib.hid hacc
      have HN1 := Lib.hid hn1
      have HN0 := Lib.hid hn0
      have HN2 := Lib.hid hn2
      have HOW := Lib.hid hown
      have HKD := Lib.hid hkid
      have HBL := Lib.hid hbel
      have hzr := hbel.size
      clear hacc hn1 hn0 hn2 hown hkid hbel HN3 HZ3 HL3 HB3 HB0
      obtain ⟨a0, a1, a2, a3, a4, a5⟩ := HN1.out.cells
      have b5 : wr.cell? ⟨L, 5, none⟩ = some (.slice q i cp) := HN2.out.cell 5 _ rfl
      by_cases hlt : i < len
      · have hli : (i : Int) < (len : Int) := by omega
        obtain ⟨d', b, off, c, p', l', c', hd, rfl, hbN, hc, hrc, q0, q1, q2, q3, q4, q5⟩ := (HRD.out.below HBL.out).at hlt
        have HC : Hid (pcC d') := HIH.out d' hd
        have HCO := Lib.hid (HOK.out c (mem_at hc))
        have HCF := Lib.hid (HFW.out c (mem_at hc))
        have A5 := Kept.cell (N := base) a5 (by omega)
        have B5 := Kept.cell (N := base) b5 (by omega)
        have Q0 := Kept.cell (N := base) q0 (by omega)
        have Q1 := Kept.cell (N := base) q1 (by omega)
        have Q2 := Kept.cell (N := base) q2 (by omega)
        have Q3 := Kept.cell (N := base) q3 (by omega)
        have Q4 := Kept.cell (N := base) q4 (by omega)
        have Q5 := Kept.cell (N := base) q5 (by omega)
        go_upto_region 10 with fail
        refine wp_region_schedT (fun wx => ∃ x : Kept base wr, wx = x.v) 11 [([0,1,2,3,4,5,6],7),([],8),([],9)] [10] (by kernel_rfl) (by kernel_rfl) (by kernel_rfl) (by kernel_rfl) (kept_drew _ _ (by omega)) ?_
        (unfold wpSegK; simp only [pick_nil, pick_cons, nthO_zero, nthO_succ, List.append])
        clear a0 a1 a2 a3 a4 a5 b5 q0 q1 q2 q3 q4 q5
        repeat (go_big_quiet_step (fail))
        refine wpQuiet_nil ?_
        have HRC := Lib.hid hrc
        have HHC := Lib.hid hc
        have HHD := Lib.hid hd
        clear hrc hc hd
        have HCC := Lib.hid (HC.out c p' l' c' wr.drew ((HRC.out.below (Below.drew (Below.refl _ _))).mono hzr) HCO.out HCF.out)
        rw [ndA_eq c p' l' c'] at HCC
        go_wp2_with fail
        refine HCC.out.mono ?_
        rintro e w3 ⟨⟨p2, c2, rfl, hk3⟩, hb3⟩
        have hb4 : Hid (Below wr.heap.size wr w3) := bel_call hb3 (Below.drew (Below.refl _ _)) (Nat.le_refl _)
        have HK3 := Lib.hid hk3
        rw [show Value.agg (ndA (pcN c) p2 l' c2) = .agg #[.int .i64 (pcN c).kind, .int .i64 (pcN c).num, .string ⟨(pcN c).text.toArray⟩, .int .i64 (pcN c).frm, .int .i64 (pcN c).tor, .slice p2 l' c2] from rfl]
        clear HCC hk3 hb3
        go_wp2_with fail
        have hB3 : Hid (Below base wr w3) := hb4.out.mono (by omega)
        refine ⟨rfl, ⟨⟨w3, hB3.out⟩, rfl⟩, ?_⟩
        (unfold wpSegK; simp only [pick_nil, pick_cons, nthO_zero, nthO_succ, List.append])
        refine wpQuiet_nil ?_
        go_wp2_with fail
        have e4 : w3.alloc (.cells #[.int .i64 (pcN c).kind, .int .i64 (pcN c).num, .string ⟨(pcN c).text.toArray⟩, .int .i64 (pcN c).frm, .int .i64 (pcN c).tor, .slice p2 l' c2] tRn) = w3.alloc (.cells (ndA (pcN c) p2 l' c2) tRn) := rfl
        rw [e4]
        clear e4
        refine ⟨rfl, ⟨⟨_, hB3.out.alloc (by have := hb4.out.size; omega) _⟩, rfl⟩, ?_⟩
        (unfold wpSegK; simp only [pick_nil, pick_cons, nthO_zero, nthO_succ, List.append])
        refine wpQuiet_nil ?_
        have HRW := Lib.hid (row_below HOW.out hb4.out)
        refine wpList_append_own_at _ rfl _ _ _ rfl base tRn i0 _ 6 72 Tryz.underlying23 hi hz0 hz1 hz2 rfl (by decide) _ _ _ rfl (HRW.out.alloc _) ⟨w3.heap.size, 0, none⟩ 1 1 (ndC (pcN c) p2 l' c2) rfl rfl (newRn w3 (pcN c) p2 l' c2) ?c2 ?c3 ?c4 ?c5 ?_
        case c2 => exact kidC_one ((pcN c), p2, l', c2)
        case c3 => unfold maxLen; omega
        case c4 => omega
        case c5 => rw [World.size_alloc]; have := hb4.out.size; omega
        intro v' w5 hown5 hgrow5 _ hat5
        have hB5 : Hid (Below base wr w5) := (hB3.out.alloc (by have := hb4.out.size; omega) _).grown hgrow5 (by rw [World.size_alloc]; have := hb4.out.size; omega) (fun k hk => (HRW.out.lt k hk).1)
        have HOW5 : Hid (w5.ownsRow base tRn 6 v' (i + 1) ((acc ++ [((pcN c), p2, l', c2)]).flatMap kidC)) := by
          unfold Hid
          rw [flat_snoc]
          exact hown5
        have hla : acc.length = i := by
          have h := congrArg List.length HAC.out
          simp only [List.length_map, List.length_take] at h
          rw [HAL.out] at h
          omega
        obtain ⟨q5, cp5, hv5, _, _, _, _⟩ := RdG.of_own kidC_len (by rw [List.length_append, List.length_singleton, hla]) HOW5.out
        subst hv5
        have HN5 : Hid (BlkC w5 L (ndA (pcN n) q i cp) tRn) := (hB5.out.block _ hLb).trans HN2.out
        have HKN := Lib.hid (kidsMpc (G := L) (u := .slice q5 (i + 1) cp5) (c2 := c2) hLb hbs hb4.out hgrow5 hat5 (fun b e => (HOW.out.lt b e).2) (HKD.out d' HHD.out) HK3.out)
        have hs5 := hB5.out.size
        clear hown5 hgrow5 hat5 HRW HK3 HKD HCF HCO HC HIH HOK HFW A5 B5 Q0 Q1 Q2 Q3 Q4 Q5
        have e5 : w5.cell? ⟨L, 5, none⟩ = some (.slice q i cp) := HN5.out.cell 5 _ rfl
        have g5 := HN5.out.fz 5
        go_wp2_with fail
        refine ⟨rfl, ⟨⟨w5, hB5.out⟩, rfl⟩, ?_⟩
        (unfold wpSegK; simp only [pick_nil, pick_cons, nthO_zero, nthO_succ, List.append])
        repeat (go_big_quiet_step (fail))
        refine wpQuiet_nil ?_
        go_wp2_with fail
        refine ⟨rfl, ?_⟩
        have HP6 : Hid (BlkC (w5.setCell ⟨L, 5, none⟩ (.slice q5 (i + 1) cp5)) L (ndA (pcN n) q5 (i + 1) cp5) tRn) := block_setCell HN5.out _
        have HR6 : Hid (NdB tRn (w5.setCell ⟨L, 5, none⟩ (.slice q5 (i + 1) cp5)) w.heap.size n (some ⟨b, off, none⟩) len cap) := by
          unfold Hid NdB
          rw [heap_setCell_other _ _ _ _ (by show w.heap.size ≠ L; omega), hB5.out.block _ (by omega)]
          exact HN1.out
        have HZ6 : Hid (BlkC (w5.setCell ⟨L, 5, none⟩ (.slice q5 (i + 1) cp5)) (w.heap.size + 1) (ndA nodeZ none 0 0) tRn) := by
          unfold Hid BlkC
          rw [heap_setCell_other _ _ _ _ (by show w.heap.size + 1 ≠ L; omega), hB5.out.block _ (by omega)]
          exact HN0.out
        have HW6 : Hid ((w5.setCell ⟨L, 5, none⟩ (.slice q5 (i + 1) cp5)).ownsRow base tRn 6 (.slice q5 (i + 1) cp5) (i + 1) ((acc ++ [((pcN c), p2, l', c2)]).flatMap kidC)) :=
          row_carry HOW5.out (fun b hb => heap_setCell_other _ _ _ _ (by have := (HOW5.out.lt b hb).1; show b ≠ L; omega))
        have HL6 : Hid (Below w.heap.size w (w5.setCell ⟨L, 5, none⟩ (.slice q5 (i + 1) cp5))) := (HBL.out.trans (hB5.out.mono (by omega))).setCell (by show w.heap.size ≤ L; omega) _
        have hz6 : base ≤ (w5.setCell ⟨L, 5, none⟩ (.slice q5 (i + 1) cp5)).heap.size := by rw [World.size_setCell]; omega
        have HAN : Hid ((acc ++ [((pcN c), p2, l', c2)]).map Prod.fst = (n.args.take (i + 1)).map pcN) := by
          unfold Hid
          rw [List.map_append, HAC.out, List.take_add_one, HHC.out]
          simp
        generalize w5.setCell ⟨L, 5, none⟩ (.slice q5 (i + 1) cp5) = w6 at HP6 HR6 HZ6 HW6 HL6 HKN hz6 ⊢
        clear HHC HN5 HN0 HN1 HN2 HOW HOW5 hB5 hB3 hb4 e5 g5 HBL
        go_wp2_with fail
        go_roundg (gk - 1)
        case measure => omega
        case rel =>
          refine ⟨i + 1, acc ++ [((pcN c), p2, l', c2)], q5, cp5, by omega, by go_num, HAN.out, HR6.out, HZ6.out, HP6.out, HW6.out, fun d'' hd x hx => ?_, HL6.out, hz6⟩
          obtain rfl : d' = d'' := by have := HHD.out; omega
          exact HKN.out x hx
      · obtain rfl : i = len := by omega
        have hli : ¬ (i : Int) < (i : Int) := by omega
        have hla : acc.length = i := by
          have h := congrArg List.length HAC.out
          simp only [List.length_map, List.length_take] at h
          rw [HAL.out] at h
          omega
        clear a0 a1 a2 a3 a4 b5
        go_upto_region 11 with fail
        refine wp_region_lit ?_
        refine wpList_load_mid (by rfl) _ _ (by rfl) L 0 (by rfl) [.int .i64 (pcN n).kind, .int .i64 (pcN n).num, .string ⟨(pcN n).text.toArray⟩, .int .i64 (pcN n).frm, .int .i64 (pcN n).tor, .slice q i cp] _ (block_range HN2.out [.int .i64 (pcN n).kind, .int .i64 (pcN n).num, .string ⟨(pcN n).text.toArray⟩, .int .i64 (pcN n).frm, .int .i64 (pcN n).tor, .slice q i cp] rfl) Tryz.underlying25 rfl (by kernel_rfl) ?_
        go_simp
        refine wpList_store_mid (by rfl) _ _ _ (by rfl) (w.heap.size + 1) 0 #[.int .i64 (pcN n).kind, .int .i64 (pcN n).num, .string ⟨(pcN n).text.toArray⟩, .int .i64 (pcN n).frm, .int .i64 (pcN n).tor, .slice q i cp] (by rfl) (by rfl) (block_there HN0.out 6 (Nat.le_refl _)) (by kernel_rfl) (by simp [Value.oneCell']) ?_
        have e8 : wr.setCells (w.heap.size + 1) 0 (#[.int .i64 (pcN n).kind, .int .i64 (pcN n).num, .string ⟨(pcN n).text.toArray⟩, .int .i64 (pcN n).frm, .int .i64 (pcN n).tor, .slice q i cp]).toList = wr.setCells (w.heap.size + 1) 0 (ndA (pcN n) q i cp).toList := rfl
        rw [e8]
        clear e8
        have HS8 : Hid (BlkC (wr.setCells (w.heap.size + 1) 0 (ndA (pcN n) q i cp).toList) (w.heap.size + 1) (ndA (pcN n) q i cp) tRn) := store_block HN0.out _ rfl
        have HB8 : Hid (Below w.heap.size w (wr.setCells (w.heap.size + 1) 0 (ndA (pcN n) q i cp).toList)) := store_below (by omega) _ _ _ HBL.out
        have hz8 := (store_below (Nat.zero_le (w.heap.size + 1)) (ndA (pcN n) q i cp).toList 0 wr (Below.refl 0 wr)).size
        have HO8 : Hid (∀ k, k ≠ w.heap.size + 1 → (wr.setCells (w.heap.size + 1) 0 (ndA (pcN n) q i cp).toList).heap[k]? = wr.heap[k]?) := fun k hk => store_other hk _ _ _
        generalize wr.setCells (w.heap.size + 1) 0 (ndA (pcN n) q i cp).toList = w9 at HS8 HB8 HO8 hz8 ⊢
        go_simp
        iterate 3 (first | go_values | go_skip | go_guarded | go_step | go_upon)
        apply wp_ret
        try simp only [Exit.inBlock, Exit.then]
        refine bodyPost_ret (results_cell_row rfl _ _ (w.heap.size + 1) tRn (ndA (pcN n) q i cp) (0, 0) _ rfl HS8.out Tryz.underlying25 rfl (by kernel_rfl)) rfl ⟨⟨q, cp, rfl, ?_⟩, HB8.out⟩
        cases d with
        | zero =>
          have h := HRD.out
          refine ⟨?_, h.2⟩
          rw [HGA.out, h.1]; rfl
        | succ d =>
          subst hla
          obtain ⟨q', cp', hv, hr⟩ := RdP.of_rowR (n := (pcN n)) (d := d) (ok := fun b => base ≤ b ∧ b < wr.heap.size) HOW.out (by rw [HAC.out, List.take_of_length_le (by rw [HAL.out]; exact Nat.le_refl _)]; exact HGA.out.symm) (fun x hx => RdP.carry (fun b hb => ⟨⟨hb.1, hb.2.1⟩, rfl⟩) (HKD.out d rfl x hx)) (fun b hb => HOW.out.lt b hb)
          cases hv
          exact RdP.carry (fun b hb => ⟨⟨by omega, by omega⟩, HO8.out b (by omega)⟩) hr
  · have b4 : (n.kind == 4) = false := by simpa using h4
    by_cases h3 : n.kind = 3
    · have b3 : (n.kind == 3) = true := by simpa using h3
      have HE : Hid (ndA (pcN n) none 0 0 = #[.int .i64 n.kind, .int .i64 n.num, .string ⟨n.text.toArray⟩, .int .i64 (onK n.frm), .int .i64 0, .slice none 0 0]) := by unfold Hid; rw [HPA.out, if_pos (.inl h3), if_neg h4]
      clear h3 h4 HPA
      have HLz := HL1.out.fz 3
      have HLc : w1.cell? ⟨w.heap.size + 2, 3, none⟩ = some (.int .i64 0) := HL1.out.cell 3 _ rfl
      go_wp2_with fail
      go_at_call 36
      refine (HOF.out _).mono ?_
      rintro e wx ⟨rfl, rfl⟩
      go_upto_region 7 with fail
      clear HOF HOT HLz HLc
      have HL3 : Hid (BlkC (w1.setCell ⟨w.heap.size + 2, 3, none⟩ (.int .i64 (onK n.frm))) (w.heap.size + 2) (ndA (pcN n) none 0 0) tRn) := by unfold Hid; rw [HE.out]; exact block_setCell HL1.out _
      have hb2 : Below (w.heap.size + 2) w1 (w1.setCell ⟨w.heap.size + 2, 3, none⟩ (.int .i64 (onK n.frm))) := (Below.refl _ _).setCell (p := ⟨w.heap.size + 2, 3, none⟩) (Nat.le_refl _) _
      have HN3 : Hid (NdB tRn (w1.setCell ⟨w.heap.size + 2, 3, none⟩ (.int .i64 (onK n.frm))) w.heap.size n p len cap) := (hb2.block _ (by omega)).trans HN1.out
      have HZ3 : Hid (BlkC (w1.setCell ⟨w.heap.size + 2, 3, none⟩ (.int .i64 (onK n.frm))) (w.heap.size + 1) (ndA nodeZ none 0 0) tRn) := (hb2.block _ (by omega)).trans HZ1.out
      have HB3 : Hid (Below w.heap.size w (w1.setCell ⟨w.heap.size + 2, 3, none⟩ (.int .i64 (onK n.frm)))) := HB1.out.trans (hb2.mono (by omega))
      have hLb : w.heap.size + 2 < (w1.setCell ⟨w.heap.size + 2, 3, none⟩ (.int .i64 (onK n.frm))).heap.size := by have := hb2.size; first | omega | (simp only [World.size_setCell] at *; omega)
      have hLH : w.heap.size + 1 < w.heap.size + 2 := by omega
      have hH1 : w.heap.size + 1 < (w1.setCell ⟨w.heap.size + 2, 3, none⟩ (.int .i64 (onK n.frm))).heap.size := by omega
      clear hb2 HN1 HZ1 HL1 HB1 HE c0 c1 c2 c3 c4 c5 hl1
      generalize w1.setCell ⟨w.heap.size + 2, 3, none⟩ (.int .i64 (onK n.frm)) = w3 at HL3 HN3 HZ3 HB3 hLb hH1 ⊢
      obtain ⟨L, hLe⟩ : ∃ L, w.heap.size + 2 = L := ⟨_, rfl⟩
      rw [hLe] at HL3 hLb hLH ⊢
      clear hLe
      obtain ⟨base, hbase⟩ : ∃ base, w3.heap.size = base := ⟨_, rfl⟩
      have HB0 := Lib.hid hbase
      rw [hbase] at hLb hH1
      clear hbase
      obtain ⟨i0, hi, hz0, hz1, hz2⟩ := info_of info_rn
      go_wp2_with fail
      go_loopg [5] len (fun g v wr => ∃ (i : Nat) (acc : List Kid) (q : Option Addr) (cp : Nat), i + g = len ∧ v = .int .i64 i ∧ acc.map Prod.fst = (n.args.take i).map pcN ∧ NdB tRn wr w.heap.size n p len cap ∧ BlkC wr (w.heap.size + 1) (ndA nodeZ none 0 0) tRn ∧ BlkC wr L (ndA (pcN n) q i cp) tRn ∧ wr.ownsRow base tRn 6 (.slice q i cp) i (acc.flatMap kidC) ∧ (∀ d', d = d' + 1 → ∀ x ∈ acc, RdP wr (okMpc base wr (.slice q i cp)) d' x.1 x.2.1 x.2.2.1) ∧ Below w.heap.size w wr ∧ base ≤ wr.heap.size)
      case atStart => exact ⟨0, [], none, 0, by omega, rfl, rfl, HN3.out, HZ3.out, HL3.out, World.ownsRow_nil _ _ _ _, fun _ _ x hx => (by cases hx), HB3.out, by rw [HB0.out]; exact Nat.le_refl _⟩
      case round =>
        obtain ⟨i, acc, q, cp, hig, rfl, hacc, hn1, hn0, hn2, hown, hkid, hbel, hbs⟩ := hrel
        have HAC := Lib.hid hacc
        have HN1 := Lib.hid hn1
        have HN0 := Lib.hid hn0
        have HN2 := Lib.hid hn2
        have HOW := Lib.hid hown
        have HKD := Lib.hid hkid
        have HBL := Lib.hid hbel
        have hzr := hbel.size
        clear hacc hn1 hn0 hn2 hown hkid hbel HN3 HZ3 HL3 HB3 HB0
        obtain ⟨a0, a1, a2, a3, a4, a5⟩ := HN1.out.cells
        have b5 : wr.cell? ⟨L, 5, none⟩ = some (.slice q i cp) := HN2.out.cell 5 _ rfl
        by_cases hlt : i < len
        · have hli : (i : Int) < (len : Int) := by omega
          obtain ⟨d', b, off, c, p', l', c', hd, rfl, hbN, hc, hrc, q0, q1, q2, q3, q4, q5⟩ := (HRD.out.below HBL.out).at hlt
          have HC : Hid (pcC d') := HIH.out d' hd
          have HCO := Lib.hid (HOK.out c (mem_at hc))
          have HCF := Lib.hid (HFW.out c (mem_at hc))
          have A5 := Kept.cell (N := base) a5 (by omega)
          have B5 := Kept.cell (N := base) b5 (by omega)
          have Q0 := Kept.cell (N := base) q0 (by omega)
          have Q1 := Kept.cell (N := base) q1 (by omega)
          have Q2 := Kept.cell (N := base) q2 (by omega)
          have Q3 := Kept.cell (N := base) q3 (by omega)
          have Q4 := Kept.cell (N := base) q4 (by omega)
          have Q5 := Kept.cell (N := base) q5 (by omega)
          go_upto_region 10 with fail
          refine wp_region_schedT (fun wx => ∃ x : Kept base wr, wx = x.v) 11 [([0,1,2,3,4,5,6],7),([],8),([],9)] [10] (by kernel_rfl) (by kernel_rfl) (by kernel_rfl) (by kernel_rfl) (kept_drew _ _ (by omega)) ?_
          (unfold wpSegK; simp only [pick_nil, pick_cons, nthO_zero, nthO_succ, List.append])
          clear a0 a1 a2 a3 a4 a5 b5 q0 q1 q2 q3 q4 q5
          repeat (go_big_quiet_step (fail))
          refine wpQuiet_nil ?_
          have HRC := Lib.hid hrc
          have HHC := Lib.hid hc
          have HHD := Lib.hid hd
          clear hrc hc hd
          have HCC := Lib.hid (HC.out c p' l' c' wr.drew ((HRC.out.below (Below.drew (Below.refl _ _))).mono hzr) HCO.out HCF.out)
          rw [ndA_eq c p' l' c'] at HCC
          go_wp2_with fail
          refine HCC.out.mono ?_
          rintro e w3 ⟨⟨p2, c2, rfl, hk3⟩, hb3⟩
          have hb4 : Hid (Below wr.heap.size wr w3) := bel_call hb3 (Below.drew (Below.refl _ _)) (Nat.le_refl _)
          have HK3 := Lib.hid hk3
          rw [show Value.agg (ndA (pcN c) p2 l' c2) = .agg #[.int .i64 (pcN c).kind, .int .i64 (pcN c).num, .string ⟨(pcN c).text.toArray⟩, .int .i64 (pcN c).frm, .int .i64 (pcN c).tor, .slice p2 l' c2] from rfl]
          clear HCC hk3 hb3
          go_wp2_with fail
          have hB3 : Hid (Below base wr w3) := hb4.out.mono (by omega)
          refine ⟨rfl, ⟨⟨w3, hB3.out⟩, rfl⟩, ?_⟩
          (unfold wpSegK; simp only [pick_nil, pick_cons, nthO_zero, nthO_succ, List.append])
          refine wpQuiet_nil ?_
          go_wp2_with fail
          have e4 : w3.alloc (.cells #[.int .i64 (pcN c).kind, .int .i64 (pcN c).num, .string ⟨(pcN c).text.toArray⟩, .int .i64 (pcN c).frm, .int .i64 (pcN c).tor, .slice p2 l' c2] tRn) = w3.alloc (.cells (ndA (pcN c) p2 l' c2) tRn) := rfl
          rw [e4]
          clear e4
          refine ⟨rfl, ⟨⟨_, hB3.out.alloc (by have := hb4.out.size; omega) _⟩, rfl⟩, ?_⟩
          (unfold wpSegK; simp only [pick_nil, pick_cons, nthO_zero, nthO_succ, List.append])
          refine wpQuiet_nil ?_
          have HRW := Lib.hid (row_below HOW.out hb4.out)
          refine wpList_append_own_at _ rfl _ _ _ rfl base tRn i0 _ 6 72 Tryz.underlying23 hi hz0 hz1 hz2 rfl (by decide) _ _ _ rfl (HRW.out.alloc _) ⟨w3.heap.size, 0, none⟩ 1 1 (ndC (pcN c) p2 l' c2) rfl rfl (newRn w3 (pcN c) p2 l' c2) ?c2 ?c3 ?c4 ?c5 ?_
          case c2 => exact kidC_one ((pcN c), p2, l', c2)
          case c3 => unfold maxLen; omega
          case c4 => omega
          case c5 => rw [World.size_alloc]; have := hb4.out.size; omega
          intro v' w5 hown5 hgrow5 _ hat5
          have hB5 : Hid (Below base wr w5) := (hB3.out.alloc (by have := hb4.out.size; omega) _).grown hgrow5 (by rw [World.size_alloc]; have := hb4.out.size; omega) (fun k hk => (HRW.out.lt k hk).1)
          have HOW5 : Hid (w5.ownsRow base tRn 6 v' (i + 1) ((acc ++ [((pcN c), p2, l', c2)]).flatMap kidC)) := by
            unfold Hid
            rw [flat_snoc]
            exact hown5
          have hla : acc.length = i := by
            have h := congrArg List.length HAC.out
            simp only [List.length_map, List.length_take] at h
            rw [HAL.out] at h
            omega
          obtain ⟨q5, cp5, hv5, _, _, _, _⟩ := RdG.of_own kidC_len (by rw [List.length_append, List.length_singleton, hla]) HOW5.out
          subst hv5
          have HN5 : Hid (BlkC w5 L (ndA (pcN n) q i cp) tRn) := (hB5.out.block _ hLb).trans HN2.out
          have HKN := Lib.hid (kidsMpc (G := L) (u := .slice q5 (i + 1) cp5) (c2 := c2) hLb hbs hb4.out hgrow5 hat5 (fun b e => (HOW.out.lt b e).2) (HKD.out d' HHD.out) HK3.out)
          have hs5 := hB5.out.size
          clear hown5 hgrow5 hat5 HRW HK3 HKD HCF HCO HC HIH HOK HFW A5 B5 Q0 Q1 Q2 Q3 Q4 Q5
          have e5 : w5.cell? ⟨L, 5, none⟩ = some (.slice q i cp) := HN5.out.cell 5 _ rfl
          have g5 := HN5.out.fz 5
          go_wp2_with fail
          refine ⟨rfl, ⟨⟨w5, hB5.out⟩, rfl⟩, ?_⟩
          (unfold wpSegK; simp only [pick_nil, pick_cons, nthO_zero, nthO_succ, List.append])
          repeat (go_big_quiet_step (fail))
          refine wpQuiet_nil ?_
          go_wp2_with fail
          refine ⟨rfl, ?_⟩
          have HP6 : Hid (BlkC (w5.setCell ⟨L, 5, none⟩ (.slice q5 (i + 1) cp5)) L (ndA (pcN n) q5 (i + 1) cp5) tRn) := block_setCell HN5.out _
          have HR6 : Hid (NdB tRn (w5.setCell ⟨L, 5, none⟩ (.slice q5 (i + 1) cp5)) w.heap.size n (some ⟨b, off, none⟩) len cap) := by
            unfold Hid NdB
            rw [heap_setCell_other _ _ _ _ (by show w.heap.size ≠ L; omega), hB5.out.block _ (by omega)]
            exact HN1.out
          have HZ6 : Hid (BlkC (w5.setCell ⟨L, 5, none⟩ (.slice q5 (i + 1) cp5)) (w.heap.size + 1) (ndA nodeZ none 0 0) tRn) := by
            unfold Hid BlkC
            rw [heap_setCell_other _ _ _ _ (by show w.heap.size + 1 ≠ L; omega), hB5.out.block _ (by omega)]
            exact HN0.out
          have HW6 : Hid ((w5.setCell ⟨L, 5, none⟩ (.slice q5 (i + 1) cp5)).ownsRow base tRn 6 (.slice q5 (i + 1) cp5) (i + 1) ((acc ++ [((pcN c), p2, l', c2)]).flatMap kidC)) :=
            row_carry HOW5.out (fun b hb => heap_setCell_other _ _ _ _ (by have := (HOW5.out.lt b hb).1; show b ≠ L; omega))
          have HL6 : Hid (Below w.heap.size w (w5.setCell ⟨L, 5, none⟩ (.slice q5 (i + 1) cp5))) := (HBL.out.trans (hB5.out.mono (by omega))).setCell (by show w.heap.size ≤ L; omega) _
          have hz6 : base ≤ (w5.setCell ⟨L, 5, none⟩ (.slice q5 (i + 1) cp5)).heap.size := by rw [World.size_setCell]; omega
          have HAN : Hid ((acc ++ [((pcN c), p2, l', c2)]).map Prod.fst = (n.args.take (i + 1)).map pcN) := by
            unfold Hid
            rw [List.map_append, HAC.out, List.take_add_one, HHC.out]
            simp
          generalize w5.setCell ⟨L, 5, none⟩ (.slice q5 (i + 1) cp5) = w6 at HP6 HR6 HZ6 HW6 HL6 HKN hz6 ⊢
          clear HHC HN5 HN0 HN1 HN2 HOW HOW5 hB5 hB3 hb4 e5 g5 HBL
          go_wp2_with fail
          go_roundg (gk - 1)
          case measure => omega
          case rel =>
            refine ⟨i + 1, acc ++ [((pcN c), p2, l', c2)], q5, cp5, by omega, by go_num, HAN.out, HR6.out, HZ6.out, HP6.out, HW6.out, fun d'' hd x hx => ?_, HL6.out, hz6⟩
            obtain rfl : d' = d'' := by have := HHD.out; omega
            exact HKN.out x hx
        · obtain rfl : i = len := by omega
          have hli : ¬ (i : Int) < (i : Int) := by omega
          have hla : acc.length = i := by
            have h := congrArg List.length HAC.out
            simp only [List.length_map, List.length_take] at h
            rw [HAL.out] at h
            omega
          clear a0 a1 a2 a3 a4 b5
          go_upto_region 11 with fail
          refine wp_region_lit ?_
          refine wpList_load_mid (by rfl) _ _ (by rfl) L 0 (by rfl) [.int .i64 (pcN n).kind, .int .i64 (pcN n).num, .string ⟨(pcN n).text.toArray⟩, .int .i64 (pcN n).frm, .int .i64 (pcN n).tor, .slice q i cp] _ (block_range HN2.out [.int .i64 (pcN n).kind, .int .i64 (pcN n).num, .string ⟨(pcN n).text.toArray⟩, .int .i64 (pcN n).frm, .int .i64 (pcN n).tor, .slice q i cp] rfl) Tryz.underlying25 rfl (by kernel_rfl) ?_
          go_simp
          refine wpList_store_mid (by rfl) _ _ _ (by rfl) (w.heap.size + 1) 0 #[.int .i64 (pcN n).kind, .int .i64 (pcN n).num, .string ⟨(pcN n).text.toArray⟩, .int .i64 (pcN n).frm, .int .i64 (pcN n).tor, .slice q i cp] (by rfl) (by rfl) (block_there HN0.out 6 (Nat.le_refl _)) (by kernel_rfl) (by simp [Value.oneCell']) ?_
          have e8 : wr.setCells (w.heap.size + 1) 0 (#[.int .i64 (pcN n).kind, .int .i64 (pcN n).num, .string ⟨(pcN n).text.toArray⟩, .int .i64 (pcN n).frm, .int .i64 (pcN n).tor, .slice q i cp]).toList = wr.setCells (w.heap.size + 1) 0 (ndA (pcN n) q i cp).toList := rfl
          rw [e8]
          clear e8
          have HS8 : Hid (BlkC (wr.setCells (w.heap.size + 1) 0 (ndA (pcN n) q i cp).toList) (w.heap.size + 1) (ndA (pcN n) q i cp) tRn) := store_block HN0.out _ rfl
          have HB8 : Hid (Below w.heap.size w (wr.setCells (w.heap.size + 1) 0 (ndA (pcN n) q i cp).toList)) := store_below (by omega) _ _ _ HBL.out
          have hz8 := (store_below (Nat.zero_le (w.heap.size + 1)) (ndA (pcN n) q i cp).toList 0 wr (Below.refl 0 wr)).size
          have HO8 : Hid (∀ k, k ≠ w.heap.size + 1 → (wr.setCells (w.heap.size + 1) 0 (ndA (pcN n) q i cp).toList).heap[k]? = wr.heap[k]?) := fun k hk => store_other hk _ _ _
          generalize wr.setCells (w.heap.size + 1) 0 (ndA (pcN n) q i cp).toList = w9 at HS8 HB8 HO8 hz8 ⊢
          go_simp
          iterate 3 (first | go_values | go_skip | go_guarded | go_step | go_upon)
          apply wp_ret
          try simp only [Exit.inBlock, Exit.then]
          refine bodyPost_ret (results_cell_row rfl _ _ (w.heap.size + 1) tRn (ndA (pcN n) q i cp) (0, 0) _ rfl HS8.out Tryz.underlying25 rfl (by kernel_rfl)) rfl ⟨⟨q, cp, rfl, ?_⟩, HB8.out⟩
          cases d with
          | zero =>
            have h := HRD.out
            refine ⟨?_, h.2⟩
            rw [HGA.out, h.1]; rfl
          | succ d =>
            subst hla
            obtain ⟨q', cp', hv, hr⟩ := RdP.of_rowR (n := (pcN n)) (d := d) (ok := fun b => base ≤ b ∧ b < wr.heap.size) HOW.out (by rw [HAC.out, List.take_of_length_le (by rw [HAL.out]; exact Nat.le_refl _)]; exact HGA.out.symm) (fun x hx => RdP.carry (fun b hb => ⟨⟨hb.1, hb.2.1⟩, rfl⟩) (HKD.out d rfl x hx)) (fun b hb => HOW.out.lt b hb)
            cases hv
            exact RdP.carry (fun b hb => ⟨⟨by omega, by omega⟩, HO8.out b (by omega)⟩) hr
    · have b3 : (n.kind == 3) = false := by simpa using h3
      have HE : Hid (ndA (pcN n) none 0 0 = #[.int .i64 n.kind, .int .i64 n.num, .string ⟨n.text.toArray⟩, .int .i64 0, .int .i64 0, .slice none 0 0]) := by unfold Hid; rw [HPA.out, if_neg (by omega), if_neg h4]
      clear h3 h4 HPA
      go_upto_region 7 with fail
      clear HOF HOT
      have HL3 : Hid (BlkC (w1) (w.heap.size + 2) (ndA (pcN n) none 0 0) tRn) := by unfold Hid; rw [HE.out]; exact HL1.out
      have hb2 : Below (w.heap.size + 2) w1 (w1) := Below.refl _ _
      have HN3 : Hid (NdB tRn (w1) w.heap.size n p len cap) := (hb2.block _ (by omega)).trans HN1.out
      have HZ3 : Hid (BlkC (w1) (w.heap.size + 1) (ndA nodeZ none 0 0) tRn) := (hb2.block _ (by omega)).trans HZ1.out
      have HB3 : Hid (Below w.heap.size w (w1)) := HB1.out.trans (hb2.mono (by omega))
      have hLb : w.heap.size + 2 < (w1).heap.size := by have := hb2.size; first | omega | (simp only [World.size_setCell] at *; omega)
      have hLH : w.heap.size + 1 < w.heap.size + 2 := by omega
      have hH1 : w.heap.size + 1 < (w1).heap.size := by omega
      clear hb2 HN1 HZ1 HL1 HB1 HE c0 c1 c2 c3 c4 c5 hl1
      generalize w1 = w3 at HL3 HN3 HZ3 HB3 hLb hH1 ⊢
      obtain ⟨L, hLe⟩ : ∃ L, w.heap.size + 2 = L := ⟨_, rfl⟩
      rw [hLe] at HL3 hLb hLH ⊢
      clear hLe
      obtain ⟨base, hbase⟩ : ∃ base, w3.heap.size = base := ⟨_, rfl⟩
      have HB0 := Lib.hid hbase
      rw [hbase] at hLb hH1
      clear hbase
      obtain ⟨i0, hi, hz0, hz1, hz2⟩ := info_of info_rn
      go_wp2_with fail
      go_loopg [5] len (fun g v wr => ∃ (i : Nat) (acc : List Kid) (q : Option Addr) (cp : Nat), i + g = len ∧ v = .int .i64 i ∧ acc.map Prod.fst = (n.args.take i).map pcN ∧ NdB tRn wr w.heap.size n p len cap ∧ BlkC wr (w.heap.size + 1) (ndA nodeZ none 0 0) tRn ∧ BlkC wr L (ndA (pcN n) q i cp) tRn ∧ wr.ownsRow base tRn 6 (.slice q i cp) i (acc.flatMap kidC) ∧ (∀ d', d = d' + 1 → ∀ x ∈ acc, RdP wr (okMpc base wr (.slice q i cp)) d' x.1 x.2.1 x.2.2.1) ∧ Below w.heap.size w wr ∧ base ≤ wr.heap.size)
      case atStart => exact ⟨0, [], none, 0, by omega, rfl, rfl, HN3.out, HZ3.out, HL3.out, World.ownsRow_nil _ _ _ _, fun _ _ x hx => (by cases hx), HB3.out, by rw [HB0.out]; exact Nat.le_refl _⟩
      case round =>
        obtain ⟨i, acc, q, cp, hig, rfl, hacc, hn1, hn0, hn2, hown, hkid, hbel, hbs⟩ := hrel
        have HAC := Lib.hid hacc
        have HN1 := Lib.hid hn1
        have HN0 := Lib.hid hn0
        have HN2 := Lib.hid hn2
        have HOW := Lib.hid hown
        have HKD := Lib.hid hkid
        have HBL := Lib.hid hbel
        have hzr := hbel.size
        clear hacc hn1 hn0 hn2 hown hkid hbel HN3 HZ3 HL3 HB3 HB0
        obtain ⟨a0, a1, a2, a3, a4, a5⟩ := HN1.out.cells
        have b5 : wr.cell? ⟨L, 5, none⟩ = some (.slice q i cp) := HN2.out.cell 5 _ rfl
        by_cases hlt : i < len
        · have hli : (i : Int) < (len : Int) := by omega
          obtain ⟨d', b, off, c, p', l', c', hd, rfl, hbN, hc, hrc, q0, q1, q2, q3, q4, q5⟩ := (HRD.out.below HBL.out).at hlt
          have HC : Hid (pcC d') := HIH.out d' hd
          have HCO := Lib.hid (HOK.out c (mem_at hc))
          have HCF := Lib.hid (HFW.out c (mem_at hc))
          have A5 := Kept.cell (N := base) a5 (by omega)
          have B5 := Kept.cell (N := base) b5 (by omega)
          have Q0 := Kept.cell (N := base) q0 (by omega)
          have Q1 := Kept.cell (N := base) q1 (by omega)
          have Q2 := Kept.cell (N := base) q2 (by omega)
          have Q3 := Kept.cell (N := base) q3 (by omega)
          have Q4 := Kept.cell (N := base) q4 (by omega)
          have Q5 := Kept.cell (N := base) q5 (by omega)
          go_upto_region 10 with fail
          refine wp_region_schedT (fun wx => ∃ x : Kept base wr, wx = x.v) 11 [([0,1,2,3,4,5,6],7),([],8),([],9)] [10] (by kernel_rfl) (by kernel_rfl) (by kernel_rfl) (by kernel_rfl) (kept_drew _ _ (by omega)) ?_
          (unfold wpSegK; simp only [pick_nil, pick_cons, nthO_zero, nthO_succ, List.append])
          clear a0 a1 a2 a3 a4 a5 b5 q0 q1 q2 q3 q4 q5
          repeat (go_big_quiet_step (fail))
          refine wpQuiet_nil ?_
          have HRC := Lib.hid hrc
          have HHC := Lib.hid hc
          have HHD := Lib.hid hd
          clear hrc hc hd
          have HCC := Lib.hid (HC.out c p' l' c' wr.drew ((HRC.out.below (Below.drew (Below.refl _ _))).mono hzr) HCO.out HCF.out)
          rw [ndA_eq c p' l' c'] at HCC
          go_wp2_with fail
          refine HCC.out.mono ?_
          rintro e w3 ⟨⟨p2, c2, rfl, hk3⟩, hb3⟩
          have hb4 : Hid (Below wr.heap.size wr w3) := bel_call hb3 (Below.drew (Below.refl _ _)) (Nat.le_refl _)
          have HK3 := Lib.hid hk3
          rw [show Value.agg (ndA (pcN c) p2 l' c2) = .agg #[.int .i64 (pcN c).kind, .int .i64 (pcN c).num, .string ⟨(pcN c).text.toArray⟩, .int .i64 (pcN c).frm, .int .i64 (pcN c).tor, .slice p2 l' c2] from rfl]
          clear HCC hk3 hb3
          go_wp2_with fail
          have hB3 : Hid (Below base wr w3) := hb4.out.mono (by omega)
          refine ⟨rfl, ⟨⟨w3, hB3.out⟩, rfl⟩, ?_⟩
          (unfold wpSegK; simp only [pick_nil, pick_cons, nthO_zero, nthO_succ, List.append])
          refine wpQuiet_nil ?_
          go_wp2_with fail
          have e4 : w3.alloc (.cells #[.int .i64 (pcN c).kind, .int .i64 (pcN c).num, .string ⟨(pcN c).text.toArray⟩, .int .i64 (pcN c).frm, .int .i64 (pcN c).tor, .slice p2 l' c2] tRn) = w3.alloc (.cells (ndA (pcN c) p2 l' c2) tRn) := rfl
          rw [e4]
          clear e4
          refine ⟨rfl, ⟨⟨_, hB3.out.alloc (by have := hb4.out.size; omega) _⟩, rfl⟩, ?_⟩
          (unfold wpSegK; simp only [pick_nil, pick_cons, nthO_zero, nthO_succ, List.append])
          refine wpQuiet_nil ?_
          have HRW := Lib.hid (row_below HOW.out hb4.out)
          refine wpList_append_own_at _ rfl _ _ _ rfl base tRn i0 _ 6 72 Tryz.underlying23 hi hz0 hz1 hz2 rfl (by decide) _ _ _ rfl (HRW.out.alloc _) ⟨w3.heap.size, 0, none⟩ 1 1 (ndC (pcN c) p2 l' c2) rfl rfl (newRn w3 (pcN c) p2 l' c2) ?c2 ?c3 ?c4 ?c5 ?_
          case c2 => exact kidC_one ((pcN c), p2, l', c2)
          case c3 => unfold maxLen; omega
          case c4 => omega
          case c5 => rw [World.size_alloc]; have := hb4.out.size; omega
          intro v' w5 hown5 hgrow5 _ hat5
          have hB5 : Hid (Below base wr w5) := (hB3.out.alloc (by have := hb4.out.size; omega) _).grown hgrow5 (by rw [World.size_alloc]; have := hb4.out.size; omega) (fun k hk => (HRW.out.lt k hk).1)
          have HOW5 : Hid (w5.ownsRow base tRn 6 v' (i + 1) ((acc ++ [((pcN c), p2, l', c2)]).flatMap kidC)) := by
            unfold Hid
            rw [flat_snoc]
            exact hown5
          have hla : acc.length = i := by
            have h := congrArg List.length HAC.out
            simp only [List.length_map, List.length_take] at h
            rw [HAL.out] at h
            omega
          obtain ⟨q5, cp5, hv5, _, _, _, _⟩ := RdG.of_own kidC_len (by rw [List.length_append, List.length_singleton, hla]) HOW5.out
          subst hv5
          have HN5 : Hid (BlkC w5 L (ndA (pcN n) q i cp) tRn) := (hB5.out.block _ hLb).trans HN2.out
          have HKN := Lib.hid (kidsMpc (G := L) (u := .slice q5 (i + 1) cp5) (c2 := c2) hLb hbs hb4.out hgrow5 hat5 (fun b e => (HOW.out.lt b e).2) (HKD.out d' HHD.out) HK3.out)
          have hs5 := hB5.out.size
          clear hown5 hgrow5 hat5 HRW HK3 HKD HCF HCO HC HIH HOK HFW A5 B5 Q0 Q1 Q2 Q3 Q4 Q5
          have e5 : w5.cell? ⟨L, 5, none⟩ = some (.slice q i cp) := HN5.out.cell 5 _ rfl
          have g5 := HN5.out.fz 5
          go_wp2_with fail
          refine ⟨rfl, ⟨⟨w5, hB5.out⟩, rfl⟩, ?_⟩
          (unfold wpSegK; simp only [pick_nil, pick_cons, nthO_zero, nthO_succ, List.append])
          repeat (go_big_quiet_step (fail))
          refine wpQuiet_nil ?_
          go_wp2_with fail
          refine ⟨rfl, ?_⟩
          have HP6 : Hid (BlkC (w5.setCell ⟨L, 5, none⟩ (.slice q5 (i + 1) cp5)) L (ndA (pcN n) q5 (i + 1) cp5) tRn) := block_setCell HN5.out _
          have HR6 : Hid (NdB tRn (w5.setCell ⟨L, 5, none⟩ (.slice q5 (i + 1) cp5)) w.heap.size n (some ⟨b, off, none⟩) len cap) := by
            unfold Hid NdB
            rw [heap_setCell_other _ _ _ _ (by show w.heap.size ≠ L; omega), hB5.out.block _ (by omega)]
            exact HN1.out
          have HZ6 : Hid (BlkC (w5.setCell ⟨L, 5, none⟩ (.slice q5 (i + 1) cp5)) (w.heap.size + 1) (ndA nodeZ none 0 0) tRn) := by
            unfold Hid BlkC
            rw [heap_setCell_other _ _ _ _ (by show w.heap.size + 1 ≠ L; omega), hB5.out.block _ (by omega)]
            exact HN0.out
          have HW6 : Hid ((w5.setCell ⟨L, 5, none⟩ (.slice q5 (i + 1) cp5)).ownsRow base tRn 6 (.slice q5 (i + 1) cp5) (i + 1) ((acc ++ [((pcN c), p2, l', c2)]).flatMap kidC)) :=
            row_carry HOW5.out (fun b hb => heap_setCell_other _ _ _ _ (by have := (HOW5.out.lt b hb).1; show b ≠ L; omega))
          have HL6 : Hid (Below w.heap.size w (w5.setCell ⟨L, 5, none⟩ (.slice q5 (i + 1) cp5))) := (HBL.out.trans (hB5.out.mono (by omega))).setCell (by show w.heap.size ≤ L; omega) _
          have hz6 : base ≤ (w5.setCell ⟨L, 5, none⟩ (.slice q5 (i + 1) cp5)).heap.size := by rw [World.size_setCell]; omega
          have HAN : Hid ((acc ++ [((pcN c), p2, l', c2)]).map Prod.fst = (n.args.take (i + 1)).map pcN) := by
            unfold Hid
            rw [List.map_append, HAC.out, List.take_add_one, HHC.out]
            simp
          generalize w5.setCell ⟨L, 5, none⟩ (.slice q5 (i + 1) cp5) = w6 at HP6 HR6 HZ6 HW6 HL6 HKN hz6 ⊢
          clear HHC HN5 HN0 HN1 HN2 HOW HOW5 hB5 hB3 hb4 e5 g5 HBL
          go_wp2_with fail
          go_roundg (gk - 1)
          case measure => omega
          case rel =>
            refine ⟨i + 1, acc ++ [((pcN c), p2, l', c2)], q5, cp5, by omega, by go_num, HAN.out, HR6.out, HZ6.out, HP6.out, HW6.out, fun d'' hd x hx => ?_, HL6.out, hz6⟩
            obtain rfl : d' = d'' := by have := HHD.out; omega
            exact HKN.out x hx
        · obtain rfl : i = len := by omega
          have hli : ¬ (i : Int) < (i : Int) := by omega
          have hla : acc.length = i := by
            have h := congrArg List.length HAC.out
            simp only [List.length_map, List.length_take] at h
            rw [HAL.out] at h
            omega
          clear a0 a1 a2 a3 a4 b5
          go_upto_region 11 with fail
          refine wp_region_lit ?_
          refine wpList_load_mid (by rfl) _ _ (by rfl) L 0 (by rfl) [.int .i64 (pcN n).kind, .int .i64 (pcN n).num, .string ⟨(pcN n).text.toArray⟩, .int .i64 (pcN n).frm, .int .i64 (pcN n).tor, .slice q i cp] _ (block_range HN2.out [.int .i64 (pcN n).kind, .int .i64 (pcN n).num, .string ⟨(pcN n).text.toArray⟩, .int .i64 (pcN n).frm, .int .i64 (pcN n).tor, .slice q i cp] rfl) Tryz.underlying25 rfl (by kernel_rfl) ?_
          go_simp
          refine wpList_store_mid (by rfl) _ _ _ (by rfl) (w.heap.size + 1) 0 #[.int .i64 (pcN n).kind, .int .i64 (pcN n).num, .string ⟨(pcN n).text.toArray⟩, .int .i64 (pcN n).frm, .int .i64 (pcN n).tor, .slice q i cp] (by rfl) (by rfl) (block_there HN0.out 6 (Nat.le_refl _)) (by kernel_rfl) (by simp [Value.oneCell']) ?_
          have e8 : wr.setCells (w.heap.size + 1) 0 (#[.int .i64 (pcN n).kind, .int .i64 (pcN n).num, .string ⟨(pcN n).text.toArray⟩, .int .i64 (pcN n).frm, .int .i64 (pcN n).tor, .slice q i cp]).toList = wr.setCells (w.heap.size + 1) 0 (ndA (pcN n) q i cp).toList := rfl
          rw [e8]
          clear e8
          have HS8 : Hid (BlkC (wr.setCells (w.heap.size + 1) 0 (ndA (pcN n) q i cp).toList) (w.heap.size + 1) (ndA (pcN n) q i cp) tRn) := store_block HN0.out _ rfl
          have HB8 : Hid (Below w.heap.size w (wr.setCells (w.heap.size + 1) 0 (ndA (pcN n) q i cp).toList)) := store_below (by omega) _ _ _ HBL.out
          have hz8 := (store_below (Nat.zero_le (w.heap.size + 1)) (ndA (pcN n) q i cp).toList 0 wr (Below.refl 0 wr)).size
          have HO8 : Hid (∀ k, k ≠ w.heap.size + 1 → (wr.setCells (w.heap.size + 1) 0 (ndA (pcN n) q i cp).toList).heap[k]? = wr.heap[k]?) := fun k hk => store_other hk _ _ _
          generalize wr.setCells (w.heap.size + 1) 0 (ndA (pcN n) q i cp).toList = w9 at HS8 HB8 HO8 hz8 ⊢
          go_simp
          iterate 3 (first | go_values | go_skip | go_guarded | go_step | go_upon)
          apply wp_ret
          try simp only [Exit.inBlock, Exit.then]
          refine bodyPost_ret (results_cell_row rfl _ _ (w.heap.size + 1) tRn (ndA (pcN n) q i cp) (0, 0) _ rfl HS8.out Tryz.underlying25 rfl (by kernel_rfl)) rfl ⟨⟨q, cp, rfl, ?_⟩, HB8.out⟩
          cases d with
          | zero =>
            have h := HRD.out
            refine ⟨?_, h.2⟩
            rw [HGA.out, h.1]; rfl
          | succ d =>
            subst hla
            obtain ⟨q', cp', hv, hr⟩ := RdP.of_rowR (n := (pcN n)) (d := d) (ok := fun b => base ≤ b ∧ b < wr.heap.size) HOW.out (by rw [HAC.out, List.take_of_length_le (by rw [HAL.out]; exact Nat.le_refl _)]; exact HGA.out.symm) (fun x hx => RdP.carry (fun b hb => ⟨⟨hb.1, hb.2.1⟩, rfl⟩) (HKD.out d rfl x hx)) (fun b hb => HOW.out.lt b hb)
            cases hv
            exact RdP.carry (fun b hb => ⟨⟨by omega, by omega⟩, HO8.out b (by omega)⟩) hr
theorem pc_any : ∀ d, pcC d
  | 0 => pc_s 0 (fun d' h => by omega)
  | d + 1 => pc_s (d + 1) (fun d' h => (show d = d' from by omega) ▸ pc_any d)
end Go.Proofs.YtigmcoelkkihkaaGreatDoor
namespace Go.Proofs.YtigmcoelkkihkaaGreatDoor
open Go.RowKit Go.Joins

/-- What the law makes of a tree. -/
abbrev xN (n : Nd) : Nd := pcN (plN n)
mutual
theorem x_dp : ∀ n : Nd, dpN (pcN (plN n)) = dpN n
  | .mk k u t f o a => by rw [plN, pcN, dpN, dpN, x_dpL a]
theorem x_dpL : ∀ (a : List Nd) (m : Nat), dpL (pcNL (plNL a)) m = dpL a m
  | [], m => by rw [plNL, pcNL]
  | c :: r, m => by rw [plNL, pcNL, dpL, dpL, x_dp c, x_dpL r]
end
mutual
theorem x_sz : ∀ (n : Nd) (m : Int), szN (pcN (plN n)) m = szN n m
  | .mk k u t f o a, m => by rw [plN, pcN, szN, szN, x_szL a]
theorem x_szL : ∀ (a : List Nd) (k m : Int), szL (pcNL (plNL a)) k m = szL a k m
  | [], k, m => by rw [plNL, pcNL]
  | c :: r, k, m => by rw [plNL, pcNL, szL, szL, x_sz c, x_szL r]
end
mutual
theorem x_wt : ∀ n : Nd, wtN (pcN (plN n)) ≤ wtN n
  | .mk k u t f o a => by
    rw [plN, pcN, wtN, wtN]
    have := x_wtL a
    split
    · omega
    · simp; omega
theorem x_wtL : ∀ a : List Nd, wtL (pcNL (plNL a)) ≤ wtL a
  | [] => by rw [plNL, pcNL]; exact Nat.le_refl _
  | c :: r => by
    rw [plNL, pcNL, wtL, wtL]
    have h1 := x_wt c
    have h2 := x_wtL r
    omega
end
theorem onK_in (k : Int) : 0 ≤ onK k ∧ onK k ≤ 10000000 := by
  unfold onK
  have h1 := Nat.mod_lt (IntKind.u64.wrap k).toNat (show 0 < 702 by omega)
  have h2 := Nat.mod_lt ((IntKind.u64.wrap k).toNat / 702) (show 0 < 9999 by omega)
  omega
theorem onK_ok (k : Int) : OkC (onK k) := by
  unfold onK OkC cC cR
  have h1 := Nat.mod_lt (IntKind.u64.wrap k).toNat (show 0 < 702 by omega)
  have h2 := Nat.mod_lt ((IntKind.u64.wrap k).toNat / 702) (show 0 < 9999 by omega)
  obtain ⟨a, ha⟩ : ∃ a, (IntKind.u64.wrap k).toNat % 702 = a := ⟨_, rfl⟩
  obtain ⟨b, hb⟩ : ∃ b, (IntKind.u64.wrap k).toNat / 702 % 9999 = b := ⟨_, rfl⟩
  rw [ha] at h1 ⊢
  rw [hb] at h2 ⊢
  rw [Int.tdiv_eq_ediv_of_nonneg (by omega), Int.tmod_eq_emod_of_nonneg (by omega)]
  have e1 : ((1 + (a : Int)) * 10000 + (1 + (b : Int))) / 10000 = 1 + (a : Int) := by omega
  have e2 : ((1 + (a : Int)) * 10000 + (1 + (b : Int))) % 10000 = 1 + (b : Int) := by omega
  rw [e1, e2]
  unfold rtC
  simp
  omega
theorem x_ok : ∀ {n : Nd}, OkN n → OkN (xN n)
  | _, .mk k u t f o a h1 h2 h3 h4 h5 h6 => by
    unfold xN
    rw [plN, pcN]
    refine .mk _ _ _ _ _ _ ?_ ?_ ?_ ?_ ?_ (fun c hc => ?_)
    · split
      · exact h1
      · simp
    · rw [plNL_map, pcNL_map, List.length_map, List.length_map]; exact h2
    · split <;> omega
    · have h := onK_in (if k = 3 ∨ k = 4 then f else 0)
      generalize onK (if k = 3 ∨ k = 4 then f else 0) = z at h ⊢
      split <;> omega
    · have h := onK_in (if k = 3 ∨ k = 4 then o else 0)
      generalize onK (if k = 3 ∨ k = 4 then o else 0) = z at h ⊢
      split <;> omega
    · rw [plNL_map, pcNL_map, List.map_map] at hc
      obtain ⟨y, hy, rfl⟩ := List.mem_map.1 hc
      exact x_ok (h6 y hy)
mutual
theorem dp_rt : ∀ (n : Nd) (lv : Int), rtN n lv = true → (dpN n : Int) ≤ lv
  | .mk k u t f o a, lv, h => by
    rw [rtN, Bool.and_eq_true, Bool.and_eq_true] at h
    have h1 : 1 ≤ lv := by
      have := h.1.1
      unfold headB at this
      simp only [Bool.and_eq_true, decide_eq_true_eq] at this
      exact this.1
    rw [dpN]
    have := dpL_rt a (lv - 1) 0 h.2 (by omega)
    omega
theorem dpL_rt : ∀ (a : List Nd) (lv : Int) (m : Nat), rtL a lv = true → (m : Int) ≤ lv → (dpL a m : Int) ≤ lv
  | [], lv, m, _, hm => by rw [dpL]; exact hm
  | c :: r, lv, m, h, hm => by
    rw [rtL, Bool.and_eq_true] at h
    rw [dpL]
    have := dp_rt c lv h.1
    exact dpL_rt r lv _ h.2 (by omega)
end
theorem rtL_of : ∀ {a : List Nd} {lv : Int}, (∀ c ∈ a, rtN c lv = true) → rtL a lv = true
  | [], lv, _ => by rw [rtL]
  | c :: r, lv, h => by rw [rtL, h c (by simp), rtL_of (fun x hx => h x (by simp [hx]))]; rfl
theorem dpL_memO : ∀ {a : List Nd} {c : Nd} {m : Nat}, c ∈ a → dpN c ≤ dpL a m
  | [], _, _, h => by cases h
  | x :: r, c, m, h => by
    rw [dpL]
    rcases List.mem_cons.1 h with rfl | h
    · exact Nat.le_trans (Nat.le_max_right _ _) (dpL_ge r _)
    · exact dpL_memO h
theorem dpN_memO {ar : List Nd} {c : Nd} (h : c ∈ ar) {k : Int} {t : Bs} : dpN c + 1 ≤ dpN (.mk k 0 t 0 0 ar) := by
  have := dpL_memO (m := 0) h
  rw [dpN]
  omega
/-- A formula that may be read, of few enough levels, is right. -/
theorem rt_fm {n : Nd} (h : Fm n) : ∀ lv : Int, (dpN n : Int) ≤ lv → rtN n lv = true := by
  have hd1 : ∀ c : Nd, 1 ≤ dpN c := fun c => by cases c; rw [dpN]; omega
  induction h with
  | num u h1 h2 =>
    intro lv hlv
    have := hd1 (.mk 1 u [] 0 0 [])
    rw [rtN, rtL]
    simp [headB, tagB, arB, loK, hiK, Nd.kind, Nd.args, Nd.num, h1]
    omega
  | txt t =>
    intro lv hlv
    have := hd1 (.mk 2 0 t 0 0 [])
    rw [rtN, rtL]
    simp [headB, tagB, arB, loK, hiK, Nd.kind, Nd.args, Nd.num]
    omega
  | ref f h =>
    intro lv hlv
    have := hd1 (.mk 3 0 [] f 0 [])
    rw [rtN, rtL]
    simp [headB, tagB, arB, loK, hiK, Nd.kind, Nd.args, Nd.num]
    omega
  | rng f o h1 h2 =>
    intro lv hlv
    have := hd1 (.mk 4 0 [] f o [])
    rw [rtN, rtL]
    simp [headB, tagB, arB, loK, hiK, Nd.kind, Nd.args, Nd.num]
    omega
  | neg a h ih =>
    intro lv hlv
    rw [dpN_one] at hlv
    have h1 := ih (lv - 1) (by omega)
    have := hd1 a
    rw [rtN, rtL, rtL, h1]
    simp [headB, tagB, arB, loK, hiK, Nd.kind, Nd.args, Nd.num]
    omega
  | bin t a b ht h1 h2 i1 i2 =>
    intro lv hlv
    rw [dpN_bin] at hlv
    have e1 := i1 (lv - 1) (by omega)
    have e2 := i2 (lv - 1) (by omega)
    have := hd1 a
    rw [rtN, rtL, rtL, rtL, e1, e2]
    have hl1 : 1 ≤ lv := by omega
    have hn0 : lvS t ≠ 0 := by omega
    simp [headB, tagB, arB, loK, hiK, Nd.kind, Nd.args, Nd.num, Nd.text, hl1, hn0]
  | cal t ar ht hl h ih =>
    intro lv hlv
    have hk : ∀ c ∈ ar, rtN c (lv - 1) = true := fun c hc => ih c hc (lv - 1) (by have := dpN_memO hc (k := 7) (t := t); omega)
    have := hd1 (.mk 7 0 t 0 0 ar)
    rw [rtN, rtL_of hk]
    simp [headB, tagB, arB, loK, hiK, Nd.kind, Nd.args, Nd.num, Nd.text, ht]
    omega
  | flt =>
    intro lv hlv
    have := hd1 (.mk 8 0 [] 0 0 [])
    rw [rtN, rtL]
    simp [headB, tagB, arB, loK, hiK, Nd.kind, Nd.args, Nd.num]
    omega
/-- What the law makes of a right tree may be read. -/
theorem x_fm : ∀ {n : Nd}, OkN n → ∀ lv : Int, rtN n lv = true → Fm (xN n)
  | _, .mk k u t f o a h1 h2 h3 h4 h5 h6, lv, hrt => by
    obtain ⟨k1, k8, hlo, hhi⟩ := rtN_arity hrt
    have hkids := rtN_kids hrt
    have hF : ∀ c ∈ a, Fm (xN c) := fun c hc => x_fm (h6 c hc) (lv - 1) (hkids c hc)
    have htag := hrt
    rw [rtN_eq, Bool.and_eq_true, Bool.and_eq_true] at htag
    have htag := htag.1.2
    simp only [Nd.kind, Nd.args] at k1 k8 hlo hhi
    have hk : k = 1 ∨ k = 2 ∨ k = 3 ∨ k = 4 ∨ k = 5 ∨ k = 6 ∨ k = 7 ∨ k = 8 := by omega
    unfold xN
    rw [plN, pcN]
    rcases hk with rfl | rfl | rfl | rfl | rfl | rfl | rfl | rfl
    · have ha : a = [] := List.eq_nil_of_length_eq_zero (by simp [hiK] at hhi; simpa using hhi)
      subst ha
      simp [tagB, Nd.kind, Nd.num] at htag
      rw [plNL, pcNL]
      exact .num u (of_decide_eq_true htag) (by omega)
    · have ha : a = [] := List.eq_nil_of_length_eq_zero (by simp [hiK] at hhi; simpa using hhi)
      subst ha
      rw [plNL, pcNL]
      exact .txt t
    · have ha : a = [] := List.eq_nil_of_length_eq_zero (by simp [hiK] at hhi; simpa using hhi)
      subst ha
      rw [plNL, pcNL]
      exact .ref _ (onK_ok _)
    · have ha : a = [] := List.eq_nil_of_length_eq_zero (by simp [hiK] at hhi; simpa using hhi)
      subst ha
      rw [plNL, pcNL]
      exact .rng _ _ (onK_ok _) (onK_ok _)
    · obtain ⟨x, hx⟩ := args_one hrt rfl
      have hx' : a = [x] := hx
      subst hx'
      rw [plNL, plNL, pcNL, pcNL]
      exact .neg _ (hF x (by simp))
    · obtain ⟨x, y, hx⟩ := args_two hrt rfl
      have hx' : a = [x, y] := hx
      subst hx'
      rw [plNL, plNL, plNL, pcNL, pcNL, pcNL]
      exact .bin t _ _ (rtN_tag6 hrt rfl) (hF x (by simp)) (hF y (by simp))
    · simp [tagB, Nd.kind, Nd.text] at htag
      refine .cal t _ htag ?_ (fun c hc => ?_)
      · rw [plNL_map, pcNL_map, List.length_map, List.length_map]
        simp [hiK] at hhi
        omega
      · rw [plNL_map, pcNL_map, List.map_map] at hc
        obtain ⟨y, hy, rfl⟩ := List.mem_map.1 hc
        exact hF y hy
    · have ha : a = [] := List.eq_nil_of_length_eq_zero (by simp [hiK] at hhi; simpa using hhi)
      subst ha
      rw [plNL, pcNL]
      exact .flt
end Go.Proofs.YtigmcoelkkihkaaGreatDoor
