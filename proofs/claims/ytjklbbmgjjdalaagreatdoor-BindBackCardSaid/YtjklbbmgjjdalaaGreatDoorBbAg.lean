/- The document's reader of formulas: 'call'. Printed by gen_rr.py. -/
import Derived.Test.YtjklbbmgjjdalaaGreatDoorBbAf
import Derived.Test.YtjklbbmgjjdalaaGreatDoorBbZ
import Derived.Test.YtjklbbmgjjdalaaGreatDoorBbT
set_option linter.unusedSimpArgs false
set_option linter.unusedVariables false
namespace Go.Proofs.YtjklbbmgjjdalaaGreatDoor
open Go.RowKit Go.Joins
def KidOk6 (base : Nat) (w : World) (v : Value) (x : Kid) : Prop := ∀ d, dpN x.1 ≤ d + 1 → RdP w (okR base w v) d x.1 x.2.1 x.2.2.1
theorem kids_off6 {base b G l' c2 : Nat} {wr w3 w5 : World} {o : Obj} {v v' u : Value} {acc : List Kid} {c : Nd} {p2 : Option Addr} (hG : G < base) (hbb : b < base) (hbs : base ≤ wr.heap.size) (hb : Off b wr w3) (hg : (w3.alloc o).grownBy w5 v.ownBlock)
    (hat : v'.ownBlock = v.ownBlock ∨ v'.ownBlock = some (w3.alloc o).heap.size) (hlt : ∀ k, v.ownBlock = some k → k < wr.heap.size) (hk : ∀ x ∈ acc, KidOk6 base wr v x)
    (hn : ∀ d, dpN c ≤ d + 1 → RdP w3 (fun k => wr.heap.size ≤ k ∧ k < w3.heap.size) d c p2 l') :
    ∀ x ∈ acc ++ [(c, p2, l', c2)], KidOk6 base (w5.setCell ⟨G, 5, none⟩ u) v' x := by
  have hs := hb.size
  have hs2 := hg.size
  rw [World.size_alloc] at hs2 hat
  have hblk : ∀ k, G ≠ k → k < w3.heap.size → v.ownBlock ≠ some k → (w5.setCell ⟨G, 5, none⟩ u).heap[k]? = w3.heap[k]? := fun k h1 h2 h3 => by
    rw [heap_setCell_other _ _ _ _ (fun e => h1 e.symm), hg.block k (by rw [World.size_alloc]; omega) (fun e => h3 e.symm), heap_alloc_old _ _ h2]
  intro x hx d hd
  rcases List.mem_append.1 hx with hx | hx
  · refine RdP.carry (fun k hb' => ?_) (hk x hx d hd)
    obtain ⟨h1, h2, h3⟩ := hb'
    refine ⟨⟨h1, by rw [World.size_setCell]; omega, ?_⟩, ?_⟩
    · rcases hat with e | e
      · rw [e]; exact h3
      · rw [e]; intro e'; have := Option.some.inj e'; omega
    · rw [hblk k (by omega) (by omega) h3, hb.block k h2 (by omega)]
  · obtain rfl := List.mem_singleton.1 hx
    refine RdP.carry (fun k hb' => ?_) (hn d hd)
    obtain ⟨h1, h2⟩ := hb'
    have h3 : v.ownBlock ≠ some k := fun e => by have := hlt k e; omega
    refine ⟨⟨by omega, by rw [World.size_setCell]; omega, ?_⟩, ?_⟩
    · rcases hat with e | e
      · rw [e]; exact h3
      · rw [e]; intro e'; have := Option.some.inj e'; omega
    · exact hblk k (by omega) h2 h3
theorem RdP.of_row6 {w : World} {base d : Nat} {v : Value} {L : List Kid} {n : Nd} {ok : Nat → Prop} (h : w.ownsRow base tRn 6 v L.length (L.flatMap kidC)) (hL : L.map Prod.fst = n.args) (hq : ∀ q ∈ L, RdP w ok d q.1 q.2.1 q.2.2.1) (hown : ∀ b, v.ownBlock = some b → ok b) :
    ∃ p cap, v = .slice p L.length cap ∧ RdP w ok (d + 1) n p L.length := by
  obtain ⟨p, cap, hv, _, _, ⟨_, hr⟩, _⟩ := RdG.of_own kidC_len rfl h
  refine ⟨p, cap, hv, by rw [← hL, List.length_map], ?_⟩
  rcases hr with hr | ⟨b, off, h1, h2, h3⟩
  · exact .inl hr
  · refine .inr ⟨b, off, h1, hown b (by rw [hv, h1]; rfl), fun j c hc => ?_⟩
    rw [← hL, List.getElem?_map] at hc
    cases hj : L[j]? with
    | none => rw [hj] at hc; cases hc
    | some q =>
      rw [hj] at hc
      obtain rfl : q.1 = c := by simpa using hc
      exact ⟨q.2.1, q.2.2.1, q.2.2.2, fun k u hu => h3 j q hj k u hu, hq q (List.mem_of_getElem? hj)⟩
def RcR (t : Bs) (w : World) (b : Nat) (q : Option Addr) (nT cT i G base : Nat) (m : Nat) (acc : List Kid) (q' : Option Addr) (cp pos : Nat) (wr : World) : Prop :=
  acc.length = m ∧ m ≤ 16 ∧ BlkC wr G (ndA (Nd.mk 7 0 t 0 0 (acc.map Prod.fst)) q' m cp) tRn ∧ BlkC wr w.heap.size (ndA ndZ none 0 0) tRn ∧ Rdr wr b q nT cT pos 0 ∧ Off b w wr ∧ wr.ownsRow base tRn 6 (.slice q' m cp) m (acc.flatMap kidC) ∧ (∀ x ∈ acc, KidOk6 base wr (.slice q' m cp) x) ∧ base ≤ wr.heap.size ∧ i ≤ pos ∧ pos ≤ nT ∧ GdL (acc.map Prod.fst) (pos - i)
theorem rnF_call {t : Bs} {acc : List Kid} {base nT i j i' m : Nat} {w6 : World} {q5 : Option Addr} {cp5 : Nat} (ht : nameB t = true) (htl : t.length ≤ 256) (hl : acc.length = m) (h16 : m ≤ 16) (h1 : i' ≤ nT) (h2 : i ≤ i') (h3 : j < i) {k : Nat} (hk : k + 1 ≤ i' - j)
    (hg : GdL (acc.map Prod.fst) k) (how : w6.ownsRow base tRn 6 (.slice q5 m cp5) m (acc.flatMap kidC)) (hkd : ∀ x ∈ acc, KidOk6 base w6 (.slice q5 m cp5) x) :
    RnF nT j i' (.mk 7 0 t 0 0 (acc.map Prod.fst)) q5 m w6 (fun k => base ≤ k ∧ k < w6.heap.size) := by
  refine ⟨by show m = (acc.map Prod.fst).length; rw [List.length_map, hl], h1, (gd_cal ht htl hg (by rw [List.length_map]; omega)).up hk, fun d hd => ?_⟩
  cases d with
  | zero =>
    cases acc with
    | nil => exact ⟨rfl, hl.symm⟩
    | cons x r =>
      exfalso
      have h4 : dpN x.1 + 1 ≤ dpN (.mk 7 0 t 0 0 ((x :: r).map Prod.fst)) := dpN_memO (by simp)
      have h5 : 1 ≤ dpN x.1 := by cases x.1; rw [dpN]; omega
      omega
  | succ d =>
    obtain ⟨q6, cp6, hv, hr⟩ := RdP.of_row6 (n := .mk 7 0 t 0 0 (acc.map Prod.fst)) (d := d) (ok := fun k => base ≤ k ∧ k < w6.heap.size) (by rw [hl]; exact how) rfl (fun x hx => (hkd x hx d (by
      have h4 : dpN x.1 + 1 ≤ dpN (.mk 7 0 t 0 0 (acc.map Prod.fst)) := dpN_memO (List.mem_map_of_mem hx)
      omega)).carry (fun k hk => ⟨⟨hk.1, hk.2.1⟩, rfl⟩)) (fun k hk => how.lt k hk)
    rw [hl] at hv hr
    cases hv
    exact hr
set_option maxRecDepth 100000 in
set_option maxHeartbeats 8000000 in
theorem rcall_any (Ts : List Tks.Tk) (hle : Ts.length ≤ 1000) (i : Nat) (hi2 : 2 ≤ i) (hin : i ≤ Ts.length) (t : Bs) (htl : t.length ≤ 256) (IH : ∀ p, i ≤ p → p ≤ Ts.length → RPartC Ts p 1) : RCallC Ts i t := by
  intro w b q cT hp ht
  have HI1 := Lib.hid (fun W (h : Rdr W b q Ts.length cT i 0) (h' : TkR W b q Ts) => ris_any b q cT i 0 Ts [41] W h h' hle)
  rw [decide_eq_true rfl, Bool.true_and] at HI1
  have HI2 := Lib.hid (fun bad j W (h : Rdr W b q Ts.length cT j bad) (h' : TkR W b q Ts) => ris_any b q cT j bad Ts [41] W h h' hle)
  have HI3 := Lib.hid (fun bad j W (h : Rdr W b q Ts.length cT j bad) (h' : TkR W b q Ts) => ris_any b q cT j bad Ts [44] W h h' hle)
  have HF := Lib.hid (fun bad j W (h : Rdr W b q Ts.length cT j bad) => rfail_any b q Ts.length cT j bad 21 W h)
  have HNM := Lib.hid (fun W => rname_any ⟨t.toArray⟩ (by rw [Lib.size_eq]; unfold maxLen; simp; omega) W)
  rw [show (⟨t.toArray⟩ : ByteArray).data.toList = t from by simp] at HNM
  have HIH := Lib.hid (fun p h1 h2 W b q cT h h' => IH p h1 h2 W b q cT h h')
  have HIB := Lib.hid (fun p s (h : isB Ts p s = true) => isB_lt h)
  clear IH
  obtain ⟨nT, hnT⟩ : ∃ n, Ts.length = n := ⟨_, rfl⟩
  rw [hnT] at HI1 HI2 HI3 HF hle hin HIB hp HIH ⊢
  clear hnT
  have hA0 : Hid (BlkC (w.alloc (.cells (ndA ndZ none 0 0) tRn)) w.heap.size (ndA ndZ none 0 0) tRn) := heap_alloc_new w _
  have hAB : Below w.heap.size w (w.alloc (.cells (ndA ndZ none 0 0) tRn)) := by (repeat' (first | (with_reducible exact Below.refl _ _) | (with_reducible assumption) | (with_reducible refine Below.alloc ?_ ?_ _) | (with_reducible refine bel_drewN ?_ _) | (with_reducible refine Below.drew ?_) | (with_reducible refine Below.setCell ?_ ?_ _) | (with_reducible refine bel_call ‹_› ?_ ?_) | go_size))
  have HP0 := Lib.hid (hp.below hAB)
  have HO0 := Lib.hid (Off.of_below (b := b) hAB)
  have hbw : b < w.heap.size := lt_some hp
  have HT0 := Lib.hid (ht.off (Off.of_below hAB))
  have HTW := Lib.hid (fun W (h : Off b w W) => ht.off h)
  clear hp hAB
  go_enter Tryz.func113, Tryz.ntmps113
  go_upto_region 1 with fail
  have e0 : w.alloc (.cells #[.int .i64 0, .int .i64 0, .string ⟨#[]⟩, .int .i64 0, .int .i64 0, .slice none 0 0] tRn) = w.alloc (.cells (ndA ndZ none 0 0) tRn) := rfl
  rw [e0]
  clear e0
  generalize w.alloc (.cells (ndA ndZ none 0 0) tRn) = w0 at hA0 HP0 HO0 HT0 ⊢
  clear ht
  go_upto_region 2 with fail
  have e1 : w0.alloc (.cells #[.int .i64 7, .int .i64 0, .string ⟨t.toArray⟩, .int .i64 0, .int .i64 0, .slice none 0 0] tRn) = w0.alloc (.cells (ndA (Nd.mk 7 0 t 0 0 []) none 0 0) tRn) := rfl
  rw [e1]
  clear e1
  have HG1 : Hid (BlkC (w0.alloc (.cells (ndA (Nd.mk 7 0 t 0 0 []) none 0 0) tRn)) w0.heap.size (ndA (Nd.mk 7 0 t 0 0 []) none 0 0) tRn) := heap_alloc_new w0 _
  have hb : Below w0.heap.size w0 (w0.alloc (.cells (ndA (Nd.mk 7 0 t 0 0 []) none 0 0) tRn)) := (Below.refl _ _).alloc (Nat.le_refl _) _
  have hA1 := Lib.hid (hA0.out.below hb)
  have HO1 := Lib.hid (HO0.out.call hb)
  have HP1 := Lib.hid (HP0.out.below hb)
  have HT1 := Lib.hid (HT0.out.off (Off.of_below hb))
  have hG0 : w.heap.size < w0.heap.size := lt_some hA0.out
  clear hb hA0 HO0 HP0 HT0
  generalize w0.alloc (.cells (ndA (Nd.mk 7 0 t 0 0 []) none 0 0) tRn) = w1 at HG1 hA1 HO1 HP1 HT1 ⊢
  generalize w0.heap.size = G at HG1 hG0 ⊢
  go_wp2_with fail
  refine (HNM.out w1).mono ?_
  rintro e w2 ⟨rfl, hb⟩
  have HG2 := Lib.hid (HG1.out.below hb)
  have hA2 := Lib.hid (hA1.out.below hb)
  have HO2 := Lib.hid (HO1.out.call hb)
  have HP2 := Lib.hid (HP1.out.below hb)
  have HT2 := Lib.hid (HT1.out.off (Off.of_below hb))
  clear hb HG1 hA1 HO1 HP1 HT1 HNM
  have hG2 : G < w2.heap.size := lt_some HG2.out
  have hGb : G ≠ b := by omega
  cases hnm : nameB t with
  | false =>
    have hbne : ¬ (if (0 : Int) = 0 then (21 : Int) else 0) = 0 := by decide
    go_wp2_with fail
    refine ((Lib.hid (HF.out (0) (i))).out w2 HP2.out).mono ?_
    rintro e wf ⟨rfl, hpf, hof⟩
    have HPf := Lib.hid hpf
    have hAf := Lib.hid (hof.bc (by omega) hA2.out)
    have HOf := Lib.hid (HO2.out.trans hof)
    clear hpf hof hA2 HP2 HO2 HT2
    rw [show Value.agg (ndA ndZ none 0 0) = .agg #[.int .i64 0, .int .i64 0, .string ⟨#[]⟩, .int .i64 0, .int .i64 0, .slice none 0 0] from rfl]
    rename_i KK aK
    go_simp
    refine aK _ _ ?_
    clear aK
    refine wpList_store_mid (by rfl) _ _ _ (by rfl) w.heap.size 0 #[.int .i64 0, .int .i64 0, .string ⟨#[]⟩, .int .i64 0, .int .i64 0, .slice none 0 0] (by rfl) (by rfl) (block_there hAf.out 6 (Nat.le_refl _)) (by kernel_rfl) (by simp [Value.oneCell']) ?_
    have e8 : wf.setCells w.heap.size 0 (#[.int .i64 0, .int .i64 0, .string ⟨#[]⟩, .int .i64 0, .int .i64 0, .slice none 0 0]).toList = wf.setCells w.heap.size 0 (ndA ndZ none 0 0).toList := rfl
    rw [e8]
    clear e8
    have HS8 : Hid (BlkC (wf.setCells w.heap.size 0 (ndA ndZ none 0 0).toList) w.heap.size (ndA ndZ none 0 0) tRn) := store_block hAf.out _ rfl
    have HO8 : Hid (Off b w (wf.setCells w.heap.size 0 (ndA ndZ none 0 0).toList)) := HOf.out.set_cells (Nat.le_refl _) _ _
    have HP8 := Lib.hid ((store_other (b := w.heap.size) (by omega) (ndA ndZ none 0 0).toList 0 wf).trans HPf.out)
    clear hAf HOf HPf
    generalize wf.setCells w.heap.size 0 (ndA ndZ none 0 0).toList = w9 at HS8 HO8 HP8 ⊢
    go_simp
    iterate 3 (first | go_values | go_skip | go_guarded | go_step | go_upon)
    apply wp_ret
    try simp only [Exit.inBlock, Exit.then]
    exact bodyPost_ret (results_cell_row rfl _ _ w.heap.size tRn (ndA ndZ none 0 0) (0, 0) _ rfl HS8.out Tryz.underlying25 rfl (by kernel_rfl)) rfl ⟨ndZ, none, 0, 0, _, _, rfl, HP8.out, HO8.out, fun h => absurd h hbne⟩
  | true =>
    cases hib : isB Ts i [41] with
    | true =>
      rw [hib] at HI1
      have hil := HIB.out _ _ hib
      go_wp2_with fail
      refine (HI1.out w2 HP2.out HT2.out).mono ?_
      rintro e w3 ⟨rfl, hb⟩
      have hA3 := Lib.hid (hA2.out.below hb)
      have HP3 := Lib.hid (HP2.out.below hb)
      have HO3 := Lib.hid (HO2.out.call hb)
      have HT3 := Lib.hid (HT2.out.off (Off.of_below hb))
      have hz3 := hb.size
      have HG3 := Lib.hid (HG2.out.below hb)
      clear hb hA2 HP2 HO2 HT2 HG2
      obtain ⟨_, p1, _, pf, _⟩ := HP3.out.cells
      have f1 : IntKind.i64.wrap ((i : Int) + 1) = (i : Int) + 1 := IntWalk.i64_in _ (by omega)
      go_upto_region 6 with fail
      have HP4 : Hid (Rdr (w3.setCell ⟨b, 1, none⟩ (.int .i64 ((i : Int) + 1))) b q nT cT (i + 1) 0) := HP3.out.set ((i : Int) + 1) (i + 1) (by omega)
      have HO4 := Lib.hid (HO3.out.set 1 (.int .i64 ((i : Int) + 1)))
      have hO4 := Off.set (Off.refl b w3) 1 (.int .i64 ((i : Int) + 1))
      have HT4 := Lib.hid (HT3.out.off hO4)
      have hA4 := Lib.hid (hO4.bc (by omega) hA3.out)
      have hz4 := hO4.size
      have HG4 := Lib.hid (hO4.bc (by omega) HG3.out)
      clear HP3 HO3 HT3 hA3 p1 pf f1 hO4 HG3
      generalize w3.setCell ⟨b, 1, none⟩ (.int .i64 ((i : Int) + 1)) = w4 at HP4 HO4 HT4 hA4 hz4 HG4 ⊢
      have HK4 : Hid (RnF nT (i - 2) (i + 1) (Nd.mk 7 0 t 0 0 []) none 0 w4 (fun k => w.heap.size < k ∧ k < w4.heap.size)) := ⟨rfl, by omega, (gd_cal hnm htl (gdL_nil 0) (by simp)).up (by omega), fun d _ => rdp6_leaf _ _ rfl _ d⟩
      go_upto_region 6 with fail
      refine wp_region_lit ?_
      refine wpList_load_mid (by rfl) _ _ (by rfl) G 0 (by rfl) [.int .i64 7, .int .i64 0, .string ⟨t.toArray⟩, .int .i64 0, .int .i64 0, .slice none 0 0] _ (block_range HG4.out [.int .i64 7, .int .i64 0, .string ⟨t.toArray⟩, .int .i64 0, .int .i64 0, .slice none 0 0] rfl) Tryz.underlying25 rfl (by kernel_rfl) ?_
      go_simp
      refine wpList_store_mid (by rfl) _ _ _ (by rfl) w.heap.size 0 #[.int .i64 7, .int .i64 0, .string ⟨t.toArray⟩, .int .i64 0, .int .i64 0, .slice none 0 0] (by rfl) (by rfl) (block_there hA4.out 6 (Nat.le_refl _)) (by kernel_rfl) (by simp [Value.oneCell']) ?_
      have e8 : w4.setCells w.heap.size 0 (#[.int .i64 7, .int .i64 0, .string ⟨t.toArray⟩, .int .i64 0, .int .i64 0, .slice none 0 0]).toList = w4.setCells w.heap.size 0 (ndA (Nd.mk 7 0 t 0 0 []) none 0 0).toList := rfl
      rw [e8]
      clear e8
      have HS8 : Hid (BlkC (w4.setCells w.heap.size 0 (ndA (Nd.mk 7 0 t 0 0 []) none 0 0).toList) w.heap.size (ndA (Nd.mk 7 0 t 0 0 []) none 0 0) tRn) := store_block hA4.out _ rfl
      have HO8 : Hid (Off b w (w4.setCells w.heap.size 0 (ndA (Nd.mk 7 0 t 0 0 []) none 0 0).toList)) := HO4.out.set_cells (Nat.le_refl _) _ _
      have HP8 := Lib.hid ((store_other (b := w.heap.size) (by omega) (ndA (Nd.mk 7 0 t 0 0 []) none 0 0).toList 0 w4).trans HP4.out)
      have HK8 : Hid (RnF nT (i - 2) (i + 1) (Nd.mk 7 0 t 0 0 []) none (0) (w4.setCells w.heap.size 0 (ndA (Nd.mk 7 0 t 0 0 []) none 0 0).toList) (fun k => w.heap.size ≤ k ∧ k < (w4.setCells w.heap.size 0 (ndA (Nd.mk 7 0 t 0 0 []) none 0 0).toList).heap.size)) := HK4.out.carry (fun k hk => ⟨⟨by omega, Nat.lt_of_lt_of_le hk.2 (store_below (Nat.zero_le w.heap.size) (ndA (Nd.mk 7 0 t 0 0 []) none 0 0).toList 0 w4 (Below.refl 0 w4)).size⟩, store_other (by omega) _ _ _⟩)
      clear HK4
      clear hA4 HO4 HP4
      generalize w4.setCells w.heap.size 0 (ndA (Nd.mk 7 0 t 0 0 []) none 0 0).toList = w9 at HS8 HO8 HP8 HK8 ⊢
      go_simp
      iterate 3 (first | go_values | go_skip | go_guarded | go_step | go_upon)
      apply wp_ret
      try simp only [Exit.inBlock, Exit.then]
      exact bodyPost_ret (results_cell_row rfl _ _ w.heap.size tRn (ndA (Nd.mk 7 0 t 0 0 []) none 0 0) (0, 0) _ rfl HS8.out Tryz.underlying25 rfl (by kernel_rfl)) rfl ⟨(Nd.mk 7 0 t 0 0 []), none, 0, 0, i + 1, 0, rfl, HP8.out, HO8.out, fun _ => HK8.out⟩
    | false =>
      rw [hib] at HI1
      go_wp2_with fail
      refine (HI1.out w2 HP2.out HT2.out).mono ?_
      rintro e w3 ⟨rfl, hb⟩
      have hA3 := Lib.hid (hA2.out.below hb)
      have HP3 := Lib.hid (HP2.out.below hb)
      have HO3 := Lib.hid (HO2.out.call hb)
      have HT3 := Lib.hid (HT2.out.off (Off.of_below hb))
      have hz3 := hb.size
      have HG3 := Lib.hid (HG2.out.below hb)
      clear hb hA2 HP2 HO2 HT2 HG2
      have hG3 : G < w3.heap.size := lt_some HG3.out
      have hs03 : w.heap.size < w3.heap.size := lt_some hA3.out
      have HC0 : Hid (RcR t w b q nT cT i G w3.heap.size 0 [] none 0 i w3) := ⟨rfl, by omega, HG3.out, hA3.out, HP3.out, HO3.out, World.ownsRow_nil _ _ _ _, fun x hx => (by cases hx), Nat.le_refl _, Nat.le_refl _, hin, gdL_nil _⟩
      obtain ⟨i0, hi, hz0, hz1, hz2⟩ := info_of info_rn
      clear HG3 hA3 HO3 HP3 HT3 hG2
      go_wp2_with fail
      generalize w3.heap.size = base at HC0 hG3 hs03
      go_loopg [6] 17 (fun g v6 wr => ∃ m acc q' cp pos, m + g = 17 ∧ v6 = .int .i64 (m : Int) ∧ RcR t w b q nT cT i G base m acc q' cp pos wr)
      case atStart => exact ⟨0, [], none, 0, i, by omega, rfl, HC0.out⟩
      case round =>
        obtain ⟨m, acc, q', cp, pos, hmg, rfl, ⟨hacc, hm16, hG, hA, hP, hO, hown, hkid, hbs, hip, hpn, hgl⟩⟩ := hrel
        have HG := Lib.hid hG
        have HA := Lib.hid hA
        have HP := Lib.hid hP
        have HO := Lib.hid hO
        have HOW := Lib.hid hown
        have HKD := Lib.hid hkid
        have HGL := Lib.hid hgl
        have HT := Lib.hid (HTW.out wr hO)
        clear hG hA hP hO hown hkid hgl HC0
        by_cases hm : m < 16
        · have hml : (m : Int) < 16 := by omega
          have HBI := Lib.hid (fun W (h : Rdr W b q nT cT pos 0) h' => HIH.out pos hip hpn W b q cT h h')
          obtain ⟨_, _, p2, _⟩ := HP.out.cells
          have Y5 := KeptL.cell (base := base) (b := b) hG3 hGb (HG.out.cell 5 (.slice q' m cp) rfl)
          go_upto_region 10 with fail
          refine wp_region_schedT (fun wx => ∃ x : KeptL base b wr, wx = x.v) 7 [([0, 1, 2], 3), ([], 4), ([], 5)] [6] (by kernel_rfl) (by kernel_rfl) (by kernel_rfl) (by kernel_rfl) (keptL_drew _ _ _) ?_
          (unfold wpSegK; simp only [pick_nil, pick_cons, nthO_zero, nthO_succ, List.append])
          repeat (go_big_quiet_step (fail))
          refine wpQuiet_nil ?_
          have hBd : Below wr.heap.size wr wr.drew := Below.drew (Below.refl _ _)
          have HBJ := Lib.hid (HBI.out wr.drew (HP.out.below hBd) (HT.out.off (Off.of_below hBd)))
          clear HBI
          go_wp2_with fail
          refine HBJ.out.mono ?_
          rintro e w4 ⟨c, p2', l', c2, pos', bad', rfl, hp4, ho4', hk4⟩
          have ho4 : Off b wr w4 := (Off.of_below hBd).trans ho4'
          have HO4 := Lib.hid ho4
          have HP4 := Lib.hid hp4
          have HK4 : Hid (bad' = 0 → RnF nT pos pos' c p2' l' w4 (fun k => wr.heap.size ≤ k ∧ k < w4.heap.size)) := hk4
          have HT4 := Lib.hid (HT.out.off ho4)
          have hs4 := ho4.size
          have hkl4 : ∀ k, k < base → k ≠ b → w4.heap[k]? = wr.heap[k]? := fun k h1 h2 => HO4.out.block k (by omega) h2
          clear ho4' ho4 hp4 hk4 HBJ HT
          rw [show Value.agg (ndA c p2' l' c2) = .agg #[.int .i64 c.kind, .int .i64 c.num, .string ⟨c.text.toArray⟩, .int .i64 c.frm, .int .i64 c.tor, .slice p2' l' c2] from rfl]
          go_wp2_with fail
          refine ⟨rfl, ⟨⟨w4, hkl4⟩, rfl⟩, ?_⟩
          (unfold wpSegK; simp only [pick_nil, pick_cons, nthO_zero, nthO_succ, List.append])
          refine wpQuiet_nil ?_
          go_wp2_with fail
          have e4 : w4.alloc (.cells #[.int .i64 c.kind, .int .i64 c.num, .string ⟨c.text.toArray⟩, .int .i64 c.frm, .int .i64 c.tor, .slice p2' l' c2] tRn) = w4.alloc (.cells (ndA c p2' l' c2) tRn) := rfl
          rw [e4]
          clear e4
          have hkl5 : ∀ k, k < base → k ≠ b → (w4.alloc (.cells (ndA c p2' l' c2) tRn)).heap[k]? = wr.heap[k]? := fun k h1 h2 => (heap_alloc_old _ _ (by omega)).trans (hkl4 k h1 h2)
          refine ⟨rfl, ⟨⟨_, hkl5⟩, rfl⟩, ?_⟩
          (unfold wpSegK; simp only [pick_nil, pick_cons, nthO_zero, nthO_succ, List.append])
          refine wpQuiet_nil ?_
          have HRW : Hid (w4.ownsRow base tRn 6 (.slice q' m cp) m (acc.flatMap kidC)) := row_carry HOW.out (fun k hk => HO4.out.block k (HOW.out.lt k hk).2 (by have := (HOW.out.lt k hk).1; omega))
          refine wpList_append_own_at _ rfl _ _ _ rfl base tRn i0 _ 6 72 Tryz.underlying23 hi hz0 hz1 hz2 rfl (by decide) _ _ _ rfl (HRW.out.alloc _) ⟨w4.heap.size, 0, none⟩ 1 1 (ndC c p2' l' c2) rfl rfl (newRn w4 c p2' l' c2) ?c2 ?c3 ?c4 ?c5 ?_
          case c2 => exact kidC_one (c, p2', l', c2)
          case c3 => unfold maxLen; omega
          case c4 => omega
          case c5 => rw [World.size_alloc]; omega
          intro v' w5 hown5 hgrow5 _ hat5
          have hs5 := hgrow5.size
          rw [World.size_alloc] at hs5
          have hblk5 : ∀ k, k < base → w5.heap[k]? = w4.heap[k]? := fun k hk => by
            rw [hgrow5.block k (by rw [World.size_alloc]; omega) (fun e => by have := (HRW.out.lt k e.symm).1; omega), heap_alloc_old _ _ (by omega)]
          have hkl5 : ∀ k, k < base → k ≠ b → w5.heap[k]? = wr.heap[k]? := fun k h1 h2 => (hblk5 k h1).trans (hkl4 k h1 h2)
          have HOW5 : Hid (w5.ownsRow base tRn 6 v' (m + 1) ((acc ++ [(c, p2', l', c2)]).flatMap kidC)) := by
            unfold Hid
            rw [flat_snoc]
            exact hown5
          obtain ⟨q5, cp5, hv5, _, _, _, _⟩ := RdG.of_own kidC_len (by rw [List.length_append, List.length_singleton, hacc]) HOW5.out
          subst hv5
          have HG5 : Hid (BlkC w5 G (ndA (Nd.mk 7 0 t 0 0 (acc.map Prod.fst)) q' m cp) tRn) := (hkl5 G hG3 hGb).trans HG.out
          have HA5 : Hid (BlkC w5 w.heap.size (ndA ndZ none 0 0) tRn) := (hkl5 _ hs03 (by omega)).trans HA.out
          have HP5 : Hid (Rdr w5 b q nT cT pos' bad') := (hblk5 b (by omega)).trans HP4.out
          have HO5 : Hid (Off b w w5) := ⟨hgrow5.os.trans (HO4.out.os.trans HO.out.os), hgrow5.tape.trans (HO4.out.tape.trans HO.out.tape), hgrow5.output.trans (HO4.out.output.trans HO.out.output), by have := HO.out.size; omega, fun k h1 h2 => (hkl5 k (by omega) h2).trans (HO.out.block k h1 h2)⟩
          have HKN := Lib.hid (fun (h : bad' = 0) => kids_off6 (G := G) (u := .slice q5 (m + 1) cp5) (c2 := c2) hG3 (by omega) hbs HO4.out hgrow5 hat5 (fun k e => (HOW.out.lt k e).2) HKD.out (HK4.out h).2.2.2)
          have HGD := Lib.hid (fun (h : bad' = 0) => (show pos' ≤ nT ∧ Gd c (pos' - pos) from ⟨(HK4.out h).2.1, (HK4.out h).2.2.1⟩))
          clear hown5 hgrow5 hat5 HRW HK4 HKD HO4 HP4 HT4 HO HA HG HP HOW hkl4 hblk5 Y5
          have e7 : w5.cell? ⟨G, 5, none⟩ = some (.slice q' m cp) := HG5.out.cell 5 _ rfl
          have g7 := HG5.out.fz 5
          go_wp2_with fail
          refine ⟨rfl, ⟨⟨w5, hkl5⟩, rfl⟩, ?_⟩
          (unfold wpSegK; simp only [pick_nil, pick_cons, nthO_zero, nthO_succ, List.append])
          repeat (go_big_quiet_step (fail))
          refine wpQuiet_nil ?_
          go_wp2_with fail
          refine ⟨rfl, ?_⟩
          have HP6 : Hid (Rdr (w5.setCell ⟨G, 5, none⟩ (.slice q5 (m + 1) cp5)) b q nT cT pos' bad') := (heap_setCell_other _ _ _ _ (show b ≠ G by omega)).trans HP5.out
          have hA6 : Hid (BlkC (w5.setCell ⟨G, 5, none⟩ (.slice q5 (m + 1) cp5)) w.heap.size (ndA ndZ none 0 0) tRn) := (heap_setCell_other _ _ _ _ (show w.heap.size ≠ G by omega)).trans HA5.out
          have HG6 : Hid (BlkC (w5.setCell ⟨G, 5, none⟩ (.slice q5 (m + 1) cp5)) G (ndA (Nd.mk 7 0 t 0 0 ((acc ++ [(c, p2', l', c2)]).map Prod.fst)) q5 (m + 1) cp5) tRn) := block_setCell HG5.out _
          have HO6 : Hid (Off b w (w5.setCell ⟨G, 5, none⟩ (.slice q5 (m + 1) cp5))) := HO5.out.set_new (by omega) _ _
          have HW6 : Hid ((w5.setCell ⟨G, 5, none⟩ (.slice q5 (m + 1) cp5)).ownsRow base tRn 6 (.slice q5 (m + 1) cp5) (m + 1) ((acc ++ [(c, p2', l', c2)]).flatMap kidC)) := row_carry HOW5.out (fun k hk => heap_setCell_other _ _ _ _ (by have := (HOW5.out.lt k hk).1; show k ≠ G; omega))
          have hz6 : base ≤ (w5.setCell ⟨G, 5, none⟩ (.slice q5 (m + 1) cp5)).heap.size := by rw [World.size_setCell]; omega
          have hla : (acc ++ [(c, p2', l', c2)]).length = m + 1 := by rw [List.length_append, hacc]; rfl
          have HGN : Hid (bad' = 0 → GdL ((acc ++ [(c, p2', l', c2)]).map Prod.fst) (pos' - i)) := fun h => by
            rw [List.map_append]
            exact (HGL.out.snoc (HGD.out h).2).up (by have := (HGD.out h).2.pos; omega)
          have HPN := Lib.hid (fun (h : bad' = 0) => (show pos < pos' ∧ pos' ≤ nT from ⟨by have := (HGD.out h).2.pos; omega, (HGD.out h).1⟩))
          clear HG5 HA5 HP5 HO5 HOW5 hkl5 e7 g7 HGD HGL
          generalize w5.setCell ⟨G, 5, none⟩ (.slice q5 (m + 1) cp5) = w6 at HP6 hA6 HG6 HO6 HW6 hz6 HKN ⊢
          generalize acc ++ [(c, p2', l', c2)] = acc' at hla HGN HG6 HW6 HKN
          have HT6 := Lib.hid (HTW.out w6 HO6.out)
          have HZ6 := Lib.hid (Off.refl b w6)
          have hbb : b < base := by omega
          obtain ⟨R, hR⟩ : ∃ R, (decide (bad' = 0) && isB Ts pos' [41]) = R := ⟨_, rfl⟩
          have HIC := Lib.hid (HI2.out bad' pos')
          rw [hR] at HIC
          cases R with
          | true =>
            rw [Bool.and_eq_true, decide_eq_true_eq] at hR
            obtain ⟨rfl, hib2⟩ := hR
            have hil := HIB.out _ _ hib2
            obtain ⟨hpp, _⟩ := HPN.out rfl
            go_wp2_with fail
            refine (HIC.out w6 HP6.out HT6.out).mono ?_
            rintro e wx ⟨rfl, hb⟩
            have hAx := Lib.hid (hA6.out.below hb)
            have HPx := Lib.hid (HP6.out.below hb)
            have HOx := Lib.hid (HO6.out.call hb)
            have HTx := Lib.hid (HT6.out.off (Off.of_below hb))
            have hzx := hb.size
            have HGx := Lib.hid (HG6.out.below hb)
            have HZx := Lib.hid (HZ6.out.call hb)
            clear hb hA6 HP6 HO6 HT6 HG6 HZ6
            obtain ⟨_, p1, _, pf, _⟩ := HPx.out.cells
            have f1 : IntKind.i64.wrap ((pos' : Int) + 1) = (pos' : Int) + 1 := IntWalk.i64_in _ (by omega)
            go_upto_region 13 with fail
            have HPy : Hid (Rdr (wx.setCell ⟨b, 1, none⟩ (.int .i64 ((pos' : Int) + 1))) b q nT cT (pos' + 1) 0) := HPx.out.set ((pos' : Int) + 1) (pos' + 1) (by omega)
            have HOy := Lib.hid (HOx.out.set 1 (.int .i64 ((pos' : Int) + 1)))
            have hOy := Off.set (Off.refl b wx) 1 (.int .i64 ((pos' : Int) + 1))
            have HTy := Lib.hid (HTx.out.off hOy)
            have hAy := Lib.hid (hOy.bc (by omega) hAx.out)
            have hzy := hOy.size
            have HGy := Lib.hid (hOy.bc (by omega) HGx.out)
            have HZy := Lib.hid (HZx.out.trans hOy)
            clear HPx HOx HTx hAx p1 pf f1 hOy HGx HZx
            generalize wx.setCell ⟨b, 1, none⟩ (.int .i64 ((pos' : Int) + 1)) = wy at HPy HOy HTy hAy hzy HGy HZy ⊢
            have HKy : Hid (RnF nT (i - 2) (pos' + 1) (.mk 7 0 t 0 0 (acc'.map Prod.fst)) q5 (m + 1) wy (fun k => w.heap.size < k ∧ k < wy.heap.size)) :=
              (rnF_call (i := i) hnm htl hla (by omega) (by omega) (by omega) (by omega) (k := pos' - i) (by omega) (HGN.out (by trivial)) HW6.out (HKN.out (by trivial))).carry (fun k hk => ⟨⟨by omega, by have := HZy.out.size; omega⟩, HZy.out.block k hk.2 (by omega)⟩)
            go_upto_region 13 with fail
            refine wp_region_lit ?_
            refine wpList_load_mid (by rfl) _ _ (by rfl) G 0 (by rfl) [.int .i64 7, .int .i64 0, .string ⟨t.toArray⟩, .int .i64 0, .int .i64 0, .slice q5 (m + 1) cp5] _ (block_range HGy.out [.int .i64 7, .int .i64 0, .string ⟨t.toArray⟩, .int .i64 0, .int .i64 0, .slice q5 (m + 1) cp5] rfl) Tryz.underlying25 rfl (by kernel_rfl) ?_
            go_simp
            refine wpList_store_mid (by rfl) _ _ _ (by rfl) w.heap.size 0 #[.int .i64 7, .int .i64 0, .string ⟨t.toArray⟩, .int .i64 0, .int .i64 0, .slice q5 (m + 1) cp5] (by rfl) (by rfl) (block_there hAy.out 6 (Nat.le_refl _)) (by kernel_rfl) (by simp [Value.oneCell']) ?_
            have e8 : wy.setCells w.heap.size 0 (#[.int .i64 7, .int .i64 0, .string ⟨t.toArray⟩, .int .i64 0, .int .i64 0, .slice q5 (m + 1) cp5]).toList = wy.setCells w.heap.size 0 (ndA (.mk 7 0 t 0 0 (acc'.map Prod.fst)) q5 (m + 1) cp5).toList := rfl
            rw [e8]
            clear e8
            have HS8 : Hid (BlkC (wy.setCells w.heap.size 0 (ndA (.mk 7 0 t 0 0 (acc'.map Prod.fst)) q5 (m + 1) cp5).toList) w.heap.size (ndA (.mk 7 0 t 0 0 (acc'.map Prod.fst)) q5 (m + 1) cp5) tRn) := store_block hAy.out _ rfl
            have HO8 : Hid (Off b w (wy.setCells w.heap.size 0 (ndA (.mk 7 0 t 0 0 (acc'.map Prod.fst)) q5 (m + 1) cp5).toList)) := HOy.out.set_cells (Nat.le_refl _) _ _
            have HP8 := Lib.hid ((store_other (b := w.heap.size) (by omega) (ndA (.mk 7 0 t 0 0 (acc'.map Prod.fst)) q5 (m + 1) cp5).toList 0 wy).trans HPy.out)
            have HK8 : Hid (RnF nT (i - 2) (pos' + 1) (.mk 7 0 t 0 0 (acc'.map Prod.fst)) q5 ((m + 1)) (wy.setCells w.heap.size 0 (ndA (.mk 7 0 t 0 0 (acc'.map Prod.fst)) q5 (m + 1) cp5).toList) (fun k => w.heap.size ≤ k ∧ k < (wy.setCells w.heap.size 0 (ndA (.mk 7 0 t 0 0 (acc'.map Prod.fst)) q5 (m + 1) cp5).toList).heap.size)) := HKy.out.carry (fun k hk => ⟨⟨by omega, Nat.lt_of_lt_of_le hk.2 (store_below (Nat.zero_le w.heap.size) (ndA (.mk 7 0 t 0 0 (acc'.map Prod.fst)) q5 (m + 1) cp5).toList 0 wy (Below.refl 0 wy)).size⟩, store_other (by omega) _ _ _⟩)
            clear HKy
            clear hAy HOy HPy
            generalize wy.setCells w.heap.size 0 (ndA (.mk 7 0 t 0 0 (acc'.map Prod.fst)) q5 (m + 1) cp5).toList = w9 at HS8 HO8 HP8 HK8 ⊢
            go_simp
            iterate 3 (first | go_values | go_skip | go_guarded | go_step | go_upon)
            apply wp_ret
            try simp only [Exit.inBlock, Exit.then]
            exact bodyPost_ret (results_cell_row rfl _ _ w.heap.size tRn (ndA (.mk 7 0 t 0 0 (acc'.map Prod.fst)) q5 (m + 1) cp5) (0, 0) _ rfl HS8.out Tryz.underlying25 rfl (by kernel_rfl)) rfl ⟨(.mk 7 0 t 0 0 (acc'.map Prod.fst)), q5, (m + 1), cp5, pos' + 1, 0, rfl, HP8.out, HO8.out, fun _ => HK8.out⟩
          | false =>
            obtain ⟨R2, hR2⟩ : ∃ R, (decide (bad' = 0) && isB Ts pos' [44]) = R := ⟨_, rfl⟩
            have HID := Lib.hid (HI3.out bad' pos')
            rw [hR2] at HID
            go_wp2_with fail
            refine (HIC.out w6 HP6.out HT6.out).mono ?_
            rintro e w7 ⟨rfl, hb⟩
            have hA7 := Lib.hid (hA6.out.below hb)
            have HP7 := Lib.hid (HP6.out.below hb)
            have HO7 := Lib.hid (HO6.out.call hb)
            have HT7 := Lib.hid (HT6.out.off (Off.of_below hb))
            have hz7 := hb.size
            have HG7 := Lib.hid (HG6.out.below hb)
            have HZ7 := Lib.hid (HZ6.out.call hb)
            clear hb hA6 HP6 HO6 HT6 HG6 HZ6
            cases R2 with
            | false =>
              have hbne : ¬ (if bad' = 0 then (21 : Int) else bad') = 0 := by split <;> omega
              go_wp2_with fail
              refine (HID.out w7 HP7.out HT7.out).mono ?_
              rintro e w8 ⟨rfl, hb⟩
              have hA8 := Lib.hid (hA7.out.below hb)
              have HP8 := Lib.hid (HP7.out.below hb)
              have HO8 := Lib.hid (HO7.out.call hb)
              have HT8 := Lib.hid (HT7.out.off (Off.of_below hb))
              have hz8 := hb.size
              have HG8 := Lib.hid (HG7.out.below hb)
              have HZ8 := Lib.hid (HZ7.out.call hb)
              clear hb hA7 HP7 HO7 HT7 HG7 HZ7
              go_wp2_with fail
              refine ((Lib.hid (HF.out (bad') (pos'))).out w8 HP8.out).mono ?_
              rintro e wf ⟨rfl, hpf, hof⟩
              have HPf := Lib.hid hpf
              have hAf := Lib.hid (hof.bc (by omega) hA8.out)
              have HOf := Lib.hid (HO8.out.trans hof)
              clear hpf hof hA8 HP8 HO8 HT8
              rw [show Value.agg (ndA ndZ none 0 0) = .agg #[.int .i64 0, .int .i64 0, .string ⟨#[]⟩, .int .i64 0, .int .i64 0, .slice none 0 0] from rfl]
              rename_i KK aK
              go_simp
              refine aK _ _ ?_
              clear aK
              refine wpList_store_mid (by rfl) _ _ _ (by rfl) w.heap.size 0 #[.int .i64 0, .int .i64 0, .string ⟨#[]⟩, .int .i64 0, .int .i64 0, .slice none 0 0] (by rfl) (by rfl) (block_there hAf.out 6 (Nat.le_refl _)) (by kernel_rfl) (by simp [Value.oneCell']) ?_
              have e8 : wf.setCells w.heap.size 0 (#[.int .i64 0, .int .i64 0, .string ⟨#[]⟩, .int .i64 0, .int .i64 0, .slice none 0 0]).toList = wf.setCells w.heap.size 0 (ndA ndZ none 0 0).toList := rfl
              rw [e8]
              clear e8
              have HS8 : Hid (BlkC (wf.setCells w.heap.size 0 (ndA ndZ none 0 0).toList) w.heap.size (ndA ndZ none 0 0) tRn) := store_block hAf.out _ rfl
              have HO8 : Hid (Off b w (wf.setCells w.heap.size 0 (ndA ndZ none 0 0).toList)) := HOf.out.set_cells (Nat.le_refl _) _ _
              have HP8 := Lib.hid ((store_other (b := w.heap.size) (by omega) (ndA ndZ none 0 0).toList 0 wf).trans HPf.out)
              clear hAf HOf HPf
              generalize wf.setCells w.heap.size 0 (ndA ndZ none 0 0).toList = w9 at HS8 HO8 HP8 ⊢
              go_simp
              iterate 3 (first | go_values | go_skip | go_guarded | go_step | go_upon)
              apply wp_ret
              try simp only [Exit.inBlock, Exit.then]
              exact bodyPost_ret (results_cell_row rfl _ _ w.heap.size tRn (ndA ndZ none 0 0) (0, 0) _ rfl HS8.out Tryz.underlying25 rfl (by kernel_rfl)) rfl ⟨ndZ, none, 0, 0, _, _, rfl, HP8.out, HO8.out, fun h => absurd h hbne⟩
            | true =>
              rw [Bool.and_eq_true, decide_eq_true_eq] at hR2
              obtain ⟨rfl, hib2⟩ := hR2
              have hil := HIB.out _ _ hib2
              obtain ⟨hpp, _⟩ := HPN.out rfl
              go_wp2_with fail
              refine (HID.out w7 HP7.out HT7.out).mono ?_
              rintro e w8 ⟨rfl, hb⟩
              have hA8 := Lib.hid (hA7.out.below hb)
              have HP8 := Lib.hid (HP7.out.below hb)
              have HO8 := Lib.hid (HO7.out.call hb)
              have HT8 := Lib.hid (HT7.out.off (Off.of_below hb))
              have hz8 := hb.size
              have HG8 := Lib.hid (HG7.out.below hb)
              have HZ8 := Lib.hid (HZ7.out.call hb)
              clear hb hA7 HP7 HO7 HT7 HG7 HZ7
              obtain ⟨_, p1, _, pf, _⟩ := HP8.out.cells
              have f1 : IntKind.i64.wrap ((pos' : Int) + 1) = (pos' : Int) + 1 := IntWalk.i64_in _ (by omega)
              go_upto_region 9 with fail
              have HP9 : Hid (Rdr (w8.setCell ⟨b, 1, none⟩ (.int .i64 ((pos' : Int) + 1))) b q nT cT (pos' + 1) 0) := HP8.out.set ((pos' : Int) + 1) (pos' + 1) (by omega)
              have HO9 := Lib.hid (HO8.out.set 1 (.int .i64 ((pos' : Int) + 1)))
              have hO9 := Off.set (Off.refl b w8) 1 (.int .i64 ((pos' : Int) + 1))
              have HT9 := Lib.hid (HT8.out.off hO9)
              have hA9 := Lib.hid (hO9.bc (by omega) hA8.out)
              have hz9 := hO9.size
              have HG9 := Lib.hid (hO9.bc (by omega) HG8.out)
              have HZ9 := Lib.hid (HZ8.out.trans hO9)
              clear HP8 HO8 HT8 hA8 p1 pf f1 hO9 HG8 HZ8
              generalize w8.setCell ⟨b, 1, none⟩ (.int .i64 ((pos' : Int) + 1)) = w9 at HP9 HO9 HT9 hA9 hz9 HG9 HZ9 ⊢
              have hz9' := HZ9.out.size
              have HW9 : Hid (w9.ownsRow base tRn 6 (.slice q5 (m + 1) cp5) (m + 1) (acc'.flatMap kidC)) := row_carry HW6.out (fun k hk => HZ9.out.block k (HW6.out.lt k hk).2 (by have := (HW6.out.lt k hk).1; omega))
              have HK9 : Hid (∀ x ∈ acc', KidOk6 base w9 (.slice q5 (m + 1) cp5) x) := fun x hx d hd => (HKN.out (by trivial) x hx d hd).carry (fun k hk => ⟨⟨hk.1, by have := hk.2.1; omega, hk.2.2⟩, HZ9.out.block k hk.2.1 (by have := hk.1; omega)⟩)
              go_wp2_with fail
              go_roundg (gk - 1)
              case measure => omega
              case rel => exact ⟨m + 1, acc', q5, cp5, pos' + 1, by omega, by go_num, hla, by omega, HG9.out, hA9.out, HP9.out, HO9.out, HW9.out, HK9.out, by omega, by omega, by omega, (HGN.out (by trivial)).up (by omega)⟩
        · have hml : ¬ (m : Int) < 16 := by omega
          have HGr := HG
          have hbne : ¬ (if (0 : Int) = 0 then (21 : Int) else 0) = 0 := by decide
          obtain ⟨wa, hwa⟩ : ∃ wa, wr = wa := ⟨_, rfl⟩
          rw [hwa] at HP HO HT HA hbs ⊢
          have HPa := HP
          have HOa := HO
          have HTa := HT
          have hAa := HA
          clear HP HO HT HA
          obtain ⟨_, p1, _, pf, _⟩ := HPa.out.cells
          have f1 : IntKind.i64.wrap ((pos : Int) - 1) = (pos : Int) - 1 := IntWalk.i64_in _ (by omega)
          go_upto_region 18 with fail
          have HPc : Hid (Rdr (wa.setCell ⟨b, 1, none⟩ (.int .i64 ((pos : Int) - 1))) b q nT cT (pos - 1) 0) := HPa.out.set ((pos : Int) - 1) (pos - 1) (by omega)
          have HOc := Lib.hid (HOa.out.set 1 (.int .i64 ((pos : Int) - 1)))
          have hOc := Off.set (Off.refl b wa) 1 (.int .i64 ((pos : Int) - 1))
          have HTc := Lib.hid (HTa.out.off hOc)
          have hAc := Lib.hid (hOc.bc (by omega) hAa.out)
          have hzc := hOc.size
          clear HPa HOa HTa hAa p1 pf f1 hOc
          generalize wa.setCell ⟨b, 1, none⟩ (.int .i64 ((pos : Int) - 1)) = wc at HPc HOc HTc hAc hzc ⊢
          go_wp2_with fail
          refine ((Lib.hid (HF.out (0) (pos - 1))).out wc HPc.out).mono ?_
          rintro e wf ⟨rfl, hpf, hof⟩
          have HPf := Lib.hid hpf
          have hAf := Lib.hid (hof.bc (by omega) hAc.out)
          have HOf := Lib.hid (HOc.out.trans hof)
          clear hpf hof hAc HPc HOc HTc
          rw [show Value.agg (ndA ndZ none 0 0) = .agg #[.int .i64 0, .int .i64 0, .string ⟨#[]⟩, .int .i64 0, .int .i64 0, .slice none 0 0] from rfl]
          rename_i KK aK
          go_simp
          refine aK _ _ ?_
          clear aK
          refine wpList_store_mid (by rfl) _ _ _ (by rfl) w.heap.size 0 #[.int .i64 0, .int .i64 0, .string ⟨#[]⟩, .int .i64 0, .int .i64 0, .slice none 0 0] (by rfl) (by rfl) (block_there hAf.out 6 (Nat.le_refl _)) (by kernel_rfl) (by simp [Value.oneCell']) ?_
          have e8 : wf.setCells w.heap.size 0 (#[.int .i64 0, .int .i64 0, .string ⟨#[]⟩, .int .i64 0, .int .i64 0, .slice none 0 0]).toList = wf.setCells w.heap.size 0 (ndA ndZ none 0 0).toList := rfl
          rw [e8]
          clear e8
          have HS8 : Hid (BlkC (wf.setCells w.heap.size 0 (ndA ndZ none 0 0).toList) w.heap.size (ndA ndZ none 0 0) tRn) := store_block hAf.out _ rfl
          have HO8 : Hid (Off b w (wf.setCells w.heap.size 0 (ndA ndZ none 0 0).toList)) := HOf.out.set_cells (Nat.le_refl _) _ _
          have HP8 := Lib.hid ((store_other (b := w.heap.size) (by omega) (ndA ndZ none 0 0).toList 0 wf).trans HPf.out)
          clear hAf HOf HPf
          generalize wf.setCells w.heap.size 0 (ndA ndZ none 0 0).toList = w9 at HS8 HO8 HP8 ⊢
          go_simp
          iterate 3 (first | go_values | go_skip | go_guarded | go_step | go_upon)
          apply wp_ret
          try simp only [Exit.inBlock, Exit.then]
          exact bodyPost_ret (results_cell_row rfl _ _ w.heap.size tRn (ndA ndZ none 0 0) (0, 0) _ rfl HS8.out Tryz.underlying25 rfl (by kernel_rfl)) rfl ⟨ndZ, none, 0, 0, _, _, rfl, HP8.out, HO8.out, fun h => absurd h hbne⟩
end Go.Proofs.YtjklbbmgjjdalaaGreatDoor
