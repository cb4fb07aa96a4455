/- The parser: 'call'. Printed by gen_par.py. The parser: 'binary' at the tokens of any tree that may be read. The parser: 'Formula' at the text of a tree that may be read. Printed by gen_par.py. -/
import Derived.Test.YtbdgdhjhgcpidaaGreatDoorSfAd
set_option linter.unusedSimpArgs false
set_option linter.unusedVariables false
namespace Go.Proofs.YtbdgdhjhgcpidaaGreatDoor
open Go.RowKit Go.Joins
structure KeptL (base b : Nat) (w : World) where
  v : World
  h : ∀ k, k < base → k ≠ b → v.heap[k]? = w.heap[k]?
instance (base b : Nat) (w : World) : Nonempty (KeptL base b w) := ⟨⟨w, fun _ _ _ => rfl⟩⟩
theorem KeptL.cell {base b : Nat} {w : World} {k o : Nat} {u : Value} (hk : k < base) (hb : k ≠ b) (hc : w.cell? ⟨k, o, none⟩ = some u) : ∀ x : KeptL base b w, x.v.cell? ⟨k, o, none⟩ = some u := fun x => by
  rw [← hc]
  unfold World.cell?
  rw [x.h k hk hb]
theorem keptL_drew (base b : Nat) (w : World) : ∃ x : KeptL base b w, w.drew = x.v := ⟨⟨w.drew, fun _ _ _ => rfl⟩, rfl⟩
def okR (base : Nat) (w : World) (v : Value) (k : Nat) : Prop := base ≤ k ∧ k < w.heap.size ∧ v.ownBlock ≠ some k
def KidOk (base : Nat) (w : World) (v : Value) (x : Cel.Kid) : Prop := ∀ d, dpN x.1 ≤ d + 1 → Cel.RdP w (okR base w v) d x.1 x.2.1 x.2.2.1
theorem kids_off {base b G l' c2 : Nat} {wr w3 w5 : World} {o : Obj} {v v' u : Value} {acc : List Cel.Kid} {c : Nd} {p2 : Option Addr} (hG : G < base) (hbb : b < base) (hbs : base ≤ wr.heap.size) (hb : Off b wr w3) (hg : (w3.alloc o).grownBy w5 v.ownBlock)
    (hat : v'.ownBlock = v.ownBlock ∨ v'.ownBlock = some (w3.alloc o).heap.size) (hlt : ∀ k, v.ownBlock = some k → k < wr.heap.size) (hk : ∀ x ∈ acc, KidOk base wr v x)
    (hn : ∀ d, dpN c ≤ d + 1 → Cel.RdP w3 (fun k => wr.heap.size ≤ k ∧ k < w3.heap.size) d c p2 l') :
    ∀ x ∈ acc ++ [(c, p2, l', c2)], KidOk base (w5.setCell ⟨G, 7, none⟩ u) v' x := by
  have hs := hb.size
  have hs2 := hg.size
  rw [World.size_alloc] at hs2 hat
  have hblk : ∀ k, G ≠ k → k < w3.heap.size → v.ownBlock ≠ some k → (w5.setCell ⟨G, 7, none⟩ u).heap[k]? = w3.heap[k]? := fun k h1 h2 h3 => by
    rw [heap_setCell_other _ _ _ _ (fun e => h1 e.symm), hg.block k (by rw [World.size_alloc]; omega) (fun e => h3 e.symm), heap_alloc_old _ _ h2]
  intro x hx d hd
  rcases List.mem_append.1 hx with hx | hx
  · refine Cel.RdP.carry (fun k hb' => ?_) (hk x hx d hd)
    obtain ⟨h1, h2, h3⟩ := hb'
    refine ⟨⟨h1, by rw [World.size_setCell]; omega, ?_⟩, ?_⟩
    · rcases hat with e | e
      · rw [e]; exact h3
      · rw [e]; intro e'; have := Option.some.inj e'; omega
    · rw [hblk k (by omega) (by omega) h3, hb.block k h2 (by omega)]
  · obtain rfl := List.mem_singleton.1 hx
    refine Cel.RdP.carry (fun k hb' => ?_) (hn d hd)
    obtain ⟨h1, h2⟩ := hb'
    have h3 : v.ownBlock ≠ some k := fun e => by have := hlt k e; omega
    refine ⟨⟨by omega, by rw [World.size_setCell]; omega, ?_⟩, ?_⟩
    · rcases hat with e | e
      · rw [e]; exact h3
      · rw [e]; intro e'; have := Option.some.inj e'; omega
    · exact hblk k (by omega) h2 h3
theorem dpL_mem : ∀ {a : List Nd} {c : Nd} {m : Nat}, c ∈ a → dpN c ≤ dpL a m
  | [], _, _, h => by cases h
  | x :: r, c, m, h => by
    rw [dpL]
    rcases List.mem_cons.1 h with rfl | h
    · exact Nat.le_trans (Nat.le_max_right _ _) (dpL_ge r _)
    · exact dpL_mem h
theorem dpN_mem {n c : Nd} (h : c ∈ n.args) : dpN c + 1 ≤ dpN n := by
  rw [dpN_eq n]
  have := dpL_mem (m := 0) h
  omega
theorem tkT_at {ar : List Nd} {m : Nat} {c : Nd} (h : ar[m]? = some c) : tkT nmS (ar.drop m) = (4, [44]) :: (tkN nmS c 1 ++ tkT nmS (ar.drop (m + 1))) := by
  obtain ⟨hi, e⟩ := List.getElem?_eq_some_iff.1 h
  rw [List.drop_eq_getElem_cons hi, tkT, e]
def ClC (t : Bs) (ar : List Nd) : Prop := ∀ (ws w : World) (b : Nat) (q : Option Addr) (cT i : Nat) (Ts : List Tks.Tk) (rest : List Tw), PSt ws w b q Ts cT i → At Ts i ((tkT nmS ar).drop 1 ++ ((4, [41]) :: rest)) → RestOk 5 rest →
  Calls Tryz.prog 141 #[.pointer (some ⟨b, 0, none⟩), .string ⟨t.toArray⟩] w (PaP b q Ts.length cT i (((tkT nmS ar).drop 1).length + 1) (Nd.mk 7 0 t 0 0 ar) w)
set_option maxRecDepth 100000 in
set_option maxHeartbeats 8000000 in
theorem nm_cal (t : Bs) (ar : List Nd) (IH : ClC t ar) : NmC (Nd.mk 7 0 t 0 0 ar) t ((4, [40]) :: ((tkT nmS ar).drop 1 ++ [(4, [41])])) := by
  intro ws w b q cT i Ts rest hst hat hrs
  have hat' : At Ts i ((4, [40]) :: ((tkT nmS ar).drop 1 ++ ((4, [41]) :: rest))) := by simpa using hat
  obtain ⟨_, _, _, hat1⟩ := hat'.get
  have hb1 : isB Ts i [40] = true := by rw [isB_head hat']; rfl
  have hA0 : Hid (BlkC (w.alloc (.cells (Cel.ndA nodeZ none 0 0) Cel.tPn)) w.heap.size (Cel.ndA nodeZ none 0 0) Cel.tPn) := heap_alloc_new w _
  have hAB : Below w.heap.size w (w.alloc (.cells (Cel.ndA nodeZ none 0 0) Cel.tPn)) := by (repeat' (first | (with_reducible exact Below.refl _ _) | (with_reducible assumption) | (with_reducible refine Below.alloc ?_ ?_ _) | (with_reducible refine bel_drewN ?_ _) | (with_reducible refine Below.drew ?_) | (with_reducible refine Below.setCell ?_ ?_ _) | (with_reducible refine bel_call ‹_› ?_ ?_) | go_size))
  have HS0 := Lib.hid (hst.below hAB)
  have HO0 := Lib.hid (Off.of_below (b := b) hAB)
  have hbw := hst.lt
  have HSW := Lib.hid hst
  have HIS1 := Lib.hid (fun W (h : PSt ws W b q Ts cT i) => is_any b q cT i Ts [40] W h.psr h.tks h.len)
  rw [hb1] at HIS1
  have HUN := Lib.hid (fun W (h : PSt ws W b q Ts cT (i + 1)) => IH ws W b q cT (i + 1) Ts rest h hat1 hrs)
  have HK := Lib.hid (show i + 1 + (((tkT nmS ar).drop 1).length + 1) = i + ((4, [40]) :: ((tkT nmS ar).drop 1 ++ [(4, [41])])).length from by simp; omega)
  generalize ((4, [40]) :: ((tkT nmS ar).drop 1 ++ [(4, [41])])).length = kk at HK ⊢
  generalize ((tkT nmS ar).drop 1).length + 1 = k at HK HUN
  generalize (Nd.mk 7 0 t 0 0 ar) = n at HUN ⊢
  clear hat hat' hrs hb1 hat1 IH
  obtain ⟨nT, hnT⟩ : ∃ n, Ts.length = n := ⟨_, rfl⟩
  have HNT := Lib.hid hnT
  rw [hnT] at HIS1 HUN ⊢
  clear hnT
  clear hst hAB
  go_enter Tryz.func127, Tryz.ntmps127
  go_upto_region 1 with fail
  have e0 : w.alloc (.cells #[.int .i64 0, .int .i64 0, .string ⟨#[]⟩, .int .i64 0, .int .i64 0, .int .i64 0, .int .i64 0, .slice none 0 0] Cel.tPn) = w.alloc (.cells (Cel.ndA nodeZ none 0 0) Cel.tPn) := rfl
  rw [e0]
  clear e0
  generalize w.alloc (.cells (Cel.ndA nodeZ none 0 0) Cel.tPn) = w0 at hA0 HS0 HO0 ⊢
  go_wp2_with fail
  refine (HIS1.out w0 HS0.out).mono ?_
  rintro e w1 ⟨rfl, hp, ho⟩
  rw [if_pos rfl] at hp
  have hA1 := Lib.hid (ho.bc (by omega) hA0.out)
  have HO1 := Lib.hid (HO0.out.trans ho)
  have HP1 := Lib.hid hp
  have HS1 := Lib.hid (HSW.out.off HO1.out (by rw [HNT.out]; exact hp))
  have hs1 := ho.size
  clear hp ho hA0 HO0 HS0
  go_wp2_with fail
  refine (HUN.out w1 HS1.out).mono ?_
  rintro e w2 ⟨⟨p, cap, rfl, hk⟩, hp2, ho2⟩
  rename_i KK aK
  go_simp
  refine aK _ _ ?_
  clear aK
  obtain ⟨l, hl⟩ : ∃ l, n.args.length = l := ⟨_, rfl⟩
  rw [hl] at hk ⊢
  have HP2 : Hid (Psr w2 b q nT cT (i + kk)) := by unfold Hid; rw [← HK.out]; exact hp2
  have hs0 : w.heap.size < w1.heap.size := lt_some hA1.out
  have HA2 := Lib.hid (ho2.bc (by omega) hA1.out)
  have HO2 := Lib.hid (HO1.out.trans ho2)
  have HKD := Lib.hid hk
  have HL := Lib.hid hl
  have hs2 := ho2.size
  clear hp2 ho2 hk hl HS1 hA1 HO1 HP1 HUN
  rw [show Value.agg (Cel.ndA n p l cap) = .agg #[.int .i64 n.kind, .int .i64 n.num, .string ⟨n.text.toArray⟩, .int .i64 (cC n.frm), .int .i64 (cR n.frm), .int .i64 (cC n.tor), .int .i64 (cR n.tor), .slice p l cap] from rfl]
  refine wpList_store_mid (by rfl) _ _ _ (by rfl) w.heap.size 0 #[.int .i64 n.kind, .int .i64 n.num, .string ⟨n.text.toArray⟩, .int .i64 (cC n.frm), .int .i64 (cR n.frm), .int .i64 (cC n.tor), .int .i64 (cR n.tor), .slice p l cap] (by rfl) (by rfl) (block_there HA2.out 8 (Nat.le_refl _)) (by kernel_rfl) (by simp [Value.oneCell']) ?_
  obtain ⟨hs8, hf8⟩ := res_store (n := n) (p := p) (l := l) (cp := cap) HA2.out rfl HP2.out HO2.out hbw HL.out (fun d hd => (HKD.out d hd).carry (fun k hk => ⟨⟨by omega, by omega⟩, rfl⟩))
  have HS8 := Lib.hid hs8
  have HF8 := Lib.hid hf8
  clear hs8 hf8
  have e8 : w2.setCells w.heap.size 0 (#[.int .i64 n.kind, .int .i64 n.num, .string ⟨n.text.toArray⟩, .int .i64 (cC n.frm), .int .i64 (cR n.frm), .int .i64 (cC n.tor), .int .i64 (cR n.tor), .slice p l cap]).toList = w2.setCells w.heap.size 0 (Cel.ndA n p l cap).toList := rfl
  rw [e8]
  clear e8
  generalize w2.setCells w.heap.size 0 (Cel.ndA n p l cap).toList = w9 at HS8 HF8 ⊢
  go_simp
  iterate 3 (first | go_values | go_skip | go_guarded | go_step | go_upon)
  apply wp_ret
  try simp only [Exit.inBlock, Exit.then]
  exact bodyPost_ret (results_cell_row rfl _ _ w.heap.size Cel.tPn (Cel.ndA n p l cap) (0, 0) _ rfl HS8.out Tryz.underlying44 rfl (by kernel_rfl)) rfl HF8.out
theorem nameB_l32 {t : Bs} (h : nameB t = true) : t.length ≤ 32 := by
  unfold nameB at h
  simp only [Bool.and_eq_true, decide_eq_true_eq] at h
  exact h.2.2
set_option maxRecDepth 100000 in
set_option maxHeartbeats 8000000 in
theorem cl_nil (t : Bs) (ht : nameB t = true) : ClC t [] := by
  intro ws w b q cT i Ts rest hst hat hrs
  have hat' : At Ts i ((4, [41]) :: rest) := hat
  have hb1 : isB Ts i [41] = true := by rw [isB_head hat']; rfl
  have hA0 : Hid (BlkC (w.alloc (.cells (Cel.ndA nodeZ none 0 0) Cel.tPn)) w.heap.size (Cel.ndA nodeZ none 0 0) Cel.tPn) := heap_alloc_new w _
  have hAB : Below w.heap.size w (w.alloc (.cells (Cel.ndA nodeZ none 0 0) Cel.tPn)) := by (repeat' (first | (with_reducible exact Below.refl _ _) | (with_reducible assumption) | (with_reducible refine Below.alloc ?_ ?_ _) | (with_reducible refine bel_drewN ?_ _) | (with_reducible refine Below.drew ?_) | (with_reducible refine Below.setCell ?_ ?_ _) | (with_reducible refine bel_call ‹_› ?_ ?_) | go_size))
  have HS0 := Lib.hid (hst.below hAB)
  have HO0 := Lib.hid (Off.of_below (b := b) hAB)
  have hbw := hst.lt
  have HSW := Lib.hid hst
  have HNM := Lib.hid (fun W => name_any ⟨t.toArray⟩ (by have := nameB_l32 ht; rw [Lib.size_eq]; unfold maxLen; simp; omega) W)
  rw [show (⟨t.toArray⟩ : ByteArray).data.toList = t from by simp, ht] at HNM
  have HIS1 := Lib.hid (fun W (h : PSt ws W b q Ts cT i) => is_any b q cT i Ts [41] W h.psr h.tks h.len)
  rw [hb1] at HIS1
  rw [show ((tkT nmS []).drop 1).length + 1 = 1 from rfl]
  clear hat hat' hrs hb1
  obtain ⟨nT, hnT⟩ : ∃ n, Ts.length = n := ⟨_, rfl⟩
  have HNT := Lib.hid hnT
  rw [hnT] at HIS1 ⊢
  clear hnT
  clear hst hAB
  go_enter Tryz.func141, Tryz.ntmps141
  go_upto_region 1 with fail
  have e0 : w.alloc (.cells #[.int .i64 0, .int .i64 0, .string ⟨#[]⟩, .int .i64 0, .int .i64 0, .int .i64 0, .int .i64 0, .slice none 0 0] Cel.tPn) = w.alloc (.cells (Cel.ndA nodeZ none 0 0) Cel.tPn) := rfl
  rw [e0]
  clear e0
  generalize w.alloc (.cells (Cel.ndA nodeZ none 0 0) Cel.tPn) = w0 at hA0 HS0 HO0 ⊢
  go_upto_region 2 with fail
  have e1 : w0.alloc (.cells #[.int .i64 7, .int .i64 0, .string ⟨t.toArray⟩, .int .i64 0, .int .i64 0, .int .i64 0, .int .i64 0, .slice none 0 0] Cel.tPn) = w0.alloc (.cells (Cel.ndA (Nd.mk 7 0 t 0 0 []) none 0 0) Cel.tPn) := rfl
  rw [e1]
  clear e1
  have HG1 : Hid (BlkC (w0.alloc (.cells (Cel.ndA (Nd.mk 7 0 t 0 0 []) none 0 0) Cel.tPn)) w0.heap.size (Cel.ndA (Nd.mk 7 0 t 0 0 []) none 0 0) Cel.tPn) := heap_alloc_new w0 _
  have hb : Below w0.heap.size w0 (w0.alloc (.cells (Cel.ndA (Nd.mk 7 0 t 0 0 []) none 0 0) Cel.tPn)) := (Below.refl _ _).alloc (Nat.le_refl _) _
  have hA1 := Lib.hid (hA0.out.below hb)
  have HO1 := Lib.hid (HO0.out.call hb)
  have HP1 := Lib.hid (HS0.out.psr.below hb)
  rw [HNT.out] at HP1
  have hG0 : w.heap.size < w0.heap.size := lt_some hA0.out
  clear hb hA0 HO0 HS0
  generalize w0.alloc (.cells (Cel.ndA (Nd.mk 7 0 t 0 0 []) none 0 0) Cel.tPn) = w1 at HG1 hA1 HO1 HP1 ⊢
  generalize w0.heap.size = G at HG1 hG0 ⊢
  go_wp2_with fail
  refine (HNM.out w1).mono ?_
  rintro e w2 ⟨rfl, hb⟩
  have HG2 := Lib.hid (HG1.out.below hb)
  have hA2 := Lib.hid (hA1.out.below hb)
  have HO2 := Lib.hid (HO1.out.call hb)
  have HP2 := Lib.hid (HP1.out.below hb)
  have HS2 := Lib.hid (HSW.out.off HO2.out (by rw [HNT.out]; exact HP2.out))
  clear hb HG1 hA1 HO1 HP1 HNM
  go_wp2_with fail
  refine (HIS1.out w2 HS2.out).mono ?_
  rintro e w3 ⟨rfl, hp, ho⟩
  rw [if_pos rfl] at hp
  have hA3 := Lib.hid (ho.bc (by omega) hA2.out)
  have HO3 := Lib.hid (HO2.out.trans ho)
  have HP3 := Lib.hid hp
  have HS3 := Lib.hid (HSW.out.off HO3.out (by rw [HNT.out]; exact hp))
  have hs3 := ho.size
  have HG3 := Lib.hid (ho.bc (by omega) HG2.out)
  clear hp ho hA2 HO2 HS2 HG2
  go_upto_region 5 with fail
  refine wp_region_lit ?_
  refine wpList_load_mid (by rfl) _ _ (by rfl) G 0 (by rfl) [.int .i64 7, .int .i64 0, .string ⟨t.toArray⟩, .int .i64 0, .int .i64 0, .int .i64 0, .int .i64 0, .slice none 0 0] _ (block_range HG3.out [.int .i64 7, .int .i64 0, .string ⟨t.toArray⟩, .int .i64 0, .int .i64 0, .int .i64 0, .int .i64 0, .slice none 0 0] rfl) Tryz.underlying44 rfl (by kernel_rfl) ?_
  go_simp
  refine wpList_store_mid (by rfl) _ _ _ (by rfl) w.heap.size 0 #[.int .i64 7, .int .i64 0, .string ⟨t.toArray⟩, .int .i64 0, .int .i64 0, .int .i64 0, .int .i64 0, .slice none 0 0] (by rfl) (by rfl) (block_there hA3.out 8 (Nat.le_refl _)) (by kernel_rfl) (by simp [Value.oneCell']) ?_
  obtain ⟨hs8, hf8⟩ := res_store (n := (Nd.mk 7 0 t 0 0 [])) (p := none) (l := 0) (cp := 0) hA3.out rfl HP3.out HO3.out hbw rfl (fun d _ => rdp_leaf _ _ rfl _ d)
  have HS8 := Lib.hid hs8
  have HF8 := Lib.hid hf8
  clear hs8 hf8
  have e8 : w3.setCells w.heap.size 0 (#[.int .i64 7, .int .i64 0, .string ⟨t.toArray⟩, .int .i64 0, .int .i64 0, .int .i64 0, .int .i64 0, .slice none 0 0]).toList = w3.setCells w.heap.size 0 (Cel.ndA (Nd.mk 7 0 t 0 0 []) none 0 0).toList := rfl
  rw [e8]
  clear e8
  generalize w3.setCells w.heap.size 0 (Cel.ndA (Nd.mk 7 0 t 0 0 []) none 0 0).toList = w9 at HS8 HF8 ⊢
  go_simp
  iterate 3 (first | go_values | go_skip | go_guarded | go_step | go_upon)
  apply wp_ret
  try simp only [Exit.inBlock, Exit.then]
  exact bodyPost_ret (results_cell_row rfl _ _ w.heap.size Cel.tPn (Cel.ndA (Nd.mk 7 0 t 0 0 []) none 0 0) (0, 0) _ rfl HS8.out Tryz.underlying44 rfl (by kernel_rfl)) rfl HF8.out
theorem tk_first {c : Nd} (h : Fm c) : ∀ lv, ∃ x l, tkN nmS c lv = x :: l ∧ (x.1 ≠ 4 ∨ x.2 = [40] ∨ x.2 = [45]) := by
  induction h with
  | num u h1 h2 => intro lv; rw [tkN_split]; split; exact ⟨_, _, rfl, .inr (.inl rfl)⟩; exact ⟨_, _, rfl, .inl (by show (1 : Int) ≠ 4; omega)⟩
  | txt t => intro lv; rw [tkN_split]; split; exact ⟨_, _, rfl, .inr (.inl rfl)⟩; exact ⟨_, _, rfl, .inl (by show (2 : Int) ≠ 4; omega)⟩
  | ref f h => intro lv; rw [tkN_split]; split; exact ⟨_, _, rfl, .inr (.inl rfl)⟩; exact ⟨_, _, rfl, .inl (by show (3 : Int) ≠ 4; omega)⟩
  | rng f o h1 h2 => intro lv; rw [tkN_split]; split; exact ⟨_, _, rfl, .inr (.inl rfl)⟩; exact ⟨_, _, rfl, .inl (by show (3 : Int) ≠ 4; omega)⟩
  | neg a h ih => intro lv; rw [tkN_split]; split; exact ⟨_, _, rfl, .inr (.inl rfl)⟩; exact ⟨_, _, tk_neg' _ _, .inr (.inr rfl)⟩
  | bin t a b ht h1 h2 i1 i2 =>
    intro lv
    rw [tkN_split]
    split
    · exact ⟨_, _, rfl, .inr (.inl rfl)⟩
    · obtain ⟨x, l, e, hx⟩ := i1 (lvS t)
      exact ⟨x, l ++ (4, t) :: tkN nmS b (lvS t + 1), by rw [tk_bin', e]; rfl, hx⟩
  | cal t ar ht hl h ih => intro lv; rw [tkN_split]; split; exact ⟨_, _, rfl, .inr (.inl rfl)⟩; exact ⟨_, _, tk_cal' _ _ _, .inl (by show (3 : Int) ≠ 4; omega)⟩
  | flt => intro lv; rw [tkN_split]; split; exact ⟨_, _, rfl, .inr (.inl rfl)⟩; exact ⟨_, _, rfl, .inl (by show (5 : Int) ≠ 4; omega)⟩
theorem first_shut {c : Nd} (h : Fm c) {Ts : List Tks.Tk} {i : Nat} {r : List Tw} {lv : Int} (hat : At Ts i (tkN nmS c lv ++ r)) : isB Ts i [41] = false := by
  obtain ⟨x, l, e, hx⟩ := tk_first h lv
  rw [e] at hat
  have hat' : At Ts i (x :: (l ++ r)) := hat
  rw [isB_head hat']
  rcases hx with hx | hx | hx
  · rw [decide_eq_false hx]; rfl
  · rw [hx]; simp
  · rw [hx]; simp
theorem rest_args (ar : List Nd) (rest : List Tw) : RestOk 1 (tkT nmS ar ++ ((4, [41]) :: rest)) := by
  cases ar with
  | nil => rw [tkT]; exact rest_shut 1 rest
  | cons c r => rw [tkT]; exact rest_comma 1 _
def ClR (t : Bs) (ar : List Nd) (w : World) (b : Nat) (q : Option Addr) (nT cT i G base : Nat) (Ts : List Tks.Tk) (rest : List Tw) (m : Nat) (acc : List Cel.Kid) (q' : Option Addr) (cp pos : Nat) (wr : World) : Prop :=
  m < ar.length ∧ acc.map Prod.fst = ar.take m ∧ BlkC wr G (Cel.ndA (Nd.mk 7 0 t 0 0 (ar.take m)) q' m cp) Cel.tPn ∧ BlkC wr w.heap.size (Cel.ndA nodeZ none 0 0) Cel.tPn ∧ Psr wr b q nT cT pos ∧ Off b w wr ∧ wr.ownsRow base Cel.tPn 8 (.slice q' m cp) m (acc.flatMap Cel.kidC) ∧ (∀ x ∈ acc, KidOk base wr (.slice q' m cp) x) ∧ base ≤ wr.heap.size ∧ At Ts pos ((tkT nmS (ar.drop m)).drop 1 ++ ((4, [41]) :: rest)) ∧ pos + ((tkT nmS (ar.drop m)).drop 1).length = i + ((tkT nmS ar).drop 1).length
set_option maxRecDepth 100000 in
set_option maxHeartbeats 8000000 in
theorem cl_cons (t : Bs) (ar : List Nd) (ht : nameB t = true) (hl : ar.length ≤ 16) (hne : ar ≠ []) (hF : ∀ c ∈ ar, Fm c) (IH : ∀ c ∈ ar, BinC c 1) : ClC t ar := by
  intro ws w b q cT i Ts rest hst hat hrs
  have hb1 : isB Ts i [41] = false := by
    cases ar with
    | nil => exact absurd rfl hne
    | cons c r =>
      rw [tkT, List.drop_succ_cons, List.drop_zero, List.append_assoc] at hat
      exact first_shut (hF c (by simp)) hat
  have hpos : 0 < ar.length := List.length_pos_iff.2 hne
  have hA0 : Hid (BlkC (w.alloc (.cells (Cel.ndA nodeZ none 0 0) Cel.tPn)) w.heap.size (Cel.ndA nodeZ none 0 0) Cel.tPn) := heap_alloc_new w _
  have hAB : Below w.heap.size w (w.alloc (.cells (Cel.ndA nodeZ none 0 0) Cel.tPn)) := by (repeat' (first | (with_reducible exact Below.refl _ _) | (with_reducible assumption) | (with_reducible refine Below.alloc ?_ ?_ _) | (with_reducible refine bel_drewN ?_ _) | (with_reducible refine Below.drew ?_) | (with_reducible refine Below.setCell ?_ ?_ _) | (with_reducible refine bel_call ‹_› ?_ ?_) | go_size))
  have HS0 := Lib.hid (hst.below hAB)
  have HO0 := Lib.hid (Off.of_below (b := b) hAB)
  have hbw := hst.lt
  have HSW := Lib.hid hst
  have HNM := Lib.hid (fun W => name_any ⟨t.toArray⟩ (by have := nameB_l32 ht; rw [Lib.size_eq]; unfold maxLen; simp; omega) W)
  rw [show (⟨t.toArray⟩ : ByteArray).data.toList = t from by simp, ht] at HNM
  have HIS1 := Lib.hid (fun W (h : PSt ws W b q Ts cT i) => is_any b q cT i Ts [41] W h.psr h.tks h.len)
  rw [hb1] at HIS1
  have HIS := Lib.hid (fun W s j (h : PSt ws W b q Ts cT j) => is_any b q cT j Ts s W h.psr h.tks h.len)
  have HAT := Lib.hid hat
  have HIH := Lib.hid IH
  have HFF := Lib.hid hF
  have HLN := Lib.hid hl
  obtain ⟨kk, hkk⟩ : ∃ kk, ((tkT nmS ar).drop 1).length + 1 = kk := ⟨_, rfl⟩
  have HKK := Lib.hid hkk
  rw [hkk]
  clear hat hrs hb1 IH hF hkk hne hl
  obtain ⟨nT, hnT⟩ : ∃ n, Ts.length = n := ⟨_, rfl⟩
  have HNT := Lib.hid hnT
  rw [hnT] at HIS1 HIS ⊢
  clear hnT
  clear hst hAB
  go_enter Tryz.func141, Tryz.ntmps141
  go_upto_region 1 with fail
  have e0 : w.alloc (.cells #[.int .i64 0, .int .i64 0, .string ⟨#[]⟩, .int .i64 0, .int .i64 0, .int .i64 0, .int .i64 0, .slice none 0 0] Cel.tPn) = w.alloc (.cells (Cel.ndA nodeZ none 0 0) Cel.tPn) := rfl
  rw [e0]
  clear e0
  generalize w.alloc (.cells (Cel.ndA nodeZ none 0 0) Cel.tPn) = w0 at hA0 HS0 HO0 ⊢
  go_upto_region 2 with fail
  have e1 : w0.alloc (.cells #[.int .i64 7, .int .i64 0, .string ⟨t.toArray⟩, .int .i64 0, .int .i64 0, .int .i64 0, .int .i64 0, .slice none 0 0] Cel.tPn) = w0.alloc (.cells (Cel.ndA (Nd.mk 7 0 t 0 0 []) none 0 0) Cel.tPn) := rfl
  rw [e1]
  clear e1
  have HG1 : Hid (BlkC (w0.alloc (.cells (Cel.ndA (Nd.mk 7 0 t 0 0 []) none 0 0) Cel.tPn)) w0.heap.size (Cel.ndA (Nd.mk 7 0 t 0 0 []) none 0 0) Cel.tPn) := heap_alloc_new w0 _
  have hb : Below w0.heap.size w0 (w0.alloc (.cells (Cel.ndA (Nd.mk 7 0 t 0 0 []) none 0 0) Cel.tPn)) := (Below.refl _ _).alloc (Nat.le_refl _) _
  have hA1 := Lib.hid (hA0.out.below hb)
  have HO1 := Lib.hid (HO0.out.call hb)
  have HP1 := Lib.hid (HS0.out.psr.below hb)
  rw [HNT.out] at HP1
  have hG0 : w.heap.size < w0.heap.size := lt_some hA0.out
  clear hb hA0 HO0 HS0
  generalize w0.alloc (.cells (Cel.ndA (Nd.mk 7 0 t 0 0 []) none 0 0) Cel.tPn) = w1 at HG1 hA1 HO1 HP1 ⊢
  generalize w0.heap.size = G at HG1 hG0 ⊢
  go_wp2_with fail
  refine (HNM.out w1).mono ?_
  rintro e w2 ⟨rfl, hb⟩
  have HG2 := Lib.hid (HG1.out.below hb)
  have hA2 := Lib.hid (hA1.out.below hb)
  have HO2 := Lib.hid (HO1.out.call hb)
  have HP2 := Lib.hid (HP1.out.below hb)
  have HS2 := Lib.hid (HSW.out.off HO2.out (by rw [HNT.out]; exact HP2.out))
  clear hb HG1 hA1 HO1 HP1 HNM
  go_wp2_with fail
  refine (HIS1.out w2 HS2.out).mono ?_
  rintro e w3 ⟨rfl, hp, ho⟩
  rw [if_neg (by simp)] at hp
  have hA3 := Lib.hid (ho.bc (by omega) hA2.out)
  have HO3 := Lib.hid (HO2.out.trans ho)
  have HP3 := Lib.hid hp
  have HS3 := Lib.hid (HSW.out.off HO3.out (by rw [HNT.out]; exact hp))
  have hs3 := ho.size
  have HG3 := Lib.hid (ho.bc (by omega) HG2.out)
  clear hp ho hA2 HO2 HS2 HG2
  have hG3 : G < w3.heap.size := lt_some HG3.out
  have hs03 : w.heap.size < w3.heap.size := lt_some hA3.out
  have hGb : G ≠ b := by omega
  have HC0 : Hid (ClR t ar w b q nT cT i G w3.heap.size Ts rest 0 [] none 0 i w3) := ⟨hpos, rfl, HG3.out, hA3.out, HP3.out, HO3.out, World.ownsRow_nil _ _ _ _, fun x hx => (by cases hx), Nat.le_refl _, HAT.out, rfl⟩
  obtain ⟨i0, hi, hz0, hz1, hz2⟩ := info_of Cel.info_nd
  clear HG3 hA3 HO3 HP3 HS3 HAT hs3 hpos
  generalize w3.heap.size = base at HC0 hG3 hs03
  go_wp2_with fail
  go_loopg [16] ar.length (fun g v16 wr => ∃ m acc q' cp pos, m + g = ar.length ∧ ClR t ar w b q nT cT i G base Ts rest m acc q' cp pos wr)
  case atStart => exact ⟨0, [], none, 0, i, by omega, HC0.out⟩
  case round =>
    obtain ⟨m, acc, q', cp, pos, hmg, hm, hacc, hG, hA, hP, hO, hown, hkid, hbs, hat, hcon⟩ := hrel
    have HAC := Lib.hid hacc
    have HG := Lib.hid hG
    have HA := Lib.hid hA
    have HP := Lib.hid hP
    have HO := Lib.hid hO
    have HOW := Lib.hid hown
    have HKD := Lib.hid hkid
    have HCN := Lib.hid hcon
    obtain ⟨c, hc⟩ : ∃ c, ar[m]? = some c := ⟨_, List.getElem?_eq_getElem hm⟩
    have HHC := Lib.hid hc
    have hcm : c ∈ ar := List.mem_of_getElem? hc
    have HTK : Hid ((tkT nmS (ar.drop m)).drop 1 = tkN nmS c 1 ++ tkT nmS (ar.drop (m + 1))) := by unfold Hid; rw [tkT_at hc]; rfl
    have HAT1 : Hid (At Ts pos (tkN nmS c 1 ++ (tkT nmS (ar.drop (m + 1)) ++ ((4, [41]) :: rest)))) := by unfold Hid; rw [← List.append_assoc, ← HTK.out]; exact hat
    have HAT2 := Lib.hid (At.app HAT1.out)
    have HBI := Lib.hid (fun W (h : PSt ws W b q Ts cT pos) => HIH.out c hcm ws W b q cT pos Ts _ h HAT1.out (rest_args (ar.drop (m + 1)) rest))
    rw [HNT.out] at HBI
    have HCN2 : Hid (pos + (tkN nmS c 1).length + (tkT nmS (ar.drop (m + 1))).length + 1 = i + kk) := by
      unfold Hid
      have h := HCN.out
      rw [HTK.out, List.length_append] at h
      rw [← HKK.out]
      omega
    generalize (tkN nmS c 1).length = kc at HBI HAT2 HCN2
    obtain ⟨_, _, p2, _⟩ := hP.cells
    have Y7 := KeptL.cell (base := base) (b := b) hG3 hGb (HG.out.cell 7 (.slice q' m cp) rfl)
    have hlen16 := HLN.out
    clear hacc hG hA hP hO hown hkid hcon hc hat HC0
    go_upto_region 7 with fail
    refine wp_region_schedT (fun wx => ∃ x : KeptL base b wr, wx = x.v) 7 [([0, 1, 2], 3), ([], 4), ([], 5)] [6] (by kernel_rfl) (by kernel_rfl) (by kernel_rfl) (by kernel_rfl) (keptL_drew _ _ _) ?_
    (unfold wpSegK; simp only [pick_nil, pick_cons, nthO_zero, nthO_succ, List.append])
    repeat (go_big_quiet_step (fail))
    refine wpQuiet_nil ?_
    have hBd : Below wr.heap.size wr wr.drew := Below.drew (Below.refl _ _)
    have HBJ := Lib.hid (HBI.out wr.drew (HSW.out.off (HO.out.call hBd) (by rw [HNT.out]; exact HP.out.below hBd)))
    clear HBI
    go_wp2_with fail
    refine HBJ.out.mono ?_
    rintro e w3 ⟨⟨p2', c2, rfl, hk3⟩, hp3, ho3'⟩
    obtain ⟨l', hl'⟩ : ∃ l', c.args.length = l' := ⟨_, rfl⟩
    rw [hl'] at hk3 ⊢
    have ho3 : Off b wr w3 := (Off.of_below hBd).trans ho3'
    have HO3 := Lib.hid ho3
    have HP3 := Lib.hid hp3
    have HK3 : Hid (∀ d, dpN c ≤ d + 1 → Cel.RdP w3 (fun k => wr.heap.size ≤ k ∧ k < w3.heap.size) d c p2' l') := hk3
    have hs3 := ho3.size
    have hkl3 : ∀ k, k < base → k ≠ b → w3.heap[k]? = wr.heap[k]? := fun k h1 h2 => HO3.out.block k (by omega) h2
    clear ho3' ho3 hp3 hk3 HBJ hl'
    rw [show Value.agg (Cel.ndA c p2' l' c2) = .agg #[.int .i64 c.kind, .int .i64 c.num, .string ⟨c.text.toArray⟩, .int .i64 (cC c.frm), .int .i64 (cR c.frm), .int .i64 (cC c.tor), .int .i64 (cR c.tor), .slice p2' l' c2] from rfl]
    go_wp2_with fail
    refine ⟨rfl, ⟨⟨w3, hkl3⟩, rfl⟩, ?_⟩
    (unfold wpSegK; simp only [pick_nil, pick_cons, nthO_zero, nthO_succ, List.append])
    refine wpQuiet_nil ?_
    go_wp2_with fail
    have e4 : w3.alloc (.cells #[.int .i64 c.kind, .int .i64 c.num, .string ⟨c.text.toArray⟩, .int .i64 (cC c.frm), .int .i64 (cR c.frm), .int .i64 (cC c.tor), .int .i64 (cR c.tor), .slice p2' l' c2] Cel.tPn) = w3.alloc (.cells (Cel.ndA c p2' l' c2) Cel.tPn) := rfl
    rw [e4]
    clear e4
    have hkl4 : ∀ k, k < base → k ≠ b → (w3.alloc (.cells (Cel.ndA c p2' l' c2) Cel.tPn)).heap[k]? = wr.heap[k]? := fun k h1 h2 => (heap_alloc_old _ _ (by omega)).trans (hkl3 k h1 h2)
    refine ⟨rfl, ⟨⟨_, hkl4⟩, rfl⟩, ?_⟩
    (unfold wpSegK; simp only [pick_nil, pick_cons, nthO_zero, nthO_succ, List.append])
    refine wpQuiet_nil ?_
    have HRW : Hid (w3.ownsRow base Cel.tPn 8 (.slice q' m cp) m (acc.flatMap Cel.kidC)) := row_carry HOW.out (fun k hk => HO3.out.block k (HOW.out.lt k hk).2 (by have := (HOW.out.lt k hk).1; omega))
    refine wpList_append_own_at _ rfl _ _ _ rfl base Cel.tPn i0 _ 8 88 Tryz.underlying42 hi hz0 hz1 hz2 rfl (by decide) _ _ _ rfl (HRW.out.alloc _) ⟨w3.heap.size, 0, none⟩ 1 1 (Cel.ndC c p2' l' c2) rfl rfl (Cel.newNd w3 c p2' l' c2) ?c2 ?c3 ?c4 ?c5 ?_
    case c2 => exact Cel.kidC_one (c, p2', l', c2)
    case c3 => unfold maxLen; omega
    case c4 => omega
    case c5 => rw [World.size_alloc]; omega
    intro v' w5 hown5 hgrow5 _ hat5
    have hs5 := hgrow5.size
    rw [World.size_alloc] at hs5
    have hblk5 : ∀ k, k < base → w5.heap[k]? = w3.heap[k]? := fun k hk => by
      rw [hgrow5.block k (by rw [World.size_alloc]; omega) (fun e => by have := (HRW.out.lt k e.symm).1; omega), heap_alloc_old _ _ (by omega)]
    have hkl5 : ∀ k, k < base → k ≠ b → w5.heap[k]? = wr.heap[k]? := fun k h1 h2 => (hblk5 k h1).trans (hkl3 k h1 h2)
    have HOW5 : Hid (w5.ownsRow base Cel.tPn 8 v' (m + 1) ((acc ++ [(c, p2', l', c2)]).flatMap Cel.kidC)) := by
      unfold Hid
      rw [flat_snoc]
      exact hown5
    have hla : acc.length = m := by
      have h := congrArg List.length HAC.out
      rw [List.length_map, List.length_take] at h
      omega
    obtain ⟨q5, cp5, hv5, _, _, _, _⟩ := RdG.of_own Cel.kidC_len (by rw [List.length_append, List.length_singleton, hla]) HOW5.out
    subst hv5
    have HG5 : Hid (BlkC w5 G (Cel.ndA (Nd.mk 7 0 t 0 0 (ar.take m)) q' m cp) Cel.tPn) := (hkl5 G hG3 hGb).trans HG.out
    have HA5 : Hid (BlkC w5 w.heap.size (Cel.ndA nodeZ none 0 0) Cel.tPn) := (hkl5 _ hs03 (by omega)).trans HA.out
    have HP5 : Hid (Psr w5 b q nT cT (pos + kc)) := (hblk5 b (by omega)).trans HP3.out
    have HO5 : Hid (Off b w w5) := ⟨hgrow5.os.trans (HO3.out.os.trans HO.out.os), hgrow5.tape.trans (HO3.out.tape.trans HO.out.tape), hgrow5.output.trans (HO3.out.output.trans HO.out.output), by have := HO.out.size; omega, fun k h1 h2 => (hkl5 k (by omega) h2).trans (HO.out.block k h1 h2)⟩
    have HKN := Lib.hid (kids_off (G := G) (u := .slice q5 (m + 1) cp5) (c2 := c2) hG3 (by omega) hbs HO3.out hgrow5 hat5 (fun k e => (HOW.out.lt k e).2) HKD.out HK3.out)
    clear hown5 hgrow5 hat5 HRW HK3 HKD HO3 HP3 HO HA HG HP HOW hkl3 hkl4 hblk5 Y7
    have e7 : w5.cell? ⟨G, 7, none⟩ = some (.slice q' m cp) := HG5.out.cell 7 _ rfl
    have g7 := HG5.out.fz 7
    go_wp2_with fail
    refine ⟨rfl, ⟨⟨w5, hkl5⟩, rfl⟩, ?_⟩
    (unfold wpSegK; simp only [pick_nil, pick_cons, nthO_zero, nthO_succ, List.append])
    repeat (go_big_quiet_step (fail))
    refine wpQuiet_nil ?_
    go_wp2_with fail
    refine ⟨rfl, ?_⟩
    have HP6 : Hid (Psr (w5.setCell ⟨G, 7, none⟩ (.slice q5 (m + 1) cp5)) b q nT cT (pos + kc)) := (heap_setCell_other _ _ _ _ (show b ≠ G by omega)).trans HP5.out
    have HA6 : Hid (BlkC (w5.setCell ⟨G, 7, none⟩ (.slice q5 (m + 1) cp5)) w.heap.size (Cel.ndA nodeZ none 0 0) Cel.tPn) := (heap_setCell_other _ _ _ _ (show w.heap.size ≠ G by omega)).trans HA5.out
    have HG6 : Hid (BlkC (w5.setCell ⟨G, 7, none⟩ (.slice q5 (m + 1) cp5)) G (Cel.ndA (Nd.mk 7 0 t 0 0 (ar.take (m + 1))) q5 (m + 1) cp5) Cel.tPn) := block_setCell HG5.out _
    have HO6 : Hid (Off b w (w5.setCell ⟨G, 7, none⟩ (.slice q5 (m + 1) cp5))) := HO5.out.set_new (by omega) _ _
    have HW6 : Hid ((w5.setCell ⟨G, 7, none⟩ (.slice q5 (m + 1) cp5)).ownsRow base Cel.tPn 8 (.slice q5 (m + 1) cp5) (m + 1) ((acc ++ [(c, p2', l', c2)]).flatMap Cel.kidC)) := row_carry HOW5.out (fun k hk => heap_setCell_other _ _ _ _ (by have := (HOW5.out.lt k hk).1; show k ≠ G; omega))
    have HAN : Hid ((acc ++ [(c, p2', l', c2)]).map Prod.fst = ar.take (m + 1)) := by
      unfold Hid
      rw [List.map_append, HAC.out, List.take_add_one, HHC.out]
      rfl
    have hz6 : base ≤ (w5.setCell ⟨G, 7, none⟩ (.slice q5 (m + 1) cp5)).heap.size := by rw [World.size_setCell]; omega
    clear HG5 HA5 HP5 HO5 HOW5 hkl5 e7 g7
    generalize w5.setCell ⟨G, 7, none⟩ (.slice q5 (m + 1) cp5) = w6 at HP6 HA6 HG6 HO6 HW6 hz6 HKN ⊢
    generalize acc ++ [(c, p2', l', c2)] = acc' at HW6 HAN HKN
    have HS6 := Lib.hid (HSW.out.off HO6.out (by rw [HNT.out]; exact HP6.out))
    by_cases hlast : m + 1 = ar.length
    · have HDR : Hid (ar.drop (m + 1) = []) := List.drop_eq_nil_of_le (by omega)
      have HATS : Hid (At Ts (pos + kc) ((4, [41]) :: rest)) := by
        have h := HAT2.out
        rw [HDR.out, tkT, List.nil_append] at h
        exact h
      have HIC := Lib.hid (HIS.out w6 [41] (pos + kc) HS6.out)
      rw [show isB Ts (pos + kc) [41] = true from by rw [isB_head HATS.out]; rfl] at HIC
      have HE : Hid (pos + kc + 1 = i + kk) := by
        have h := HCN2.out
        rw [HDR.out, tkT] at h
        unfold Hid
        simpa using h
      have HLS := Lib.hid hlast
      clear hlast
      go_wp2_with fail
      refine HIC.out.mono ?_
      rintro e w7 ⟨rfl, hp, ho⟩
      rw [if_pos rfl] at hp
      have HP7 : Hid (Psr w7 b q nT cT (i + kk)) := by unfold Hid; rw [← HE.out]; exact hp
      have HA7 := Lib.hid (ho.bc (by omega) HA6.out)
      have HG7 := Lib.hid (ho.bc hGb HG6.out)
      have HO7 := Lib.hid (HO6.out.trans ho)
      have hs7 := ho.size
      have HTA : Hid (ar.take (m + 1) = ar) := List.take_of_length_le (by have := HLS.out; omega)
      have hlacc : acc'.length = m + 1 := by
        have h := congrArg List.length HAN.out
        rw [List.length_map, List.length_take] at h
        omega
      have HK7 : Hid (∀ d, dpN (Nd.mk 7 0 t 0 0 ar) ≤ d + 1 → Cel.RdP w7 (fun k => w.heap.size < k ∧ k < w7.heap.size) d (Nd.mk 7 0 t 0 0 ar) q5 (m + 1)) := by
        intro d hd
        cases d with
        | zero =>
          have h1 : dpN c + 1 ≤ dpN (Nd.mk 7 0 t 0 0 ar) := dpN_mem (n := Nd.mk 7 0 t 0 0 ar) (List.mem_of_getElem? HHC.out)
          have h2 : 1 ≤ dpN c := by cases c; rw [dpN]; omega
          omega
        | succ d =>
          obtain ⟨q6, cp6, hv, hr⟩ := Cel.RdP.of_row (n := Nd.mk 7 0 t 0 0 ar) (d := d) (ok := fun k => base ≤ k ∧ k < w6.heap.size) (by rw [hlacc]; exact HW6.out) (by rw [HAN.out, HTA.out]; rfl) (fun x hx => (HKN.out x hx d (by
            have h1 : x.1 ∈ ar := by
              have : x.1 ∈ acc'.map Prod.fst := List.mem_map_of_mem hx
              rw [HAN.out] at this
              exact List.mem_of_mem_take this
            have h2 := dpN_mem (n := Nd.mk 7 0 t 0 0 ar) h1
            omega)).carry (fun k hk => ⟨⟨hk.1, hk.2.1⟩, rfl⟩)) (fun k hk => HW6.out.lt k hk)
          rw [hlacc] at hv hr
          cases hv
          exact hr.carry (fun k hk => ⟨⟨by omega, by omega⟩, ho.block k hk.2 (by omega)⟩)
      clear hp ho HIC HS6 HP6 HA6 HG6 HO6 HW6 HKN HAN HAT2 HATS
      rw [HTA.out] at HG7
      go_upto_region 11 with fail
      refine wp_region_lit ?_
      refine wpList_load_mid (by rfl) _ _ (by rfl) G 0 (by rfl) [.int .i64 7, .int .i64 0, .string ⟨t.toArray⟩, .int .i64 0, .int .i64 0, .int .i64 0, .int .i64 0, .slice q5 (m + 1) cp5] _ (block_range HG7.out [.int .i64 7, .int .i64 0, .string ⟨t.toArray⟩, .int .i64 0, .int .i64 0, .int .i64 0, .int .i64 0, .slice q5 (m + 1) cp5] rfl) Tryz.underlying44 rfl (by kernel_rfl) ?_
      go_simp
      refine wpList_store_mid (by rfl) _ _ _ (by rfl) w.heap.size 0 #[.int .i64 7, .int .i64 0, .string ⟨t.toArray⟩, .int .i64 0, .int .i64 0, .int .i64 0, .int .i64 0, .slice q5 (m + 1) cp5] (by rfl) (by rfl) (block_there HA7.out 8 (Nat.le_refl _)) (by kernel_rfl) (by simp [Value.oneCell']) ?_
      obtain ⟨hs8, hf8⟩ := res_store (n := Nd.mk 7 0 t 0 0 ar) (p := q5) (l := m + 1) (cp := cp5) HA7.out rfl HP7.out HO7.out hbw HLS.out.symm HK7.out
      have HS8 := Lib.hid hs8
      have HF8 := Lib.hid hf8
      clear hs8 hf8
      have e8 : w7.setCells w.heap.size 0 (#[.int .i64 7, .int .i64 0, .string ⟨t.toArray⟩, .int .i64 0, .int .i64 0, .int .i64 0, .int .i64 0, .slice q5 (m + 1) cp5]).toList = w7.setCells w.heap.size 0 (Cel.ndA (Nd.mk 7 0 t 0 0 ar) q5 (m + 1) cp5).toList := rfl
      rw [e8]
      clear e8
      generalize w7.setCells w.heap.size 0 (Cel.ndA (Nd.mk 7 0 t 0 0 ar) q5 (m + 1) cp5).toList = w9 at HS8 HF8 ⊢
      go_simp
      iterate 3 (first | go_values | go_skip | go_guarded | go_step | go_upon)
      apply wp_ret
      try simp only [Exit.inBlock, Exit.then]
      exact bodyPost_ret (results_cell_row rfl _ _ w.heap.size Cel.tPn (Cel.ndA (Nd.mk 7 0 t 0 0 ar) q5 (m + 1) cp5) (0, 0) _ rfl HS8.out Tryz.underlying44 rfl (by kernel_rfl)) rfl HF8.out
    · have hlt : m + 1 < ar.length := by omega
      obtain ⟨c', hc'⟩ : ∃ c', ar[m + 1]? = some c' := ⟨_, List.getElem?_eq_getElem hlt⟩
      have HDR := Lib.hid (tkT_at hc')
      have HATS : Hid (At Ts (pos + kc) ((4, [44]) :: ((tkN nmS c' 1 ++ tkT nmS (ar.drop (m + 1 + 1))) ++ ((4, [41]) :: rest)))) := by
        have h := HAT2.out
        rw [HDR.out] at h
        exact h
      have HIC := Lib.hid (HIS.out w6 [41] (pos + kc) HS6.out)
      rw [show isB Ts (pos + kc) [41] = false from by rw [isB_head HATS.out]; rfl] at HIC
      obtain ⟨_, _, _, HAT3⟩ := HATS.out.get
      go_wp2_with fail
      refine HIC.out.mono ?_
      rintro e w7 ⟨rfl, hp, ho⟩
      rw [if_neg (by simp)] at hp
      have HP7 := Lib.hid hp
      have HA7 := Lib.hid (ho.bc (by omega) HA6.out)
      have HG7 := Lib.hid (ho.bc hGb HG6.out)
      have HO7 := Lib.hid (HO6.out.trans ho)
      have hs7 := ho.size
      have HW7 : Hid (w7.ownsRow base Cel.tPn 8 (.slice q5 (m + 1) cp5) (m + 1) (acc'.flatMap Cel.kidC)) := row_carry HW6.out (fun k hk => ho.block k (HW6.out.lt k hk).2 (by have := (HW6.out.lt k hk).1; omega))
      have HK7 : Hid (∀ x ∈ acc', KidOk base w7 (.slice q5 (m + 1) cp5) x) := fun x hx d hd => (HKN.out x hx d hd).carry (fun k hk => ⟨⟨hk.1, by have := hk.2.1; omega, hk.2.2⟩, ho.block k hk.2.1 (by have := hk.1; omega)⟩)
      have HS7 := Lib.hid (HSW.out.off HO7.out (by rw [HNT.out]; exact HP7.out))
      have HID := Lib.hid (HIS.out w7 [44] (pos + kc) HS7.out)
      rw [show isB Ts (pos + kc) [44] = true from by rw [isB_head HATS.out]; rfl] at HID
      clear hp ho HIC HS6 HP6 HA6 HG6 HO6 HW6 HKN HS7
      go_wp2_with fail
      refine HID.out.mono ?_
      rintro e w8 ⟨rfl, hp, ho⟩
      rw [if_pos rfl] at hp
      have HP8 := Lib.hid hp
      have HA8 := Lib.hid (ho.bc (by omega) HA7.out)
      have HG8 := Lib.hid (ho.bc hGb HG7.out)
      have HO8 := Lib.hid (HO7.out.trans ho)
      have hs8 := ho.size
      have HW8 : Hid (w8.ownsRow base Cel.tPn 8 (.slice q5 (m + 1) cp5) (m + 1) (acc'.flatMap Cel.kidC)) := row_carry HW7.out (fun k hk => ho.block k (HW7.out.lt k hk).2 (by have := (HW7.out.lt k hk).1; omega))
      have HK8 : Hid (∀ x ∈ acc', KidOk base w8 (.slice q5 (m + 1) cp5) x) := fun x hx d hd => (HK7.out x hx d hd).carry (fun k hk => ⟨⟨hk.1, by have := hk.2.1; omega, hk.2.2⟩, ho.block k hk.2.1 (by have := hk.1; omega)⟩)
      have HATF : Hid (At Ts (pos + kc + 1) ((tkT nmS (ar.drop (m + 1))).drop 1 ++ ((4, [41]) :: rest))) := by
        unfold Hid
        rw [HDR.out, List.drop_succ_cons, List.drop_zero]
        exact HAT3
      have HCF : Hid (pos + kc + 1 + ((tkT nmS (ar.drop (m + 1))).drop 1).length = i + ((tkT nmS ar).drop 1).length) := by
        have h := HCN2.out
        have h2 := HKK.out
        unfold Hid
        rw [HDR.out] at h ⊢
        rw [List.drop_succ_cons, List.drop_zero]
        rw [List.length_cons] at h
        omega
      have hbz : base ≤ w8.heap.size := by omega
      have HR8 : Hid (ClR t ar w b q nT cT i G base Ts rest (m + 1) acc' q5 cp5 (pos + kc + 1) w8) := ⟨hlt, HAN.out, HG8.out, HA8.out, HP8.out, HO8.out, HW8.out, HK8.out, hbz, HATF.out, HCF.out⟩
      have c7 : w8.cell? ⟨G, 7, none⟩ = some (.slice q5 (m + 1) cp5) := HG8.out.cell 7 _ rfl
      have hm16 : ¬ 16 ≤ m + 1 := by omega
      have hm16i : ((m + 1 : Nat) : Int) < 16 := by omega
      clear hp ho HID HP7 HA7 HG7 HO7 HW7 HK7 HP8 HA8 HG8 HO8 HW8 HK8 HATF HCF HATS HAT3 HAT2 HDR
      go_wp2_with fail
      go_roundg (gk - 1)
      case measure => omega
      case rel => exact ⟨m + 1, acc', q5, cp5, pos + kc + 1, by omega, HR8.out⟩
end Go.Proofs.YtbdgdhjhgcpidaaGreatDoor
namespace Go.Proofs.YtbdgdhjhgcpidaaGreatDoor
open Go.RowKit Go.Joins
def brk (n : Nd) (lv : Int) : Nat := if hdS n.kind n.text < lv then 8 else 0
theorem brk_le (n : Nd) (lv : Int) : brk n lv ≤ 8 := by unfold brk; split <;> omega
theorem wtN_pos (n : Nd) : 400 ≤ wtN n := by cases n; rw [wtN]; omega
theorem par_all : ∀ k : Nat, (∀ (n : Nd) (lv : Int), Fm n → 1 ≤ lv → lv ≤ 5 → 16 * wtN n + brk n lv + (7 - lv).toNat ≤ k → BinC n lv) ∧ (∀ n : Nd, Fm n → 16 * wtN n + brk n 5 + 1 ≤ k → UnC n) ∧ (∀ n : Nd, Fm n → n.kind ≠ 5 → 16 * wtN n + brk n 5 ≤ k → PrC n) := by
  intro k
  induction k with
  | zero =>
    refine ⟨fun n lv _ _ _ h => ?_, fun n _ h => ?_, fun n _ _ h => ?_⟩
    all_goals
      have := wtN_pos n
      omega
  | succ k ih =>
    obtain ⟨iB, iU, iP⟩ := ih
    refine ⟨fun n lv hf h1 h5 hk => ?_, fun n hf hk => ?_, fun n hf h5 hk => ?_⟩
    · by_cases hlv : lv = 5
      · subst hlv
        exact bin_5 n (iU n hf (by have : (7 - (5 : Int)).toNat = 2 := rfl; omega))
      · refine bin_s n lv h1 (by omega) hf (fun m hm hor => iB m (lv + 1) hm (by omega) (by omega) ?_)
        rcases hor with h | ⟨rfl, hne⟩
        · have := brk_le m (lv + 1)
          have h7 : (7 - (lv + 1)).toNat ≤ 5 := by omega
          omega
        · have hb : brk m (lv + 1) = brk m lv := by
            unfold brk
            by_cases h : hdS m.kind m.text < lv
            · rw [if_pos h, if_pos (by omega)]
            · rw [if_neg h, if_neg (by omega)]
          omega
    · cases hf with
      | neg a h =>
        refine un_neg a (iU a h ?_)
        have h1 : wtN a < wtN (Nd.mk 5 0 [] 0 0 [a]) := by rw [wtN, wtL, wtL]; omega
        have := brk_le a 5
        omega
      | num u h1 h2 => exact un_prim _ (.num u h1 h2) (by show (1 : Int) ≠ 5; omega) (iP _ (.num u h1 h2) (by show (1 : Int) ≠ 5; omega) (by omega))
      | txt t => exact un_prim _ (.txt t) (by show (2 : Int) ≠ 5; omega) (iP _ (.txt t) (by show (2 : Int) ≠ 5; omega) (by omega))
      | ref f h => exact un_prim _ (.ref f h) (by show (3 : Int) ≠ 5; omega) (iP _ (.ref f h) (by show (3 : Int) ≠ 5; omega) (by omega))
      | rng f o h1 h2 => exact un_prim _ (.rng f o h1 h2) (by show (4 : Int) ≠ 5; omega) (iP _ (.rng f o h1 h2) (by show (4 : Int) ≠ 5; omega) (by omega))
      | bin t a b ht h1 h2 => exact un_prim _ (.bin t a b ht h1 h2) (by show (6 : Int) ≠ 5; omega) (iP _ (.bin t a b ht h1 h2) (by show (6 : Int) ≠ 5; omega) (by omega))
      | cal t ar ht hl h => exact un_prim _ (.cal t ar ht hl h) (by show (7 : Int) ≠ 5; omega) (iP _ (.cal t ar ht hl h) (by show (7 : Int) ≠ 5; omega) (by omega))
      | flt => exact un_prim _ .flt (by show (8 : Int) ≠ 5; omega) (iP _ .flt (by show (8 : Int) ≠ 5; omega) (by omega))
    · cases hf with
      | neg a h => exact absurd rfl h5
      | num u h1 h2 => exact pr_num1 u h1 h2
      | txt t => exact pr_txt1 t
      | flt => exact pr_flt1
      | ref f h => exact pr_name _ (nmS f) [] (by rw [tkN_split, if_neg (by show ¬ (6 : Int) < 5; omega), tk_ref']) (nm_ref f h)
      | rng f o h1 h2 => exact pr_name _ (nmS f) _ (by rw [tkN_split, if_neg (by show ¬ (6 : Int) < 5; omega), tk_rng']) (nm_rng f o h1 h2)
      | bin t a b ht h1 h2 =>
        refine pr_br t a b ht (iB _ 1 (.bin t a b ht h1 h2) (by omega) (by omega) ?_)
        have e1 : brk (Nd.mk 6 0 t 0 0 [a, b]) 1 = 0 := by unfold brk; rw [if_neg (by show ¬ lvS t < 1; omega)]
        have e5 : brk (Nd.mk 6 0 t 0 0 [a, b]) 5 = 8 := by unfold brk; rw [if_pos (by have := lvS_pos t; show lvS t < 5; omega)]
        have : (7 - (1 : Int)).toNat = 6 := rfl
        omega
      | cal t ar ht hl h =>
        refine pr_name _ t _ (by rw [tkN_split, if_neg (by show ¬ (6 : Int) < 5; omega), tk_cal']) (nm_cal t ar ?_)
        by_cases hne : ar = []
        · subst hne
          exact cl_nil t ht
        · refine cl_cons t ar ht hl hne h (fun c hc => iB c 1 (h c hc) (by omega) (by omega) ?_)
          have h1 := wtL_mem hc
          have h2 : wtN (Nd.mk 7 0 t 0 0 ar) = 400 + 2 * t.length + wtL ar := by rw [wtN]
          have := brk_le c 1
          have : (7 - (1 : Int)).toNat = 6 := rfl
          omega
theorem binary_any (n : Nd) (hf : Fm n) : BinC n 1 := (par_all (16 * wtN n + brk n 1 + (7 - (1 : Int)).toNat)).1 n 1 hf (by omega) (by omega) (Nat.le_refl _)
theorem spl_count (L : Bs) : ∀ (k i : Nat) (Ts : List Tks.Tk) (x : Nat), L.length - i ≤ k → Tks.spl L i = (some Ts, x) → Ts.length ≤ L.length - i := by
  intro k
  induction k with
  | zero =>
    intro i Ts x h hs
    rw [Tks.spl_end L i (by omega)] at hs
    cases hs
    simp
  | succ k ih =>
    intro i Ts x h hs
    by_cases hi : L.length ≤ i
    · rw [Tks.spl_end L i hi] at hs
      cases hs
      simp
    · rw [Tks.spl_step L i (by omega)] at hs
      by_cases h32 : Tks.nx L i = 32
      · rw [if_pos h32] at hs
        have := ih (i + 1) Ts x (by omega) hs
        omega
      · rw [if_neg h32] at hs
        cases ht : Tks.tok L i with
        | none => rw [ht] at hs; cases hs
        | some y =>
          obtain ⟨kd, t, m⟩ := y
          rw [ht] at hs
          have hp := (Tks.tok_pos (by omega) ht)
          simp only at hs
          cases h3 : Tks.spl L (i + m) with
          | mk a b =>
            rw [h3] at hs
            cases a with
            | none => cases hs
            | some T =>
              simp only [Prod.mk.injEq, Option.some.injEq] at hs
              obtain ⟨rfl, rfl⟩ := hs
              have := ih (i + m) T b (by omega) h3
              simp only [List.length_cons]
              omega
end Go.Proofs.YtbdgdhjhgcpidaaGreatDoor
namespace Go.Proofs.YtbdgdhjhgcpidaaGreatDoor
open Go.RowKit Go.Joins
set_option maxRecDepth 100000 in
set_option maxHeartbeats 8000000 in
theorem formula_ok (n : Nd) (hf : Fm n) (hd : dpN n ≤ 64) (hok : OkN n) (s : ByteArray) (hs : s.data.toList = prN nmS n 1) (hl : s.size ≤ 256) (w : World) (hsh : w.ShapedOpen Tryz.prog) :
    Calls Tryz.prog 37 #[.string s] w fun e w' => (∃ p cap, e = .returned (.tuple #[.agg (Cel.ndA n p n.args.length cap), .int .i64 0]) ∧ ∀ d, dpN n ≤ d + 1 → Cel.RdP w' (fun k => w.heap.size ≤ k ∧ k < w'.heap.size) d n p n.args.length) ∧ Below w.heap.size w w' := by
  obtain ⟨Ts, x, hspl, hmap⟩ : ∃ Ts x, Tks.spl s.data.toList 0 = (some Ts, x) ∧ Ts.map tw = tkN nmS n 1 := by
    have h := tkP_tree nmS nmS_nam hf
    unfold tkP at h
    rw [← hs] at h
    cases h1 : Tks.spl s.data.toList 0 with
    | mk a b =>
      rw [h1] at h
      cases a with
      | none => cases h
      | some T => exact ⟨T, b, rfl, Option.some.inj h⟩
  have hcnt := spl_count s.data.toList _ 0 Ts x (Nat.le_refl _) hspl
  rw [← Lib.size_eq] at hcnt
  have hTl : Ts.length = (tkN nmS n 1).length := by rw [← hmap, List.length_map]
  have hT0 : 0 < Ts.length := by
    rw [hTl]
    obtain ⟨y, l, e, _⟩ := tk_first hf 1
    rw [e]
    simp
  have HAT : Hid (At Ts 0 (tkN nmS n 1 ++ [])) := by unfold Hid At; rw [List.drop_zero, hmap, List.append_nil]
  have HSP := Lib.hid (fun W => Tks.split_any s (some Ts, x) (by omega) hspl W)
  have HBI := Lib.hid (binary_any n hf)
  have HDE := Lib.hid (fun p len cap W (h : ∀ d, dpN n ≤ d + 1 → Cel.RdP W (fun k => w.heap.size < k ∧ k < W.heap.size) d n p len) => Cel.depth_any (dpN n) n p len cap W ((h (dpN n) (by omega)).rdT (fun k hk => hk.2)) hok (by omega))
  have HSH := Lib.hid hsh
  have hA0 : Hid (BlkC (w.alloc (.cells (Cel.ndA nodeZ none 0 0) Cel.tPn)) w.heap.size (Cel.ndA nodeZ none 0 0) Cel.tPn) := heap_alloc_new w _
  have hAB : Hid (Below w.heap.size w (w.alloc (.cells (Cel.ndA nodeZ none 0 0) Cel.tPn))) := by unfold Hid; (repeat' (first | (with_reducible exact Below.refl _ _) | (with_reducible assumption) | (with_reducible refine Below.alloc ?_ ?_ _) | (with_reducible refine bel_drewN ?_ _) | (with_reducible refine Below.drew ?_) | (with_reducible refine Below.setCell ?_ ?_ _) | (with_reducible refine bel_call ‹_› ?_ ?_) | go_size))
  obtain ⟨nT, hnT⟩ : ∃ n, Ts.length = n := ⟨_, rfl⟩
  have HNT := Lib.hid hnT
  have HKN : Hid ((tkN nmS n 1).length = nT) := hTl.symm.trans hnT
  rw [hnT] at hcnt hT0
  clear hs hspl hmap hsh hok hf hTl hnT
  go_enter Tryz.func37, Tryz.ntmps37
  go_upto_region 1 with fail
  have e0 : w.alloc (.cells #[.int .i64 0, .int .i64 0, .string ⟨#[]⟩, .int .i64 0, .int .i64 0, .int .i64 0, .int .i64 0, .slice none 0 0] Cel.tPn) = w.alloc (.cells (Cel.ndA nodeZ none 0 0) Cel.tPn) := rfl
  rw [e0]
  clear e0
  generalize w.alloc (.cells (Cel.ndA nodeZ none 0 0) Cel.tPn) = w0 at hA0 hAB ⊢
  go_wp2_with fail
  refine (HSP.out w0).mono ?_
  rintro e w1 ⟨hb1, p, cT, rfl, hrt⟩
  have hA1 := Lib.hid (hA0.out.below hb1)
  have hB1 : Hid (Below w.heap.size w w1) := bel_call hb1 hAB.out hAB.out.size
  obtain ⟨_, _, _, hcs⟩ := hrt
  obtain ⟨g, rfl, hg1, hgc⟩ : ∃ g, p = some ⟨g, 0, none⟩ ∧ g < w1.heap.size ∧ ∀ (j : Nat) (x : Tks.Tk), Ts[j]? = some x → w1.cell? ⟨g, j * 3, none⟩ = some (.int .i64 x.1) ∧ w1.cell? ⟨g, j * 3 + 1, none⟩ = some (.string ⟨x.2.1.toArray⟩) ∧ w1.cell? ⟨g, j * 3 + 2, none⟩ = some (.int .i64 (x.2.2 : Int)) := by
    rcases hcs with ⟨_, h, _⟩ | ⟨g, h1, h2, h3⟩
    · have := HNT.out; omega
    · exact ⟨g, h1, h2, h3⟩
  have HGC := Lib.hid hgc
  have hw1 : w.heap.size < w1.heap.size := lt_some hA1.out
  clear hb1 hA0 hAB HSP hcs hgc
  go_upto_region 7 with fail
  rw [HNT.out]
  have HPn : Hid (Psr (w1.alloc (.cells #[.slice (some ⟨g, 0, none⟩) nT cT, .int .i64 0, .int .i64 0] tPs)) w1.heap.size (some ⟨g, 0, none⟩) nT cT 0) := heap_alloc_new w1 _
  have hb2 : Below w1.heap.size w1 (w1.alloc (.cells #[.slice (some ⟨g, 0, none⟩) nT cT, .int .i64 0, .int .i64 0] tPs)) := (Below.refl _ _).alloc (Nat.le_refl _) _
  have hA2 := Lib.hid (hA1.out.below hb2)
  have hB2 : Hid (Below w.heap.size w (w1.alloc (.cells #[.slice (some ⟨g, 0, none⟩) nT cT, .int .i64 0, .int .i64 0] tPs))) := bel_call hb2 hB1.out hB1.out.size
  have HTR : Hid (TkR (w1.alloc (.cells #[.slice (some ⟨g, 0, none⟩) nT cT, .int .i64 0, .int .i64 0] tPs)) w1.heap.size (some ⟨g, 0, none⟩) Ts) := .inr ⟨g, rfl, by omega, by rw [World.size_alloc]; omega, fun j x hx => by
    obtain ⟨k1, k2, k3⟩ := HGC.out j x hx
    exact ⟨(hb2.cell (p := ⟨g, j * 3, none⟩) hg1).trans k1, (hb2.cell (p := ⟨g, j * 3 + 1, none⟩) hg1).trans k2, (hb2.cell (p := ⟨g, j * 3 + 2, none⟩) hg1).trans k3⟩⟩
  have hs2 : (w1.alloc (.cells #[.slice (some ⟨g, 0, none⟩) nT cT, .int .i64 0, .int .i64 0] tPs)).heap.size = w1.heap.size + 1 := World.size_alloc _ _
  clear hb2 hA1 hB1 HGC
  generalize w1.alloc (.cells #[.slice (some ⟨g, 0, none⟩) nT cT, .int .i64 0, .int .i64 0] tPs) = w2 at HPn hA2 hB2 HTR hs2 ⊢
  generalize w1.heap.size = b at HPn HTR hs2 hw1 hg1 ⊢
  have HSW : Hid (PSt w w2 b (some ⟨g, 0, none⟩) Ts cT 0) := ⟨by rw [HNT.out]; exact HPn.out, HTR.out, by have := HNT.out; omega, HSH.out, hB2.out, by omega⟩
  have HBJ := Lib.hid (HBI.out w w2 b (some ⟨g, 0, none⟩) cT 0 Ts [] HSW.out HAT.out trivial)
  rw [HNT.out] at HBJ
  clear HBI HAT HTR HPn
  go_wp2_with fail
  refine HBJ.out.mono ?_
  rintro e w4 ⟨⟨p, cap, rfl, hk⟩, hp4, ho4⟩
  rename_i KK aK
  go_simp
  refine aK _ _ ?_
  clear aK
  obtain ⟨l, hl⟩ : ∃ l, n.args.length = l := ⟨_, rfl⟩
  rw [hl] at hk ⊢
  have hA4 := Lib.hid (ho4.bc (by omega) hA2.out)
  have HP4 := Lib.hid hp4
  have HO4 : Hid (Off b w w4) := (Off.of_below hB2.out).trans ho4
  have hB4 : Hid (Below w.heap.size w w4) := hB2.out.trans (ho4.below (by omega) (by omega))
  have HK4 := Lib.hid hk
  have hs4 := ho4.size
  have HL4 := Lib.hid hl
  clear hp4 ho4 hk hA2 hB2 HBJ HSW hl
  rw [show Value.agg (Cel.ndA n p l cap) = .agg #[.int .i64 n.kind, .int .i64 n.num, .string ⟨n.text.toArray⟩, .int .i64 (cC n.frm), .int .i64 (cR n.frm), .int .i64 (cC n.tor), .int .i64 (cR n.tor), .slice p l cap] from rfl]
  iterate 3 (first | go_values | go_step)
  have e2 : w4.alloc (.cells #[.int .i64 0, .int .i64 0, .string ⟨#[]⟩, .int .i64 0, .int .i64 0, .int .i64 0, .int .i64 0, .slice none 0 0] Cel.tPn) = w4.alloc (.cells (Cel.ndA nodeZ none 0 0) Cel.tPn) := rfl
  rw [e2]
  clear e2
  have HG5 : Hid (BlkC (w4.alloc (.cells (Cel.ndA nodeZ none 0 0) Cel.tPn)) w4.heap.size (Cel.ndA nodeZ none 0 0) Cel.tPn) := heap_alloc_new w4 _
  have hAB2 : Below w4.heap.size w4 (w4.alloc (.cells (Cel.ndA nodeZ none 0 0) Cel.tPn)) := by (repeat' (first | (with_reducible exact Below.refl _ _) | (with_reducible assumption) | (with_reducible refine Below.alloc ?_ ?_ _) | (with_reducible refine bel_drewN ?_ _) | (with_reducible refine Below.drew ?_) | (with_reducible refine Below.setCell ?_ ?_ _) | (with_reducible refine bel_call ‹_› ?_ ?_) | go_size))
  have hA5 := Lib.hid (hA4.out.below hAB2)
  have HP5 := Lib.hid (HP4.out.below hAB2)
  have HO5 := Lib.hid (HO4.out.call hAB2)
  have HK5 : Hid (∀ d, dpN n ≤ d + 1 → Cel.RdP (w4.alloc (.cells (Cel.ndA nodeZ none 0 0) Cel.tPn)) (fun k => w2.heap.size ≤ k ∧ k < w4.heap.size) d n p l) := fun d hd => (HK4.out d hd).carry (fun k hk => ⟨hk, hAB2.block k hk.2⟩)
  have hs5 : (w4.alloc (.cells (Cel.ndA nodeZ none 0 0) Cel.tPn)).heap.size = w4.heap.size + 1 := World.size_alloc _ _
  clear hAB2 hA4 HP4 HO4 HK4
  generalize w4.alloc (.cells (Cel.ndA nodeZ none 0 0) Cel.tPn) = w5 at HG5 hA5 HP5 HO5 HK5 hs5 ⊢
  generalize w4.heap.size = G2 at HG5 HK5 hs4 hs5 ⊢
  refine wpList_store_mid (by rfl) _ _ _ (by rfl) G2 0 #[.int .i64 n.kind, .int .i64 n.num, .string ⟨n.text.toArray⟩, .int .i64 (cC n.frm), .int .i64 (cR n.frm), .int .i64 (cC n.tor), .int .i64 (cR n.tor), .slice p l cap] (by rfl) (by rfl) (block_there HG5.out 8 (Nat.le_refl _)) (by kernel_rfl) (by simp [Value.oneCell']) ?_
  have e8 : w5.setCells G2 0 (#[.int .i64 n.kind, .int .i64 n.num, .string ⟨n.text.toArray⟩, .int .i64 (cC n.frm), .int .i64 (cR n.frm), .int .i64 (cC n.tor), .int .i64 (cR n.tor), .slice p l cap]).toList = w5.setCells G2 0 (Cel.ndA n p l cap).toList := rfl
  rw [e8]
  clear e8
  have HG6 : Hid (BlkC (w5.setCells G2 0 (Cel.ndA n p l cap).toList) G2 (Cel.ndA n p l cap) Cel.tPn) := store_block HG5.out _ rfl
  have HO6 : Hid (Off b w (w5.setCells G2 0 (Cel.ndA n p l cap).toList)) := HO5.out.set_cells (by omega) _ _
  have hA6 : Hid (BlkC (w5.setCells G2 0 (Cel.ndA n p l cap).toList) w.heap.size (Cel.ndA nodeZ none 0 0) Cel.tPn) := (store_other (by omega) _ _ _).trans hA5.out
  have HP6 : Hid (Psr (w5.setCells G2 0 (Cel.ndA n p l cap).toList) b (some ⟨g, 0, none⟩) nT cT (0 + (tkN nmS n 1).length)) := (store_other (by omega) _ _ _).trans HP5.out
  have hz6 := (store_below (Nat.zero_le G2) (Cel.ndA n p l cap).toList 0 w5 (Below.refl 0 w5)).size
  have HK6 : Hid (∀ d, dpN n ≤ d + 1 → Cel.RdP (w5.setCells G2 0 (Cel.ndA n p l cap).toList) (fun k => w.heap.size < k ∧ k < (w5.setCells G2 0 (Cel.ndA n p l cap).toList).heap.size ∧ k ≠ G2) d n p l) := fun d hd => (HK5.out d hd).carry (fun k hk => ⟨⟨by omega, by omega, by omega⟩, store_other (by omega) _ _ _⟩)
  have hGb2 : G2 ≠ b := by omega
  clear HG5 hA5 HP5 HO5 HK5
  generalize w5.setCells G2 0 (Cel.ndA n p l cap).toList = w6 at HG6 hA6 HP6 HO6 HK6 hz6 ⊢
  go_simp
  iterate 3 (first | go_values | go_skip | go_guarded | go_step | go_upon)
  have HP6n : Hid (Psr w6 b (some ⟨g, 0, none⟩) nT cT nT) := by
    have h := HP6.out
    rw [Nat.zero_add, HKN.out] at h
    exact h
  have HB6 : Hid (Below w.heap.size w w6) := HO6.out.below (by omega) (Nat.le_refl _)
  obtain ⟨p0, p1, p2, _⟩ := HP6n.out.cells
  have r0 := cell_regrown p0
  have r1 := cell_regrown p1
  have r2 := cell_regrown p2
  have hBR : ∀ dd os, Below w6.heap.size w6 (Go.Sort.grow (redrawn w6 dd) os) := fun dd os => below_regrown w6 dd os
  clear HP6 HO6 p0 p1 p2
  go_upto_region 8 with fail
  refine wp_region_quiet_below (by kernel_rfl) (by kernel_rfl) ?_
  repeat (go_big_quiet_step (fail))
  refine wpQuiet_nil ?_
  intro _ hw'
  obtain ⟨⟨dz, osz⟩, hw''⟩ := hw'
  subst hw''
  have hB7 := hBR dz osz
  have HP7 := Lib.hid (HP6n.out.below hB7)
  have hA7 := Lib.hid (hA6.out.below hB7)
  have HG7 := Lib.hid (HG6.out.below hB7)
  have HB7 : Hid (Below w.heap.size w (Go.Sort.grow (redrawn w6 dz) osz)) := bel_call hB7 HB6.out HB6.out.size
  have hs7 := hB7.size
  have HK7 : Hid (∀ d, dpN n ≤ d + 1 → Cel.RdP (Go.Sort.grow (redrawn w6 dz) osz) (fun k => w.heap.size < k ∧ k < (Go.Sort.grow (redrawn w6 dz) osz).heap.size) d n p l) := fun d hd => (HK6.out d hd).carry (fun k hk => ⟨⟨hk.1, by omega⟩, hB7.block k hk.2.1⟩)
  clear r0 r1 r2 hBR hB7 HP6n hA6 HG6 HB6 HK6
  generalize Go.Sort.grow (redrawn w6 dz) osz = w7 at HP7 hA7 HG7 HB7 HK7 hs7 ⊢
  obtain ⟨_, _, p2, _⟩ := HP7.out.cells
  have c0 : w7.cell? ⟨G2, 0, none⟩ = some (.int .i64 n.kind) := HG7.out.cell 0 _ rfl
  have c1 : w7.cell? ⟨G2, 1, none⟩ = some (.int .i64 n.num) := HG7.out.cell 1 _ rfl
  have c2 : w7.cell? ⟨G2, 2, none⟩ = some (.string ⟨n.text.toArray⟩) := HG7.out.cell 2 _ rfl
  have c3 : w7.cell? ⟨G2, 3, none⟩ = some (.int .i64 (cC n.frm)) := HG7.out.cell 3 _ rfl
  have c4 : w7.cell? ⟨G2, 4, none⟩ = some (.int .i64 (cR n.frm)) := HG7.out.cell 4 _ rfl
  have c5 : w7.cell? ⟨G2, 5, none⟩ = some (.int .i64 (cC n.tor)) := HG7.out.cell 5 _ rfl
  have c6 : w7.cell? ⟨G2, 6, none⟩ = some (.int .i64 (cR n.tor)) := HG7.out.cell 6 _ rfl
  have c7 : w7.cell? ⟨G2, 7, none⟩ = some (.slice p l cap) := HG7.out.cell 7 _ rfl
  have HDD := Lib.hid (HDE.out p l cap w7 HK7.out)
  rw [Cel.ndA_eq] at HDD
  have h64 : ¬ (64 : Int) < (dpN n : Int) := by omega
  generalize dpN n = dp at HDD h64
  clear HDE
  go_wp2_with fail
  refine HDD.out.mono ?_
  rintro e w8 ⟨rfl, hb8⟩
  have hA8 := Lib.hid (hA7.out.below hb8)
  have HG8 := Lib.hid (HG7.out.below hb8)
  have HB8 : Hid (Below w.heap.size w w8) := bel_call hb8 HB7.out HB7.out.size
  have hs8 := hb8.size
  have HK8 : Hid (∀ d, dpN n ≤ d + 1 → Cel.RdP w8 (fun k => w.heap.size < k ∧ k < w8.heap.size) d n p l) := fun d hd => (HK7.out d hd).carry (fun k hk => ⟨⟨hk.1, by omega⟩, hb8.block k hk.2⟩)
  clear hb8 HDD hA7 HG7 HB7 HK7 HP7 p2 c0 c1 c2 c3 c4 c5 c6 c7
  go_upto_region 14 with fail
  refine wp_region_lit ?_
  refine wpList_load_mid (by rfl) _ _ (by rfl) G2 0 (by rfl) [.int .i64 n.kind, .int .i64 n.num, .string ⟨n.text.toArray⟩, .int .i64 (cC n.frm), .int .i64 (cR n.frm), .int .i64 (cC n.tor), .int .i64 (cR n.tor), .slice p l cap] _ (block_range HG8.out [.int .i64 n.kind, .int .i64 n.num, .string ⟨n.text.toArray⟩, .int .i64 (cC n.frm), .int .i64 (cR n.frm), .int .i64 (cC n.tor), .int .i64 (cR n.tor), .slice p l cap] rfl) Tryz.underlying44 rfl (by kernel_rfl) ?_
  go_simp
  refine wpList_store_mid (by rfl) _ _ _ (by rfl) w.heap.size 0 #[.int .i64 n.kind, .int .i64 n.num, .string ⟨n.text.toArray⟩, .int .i64 (cC n.frm), .int .i64 (cR n.frm), .int .i64 (cC n.tor), .int .i64 (cR n.tor), .slice p l cap] (by rfl) (by rfl) (block_there hA8.out 8 (Nat.le_refl _)) (by kernel_rfl) (by simp [Value.oneCell']) ?_
  have e8 : w8.setCells w.heap.size 0 (#[.int .i64 n.kind, .int .i64 n.num, .string ⟨n.text.toArray⟩, .int .i64 (cC n.frm), .int .i64 (cR n.frm), .int .i64 (cC n.tor), .int .i64 (cR n.tor), .slice p l cap]).toList = w8.setCells w.heap.size 0 (Cel.ndA n p l cap).toList := rfl
  rw [e8]
  clear e8
  have HS9 : Hid (BlkC (w8.setCells w.heap.size 0 (Cel.ndA n p l cap).toList) w.heap.size (Cel.ndA n p l cap) Cel.tPn) := store_block hA8.out _ rfl
  have HB9 : Hid (Below w.heap.size w (w8.setCells w.heap.size 0 (Cel.ndA n p l cap).toList)) := store_below (Nat.le_refl _) _ _ _ HB8.out
  have hz9 := (store_below (Nat.zero_le w.heap.size) (Cel.ndA n p l cap).toList 0 w8 (Below.refl 0 w8)).size
  have HK9 : Hid (∀ d, dpN n ≤ d + 1 → Cel.RdP (w8.setCells w.heap.size 0 (Cel.ndA n p l cap).toList) (fun k => w.heap.size ≤ k ∧ k < (w8.setCells w.heap.size 0 (Cel.ndA n p l cap).toList).heap.size) d n p l) := fun d hd => (HK8.out d hd).carry (fun k hk => ⟨⟨by omega, by omega⟩, store_other (by omega) _ _ _⟩)
  clear HB8 HK8 HG8 hA8
  generalize w8.setCells w.heap.size 0 (Cel.ndA n p l cap).toList = w9 at HS9 HB9 HK9 hz9 ⊢
  go_simp
  go_wp2_with fail
  try simp only [Exit.inBlock, Exit.then]
  refine bodyPost_ret (results_row_tmp rfl _ _ w.heap.size Cel.tPn (Cel.ndA n p l cap) (0, 0) _ rfl HS9.out Tryz.underlying44 rfl (by kernel_rfl) _ rfl) rfl ⟨⟨p, cap, by rw [HL4.out]; rfl, ?_⟩, HB9.out⟩
  rw [HL4.out]
  exact HK9.out
end Go.Proofs.YtbdgdhjhgcpidaaGreatDoor
