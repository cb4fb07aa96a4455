/- Which trees 'placed' and 'plain' make: plain part. The parser: 'unary', and 'binary' behind the last level. Printed by gen_par.py. The parser: 'binary': parts with signs of a level between. Printed by gen_par.py. The parser: 'primary' at numbers, texts, faults. Printed by gen_par.py. -/
import Derived.Test.YtbdgdhjhgcpidaaGreatDoorSfL
import Derived.Test.YtbdgdhjhgcpidaaGreatDoorSfQ
import Derived.Test.YtbdgdhjhgcpidaaGreatDoorSfJ
import Derived.Deep.CutBlock
import Derived.Test.YtbdgdhjhgcpidaaGreatDoorSfS
import Derived.Test.YtbdgdhjhgcpidaaGreatDoorSfR
set_option linter.unusedSimpArgs false
set_option linter.unusedVariables false
namespace Go.Proofs.YtbdgdhjhgcpidaaGreatDoor
open Go.RowKit Go.Joins
theorem dpL_memO : ∀ {a : List Nd} {c : Nd} {m : Nat}, c ∈ a → dpN c ≤ dpL a m
  | [], _, _, h => by cases h
  | x :: r, c, m, h => by
    rw [dpL]
    rcases List.mem_cons.1 h with rfl | h
    · exact Nat.le_trans (Nat.le_max_right _ _) (dpL_ge r _)
    · exact dpL_memO h
theorem dpN_memO {ar : List Nd} {c : Nd} (h : c ∈ ar) {k : Int} {t : Bs} : dpN c + 1 ≤ dpN (.mk k 0 t 0 0 ar) := by
  have := dpL_memO (m := 0) h
  rw [dpN]
  omega
end Go.Proofs.YtbdgdhjhgcpidaaGreatDoor
namespace Go.Proofs.YtbdgdhjhgcpidaaGreatDoor
open Go.RowKit Go.Joins
theorem hd5 (a : Nd) : tkN nmS (.mk 5 0 [] 0 0 [a]) 5 = (4, [45]) :: tkN nmS a 5 := by
  rw [tkN_split, if_neg (by show ¬ (5 : Int) < 5; omega), tk_neg']
set_option maxRecDepth 100000 in
set_option maxHeartbeats 8000000 in
theorem un_neg (a : Nd) (IH : UnC a) : UnC (.mk 5 0 [] 0 0 [a]) := by
  intro ws w b q cT i Ts rest hst hat hrs
  rw [hd5] at hat ⊢
  have hat' : At Ts i ((4, [45]) :: (tkN nmS a 5 ++ rest)) := hat
  obtain ⟨y, hy1, hy2, hat1⟩ := hat'.get
  have hib : isB Ts i [45] = true := by rw [isB_head hat']; rfl
  have hA0 : Hid (BlkC (w.alloc (.cells (Cel.ndA nodeZ none 0 0) Cel.tPn)) w.heap.size (Cel.ndA nodeZ none 0 0) Cel.tPn) := heap_alloc_new w _
  have hAB : Below w.heap.size w (w.alloc (.cells (Cel.ndA nodeZ none 0 0) Cel.tPn)) := by (repeat' (first | (with_reducible exact Below.refl _ _) | (with_reducible assumption) | (with_reducible refine Below.alloc ?_ ?_ _) | (with_reducible refine bel_drewN ?_ _) | (with_reducible refine Below.drew ?_) | (with_reducible refine Below.setCell ?_ ?_ _) | (with_reducible refine bel_call ‹_› ?_ ?_) | go_size))
  have HS0 := Lib.hid (hst.below hAB)
  have HO0 := Lib.hid (Off.of_below (b := b) hAB)
  have hbw := hst.lt
  have HIS := Lib.hid (fun W (h : PSt ws W b q Ts cT i) => is_any b q cT i Ts [45] W h.psr h.tks h.len)
  have HUN := Lib.hid (fun W (h : PSt ws W b q Ts cT (i + 1)) => IH ws W b q cT (i + 1) Ts rest h hat1 hrs)
  rw [hib] at HIS
  have HK := Lib.hid (show i + 1 + (tkN nmS a 5).length = i + ((4, [45]) :: tkN nmS a 5).length from by rw [List.length_cons]; omega)
  generalize ((4, [45]) :: tkN nmS a 5).length = kk at HK ⊢
  generalize (tkN nmS a 5).length = k at HK HUN
  obtain ⟨nT, hnT⟩ : ∃ n, Ts.length = n := ⟨_, rfl⟩
  have HNT := Lib.hid hnT
  rw [hnT] at HUN HIS ⊢
  clear hnT
  clear hat hat' hy1 hy2 hat1 hib hrs IH
  clear hst hAB
  go_enter Tryz.func78, Tryz.ntmps78
  go_upto_region 1 with fail
  have e0 : w.alloc (.cells #[.int .i64 0, .int .i64 0, .string ⟨#[]⟩, .int .i64 0, .int .i64 0, .int .i64 0, .int .i64 0, .slice none 0 0] Cel.tPn) = w.alloc (.cells (Cel.ndA nodeZ none 0 0) Cel.tPn) := rfl
  rw [e0]
  clear e0
  generalize w.alloc (.cells (Cel.ndA nodeZ none 0 0) Cel.tPn) = w0 at hA0 HS0 HO0 ⊢
  go_wp2_with fail
  refine (HIS.out w0 HS0.out).mono ?_
  rintro e w1 ⟨rfl, hp1, ho1⟩
  rw [if_pos rfl] at hp1
  have hA1 := Lib.hid (ho1.bc (by omega) hA0.out)
  have HS1 := Lib.hid (HS0.out.off ho1 (by rw [HNT.out]; exact hp1))
  have HO1 := Lib.hid (HO0.out.trans ho1)
  clear hp1 ho1 hA0 HS0 HO0 HIS
  go_wp2_with fail
  refine (HUN.out w1 HS1.out).mono ?_
  rintro e w2 ⟨⟨p, cap, rfl, hk⟩, hp2, ho2⟩
  rename_i KK aK
  go_simp
  refine aK _ _ ?_
  clear aK
  obtain ⟨l, hl⟩ : ∃ l, a.args.length = l := ⟨_, rfl⟩
  rw [hl] at hk ⊢
  have HP2 : Hid (Psr w2 b q nT cT (i + kk)) := by unfold Hid; rw [← HK.out]; exact hp2
  have HA2 := Lib.hid (ho2.bc (by omega) hA1.out)
  have HO2 := Lib.hid (HO1.out.trans ho2)
  have HKD := Lib.hid hk
  have hs1 := HO1.out.size
  have hs2 := ho2.size
  have hs0 : w.heap.size < w1.heap.size := lt_some hA1.out
  clear hp2 ho2 hk hA1 HS1 HO1 HUN
  rw [show Value.agg (Cel.ndA a p l cap) = .agg #[.int .i64 a.kind, .int .i64 a.num, .string ⟨a.text.toArray⟩, .int .i64 (cC a.frm), .int .i64 (cR a.frm), .int .i64 (cC a.tor), .int .i64 (cR a.tor), .slice p l cap] from rfl]
  iterate 3 (first | go_values | go_step)
  have e2 : w2.alloc (.cells #[.int .i64 a.kind, .int .i64 a.num, .string ⟨a.text.toArray⟩, .int .i64 (cC a.frm), .int .i64 (cR a.frm), .int .i64 (cC a.tor), .int .i64 (cR a.tor), .slice p l cap] Cel.tPn) = w2.alloc (.cells (Cel.ndA a p l cap) Cel.tPn) := rfl
  rw [e2]
  clear e2
  have HG3 : Hid (BlkC (w2.alloc (.cells (Cel.ndA a p l cap) Cel.tPn)) w2.heap.size (Cel.ndA a p l cap) Cel.tPn) := heap_alloc_new w2 _
  have hAB3 : Below w2.heap.size w2 (w2.alloc (.cells (Cel.ndA a p l cap) Cel.tPn)) := by (repeat' (first | (with_reducible exact Below.refl _ _) | (with_reducible assumption) | (with_reducible refine Below.alloc ?_ ?_ _) | (with_reducible refine bel_drewN ?_ _) | (with_reducible refine Below.drew ?_) | (with_reducible refine Below.setCell ?_ ?_ _) | (with_reducible refine bel_call ‹_› ?_ ?_) | go_size))
  have HA3 := Lib.hid (HA2.out.below hAB3)
  have HP3 := Lib.hid (HP2.out.below hAB3)
  have HO3 := Lib.hid (HO2.out.call hAB3)
  have hs3 : (w2.alloc (.cells (Cel.ndA a p l cap) Cel.tPn)).heap.size = w2.heap.size + 1 := World.size_alloc _ _
  have HK3 : Hid (∀ d, dpN a ≤ d + 1 → Cel.RdP (w2.alloc (.cells (Cel.ndA a p l cap) Cel.tPn)) (fun k => w1.heap.size ≤ k ∧ k < w2.heap.size) d a p l) := fun d hd => (HKD.out d hd).carry (fun k hk => ⟨hk, hAB3.block k hk.2⟩)
  clear hAB3 HA2 HP2 HO2 HKD
  generalize w2.alloc (.cells (Cel.ndA a p l cap) Cel.tPn) = w3 at HG3 HA3 HP3 HO3 HK3 hs3 ⊢
  generalize w2.heap.size = g at HG3 HK3 hs2 hs3 ⊢
  refine wpList_plain rfl fun K hK => ?_
  go_simp
  refine hK _ _ ?_
  clear hK K
  refine wpList_store_mid (by rfl) _ _ _ (by rfl) w.heap.size 0 #[.int .i64 5, .int .i64 0, .string ⟨#[]⟩, .int .i64 0, .int .i64 0, .int .i64 0, .int .i64 0, .slice (some ⟨g, 0, none⟩) 1 1] (by rfl) (by rfl) (block_there HA3.out 8 (Nat.le_refl _)) (by kernel_rfl) (by simp [Value.oneCell']) ?_
  obtain ⟨hs8, hf8⟩ := res_store (n := .mk 5 0 [] 0 0 [a]) (p := some ⟨g, 0, none⟩) (l := 1) (cp := 1) HA3.out rfl HP3.out HO3.out hbw rfl (by
    refine fun d hd => (rdp_one (N := w.heap.size + 1) (c := a) rfl HG3.out (by omega) (by omega) (dpN_one 5 [] a) (fun d hd => (HK3.out d hd).carry (fun k hk => ⟨⟨by omega, by omega⟩, rfl⟩)) d hd).carry (fun k hk => ⟨⟨by omega, by omega⟩, rfl⟩))
  have HS8 := Lib.hid hs8
  have HF8 := Lib.hid hf8
  clear hs8 hf8
  have e8 : w3.setCells w.heap.size 0 (#[.int .i64 5, .int .i64 0, .string ⟨#[]⟩, .int .i64 0, .int .i64 0, .int .i64 0, .int .i64 0, .slice (some ⟨g, 0, none⟩) 1 1]).toList = w3.setCells w.heap.size 0 (Cel.ndA (.mk 5 0 [] 0 0 [a]) (some ⟨g, 0, none⟩) 1 1).toList := rfl
  rw [e8]
  clear e8
  generalize w3.setCells w.heap.size 0 (Cel.ndA (.mk 5 0 [] 0 0 [a]) (some ⟨g, 0, none⟩) 1 1).toList = w9 at HS8 HF8 ⊢
  go_simp
  iterate 3 (first | go_values | go_skip | go_guarded | go_step | go_upon)
  apply wp_ret
  try simp only [Exit.inBlock, Exit.then]
  exact bodyPost_ret (results_cell_row rfl _ _ w.heap.size Cel.tPn (Cel.ndA (.mk 5 0 [] 0 0 [a]) (some ⟨g, 0, none⟩) 1 1) (0, 0) _ rfl HS8.out Tryz.underlying44 rfl (by kernel_rfl)) rfl HF8.out
set_option maxRecDepth 100000 in
set_option maxHeartbeats 8000000 in
theorem un_prim (n : Nd) (hf : Fm n) (hk5 : n.kind ≠ 5) (IH : PrC n) : UnC n := by
  intro ws w b q cT i Ts rest hst hat hrs
  have hA0 : Hid (BlkC (w.alloc (.cells (Cel.ndA nodeZ none 0 0) Cel.tPn)) w.heap.size (Cel.ndA nodeZ none 0 0) Cel.tPn) := heap_alloc_new w _
  have hAB : Below w.heap.size w (w.alloc (.cells (Cel.ndA nodeZ none 0 0) Cel.tPn)) := by (repeat' (first | (with_reducible exact Below.refl _ _) | (with_reducible assumption) | (with_reducible refine Below.alloc ?_ ?_ _) | (with_reducible refine bel_drewN ?_ _) | (with_reducible refine Below.drew ?_) | (with_reducible refine Below.setCell ?_ ?_ _) | (with_reducible refine bel_call ‹_› ?_ ?_) | go_size))
  have HS0 := Lib.hid (hst.below hAB)
  have HO0 := Lib.hid (Off.of_below (b := b) hAB)
  have hbw := hst.lt
  have hib := prim_head hf hk5 hat
  have HIS := Lib.hid (fun W (h : PSt ws W b q Ts cT i) => is_any b q cT i Ts [45] W h.psr h.tks h.len)
  have HUN := Lib.hid (fun W (h : PSt ws W b q Ts cT i) => IH ws W b q cT i Ts rest h hat hrs)
  rw [hib] at HIS
  generalize (tkN nmS n 5).length = k at HUN ⊢
  obtain ⟨nT, hnT⟩ : ∃ n, Ts.length = n := ⟨_, rfl⟩
  have HNT := Lib.hid hnT
  rw [hnT] at HUN HIS ⊢
  clear hnT
  clear hat hib hrs IH hf hk5
  clear hst hAB
  go_enter Tryz.func78, Tryz.ntmps78
  go_upto_region 1 with fail
  have e0 : w.alloc (.cells #[.int .i64 0, .int .i64 0, .string ⟨#[]⟩, .int .i64 0, .int .i64 0, .int .i64 0, .int .i64 0, .slice none 0 0] Cel.tPn) = w.alloc (.cells (Cel.ndA nodeZ none 0 0) Cel.tPn) := rfl
  rw [e0]
  clear e0
  generalize w.alloc (.cells (Cel.ndA nodeZ none 0 0) Cel.tPn) = w0 at hA0 HS0 HO0 ⊢
  go_wp2_with fail
  refine (HIS.out w0 HS0.out).mono ?_
  rintro e w1 ⟨rfl, hp1, ho1⟩
  rw [if_neg (by simp)] at hp1
  have hA1 := Lib.hid (ho1.bc (by omega) hA0.out)
  have HS1 := Lib.hid (HS0.out.off ho1 (by rw [HNT.out]; exact hp1))
  have HO1 := Lib.hid (HO0.out.trans ho1)
  clear hp1 ho1 hA0 HS0 HO0 HIS
  go_wp2_with fail
  refine (HUN.out w1 HS1.out).mono ?_
  rintro e w2 ⟨⟨p, cap, rfl, hk⟩, hp2, ho2⟩
  rename_i KK aK
  go_simp
  refine aK _ _ ?_
  clear aK
  obtain ⟨l, hl⟩ : ∃ l, n.args.length = l := ⟨_, rfl⟩
  rw [hl] at hk ⊢
  have HP2 := Lib.hid hp2
  have HA2 := Lib.hid (ho2.bc (by omega) hA1.out)
  have HO2 := Lib.hid (HO1.out.trans ho2)
  have HKD := Lib.hid hk
  have HL := Lib.hid hl
  have hs2 := ho2.size
  have hs0 : w.heap.size < w1.heap.size := lt_some hA1.out
  clear hp2 ho2 hk hl HS1 hA1 HO1 HUN
  rw [show Value.agg (Cel.ndA n p l cap) = .agg #[.int .i64 n.kind, .int .i64 n.num, .string ⟨n.text.toArray⟩, .int .i64 (cC n.frm), .int .i64 (cR n.frm), .int .i64 (cC n.tor), .int .i64 (cR n.tor), .slice p l cap] from rfl]
  refine wpList_store_mid (by rfl) _ _ _ (by rfl) w.heap.size 0 #[.int .i64 n.kind, .int .i64 n.num, .string ⟨n.text.toArray⟩, .int .i64 (cC n.frm), .int .i64 (cR n.frm), .int .i64 (cC n.tor), .int .i64 (cR n.tor), .slice p l cap] (by rfl) (by rfl) (block_there HA2.out 8 (Nat.le_refl _)) (by kernel_rfl) (by simp [Value.oneCell']) ?_
  obtain ⟨hs8, hf8⟩ := res_store (n := n) (p := p) (l := l) (cp := cap) HA2.out rfl HP2.out HO2.out hbw HL.out (fun d hd => (HKD.out d hd).carry (fun k hk => ⟨⟨by omega, by omega⟩, rfl⟩))
  have HS8 := Lib.hid hs8
  have HF8 := Lib.hid hf8
  clear hs8 hf8
  have e8 : w2.setCells w.heap.size 0 (#[.int .i64 n.kind, .int .i64 n.num, .string ⟨n.text.toArray⟩, .int .i64 (cC n.frm), .int .i64 (cR n.frm), .int .i64 (cC n.tor), .int .i64 (cR n.tor), .slice p l cap]).toList = w2.setCells w.heap.size 0 (Cel.ndA n p l cap).toList := rfl
  rw [e8]
  clear e8
  generalize w2.setCells w.heap.size 0 (Cel.ndA n p l cap).toList = w9 at HS8 HF8 ⊢
  go_simp
  iterate 3 (first | go_values | go_skip | go_guarded | go_step | go_upon)
  apply wp_ret
  try simp only [Exit.inBlock, Exit.then]
  exact bodyPost_ret (results_cell_row rfl _ _ w.heap.size Cel.tPn (Cel.ndA n p l cap) (0, 0) _ rfl HS8.out Tryz.underlying44 rfl (by kernel_rfl)) rfl HF8.out
set_option maxRecDepth 100000 in
set_option maxHeartbeats 8000000 in
theorem bin_5 (n : Nd) (IH : UnC n) : BinC n 5 := by
  intro ws w b q cT i Ts rest hst hat hrs
  have hA0 : Hid (BlkC (w.alloc (.cells (Cel.ndA nodeZ none 0 0) Cel.tPn)) w.heap.size (Cel.ndA nodeZ none 0 0) Cel.tPn) := heap_alloc_new w _
  have hAB : Below w.heap.size w (w.alloc (.cells (Cel.ndA nodeZ none 0 0) Cel.tPn)) := by (repeat' (first | (with_reducible exact Below.refl _ _) | (with_reducible assumption) | (with_reducible refine Below.alloc ?_ ?_ _) | (with_reducible refine bel_drewN ?_ _) | (with_reducible refine Below.drew ?_) | (with_reducible refine Below.setCell ?_ ?_ _) | (with_reducible refine bel_call ‹_› ?_ ?_) | go_size))
  have HS0 := Lib.hid (hst.below hAB)
  have HO0 := Lib.hid (Off.of_below (b := b) hAB)
  have hbw := hst.lt
  have HUN := Lib.hid (fun W (h : PSt ws W b q Ts cT i) => IH ws W b q cT i Ts rest h hat hrs)
  generalize (tkN nmS n 5).length = k at HUN ⊢
  obtain ⟨nT, hnT⟩ : ∃ n, Ts.length = n := ⟨_, rfl⟩
  have HNT := Lib.hid hnT
  rw [hnT] at HUN ⊢
  clear hnT
  clear hat hrs IH
  clear hst hAB
  go_enter Tryz.func60, Tryz.ntmps60
  go_upto_region 1 with fail
  have e0 : w.alloc (.cells #[.int .i64 0, .int .i64 0, .string ⟨#[]⟩, .int .i64 0, .int .i64 0, .int .i64 0, .int .i64 0, .slice none 0 0] Cel.tPn) = w.alloc (.cells (Cel.ndA nodeZ none 0 0) Cel.tPn) := rfl
  rw [e0]
  clear e0
  generalize w.alloc (.cells (Cel.ndA nodeZ none 0 0) Cel.tPn) = w0 at hA0 HS0 HO0 ⊢
  go_wp2_with fail
  refine (HUN.out w0 HS0.out).mono ?_
  rintro e w2 ⟨⟨p, cap, rfl, hk⟩, hp2, ho2⟩
  rename_i KK aK
  go_simp
  refine aK _ _ ?_
  clear aK
  obtain ⟨l, hl⟩ : ∃ l, n.args.length = l := ⟨_, rfl⟩
  rw [hl] at hk ⊢
  have HP2 := Lib.hid hp2
  have HA2 := Lib.hid (ho2.bc (by omega) hA0.out)
  have HO2 := Lib.hid (HO0.out.trans ho2)
  have HKD := Lib.hid hk
  have HL := Lib.hid hl
  have hs2 := ho2.size
  have hs0 : w.heap.size < w0.heap.size := lt_some hA0.out
  clear hp2 ho2 hk hl HS0 hA0 HO0 HUN
  rw [show Value.agg (Cel.ndA n p l cap) = .agg #[.int .i64 n.kind, .int .i64 n.num, .string ⟨n.text.toArray⟩, .int .i64 (cC n.frm), .int .i64 (cR n.frm), .int .i64 (cC n.tor), .int .i64 (cR n.tor), .slice p l cap] from rfl]
  refine wpList_store_mid (by rfl) _ _ _ (by rfl) w.heap.size 0 #[.int .i64 n.kind, .int .i64 n.num, .string ⟨n.text.toArray⟩, .int .i64 (cC n.frm), .int .i64 (cR n.frm), .int .i64 (cC n.tor), .int .i64 (cR n.tor), .slice p l cap] (by rfl) (by rfl) (block_there HA2.out 8 (Nat.le_refl _)) (by kernel_rfl) (by simp [Value.oneCell']) ?_
  obtain ⟨hs8, hf8⟩ := res_store (n := n) (p := p) (l := l) (cp := cap) HA2.out rfl HP2.out HO2.out hbw HL.out (fun d hd => (HKD.out d hd).carry (fun k hk => ⟨⟨by omega, by omega⟩, rfl⟩))
  have HS8 := Lib.hid hs8
  have HF8 := Lib.hid hf8
  clear hs8 hf8
  have e8 : w2.setCells w.heap.size 0 (#[.int .i64 n.kind, .int .i64 n.num, .string ⟨n.text.toArray⟩, .int .i64 (cC n.frm), .int .i64 (cR n.frm), .int .i64 (cC n.tor), .int .i64 (cR n.tor), .slice p l cap]).toList = w2.setCells w.heap.size 0 (Cel.ndA n p l cap).toList := rfl
  rw [e8]
  clear e8
  generalize w2.setCells w.heap.size 0 (Cel.ndA n p l cap).toList = w9 at HS8 HF8 ⊢
  go_simp
  iterate 3 (first | go_values | go_skip | go_guarded | go_step | go_upon)
  apply wp_ret
  try simp only [Exit.inBlock, Exit.then]
  exact bodyPost_ret (results_cell_row rfl _ _ w.heap.size Cel.tPn (Cel.ndA n p l cap) (0, 0) _ rfl HS8.out Tryz.underlying44 rfl (by kernel_rfl)) rfl HF8.out
end Go.Proofs.YtbdgdhjhgcpidaaGreatDoor
namespace Go.Proofs.YtbdgdhjhgcpidaaGreatDoor
open Go.RowKit Go.Joins
set_option maxRecDepth 100000 in
set_option maxHeartbeats 8000000 in
theorem bin_s (n : Nd) (lv : Int) (h1 : 1 ≤ lv) (h4 : lv ≤ 4) (hf : Fm n) (IH : ∀ m, Fm m → (wtN m < wtN n ∨ (m = n ∧ hdS m.kind m.text ≠ lv)) → BinC m (lv + 1)) : BinC n lv := by
  intro ws w b q cT i Ts rest hst hat hrs
  obtain ⟨x, L, hn, hx, hxl, hL, hxw, htk⟩ := spine lv h4 hf
  rw [htk] at hat ⊢
  have hIx : BinC x (lv + 1) := IH x hx (by
    rcases hxw with ⟨_, e⟩ | h
    · exact .inr ⟨e, hxl⟩
    · exact .inl h)
  have hIy : ∀ y ∈ L, BinC y.2 (lv + 1) := fun y hy => IH y.2 (hL y hy).2.2.1 (.inl (hL y hy).2.2.2)
  have hLs : ∀ y ∈ L, lvS y.1 = lv ∧ 1 ≤ lvS y.1 := fun y hy => ⟨(hL y hy).1, (hL y hy).2.1⟩
  have hat0 : At Ts i (tkN nmS x (lv + 1) ++ (tkS lv L ++ rest)) := by rw [← List.append_assoc]; exact hat
  have hatS := At.app hat0
  subst hn
  have hA0 : Hid (BlkC (w.alloc (.cells (Cel.ndA nodeZ none 0 0) Cel.tPn)) w.heap.size (Cel.ndA nodeZ none 0 0) Cel.tPn) := heap_alloc_new w _
  have hAB : Below w.heap.size w (w.alloc (.cells (Cel.ndA nodeZ none 0 0) Cel.tPn)) := by (repeat' (first | (with_reducible exact Below.refl _ _) | (with_reducible assumption) | (with_reducible refine Below.alloc ?_ ?_ _) | (with_reducible refine bel_drewN ?_ _) | (with_reducible refine Below.drew ?_) | (with_reducible refine Below.setCell ?_ ?_ _) | (with_reducible refine bel_call ‹_› ?_ ?_) | go_size))
  have HS0 := Lib.hid (hst.below hAB)
  have HO0 := Lib.hid (Off.of_below (b := b) hAB)
  have hbw := hst.lt
  have HUN := Lib.hid (fun W (h : PSt ws W b q Ts cT i) => hIx ws W b q cT i Ts _ h hat0 (rest_tkS hLs hrs))
  have HSW := Lib.hid hst
  have HLS := Lib.hid hLs
  have HIY := Lib.hid hIy
  have HRS := Lib.hid hrs
  have HSG := Lib.hid (fun W j (h : PSt ws W b q Ts cT j) => psign_any b q cT j Ts lv W h.psr h.tks h.len)
  have HK := Lib.hid (show i + (tkN nmS x (lv + 1)).length + (tkS lv L).length = i + (tkN nmS x (lv + 1) ++ tkS lv L).length from by rw [List.length_append]; omega)
  have HAT := Lib.hid hatS
  generalize (tkN nmS x (lv + 1) ++ tkS lv L).length = kk at HK ⊢
  generalize (tkN nmS x (lv + 1)).length = k at HK HUN HAT
  have hle := hst.len
  obtain ⟨nT, hnT⟩ : ∃ n, Ts.length = n := ⟨_, rfl⟩
  have HNT := Lib.hid hnT
  rw [hnT] at HUN HSG hle ⊢
  clear hnT
  clear hat hat0 hatS hrs IH hf htk hx hxl hxw hL hIx hIy hLs
  have f1 : IntKind.i64.wrap (lv + 1) = lv + 1 := IntWalk.i64_in _ (by omega)
  have g4 : ¬ lv > 4 := by omega
  clear hst hAB
  go_enter Tryz.func60, Tryz.ntmps60
  go_upto_region 1 with fail
  have e0 : w.alloc (.cells #[.int .i64 0, .int .i64 0, .string ⟨#[]⟩, .int .i64 0, .int .i64 0, .int .i64 0, .int .i64 0, .slice none 0 0] Cel.tPn) = w.alloc (.cells (Cel.ndA nodeZ none 0 0) Cel.tPn) := rfl
  rw [e0]
  clear e0
  generalize w.alloc (.cells (Cel.ndA nodeZ none 0 0) Cel.tPn) = w0 at hA0 HS0 HO0 ⊢
  go_wp2_with fail
  refine (HUN.out w0 HS0.out).mono ?_
  rintro e w1 ⟨⟨p, cap, rfl, hk⟩, hp1, ho1⟩
  rename_i KK aK
  go_simp
  refine aK _ _ ?_
  clear aK
  obtain ⟨l, hl⟩ : ∃ l, x.args.length = l := ⟨_, rfl⟩
  rw [hl] at hk ⊢
  have hA1 := Lib.hid (ho1.bc (by omega) hA0.out)
  have HP1 := Lib.hid hp1
  have HO1 := Lib.hid (HO0.out.trans ho1)
  have HK1 := Lib.hid hk
  have HL := Lib.hid hl
  have hs0 : w.heap.size < w0.heap.size := lt_some hA0.out
  have hs1 := ho1.size
  clear hp1 ho1 hA0 HS0 HO0 HUN hk hl
  rw [show Value.agg (Cel.ndA x p l cap) = .agg #[.int .i64 x.kind, .int .i64 x.num, .string ⟨x.text.toArray⟩, .int .i64 (cC x.frm), .int .i64 (cR x.frm), .int .i64 (cC x.tor), .int .i64 (cR x.tor), .slice p l cap] from rfl]
  iterate 3 (first | go_values | go_step)
  have e2 : w1.alloc (.cells #[.int .i64 0, .int .i64 0, .string ⟨#[]⟩, .int .i64 0, .int .i64 0, .int .i64 0, .int .i64 0, .slice none 0 0] Cel.tPn) = w1.alloc (.cells (Cel.ndA nodeZ none 0 0) Cel.tPn) := rfl
  rw [e2]
  clear e2
  have HG2 : Hid (BlkC (w1.alloc (.cells (Cel.ndA nodeZ none 0 0) Cel.tPn)) w1.heap.size (Cel.ndA nodeZ none 0 0) Cel.tPn) := heap_alloc_new w1 _
  have hAB2 : Below w1.heap.size w1 (w1.alloc (.cells (Cel.ndA nodeZ none 0 0) Cel.tPn)) := by (repeat' (first | (with_reducible exact Below.refl _ _) | (with_reducible assumption) | (with_reducible refine Below.alloc ?_ ?_ _) | (with_reducible refine bel_drewN ?_ _) | (with_reducible refine Below.drew ?_) | (with_reducible refine Below.setCell ?_ ?_ _) | (with_reducible refine bel_call ‹_› ?_ ?_) | go_size))
  have hA2 := Lib.hid (hA1.out.below hAB2)
  have HP2 := Lib.hid (HP1.out.below hAB2)
  have HO2 := Lib.hid (HO1.out.call hAB2)
  have HK2 : Hid (∀ d, dpN x ≤ d + 1 → Cel.RdP (w1.alloc (.cells (Cel.ndA nodeZ none 0 0) Cel.tPn)) (fun k => w0.heap.size ≤ k ∧ k < w1.heap.size) d x p l) := fun d hd => (HK1.out d hd).carry (fun k hk => ⟨hk, hAB2.block k hk.2⟩)
  have hs2 : (w1.alloc (.cells (Cel.ndA nodeZ none 0 0) Cel.tPn)).heap.size = w1.heap.size + 1 := World.size_alloc _ _
  clear hAB2 hA1 HP1 HO1 HK1
  generalize w1.alloc (.cells (Cel.ndA nodeZ none 0 0) Cel.tPn) = w2 at HG2 hA2 HP2 HO2 HK2 hs2 ⊢
  generalize w1.heap.size = G at HG2 HK2 hs1 hs2 ⊢
  refine wpList_store_mid (by rfl) _ _ _ (by rfl) G 0 #[.int .i64 x.kind, .int .i64 x.num, .string ⟨x.text.toArray⟩, .int .i64 (cC x.frm), .int .i64 (cR x.frm), .int .i64 (cC x.tor), .int .i64 (cR x.tor), .slice p l cap] (by rfl) (by rfl) (block_there HG2.out 8 (Nat.le_refl _)) (by kernel_rfl) (by simp [Value.oneCell']) ?_
  have e8 : w2.setCells G 0 (#[.int .i64 x.kind, .int .i64 x.num, .string ⟨x.text.toArray⟩, .int .i64 (cC x.frm), .int .i64 (cR x.frm), .int .i64 (cC x.tor), .int .i64 (cR x.tor), .slice p l cap]).toList = w2.setCells G 0 (Cel.ndA x p l cap).toList := rfl
  rw [e8]
  clear e8
  have HG3 : Hid (BlkC (w2.setCells G 0 (Cel.ndA x p l cap).toList) G (Cel.ndA x p l cap) Cel.tPn) := store_block HG2.out _ rfl
  have HO3 : Hid (Off b w (w2.setCells G 0 (Cel.ndA x p l cap).toList)) := HO2.out.set_cells (by omega) _ _
  have hA3 : Hid (BlkC (w2.setCells G 0 (Cel.ndA x p l cap).toList) w.heap.size (Cel.ndA nodeZ none 0 0) Cel.tPn) := (store_other (by omega) _ _ _).trans hA2.out
  have HP3 : Hid (Psr (w2.setCells G 0 (Cel.ndA x p l cap).toList) b q nT cT (i + k)) := (store_other (by omega) _ _ _).trans HP2.out
  have hz3 := (store_below (Nat.zero_le G) (Cel.ndA x p l cap).toList 0 w2 (Below.refl 0 w2)).size
  have HK3 : Hid (∀ d, dpN x ≤ d + 1 → Cel.RdP (w2.setCells G 0 (Cel.ndA x p l cap).toList) (fun k => w.heap.size < k ∧ k < (w2.setCells G 0 (Cel.ndA x p l cap).toList).heap.size ∧ k ≠ G) d x p l) := fun d hd => (HK2.out d hd).carry (fun k hk => ⟨⟨by omega, by omega, by omega⟩, store_other (by omega) _ _ _⟩)
  clear HG2 hA2 HP2 HO2 HK2
  generalize w2.setCells G 0 (Cel.ndA x p l cap).toList = w3 at HG3 hA3 HP3 HO3 HK3 hz3 ⊢
  go_simp
  iterate 3 (first | go_values | go_skip | go_guarded | go_step | go_upon)
  go_wp2_with fail
  have hHG : w.heap.size < G := by omega
  have hGz : G < w3.heap.size := by omega
  have hGb : G ≠ b := by omega
  clear hs0 hs1 hs2 hz3
  go_loopg [6] L.length (fun g v6 wr => ∃ (l1 l2 : List (Bs × Nd)) (p : Option Addr) (l cap : Nat), L = l1 ++ l2 ∧ l2.length = g ∧ BlkC wr G (Cel.ndA (foldS x l1) p l cap) Cel.tPn ∧ (foldS x l1).args.length = l ∧ BlkC wr w.heap.size (Cel.ndA nodeZ none 0 0) Cel.tPn ∧ Psr wr b q nT cT (i + k + (tkS lv l1).length) ∧ Off b w wr ∧ G < wr.heap.size ∧ ∀ d, dpN (foldS x l1) ≤ d + 1 → Cel.RdP wr (fun k => w.heap.size < k ∧ k < wr.heap.size ∧ k ≠ G) d (foldS x l1) p l)
  case atStart => exact ⟨[], L, p, l, cap, rfl, rfl, HG3.out, HL.out, hA3.out, HP3.out, HO3.out, hGz, HK3.out⟩
  case round =>
    obtain ⟨l1, l2, p, l, cap, hLe, hg, hG, hl, hA, hP, hO, hGr, hKd⟩ := hrel
    have HLE := Lib.hid hLe
    have HG := Lib.hid hG
    have HLL := Lib.hid hl
    have HA := Lib.hid hA
    have HP := Lib.hid hP
    have HO := Lib.hid hO
    have HKD := Lib.hid hKd
    have HSR : Hid (PSt ws wr b q Ts cT (i + k + (tkS lv l1).length)) := HSW.out.off hO (by rw [HNT.out]; exact hP)
    obtain ⟨_, _, pf, _⟩ := hP.cells
    have HAT1 : Hid (At Ts (i + k + (tkS lv l1).length) (tkS lv l2 ++ rest)) := by
      have h := HAT.out
      rw [hLe, tkS_app, List.append_assoc] at h
      exact At.app h
    clear hLe hG hl hA hP hO hKd HG3 hA3 HP3 HO3 HK3
    cases l2 with
    | nil =>
      have HON : Hid (sgO Ts (i + k + (tkS lv l1).length) lv = []) := (isB_rest HAT1.out HRS.out).2.2 lv (Int.le_refl _)
      have HSC := Lib.hid (HSG.out wr _ HSR.out)
      rw [HON.out] at HSC
      have HE : Hid (i + k + (tkS lv l1).length = i + kk) := by
        unfold Hid
        have h := HLE.out
        rw [List.append_nil] at h
        rw [← HK.out, h]
      go_wp2_with fail
      refine HSC.out.mono ?_
      rintro e w4 ⟨rfl, hp4, ho4⟩
      rw [if_pos rfl] at hp4
      have HP4 : Hid (Psr w4 b q nT cT (i + kk)) := by unfold Hid; rw [← HE.out]; exact hp4
      have HG4 := Lib.hid (ho4.bc hGb HG.out)
      have HA4 := Lib.hid (ho4.bc (by omega) HA.out)
      have HO4 := Lib.hid (HO.out.trans ho4)
      have HLF : Hid (foldS x L = foldS x l1) := by have h := HLE.out; rw [List.append_nil] at h; unfold Hid; rw [h]
      have hs4 := ho4.size
      have HK4 : Hid (∀ d, dpN (foldS x l1) ≤ d + 1 → Cel.RdP w4 (fun k => w.heap.size < k ∧ k < w4.heap.size) d (foldS x l1) p l) := fun d hd => (HKD.out d hd).carry (fun k hk => ⟨⟨hk.1, by omega⟩, ho4.block k hk.2.1 (by omega)⟩)
      clear hp4 ho4 HSC HON HG HA HO HP HKD HSR HLE HAT1 HAT HIY
      generalize foldS x l1 = n at *
      go_upto_region 8 with fail
      refine wp_region_lit ?_
      refine wpList_load_mid (by rfl) _ _ (by rfl) G 0 (by rfl) [.int .i64 n.kind, .int .i64 n.num, .string ⟨n.text.toArray⟩, .int .i64 (cC n.frm), .int .i64 (cR n.frm), .int .i64 (cC n.tor), .int .i64 (cR n.tor), .slice p l cap] _ (block_range HG4.out [.int .i64 n.kind, .int .i64 n.num, .string ⟨n.text.toArray⟩, .int .i64 (cC n.frm), .int .i64 (cR n.frm), .int .i64 (cC n.tor), .int .i64 (cR n.tor), .slice p l cap] rfl) Tryz.underlying44 rfl (by kernel_rfl) ?_
      go_simp
      refine wpList_store_mid (by rfl) _ _ _ (by rfl) w.heap.size 0 #[.int .i64 n.kind, .int .i64 n.num, .string ⟨n.text.toArray⟩, .int .i64 (cC n.frm), .int .i64 (cR n.frm), .int .i64 (cC n.tor), .int .i64 (cR n.tor), .slice p l cap] (by rfl) (by rfl) (block_there HA4.out 8 (Nat.le_refl _)) (by kernel_rfl) (by simp [Value.oneCell']) ?_
      obtain ⟨hs8, hf8⟩ := res_store (n := n) (p := p) (l := l) (cp := cap) HA4.out rfl HP4.out HO4.out hbw HLL.out HK4.out
      have HS8 := Lib.hid hs8
      have HF8 := Lib.hid hf8
      clear hs8 hf8
      have e8 : w4.setCells w.heap.size 0 (#[.int .i64 n.kind, .int .i64 n.num, .string ⟨n.text.toArray⟩, .int .i64 (cC n.frm), .int .i64 (cR n.frm), .int .i64 (cC n.tor), .int .i64 (cR n.tor), .slice p l cap]).toList = w4.setCells w.heap.size 0 (Cel.ndA n p l cap).toList := rfl
      rw [e8]
      clear e8
      generalize w4.setCells w.heap.size 0 (Cel.ndA n p l cap).toList = w9 at HS8 HF8 ⊢
      go_simp
      iterate 3 (first | go_values | go_skip | go_guarded | go_step | go_upon)
      apply wp_ret
      try simp only [Exit.inBlock, Exit.then]
      exact bodyPost_ret (results_cell_row rfl _ _ w.heap.size Cel.tPn (Cel.ndA n p l cap) (0, 0) _ rfl HS8.out Tryz.underlying44 rfl (by kernel_rfl)) rfl (by rw [HLF.out]; exact HF8.out)
    | cons y l2 =>
      have hyL : y ∈ L := by rw [HLE.out]; simp
      obtain ⟨hy1, hy2⟩ := HLS.out y hyL
      have HAT2 : Hid (At Ts (i + k + (tkS lv l1).length) ((4, y.1) :: (tkN nmS y.2 (lv + 1) ++ (tkS lv l2 ++ rest)))) := by
        have h := HAT1.out
        unfold Hid
        rw [tkS, List.cons_append, List.append_assoc] at h
        exact h
      have HON : Hid (sgO Ts (i + k + (tkS lv l1).length) lv = y.1) := sgO_head HAT2.out (by rw [← hy1]; exact lvS_in hy2)
      have hne : y.1 ≠ [] := sgS_ne lv _ (by rw [← hy1]; exact lvS_in hy2)
      have HSC := Lib.hid (HSG.out wr _ HSR.out)
      rw [HON.out] at HSC
      obtain ⟨_, _, _, HAT3⟩ := HAT2.out.get
      have HRO : Hid (RestOk (lv + 1) (tkS lv l2 ++ rest)) := rest_tkS (fun z hz => HLS.out z (by rw [HLE.out]; simp [hz])) HRS.out
      have HUY := Lib.hid (fun W (h : PSt ws W b q Ts cT (i + k + (tkS lv l1).length + 1)) => HIY.out y hyL ws W b q cT _ Ts _ h HAT3 HRO.out)
      rw [HNT.out] at HUY
      have HKY : Hid (i + k + (tkS lv l1).length + 1 + (tkN nmS y.2 (lv + 1)).length = i + k + (tkS lv (l1 ++ [y])).length) := by
        unfold Hid
        rw [tkS_app, List.length_append, tkS, List.length_cons, List.length_append, tkS]
        simp
        omega
      have HFN : Hid (foldS x (l1 ++ [y]) = .mk 6 0 y.1 0 0 [foldS x l1, y.2]) := foldS_snoc x l1 y.1 y.2
      have HL2 : Hid (L = (l1 ++ [y]) ++ l2) := by unfold Hid; rw [HLE.out]; simp
      have hl2 : l2.length = gk - 1 := by rw [List.length_cons] at hg; omega
      have hgk : 0 < gk := by rw [List.length_cons] at hg; omega
      obtain ⟨t, ht⟩ : ∃ t, y.1 = t := ⟨_, rfl⟩
      rw [ht] at hne HSC HFN
      have hn1 : (t == []) = false := by simpa using hne
      have hn2 : t.isEmpty = false := by cases t with | nil => exact absurd rfl hne | cons => rfl
      clear hyL hy1 hy2 HAT1 HAT2 HAT3 HON HRO HLE hg ht
      go_wp2_with fail
      refine HSC.out.mono ?_
      rintro e w4 ⟨rfl, hp4, ho4⟩
      rw [if_neg hne] at hp4
      have HP4 := Lib.hid hp4
      have HG4 := Lib.hid (ho4.bc hGb HG.out)
      have HA4 := Lib.hid (ho4.bc (by omega) HA.out)
      have HO4 := Lib.hid (HO.out.trans ho4)
      have hs4 := ho4.size
      have HK4 : Hid (∀ d, dpN (foldS x l1) ≤ d + 1 → Cel.RdP w4 (fun k => w.heap.size < k ∧ k < wr.heap.size ∧ k ≠ G) d (foldS x l1) p l) := fun d hd => (HKD.out d hd).carry (fun k hk => ⟨hk, ho4.block k hk.2.1 (by omega)⟩)
      clear hp4 ho4 HSC HG HA HO HP HKD HSR pf
      obtain ⟨n, hn⟩ : ∃ n, foldS x l1 = n := ⟨_, rfl⟩
      rw [hn] at HG4 HK4 HLL HFN
      clear hn
      have Y0 := KeptO.cell (b := b) hGb (HG4.out.cell 0 (.int .i64 n.kind) rfl)
      have Y1 := KeptO.cell (b := b) hGb (HG4.out.cell 1 (.int .i64 n.num) rfl)
      have Y2 := KeptO.cell (b := b) hGb (HG4.out.cell 2 (.string ⟨n.text.toArray⟩) rfl)
      have Y3 := KeptO.cell (b := b) hGb (HG4.out.cell 3 (.int .i64 (cC n.frm)) rfl)
      have Y4 := KeptO.cell (b := b) hGb (HG4.out.cell 4 (.int .i64 (cR n.frm)) rfl)
      have Y5 := KeptO.cell (b := b) hGb (HG4.out.cell 5 (.int .i64 (cC n.tor)) rfl)
      have Y6 := KeptO.cell (b := b) hGb (HG4.out.cell 6 (.int .i64 (cR n.tor)) rfl)
      have Y7 := KeptO.cell (b := b) hGb (HG4.out.cell 7 (.slice p l cap) rfl)
      go_upto_region 7 with fail
      refine wp_region_schedT (fun wx => ∃ x : KeptO b w4, wx = x.v) 8 [([0, 1, 2, 3, 4], 5), ([], 6)] [7] (by kernel_rfl) (by kernel_rfl) (by kernel_rfl) (by kernel_rfl) (keptO_drew _ _) ?_
      (unfold wpSegK; simp only [pick_nil, pick_cons, nthO_zero, nthO_succ, List.append])
      repeat (go_big_quiet_step (fail))
      refine wpQuiet_nil ?_
      have hBd : Below w4.heap.size w4 w4.drew := Below.drew (Below.refl _ _)
      have HUY2 := Lib.hid (HUY.out w4.drew (HSW.out.off (HO4.out.call hBd) (by rw [HNT.out]; exact HP4.out.below hBd)))
      clear HUY
      go_wp2_with fail
      refine HUY2.out.mono ?_
      rintro e w5 ⟨⟨p2, cap2, rfl, hk5⟩, hp5, ho5⟩
      obtain ⟨c, hc⟩ : ∃ c, y.2 = c := ⟨_, rfl⟩
      rw [hc] at hk5 hp5 HKY HFN ⊢
      obtain ⟨l3, hl3⟩ : ∃ l3, c.args.length = l3 := ⟨_, rfl⟩
      rw [hl3] at hk5 ⊢
      have hO5 : Off b w4 w5 := (Off.of_below hBd).trans ho5
      have HO5 := Lib.hid hO5
      have HP5 : Hid (Psr w5 b q nT cT (i + k + (tkS lv (l1 ++ [y])).length)) := by unfold Hid; rw [← HKY.out]; exact hp5
      have HK5 : Hid (∀ d, dpN c ≤ d + 1 → Cel.RdP w5 (fun k => w4.heap.size ≤ k ∧ k < w5.heap.size) d c p2 l3) := hk5
      have hs5 := hO5.size
      clear ho5 hp5 hk5 HUY2 HKY hc hl3
      rw [show Value.agg (Cel.ndA c p2 l3 cap2) = .agg #[.int .i64 c.kind, .int .i64 c.num, .string ⟨c.text.toArray⟩, .int .i64 (cC c.frm), .int .i64 (cR c.frm), .int .i64 (cC c.tor), .int .i64 (cR c.tor), .slice p2 l3 cap2] from rfl]
      go_wp2_with fail
      refine ⟨rfl, ⟨⟨w5, HO5.out⟩, rfl⟩, ?_⟩
      (unfold wpSegK; simp only [pick_nil, pick_cons, nthO_zero, nthO_succ, List.append])
      refine wpQuiet_nil ?_
      go_wp2_with fail
      have e6 : w5.alloc (.cells #[.int .i64 n.kind, .int .i64 n.num, .string ⟨n.text.toArray⟩, .int .i64 (cC n.frm), .int .i64 (cR n.frm), .int .i64 (cC n.tor), .int .i64 (cR n.tor), .slice p l cap, .int .i64 c.kind, .int .i64 c.num, .string ⟨c.text.toArray⟩, .int .i64 (cC c.frm), .int .i64 (cR c.frm), .int .i64 (cC c.tor), .int .i64 (cR c.tor), .slice p2 l3 cap2] Cel.tPn) = w5.alloc (.cells (Cel.ndC n p l cap ++ Cel.ndC c p2 l3 cap2).toArray Cel.tPn) := rfl
      rw [e6]
      clear e6
      have HG6 : Hid (BlkC (w5.alloc (.cells (Cel.ndC n p l cap ++ Cel.ndC c p2 l3 cap2).toArray Cel.tPn)) w5.heap.size (Cel.ndC n p l cap ++ Cel.ndC c p2 l3 cap2).toArray Cel.tPn) := heap_alloc_new w5 _
      have hAB6 : Below w5.heap.size w5 (w5.alloc (.cells (Cel.ndC n p l cap ++ Cel.ndC c p2 l3 cap2).toArray Cel.tPn)) := by (repeat' (first | (with_reducible exact Below.refl _ _) | (with_reducible assumption) | (with_reducible refine Below.alloc ?_ ?_ _) | (with_reducible refine bel_drewN ?_ _) | (with_reducible refine Below.drew ?_) | (with_reducible refine Below.setCell ?_ ?_ _) | (with_reducible refine bel_call ‹_› ?_ ?_) | go_size))
      have HO6 := Lib.hid (HO5.out.call hAB6)
      have HX6 := Lib.hid ((HO6.out).bc hGb HG4.out)
      have HA6 := Lib.hid ((HO6.out).bc (by omega) HA4.out)
      have HP6 := Lib.hid (HP5.out.below hAB6)
      have hs6 : (w5.alloc (.cells (Cel.ndC n p l cap ++ Cel.ndC c p2 l3 cap2).toArray Cel.tPn)).heap.size = w5.heap.size + 1 := World.size_alloc _ _
      have HKN : Hid (∀ d, dpN n ≤ d + 1 → Cel.RdP (w5.alloc (.cells (Cel.ndC n p l cap ++ Cel.ndC c p2 l3 cap2).toArray Cel.tPn)) (fun k => w.heap.size < k ∧ k < w5.heap.size ∧ k ≠ G) d n p l) := fun d hd => (HK4.out d hd).carry (fun k hk => ⟨⟨by omega, by omega, by omega⟩, HO6.out.block k (by omega) (by omega)⟩)
      have HKC : Hid (∀ d, dpN c ≤ d + 1 → Cel.RdP (w5.alloc (.cells (Cel.ndC n p l cap ++ Cel.ndC c p2 l3 cap2).toArray Cel.tPn)) (fun k => w.heap.size < k ∧ k < w5.heap.size ∧ k ≠ G) d c p2 l3) := fun d hd => (HK5.out d hd).carry (fun k hk => ⟨⟨by omega, by omega, by omega⟩, hAB6.block k (by omega)⟩)
      clear hAB6 HG4 HA4 HP5 HK4 HK5 HO5 HP4
      generalize w5.alloc (.cells (Cel.ndC n p l cap ++ Cel.ndC c p2 l3 cap2).toArray Cel.tPn) = w6 at HG6 HO6 HX6 HA6 HP6 hs6 HKN HKC ⊢
      generalize w5.heap.size = g5 at HG6 HKN HKC hs5 hs6 ⊢
      refine ⟨rfl, ⟨⟨w6, HO6.out⟩, rfl⟩, ?_⟩
      (unfold wpSegK; simp only [pick_nil, pick_cons, nthO_zero, nthO_succ, List.append])
      repeat (go_big_quiet_step (fail))
      refine wpQuiet_nil ?_
      refine wpList_store_mid (by rfl) _ _ _ (by rfl) G 0 #[.int .i64 6, .int .i64 0, .string ⟨t.toArray⟩, .int .i64 0, .int .i64 0, .int .i64 0, .int .i64 0, .slice (some ⟨g5, 0, none⟩) 2 2] (by rfl) (by rfl) (block_there HX6.out 8 (Nat.le_refl _)) (by kernel_rfl) (by simp [Value.oneCell']) ?_
      have e8 : w6.setCells G 0 (#[.int .i64 6, .int .i64 0, .string ⟨t.toArray⟩, .int .i64 0, .int .i64 0, .int .i64 0, .int .i64 0, .slice (some ⟨g5, 0, none⟩) 2 2]).toList = w6.setCells G 0 (Cel.ndA (.mk 6 0 t 0 0 [n, c]) (some ⟨g5, 0, none⟩) 2 2).toList := rfl
      rw [e8]
      clear e8
      have HO7 : Hid (Off b w (w6.setCells G 0 (Cel.ndA (.mk 6 0 t 0 0 [n, c]) (some ⟨g5, 0, none⟩) 2 2).toList)) := (HO4.out.trans HO6.out).set_cells (by omega) _ _
      have HX7 : Hid (BlkC (w6.setCells G 0 (Cel.ndA (.mk 6 0 t 0 0 [n, c]) (some ⟨g5, 0, none⟩) 2 2).toList) G (Cel.ndA (.mk 6 0 t 0 0 [n, c]) (some ⟨g5, 0, none⟩) 2 2) Cel.tPn) := store_block HX6.out _ rfl
      have HA7 : Hid (BlkC (w6.setCells G 0 (Cel.ndA (.mk 6 0 t 0 0 [n, c]) (some ⟨g5, 0, none⟩) 2 2).toList) w.heap.size (Cel.ndA nodeZ none 0 0) Cel.tPn) := (store_other (by omega) _ _ _).trans HA6.out
      have HP7 : Hid (Psr (w6.setCells G 0 (Cel.ndA (.mk 6 0 t 0 0 [n, c]) (some ⟨g5, 0, none⟩) 2 2).toList) b q nT cT (i + k + (tkS lv (l1 ++ [y])).length)) := (store_other (by omega) _ _ _).trans HP6.out
      have hz7 := (store_below (Nat.zero_le G) (Cel.ndA (.mk 6 0 t 0 0 [n, c]) (some ⟨g5, 0, none⟩) 2 2).toList 0 w6 (Below.refl 0 w6)).size
      have hG7 : G < (w6.setCells G 0 (Cel.ndA (.mk 6 0 t 0 0 [n, c]) (some ⟨g5, 0, none⟩) 2 2).toList).heap.size := by omega
      have HK7 : Hid (∀ d, dpN (.mk 6 0 t 0 0 [n, c]) ≤ d + 1 → Cel.RdP (w6.setCells G 0 (Cel.ndA (.mk 6 0 t 0 0 [n, c]) (some ⟨g5, 0, none⟩) 2 2).toList) (fun k => w.heap.size < k ∧ k < (w6.setCells G 0 (Cel.ndA (.mk 6 0 t 0 0 [n, c]) (some ⟨g5, 0, none⟩) 2 2).toList).heap.size ∧ k ≠ G) d (.mk 6 0 t 0 0 [n, c]) (some ⟨g5, 0, none⟩) 2) := fun d hd =>
        (rdp_two' (ok := fun k => w.heap.size < k ∧ k < w6.heap.size ∧ k ≠ G) (a := n) (c := c) rfl HG6.out ⟨by omega, by omega, by omega⟩ (dpN_bin t n c) (fun d hd => (HKN.out d hd).carry (fun k hk => ⟨⟨by omega, by omega, by omega⟩, rfl⟩)) (fun d hd => (HKC.out d hd).carry (fun k hk => ⟨⟨by omega, by omega, by omega⟩, rfl⟩)) d hd).carry (fun k hk => ⟨⟨by omega, by omega, by omega⟩, store_other (by omega) _ _ _⟩)
      clear HG6 HO6 HX6 HA6 HP6 HKN HKC HO4 hz7
      generalize w6.setCells G 0 (Cel.ndA (.mk 6 0 t 0 0 [n, c]) (some ⟨g5, 0, none⟩) 2 2).toList = w7 at HO7 HX7 HA7 HP7 HK7 hG7 ⊢
      rw [← HFN.out] at HX7 HK7
      have HLN : Hid ((foldS x (l1 ++ [y])).args.length = 2) := by unfold Hid; rw [HFN.out]; rfl
      go_simp
      go_wp2_with fail
      refine ⟨rfl, ?_⟩
      go_wp2_with fail
      go_roundg (gk - 1)
      case measure => omega
      case rel => exact ⟨l1 ++ [y], l2, some ⟨g5, 0, none⟩, 2, 2, HL2.out, hl2, HX7.out, HLN.out, HA7.out, HP7.out, HO7.out, hG7, HK7.out⟩
end Go.Proofs.YtbdgdhjhgcpidaaGreatDoor
namespace Go.Proofs.YtbdgdhjhgcpidaaGreatDoor
open Go.RowKit Go.Joins
set_option maxRecDepth 100000 in
set_option maxHeartbeats 8000000 in
theorem pr_num1 (u : Int) (h1 : 0 ≤ u) (h2 : u ≤ 9223372036854775807) : PrC (.mk 1 u [] 0 0 []) := by
  intro ws w b q cT i Ts rest hst hat hrs
  rw [show tkN nmS (.mk 1 u [] 0 0 []) 5 = [(1, txt u)] from by rw [tkN_split, if_neg (by show ¬ (6 : Int) < 5; omega), tk_num']] at hat ⊢
  have hat' : At Ts i ((1, txt u) :: rest) := hat
  have HDP := Lib.hid (fun W (h : W.ShapedOpen Tryz.prog) => parse_any ⟨(txt u).toArray⟩ (by rw [Lib.size_eq]; have := txt_lenT u (by omega) h2; simpa using Nat.le_trans this (by omega)) W h)
  rw [show (⟨(txt u).toArray⟩ : ByteArray).data.toList = txt u from by simp, (txt_prs u (by omega) h2).1, (txt_prs u (by omega) h2).2] at HDP
  obtain ⟨⟨kx, tx, ax⟩, hy1, hy2, hat1⟩ := hat'.get
  obtain ⟨rfl, rfl⟩ : 1 = kx ∧ txt u = tx := by
    have e : (kx, tx) = ((1 : Int), (txt u : Bs)) := hy2
    exact ⟨(congrArg Prod.fst e).symm, (congrArg Prod.snd e).symm⟩
  obtain ⟨g, rfl, hgb, _, _, _, _⟩ := hst.tks.at hy1
  have hile := hat'.le
  have hle := hst.len
  have HTK := Lib.hid (fun W (h : TkR W b (some ⟨g, 0, none⟩) Ts) => h.at hy1)
  have hA0 : Hid (BlkC (w.alloc (.cells (Cel.ndA nodeZ none 0 0) Cel.tPn)) w.heap.size (Cel.ndA nodeZ none 0 0) Cel.tPn) := heap_alloc_new w _
  have hAB : Below w.heap.size w (w.alloc (.cells (Cel.ndA nodeZ none 0 0) Cel.tPn)) := by (repeat' (first | (with_reducible exact Below.refl _ _) | (with_reducible assumption) | (with_reducible refine Below.alloc ?_ ?_ _) | (with_reducible refine bel_drewN ?_ _) | (with_reducible refine Below.drew ?_) | (with_reducible refine Below.setCell ?_ ?_ _) | (with_reducible refine bel_call ‹_› ?_ ?_) | go_size))
  have HS0 := Lib.hid (hst.below hAB)
  have HO0 := Lib.hid (Off.of_below (b := b) hAB)
  have hbw := hst.lt
  have HSW := Lib.hid hst
  have hin : (i : Int) < (Ts.length : Int) := by omega
  obtain ⟨nT, hnT⟩ : ∃ n, Ts.length = n := ⟨_, rfl⟩
  have HNT := Lib.hid hnT
  rw [hnT] at  hle hile hin ⊢
  clear hnT
  clear hst hAB
  go_enter Tryz.func105, Tryz.ntmps105
  go_upto_region 1 with fail
  have e0 : w.alloc (.cells #[.int .i64 0, .int .i64 0, .string ⟨#[]⟩, .int .i64 0, .int .i64 0, .int .i64 0, .int .i64 0, .slice none 0 0] Cel.tPn) = w.alloc (.cells (Cel.ndA nodeZ none 0 0) Cel.tPn) := rfl
  rw [e0]
  clear e0
  generalize w.alloc (.cells (Cel.ndA nodeZ none 0 0) Cel.tPn) = w0 at hA0 HS0 HO0 ⊢
  obtain ⟨p0, p1, p2, _⟩ := HS0.out.psr.cells
  rw [HNT.out] at p0
  have r0 := cell_regrown p0
  have r1 := cell_regrown p1
  have r2 := cell_regrown p2
  have hBR : ∀ dd os, Below w0.heap.size w0 (Go.Sort.grow (redrawn w0 dd) os) := fun dd os => below_regrown w0 dd os
  refine wp_region_quiet_below (by kernel_rfl) (by kernel_rfl) ?_
  repeat (go_big_quiet_step (fail))
  refine wpQuiet_nil ?_
  intro _ hw'
  obtain ⟨⟨dz, osz⟩, hw''⟩ := hw'
  subst hw''
  have hB1 := hBR dz osz
  have HS1 := Lib.hid (HS0.out.below hB1)
  have hA1 := Lib.hid (hA0.out.below hB1)
  have HO1 := Lib.hid (HO0.out.call hB1)
  clear r0 r1 r2 hBR hB1 p0 p1 p2 HS0 hA0 HO0
  generalize Go.Sort.grow (redrawn w0 dz) osz = w1 at HS1 hA1 HO1 ⊢
  obtain ⟨p0, p1, p2, pf⟩ := HS1.out.psr.cells
  rw [HNT.out] at p0
  obtain ⟨g', hg', _, hgl, k0, k1, k2⟩ := HTK.out w1 HS1.out.tks
  cases hg'
  have hbl := HS1.out.lt
  simp only at k0 k1 k2
  go_upto_region 3 with fail
  go_cut [3] (fun v3 wx => v3 = .pointer (some ⟨w1.heap.size, 0, none⟩) ∧ wx = (w1.alloc (.cells #[.int .i64 1, .string ⟨(txt u).toArray⟩, .int .i64 (ax : Int)] 137)).drew)
  case first =>
    go_region_with (fail)
    all_goals go_wp2_with fail
    all_goals go_meet
    all_goals exact ⟨rfl, rfl⟩
  case rest =>
    obtain ⟨hv, hw⟩ := hcut
    subst hv
    subst hw
    have HT2 : Hid (BlkC (w1.alloc (.cells #[.int .i64 1, .string ⟨(txt u).toArray⟩, .int .i64 (ax : Int)] 137)).drew w1.heap.size #[.int .i64 1, .string ⟨(txt u).toArray⟩, .int .i64 (ax : Int)] 137) := heap_alloc_new w1 _
    have hB2 : Below w1.heap.size w1 (w1.alloc (.cells #[.int .i64 1, .string ⟨(txt u).toArray⟩, .int .i64 (ax : Int)] 137)).drew := Below.drew ((Below.refl _ _).alloc (Nat.le_refl _) _)
    have HP2 := Lib.hid (HS1.out.psr.below hB2)
    have hA2 := Lib.hid (hA1.out.below hB2)
    have HO2 := Lib.hid (HO1.out.call hB2)
    have hG : w.heap.size < w1.heap.size := lt_some hA1.out
    have hGb : w1.heap.size ≠ b := by omega
    rw [HNT.out] at HP2
    clear hB2 HS1 hA1 HO1 p0 p1 p2 pf k0 k1 k2 hgl hbl HTK
    generalize (w1.alloc (.cells #[.int .i64 1, .string ⟨(txt u).toArray⟩, .int .i64 (ax : Int)] 137)).drew = w2 at HT2 HP2 hA2 HO2 ⊢
    generalize w1.heap.size = G at HT2 hG hGb ⊢
    obtain ⟨_, p1, _, pf⟩ := HP2.out.cells
    have f1 : IntKind.i64.wrap ((i : Int) + 1) = (i : Int) + 1 := IntWalk.i64_in _ (by omega)
    go_upto_region 5 with fail
    have HP3 : Hid (Psr (w2.setCell ⟨b, 1, none⟩ (.int .i64 ((i : Int) + 1))) b (some ⟨g, 0, none⟩) nT cT (i + 1)) := HP2.out.setz ((i : Int) + 1) (i + 1) (by omega)
    have HO3 := Lib.hid (HO2.out.set 1 (.int .i64 ((i : Int) + 1)))
    have HT3 : Hid (BlkC (w2.setCell ⟨b, 1, none⟩ (.int .i64 ((i : Int) + 1))) G #[.int .i64 1, .string ⟨(txt u).toArray⟩, .int .i64 (ax : Int)] 137) := (heap_setCell_other _ _ _ _ hGb).trans HT2.out
    have hA3 : Hid (BlkC (w2.setCell ⟨b, 1, none⟩ (.int .i64 ((i : Int) + 1))) w.heap.size (Cel.ndA nodeZ none 0 0) Cel.tPn) := (heap_setCell_other _ _ _ _ (show w.heap.size ≠ b by omega)).trans hA2.out
    clear HP2 HO2 HT2 hA2 p1 pf f1
    generalize w2.setCell ⟨b, 1, none⟩ (.int .i64 ((i : Int) + 1)) = w3 at HP3 HO3 HT3 hA3 ⊢
    have HS3 := Lib.hid (HSW.out.off HO3.out (by rw [HNT.out]; exact HP3.out))
    have c0 : w3.cell? ⟨G, 0, none⟩ = some (.int .i64 1) := HT3.out.cell 0 _ rfl
    have c1 : w3.cell? ⟨G, 1, none⟩ = some (.string ⟨(txt u).toArray⟩) := HT3.out.cell 1 _ rfl
    go_wp2_with fail
    refine (HDP.out w3 HS3.out.shaped).mono ?_
    rintro e w4 ⟨rfl, hb4⟩
    have HP4 := Lib.hid (HP3.out.below hb4)
    have hA4 := Lib.hid (hA3.out.below hb4)
    have HO4 := Lib.hid (HO3.out.call hb4)
    clear hb4 HP3 hA3 HO3 HT3 HS3 c0 c1
    go_upto_region 10 with fail
    refine wp_region_lit ?_
    refine wpList_plain rfl fun K hK => ?_
    go_simp
    refine hK _ _ ?_
    clear hK K
    refine wpList_plain rfl fun K hK => ?_
    go_simp
    refine hK _ _ ?_
    clear hK K
    refine wpList_store_mid (by rfl) _ _ _ (by rfl) w.heap.size 0 #[.int .i64 1, .int .i64 u, .string ⟨#[]⟩, .int .i64 0, .int .i64 0, .int .i64 0, .int .i64 0, .slice none 0 0] (by rfl) (by rfl) (block_there hA4.out 8 (Nat.le_refl _)) (by kernel_rfl) (by simp [Value.oneCell']) ?_
    obtain ⟨hs8, hf8⟩ := res_store (n := (.mk 1 u [] 0 0 [])) (p := none) (l := 0) (cp := 0) hA4.out rfl HP4.out HO4.out hbw rfl (fun d _ => rdp_leaf _ _ rfl _ d)
    have HS8 := Lib.hid hs8
    have HF8 := Lib.hid hf8
    clear hs8 hf8
    have e8 : w4.setCells w.heap.size 0 (#[.int .i64 1, .int .i64 u, .string ⟨#[]⟩, .int .i64 0, .int .i64 0, .int .i64 0, .int .i64 0, .slice none 0 0]).toList = w4.setCells w.heap.size 0 (Cel.ndA (.mk 1 u [] 0 0 []) none 0 0).toList := rfl
    rw [e8]
    clear e8
    generalize w4.setCells w.heap.size 0 (Cel.ndA (.mk 1 u [] 0 0 []) none 0 0).toList = w9 at HS8 HF8 ⊢
    go_simp
    iterate 3 (first | go_values | go_skip | go_guarded | go_step | go_upon)
    apply wp_ret
    try simp only [Exit.inBlock, Exit.then]
    exact bodyPost_ret (results_cell_row rfl _ _ w.heap.size Cel.tPn (Cel.ndA (.mk 1 u [] 0 0 []) none 0 0) (0, 0) _ rfl HS8.out Tryz.underlying44 rfl (by kernel_rfl)) rfl HF8.out
set_option maxRecDepth 100000 in
set_option maxHeartbeats 8000000 in
theorem pr_txt1 (t : Bs) : PrC (.mk 2 0 t 0 0 []) := by
  intro ws w b q cT i Ts rest hst hat hrs
  rw [show tkN nmS (.mk 2 0 t 0 0 []) 5 = [(2, t)] from by rw [tkN_split, if_neg (by show ¬ (6 : Int) < 5; omega), tk_txt']] at hat ⊢
  have hat' : At Ts i ((2, t) :: rest) := hat
  obtain ⟨⟨kx, tx, ax⟩, hy1, hy2, hat1⟩ := hat'.get
  obtain ⟨rfl, rfl⟩ : 2 = kx ∧ t = tx := by
    have e : (kx, tx) = ((2 : Int), (t : Bs)) := hy2
    exact ⟨(congrArg Prod.fst e).symm, (congrArg Prod.snd e).symm⟩
  obtain ⟨g, rfl, hgb, _, _, _, _⟩ := hst.tks.at hy1
  have hile := hat'.le
  have hle := hst.len
  have HTK := Lib.hid (fun W (h : TkR W b (some ⟨g, 0, none⟩) Ts) => h.at hy1)
  have hA0 : Hid (BlkC (w.alloc (.cells (Cel.ndA nodeZ none 0 0) Cel.tPn)) w.heap.size (Cel.ndA nodeZ none 0 0) Cel.tPn) := heap_alloc_new w _
  have hAB : Below w.heap.size w (w.alloc (.cells (Cel.ndA nodeZ none 0 0) Cel.tPn)) := by (repeat' (first | (with_reducible exact Below.refl _ _) | (with_reducible assumption) | (with_reducible refine Below.alloc ?_ ?_ _) | (with_reducible refine bel_drewN ?_ _) | (with_reducible refine Below.drew ?_) | (with_reducible refine Below.setCell ?_ ?_ _) | (with_reducible refine bel_call ‹_› ?_ ?_) | go_size))
  have HS0 := Lib.hid (hst.below hAB)
  have HO0 := Lib.hid (Off.of_below (b := b) hAB)
  have hbw := hst.lt
  have HSW := Lib.hid hst
  have hin : (i : Int) < (Ts.length : Int) := by omega
  obtain ⟨nT, hnT⟩ : ∃ n, Ts.length = n := ⟨_, rfl⟩
  have HNT := Lib.hid hnT
  rw [hnT] at  hle hile hin ⊢
  clear hnT
  clear hst hAB
  go_enter Tryz.func105, Tryz.ntmps105
  go_upto_region 1 with fail
  have e0 : w.alloc (.cells #[.int .i64 0, .int .i64 0, .string ⟨#[]⟩, .int .i64 0, .int .i64 0, .int .i64 0, .int .i64 0, .slice none 0 0] Cel.tPn) = w.alloc (.cells (Cel.ndA nodeZ none 0 0) Cel.tPn) := rfl
  rw [e0]
  clear e0
  generalize w.alloc (.cells (Cel.ndA nodeZ none 0 0) Cel.tPn) = w0 at hA0 HS0 HO0 ⊢
  obtain ⟨p0, p1, p2, _⟩ := HS0.out.psr.cells
  rw [HNT.out] at p0
  have r0 := cell_regrown p0
  have r1 := cell_regrown p1
  have r2 := cell_regrown p2
  have hBR : ∀ dd os, Below w0.heap.size w0 (Go.Sort.grow (redrawn w0 dd) os) := fun dd os => below_regrown w0 dd os
  refine wp_region_quiet_below (by kernel_rfl) (by kernel_rfl) ?_
  repeat (go_big_quiet_step (fail))
  refine wpQuiet_nil ?_
  intro _ hw'
  obtain ⟨⟨dz, osz⟩, hw''⟩ := hw'
  subst hw''
  have hB1 := hBR dz osz
  have HS1 := Lib.hid (HS0.out.below hB1)
  have hA1 := Lib.hid (hA0.out.below hB1)
  have HO1 := Lib.hid (HO0.out.call hB1)
  clear r0 r1 r2 hBR hB1 p0 p1 p2 HS0 hA0 HO0
  generalize Go.Sort.grow (redrawn w0 dz) osz = w1 at HS1 hA1 HO1 ⊢
  obtain ⟨p0, p1, p2, pf⟩ := HS1.out.psr.cells
  rw [HNT.out] at p0
  obtain ⟨g', hg', _, hgl, k0, k1, k2⟩ := HTK.out w1 HS1.out.tks
  cases hg'
  have hbl := HS1.out.lt
  simp only at k0 k1 k2
  go_upto_region 3 with fail
  go_cut [3] (fun v3 wx => v3 = .pointer (some ⟨w1.heap.size, 0, none⟩) ∧ wx = (w1.alloc (.cells #[.int .i64 2, .string ⟨(t).toArray⟩, .int .i64 (ax : Int)] 137)).drew)
  case first =>
    go_region_with (fail)
    all_goals go_wp2_with fail
    all_goals go_meet
    all_goals exact ⟨rfl, rfl⟩
  case rest =>
    obtain ⟨hv, hw⟩ := hcut
    subst hv
    subst hw
    have HT2 : Hid (BlkC (w1.alloc (.cells #[.int .i64 2, .string ⟨(t).toArray⟩, .int .i64 (ax : Int)] 137)).drew w1.heap.size #[.int .i64 2, .string ⟨(t).toArray⟩, .int .i64 (ax : Int)] 137) := heap_alloc_new w1 _
    have hB2 : Below w1.heap.size w1 (w1.alloc (.cells #[.int .i64 2, .string ⟨(t).toArray⟩, .int .i64 (ax : Int)] 137)).drew := Below.drew ((Below.refl _ _).alloc (Nat.le_refl _) _)
    have HP2 := Lib.hid (HS1.out.psr.below hB2)
    have hA2 := Lib.hid (hA1.out.below hB2)
    have HO2 := Lib.hid (HO1.out.call hB2)
    have hG : w.heap.size < w1.heap.size := lt_some hA1.out
    have hGb : w1.heap.size ≠ b := by omega
    rw [HNT.out] at HP2
    clear hB2 HS1 hA1 HO1 p0 p1 p2 pf k0 k1 k2 hgl hbl HTK
    generalize (w1.alloc (.cells #[.int .i64 2, .string ⟨(t).toArray⟩, .int .i64 (ax : Int)] 137)).drew = w2 at HT2 HP2 hA2 HO2 ⊢
    generalize w1.heap.size = G at HT2 hG hGb ⊢
    obtain ⟨_, p1, _, pf⟩ := HP2.out.cells
    have f1 : IntKind.i64.wrap ((i : Int) + 1) = (i : Int) + 1 := IntWalk.i64_in _ (by omega)
    go_upto_region 5 with fail
    have HP3 : Hid (Psr (w2.setCell ⟨b, 1, none⟩ (.int .i64 ((i : Int) + 1))) b (some ⟨g, 0, none⟩) nT cT (i + 1)) := HP2.out.setz ((i : Int) + 1) (i + 1) (by omega)
    have HO3 := Lib.hid (HO2.out.set 1 (.int .i64 ((i : Int) + 1)))
    have HT3 : Hid (BlkC (w2.setCell ⟨b, 1, none⟩ (.int .i64 ((i : Int) + 1))) G #[.int .i64 2, .string ⟨(t).toArray⟩, .int .i64 (ax : Int)] 137) := (heap_setCell_other _ _ _ _ hGb).trans HT2.out
    have hA3 : Hid (BlkC (w2.setCell ⟨b, 1, none⟩ (.int .i64 ((i : Int) + 1))) w.heap.size (Cel.ndA nodeZ none 0 0) Cel.tPn) := (heap_setCell_other _ _ _ _ (show w.heap.size ≠ b by omega)).trans hA2.out
    clear HP2 HO2 HT2 hA2 p1 pf f1
    generalize w2.setCell ⟨b, 1, none⟩ (.int .i64 ((i : Int) + 1)) = w3 at HP3 HO3 HT3 hA3 ⊢
    have HS3 := Lib.hid (HSW.out.off HO3.out (by rw [HNT.out]; exact HP3.out))
    have c0 : w3.cell? ⟨G, 0, none⟩ = some (.int .i64 2) := HT3.out.cell 0 _ rfl
    have c1 : w3.cell? ⟨G, 1, none⟩ = some (.string ⟨(t).toArray⟩) := HT3.out.cell 1 _ rfl
    have HP4 := HP3
    have hA4 := hA3
    have HO4 := HO3
    go_upto_region 12 with fail
    refine wp_region_lit ?_
    refine wpList_plain rfl fun K hK => ?_
    go_simp
    refine hK _ _ ?_
    clear hK K
    refine wpList_plain rfl fun K hK => ?_
    go_simp
    refine hK _ _ ?_
    clear hK K
    refine wpList_plain rfl fun K hK => ?_
    go_simp
    refine hK _ _ ?_
    clear hK K
    refine wpList_store_mid (by rfl) _ _ _ (by rfl) w.heap.size 0 #[.int .i64 2, .int .i64 0, .string ⟨t.toArray⟩, .int .i64 0, .int .i64 0, .int .i64 0, .int .i64 0, .slice none 0 0] (by rfl) (by rfl) (block_there hA4.out 8 (Nat.le_refl _)) (by kernel_rfl) (by simp [Value.oneCell']) ?_
    obtain ⟨hs8, hf8⟩ := res_store (n := (.mk 2 0 t 0 0 [])) (p := none) (l := 0) (cp := 0) hA4.out rfl HP4.out HO4.out hbw rfl (fun d _ => rdp_leaf _ _ rfl _ d)
    have HS8 := Lib.hid hs8
    have HF8 := Lib.hid hf8
    clear hs8 hf8
    have e8 : w3.setCells w.heap.size 0 (#[.int .i64 2, .int .i64 0, .string ⟨t.toArray⟩, .int .i64 0, .int .i64 0, .int .i64 0, .int .i64 0, .slice none 0 0]).toList = w3.setCells w.heap.size 0 (Cel.ndA (.mk 2 0 t 0 0 []) none 0 0).toList := rfl
    rw [e8]
    clear e8
    generalize w3.setCells w.heap.size 0 (Cel.ndA (.mk 2 0 t 0 0 []) none 0 0).toList = w9 at HS8 HF8 ⊢
    go_simp
    iterate 3 (first | go_values | go_skip | go_guarded | go_step | go_upon)
    apply wp_ret
    try simp only [Exit.inBlock, Exit.then]
    exact bodyPost_ret (results_cell_row rfl _ _ w.heap.size Cel.tPn (Cel.ndA (.mk 2 0 t 0 0 []) none 0 0) (0, 0) _ rfl HS8.out Tryz.underlying44 rfl (by kernel_rfl)) rfl HF8.out
set_option maxRecDepth 100000 in
set_option maxHeartbeats 8000000 in
theorem pr_flt1  : PrC (.mk 8 0 [] 0 0 []) := by
  intro ws w b q cT i Ts rest hst hat hrs
  rw [show tkN nmS (.mk 8 0 [] 0 0 []) 5 = [(5, refBs)] from by rw [tkN_split, if_neg (by show ¬ (6 : Int) < 5; omega), tk_flt']] at hat ⊢
  have hat' : At Ts i ((5, refBs) :: rest) := hat
  obtain ⟨⟨kx, tx, ax⟩, hy1, hy2, hat1⟩ := hat'.get
  obtain ⟨rfl, rfl⟩ : 5 = kx ∧ refBs = tx := by
    have e : (kx, tx) = ((5 : Int), (refBs : Bs)) := hy2
    exact ⟨(congrArg Prod.fst e).symm, (congrArg Prod.snd e).symm⟩
  obtain ⟨g, rfl, hgb, _, _, _, _⟩ := hst.tks.at hy1
  have hile := hat'.le
  have hle := hst.len
  have HTK := Lib.hid (fun W (h : TkR W b (some ⟨g, 0, none⟩) Ts) => h.at hy1)
  have hA0 : Hid (BlkC (w.alloc (.cells (Cel.ndA nodeZ none 0 0) Cel.tPn)) w.heap.size (Cel.ndA nodeZ none 0 0) Cel.tPn) := heap_alloc_new w _
  have hAB : Below w.heap.size w (w.alloc (.cells (Cel.ndA nodeZ none 0 0) Cel.tPn)) := by (repeat' (first | (with_reducible exact Below.refl _ _) | (with_reducible assumption) | (with_reducible refine Below.alloc ?_ ?_ _) | (with_reducible refine bel_drewN ?_ _) | (with_reducible refine Below.drew ?_) | (with_reducible refine Below.setCell ?_ ?_ _) | (with_reducible refine bel_call ‹_› ?_ ?_) | go_size))
  have HS0 := Lib.hid (hst.below hAB)
  have HO0 := Lib.hid (Off.of_below (b := b) hAB)
  have hbw := hst.lt
  have HSW := Lib.hid hst
  have hin : (i : Int) < (Ts.length : Int) := by omega
  obtain ⟨nT, hnT⟩ : ∃ n, Ts.length = n := ⟨_, rfl⟩
  have HNT := Lib.hid hnT
  rw [hnT] at  hle hile hin ⊢
  clear hnT
  clear hst hAB
  go_enter Tryz.func105, Tryz.ntmps105
  go_upto_region 1 with fail
  have e0 : w.alloc (.cells #[.int .i64 0, .int .i64 0, .string ⟨#[]⟩, .int .i64 0, .int .i64 0, .int .i64 0, .int .i64 0, .slice none 0 0] Cel.tPn) = w.alloc (.cells (Cel.ndA nodeZ none 0 0) Cel.tPn) := rfl
  rw [e0]
  clear e0
  generalize w.alloc (.cells (Cel.ndA nodeZ none 0 0) Cel.tPn) = w0 at hA0 HS0 HO0 ⊢
  obtain ⟨p0, p1, p2, _⟩ := HS0.out.psr.cells
  rw [HNT.out] at p0
  have r0 := cell_regrown p0
  have r1 := cell_regrown p1
  have r2 := cell_regrown p2
  have hBR : ∀ dd os, Below w0.heap.size w0 (Go.Sort.grow (redrawn w0 dd) os) := fun dd os => below_regrown w0 dd os
  refine wp_region_quiet_below (by kernel_rfl) (by kernel_rfl) ?_
  repeat (go_big_quiet_step (fail))
  refine wpQuiet_nil ?_
  intro _ hw'
  obtain ⟨⟨dz, osz⟩, hw''⟩ := hw'
  subst hw''
  have hB1 := hBR dz osz
  have HS1 := Lib.hid (HS0.out.below hB1)
  have hA1 := Lib.hid (hA0.out.below hB1)
  have HO1 := Lib.hid (HO0.out.call hB1)
  clear r0 r1 r2 hBR hB1 p0 p1 p2 HS0 hA0 HO0
  generalize Go.Sort.grow (redrawn w0 dz) osz = w1 at HS1 hA1 HO1 ⊢
  obtain ⟨p0, p1, p2, pf⟩ := HS1.out.psr.cells
  rw [HNT.out] at p0
  obtain ⟨g', hg', _, hgl, k0, k1, k2⟩ := HTK.out w1 HS1.out.tks
  cases hg'
  have hbl := HS1.out.lt
  simp only at k0 k1 k2
  go_upto_region 3 with fail
  go_cut [3] (fun v3 wx => v3 = .pointer (some ⟨w1.heap.size, 0, none⟩) ∧ wx = (w1.alloc (.cells #[.int .i64 5, .string ⟨(refBs).toArray⟩, .int .i64 (ax : Int)] 137)).drew)
  case first =>
    go_region_with (fail)
    all_goals go_wp2_with fail
    all_goals go_meet
    all_goals exact ⟨rfl, rfl⟩
  case rest =>
    obtain ⟨hv, hw⟩ := hcut
    subst hv
    subst hw
    have HT2 : Hid (BlkC (w1.alloc (.cells #[.int .i64 5, .string ⟨(refBs).toArray⟩, .int .i64 (ax : Int)] 137)).drew w1.heap.size #[.int .i64 5, .string ⟨(refBs).toArray⟩, .int .i64 (ax : Int)] 137) := heap_alloc_new w1 _
    have hB2 : Below w1.heap.size w1 (w1.alloc (.cells #[.int .i64 5, .string ⟨(refBs).toArray⟩, .int .i64 (ax : Int)] 137)).drew := Below.drew ((Below.refl _ _).alloc (Nat.le_refl _) _)
    have HP2 := Lib.hid (HS1.out.psr.below hB2)
    have hA2 := Lib.hid (hA1.out.below hB2)
    have HO2 := Lib.hid (HO1.out.call hB2)
    have hG : w.heap.size < w1.heap.size := lt_some hA1.out
    have hGb : w1.heap.size ≠ b := by omega
    rw [HNT.out] at HP2
    clear hB2 HS1 hA1 HO1 p0 p1 p2 pf k0 k1 k2 hgl hbl HTK
    generalize (w1.alloc (.cells #[.int .i64 5, .string ⟨(refBs).toArray⟩, .int .i64 (ax : Int)] 137)).drew = w2 at HT2 HP2 hA2 HO2 ⊢
    generalize w1.heap.size = G at HT2 hG hGb ⊢
    obtain ⟨_, p1, _, pf⟩ := HP2.out.cells
    have f1 : IntKind.i64.wrap ((i : Int) + 1) = (i : Int) + 1 := IntWalk.i64_in _ (by omega)
    go_upto_region 5 with fail
    have HP3 : Hid (Psr (w2.setCell ⟨b, 1, none⟩ (.int .i64 ((i : Int) + 1))) b (some ⟨g, 0, none⟩) nT cT (i + 1)) := HP2.out.setz ((i : Int) + 1) (i + 1) (by omega)
    have HO3 := Lib.hid (HO2.out.set 1 (.int .i64 ((i : Int) + 1)))
    have HT3 : Hid (BlkC (w2.setCell ⟨b, 1, none⟩ (.int .i64 ((i : Int) + 1))) G #[.int .i64 5, .string ⟨(refBs).toArray⟩, .int .i64 (ax : Int)] 137) := (heap_setCell_other _ _ _ _ hGb).trans HT2.out
    have hA3 : Hid (BlkC (w2.setCell ⟨b, 1, none⟩ (.int .i64 ((i : Int) + 1))) w.heap.size (Cel.ndA nodeZ none 0 0) Cel.tPn) := (heap_setCell_other _ _ _ _ (show w.heap.size ≠ b by omega)).trans hA2.out
    clear HP2 HO2 HT2 hA2 p1 pf f1
    generalize w2.setCell ⟨b, 1, none⟩ (.int .i64 ((i : Int) + 1)) = w3 at HP3 HO3 HT3 hA3 ⊢
    have HS3 := Lib.hid (HSW.out.off HO3.out (by rw [HNT.out]; exact HP3.out))
    have c0 : w3.cell? ⟨G, 0, none⟩ = some (.int .i64 5) := HT3.out.cell 0 _ rfl
    have c1 : w3.cell? ⟨G, 1, none⟩ = some (.string ⟨(refBs).toArray⟩) := HT3.out.cell 1 _ rfl
    have HP4 := HP3
    have hA4 := hA3
    have HO4 := HO3
    go_upto_region 14 with fail
    refine wp_region_lit ?_
    refine wpList_plain rfl fun K hK => ?_
    go_simp
    refine hK _ _ ?_
    clear hK K
    refine wpList_store_mid (by rfl) _ _ _ (by rfl) w.heap.size 0 #[.int .i64 8, .int .i64 0, .string ⟨#[]⟩, .int .i64 0, .int .i64 0, .int .i64 0, .int .i64 0, .slice none 0 0] (by rfl) (by rfl) (block_there hA4.out 8 (Nat.le_refl _)) (by kernel_rfl) (by simp [Value.oneCell']) ?_
    obtain ⟨hs8, hf8⟩ := res_store (n := (.mk 8 0 [] 0 0 [])) (p := none) (l := 0) (cp := 0) hA4.out rfl HP4.out HO4.out hbw rfl (fun d _ => rdp_leaf _ _ rfl _ d)
    have HS8 := Lib.hid hs8
    have HF8 := Lib.hid hf8
    clear hs8 hf8
    have e8 : w3.setCells w.heap.size 0 (#[.int .i64 8, .int .i64 0, .string ⟨#[]⟩, .int .i64 0, .int .i64 0, .int .i64 0, .int .i64 0, .slice none 0 0]).toList = w3.setCells w.heap.size 0 (Cel.ndA (.mk 8 0 [] 0 0 []) none 0 0).toList := rfl
    rw [e8]
    clear e8
    generalize w3.setCells w.heap.size 0 (Cel.ndA (.mk 8 0 [] 0 0 []) none 0 0).toList = w9 at HS8 HF8 ⊢
    go_simp
    iterate 3 (first | go_values | go_skip | go_guarded | go_step | go_upon)
    apply wp_ret
    try simp only [Exit.inBlock, Exit.then]
    exact bodyPost_ret (results_cell_row rfl _ _ w.heap.size Cel.tPn (Cel.ndA (.mk 8 0 [] 0 0 []) none 0 0) (0, 0) _ rfl HS8.out Tryz.underlying44 rfl (by kernel_rfl)) rfl HF8.out
end Go.Proofs.YtbdgdhjhgcpidaaGreatDoor
