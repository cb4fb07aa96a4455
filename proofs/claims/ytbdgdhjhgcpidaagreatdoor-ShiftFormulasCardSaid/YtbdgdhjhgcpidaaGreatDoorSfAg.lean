/- Trees over cells: write at ranges. Turned by gen_cel.py out of the texts on trees over numbers. Trees over cells: write at any tree. Turned by gen_cel.py out of the texts on trees over numbers. Trees over cells: Print. Turned by gen_cel.py out of the texts on trees over numbers. -/
import Derived.Test.YtbdgdhjhgcpidaaGreatDoorSfAf
set_option linter.unusedSimpArgs false
set_option linter.unusedVariables false
namespace Go.Proofs.YtbdgdhjhgcpidaaGreatDoor.Cel
open Go.RowKit Go.Joins
set_option maxRecDepth 100000 in
set_option maxHeartbeats 4000000 in
theorem write_4 (d : Nat) : WriteN nmS nameF (fun n => n.kind = 4) d := by
  intro n p len cap least lv B b l ws w hq hrd hok hrt hl0 hl1 hsh hB0 hw0 hib hB hlen
  have hk : n.kind = 4 := hq
  have HK := Lib.hid hk
  have HST := Lib.hid (fun W => strengthN n p len cap W)
  have hpr : prN nmS n least = nmS n.frm ++ 58 :: nmS n.tor := by
    cases n with
    | mk k u t f o a =>
      obtain rfl : k = 4 := hk
      rw [prN, if_neg (by unfold hdS; simp; omega)]
      rfl
  have hw : 400 ≤ wtN n := by cases n; rw [wtN]; omega
  rw [hpr]
  have HTX := Lib.hid (fun W => pname_any (cC n.frm) (cR n.frm) W)
  rw [show cellS (cC n.frm) (cR n.frm) = nmS n.frm from rfl] at HTX
  have HTY := Lib.hid (fun W => pname_any (cC n.tor) (cR n.tor) W)
  rw [show cellS (cC n.tor) (cR n.tor) = nmS n.tor from rfl] at HTY
  have hx2 := nmS_len n.frm
  have hy2 := nmS_len n.tor
  obtain ⟨X, hX⟩ : ∃ X, nmS n.frm = X := ⟨_, rfl⟩
  obtain ⟨Y, hY⟩ : ∃ X, nmS n.tor = X := ⟨_, rfl⟩
  rw [hX] at HTX hx2 ⊢
  rw [hY] at HTY hy2 ⊢
  clear hX hY
  rw [show hdS n.kind n.text = 6 from by rw [hk]; rfl] at HST
  clear hrd hok hrt hsh hB0 hw0 hpr hk hq
  have hl6 : ¬ 6 < least := by omega
  have hA0 : Hid (NdB tPn (w.alloc (.cells (ndA n p len cap) tPn)) w.heap.size n p len cap) := heap_alloc_new w _
  have hAB : Hid (Below B w (w.alloc (.cells (ndA n p len cap) tPn))) := (Below.refl B w).alloc hB _
  have hAK : Hid (KeepN w (w.alloc (.cells (ndA n p len cap) tPn))) := KeepN.of (by (repeat' (first | (with_reducible exact Below.refl _ _) | (with_reducible assumption) | (with_reducible refine Below.alloc ?_ ?_ _) | (with_reducible refine bel_drewN ?_ _) | (with_reducible refine Below.drew ?_) | (with_reducible refine Below.setCell ?_ ?_ _) | (with_reducible refine bel_call ‹_› ?_ ?_) | go_size)))
  have HIB := Lib.hid (IsBuilder_below hib (Below.alloc (Below.refl w.heap.size w) (Nat.le_refl _) (.cells (ndA n p len cap) tPn)))
  rw [ndA_eq] at HST ⊢
  clear hib
  go_enter_defers Tryz.func80, Tryz.ntmps80
  go_upto_region 1 with fail
  have e0 : w.alloc (.cells #[.int .i64 n.kind, .int .i64 n.num, .string ⟨n.text.toArray⟩, .int .i64 (cC n.frm), .int .i64 (cR n.frm), .int .i64 (cC n.tor), .int .i64 (cR n.tor), .slice p len cap] tPn) = w.alloc (.cells (ndA n p len cap) tPn) := rfl
  rw [e0]
  clear e0
  generalize w.alloc (.cells (ndA n p len cap) tPn) = w0 at hA0 hAB HIB hAK ⊢
  obtain ⟨c0, c1, c2, c3, cd3, c4, cd4, c5⟩ := hA0.out.cells
  go_wp2_with fail
  refine (HST.out _).mono ?_
  rintro e w1 ⟨rfl, hb1⟩
  have hz0 : B ≤ w0.heap.size := Nat.le_trans hB hAB.out.size
  have hB1 : Hid (Below B w w1) := bel_call hb1 hAB.out hz0
  have hA1 := Lib.hid (hA0.out.below hb1)
  have HI1 := Lib.hid (IsBuilder_below HIB.out hb1)
  have HK1 : Hid (KeepN w w1) := hAK.out.trans (KeepN.of hb1)
  have hz1 : B ≤ w1.heap.size := Nat.le_trans hz0 hb1.size
  generalize w.heap.size = bn at hA0 hA1 hB hb1 ⊢
  clear hb1 hA0 HIB hAB hz0 c0 c1 c2 c3 cd3 c4 cd4 c5 HST hAK
  have hXs : (⟨X.toArray⟩ : ByteArray).size ≤ 20 := by rw [Lib.size_eq]; exact hx2
  have hYs : (⟨Y.toArray⟩ : ByteArray).size ≤ 20 := by rw [Lib.size_eq]; exact hy2
  have hCs : (⟨#[58]⟩ : ByteArray).size = 1 := rfl
  have hXC : (⟨X.toArray⟩ : ByteArray) ++ ⟨#[58]⟩ = ⟨(X ++ [58]).toArray⟩ := cat2 X [58]
  have hXCs : (⟨(X ++ [58]).toArray⟩ : ByteArray).size ≤ 21 := by rw [Lib.size_eq]; simp; omega
  have hXY : (⟨(X ++ [58]).toArray⟩ : ByteArray) ++ ⟨Y.toArray⟩ = ⟨(X ++ 58 :: Y).toArray⟩ := by rw [cat2]; simp
  have hZs : (⟨(X ++ 58 :: Y).toArray⟩ : ByteArray).size ≤ 41 := by rw [Lib.size_eq]; simp; omega
  have hop1 : ∀ W, (Op.stringOp .add ⟨X.toArray⟩ ⟨#[58]⟩).run Tryz.prog W = .ok (.string ⟨(X ++ [58]).toArray⟩) W := fun W => by rw [← hXC]; exact run_string_add_sum W _ _ (by rw [hCs]; omega)
  have hop2 : ∀ W, (Op.stringOp .add ⟨(X ++ [58]).toArray⟩ ⟨Y.toArray⟩).run Tryz.prog W = .ok (.string ⟨(X ++ 58 :: Y).toArray⟩) W := fun W => by rw [← hXY]; exact run_string_add_sum W _ _ (by omega)
  clear hXC hXY
  obtain ⟨c0, c1, c2, c3, cd3, c4, cd4, c5⟩ := hA1.out.cells
  rw [HK.out] at c0
  have C3 := Kept.at c3
  have C4 := Kept.at c4
  have D3 := Kept.at cd3
  have D4 := Kept.at cd4
  go_upto_region 13 with fail
  refine wp_region_schedT (fun wx => ∃ x : Kept w1.heap.size w1, wx = x.v) 11 [([0,1,2,3,6,7,8],4),([5],9)] [10] (by kernel_rfl) (by kernel_rfl) (by kernel_rfl) (by kernel_rfl) (kept_drew _ _ (Nat.le_refl _)) ?_
  have kb0 : Hid (Below w1.heap.size w1 w1.drew) := Below.drew (Below.refl _ _)
  (unfold wpSegK; simp only [pick_nil, pick_cons, nthO_zero, nthO_succ, List.append])
  clear c0 c1 c2 c3 cd3 c4 cd4 c5
  repeat (go_big_quiet_step (fail))
  refine wpQuiet_nil ?_
  go_wp2_with fail
  go_at_call 64
  refine (HTX.out _).mono ?_
  rintro e x1 ⟨rfl, hb⟩
  have kb1 : Hid (Below w1.heap.size w1 x1) := bel_call hb kb0.out kb0.out.size
  clear hb
  go_wp2_with fail
  refine ⟨rfl, ⟨⟨x1, kb1.out⟩, rfl⟩, ?_⟩
  (unfold wpSegK; simp only [pick_nil, pick_cons, nthO_zero, nthO_succ, List.append])
  repeat (go_big_quiet_step (fail))
  refine wpQuiet_nil ?_
  go_wp2_with fail
  go_at_call 64
  refine (HTY.out _).mono ?_
  rintro e x2 ⟨rfl, hb⟩
  have kb2 : Hid (Below w1.heap.size w1 x2) := bel_call hb kb1.out kb1.out.size
  clear hb
  go_wp2_with fail
  refine ⟨rfl, ⟨⟨x2, kb2.out⟩, rfl⟩, ?_⟩
  (unfold wpSegK; simp only [pick_nil, pick_cons, nthO_zero, nthO_succ, List.append])
  repeat (go_big_quiet_step (fail))
  refine wpQuiet_nil ?_
  have hB2 : Hid (Below B w x2) := hB1.out.trans (kb2.out.mono hz1)
  have HI2 := Lib.hid (IsBuilder_below HI1.out kb2.out)
  have HK2 : Hid (KeepN w x2) := HK1.out.trans (KeepN.of kb2.out)
  have hz2 : B ≤ x2.heap.size := Nat.le_trans hz1 kb2.out.size
  clear hA1 HI1 hB1 hz1 C3 C4 D3 D4 HTX HTY HK1 kb0 kb1 kb2
  go_wp2_with fail
  refine (write_atK B b l ⟨(X ++ 58 :: Y).toArray⟩ x2 HI2.out (by omega) hz2).mono ?_
  rintro e w3 ⟨rfl, hi3, hb3, hk3⟩
  have hB3 : Hid (Below B w w3) := hB2.out.trans hb3
  have HI3 := Lib.hid hi3
  have HK3 : Hid (KeepN w w3) := HK2.out.trans hk3
  clear hi3 hb3 HI2 hB2 HK2 hk3
  go_wp2_with fail
  first
    | exact ⟨_, results_none rfl _ _ _, rfl, HI3.out, hB3.out, HK3.out⟩
    | exact ⟨rfl, _, results_none rfl _ _ _, rfl, HI3.out, hB3.out, HK3.out⟩
    | (refine ⟨rfl, ?_⟩; go_wp2_with fail; exact ⟨_, results_none rfl _ _ _, rfl, HI3.out, hB3.out, HK3.out⟩)
end Go.Proofs.YtbdgdhjhgcpidaaGreatDoor.Cel
namespace Go.Proofs.YtbdgdhjhgcpidaaGreatDoor.Cel
open Go.RowKit Go.Joins
theorem write_s (d : Nat) (IH : ∀ d', d = d' + 1 → WriteN nmS nameF (fun _ => True) d') : WriteN nmS nameF (fun _ => True) d := by
  intro n p len cap least lv B b l ws w _ hrd hok hrt
  obtain ⟨h1, h8, _⟩ := rtN_arity hrt
  have : n.kind = 1 ∨ n.kind = 2 ∨ n.kind = 3 ∨ n.kind = 4 ∨ n.kind = 5 ∨ n.kind = 6 ∨ n.kind = 7 ∨ n.kind = 8 := by omega
  rcases this with h | h | h | h | h | h | h | h
  · exact write_1 d n p len cap least lv B b l ws w h hrd hok hrt
  · exact write_2 nmS nameF d n p len cap least lv B b l ws w h hrd hok hrt
  · exact write_3 d n p len cap least lv B b l ws w h hrd hok hrt
  · exact write_4 d n p len cap least lv B b l ws w h hrd hok hrt
  · exact write_5 d IH n p len cap least lv B b l ws w h hrd hok hrt
  · exact write_6 d IH n p len cap least lv B b l ws w h hrd hok hrt
  · exact write_7 d IH n p len cap least lv B b l ws w h hrd hok hrt
  · exact write_8 nmS nameF d n p len cap least lv B b l ws w h hrd hok hrt
theorem write_any : ∀ d, WriteN nmS nameF (fun _ => True) d
  | 0 => write_s 0 (fun d' h => by omega)
  | d + 1 => write_s (d + 1) (fun d' h => (show d = d' from by omega) ▸ write_any d)
end Go.Proofs.YtbdgdhjhgcpidaaGreatDoor.Cel
namespace Go.Proofs.YtbdgdhjhgcpidaaGreatDoor.Cel
open Go.RowKit Go.Joins
set_option maxRecDepth 100000 in
set_option maxHeartbeats 4000000 in
theorem print_any (n : Nd) (d : Nat) (p : Option Addr) (len cap : Nat) (lv : Int) (w : World) (hrd : RdT w w.heap.size d n p len) (hok : OkN n) (hrt : rtN n lv = true) (hsh : w.ShapedOpen Tryz.prog) (hlen : wtN n ≤ 2200000) :
    Calls Tryz.prog 63 #[.agg (ndA n p len cap), nameF] w fun e w' => e = .returned (.string ⟨(prN nmS n 1).toArray⟩) ∧ Below w.heap.size w w' := by
  have hA0 : Hid (NdB tPn (w.alloc (.cells (ndA n p len cap) tPn)) w.heap.size n p len cap) := heap_alloc_new w _
  have hAB : Hid (Below w.heap.size w (w.alloc (.cells (ndA n p len cap) tPn))) := by unfold Hid; (repeat' (first | (with_reducible exact Below.refl _ _) | (with_reducible assumption) | (with_reducible refine Below.alloc ?_ ?_ _) | (with_reducible refine bel_drewN ?_ _) | (with_reducible refine Below.drew ?_) | (with_reducible refine Below.setCell ?_ ?_ _) | (with_reducible refine bel_call ‹_› ?_ ?_) | go_size))
  have HW := Lib.hid (fun b W (hW : Below w.heap.size w W) hib hB => write_any d n p len cap 1 lv w.heap.size b [] w W trivial (hrd.below hW) hok hrt (by omega) (by omega) hsh rfl hW hib hB (by simpa using hlen))
  generalize hX : prN nmS n 1 = X at HW ⊢
  clear hX hlen hok hrd hrt hsh
  rw [ndA_eq] at HW ⊢
  go_enter Tryz.func63, Tryz.ntmps63
  go_upto_region 1 with fail
  have e0 : w.alloc (.cells #[.int .i64 n.kind, .int .i64 n.num, .string ⟨n.text.toArray⟩, .int .i64 (cC n.frm), .int .i64 (cR n.frm), .int .i64 (cC n.tor), .int .i64 (cR n.tor), .slice p len cap] tPn) = w.alloc (.cells (ndA n p len cap) tPn) := rfl
  rw [e0]
  clear e0
  generalize w.alloc (.cells (ndA n p len cap) tPn) = w0 at hA0 hAB ⊢
  go_upto_region 2 with fail
  have hib : Hid (Lib.IsBuilder tBd 5 w.heap.size w0.heap.size (Lib.byteCells []) (w0.alloc (.cells #[.pointer none, .slice none 0 0] tBd))) := bd_fresh w.heap.size w0 hAB.out.size
  have hB1 : Hid (Below w.heap.size w (w0.alloc (.cells #[.pointer none, .slice none 0 0] tBd))) := hAB.out.alloc hAB.out.size _
  have hA1 : Hid (NdB tPn (w0.alloc (.cells #[.pointer none, .slice none 0 0] tBd)) w.heap.size n p len cap) := hA0.out.below (by (repeat' (first | (with_reducible exact Below.refl _ _) | (with_reducible assumption) | (with_reducible refine Below.alloc ?_ ?_ _) | (with_reducible refine bel_drewN ?_ _) | (with_reducible refine Below.drew ?_) | (with_reducible refine Below.setCell ?_ ?_ _) | (with_reducible refine bel_call ‹_› ?_ ?_) | go_size)))
  generalize w0.alloc (.cells #[.pointer none, .slice none 0 0] tBd) = w1 at hib hB1 hA1 ⊢
  generalize w0.heap.size = b at hib ⊢
  obtain ⟨c0, c1, c2, c3, cd3, c4, cd4, c5⟩ := hA1.out.cells
  go_wp2_with fail
  refine (HW.out b w1 hB1.out hib.out hB1.out.size).mono ?_
  rintro e w2 ⟨rfl, hi2, hb2, _⟩
  have hB2 : Hid (Below w.heap.size w w2) := hB1.out.trans hb2
  have HI2 := Lib.hid hi2
  clear hi2 hb2 hB1 hib hA1 c0 c1 c2 c3 cd3 c4 cd4 c5 HW hA0 hAB
  go_wp2_with fail
  refine (bd_string w.heap.size b _ w2 HI2.out hB2.out.size).mono ?_
  rintro e w3 ⟨rfl, hb3⟩
  go_wp2_with fail
  go_ret
  exact ⟨rfl, hB2.out.trans hb3⟩
end Go.Proofs.YtbdgdhjhgcpidaaGreatDoor.Cel
