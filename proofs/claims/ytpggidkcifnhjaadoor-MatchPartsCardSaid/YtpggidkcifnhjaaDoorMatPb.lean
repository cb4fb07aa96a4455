/- Conditions: the walk of MatchParts. -/
import Derived.Test.YtpggidkcifnhjaaDoorMatV
import Derived.Test.YtpggidkcifnhjaaDoorMatPa
set_option linter.unusedSimpArgs false
set_option linter.unusedVariables false

namespace Go.Proofs.YtpggidkcifnhjaaDoor
open Go.RowKit

theorem cat_list (a b : ByteArray) : (a ++ b).data.toList = a.data.toList ++ b.data.toList := by simp
/-- Parse of a text whose parts are known. -/
theorem mparse_at (a : ByteArray) (q : Nat) (R : List UInt8) (h : prC a.data.toList = (q, R)) (hs : a.size ≤ 800) (w : World) (hsh : w.ShapedOpen Tryd.prog) :
    Calls Tryd.prog 7 #[.string a] w fun e w' => CnR q (prsOk R) (prsV R) (cnL R) e w' ∧ Below w.heap.size w w' := by
  have := mparse_cn a hs w hsh
  rw [h] at this
  exact this
set_option maxRecDepth 100000 in
set_option maxHeartbeats 4000000 in
theorem mparts_walk (s : ByteArray) (n : Int) (k x : Int) (t : ByteArray) (hn : -9223372036854775808 ≤ n ∧ n ≤ 9223372036854775807) (hx : -9223372036854775808 ≤ x ∧ x ≤ 9223372036854775807) (w : World) (hsh : w.ShapedOpen Tryd.prog) :
    Calls Tryd.prog 3 #[.string s, .int .i64 n, .agg #[.int .i64 k, .int .i64 x, .string t]] w fun e w' => e = .returned (.bool true) ∧ Below w.heap.size w w' := by
  have HAW : Hid (∀ W, Below w.heap.size w W → Calls Tryd.prog 5 #[] W fun e w' => e = .returned (.bool true) ∧ Below w.heap.size w w') := fun W hW => (mawake_any W (shaped_below hsh hW)).mono fun e w' h => ⟨h.1, bel_call h.2 hW hW.size⟩
  have HRT := Lib.hid (fun W => lright_any k x t W)
  have HOK := Lib.hid (fun h => lright_ok (v := ⟨k, x, t⟩) h hx)
  simp only at HOK
  obtain ⟨o, ho⟩ : ∃ o, lrightB k x t = o := ⟨_, rfl⟩
  rw [ho] at HRT HOK
  clear ho
  by_cases hs : s.size ≤ 200
  · have hsi : (s.size : Int) ≤ 200 := by omega
    cases o
    · clear HOK
      go_enter Tryd.func3, Tryd.ntmps3
      go_wp2_with fail
      refine (HRT.out _).mono ?_
      rintro e w1 ⟨rfl, hb1⟩
      go_wp2_with fail
      refine (HAW.out _ (by (repeat' (first | (with_reducible exact Below.refl _ _) | (with_reducible assumption) | (with_reducible refine Below.alloc ?_ ?_ _) | (with_reducible refine bel_drewN ?_ _) | (with_reducible refine Below.drew ?_) | (with_reducible refine Below.setCell ?_ ?_ _) | (with_reducible refine bel_call ‹_› ?_ ?_) | go_size)))).mono ?_
      rintro e w2 ⟨rfl, hb2⟩
      go_wp2_with fail
      go_ret
      exact ⟨rfl, hb2⟩
    · obtain ⟨hk, ht, _, _⟩ := HOK.out rfl
      simp only at hk ht
      have HTO := Lib.hid (fun W => lto_any k x t W)
      obtain ⟨A, hA⟩ : ∃ A : ByteArray, (⟨#[61]⟩ : ByteArray) ++ s = A := ⟨_, rfl⟩
      obtain ⟨B, hB⟩ : ∃ B : ByteArray, (⟨#[60, 62]⟩ : ByteArray) ++ s = B := ⟨_, rfl⟩
      have hAl : prC A.data.toList = (5, s.data.toList) := by rw [← hA, cat_list]; exact prC_eq _
      have hBl : prC B.data.toList = (0, s.data.toList) := by rw [← hB, cat_list]; exact prC_ne _
      have hAz : A.size ≤ 800 := by rw [← hA, ByteArray.size_append, show (⟨#[61]⟩ : ByteArray).size = 1 from rfl]; omega
      have hBz : B.size ≤ 800 := by rw [← hB, ByteArray.size_append, show (⟨#[60, 62]⟩ : ByteArray).size = 2 from rfl]; omega
      have HPA : Hid (∀ W, Below w.heap.size w W → Calls Tryd.prog 7 #[.string A] W fun e w' => CnR 5 (prsOk s.data.toList) (prsV s.data.toList) (cnL s.data.toList) e w' ∧ Below W.heap.size W w') := fun W hW => mparse_at A _ _ hAl hAz W (shaped_below hsh hW)
      have HPB : Hid (∀ W, Below w.heap.size w W → Calls Tryd.prog 7 #[.string B] W fun e w' => CnR 0 (prsOk s.data.toList) (prsV s.data.toList) (cnL s.data.toList) e w' ∧ Below W.heap.size W w') := fun W hW => mparse_at B _ _ hBl hBz W (shaped_below hsh hW)
      have hle : (cnL s.data.toList).length ≤ 1000 := by
        have h1 := cnL_len s.data.toList
        have h3 := Lib.size_eq s
        omega
      have hlo := cnL_ok s.data.toList
      obtain ⟨ok, hok⟩ : ∃ q, prsOk s.data.toList = q := ⟨_, rfl⟩
      obtain ⟨m, hm⟩ : ∃ q, prsV s.data.toList = q := ⟨_, rfl⟩
      obtain ⟨L, hL⟩ : ∃ q, cnL s.data.toList = q := ⟨_, rfl⟩
      rw [hok, hm, hL] at HPA HPB
      rw [hL] at hle hlo
      have HIS : Hid (∀ q, q < 6 → ∀ (nb : Bool) (num : Int) (L : List Sg) (p : Option Addr) (cap : Nat), L.length ≤ 1000 → (∀ x ∈ L, x.1 ≤ 2 ∧ x.2 < 256) → ∀ W, Below w.heap.size w W → RdG sgE 2 W p L.length L → Calls Tryd.prog 8 #[.agg #[.string (sgB q), .bool nb, .int .i64 num, .slice p L.length cap], .agg #[.int .i64 k, .int .i64 x, .string t]] W fun e w' => e = .returned (.bool (isB q nb num L k x t)) ∧ Below W.heap.size W w') := fun q hq nb num L p cap h1 h2 W hW hr => is_any q hq nb num L p cap k x t hk h1 (by omega) h2 W (shaped_below hsh hW) hr
      have HLO := Lib.hid hlo
      have HOT := Lib.hid (other_law ok m L k x t)
      have HTX := Lib.hid (fun W => text_any n hn.1 hn.2 W)
      have HNB := Lib.hid (fun W => Val.refNumber_any k x t hk (by omega) W)
      obtain ⟨o5, ho5⟩ : ∃ o, isB 5 ok m L k x t = o := ⟨_, rfl⟩
      obtain ⟨ln, hln⟩ : ∃ ln, L.length = ln := ⟨_, rfl⟩
      have HI5 : Hid (∀ p cap W, Below w.heap.size w W → RdG sgE 2 W p ln L → Calls Tryd.prog 8 #[.agg #[.string (sgB 5), .bool ok, .int .i64 m, .slice p ln cap], .agg #[.int .i64 k, .int .i64 x, .string t]] W fun e w' => e = .returned (.bool o5) ∧ Below W.heap.size W w') := fun p cap W hW hr => by
        have := HIS.out 5 (by decide) ok m L p cap hle HLO.out W hW (by rw [hln]; exact hr)
        rw [ho5, hln] at this
        exact this
      have HI0 : Hid (∀ p cap W, Below w.heap.size w W → RdG sgE 2 W p ln L → Calls Tryd.prog 8 #[.agg #[.string (sgB 0), .bool ok, .int .i64 m, .slice p ln cap], .agg #[.int .i64 k, .int .i64 x, .string t]] W fun e w' => e = .returned (.bool (!o5)) ∧ Below W.heap.size W w') := fun p cap W hW hr => by
        have := HIS.out 0 (by decide) ok m L p cap hle HLO.out W hW (by rw [hln]; exact hr)
        rw [HOT.out, ho5, hln] at this
        exact this
      have HPA2 : Hid (∀ W, Below w.heap.size w W → Calls Tryd.prog 7 #[.string A] W fun e w' => (∃ p cap, e = .returned (.agg #[.string (sgB 5), .bool ok, .int .i64 m, .slice p ln cap]) ∧ RdG sgE 2 w' p ln L) ∧ Below W.heap.size W w') := fun W hW => by rw [← hln]; exact HPA.out W hW
      have HPB2 : Hid (∀ W, Below w.heap.size w W → Calls Tryd.prog 7 #[.string B] W fun e w' => (∃ p cap, e = .returned (.agg #[.string (sgB 0), .bool ok, .int .i64 m, .slice p ln cap]) ∧ RdG sgE 2 w' p ln L) ∧ Below W.heap.size W w') := fun W hW => by rw [← hln]; exact HPB.out W hW
      -- the three texts of the number
      have hop1 : ∀ W, (Op.stringOp .add ⟨#[61]⟩ s).run Tryd.prog W = .ok (.string A) W := fun W => by rw [← hA]; exact run_string_add_sum W ⟨#[61]⟩ _ (by have hz : (⟨#[61]⟩ : ByteArray).size = 1 := rfl; omega)
      have hop2 : ∀ W, (Op.stringOp .add ⟨#[60, 62]⟩ s).run Tryd.prog W = .ok (.string B) W := fun W => by rw [← hB]; exact run_string_add_sum W ⟨#[60, 62]⟩ _ (by have hz : (⟨#[60, 62]⟩ : ByteArray).size = 2 := rfl; omega)
      obtain ⟨c, r, hcr, hc1, hc2⟩ := txt_head n
      have hpo := txt_prs n hn.1 hn.2
      have htl := txt_len n hn.1 hn.2
      have hcn : cnL (txt n) = [] := by unfold cnL; rw [hpo.2]; rfl
      obtain ⟨T, hT⟩ : ∃ T : ByteArray, (⟨(txt n).toArray⟩ : ByteArray) = T := ⟨_, rfl⟩
      have hTl : T.data.toList = txt n := by rw [← hT]
      have hTz : T.size ≤ 600 := by rw [Lib.size_eq, hTl]; omega
      rw [hT] at HTX
      have sgn : ∀ (b : UInt8) (q : Nat) (E : ByteArray), (⟨#[b]⟩ : ByteArray) ++ T = E → prC (b :: txt n) = (q, txt n) → ∀ W, Below w.heap.size w W → Calls Tryd.prog 7 #[.string E] W fun e w' => (∃ p cap, e = .returned (.agg #[.string (sgB q), .bool true, .int .i64 n, .slice p 0 cap])) ∧ Below W.heap.size W w' := fun b q E hE hq W hW => by
        have h1 : E.data.toList = b :: txt n := by rw [← hE, cat_list, hTl]; rfl
        have h2 : E.size ≤ 800 := by rw [Lib.size_eq, h1]; simp; omega
        refine (mparse_at E q (txt n) (by rw [h1]; exact hq) h2 W (shaped_below hsh hW)).mono fun e w' h => ⟨?_, h.2⟩
        obtain ⟨⟨p, cap, h3, _⟩, _⟩ := h
        rw [hpo.2, hpo.1, hcn] at h3
        exact ⟨p, cap, h3⟩
      obtain ⟨E0, hE0⟩ : ∃ E : ByteArray, (⟨#[60]⟩ : ByteArray) ++ T = E := ⟨_, rfl⟩
      obtain ⟨E1, hE1⟩ : ∃ E : ByteArray, (⟨#[61]⟩ : ByteArray) ++ T = E := ⟨_, rfl⟩
      obtain ⟨E2, hE2⟩ : ∃ E : ByteArray, (⟨#[62]⟩ : ByteArray) ++ T = E := ⟨_, rfl⟩
      have hop3 : ∀ W, (Op.stringOp .add ⟨#[60]⟩ T).run Tryd.prog W = .ok (.string E0) W := fun W => by rw [← hE0]; exact run_string_add_sum W ⟨#[60]⟩ _ (by have hz : (⟨#[60]⟩ : ByteArray).size = 1 := rfl; omega)
      have hop4 : ∀ W, (Op.stringOp .add ⟨#[61]⟩ T).run Tryd.prog W = .ok (.string E1) W := fun W => by rw [← hE1]; exact run_string_add_sum W ⟨#[61]⟩ _ (by have hz : (⟨#[61]⟩ : ByteArray).size = 1 := rfl; omega)
      have hop5 : ∀ W, (Op.stringOp .add ⟨#[62]⟩ T).run Tryd.prog W = .ok (.string E2) W := fun W => by rw [← hE2]; exact run_string_add_sum W ⟨#[62]⟩ _ (by have hz : (⟨#[62]⟩ : ByteArray).size = 1 := rfl; omega)
      have HS0 := Lib.hid (sgn 60 3 E0 hE0 (by rw [hcr]; exact prC_less c r hc1 hc2))
      have HS1 := Lib.hid (sgn 61 5 E1 hE1 (prC_eq _))
      have HS2 := Lib.hid (sgn 62 4 E2 hE2 (by rw [hcr]; exact prC_more c r hc1))
      have HIT : Hid (∀ q, q < 6 → ∀ p cap W, Below w.heap.size w W → Calls Tryd.prog 8 #[.agg #[.string (sgB q), .bool true, .int .i64 n, .slice p 0 cap], .agg #[.int .i64 k, .int .i64 x, .string t]] W fun e w' => e = .returned (.bool (isB q true n [] k x t)) ∧ Below W.heap.size W w') := fun q hq p cap W hW => HIS.out q hq true n [] p cap (by decide) (by decide) W hW (RdG.nil _ _ _ _)
      have hpl := parts_law k x t n
      obtain ⟨t0, ht0⟩ : ∃ o, isB 3 true n [] k x t = o := ⟨_, rfl⟩
      obtain ⟨t1, ht1⟩ : ∃ o, isB 5 true n [] k x t = o := ⟨_, rfl⟩
      obtain ⟨t2, ht2⟩ : ∃ o, isB 4 true n [] k x t = o := ⟨_, rfl⟩
      have HT0 := Lib.hid (HIT.out 3 (by decide)); rw [ht0] at HT0
      have HT1 := Lib.hid (HIT.out 5 (by decide)); rw [ht1] at HT1
      have HT2 := Lib.hid (HIT.out 4 (by decide)); rw [ht2] at HT2
      rw [ht0, ht1, ht2] at hpl
      have HPL := Lib.hid hpl
      clear hA hB hE0 hE1 hE2 hAl hBl hAz hBz hok hm hL hlo hsh hn hx ho5 hln hcr hc1 hc2 hpo htl hcn hT hTl sgn hpl ht0 ht1 ht2 HIS HIT HPA HPB HLO HOT hle
      go_enter Tryd.func3, Tryd.ntmps3
      go_wp2_with fail
      refine (HRT.out _).mono ?_
      rintro e w1 ⟨rfl, hb1⟩
      obtain ⟨hc1, hf1, hz1⟩ := bcell hb1 (by first | (simp only [World.size_alloc, World.size_setCell, World.size_drew]; rfl) | rfl)
      go_wp2_with fail
      refine (HTO.out _).mono ?_
      rintro e w2 ⟨rfl, hb2⟩
      obtain ⟨hc2, hf2, hz2⟩ := bcell hb2 (by first | (simp only [World.size_alloc, World.size_setCell, World.size_drew]; rfl) | rfl)
      go_wp2_with fail
      go_region_held3 (fun W => W.cell? ⟨w2.heap.size, 0, none⟩ = some (.int .i64 k) ∧ W.cell? ⟨w2.heap.size, 1, none⟩ = some (.int .i64 x) ∧ W.cell? ⟨w2.heap.size, 2, none⟩ = some (.string t)) (first | (go_simp; done) | go_keep)
        (first
          | (go_at_call 7; (with_reducible refine (HPA2.out _ (by (repeat' (first | (with_reducible exact Below.refl _ _) | (with_reducible assumption) | (with_reducible refine Below.alloc ?_ ?_ _) | (with_reducible refine bel_drewN ?_ _) | (with_reducible refine Below.drew ?_) | (with_reducible refine Below.setCell ?_ ?_ _) | (with_reducible refine bel_call ‹_› ?_ ?_) | go_size)))).mono ?_); rintro e w3 ⟨⟨p, cap, rfl, hC⟩, hb3⟩; obtain ⟨hc3, hf3, hz3⟩ := bcell hb3 (by first | (simp only [World.size_alloc, World.size_setCell, World.size_drew]; rfl) | rfl); have HC := Lib.hid hC; clear hC)
          | (go_at_call 8; (with_reducible refine (HI5.out _ _ _ (by (repeat' (first | (with_reducible exact Below.refl _ _) | (with_reducible assumption) | (with_reducible refine Below.alloc ?_ ?_ _) | (with_reducible refine bel_drewN ?_ _) | (with_reducible refine Below.drew ?_) | (with_reducible refine Below.setCell ?_ ?_ _) | (with_reducible refine bel_call ‹_› ?_ ?_) | go_size))) (HC.out.below (by (repeat' (first | (with_reducible exact Below.refl _ _) | (with_reducible assumption) | (with_reducible refine Below.alloc ?_ ?_ _) | (with_reducible refine bel_drewN ?_ _) | (with_reducible refine Below.drew ?_) | (with_reducible refine Below.setCell ?_ ?_ _) | (with_reducible refine bel_call ‹_› ?_ ?_) | go_size))))).mono ?_); rintro e w4 ⟨rfl, hb4⟩; obtain ⟨hc4, hf4, hz4⟩ := bcell hb4 (by first | (simp only [World.size_alloc, World.size_setCell, World.size_drew]; rfl) | rfl))
          | (go_at_call 7; (with_reducible refine (HPB2.out _ (by (repeat' (first | (with_reducible exact Below.refl _ _) | (with_reducible assumption) | (with_reducible refine Below.alloc ?_ ?_ _) | (with_reducible refine bel_drewN ?_ _) | (with_reducible refine Below.drew ?_) | (with_reducible refine Below.setCell ?_ ?_ _) | (with_reducible refine bel_call ‹_› ?_ ?_) | go_size)))).mono ?_); rintro e w5 ⟨⟨p5, cap5, rfl, hD⟩, hb5⟩; obtain ⟨hc5, hf5, hz5⟩ := bcell hb5 (by first | (simp only [World.size_alloc, World.size_setCell, World.size_drew]; rfl) | rfl); have HD := Lib.hid hD; clear hD)
          | (go_at_call 8; (with_reducible refine (HI0.out _ _ _ (by (repeat' (first | (with_reducible exact Below.refl _ _) | (with_reducible assumption) | (with_reducible refine Below.alloc ?_ ?_ _) | (with_reducible refine bel_drewN ?_ _) | (with_reducible refine Below.drew ?_) | (with_reducible refine Below.setCell ?_ ?_ _) | (with_reducible refine bel_call ‹_› ?_ ?_) | go_size))) (HD.out.below (by (repeat' (first | (with_reducible exact Below.refl _ _) | (with_reducible assumption) | (with_reducible refine Below.alloc ?_ ?_ _) | (with_reducible refine bel_drewN ?_ _) | (with_reducible refine Below.drew ?_) | (with_reducible refine Below.setCell ?_ ?_ _) | (with_reducible refine bel_call ‹_› ?_ ?_) | go_size))))).mono ?_); rintro e w6 ⟨rfl, hb6⟩; obtain ⟨hc6, hf6, hz6⟩ := bcell hb6 (by first | (simp only [World.size_alloc, World.size_setCell, World.size_drew]; rfl) | rfl)))
      go_wp2_with fail
      refine (HTX.out _).mono ?_
      rintro e w7 ⟨rfl, hb7⟩
      obtain ⟨hc7, hf7, hz7⟩ := bcell hb7 (by first | (simp only [World.size_alloc, World.size_setCell, World.size_drew]; rfl) | rfl)
      go_wp2_with fail
      have v0 : (w7.alloc (.cells #[.string ⟨#[60]⟩, .string ⟨#[61]⟩, .string ⟨#[62]⟩] 9)).cell? ⟨w.heap.size, 0, none⟩ = some (.int .i64 k) := by go_simp
      have v1 : (w7.alloc (.cells #[.string ⟨#[60]⟩, .string ⟨#[61]⟩, .string ⟨#[62]⟩] 9)).cell? ⟨w.heap.size, 1, none⟩ = some (.int .i64 x) := by go_simp
      have v2 : (w7.alloc (.cells #[.string ⟨#[60]⟩, .string ⟨#[61]⟩, .string ⟨#[62]⟩] 9)).cell? ⟨w.heap.size, 2, none⟩ = some (.string t) := by go_simp
      have x0 : (w7.alloc (.cells #[.string ⟨#[60]⟩, .string ⟨#[61]⟩, .string ⟨#[62]⟩] 9)).cell? ⟨w2.heap.size, 0, none⟩ = some (.int .i64 k) := by go_simp
      have x1 : (w7.alloc (.cells #[.string ⟨#[60]⟩, .string ⟨#[61]⟩, .string ⟨#[62]⟩] 9)).cell? ⟨w2.heap.size, 1, none⟩ = some (.int .i64 x) := by go_simp
      have x2 : (w7.alloc (.cells #[.string ⟨#[60]⟩, .string ⟨#[61]⟩, .string ⟨#[62]⟩] 9)).cell? ⟨w2.heap.size, 2, none⟩ = some (.string t) := by go_simp
      have y0 : (w7.alloc (.cells #[.string ⟨#[60]⟩, .string ⟨#[61]⟩, .string ⟨#[62]⟩] 9)).cell? ⟨w7.heap.size, 0, none⟩ = some (.string ⟨#[60]⟩) := by go_simp
      have y1 : (w7.alloc (.cells #[.string ⟨#[60]⟩, .string ⟨#[61]⟩, .string ⟨#[62]⟩] 9)).cell? ⟨w7.heap.size, 1, none⟩ = some (.string ⟨#[61]⟩) := by go_simp
      have y2 : (w7.alloc (.cells #[.string ⟨#[60]⟩, .string ⟨#[61]⟩, .string ⟨#[62]⟩] 9)).cell? ⟨w7.heap.size, 2, none⟩ = some (.string ⟨#[62]⟩) := by go_simp
      have hbx : Below w.heap.size w (w7.alloc (.cells #[.string ⟨#[60]⟩, .string ⟨#[61]⟩, .string ⟨#[62]⟩] 9)) := by (repeat' (first | (with_reducible exact Below.refl _ _) | (with_reducible assumption) | (with_reducible refine Below.alloc ?_ ?_ _) | (with_reducible refine bel_drewN ?_ _) | (with_reducible refine Below.drew ?_) | (with_reducible refine Below.setCell ?_ ?_ _) | (with_reducible refine bel_call ‹_› ?_ ?_) | go_size))
      have hzx : w.heap.size < w7.heap.size ∧ w2.heap.size < w7.heap.size ∧ (w7.alloc (.cells #[.string ⟨#[60]⟩, .string ⟨#[61]⟩, .string ⟨#[62]⟩] 9)).heap.size = w7.heap.size + 1 := ⟨by omega, by omega, by simp⟩
      generalize (w7.alloc (.cells #[.string ⟨#[60]⟩, .string ⟨#[61]⟩, .string ⟨#[62]⟩] 9)) = wx at v0 v1 v2 x0 x1 x2 y0 y1 y2 hbx hzx ⊢
      obtain ⟨hzx1, hzx2, hzx3⟩ := hzx
      have HX : Hid (∀ W, Below wx.heap.size wx W → (∀ b o, b < wx.heap.size → W.cell? ⟨b, o, none⟩ = wx.cell? ⟨b, o, none⟩) ∧ Below w.heap.size w W ∧ wx.heap.size ≤ W.heap.size) := fun W hW => ⟨fun b o h => hW.cell (p := ⟨b, o, none⟩) h, bel_call hW hbx hbx.size, hW.size⟩
      clear hb1 hb2 hb3 hb4 hb5 hb6 hb7 hc1 hc2 hc3 hc4 hc5 hc6 hc7 hf1 hf2 hf3 hf4 hf5 hf6 hf7 hbx HC HD
      clear HPA2 HPB2 HI5 HI0 HRT HTO HTX hop1 hop2
      obtain ⟨cn, hcn⟩ : ∃ cn : Nat → Nat, cn 0 = 0 ∧ cn 1 = (if t0 then 1 else 0) ∧ cn 2 = (if t0 then 1 else 0) + (if t1 then 1 else 0) ∧ cn 3 = (if t0 then 1 else 0) + (if t1 then 1 else 0) + (if t2 then 1 else 0) := ⟨fun j => match j with | 0 => 0 | 1 => (if t0 then 1 else 0) | 2 => (if t0 then 1 else 0) + (if t1 then 1 else 0) | _ => (if t0 then 1 else 0) + (if t1 then 1 else 0) + (if t2 then 1 else 0), rfl, rfl, rfl, rfl⟩
      obtain ⟨n0, n1, n2, n3⟩ := hcn
      rw [HPL.out] at n3
      have N1 : Hid (cn 1 = cn 0 + if t0 then 1 else 0) := by unfold Hid; rw [n0, n1]; omega
      have N2 : Hid (cn 2 = cn 1 + if t1 then 1 else 0) := by unfold Hid; rw [n1, n2]
      have N3 : Hid (cn 3 = cn 2 + if t2 then 1 else 0) := by unfold Hid; rw [n3, n2, ← HPL.out]
      have N4 := Lib.hid n3
      have N0 := Lib.hid n0
      have hcl : ∀ i, i ≤ 3 → cn i ≤ 3 := fun i hi => by
        obtain rfl | rfl | rfl | rfl : i = 0 ∨ i = 1 ∨ i = 2 ∨ i = 3 := by omega
        · omega
        · rw [n1]; split <;> omega
        · rw [n2]; split <;> split <;> omega
        · rw [n3]; split <;> omega
      have HCL := Lib.hid hcl
      clear n0 n1 n2 n3 hcl
      go_loopg [9, 41] 3 (fun g v9 v41 wr => ∃ i : Nat, i + g = 3 ∧ v41 = .int .i64 i ∧ v9 = .int .i64 (cn i : Int) ∧ Below wx.heap.size wx wr)
      case atStart => exact ⟨0, by omega, rfl, by rw [N0.out]; rfl, Below.refl _ _⟩
      case round =>
        obtain ⟨i, hig, rfl, rfl, hbel⟩ := hrel
        have hcl := HCL.out i (by omega)
        obtain ⟨hcc, hbw, hzr⟩ := HX.out _ hbel
        rw [← hcc _ _ (by omega)] at v0 v1 v2 x0 x1 x2 y0 y1 y2
        have HBEL := Lib.hid hbel
        have HBW := Lib.hid hbw
        clear hcc hbel
        by_cases hlt : i < 3
        · obtain rfl | rfl | rfl : i = 0 ∨ i = 1 ∨ i = 2 := by omega
          · clear HS1 HS2 HT1 HT2 hop4 hop5
            obtain ⟨c, hc⟩ : ∃ c, cn 0 = c := ⟨_, rfl⟩
            have HN := N1
            rw [hc] at HN hcl ⊢
            clear hc N1 N2 N3
            go_wp2_with fail
            go_region_held3 (fun W => W.cell? ⟨w2.heap.size, 0, none⟩ = some (.int .i64 k) ∧ W.cell? ⟨w2.heap.size, 1, none⟩ = some (.int .i64 x) ∧ W.cell? ⟨w2.heap.size, 2, none⟩ = some (.string t)) (first | (go_simp; done) | go_keep)
              (first
                | (go_at_call 7; (with_reducible refine (HS0.out _ (by (repeat' (first | (with_reducible exact Below.refl _ _) | (with_reducible assumption) | (with_reducible refine Below.alloc ?_ ?_ _) | (with_reducible refine bel_drewN ?_ _) | (with_reducible refine Below.drew ?_) | (with_reducible refine Below.setCell ?_ ?_ _) | (with_reducible refine bel_call ‹_› ?_ ?_) | go_size)))).mono ?_); rintro e w3 ⟨⟨p, cap, rfl⟩, hb3⟩; obtain ⟨hc3, hf3, hz3⟩ := bcell hb3 (by first | (simp only [World.size_alloc, World.size_setCell, World.size_drew]; rfl) | rfl))
                | (go_at_call 8; (with_reducible refine (HT0.out _ _ _ (by (repeat' (first | (with_reducible exact Below.refl _ _) | (with_reducible assumption) | (with_reducible refine Below.alloc ?_ ?_ _) | (with_reducible refine bel_drewN ?_ _) | (with_reducible refine Below.drew ?_) | (with_reducible refine Below.setCell ?_ ?_ _) | (with_reducible refine bel_call ‹_› ?_ ?_) | go_size)))).mono ?_); rintro e w4 ⟨rfl, hb4⟩; obtain ⟨hc4, hf4, hz4⟩ := bcell hb4 (by first | (simp only [World.size_alloc, World.size_setCell, World.size_drew]; rfl) | rfl)))
            cases t0
            all_goals
              go_wp2_with fail
              go_roundg (gk - 1)
              case measure => omega
              case rel => exact ⟨1, by omega, by first | rfl | go_num, by rw [HN.out]; first | rfl | go_num, by have := HBEL.out; (repeat' (first | (with_reducible exact Below.refl _ _) | (with_reducible assumption) | (with_reducible refine Below.alloc ?_ ?_ _) | (with_reducible refine bel_drewN ?_ _) | (with_reducible refine Below.drew ?_) | (with_reducible refine Below.setCell ?_ ?_ _) | (with_reducible refine bel_call ‹_› ?_ ?_) | go_size))⟩
          · clear HS0 HS2 HT0 HT2 hop3 hop5
            obtain ⟨c, hc⟩ : ∃ c, cn 1 = c := ⟨_, rfl⟩
            have HN := N2
            rw [hc] at HN hcl ⊢
            clear hc N1 N2 N3
            go_wp2_with fail
            go_region_held3 (fun W => W.cell? ⟨w2.heap.size, 0, none⟩ = some (.int .i64 k) ∧ W.cell? ⟨w2.heap.size, 1, none⟩ = some (.int .i64 x) ∧ W.cell? ⟨w2.heap.size, 2, none⟩ = some (.string t)) (first | (go_simp; done) | go_keep)
              (first
                | (go_at_call 7; (with_reducible refine (HS1.out _ (by (repeat' (first | (with_reducible exact Below.refl _ _) | (with_reducible assumption) | (with_reducible refine Below.alloc ?_ ?_ _) | (with_reducible refine bel_drewN ?_ _) | (with_reducible refine Below.drew ?_) | (with_reducible refine Below.setCell ?_ ?_ _) | (with_reducible refine bel_call ‹_› ?_ ?_) | go_size)))).mono ?_); rintro e w3 ⟨⟨p, cap, rfl⟩, hb3⟩; obtain ⟨hc3, hf3, hz3⟩ := bcell hb3 (by first | (simp only [World.size_alloc, World.size_setCell, World.size_drew]; rfl) | rfl))
                | (go_at_call 8; (with_reducible refine (HT1.out _ _ _ (by (repeat' (first | (with_reducible exact Below.refl _ _) | (with_reducible assumption) | (with_reducible refine Below.alloc ?_ ?_ _) | (with_reducible refine bel_drewN ?_ _) | (with_reducible refine Below.drew ?_) | (with_reducible refine Below.setCell ?_ ?_ _) | (with_reducible refine bel_call ‹_› ?_ ?_) | go_size)))).mono ?_); rintro e w4 ⟨rfl, hb4⟩; obtain ⟨hc4, hf4, hz4⟩ := bcell hb4 (by first | (simp only [World.size_alloc, World.size_setCell, World.size_drew]; rfl) | rfl)))
            cases t1
            all_goals
              go_wp2_with fail
              go_roundg (gk - 1)
              case measure => omega
              case rel => exact ⟨2, by omega, by first | rfl | go_num, by rw [HN.out]; first | rfl | go_num, by have := HBEL.out; (repeat' (first | (with_reducible exact Below.refl _ _) | (with_reducible assumption) | (with_reducible refine Below.alloc ?_ ?_ _) | (with_reducible refine bel_drewN ?_ _) | (with_reducible refine Below.drew ?_) | (with_reducible refine Below.setCell ?_ ?_ _) | (with_reducible refine bel_call ‹_› ?_ ?_) | go_size))⟩
          · clear HS0 HS1 HT0 HT1 hop3 hop4
            obtain ⟨c, hc⟩ : ∃ c, cn 2 = c := ⟨_, rfl⟩
            have HN := N3
            rw [hc] at HN hcl ⊢
            clear hc N1 N2 N3
            go_wp2_with fail
            go_region_held3 (fun W => W.cell? ⟨w2.heap.size, 0, none⟩ = some (.int .i64 k) ∧ W.cell? ⟨w2.heap.size, 1, none⟩ = some (.int .i64 x) ∧ W.cell? ⟨w2.heap.size, 2, none⟩ = some (.string t)) (first | (go_simp; done) | go_keep)
              (first
                | (go_at_call 7; (with_reducible refine (HS2.out _ (by (repeat' (first | (with_reducible exact Below.refl _ _) | (with_reducible assumption) | (with_reducible refine Below.alloc ?_ ?_ _) | (with_reducible refine bel_drewN ?_ _) | (with_reducible refine Below.drew ?_) | (with_reducible refine Below.setCell ?_ ?_ _) | (with_reducible refine bel_call ‹_› ?_ ?_) | go_size)))).mono ?_); rintro e w3 ⟨⟨p, cap, rfl⟩, hb3⟩; obtain ⟨hc3, hf3, hz3⟩ := bcell hb3 (by first | (simp only [World.size_alloc, World.size_setCell, World.size_drew]; rfl) | rfl))
                | (go_at_call 8; (with_reducible refine (HT2.out _ _ _ (by (repeat' (first | (with_reducible exact Below.refl _ _) | (with_reducible assumption) | (with_reducible refine Below.alloc ?_ ?_ _) | (with_reducible refine bel_drewN ?_ _) | (with_reducible refine Below.drew ?_) | (with_reducible refine Below.setCell ?_ ?_ _) | (with_reducible refine bel_call ‹_› ?_ ?_) | go_size)))).mono ?_); rintro e w4 ⟨rfl, hb4⟩; obtain ⟨hc4, hf4, hz4⟩ := bcell hb4 (by first | (simp only [World.size_alloc, World.size_setCell, World.size_drew]; rfl) | rfl)))
            cases t2
            all_goals
              go_wp2_with fail
              go_roundg (gk - 1)
              case measure => omega
              case rel => exact ⟨3, by omega, by first | rfl | go_num, by rw [HN.out]; first | rfl | go_num, by have := HBEL.out; (repeat' (first | (with_reducible exact Below.refl _ _) | (with_reducible assumption) | (with_reducible refine Below.alloc ?_ ?_ _) | (with_reducible refine bel_drewN ?_ _) | (with_reducible refine Below.drew ?_) | (with_reducible refine Below.setCell ?_ ?_ _) | (with_reducible refine bel_call ‹_› ?_ ?_) | go_size))⟩
        · obtain rfl : i = 3 := by omega
          clear HS0 HS1 HS2 HT0 HT1 HT2 hop3 hop4 hop5 N1 N2 N3
          have HN := N4
          obtain ⟨c, hc⟩ : ∃ c, cn 3 = c := ⟨_, rfl⟩
          rw [hc] at HN hcl ⊢
          clear hc
          rcases hk with rfl | rfl | rfl | rfl
          · obtain rfl : c = 0 := by rw [HN.out]; simp [numB]
            have e1 : Val.numV 0 x t = 0 := by simp [Val.numV]
            have e2 : Val.numK 0 t = 0 := by simp [Val.numK]
            have e3 : Val.numM 0 x = 0 := by simp [Val.numM]
            have e4 : Val.numT 0 t = ⟨#[]⟩ := by simp [Val.numT]
            rw [e1, e2, e3, e4] at HNB
            clear e1 e2 e3 e4
            go_wp2_with fail
            refine (HNB.out _).mono ?_
            rintro e w3 ⟨rfl, hb3⟩
            obtain ⟨hc3, hf3, hz3⟩ := bcell hb3 (by first | (simp only [World.size_alloc, World.size_setCell, World.size_drew]; rfl) | rfl)
            have hbw := HBW.out
            go_wp2_with fail
            refine (HAW.out _ (by (repeat' (first | (with_reducible exact Below.refl _ _) | (with_reducible assumption) | (with_reducible refine Below.alloc ?_ ?_ _) | (with_reducible refine bel_drewN ?_ _) | (with_reducible refine Below.drew ?_) | (with_reducible refine Below.setCell ?_ ?_ _) | (with_reducible refine bel_call ‹_› ?_ ?_) | go_size)))).mono ?_
            rintro e w4 ⟨rfl, hb4⟩
            go_wp2_with fail
            go_ret
            exact ⟨rfl, hb4⟩
          · obtain rfl : c = 1 := by rw [HN.out]; simp [numB]
            have e1 : Val.numV 1 x t = x := by simp [Val.numV]
            have e2 : Val.numK 1 t = 0 := by simp [Val.numK]
            have e3 : Val.numM 1 x = 0 := by simp [Val.numM]
            have e4 : Val.numT 1 t = ⟨#[]⟩ := by simp [Val.numT]
            rw [e1, e2, e3, e4] at HNB
            clear e1 e2 e3 e4
            go_wp2_with fail
            refine (HNB.out _).mono ?_
            rintro e w3 ⟨rfl, hb3⟩
            obtain ⟨hc3, hf3, hz3⟩ := bcell hb3 (by first | (simp only [World.size_alloc, World.size_setCell, World.size_drew]; rfl) | rfl)
            have hbw := HBW.out
            go_wp2_with fail
            refine (HAW.out _ (by (repeat' (first | (with_reducible exact Below.refl _ _) | (with_reducible assumption) | (with_reducible refine Below.alloc ?_ ?_ _) | (with_reducible refine bel_drewN ?_ _) | (with_reducible refine Below.drew ?_) | (with_reducible refine Below.setCell ?_ ?_ _) | (with_reducible refine bel_call ‹_› ?_ ?_) | go_size)))).mono ?_
            rintro e w4 ⟨rfl, hb4⟩
            go_wp2_with fail
            go_ret
            exact ⟨rfl, hb4⟩
          · cases hp : prsOk t.data.toList
            · obtain rfl : c = 0 := by rw [HN.out]; simp [numB, hp]
              have e1 : Val.numV 2 x t = prsV t.data.toList := by simp [Val.numV, hp]
              have e2 : Val.numK 2 t = 3 := by simp [Val.numK, hp]
              have e3 : Val.numM 2 x = 0 := by simp [Val.numM]
              have e4 : Val.numT 2 t = ⟨#[35, 86, 65, 76, 85, 69, 33]⟩ := by simp [Val.numT, hp]
              rw [e1, e2, e3, e4] at HNB
              clear e1 e2 e3 e4
              go_wp2_with fail
              refine (HNB.out _).mono ?_
              rintro e w3 ⟨rfl, hb3⟩
              obtain ⟨hc3, hf3, hz3⟩ := bcell hb3 (by first | (simp only [World.size_alloc, World.size_setCell, World.size_drew]; rfl) | rfl)
              have hbw := HBW.out
              go_wp2_with fail
              refine (HAW.out _ (by (repeat' (first | (with_reducible exact Below.refl _ _) | (with_reducible assumption) | (with_reducible refine Below.alloc ?_ ?_ _) | (with_reducible refine bel_drewN ?_ _) | (with_reducible refine Below.drew ?_) | (with_reducible refine Below.setCell ?_ ?_ _) | (with_reducible refine bel_call ‹_› ?_ ?_) | go_size)))).mono ?_
              rintro e w4 ⟨rfl, hb4⟩
              go_wp2_with fail
              go_ret
              exact ⟨rfl, hb4⟩
            · obtain rfl : c = 1 := by rw [HN.out]; simp [numB, hp]
              have e1 : Val.numV 2 x t = prsV t.data.toList := by simp [Val.numV, hp]
              have e2 : Val.numK 2 t = 0 := by simp [Val.numK, hp]
              have e3 : Val.numM 2 x = 0 := by simp [Val.numM]
              have e4 : Val.numT 2 t = ⟨#[]⟩ := by simp [Val.numT, hp]
              rw [e1, e2, e3, e4] at HNB
              clear e1 e2 e3 e4
              go_wp2_with fail
              refine (HNB.out _).mono ?_
              rintro e w3 ⟨rfl, hb3⟩
              obtain ⟨hc3, hf3, hz3⟩ := bcell hb3 (by first | (simp only [World.size_alloc, World.size_setCell, World.size_drew]; rfl) | rfl)
              have hbw := HBW.out
              go_wp2_with fail
              refine (HAW.out _ (by (repeat' (first | (with_reducible exact Below.refl _ _) | (with_reducible assumption) | (with_reducible refine Below.alloc ?_ ?_ _) | (with_reducible refine bel_drewN ?_ _) | (with_reducible refine Below.drew ?_) | (with_reducible refine Below.setCell ?_ ?_ _) | (with_reducible refine bel_call ‹_› ?_ ?_) | go_size)))).mono ?_
              rintro e w4 ⟨rfl, hb4⟩
              go_wp2_with fail
              go_ret
              exact ⟨rfl, hb4⟩
          · obtain rfl : c = 0 := by rw [HN.out]; simp [numB]
            have e1 : Val.numV 3 x t = 0 := by simp [Val.numV]
            have e2 : Val.numK 3 t = 3 := by simp [Val.numK]
            have e3 : Val.numM 3 x = x := by simp [Val.numM]
            have e4 : Val.numT 3 t = t := by simp [Val.numT]
            rw [e1, e2, e3, e4] at HNB
            clear e1 e2 e3 e4
            go_wp2_with fail
            refine (HNB.out _).mono ?_
            rintro e w3 ⟨rfl, hb3⟩
            obtain ⟨hc3, hf3, hz3⟩ := bcell hb3 (by first | (simp only [World.size_alloc, World.size_setCell, World.size_drew]; rfl) | rfl)
            have hbw := HBW.out
            go_wp2_with fail
            refine (HAW.out _ (by (repeat' (first | (with_reducible exact Below.refl _ _) | (with_reducible assumption) | (with_reducible refine Below.alloc ?_ ?_ _) | (with_reducible refine bel_drewN ?_ _) | (with_reducible refine Below.drew ?_) | (with_reducible refine Below.setCell ?_ ?_ _) | (with_reducible refine bel_call ‹_› ?_ ?_) | go_size)))).mono ?_
            rintro e w4 ⟨rfl, hb4⟩
            go_wp2_with fail
            go_ret
            exact ⟨rfl, hb4⟩
  · have hsi : (200 : Int) < (s.size : Int) := by omega
    clear HOK HRT
    go_enter Tryd.func3, Tryd.ntmps3
    go_wp2_with fail
    refine (HAW.out _ (by (repeat' (first | (with_reducible exact Below.refl _ _) | (with_reducible assumption) | (with_reducible refine Below.alloc ?_ ?_ _) | (with_reducible refine bel_drewN ?_ _) | (with_reducible refine Below.drew ?_) | (with_reducible refine Below.setCell ?_ ?_ _) | (with_reducible refine bel_call ‹_› ?_ ?_) | go_size)))).mono ?_
    rintro e w2 ⟨rfl, hb2⟩
    go_wp2_with fail
    go_ret
    exact ⟨rfl, hb2⟩
end Go.Proofs.YtpggidkcifnhjaaDoor
