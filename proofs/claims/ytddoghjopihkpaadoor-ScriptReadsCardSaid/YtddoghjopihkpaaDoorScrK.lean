/- Script: what is read is plain; Parse. -/
import Derived.Test.YtddoghjopihkpaaDoorScrH
import Derived.Test.YtddoghjopihkpaaDoorScrJ
set_option linter.unusedSimpArgs false
set_option linter.unusedVariables false
namespace Go.Proofs.YtddoghjopihkpaaDoor
open Go.RowKit Go.Joins

/-- A step with plain numbers and short texts. -/
def StOk (m : Nat) (x : Stp) : Prop := ∃ k a C T o n t b, x = stN k a C T o n t b ∧ a ≤ 1048576 ∧ n ≤ 1048576 ∧ t ≤ 1048576 ∧ b ≤ 255 ∧ C.length ≤ m ∧ T.length ≤ m
theorem nmF_le : ∀ (L : Bs) (n v : Nat), n ≤ 1048576 → nmF n L = some v → v ≤ 1048576
  | [], n, v, hn, h => by cases h; exact hn
  | c :: r, n, v, hn, h => by
    unfold nmF at h
    split at h
    · rename_i hc
      exact nmF_le r _ v hc.2.2 h
    · cases h
theorem nmb_le {L : Bs} {v : Nat} (h : nmb L = some v) : v ≤ 1048576 := by
  unfold nmb at h
  split at h
  · cases h
  · split at h
    · cases h
    · exact nmF_le L 0 v (by omega) h
theorem nums_le : ∀ (P : List Bs) (l : List Nat), nums P = some l → ∀ v ∈ l, v ≤ 1048576
  | [], l, h, v, hv => by cases h; cases hv
  | x :: r, l, h, v, hv => by
    unfold nums at h
    cases h1 : nmb x with
    | none => rw [h1] at h; cases h
    | some n =>
      cases h2 : nums r with
      | none => rw [h1, h2] at h; cases h
      | some t =>
        rw [h1, h2] at h
        cases h
        rcases List.mem_cons.1 hv with rfl | hv
        · exact nmb_le h1
        · exact nums_le r t h2 v hv
theorem nbs_le {k : Nat} {L : Bs} {l : List Nat} (h : nbs k L = some l) (j : Nat) : l.getD j 0 ≤ 1048576 := by
  unfold nbs at h
  split at h
  · rw [List.getD_eq_getElem?_getD]
    cases hj : l[j]? with
    | none => simp
    | some v => exact nums_le _ _ h v (List.mem_of_getElem? hj)
  · cases h
theorem StOk.mono {m m' : Nat} {x : Stp} (h : StOk m x) (hm : m ≤ m') : StOk m' x := by
  obtain ⟨k, a, C, T, o, n, t, b, rfl, h1, h2, h3, h4, h5, h6⟩ := h
  exact ⟨k, a, C, T, o, n, t, b, rfl, h1, h2, h3, h4, by omega, by omega⟩
theorem st0_ok (m : Nat) : StOk m st0 := ⟨0, 0, [], [], false, 0, 0, 0, rfl, by omega, by omega, by omega, by omega, by simp, by simp⟩
theorem lines_ok (m : Nat) (L : Bs) (x : Stp) (h : StOk m x) : StOk m (linesS L x).1 := by
  unfold linesS
  split
  · rename_i l hl
    split
    · obtain ⟨k, a, C, T, o, n, t, b, rfl, h1, h2, h3, h4, h5, h6⟩ := h
      exact ⟨k, a, C, T, _, l.getD 0 0, t, b, rfl, h1, nbs_le hl 0, h3, h4, h5, h6⟩
    · exact h
  · exact h
theorem ed_ok (who : Nat) (hw : who ≤ 1048576) (L : Bs) : StOk L.length (edS (who : Int) L).1 := by
  have base : ∀ k : Int, StOk L.length ⟨k, (who : Int), [], [], false, 0, 0, 0⟩ := fun k => ⟨k, who, [], [], false, 0, 0, 0, rfl, hw, by omega, by omega, by omega, by simp, by simp⟩
  unfold edS
  split
  · refine ⟨0, who, wd (rs L), rs (rs L), false, 0, 0, 0, rfl, hw, by omega, by omega, by omega, ?_, ?_⟩
    · exact Nat.le_trans (wd_len _) (rs_len _)
    · exact Nat.le_trans (rs_len _) (rs_len _)
  · split
    · exact lines_ok _ _ _ (base 1)
    · split
      · exact lines_ok _ _ _ (base 2)
      · split
        · exact base 9
        · split
          · split
            · rename_i l hl
              exact ⟨7, who, [], [], false, 0, l.getD 0 0, 0, rfl, hw, by omega, nbs_le hl 0, by omega, by simp, by simp⟩
            · exact base 0
          · split
            · split
              · rename_i l hl
                exact ⟨8, who, [], [], false, 0, l.getD 0 0, 0, rfl, hw, by omega, nbs_le hl 0, by omega, by simp, by simp⟩
              · exact base 0
            · exact base 0
theorem tl_ok (F R : Bs) : StOk R.length (tlS (nmb F) R).s := by
  cases h : nmb F with
  | none => exact st0_ok _
  | some m => exact ed_ok m (nmb_le h) R
theorem more_ok (F R : Bs) : StOk R.length (moreS F R).s := by
  unfold moreS
  split
  · rename_i l hl
    split
    · exact ⟨pkN F, 0, [], [], false, l.getD 0 0, 0, 0, rfl, by omega, nbs_le hl 0, by omega, by omega, by simp, by simp⟩
    · split
      · exact ⟨0, l.getD 0 0, [], [], false, 0, 0, 0, rfl, nbs_le hl 0, by omega, by omega, by omega, by simp, by simp⟩
      · exact tl_ok F R
  · exact tl_ok F R
theorem sp_ok (m : Nat) (R : Bs) : StOk m (spS (nbs 3 R)).s := by
  cases h : nbs 3 R with
  | none => exact st0_ok _
  | some l =>
    unfold spS
    simp only
    split
    · exact st0_ok _
    · rename_i hq
      exact ⟨6, 0, [], [], false, l.getD 0 0, l.getD 1 0, l.getD 2 0, rfl, by omega, nbs_le h 0, nbs_le h 1, by omega, by simp, by simp⟩
theorem ce_ok (k : Int) (L C : Bs) (m : Nat) (hC : C.length ≤ m) : StOk m (ceS k (nbs 1 L) C).s := by
  cases h : nbs 1 L with
  | none => exact st0_ok _
  | some l => exact ⟨0, l.getD 0 0, C, [], false, 0, 0, 0, rfl, nbs_le h 0, by omega, by omega, by omega, hC, by simp⟩
theorem read_ok (L : Bs) : StOk L.length (readS L).s := by
  have hr := rs_len L
  have hrr : (rs (rs L)).length ≤ L.length := Nat.le_trans (rs_len _) hr
  unfold readS readF
  split
  · exact st0_ok _
  · split
    · exact st0_ok _
    · split
      · exact st0_ok _
      · split
        · exact sp_ok _ _
        · split
          · exact ce_ok _ _ _ _ hrr
          · split
            · exact ce_ok _ _ _ _ hrr
            · exact (more_ok _ _).mono hr
/-- A line's text, by its step. -/
def txX (kk : Int) (x : Stp) : Bs := lnT kk x.k x.who.toNat x.cell x.text x.cols x.n.toNat x.tor.toNat x.bits.toNat
theorem txX_n (kk k : Int) (a : Nat) (C T : Bs) (o : Bool) (n t b : Nat) : txX kk (stN k a C T o n t b) = lnT kk k a C T o n t b := rfl
theorem text_any (kk : Int) (x : Stp) (hx : StOk 10000 x) (w : World) :
    Calls Tryd.prog 10 #[.agg (lnC kk x)] w fun e w' => e = .returned (.string ⟨(txX kk x).toArray⟩) ∧ Below w.heap.size w w' := by
  obtain ⟨k, a, C, T, o, n, t, b, rfl, h1, h2, h3, h4, h5, h6⟩ := hx
  rw [txX_n]
  exact lineT_any kk k a C T o n t b (by omega) (by omega) (by omega) h4 h5 h6 w
def erN : Bool → Int
  | true => 0
  | false => 1
def parseS (L : Bs) : Lnx := if (readS L).ok = true ∧ txX (readS L).k (readS L).s = L then readS L else ⟨0, st0, false⟩

set_option maxRecDepth 100000 in
set_option maxHeartbeats 8000000 in
theorem parse_any (L : Bs) (hL : L.length ≤ 10000) (w : World) (hsh : w.ShapedOpen Tryd.prog) :
    Calls Tryd.prog 8 #[.string ⟨L.toArray⟩] w fun e w' => e = .returned (.tuple #[.agg (lnC (parseS L).k (parseS L).s), .int .i64 (erN (parseS L).ok)]) ∧ Below w.heap.size w w' := by
  have HR := Lib.hid (fun W (hW : Below w.heap.size w W) => read_any L (by omega) W (shaped_bel hsh hW))
  have HT := Lib.hid (fun W => text_any (readS L).k (readS L).s ((read_ok L).mono hL) W)
  obtain ⟨O, hO⟩ : ∃ O, parseS L = O := ⟨_, rfl⟩
  have HO := Lib.hid hO
  unfold parseS at HO
  rw [hO]
  clear hO
  generalize txX (readS L).k (readS L).s = X at HT HO
  generalize readS L = Y at HR HT HO
  obtain ⟨yk, ys, yok⟩ := Y
  simp only at HR HT HO
  have hA0 : Hid (LnB (w.alloc (.cells (lnC 0 st0) tLn)) w.heap.size 0 st0) := heap_alloc_new w _
  have hAB : Hid (Below w.heap.size w (w.alloc (.cells (lnC 0 st0) tLn))) := by unfold Hid; (repeat' (first | (with_reducible exact Below.refl _ _) | (with_reducible assumption) | (with_reducible refine Below.alloc ?_ ?_ _) | (with_reducible refine bel_drewN ?_ _) | (with_reducible refine Below.drew ?_) | (with_reducible refine Below.setCell ?_ ?_ _) | (with_reducible refine bel_call ‹_› ?_ ?_) | go_size))
  have hAz : (w.alloc (.cells (lnC 0 st0) tLn)).heap.size = w.heap.size + 1 := by simp
  go_enter Tryd.func8, Tryd.ntmps8
  go_upto_region 1 with fail
  have e0 : w.alloc (.cells #[.int .i64 0, .int .i64 0, .int .i64 0, .string ⟨#[]⟩, .string ⟨#[]⟩, .bool false, .int .i64 0, .int .i64 0, .int .u8 0] tLn) = w.alloc (.cells (lnC 0 st0) tLn) := rfl
  rw [e0]
  clear e0
  generalize w.alloc (.cells (lnC 0 st0) tLn) = w0 at hA0 hAB hAz ⊢
  have hY : Value.agg (lnC yk ys) = .agg #[.int .i64 yk, .int .i64 ys.k, .int .i64 ys.who, .string ⟨ys.cell.toArray⟩, .string ⟨ys.text.toArray⟩, .bool ys.cols, .int .i64 ys.n, .int .i64 ys.tor, .int .u8 ys.bits] := rfl
  rw [hY] at HR
  clear hY
  go_wp2_with fail
  refine (HR.out w0 hAB.out).mono ?_
  rintro e w1 ⟨rfl, hb1⟩
  have hB1 : Hid (Below w.heap.size w w1) := bel_call hb1 hAB.out (by omega)
  have hC0 := Lib.hid (hA0.out.below hb1)
  have hz1 := hb1.size
  clear hA0 hAB hb1 HR
  go_upto_region 2 with fail
  have e1 : w1.alloc (.cells #[.int .i64 yk, .int .i64 ys.k, .int .i64 ys.who, .string ⟨ys.cell.toArray⟩, .string ⟨ys.text.toArray⟩, .bool ys.cols, .int .i64 ys.n, .int .i64 ys.tor, .int .u8 ys.bits] tLn) = w1.alloc (.cells (lnC yk ys) tLn) := rfl
  rw [e1]
  clear e1
  have hD0 : Hid (LnB (w1.alloc (.cells (lnC yk ys) tLn)) w.heap.size 0 st0) := hC0.out.below (by (repeat' (first | (with_reducible exact Below.refl _ _) | (with_reducible assumption) | (with_reducible refine Below.alloc ?_ ?_ _) | (with_reducible refine bel_drewN ?_ _) | (with_reducible refine Below.drew ?_) | (with_reducible refine Below.setCell ?_ ?_ _) | (with_reducible refine bel_call ‹_› ?_ ?_) | go_size)))
  have hD1 : Hid (LnB (w1.alloc (.cells (lnC yk ys) tLn)) w1.heap.size yk ys) := heap_alloc_new w1 _
  have hB : Hid (Below w.heap.size w (w1.alloc (.cells (lnC yk ys) tLn))) := hB1.out.alloc (by omega) _
  have hz2 : (w1.alloc (.cells (lnC yk ys) tLn)).heap.size = w1.heap.size + 1 := by simp
  generalize w1.alloc (.cells (lnC yk ys) tLn) = w2 at hD0 hD1 hB hz2 ⊢
  have hbb : w.heap.size + 1 ≤ w1.heap.size := by omega
  clear hC0 hB1
  generalize w1.heap.size = bb at hD1 hz2 hbb hz1 ⊢
  clear hz1
  obtain ⟨c0, c1, c2, c3, c4, c5, c6, c7, c8⟩ := hD0.out.cells
  obtain ⟨d0, d1, d2, d3, d4, d5, d6, d7, d8⟩ := hD1.out.cells
  obtain ⟨f0, f1, f2, f3, f4, f5, f6, f7, f8⟩ := hD0.out.fz
  cases yok
  · have HO2 : Hid (O = ⟨0, st0, false⟩) := by unfold Hid; rw [← HO.out, if_neg (fun h => by cases h.1)]
    clear HO HT
    go_wp2_with fail
    refine bodyPost_ret (v := .tuple #[.agg (lnC 0 st0), .int .i64 1]) (by simp only [results, Tryd.results8]; go_simp; rfl) rfl ⟨?_, by have := hB.out; (repeat' (first | (with_reducible exact Below.refl _ _) | (with_reducible assumption) | (with_reducible refine Below.alloc ?_ ?_ _) | (with_reducible refine bel_drewN ?_ _) | (with_reducible refine Below.drew ?_) | (with_reducible refine Below.setCell ?_ ?_ _) | (with_reducible refine bel_call ‹_› ?_ ?_) | go_size))⟩
    rw [HO2.out]
    rfl
  · by_cases hXL : X = L
    · have HO2 : Hid (O = ⟨yk, ys, true⟩) := by unfold Hid; rw [← HO.out, if_pos ⟨rfl, hXL⟩]
      subst hXL
      clear HO
      generalize (⟨X.toArray⟩ : ByteArray) = A at HT ⊢
      go_wp2_with fail
      refine (HT.out _).mono ?_
      rintro e w3 ⟨rfl, hb3⟩
      obtain ⟨hc3, hf3, hz3⟩ := bcell hb3 (by first | (simp only [World.size_alloc, World.size_setCell, World.size_drew]; rfl) | rfl)
      go_wp2_with fail
      refine bodyPost_ret (v := .tuple #[.agg (lnC yk ys), .int .i64 0]) (by simp only [results, Tryd.results8]; go_simp; rfl) rfl ⟨?_, by have := hB.out; (repeat' (first | (with_reducible exact Below.refl _ _) | (with_reducible assumption) | (with_reducible refine Below.alloc ?_ ?_ _) | (with_reducible refine bel_drewN ?_ _) | (with_reducible refine Below.drew ?_) | (with_reducible refine Below.setCell ?_ ?_ _) | (with_reducible refine bel_call ‹_› ?_ ?_) | go_size))⟩
      rw [HO2.out]
      rfl
    · have HO2 : Hid (O = ⟨0, st0, false⟩) := by unfold Hid; rw [← HO.out, if_neg (fun h => hXL h.2)]
      have hq : ((⟨X.toArray⟩ : ByteArray).toList == (⟨L.toArray⟩ : ByteArray).toList) = false := by
        rw [Lib.toList_data, Lib.toList_data]
        simpa using hXL
      clear HO hXL
      generalize (⟨X.toArray⟩ : ByteArray) = A at HT hq ⊢
      generalize (⟨L.toArray⟩ : ByteArray) = B at hq ⊢
      go_wp2_with fail
      refine (HT.out _).mono ?_
      rintro e w3 ⟨rfl, hb3⟩
      obtain ⟨hc3, hf3, hz3⟩ := bcell hb3 (by first | (simp only [World.size_alloc, World.size_setCell, World.size_drew]; rfl) | rfl)
      go_wp2_with fail
      refine bodyPost_ret (v := .tuple #[.agg (lnC 0 st0), .int .i64 1]) (by simp only [results, Tryd.results8]; go_simp; rfl) rfl ⟨?_, by have := hB.out; (repeat' (first | (with_reducible exact Below.refl _ _) | (with_reducible assumption) | (with_reducible refine Below.alloc ?_ ?_ _) | (with_reducible refine bel_drewN ?_ _) | (with_reducible refine Below.drew ?_) | (with_reducible refine Below.setCell ?_ ?_ _) | (with_reducible refine bel_call ‹_› ?_ ?_) | go_size))⟩
      rw [HO2.out]
      rfl
end Go.Proofs.YtddoghjopihkpaaDoor
