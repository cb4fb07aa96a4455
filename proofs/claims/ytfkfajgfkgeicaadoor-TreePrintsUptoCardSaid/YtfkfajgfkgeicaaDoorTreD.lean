/- Trees: Depth, and the document's Depth and Size. -/
import Derived.Test.YtfkfajgfkgeicaaDoorTreC
set_option linter.unusedSimpArgs false
set_option linter.unusedVariables false
namespace Go.Proofs.YtfkfajgfkgeicaaDoor
open Go.RowKit Go.Joins

/-- What a program's tree may be: texts and rows that a machine has, numbers of 64 bits. -/
inductive OkN : Nd → Prop
  | mk (k u : Int) (t : Bs) (f o : Int) (a : List Nd) (h1 : t.length ≤ 9223372036854775807) (h2 : a.length ≤ 9223372036854775807) (h3 : -9223372036854775808 ≤ u ∧ u ≤ 9223372036854775807) (h4 : -9223372036854775808 ≤ f ∧ f ≤ 9223372036854775807) (h5 : -9223372036854775808 ≤ o ∧ o ≤ 9223372036854775807) (h6 : ∀ c ∈ a, OkN c) : OkN (.mk k u t f o a)
theorem OkN.child {n c : Nd} (h : OkN n) (hc : c ∈ n.args) : OkN c := by cases h with | mk k u t f o a h1 h2 h3 h4 h5 h6 => exact h6 c hc
theorem OkN.text {n : Nd} (h : OkN n) : n.text.length ≤ 9223372036854775807 := by cases h with | mk k u t f o a h1 h2 h3 h4 h5 h6 => exact h1
theorem OkN.len {n : Nd} (h : OkN n) : n.args.length ≤ 9223372036854775807 := by cases h with | mk k u t f o a h1 h2 h3 h4 h5 h6 => exact h2
theorem OkN.num {n : Nd} (h : OkN n) : -9223372036854775808 ≤ n.num ∧ n.num ≤ 9223372036854775807 := by cases h with | mk k u t f o a h1 h2 h3 h4 h5 h6 => exact h3
theorem OkN.frm {n : Nd} (h : OkN n) : -9223372036854775808 ≤ n.frm ∧ n.frm ≤ 9223372036854775807 := by cases h with | mk k u t f o a h1 h2 h3 h4 h5 h6 => exact h4
theorem OkN.tor {n : Nd} (h : OkN n) : -9223372036854775808 ≤ n.tor ∧ n.tor ≤ 9223372036854775807 := by cases h with | mk k u t f o a h1 h2 h3 h4 h5 h6 => exact h5
abbrev tPn : TypeId := 37
abbrev tRn : TypeId := 30
def ndA (n : Nd) (p : Option Addr) (len cap : Nat) : Array Value := #[.int .i64 n.kind, .int .i64 n.num, .string ⟨n.text.toArray⟩, .int .i64 n.frm, .int .i64 n.tor, .slice p len cap]
theorem ndA_eq (n : Nd) (p : Option Addr) (len cap : Nat) : Value.agg (ndA n p len cap) = .agg #[.int .i64 n.kind, .int .i64 n.num, .string ⟨n.text.toArray⟩, .int .i64 n.frm, .int .i64 n.tor, .slice p len cap] := rfl
/-- A node in a block of its own. -/
def NdB (t : TypeId) (w : World) (b : Nat) (n : Nd) (p : Option Addr) (len cap : Nat) : Prop := w.heap[b]? = some (.cells (ndA n p len cap) t (0, 0))
theorem NdB.below {t : TypeId} {w w' : World} {b : Nat} {n : Nd} {p : Option Addr} {len cap : Nat} (h : NdB t w b n p len cap) (hb : Below w.heap.size w w') : NdB t w' b n p len cap := (hb.block b (lt_some h)).trans h
theorem NdB.cells {t : TypeId} {w : World} {b : Nat} {n : Nd} {p : Option Addr} {len cap : Nat} (h : NdB t w b n p len cap) : w.cell? ⟨b, 0, none⟩ = some (.int .i64 n.kind) ∧ w.cell? ⟨b, 1, none⟩ = some (.int .i64 n.num) ∧ w.cell? ⟨b, 2, none⟩ = some (.string ⟨n.text.toArray⟩) ∧ w.cell? ⟨b, 3, none⟩ = some (.int .i64 n.frm) ∧ w.cell? ⟨b, 4, none⟩ = some (.int .i64 n.tor) ∧ w.cell? ⟨b, 5, none⟩ = some (.slice p len cap) := by
  refine ⟨?_, ?_, ?_, ?_, ?_, ?_⟩
  all_goals
    rw [cell_of_block h]
    rfl
theorem dpL_ge : ∀ (a : List Nd) (m : Nat), m ≤ dpL a m
  | [], m => by rw [dpL]; exact Nat.le_refl _
  | c :: r, m => by
    rw [dpL]
    exact Nat.le_trans (Nat.le_max_left _ _) (dpL_ge r _)
theorem dpL_at {a : List Nd} {i m : Nat} {c : Nd} (h : a[i]? = some c) : dpL (a.drop i) m = dpL (a.drop (i + 1)) (max m (dpN c)) := by
  obtain ⟨hi, e⟩ := List.getElem?_eq_some_iff.1 h
  rw [List.drop_eq_getElem_cons hi, dpL, e]
theorem mem_at {a : List Nd} {i : Nat} {c : Nd} (h : a[i]? = some c) : c ∈ a := List.mem_of_getElem? h

def DepthC (d : Nat) : Prop := ∀ (n : Nd) (p : Option Addr) (len cap : Nat) (w : World), RdT w w.heap.size d n p len → OkN n → dpN n ≤ 1000000 → Calls Tryd.prog 21 #[.agg (ndA n p len cap)] w fun e w' => e = .returned (.int .i64 (dpN n : Nat)) ∧ Below w.heap.size w w'
set_option maxRecDepth 100000 in
set_option maxHeartbeats 4000000 in
theorem depth_s (d : Nat) (IH : ∀ d', d = d' + 1 → DepthC d') : DepthC d := by
  intro n p len cap w hrd hok hdp
  have hA0 : Hid (NdB tPn (w.alloc (.cells (ndA n p len cap) tPn)) w.heap.size n p len cap) := heap_alloc_new w _
  have hAB : Hid (Below w.heap.size w (w.alloc (.cells (ndA n p len cap) tPn))) := by unfold Hid; (repeat' (first | (with_reducible exact Below.refl _ _) | (with_reducible assumption) | (with_reducible refine Below.alloc ?_ ?_ _) | (with_reducible refine bel_drewN ?_ _) | (with_reducible refine Below.drew ?_) | (with_reducible refine Below.setCell ?_ ?_ _) | (with_reducible refine bel_call ‹_› ?_ ?_) | go_size))
  have HRD := Lib.hid hrd
  have HIH := Lib.hid IH
  have HDP : Hid (dpN n = dpL (n.args.drop 0) 0 + 1) := by unfold Hid; rw [dpN_eq]; rfl
  have hlen := hok.len
  rw [hrd.len] at hlen
  have HAL := Lib.hid hrd.len
  have HOK := Lib.hid (fun c hc => OkN.child (c := c) hok hc)
  generalize dpN n = D at HDP hdp ⊢
  rw [ndA_eq]
  clear hrd IH hok
  go_enter Tryd.func21, Tryd.ntmps21
  go_upto_region 1 with fail
  have e0 : w.alloc (.cells #[.int .i64 n.kind, .int .i64 n.num, .string ⟨n.text.toArray⟩, .int .i64 n.frm, .int .i64 n.tor, .slice p len cap] tPn) = w.alloc (.cells (ndA n p len cap) tPn) := rfl
  rw [e0]
  clear e0
  generalize w.alloc (.cells (ndA n p len cap) tPn) = w0 at hA0 hAB ⊢
  obtain ⟨c0, c1, c2, c3, c4, c5⟩ := hA0.out.cells
  go_wp2_with fail
  clear c0 c1 c2 c3 c4 c5 hA0
  go_loopg [3, 9] len (fun g v3 v9 wr => ∃ i m : Nat, i + g = len ∧ v9 = .int .i64 i ∧ v3 = .int .i64 (m : Int) ∧ D = dpL (n.args.drop i) m + 1 ∧ Below w.heap.size w wr)
  case atStart => exact ⟨0, 0, by omega, rfl, rfl, HDP.out, hAB.out⟩
  case round =>
    obtain ⟨i, m, hig, rfl, rfl, hD, hbel⟩ := hrel
    have HD := Lib.hid hD
    have HBL := Lib.hid hbel
    have hzr := hbel.size
    have hm : m ≤ 1000000 := by have := dpL_ge (n.args.drop i) m; omega
    clear hD hbel HDP
    by_cases hlt : i < len
    · have hli : (i : Int) < (len : Int) := by omega
      obtain ⟨d', b, off, c, p', l', c', hd, rfl, hbN, hc, hrc, q0, q1, q2, q3, q4, q5⟩ := (HRD.out.below HBL.out).at hlt
      have HC : Hid (DepthC d') := HIH.out d' hd
      have HCO := Lib.hid (HOK.out c (mem_at hc))
      have HD2 : Hid (D = dpL (n.args.drop (i + 1)) (max m (dpN c)) + 1) := by unfold Hid; rw [HD.out, dpL_at hc]
      have hcd : dpN c ≤ 1000000 := by
        have := dpL_ge (n.args.drop (i + 1)) (max m (dpN c))
        have := HD2.out
        omega
      have HRC := Lib.hid hrc
      clear hc hrc HD hd
      go_upto_region 5 with fail
      have hA1 : Hid (NdB tPn (wr.alloc (.cells (ndA c p' l' c') tPn)) wr.heap.size c p' l' c') := heap_alloc_new wr _
      have hB1 : Hid (Below w.heap.size w (wr.alloc (.cells (ndA c p' l' c') tPn))) := HBL.out.alloc hzr _
      have HR1 : Hid (RdT (wr.alloc (.cells (ndA c p' l' c') tPn)) w.heap.size d' c p' l') := HRC.out.below (by (repeat' (first | (with_reducible exact Below.refl _ _) | (with_reducible assumption) | (with_reducible refine Below.alloc ?_ ?_ _) | (with_reducible refine bel_drewN ?_ _) | (with_reducible refine Below.drew ?_) | (with_reducible refine Below.setCell ?_ ?_ _) | (with_reducible refine bel_call ‹_› ?_ ?_) | go_size)))
      have e1 : wr.alloc (.cells #[.int .i64 c.kind, .int .i64 c.num, .string ⟨c.text.toArray⟩, .int .i64 c.frm, .int .i64 c.tor, .slice p' l' c'] tPn) = wr.alloc (.cells (ndA c p' l' c') tPn) := rfl
      rw [e1]
      clear e1 HRC HBL q0 q1 q2 q3 q4 q5
      generalize wr.alloc (.cells (ndA c p' l' c') tPn) = w2 at hA1 hB1 HR1 ⊢
      generalize wr.heap.size = b2 at hA1 hzr ⊢
      obtain ⟨c0, c1, c2, c3, c4, c5⟩ := hA1.out.cells
      have HCC := Lib.hid (HC.out c p' l' c' w2 (HR1.out.mono hB1.out.size) HCO.out hcd)
      rw [ndA_eq] at HCC
      generalize dpN c = k at HCC HD2 hcd
      clear HC
      go_wp2_with fail
      refine HCC.out.mono ?_
      rintro e w3 ⟨rfl, hb3⟩
      have hB3 : Hid (Below w.heap.size w w3) := bel_call hb3 hB1.out hB1.out.size
      clear hb3 hB1 c0 c1 c2 c3 c4 c5 hA1 HR1
      go_wp2_with fail
      go_roundg (gk - 1)
      case measure => omega
      case rel => exact ⟨i + 1, max m k, by omega, by go_num, by first | rfl | (congr 1; omega) | (simp; omega), HD2.out, hB3.out⟩
    · obtain rfl : i = len := by omega
      have hli : ¬ (i : Int) < (i : Int) := by omega
      have HDE : Hid (D = m + 1) := by
        unfold Hid
        rw [HD.out, List.drop_eq_nil_of_le (by rw [HAL.out]; exact Nat.le_refl _), dpL]
      go_wp2_with fail
      go_ret
      exact ⟨by rw [HDE.out]; first | rfl | (simp; done), HBL.out⟩
theorem depth_any : ∀ d, DepthC d
  | 0 => depth_s 0 (fun d' h => by omega)
  | d + 1 => depth_s (d + 1) (fun d' h => (show d = d' from by omega) ▸ depth_any d)
def RDepthC (d : Nat) : Prop := ∀ (n : Nd) (p : Option Addr) (len cap : Nat) (w : World), RdT w w.heap.size d n p len → OkN n → dpN n ≤ 1000000 → Calls Tryd.prog 22 #[.agg (ndA n p len cap)] w fun e w' => e = .returned (.int .i64 (dpN n : Nat)) ∧ Below w.heap.size w w'
set_option maxRecDepth 100000 in
set_option maxHeartbeats 4000000 in
theorem rdepth_s (d : Nat) (IH : ∀ d', d = d' + 1 → RDepthC d') : RDepthC d := by
  intro n p len cap w hrd hok hdp
  have hA0 : Hid (NdB tRn (w.alloc (.cells (ndA n p len cap) tRn)) w.heap.size n p len cap) := heap_alloc_new w _
  have hAB : Hid (Below w.heap.size w (w.alloc (.cells (ndA n p len cap) tRn))) := by unfold Hid; (repeat' (first | (with_reducible exact Below.refl _ _) | (with_reducible assumption) | (with_reducible refine Below.alloc ?_ ?_ _) | (with_reducible refine bel_drewN ?_ _) | (with_reducible refine Below.drew ?_) | (with_reducible refine Below.setCell ?_ ?_ _) | (with_reducible refine bel_call ‹_› ?_ ?_) | go_size))
  have HRD := Lib.hid hrd
  have HIH := Lib.hid IH
  have HDP : Hid (dpN n = dpL (n.args.drop 0) 0 + 1) := by unfold Hid; rw [dpN_eq]; rfl
  have hlen := hok.len
  rw [hrd.len] at hlen
  have HAL := Lib.hid hrd.len
  have HOK := Lib.hid (fun c hc => OkN.child (c := c) hok hc)
  generalize dpN n = D at HDP hdp ⊢
  rw [ndA_eq]
  clear hrd IH hok
  go_enter Tryd.func22, Tryd.ntmps22
  go_upto_region 1 with fail
  have e0 : w.alloc (.cells #[.int .i64 n.kind, .int .i64 n.num, .string ⟨n.text.toArray⟩, .int .i64 n.frm, .int .i64 n.tor, .slice p len cap] tRn) = w.alloc (.cells (ndA n p len cap) tRn) := rfl
  rw [e0]
  clear e0
  generalize w.alloc (.cells (ndA n p len cap) tRn) = w0 at hA0 hAB ⊢
  obtain ⟨c0, c1, c2, c3, c4, c5⟩ := hA0.out.cells
  clear c0 c1 c2 c3 c4 c5
  go_wp2_with fail
  go_loopg [3, 4] len (fun g v3 v4 wr => ∃ i m : Nat, i + g = len ∧ v4 = .int .i64 i ∧ v3 = .int .i64 (m : Int) ∧ D = dpL (n.args.drop i) m + 1 ∧ NdB tRn wr w.heap.size n p len cap ∧ Below w.heap.size w wr)
  case atStart => exact ⟨0, 0, by omega, rfl, rfl, HDP.out, hA0.out, hAB.out⟩
  case round =>
    obtain ⟨i, m, hig, rfl, rfl, hD, hnb, hbel⟩ := hrel
    have HD := Lib.hid hD
    have HBL := Lib.hid hbel
    have HNB := Lib.hid hnb
    have hzr := hbel.size
    have hm : m ≤ 1000000 := by have := dpL_ge (n.args.drop i) m; omega
    clear hD hbel HDP hnb hA0 hAB
    obtain ⟨c0, c1, c2, c3, c4, c5⟩ := HNB.out.cells
    by_cases hlt : i < len
    · have hli : (i : Int) < (len : Int) := by omega
      obtain ⟨d', b, off, c, p', l', c', hd, rfl, hbN, hc, hrc, q0, q1, q2, q3, q4, q5⟩ := (HRD.out.below HBL.out).at hlt
      have HC : Hid (RDepthC d') := HIH.out d' hd
      have HCO := Lib.hid (HOK.out c (mem_at hc))
      have HD2 : Hid (D = dpL (n.args.drop (i + 1)) (max m (dpN c)) + 1) := by unfold Hid; rw [HD.out, dpL_at hc]
      have hcd : dpN c ≤ 1000000 := by
        have := dpL_ge (n.args.drop (i + 1)) (max m (dpN c))
        have := HD2.out
        omega
      have HCC := Lib.hid (HC.out c p' l' c' wr (hrc.mono HBL.out.size) HCO.out hcd)
      rw [ndA_eq] at HCC
      generalize dpN c = k at HCC HD2 hcd
      clear HC hc hrc HD hd
      go_wp2_with fail
      refine HCC.out.mono ?_
      rintro e w3 ⟨rfl, hb3⟩
      have hB3 : Hid (Below w.heap.size w w3) := bel_call hb3 HBL.out hzr
      have hN3 := Lib.hid (HNB.out.below hb3)
      clear hb3 c0 c1 c2 c3 c4 c5 q0 q1 q2 q3 q4 q5 HNB HBL HCC
      by_cases hkm : m < k
      · have hki : (m : Int) < (k : Int) := by omega
        go_wp2_with fail
        go_roundg (gk - 1)
        case measure => omega
        case rel => exact ⟨i + 1, k, by omega, by go_num, rfl, by rw [HD2.out, Nat.max_eq_right (by omega)], hN3.out, hB3.out⟩
      · have hki : ¬ (m : Int) < (k : Int) := by omega
        go_wp2_with fail
        go_roundg (gk - 1)
        case measure => omega
        case rel => exact ⟨i + 1, m, by omega, by go_num, rfl, by rw [HD2.out, Nat.max_eq_left (by omega)], hN3.out, hB3.out⟩
    · obtain rfl : i = len := by omega
      have hli : ¬ (i : Int) < (i : Int) := by omega
      have HDE : Hid (D = m + 1) := by
        unfold Hid
        rw [HD.out, List.drop_eq_nil_of_le (by rw [HAL.out]; exact Nat.le_refl _), dpL]
      go_wp2_with fail
      go_ret
      exact ⟨by rw [HDE.out]; first | rfl | (simp; done), HBL.out⟩
theorem rdepth_any : ∀ d, RDepthC d
  | 0 => rdepth_s 0 (fun d' h => by omega)
  | d + 1 => rdepth_s (d + 1) (fun d' h => (show d = d' from by omega) ▸ rdepth_any d)
theorem szL_at {a : List Nd} {i : Nat} {c : Nd} {k m : Int} (h : a[i]? = some c) : szL (a.drop i) k m = if k ≤ m then szL (a.drop (i + 1)) (k + szN c (m - k)) m else k := by
  obtain ⟨hi, e⟩ := List.getElem?_eq_some_iff.1 h
  rw [List.drop_eq_getElem_cons hi, szL, e]
def SizeC (d : Nat) : Prop := ∀ (n : Nd) (p : Option Addr) (len cap : Nat) (m : Int) (w : World), RdT w w.heap.size d n p len → OkN n → -1 ≤ m → m ≤ 100000 → Calls Tryd.prog 28 #[.agg (ndA n p len cap), .int .i64 m] w fun e w' => e = .returned (.int .i64 (szN n m)) ∧ Below w.heap.size w w'
set_option maxRecDepth 100000 in
set_option maxHeartbeats 4000000 in
theorem size_s (d : Nat) (IH : ∀ d', d = d' + 1 → SizeC d') : SizeC d := by
  intro n p len cap m w hrd hok hm0 hm1
  have hA0 : Hid (NdB tRn (w.alloc (.cells (ndA n p len cap) tRn)) w.heap.size n p len cap) := heap_alloc_new w _
  have hAB : Hid (Below w.heap.size w (w.alloc (.cells (ndA n p len cap) tRn))) := by unfold Hid; (repeat' (first | (with_reducible exact Below.refl _ _) | (with_reducible assumption) | (with_reducible refine Below.alloc ?_ ?_ _) | (with_reducible refine bel_drewN ?_ _) | (with_reducible refine Below.drew ?_) | (with_reducible refine Below.setCell ?_ ?_ _) | (with_reducible refine bel_call ‹_› ?_ ?_) | go_size))
  have HRD := Lib.hid hrd
  have HIH := Lib.hid IH
  have HDP : Hid (szN n m = szL (n.args.drop 0) 1 m) := by unfold Hid; rw [szN_eq]; rfl
  have hlen := hok.len
  rw [hrd.len] at hlen
  have HAL := Lib.hid hrd.len
  have HOK := Lib.hid (fun c hc => OkN.child (c := c) hok hc)
  generalize szN n m = D at HDP ⊢
  rw [ndA_eq]
  clear hrd IH hok
  go_enter Tryd.func28, Tryd.ntmps28
  go_upto_region 1 with fail
  have e0 : w.alloc (.cells #[.int .i64 n.kind, .int .i64 n.num, .string ⟨n.text.toArray⟩, .int .i64 n.frm, .int .i64 n.tor, .slice p len cap] tRn) = w.alloc (.cells (ndA n p len cap) tRn) := rfl
  rw [e0]
  clear e0
  generalize w.alloc (.cells (ndA n p len cap) tRn) = w0 at hA0 hAB ⊢
  go_wp2_with fail
  go_loopg [5, 6] len (fun g v5 v6 wr => ∃ (i : Nat) (k : Int), i + g = len ∧ v6 = .int .i64 i ∧ v5 = .int .i64 k ∧ 1 ≤ k ∧ k ≤ max m 0 + 1 ∧ D = szL (n.args.drop i) k m ∧ NdB tRn wr w.heap.size n p len cap ∧ Below w.heap.size w wr)
  case atStart => exact ⟨0, 1, by omega, rfl, rfl, by omega, by omega, HDP.out, hA0.out, hAB.out⟩
  case round =>
    obtain ⟨i, k, hig, rfl, rfl, hk1, hk2, hD, hnb, hbel⟩ := hrel
    have HD := Lib.hid hD
    have HBL := Lib.hid hbel
    have HNB := Lib.hid hnb
    have hzr := hbel.size
    clear hD hbel HDP hnb hA0 hAB
    obtain ⟨c0, c1, c2, c3, c4, c5⟩ := HNB.out.cells
    by_cases hlt : i < len
    · have hli : (i : Int) < (len : Int) := by omega
      obtain ⟨d', b, off, c, p', l', c', hd, rfl, hbN, hc, hrc, q0, q1, q2, q3, q4, q5⟩ := (HRD.out.below HBL.out).at hlt
      by_cases hkm : k ≤ m
      · have HC : Hid (SizeC d') := HIH.out d' hd
        have HCO := Lib.hid (HOK.out c (mem_at hc))
        have HD2 : Hid (D = szL (n.args.drop (i + 1)) (k + szN c (m - k)) m) := by unfold Hid; rw [HD.out, szL_at hc, if_pos hkm]
        have hcz := szN_le c (m - k)
        have HCC := Lib.hid (HC.out c p' l' c' (m - k) wr (hrc.mono HBL.out.size) HCO.out (by omega) (by omega))
        rw [ndA_eq] at HCC
        generalize szN c (m - k) = z at HCC HD2 hcz
        clear HC hc hrc HD hd
        go_wp2_with fail
        refine HCC.out.mono ?_
        rintro e w3 ⟨rfl, hb3⟩
        have hB3 : Hid (Below w.heap.size w w3) := bel_call hb3 HBL.out hzr
        have hN3 := Lib.hid (HNB.out.below hb3)
        clear hb3 c0 c1 c2 c3 c4 c5 q0 q1 q2 q3 q4 q5 HNB HBL HCC
        go_wp2_with fail
        go_roundg (gk - 1)
        case measure => omega
        case rel => exact ⟨i + 1, k + z, by omega, by go_num, by first | rfl | go_num, by omega, by omega, HD2.out, hN3.out, hB3.out⟩
      · have HDE : Hid (D = k) := by unfold Hid; rw [HD.out, szL_at hc, if_neg hkm]
        clear hc hrc
        go_wp2_with fail
        go_ret
        exact ⟨by rw [HDE.out]; rfl, HBL.out⟩
    · obtain rfl : i = len := by omega
      have hli : ¬ (i : Int) < (i : Int) := by omega
      have HDE : Hid (D = k) := by
        unfold Hid
        rw [HD.out, List.drop_eq_nil_of_le (by rw [HAL.out]; exact Nat.le_refl _), szL]
      go_wp2_with fail
      go_ret
      exact ⟨by rw [HDE.out]; rfl, HBL.out⟩
theorem size_any : ∀ d, SizeC d
  | 0 => size_s 0 (fun d' h => by omega)
  | d + 1 => size_s (d + 1) (fun d' h => (show d = d' from by omega) ▸ size_any d)
end Go.Proofs.YtfkfajgfkgeicaaDoor
