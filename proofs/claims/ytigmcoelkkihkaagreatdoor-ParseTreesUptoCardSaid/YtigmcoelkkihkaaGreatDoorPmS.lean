/- Trees over cells: rows, blocks, Depth. Turned by gen_cel.py out of the texts on trees over numbers. Trees over cells: rows of parts. Turned by gen_cel.py out of the texts on trees over numbers. Trees: token.Quote. Printed by gen_treu.py. -/
import Derived.Test.YtigmcoelkkihkaaGreatDoorPmM
import Derived.Test.YtigmcoelkkihkaaGreatDoorPmC
import Derived.Test.YtigmcoelkkihkaaGreatDoorPmF
import Derived.Lib.Replace
import Derived.Lib.ReplaceLaws
set_option linter.unusedSimpArgs false
set_option linter.unusedVariables false
namespace Go.Proofs.YtigmcoelkkihkaaGreatDoor.Cel
open Go.RowKit Go.Joins

/-- A node's cells. -/
def ndC (n : Nd) (p : Option Addr) (len cap : Nat) : List Value := [.int .i64 n.kind, .int .i64 n.num, .string ⟨n.text.toArray⟩, .int .i64 (cC n.frm), .int .i64 (cR n.frm), .int .i64 (cC n.tor), .int .i64 (cR n.tor), .slice p len cap]
/-- A node whose parts lie in blocks below N, as far as so deep. -/
def RdT (w : World) (N : Nat) : Nat → Nd → Option Addr → Nat → Prop
  | 0, n, p, len => n.args = [] ∧ len = 0
  | d + 1, n, p, len => n.args.length = len ∧ (len = 0 ∨ ∃ b off, p = some ⟨b, off, none⟩ ∧ b < N ∧ ∀ j c, n.args[j]? = some c → ∃ p' l' c', (∀ k u, (ndC c p' l' c')[k]? = some u → w.cell? ⟨b, off + j * 8 + k, none⟩ = some u) ∧ RdT w N d c p' l')
theorem RdT.below {w w' : World} {N : Nat} (hb : Below N w w') : ∀ {d : Nat} {n : Nd} {p : Option Addr} {len : Nat}, RdT w N d n p len → RdT w' N d n p len
  | 0, _, _, _, h => h
  | d + 1, n, p, len, h => by
    obtain ⟨h1, h2⟩ := h
    refine ⟨h1, ?_⟩
    rcases h2 with h2 | ⟨b, off, h3, h4, h5⟩
    · exact .inl h2
    · refine .inr ⟨b, off, h3, h4, fun j c hc => ?_⟩
      obtain ⟨p', l', c', h6, h7⟩ := h5 j c hc
      exact ⟨p', l', c', fun k u hu => (hb.cell (p := ⟨b, off + j * 8 + k, none⟩) h4).trans (h6 k u hu), RdT.below hb h7⟩
theorem RdT.mono {w : World} {N N' : Nat} (hN : N ≤ N') : ∀ {d : Nat} {n : Nd} {p : Option Addr} {len : Nat}, RdT w N d n p len → RdT w N' d n p len
  | 0, _, _, _, h => h
  | d + 1, n, p, len, h => by
    obtain ⟨h1, h2⟩ := h
    refine ⟨h1, ?_⟩
    rcases h2 with h2 | ⟨b, off, h3, h4, h5⟩
    · exact .inl h2
    · refine .inr ⟨b, off, h3, Nat.lt_of_lt_of_le h4 hN, fun j c hc => ?_⟩
      obtain ⟨p', l', c', h6, h7⟩ := h5 j c hc
      exact ⟨p', l', c', h6, RdT.mono hN h7⟩
theorem RdT.len {w : World} {N d : Nat} {n : Nd} {p : Option Addr} {len : Nat} (h : RdT w N d n p len) : n.args.length = len := by
  cases d with
  | zero => rw [h.1, h.2]; rfl
  | succ d => exact h.1
/-- A part's cells. -/
theorem RdT.at {w : World} {N d : Nat} {n : Nd} {p : Option Addr} {len : Nat} (h : RdT w N d n p len) {j : Nat} (hj : j < len) : ∃ d' b off c p' l' c', d = d' + 1 ∧ p = some ⟨b, off, none⟩ ∧ b < N ∧ n.args[j]? = some c ∧ RdT w N d' c p' l' ∧ w.cell? ⟨b, off + j * 8, none⟩ = some (.int .i64 c.kind) ∧ w.cell? ⟨b, off + j * 8 + 1, none⟩ = some (.int .i64 c.num) ∧ w.cell? ⟨b, off + j * 8 + 2, none⟩ = some (.string ⟨c.text.toArray⟩) ∧ w.cell? ⟨b, off + j * 8 + 3, none⟩ = some (.int .i64 (cC c.frm)) ∧ w.cell? ⟨b, off + j * 8 + 4, none⟩ = some (.int .i64 (cR c.frm)) ∧ w.cell? ⟨b, off + j * 8 + 5, none⟩ = some (.int .i64 (cC c.tor)) ∧ w.cell? ⟨b, off + j * 8 + 6, none⟩ = some (.int .i64 (cR c.tor)) ∧ w.cell? ⟨b, off + j * 8 + 7, none⟩ = some (.slice p' l' c') := by
  cases d with
  | zero => rw [h.2] at hj; omega
  | succ d =>
    obtain ⟨h1, h2⟩ := h
    rcases h2 with h2 | ⟨b, off, h3, h4, h5⟩
    · omega
    · obtain ⟨c, hc⟩ : ∃ c, n.args[j]? = some c := ⟨_, List.getElem?_eq_getElem (by omega)⟩
      obtain ⟨p', l', c', h6, h7⟩ := h5 j c hc
      exact ⟨d, b, off, c, p', l', c', rfl, h3, h4, hc, h7, h6 0 _ rfl, h6 1 _ rfl, h6 2 _ rfl, h6 3 _ rfl, h6 4 _ rfl, h6 5 _ rfl, h6 6 _ rfl, h6 7 _ rfl⟩
abbrev tPn : TypeId := 34
def ndA (n : Nd) (p : Option Addr) (len cap : Nat) : Array Value := #[.int .i64 n.kind, .int .i64 n.num, .string ⟨n.text.toArray⟩, .int .i64 (cC n.frm), .int .i64 (cR n.frm), .int .i64 (cC n.tor), .int .i64 (cR n.tor), .slice p len cap]
theorem ndA_eq (n : Nd) (p : Option Addr) (len cap : Nat) : Value.agg (ndA n p len cap) = .agg #[.int .i64 n.kind, .int .i64 n.num, .string ⟨n.text.toArray⟩, .int .i64 (cC n.frm), .int .i64 (cR n.frm), .int .i64 (cC n.tor), .int .i64 (cR n.tor), .slice p len cap] := rfl
/-- A node in a block of its own. -/
def NdB (t : TypeId) (w : World) (b : Nat) (n : Nd) (p : Option Addr) (len cap : Nat) : Prop := w.heap[b]? = some (.cells (ndA n p len cap) t (0, 0))
theorem NdB.below {t : TypeId} {w w' : World} {b : Nat} {n : Nd} {p : Option Addr} {len cap : Nat} (h : NdB t w b n p len cap) (hb : Below w.heap.size w w') : NdB t w' b n p len cap := (hb.block b (lt_some h)).trans h
theorem NdB.cells {t : TypeId} {w : World} {b : Nat} {n : Nd} {p : Option Addr} {len cap : Nat} (h : NdB t w b n p len cap) : w.cell? ⟨b, 0, none⟩ = some (.int .i64 n.kind) ∧ w.cell? ⟨b, 1, none⟩ = some (.int .i64 n.num) ∧ w.cell? ⟨b, 2, none⟩ = some (.string ⟨n.text.toArray⟩) ∧ w.cell? ⟨b, 3, none⟩ = some (.int .i64 (cC n.frm)) ∧ w.cell? ⟨b, 4, none⟩ = some (.int .i64 (cR n.frm)) ∧ w.cell? ⟨b, 5, none⟩ = some (.int .i64 (cC n.tor)) ∧ w.cell? ⟨b, 6, none⟩ = some (.int .i64 (cR n.tor)) ∧ w.cell? ⟨b, 7, none⟩ = some (.slice p len cap) := by
  refine ⟨?_, ?_, ?_, ?_, ?_, ?_, ?_, ?_⟩
  all_goals
    rw [cell_of_block h]
    rfl
def DepthC (d : Nat) : Prop := ∀ (n : Nd) (p : Option Addr) (len cap : Nat) (w : World), RdT w w.heap.size d n p len → OkN n → dpN n ≤ 1000000 → Calls Tryz.prog 26 #[.agg (ndA n p len cap)] w fun e w' => e = .returned (.int .i64 (dpN n : Nat)) ∧ Below w.heap.size w w'
set_option maxRecDepth 100000 in
set_option maxHeartbeats 4000000 in
theorem depth_s (d : Nat) (IH : ∀ d', d = d' + 1 → DepthC d') : DepthC d := by
  intro n p len cap w hrd hok hdp
  have hA0 : Hid (NdB tPn (w.alloc (.cells (ndA n p len cap) tPn)) w.heap.size n p len cap) := heap_alloc_new w _
  have hAB : Hid (Below w.heap.size w (w.alloc (.cells (ndA n p len cap) tPn))) := by unfold Hid; (repeat' (first | (with_reducible exact Below.refl _ _) | (with_reducible assumption) | (with_reducible refine Below.alloc ?_ ?_ _) | (with_reducible refine bel_drewN ?_ _) | (with_reducible refine Below.drew ?_) | (with_reducible refine Below.setCell ?_ ?_ _) | (with_reducible refine bel_call ‹_› ?_ ?_) | go_size))
  have HRD := Lib.hid hrd
  have HIH := Lib.hid IH
  have HDP : Hid (dpN n = dpL (n.args.drop 0) 0 + 1) := by unfold Hid; rw [dpN_eq]; rfl
  have hlen := hok.len
  rw [hrd.len] at hlen
  have HAL := Lib.hid hrd.len
  have HOK := Lib.hid (fun c hc => OkN.child (c := c) hok hc)
  generalize dpN n = D at HDP hdp ⊢
  rw [ndA_eq]
  clear hrd IH hok
  go_enter Tryz.func26, Tryz.ntmps26
  go_upto_region 1 with fail
  have e0 : w.alloc (.cells #[.int .i64 n.kind, .int .i64 n.num, .string ⟨n.text.toArray⟩, .int .i64 (cC n.frm), .int .i64 (cR n.frm), .int .i64 (cC n.tor), .int .i64 (cR n.tor), .slice p len cap] tPn) = w.alloc (.cells (ndA n p len cap) tPn) := rfl
  rw [e0]
  clear e0
  generalize w.alloc (.cells (ndA n p len cap) tPn) = w0 at hA0 hAB ⊢
  obtain ⟨c0, c1, c2, c3, cd3, c4, cd4, c5⟩ := hA0.out.cells
  go_wp2_with fail
  clear c0 c1 c2 c3 cd3 c4 cd4 c5 hA0
  go_loopg [3, 9] len (fun g v3 v9 wr => ∃ i m : Nat, i + g = len ∧ v9 = .int .i64 i ∧ v3 = .int .i64 (m : Int) ∧ D = dpL (n.args.drop i) m + 1 ∧ Below w.heap.size w wr)
  case atStart => exact ⟨0, 0, by omega, rfl, rfl, HDP.out, hAB.out⟩
  case round =>
    obtain ⟨i, m, hig, rfl, rfl, hD, hbel⟩ := hrel
    have HD := Lib.hid hD
    have HBL := Lib.hid hbel
    have hzr := hbel.size
    have hm : m ≤ 1000000 := by have := dpL_ge (n.args.drop i) m; omega
    clear hD hbel HDP
    by_cases hlt : i < len
    · have hli : (i : Int) < (len : Int) := by omega
      obtain ⟨d', b, off, c, p', l', c', hd, rfl, hbN, hc, hrc, q0, q1, q2, q3, qd3, q4, qd4, q5⟩ := (HRD.out.below HBL.out).at hlt
      have HC : Hid (DepthC d') := HIH.out d' hd
      have HCO := Lib.hid (HOK.out c (mem_at hc))
      have HD2 : Hid (D = dpL (n.args.drop (i + 1)) (max m (dpN c)) + 1) := by unfold Hid; rw [HD.out, dpL_at hc]
      have hcd : dpN c ≤ 1000000 := by
        have := dpL_ge (n.args.drop (i + 1)) (max m (dpN c))
        have := HD2.out
        omega
      have HRC := Lib.hid hrc
      clear hc hrc HD hd
      go_upto_region 5 with fail
      have hA1 : Hid (NdB tPn (wr.alloc (.cells (ndA c p' l' c') tPn)) wr.heap.size c p' l' c') := heap_alloc_new wr _
      have hB1 : Hid (Below w.heap.size w (wr.alloc (.cells (ndA c p' l' c') tPn))) := HBL.out.alloc hzr _
      have HR1 : Hid (RdT (wr.alloc (.cells (ndA c p' l' c') tPn)) w.heap.size d' c p' l') := HRC.out.below (by (repeat' (first | (with_reducible exact Below.refl _ _) | (with_reducible assumption) | (with_reducible refine Below.alloc ?_ ?_ _) | (with_reducible refine bel_drewN ?_ _) | (with_reducible refine Below.drew ?_) | (with_reducible refine Below.setCell ?_ ?_ _) | (with_reducible refine bel_call ‹_› ?_ ?_) | go_size)))
      have e1 : wr.alloc (.cells #[.int .i64 c.kind, .int .i64 c.num, .string ⟨c.text.toArray⟩, .int .i64 (cC c.frm), .int .i64 (cR c.frm), .int .i64 (cC c.tor), .int .i64 (cR c.tor), .slice p' l' c'] tPn) = wr.alloc (.cells (ndA c p' l' c') tPn) := rfl
      rw [e1]
      clear e1 HRC HBL q0 q1 q2 q3 qd3 q4 qd4 q5
      generalize wr.alloc (.cells (ndA c p' l' c') tPn) = w2 at hA1 hB1 HR1 ⊢
      generalize wr.heap.size = b2 at hA1 hzr ⊢
      obtain ⟨c0, c1, c2, c3, cd3, c4, cd4, c5⟩ := hA1.out.cells
      have HCC := Lib.hid (HC.out c p' l' c' w2 (HR1.out.mono hB1.out.size) HCO.out hcd)
      rw [ndA_eq] at HCC
      generalize dpN c = k at HCC HD2 hcd
      clear HC
      go_wp2_with fail
      refine HCC.out.mono ?_
      rintro e w3 ⟨rfl, hb3⟩
      have hB3 : Hid (Below w.heap.size w w3) := bel_call hb3 hB1.out hB1.out.size
      clear hb3 hB1 c0 c1 c2 c3 cd3 c4 cd4 c5 hA1 HR1
      go_wp2_with fail
      go_roundg (gk - 1)
      case measure => omega
      case rel => exact ⟨i + 1, max m k, by omega, by go_num, by first | rfl | (congr 1; omega) | (simp; omega), HD2.out, hB3.out⟩
    · obtain rfl : i = len := by omega
      have hli : ¬ (i : Int) < (i : Int) := by omega
      have HDE : Hid (D = m + 1) := by
        unfold Hid
        rw [HD.out, List.drop_eq_nil_of_le (by rw [HAL.out]; exact Nat.le_refl _), dpL]
      go_wp2_with fail
      go_ret
      exact ⟨by rw [HDE.out]; first | rfl | (simp; done), HBL.out⟩
theorem depth_any : ∀ d, DepthC d
  | 0 => depth_s 0 (fun d' h => by omega)
  | d + 1 => depth_s (d + 1) (fun d' h => (show d = d' from by omega) ▸ depth_any d)
end Go.Proofs.YtigmcoelkkihkaaGreatDoor.Cel
namespace Go.Proofs.YtigmcoelkkihkaaGreatDoor.Cel
open Go.RowKit Go.Joins

/-- As RdT; the blocks that are read meet 'ok'. -/
def RdP (w : World) (ok : Nat → Prop) : Nat → Nd → Option Addr → Nat → Prop
  | 0, n, p, len => n.args = [] ∧ len = 0
  | d + 1, n, p, len => n.args.length = len ∧ (len = 0 ∨ ∃ b off, p = some ⟨b, off, none⟩ ∧ ok b ∧ ∀ j c, n.args[j]? = some c → ∃ p' l' c', (∀ k u, (ndC c p' l' c')[k]? = some u → w.cell? ⟨b, off + j * 8 + k, none⟩ = some u) ∧ RdP w ok d c p' l')
theorem RdP.carry {w w' : World} {ok ok' : Nat → Prop} (hb : ∀ b, ok b → ok' b ∧ w'.heap[b]? = w.heap[b]?) : ∀ {d : Nat} {n : Nd} {p : Option Addr} {len : Nat}, RdP w ok d n p len → RdP w' ok' d n p len
  | 0, _, _, _, h => h
  | d + 1, n, p, len, h => by
    obtain ⟨h1, h2⟩ := h
    refine ⟨h1, ?_⟩
    rcases h2 with h2 | ⟨b, off, h3, h4, h5⟩
    · exact .inl h2
    · refine .inr ⟨b, off, h3, (hb b h4).1, fun j c hc => ?_⟩
      obtain ⟨p', l', c', h6, h7⟩ := h5 j c hc
      refine ⟨p', l', c', fun k u hu => ?_, RdP.carry hb h7⟩
      have := h6 k u hu
      simp only [World.cell?, (hb b h4).2] at this ⊢
      exact this
theorem RdP.rdT {w : World} {ok : Nat → Prop} {N : Nat} (hb : ∀ b, ok b → b < N) : ∀ {d : Nat} {n : Nd} {p : Option Addr} {len : Nat}, RdP w ok d n p len → RdT w N d n p len
  | 0, _, _, _, h => h
  | d + 1, n, p, len, h => by
    obtain ⟨h1, h2⟩ := h
    refine ⟨h1, ?_⟩
    rcases h2 with h2 | ⟨b, off, h3, h4, h5⟩
    · exact .inl h2
    · refine .inr ⟨b, off, h3, hb b h4, fun j c hc => ?_⟩
      obtain ⟨p', l', c', h6, h7⟩ := h5 j c hc
      exact ⟨p', l', c', h6, RdP.rdT hb h7⟩
/-- A part that is built, and where its parts lie. -/
abbrev Kid := Nd × Option Addr × Nat × Nat
def kidC (q : Kid) : List Value := ndC q.1 q.2.1 q.2.2.1 q.2.2.2
theorem kidC_len (q : Kid) : (kidC q).length = 8 := rfl
theorem kidC_one (q : Kid) : ∀ u ∈ kidC q, u.oneCell' = true := by
  intro u hu
  simp only [kidC, ndC, List.mem_cons, List.not_mem_nil, or_false] at hu
  rcases hu with rfl | rfl | rfl | rfl | rfl | rfl | rfl | rfl <;> rfl
theorem RdP.of_row {w : World} {base d : Nat} {v : Value} {L : List Kid} {n : Nd} {ok : Nat → Prop} (h : w.ownsRow base tPn 8 v L.length (L.flatMap kidC)) (hL : L.map Prod.fst = n.args) (hq : ∀ q ∈ L, RdP w ok d q.1 q.2.1 q.2.2.1) (hown : ∀ b, v.ownBlock = some b → ok b) :
    ∃ p cap, v = .slice p L.length cap ∧ RdP w ok (d + 1) n p L.length := by
  obtain ⟨p, cap, hv, _, _, ⟨_, hr⟩, _⟩ := RdG.of_own kidC_len rfl h
  refine ⟨p, cap, hv, by rw [← hL, List.length_map], ?_⟩
  rcases hr with hr | ⟨b, off, h1, h2, h3⟩
  · exact .inl hr
  · refine .inr ⟨b, off, h1, hown b (by rw [hv, h1]; rfl), fun j c hc => ?_⟩
    rw [← hL, List.getElem?_map] at hc
    cases hj : L[j]? with
    | none => rw [hj] at hc; cases hc
    | some q =>
      rw [hj] at hc
      obtain rfl : q.1 = c := by simpa using hc
      exact ⟨q.2.1, q.2.2.1, q.2.2.2, fun k u hu => h3 j q hj k u hu, hq q (List.mem_of_getElem? hj)⟩
theorem info_nd : (Tryz.prog.info? tPn).map (fun i => (i.zero, i.size, i.bytes)) = some (some (.agg #[.int .i64 0, .int .i64 0, .string ⟨#[]⟩, .int .i64 0, .int .i64 0, .int .i64 0, .int .i64 0, .slice none 0 0]), 8, 88) := by kernel_rfl
theorem newNd (w : World) (c : Nd) (p2 : Option Addr) (l' c2 : Nat) : ∀ j u, (ndC c p2 l' c2)[j]? = some u → (w.alloc (.cells (ndA c p2 l' c2) tPn)).cell? ((⟨w.heap.size, 0, none⟩ : Addr).add j) = some u := by
  intro j u hj
  have hb : NdB tPn (w.alloc (.cells (ndA c p2 l' c2) tPn)) w.heap.size c p2 l' c2 := heap_alloc_new w _
  obtain ⟨c0, c1, c2', c3, cd3, c4, cd4, c5⟩ := hb.cells
  have hj6 : j < 8 := (List.getElem?_eq_some_iff.1 hj).1
  simp only [Addr.add, Nat.zero_add]
  match j, hj6, hj with
  | 0, _, hj => cases hj; exact c0
  | 1, _, hj => cases hj; exact c1
  | 2, _, hj => cases hj; exact c2'
  | 3, _, hj => cases hj; exact c3
  | 4, _, hj => cases hj; exact cd3
  | 5, _, hj => cases hj; exact c4
  | 6, _, hj => cases hj; exact cd4
  | 7, _, hj => cases hj; exact c5
end Go.Proofs.YtigmcoelkkihkaaGreatDoor.Cel
namespace Go.Proofs.YtigmcoelkkihkaaGreatDoor
open Go.RowKit

theorem rk_other (new : List UInt8) (b : UInt8) (hb : b ≠ 34) (l : List UInt8) : ∀ k, Lib.replaceK [34] new k (b :: l) = b :: Lib.replaceK [34] new k l := by
  intro k
  cases k with
  | zero => rfl
  | succ k =>
    have hp : List.isPrefixOf [(34 : UInt8)] (b :: l) = false := by
      simp [List.isPrefixOf]
      intro e
      exact hb e.symm
    have hi : Lib.index (b :: l) [34] = if Lib.index l [34] == -1 then -1 else Lib.index l [34] + 1 := by
      conv => lhs; unfold Lib.index
      rw [hp]
      rfl
    have hge := Lib.index_ge l [34]
    by_cases h : (Lib.index l [34] == -1) = true
    · rw [Lib.replaceK, Lib.replaceK, hi, if_pos h, if_pos h]
      rfl
    · have h2 : ¬ ((Lib.index l [34] + 1) == -1) = true := by
        intro e
        have := beq_iff_eq.1 e
        omega
      rw [Lib.replaceK, Lib.replaceK, hi, if_neg h, if_neg h2, if_neg h]
      obtain ⟨n, hn⟩ : ∃ n : Nat, Lib.index l [34] = (n : Int) := by
        have : Lib.index l [34] ≠ -1 := fun e => h (by rw [e]; rfl)
        exact ⟨(Lib.index l [34]).toNat, by omega⟩
      rw [hn, show ((n : Int) + 1).toNat = n + 1 by omega, show ((n : Int)).toNat = n by omega]
      simp
theorem rk_hit (new : List UInt8) (l : List UInt8) (k : Nat) : Lib.replaceK [34] new (k + 1) (34 :: l) = new ++ Lib.replaceK [34] new k l := by
  have hi : Lib.index (34 :: l) [34] = ((0 : Nat) : Int) := by unfold Lib.index; simp [List.isPrefixOf]
  rw [Lib.replaceK_hit [34] new k (34 :: l) 0 hi]
  simp
theorem rk_dblT : ∀ l : List UInt8, Lib.replaceK [34] [34, 34] (l.count 34) l = dblT l
  | [] => rfl
  | c :: r => by
    by_cases h : c = 34
    · subst h
      rw [List.count_cons_self, rk_hit, rk_dblT r]
      simp [dblT]
    · rw [List.count_cons_of_ne h, rk_other _ c h, rk_dblT r]
      simp [dblT, h]
theorem replaceAll_dblT (l : List UInt8) : Lib.replaceAll l [34] [34, 34] = dblT l := by
  unfold Lib.replaceAll Lib.replace Lib.replaceNum
  rw [if_neg (by decide), if_pos (.inl (by omega)), Lib.count_one]
  exact rk_dblT l

theorem countB_one (s : ByteArray) : Lib.countB s ⟨#[34]⟩ ≤ s.size := by
  have := Lib.countB_mul_le ⟨#[34]⟩ (by decide) s.size s (Nat.le_refl _)
  have e : (⟨#[34]⟩ : ByteArray).size = 1 := rfl
  rw [e, Nat.mul_one] at this
  exact this

set_option maxRecDepth 100000 in
set_option maxHeartbeats 1000000 in
theorem quote_any (s : ByteArray) (hs : s.size ≤ 1100000) (w : World) (hsh : w.ShapedOpen Tryz.prog) :
    Calls Tryz.prog 66 #[.string s] w fun e w' => e = .returned (.string ⟨(quoT s.data.toList).toArray⟩) ∧ Below w.heap.size w w' := by
  have hc := countB_one s
  have HC := Lib.hid (Tryz.strings_ReplaceAll_shaped s ⟨#[34]⟩ ⟨#[34, 34]⟩ w hsh (by omega) (by decide) (by have e : (⟨#[34, 34]⟩ : ByteArray).size = 2 := rfl; rw [e]; omega))
  have e1 : Lib.replaceAll s.data.toList (⟨#[34]⟩ : ByteArray).data.toList (⟨#[34, 34]⟩ : ByteArray).data.toList = dblT s.data.toList := replaceAll_dblT _
  rw [e1] at HC
  have hl : (dblT s.data.toList).length ≤ 2200000 := by have := dblT_len s.data.toList; rw [← Lib.size_eq] at this; omega
  obtain ⟨D, hD⟩ : ∃ D, dblT s.data.toList = D := ⟨_, rfl⟩
  rw [hD] at HC hl
  have HD : Hid (quoT s.data.toList = 34 :: (D ++ [34])) := by unfold Hid quoT; rw [hD]
  have hz1 : (⟨D.toArray⟩ : ByteArray).size ≤ 2200000 := by rw [Lib.size_eq]; exact hl
  have hz2 : (⟨#[34]⟩ : ByteArray).size = 1 := rfl
  have HX : Hid ((⟨#[34]⟩ : ByteArray) ++ ⟨D.toArray⟩ ++ ⟨#[34]⟩ = ⟨(34 :: (D ++ [34])).toArray⟩) := by
    unfold Hid
    rw [show (⟨#[34]⟩ : ByteArray) = ⟨[34].toArray⟩ from rfl, cat2, cat2]
    rfl
  have hz3 : ((⟨#[34]⟩ : ByteArray) ++ ⟨D.toArray⟩).size ≤ 2200001 := by
    rw [show (⟨#[34]⟩ : ByteArray) = ⟨[34].toArray⟩ from rfl, cat2, Lib.size_eq]
    simp
    omega
  clear hc e1 hD hsh
  go_enter Tryz.func66, Tryz.ntmps66
  go_wp2_with fail
  refine HC.out.mono ?_
  rintro e w1 ⟨rfl, hb⟩
  go_wp2_with fail
  go_ret
  exact ⟨by rw [HD.out, ← HX.out]; rfl, hb⟩

end Go.Proofs.YtigmcoelkkihkaaGreatDoor
