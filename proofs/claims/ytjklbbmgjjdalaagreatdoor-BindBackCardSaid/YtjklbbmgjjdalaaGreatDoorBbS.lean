/- Trees over cells: rows, blocks, Depth. Turned by gen_cel.py out of the texts on trees over numbers. Trees over cells: rows of parts. Turned by gen_cel.py out of the texts on trees over numbers. Trees over cells: a builder's writers leave nodes alone. Turned by gen_cel.py out of the texts on trees over numbers. Trees over cells: Same at one tree, however often it lies in memory. -/
import Derived.Test.YtjklbbmgjjdalaaGreatDoorBbJ
import Derived.Test.YtjklbbmgjjdalaaGreatDoorBbB
import Derived.Test.YtjklbbmgjjdalaaGreatDoorBbF
import Derived.Test.YtjklbbmgjjdalaaGreatDoorBbE
import Derived.Defers
import Derived.Test.YtjklbbmgjjdalaaGreatDoorBbC
set_option linter.unusedSimpArgs false
set_option linter.unusedVariables false
namespace Go.Proofs.YtjklbbmgjjdalaaGreatDoor.Cel
open Go.RowKit Go.Joins
def ndC (n : Nd) (p : Option Addr) (len cap : Nat) : List Value := [.int .i64 n.kind, .int .i64 n.num, .string ⟨n.text.toArray⟩, .int .i64 (cC n.frm), .int .i64 (cR n.frm), .int .i64 (cC n.tor), .int .i64 (cR n.tor), .slice p len cap]
def RdT (w : World) (N : Nat) : Nat → Nd → Option Addr → Nat → Prop
  | 0, n, p, len => n.args = [] ∧ len = 0
  | d + 1, n, p, len => n.args.length = len ∧ (len = 0 ∨ ∃ b off, p = some ⟨b, off, none⟩ ∧ b < N ∧ ∀ j c, n.args[j]? = some c → ∃ p' l' c', (∀ k u, (ndC c p' l' c')[k]? = some u → w.cell? ⟨b, off + j * 8 + k, none⟩ = some u) ∧ RdT w N d c p' l')
theorem RdT.below {w w' : World} {N : Nat} (hb : Below N w w') : ∀ {d : Nat} {n : Nd} {p : Option Addr} {len : Nat}, RdT w N d n p len → RdT w' N d n p len
  | 0, _, _, _, h => h
  | d + 1, n, p, len, h => by
    obtain ⟨h1, h2⟩ := h
    refine ⟨h1, ?_⟩
    rcases h2 with h2 | ⟨b, off, h3, h4, h5⟩
    · exact .inl h2
    · refine .inr ⟨b, off, h3, h4, fun j c hc => ?_⟩
      obtain ⟨p', l', c', h6, h7⟩ := h5 j c hc
      exact ⟨p', l', c', fun k u hu => (hb.cell (p := ⟨b, off + j * 8 + k, none⟩) h4).trans (h6 k u hu), RdT.below hb h7⟩
theorem RdT.mono {w : World} {N N' : Nat} (hN : N ≤ N') : ∀ {d : Nat} {n : Nd} {p : Option Addr} {len : Nat}, RdT w N d n p len → RdT w N' d n p len
  | 0, _, _, _, h => h
  | d + 1, n, p, len, h => by
    obtain ⟨h1, h2⟩ := h
    refine ⟨h1, ?_⟩
    rcases h2 with h2 | ⟨b, off, h3, h4, h5⟩
    · exact .inl h2
    · refine .inr ⟨b, off, h3, Nat.lt_of_lt_of_le h4 hN, fun j c hc => ?_⟩
      obtain ⟨p', l', c', h6, h7⟩ := h5 j c hc
      exact ⟨p', l', c', h6, RdT.mono hN h7⟩
theorem RdT.len {w : World} {N d : Nat} {n : Nd} {p : Option Addr} {len : Nat} (h : RdT w N d n p len) : n.args.length = len := by
  cases d with
  | zero => rw [h.1, h.2]; rfl
  | succ d => exact h.1
theorem RdT.at {w : World} {N d : Nat} {n : Nd} {p : Option Addr} {len : Nat} (h : RdT w N d n p len) {j : Nat} (hj : j < len) : ∃ d' b off c p' l' c', d = d' + 1 ∧ p = some ⟨b, off, none⟩ ∧ b < N ∧ n.args[j]? = some c ∧ RdT w N d' c p' l' ∧ w.cell? ⟨b, off + j * 8, none⟩ = some (.int .i64 c.kind) ∧ w.cell? ⟨b, off + j * 8 + 1, none⟩ = some (.int .i64 c.num) ∧ w.cell? ⟨b, off + j * 8 + 2, none⟩ = some (.string ⟨c.text.toArray⟩) ∧ w.cell? ⟨b, off + j * 8 + 3, none⟩ = some (.int .i64 (cC c.frm)) ∧ w.cell? ⟨b, off + j * 8 + 4, none⟩ = some (.int .i64 (cR c.frm)) ∧ w.cell? ⟨b, off + j * 8 + 5, none⟩ = some (.int .i64 (cC c.tor)) ∧ w.cell? ⟨b, off + j * 8 + 6, none⟩ = some (.int .i64 (cR c.tor)) ∧ w.cell? ⟨b, off + j * 8 + 7, none⟩ = some (.slice p' l' c') := by
  cases d with
  | zero => rw [h.2] at hj; omega
  | succ d =>
    obtain ⟨h1, h2⟩ := h
    rcases h2 with h2 | ⟨b, off, h3, h4, h5⟩
    · omega
    · obtain ⟨c, hc⟩ : ∃ c, n.args[j]? = some c := ⟨_, List.getElem?_eq_getElem (by omega)⟩
      obtain ⟨p', l', c', h6, h7⟩ := h5 j c hc
      exact ⟨d, b, off, c, p', l', c', rfl, h3, h4, hc, h7, h6 0 _ rfl, h6 1 _ rfl, h6 2 _ rfl, h6 3 _ rfl, h6 4 _ rfl, h6 5 _ rfl, h6 6 _ rfl, h6 7 _ rfl⟩
abbrev tPn : TypeId := 48
def ndA (n : Nd) (p : Option Addr) (len cap : Nat) : Array Value := #[.int .i64 n.kind, .int .i64 n.num, .string ⟨n.text.toArray⟩, .int .i64 (cC n.frm), .int .i64 (cR n.frm), .int .i64 (cC n.tor), .int .i64 (cR n.tor), .slice p len cap]
theorem ndA_eq (n : Nd) (p : Option Addr) (len cap : Nat) : Value.agg (ndA n p len cap) = .agg #[.int .i64 n.kind, .int .i64 n.num, .string ⟨n.text.toArray⟩, .int .i64 (cC n.frm), .int .i64 (cR n.frm), .int .i64 (cC n.tor), .int .i64 (cR n.tor), .slice p len cap] := rfl
def NdB (t : TypeId) (w : World) (b : Nat) (n : Nd) (p : Option Addr) (len cap : Nat) : Prop := w.heap[b]? = some (.cells (ndA n p len cap) t (0, 0))
theorem NdB.below {t : TypeId} {w w' : World} {b : Nat} {n : Nd} {p : Option Addr} {len cap : Nat} (h : NdB t w b n p len cap) (hb : Below w.heap.size w w') : NdB t w' b n p len cap := (hb.block b (lt_some h)).trans h
theorem NdB.cells {t : TypeId} {w : World} {b : Nat} {n : Nd} {p : Option Addr} {len cap : Nat} (h : NdB t w b n p len cap) : w.cell? ⟨b, 0, none⟩ = some (.int .i64 n.kind) ∧ w.cell? ⟨b, 1, none⟩ = some (.int .i64 n.num) ∧ w.cell? ⟨b, 2, none⟩ = some (.string ⟨n.text.toArray⟩) ∧ w.cell? ⟨b, 3, none⟩ = some (.int .i64 (cC n.frm)) ∧ w.cell? ⟨b, 4, none⟩ = some (.int .i64 (cR n.frm)) ∧ w.cell? ⟨b, 5, none⟩ = some (.int .i64 (cC n.tor)) ∧ w.cell? ⟨b, 6, none⟩ = some (.int .i64 (cR n.tor)) ∧ w.cell? ⟨b, 7, none⟩ = some (.slice p len cap) := by
  refine ⟨?_, ?_, ?_, ?_, ?_, ?_, ?_, ?_⟩
  all_goals
    rw [cell_of_block h]
    rfl
end Go.Proofs.YtjklbbmgjjdalaaGreatDoor.Cel
namespace Go.Proofs.YtjklbbmgjjdalaaGreatDoor.Cel
open Go.RowKit Go.Joins
def RdP (w : World) (ok : Nat → Prop) : Nat → Nd → Option Addr → Nat → Prop
  | 0, n, p, len => n.args = [] ∧ len = 0
  | d + 1, n, p, len => n.args.length = len ∧ (len = 0 ∨ ∃ b off, p = some ⟨b, off, none⟩ ∧ ok b ∧ ∀ j c, n.args[j]? = some c → ∃ p' l' c', (∀ k u, (ndC c p' l' c')[k]? = some u → w.cell? ⟨b, off + j * 8 + k, none⟩ = some u) ∧ RdP w ok d c p' l')
theorem RdP.carry {w w' : World} {ok ok' : Nat → Prop} (hb : ∀ b, ok b → ok' b ∧ w'.heap[b]? = w.heap[b]?) : ∀ {d : Nat} {n : Nd} {p : Option Addr} {len : Nat}, RdP w ok d n p len → RdP w' ok' d n p len
  | 0, _, _, _, h => h
  | d + 1, n, p, len, h => by
    obtain ⟨h1, h2⟩ := h
    refine ⟨h1, ?_⟩
    rcases h2 with h2 | ⟨b, off, h3, h4, h5⟩
    · exact .inl h2
    · refine .inr ⟨b, off, h3, (hb b h4).1, fun j c hc => ?_⟩
      obtain ⟨p', l', c', h6, h7⟩ := h5 j c hc
      refine ⟨p', l', c', fun k u hu => ?_, RdP.carry hb h7⟩
      have := h6 k u hu
      simp only [World.cell?, (hb b h4).2] at this ⊢
      exact this
theorem RdP.rdT {w : World} {ok : Nat → Prop} {N : Nat} (hb : ∀ b, ok b → b < N) : ∀ {d : Nat} {n : Nd} {p : Option Addr} {len : Nat}, RdP w ok d n p len → RdT w N d n p len
  | 0, _, _, _, h => h
  | d + 1, n, p, len, h => by
    obtain ⟨h1, h2⟩ := h
    refine ⟨h1, ?_⟩
    rcases h2 with h2 | ⟨b, off, h3, h4, h5⟩
    · exact .inl h2
    · refine .inr ⟨b, off, h3, hb b h4, fun j c hc => ?_⟩
      obtain ⟨p', l', c', h6, h7⟩ := h5 j c hc
      exact ⟨p', l', c', h6, RdP.rdT hb h7⟩
abbrev Kid := Nd × Option Addr × Nat × Nat
def kidC (q : Kid) : List Value := ndC q.1 q.2.1 q.2.2.1 q.2.2.2
theorem kidC_len (q : Kid) : (kidC q).length = 8 := rfl
theorem kidC_one (q : Kid) : ∀ u ∈ kidC q, u.oneCell' = true := by
  intro u hu
  simp only [kidC, ndC, List.mem_cons, List.not_mem_nil, or_false] at hu
  rcases hu with rfl | rfl | rfl | rfl | rfl | rfl | rfl | rfl <;> rfl
theorem RdP.of_row {w : World} {base d : Nat} {v : Value} {L : List Kid} {n : Nd} {ok : Nat → Prop} (h : w.ownsRow base tPn 8 v L.length (L.flatMap kidC)) (hL : L.map Prod.fst = n.args) (hq : ∀ q ∈ L, RdP w ok d q.1 q.2.1 q.2.2.1) (hown : ∀ b, v.ownBlock = some b → ok b) :
    ∃ p cap, v = .slice p L.length cap ∧ RdP w ok (d + 1) n p L.length := by
  obtain ⟨p, cap, hv, _, _, ⟨_, hr⟩, _⟩ := RdG.of_own kidC_len rfl h
  refine ⟨p, cap, hv, by rw [← hL, List.length_map], ?_⟩
  rcases hr with hr | ⟨b, off, h1, h2, h3⟩
  · exact .inl hr
  · refine .inr ⟨b, off, h1, hown b (by rw [hv, h1]; rfl), fun j c hc => ?_⟩
    rw [← hL, List.getElem?_map] at hc
    cases hj : L[j]? with
    | none => rw [hj] at hc; cases hc
    | some q =>
      rw [hj] at hc
      obtain rfl : q.1 = c := by simpa using hc
      exact ⟨q.2.1, q.2.2.1, q.2.2.2, fun k u hu => h3 j q hj k u hu, hq q (List.mem_of_getElem? hj)⟩
theorem info_nd : (Tryz.prog.info? tPn).map (fun i => (i.zero, i.size, i.bytes)) = some (some (.agg #[.int .i64 0, .int .i64 0, .string ⟨#[]⟩, .int .i64 0, .int .i64 0, .int .i64 0, .int .i64 0, .slice none 0 0]), 8, 88) := by kernel_rfl
theorem newNd (w : World) (c : Nd) (p2 : Option Addr) (l' c2 : Nat) : ∀ j u, (ndC c p2 l' c2)[j]? = some u → (w.alloc (.cells (ndA c p2 l' c2) tPn)).cell? ((⟨w.heap.size, 0, none⟩ : Addr).add j) = some u := by
  intro j u hj
  have hb : NdB tPn (w.alloc (.cells (ndA c p2 l' c2) tPn)) w.heap.size c p2 l' c2 := heap_alloc_new w _
  obtain ⟨c0, c1, c2', c3, cd3, c4, cd4, c5⟩ := hb.cells
  have hj6 : j < 8 := (List.getElem?_eq_some_iff.1 hj).1
  simp only [Addr.add, Nat.zero_add]
  match j, hj6, hj with
  | 0, _, hj => cases hj; exact c0
  | 1, _, hj => cases hj; exact c1
  | 2, _, hj => cases hj; exact c2'
  | 3, _, hj => cases hj; exact c3
  | 4, _, hj => cases hj; exact cd3
  | 5, _, hj => cases hj; exact c4
  | 6, _, hj => cases hj; exact cd4
  | 7, _, hj => cases hj; exact c5
end Go.Proofs.YtjklbbmgjjdalaaGreatDoor.Cel
namespace Go.Proofs.YtjklbbmgjjdalaaGreatDoor.Cel
open Go.RowKit Go.Joins
def KeepN (w w' : World) : Prop := ∀ (k : Nat) (cs : Array Value) (fr : Nat × Nat), w.heap[k]? = some (.cells cs tPn fr) → w'.heap[k]? = some (.cells cs tPn fr)
theorem KeepN.refl (w : World) : KeepN w w := fun k cs fr h => h
theorem KeepN.trans {a b c : World} (h : KeepN a b) (h2 : KeepN b c) : KeepN a c := fun k cs fr hk => h2 k cs fr (h k cs fr hk)
theorem KeepN.of {w w' : World} (h : Below w.heap.size w w') : KeepN w w' := fun k cs fr hk => (h.block k (lt_some hk)).trans hk
end Go.Proofs.YtjklbbmgjjdalaaGreatDoor.Cel
namespace Go.Proofs.YtjklbbmgjjdalaaGreatDoor.Cel
open Go.RowKit Go.Joins
set_option maxRecDepth 100000 in
theorem eq_cel (c r : Int) (W : World) : (binOp .eql 45 (.agg #[.int .i64 c, .int .i64 r]) (.agg #[.int .i64 c, .int .i64 r])).run Tryz.prog W = .ok (.bool true) W := by
  go_simp
def Same1C (d : Nat) : Prop := ∀ (d2 : Nat) (n : Nd) (p p2 : Option Addr) (len cap len2 cap2 : Nat) (w : World), RdT w w.heap.size d n p len → RdT w w.heap.size d2 n p2 len2 → FewN n → Calls Tryz.prog 14 #[.agg (ndA n p len cap), .agg (ndA n p2 len2 cap2)] w fun e w' => e = .returned (.bool true) ∧ Below w.heap.size w w'
set_option maxRecDepth 100000 in
set_option maxHeartbeats 8000000 in
theorem eq1_s (d : Nat) (IH : ∀ d', d = d' + 1 → Same1C d') (d2 : Nat) (n : Nd) (p p2 : Option Addr) (len cap len2 cap2 : Nat) (w : World) (hrd : RdT w w.heap.size d n p len) (hrd2 : RdT w w.heap.size d2 n p2 len2) (hok : FewN n) :
    Calls Tryz.prog 32 #[.slice p len cap, .slice p2 len2 cap2, .func (.func 14) #[] #[]] w fun e w' => e = .returned (.bool true) ∧ Below w.heap.size w w' := by
  have HRD := Lib.hid hrd
  have HIH := Lib.hid IH
  have hlen := hok.len
  rw [hrd.len] at hlen
  have hll : len = len2 := by rw [← hrd.len, hrd2.len]
  subst hll
  have HRD2 := Lib.hid hrd2
  have HOK := Lib.hid (fun c hc => FewN.child (c := c) hok hc)
  clear hrd hrd2 IH hok
  have hne : ((len : Int) != (len : Int)) = false := by simp
  go_enter Tryz.func32, Tryz.ntmps32
  go_wp2_with fail
  go_loopg [17] len (fun g v17 wr => ∃ i : Nat, i + g = len ∧ v17 = .int .i64 i ∧ Below w.heap.size w wr)
  case atStart => exact ⟨0, by omega, rfl, Below.refl _ _⟩
  case round =>
    obtain ⟨i, hig, rfl, hbel⟩ := hrel
    have HBL := Lib.hid hbel
    have hzr := hbel.size
    clear hbel
    by_cases hlt : i < len
    · have hli : (i : Int) < (len : Int) := by omega
      have hi0 : (0 : Int) ≤ (i : Int) := by omega
      obtain ⟨d', b, off, c, p', l', c', hd, rfl, hbN, hc, hrc, q0, q1, q2, q3, qd3, q4, qd4, q5⟩ := (HRD.out.below HBL.out).at hlt
      obtain ⟨d2', b2, off2, x, px, lx, cx, hd2, rfl, hbN2, hx, hrx, s0, s1, s2, s3, sd3, s4, sd4, s5⟩ := (HRD2.out.below HBL.out).at hlt
      rw [hc] at hx
      cases hx
      have HC : Hid (Same1C d') := HIH.out d' hd
      have HCO := Lib.hid (HOK.out c (mem_at hc))
      have HRC := Lib.hid hrc
      have HRX := Lib.hid hrx
      clear hc hrc hd hrx hd2
      go_upto_region 6 with fail
      have hA1 : Hid (NdB tPn (wr.alloc (.cells (ndA c p' l' c') tPn)) wr.heap.size c p' l' c') := heap_alloc_new wr _
      have hB1 : Hid (Below w.heap.size w (wr.alloc (.cells (ndA c p' l' c') tPn))) := HBL.out.alloc hzr _
      have hK1 : Hid (Below wr.heap.size wr (wr.alloc (.cells (ndA c p' l' c') tPn))) := by unfold Hid; (repeat' (first | (with_reducible exact Below.refl _ _) | (with_reducible assumption) | (with_reducible refine Below.alloc ?_ ?_ _) | (with_reducible refine bel_drewN ?_ _) | (with_reducible refine Below.drew ?_) | (with_reducible refine Below.setCell ?_ ?_ _) | (with_reducible refine bel_call ‹_› ?_ ?_) | go_size))
      have e1 : wr.alloc (.cells #[.int .i64 c.kind, .int .i64 c.num, .string ⟨c.text.toArray⟩, .int .i64 (cC c.frm), .int .i64 (cR c.frm), .int .i64 (cC c.tor), .int .i64 (cR c.tor), .slice p' l' c'] tPn) = wr.alloc (.cells (ndA c p' l' c') tPn) := rfl
      rw [e1]
      clear e1
      have t0 := (hK1.out.cell (p := ⟨b2, off2 + i * 8, none⟩) (Nat.lt_of_lt_of_le hbN2 hzr)).trans s0
      have t1 := (hK1.out.cell (p := ⟨b2, off2 + i * 8 + 1, none⟩) (Nat.lt_of_lt_of_le hbN2 hzr)).trans s1
      have t2 := (hK1.out.cell (p := ⟨b2, off2 + i * 8 + 2, none⟩) (Nat.lt_of_lt_of_le hbN2 hzr)).trans s2
      have t3 := (hK1.out.cell (p := ⟨b2, off2 + i * 8 + 3, none⟩) (Nat.lt_of_lt_of_le hbN2 hzr)).trans s3
      have td3 := (hK1.out.cell (p := ⟨b2, off2 + i * 8 + 4, none⟩) (Nat.lt_of_lt_of_le hbN2 hzr)).trans sd3
      have t4 := (hK1.out.cell (p := ⟨b2, off2 + i * 8 + 5, none⟩) (Nat.lt_of_lt_of_le hbN2 hzr)).trans s4
      have td4 := (hK1.out.cell (p := ⟨b2, off2 + i * 8 + 6, none⟩) (Nat.lt_of_lt_of_le hbN2 hzr)).trans sd4
      have t5 := (hK1.out.cell (p := ⟨b2, off2 + i * 8 + 7, none⟩) (Nat.lt_of_lt_of_le hbN2 hzr)).trans s5
      have HRC1 := Lib.hid (HRC.out.below (hK1.out.mono hzr))
      have HRX1 := Lib.hid (HRX.out.below (hK1.out.mono hzr))
      clear q0 q1 q2 q3 qd3 q4 qd4 q5 s0 s1 s2 s3 sd3 s4 sd4 s5 HRC HRX HBL
      generalize wr.alloc (.cells (ndA c p' l' c') tPn) = w2 at hA1 hB1 HRC1 HRX1 hK1 t0 t1 t2 t3 td3 t4 td4 t5 ⊢
      generalize wr.heap.size = g1 at hA1 hzr hK1 ⊢
      have hz2 := hB1.out.size
      go_upto_region 7 with fail
      have hA2 : Hid (NdB tPn (w2.alloc (.cells (ndA c px lx cx) tPn)) w2.heap.size c px lx cx) := heap_alloc_new w2 _
      have hA1b : Hid (NdB tPn (w2.alloc (.cells (ndA c px lx cx) tPn)) g1 c p' l' c') := hA1.out.below (by (repeat' (first | (with_reducible exact Below.refl _ _) | (with_reducible assumption) | (with_reducible refine Below.alloc ?_ ?_ _) | (with_reducible refine bel_drewN ?_ _) | (with_reducible refine Below.drew ?_) | (with_reducible refine Below.setCell ?_ ?_ _) | (with_reducible refine bel_call ‹_› ?_ ?_) | go_size)))
      have hB2 : Hid (Below w.heap.size w (w2.alloc (.cells (ndA c px lx cx) tPn))) := hB1.out.alloc hz2 _
      have e2 : w2.alloc (.cells #[.int .i64 c.kind, .int .i64 c.num, .string ⟨c.text.toArray⟩, .int .i64 (cC c.frm), .int .i64 (cR c.frm), .int .i64 (cC c.tor), .int .i64 (cR c.tor), .slice px lx cx] tPn) = w2.alloc (.cells (ndA c px lx cx) tPn) := rfl
      rw [e2]
      clear e2
      have HRC2 : Hid (RdT (w2.alloc (.cells (ndA c px lx cx) tPn)) w.heap.size d' c p' l') := HRC1.out.below (by (repeat' (first | (with_reducible exact Below.refl _ _) | (with_reducible assumption) | (with_reducible refine Below.alloc ?_ ?_ _) | (with_reducible refine bel_drewN ?_ _) | (with_reducible refine Below.drew ?_) | (with_reducible refine Below.setCell ?_ ?_ _) | (with_reducible refine bel_call ‹_› ?_ ?_) | go_size)))
      have HRX2 : Hid (RdT (w2.alloc (.cells (ndA c px lx cx) tPn)) w.heap.size d2' c px lx) := HRX1.out.below (by (repeat' (first | (with_reducible exact Below.refl _ _) | (with_reducible assumption) | (with_reducible refine Below.alloc ?_ ?_ _) | (with_reducible refine bel_drewN ?_ _) | (with_reducible refine Below.drew ?_) | (with_reducible refine Below.setCell ?_ ?_ _) | (with_reducible refine bel_call ‹_› ?_ ?_) | go_size)))
      clear t0 t1 t2 t3 td3 t4 td4 t5 HRC1 HRX1 hA1 hB1 hK1
      generalize w2.alloc (.cells (ndA c px lx cx) tPn) = w3 at hA2 hA1b hB2 HRC2 HRX2 ⊢
      generalize w2.heap.size = g2 at hA2 hz2 ⊢
      obtain ⟨c0, c1, c2, c3, cd3, c4, cd4, c5⟩ := hA1b.out.cells
      obtain ⟨y0, y1, y2, y3, yd3, y4, yd4, y5⟩ := hA2.out.cells
      have HCC := Lib.hid (HC.out d2' c p' px l' c' lx cx w3 (HRC2.out.mono hB2.out.size) (HRX2.out.mono hB2.out.size) HCO.out)
      rw [ndA_eq, ndA_eq] at HCC
      clear HC
      go_wp2_with fail
      go_at_call 14
      refine HCC.out.mono ?_
      rintro e w4 ⟨rfl, hb4⟩
      have hB4 : Hid (Below w.heap.size w w4) := bel_call hb4 hB2.out hB2.out.size
      clear hb4 hB2 c0 c1 c2 c3 cd3 c4 cd4 c5 y0 y1 y2 y3 yd3 y4 yd4 y5 hA2 hA1b HRC2 HRX2 HCC
      go_wp2_with fail
      go_roundg (gk - 1)
      case measure => omega
      case rel => exact ⟨i + 1, by omega, by go_num, hB4.out⟩
    · obtain rfl : i = len := by omega
      have hli : ¬ (i : Int) < (i : Int) := by omega
      go_wp2_with fail
      go_ret
      exact ⟨rfl, HBL.out⟩
set_option maxRecDepth 100000 in
set_option maxHeartbeats 8000000 in
theorem same1_s (d : Nat) (IH : ∀ d', d = d' + 1 → Same1C d') : Same1C d := by
  intro d2 n p p2 len cap len2 cap2 w hrd hrd2 hok
  obtain ⟨hh0, hh1⟩ : Hid (NdB tPn ((w.alloc (.cells (ndA n p len cap) tPn)).alloc (.cells (ndA n p2 len2 cap2) tPn)) w.heap.size n p len cap) ∧ Hid (NdB tPn ((w.alloc (.cells (ndA n p len cap) tPn)).alloc (.cells (ndA n p2 len2 cap2) tPn)) (w.heap.size + 1) n p2 len2 cap2) := by
    refine ⟨?_, ?_⟩
    · unfold Hid NdB
      rw [Lib.alloc_old _ _ _ (by simp)]
      exact heap_alloc_new w _
    · unfold Hid NdB
      have := heap_alloc_new (w.alloc (.cells (ndA n p len cap) tPn)) (.cells (ndA n p2 len2 cap2) tPn)
      rw [World.size_alloc] at this
      exact this
  have hAB : Hid (Below w.heap.size w ((w.alloc (.cells (ndA n p len cap) tPn)).alloc (.cells (ndA n p2 len2 cap2) tPn))) := by unfold Hid; (repeat' (first | (with_reducible exact Below.refl _ _) | (with_reducible assumption) | (with_reducible refine Below.alloc ?_ ?_ _) | (with_reducible refine bel_drewN ?_ _) | (with_reducible refine Below.drew ?_) | (with_reducible refine Below.setCell ?_ ?_ _) | (with_reducible refine bel_call ‹_› ?_ ?_) | go_size))
  have HEQ := Lib.hid (fun W (hW : Below w.heap.size w W) => eq1_s d IH d2 n p p2 len cap len2 cap2 W ((hrd.below hW).mono hW.size) ((hrd2.below hW).mono hW.size) hok)
  clear hrd hrd2 hok IH
  rw [ndA_eq, ndA_eq]
  go_enter Tryz.func14, Tryz.ntmps14
  go_upto_region 1 with fail
  have e0 : (w.alloc (.cells #[.int .i64 n.kind, .int .i64 n.num, .string ⟨n.text.toArray⟩, .int .i64 (cC n.frm), .int .i64 (cR n.frm), .int .i64 (cC n.tor), .int .i64 (cR n.tor), .slice p len cap] tPn)).alloc (.cells #[.int .i64 n.kind, .int .i64 n.num, .string ⟨n.text.toArray⟩, .int .i64 (cC n.frm), .int .i64 (cR n.frm), .int .i64 (cC n.tor), .int .i64 (cR n.tor), .slice p2 len2 cap2] tPn) = (w.alloc (.cells (ndA n p len cap) tPn)).alloc (.cells (ndA n p2 len2 cap2) tPn) := rfl
  rw [e0]
  clear e0
  generalize (w.alloc (.cells (ndA n p len cap) tPn)).alloc (.cells (ndA n p2 len2 cap2) tPn) = w0 at hh0 hh1 hAB ⊢
  obtain ⟨c0, c1, c2, c3, cd3, c4, cd4, c5⟩ := hh0.out.cells
  obtain ⟨y0, y1, y2, y3, yd3, y4, yd4, y5⟩ := hh1.out.cells
  have r0 := cell_regrown c0
  have r1 := cell_regrown c1
  have r2 := cell_regrown c2
  have r3 := cell_regrown c3
  have rd3 := cell_regrown cd3
  have r4 := cell_regrown c4
  have rd4 := cell_regrown cd4
  have r5 := cell_regrown c5
  have s0 := cell_regrown y0
  have s1 := cell_regrown y1
  have s2 := cell_regrown y2
  have s3 := cell_regrown y3
  have sd3 := cell_regrown yd3
  have s4 := cell_regrown y4
  have sd4 := cell_regrown yd4
  have s5 := cell_regrown y5
  have cE : ∀ dd os, Calls Tryz.prog 32 #[.slice p len cap, .slice p2 len2 cap2, .func (.func 14) #[] #[]] (Go.Sort.grow (redrawn w0 dd) os) fun e w'' => e = .returned (.bool true) ∧ ∃ p : Regrown, w'' = Go.Sort.grow (redrawn w0 p.d) p.os := fun dd os => Calls.regrown_of (HEQ.out _ (bel_call (below_regrown w0 dd os) hAB.out hAB.out.size))
  have hE1 := eq_cel (cC n.frm) (cR n.frm)
  have hE2 := eq_cel (cC n.tor) (cR n.tor)
  clear c0 c1 c2 c3 cd3 c4 cd4 c5 y0 y1 y2 y3 yd3 y4 yd4 y5 hh0 hh1 HEQ
  refine wp_region_plain_below ?_
  repeat (go_big_quiet_step ((first | with_reducible exact cE _ _)))
  refine wpQuiet_nil ?_
  intro _ hw'
  obtain ⟨⟨dz, osz⟩, hw''⟩ := hw'
  subst hw''
  have hBz : Below w.heap.size w (Go.Sort.grow (redrawn w0 dz) osz) := bel_call (below_regrown w0 dz osz) hAB.out hAB.out.size
  clear r0 r1 r2 r3 rd3 r4 rd4 r5 s0 s1 s2 s3 sd3 s4 sd4 s5 cE
  go_wp2_with fail
  go_ret
  exact ⟨rfl, hBz⟩
theorem same1_any : ∀ d, Same1C d
  | 0 => same1_s 0 (fun d' h => by omega)
  | d + 1 => same1_s (d + 1) (fun d' h => (show d = d' from by omega) ▸ same1_any d)
end Go.Proofs.YtjklbbmgjjdalaaGreatDoor.Cel
