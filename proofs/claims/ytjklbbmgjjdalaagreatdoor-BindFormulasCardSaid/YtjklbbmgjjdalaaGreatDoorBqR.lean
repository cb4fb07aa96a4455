/- Trees over cells: rows, blocks, Depth. Turned by gen_cel.py out of the texts on trees over numbers. Trees over cells: rows of parts. Turned by gen_cel.py out of the texts on trees over numbers. Trees over cells: a builder's writers leave nodes alone. Turned by gen_cel.py out of the texts on trees over numbers. Trees over cells: how tightly a node holds. Turned by gen_cel.py out of the texts on trees over numbers. Trees over cells: write at faults. Turned by gen_cel.py out of the texts on trees over numbers. -/
import Derived.Test.YtjklbbmgjjdalaaGreatDoorBqJ
import Derived.Test.YtjklbbmgjjdalaaGreatDoorBqB
import Derived.Test.YtjklbbmgjjdalaaGreatDoorBqE
import Derived.Test.YtjklbbmgjjdalaaGreatDoorBqS
set_option linter.unusedSimpArgs false
set_option linter.unusedVariables false
namespace Go.Proofs.YtjklbbmgjjdalaaGreatDoor.Cel
open Go.RowKit Go.Joins
def ndC (n : Nd) (p : Option Addr) (len cap : Nat) : List Value := [.int .i64 n.kind, .int .i64 n.num, .string ⟨n.text.toArray⟩, .int .i64 (cC n.frm), .int .i64 (cR n.frm), .int .i64 (cC n.tor), .int .i64 (cR n.tor), .slice p len cap]
def RdT (w : World) (N : Nat) : Nat → Nd → Option Addr → Nat → Prop
  | 0, n, p, len => n.args = [] ∧ len = 0
  | d + 1, n, p, len => n.args.length = len ∧ (len = 0 ∨ ∃ b off, p = some ⟨b, off, none⟩ ∧ b < N ∧ ∀ j c, n.args[j]? = some c → ∃ p' l' c', (∀ k u, (ndC c p' l' c')[k]? = some u → w.cell? ⟨b, off + j * 8 + k, none⟩ = some u) ∧ RdT w N d c p' l')
theorem RdT.below {w w' : World} {N : Nat} (hb : Below N w w') : ∀ {d : Nat} {n : Nd} {p : Option Addr} {len : Nat}, RdT w N d n p len → RdT w' N d n p len
  | 0, _, _, _, h => h
  | d + 1, n, p, len, h => by
    obtain ⟨h1, h2⟩ := h
    refine ⟨h1, ?_⟩
    rcases h2 with h2 | ⟨b, off, h3, h4, h5⟩
    · exact .inl h2
    · refine .inr ⟨b, off, h3, h4, fun j c hc => ?_⟩
      obtain ⟨p', l', c', h6, h7⟩ := h5 j c hc
      exact ⟨p', l', c', fun k u hu => (hb.cell (p := ⟨b, off + j * 8 + k, none⟩) h4).trans (h6 k u hu), RdT.below hb h7⟩
theorem RdT.mono {w : World} {N N' : Nat} (hN : N ≤ N') : ∀ {d : Nat} {n : Nd} {p : Option Addr} {len : Nat}, RdT w N d n p len → RdT w N' d n p len
  | 0, _, _, _, h => h
  | d + 1, n, p, len, h => by
    obtain ⟨h1, h2⟩ := h
    refine ⟨h1, ?_⟩
    rcases h2 with h2 | ⟨b, off, h3, h4, h5⟩
    · exact .inl h2
    · refine .inr ⟨b, off, h3, Nat.lt_of_lt_of_le h4 hN, fun j c hc => ?_⟩
      obtain ⟨p', l', c', h6, h7⟩ := h5 j c hc
      exact ⟨p', l', c', h6, RdT.mono hN h7⟩
theorem RdT.len {w : World} {N d : Nat} {n : Nd} {p : Option Addr} {len : Nat} (h : RdT w N d n p len) : n.args.length = len := by
  cases d with
  | zero => rw [h.1, h.2]; rfl
  | succ d => exact h.1
theorem RdT.at {w : World} {N d : Nat} {n : Nd} {p : Option Addr} {len : Nat} (h : RdT w N d n p len) {j : Nat} (hj : j < len) : ∃ d' b off c p' l' c', d = d' + 1 ∧ p = some ⟨b, off, none⟩ ∧ b < N ∧ n.args[j]? = some c ∧ RdT w N d' c p' l' ∧ w.cell? ⟨b, off + j * 8, none⟩ = some (.int .i64 c.kind) ∧ w.cell? ⟨b, off + j * 8 + 1, none⟩ = some (.int .i64 c.num) ∧ w.cell? ⟨b, off + j * 8 + 2, none⟩ = some (.string ⟨c.text.toArray⟩) ∧ w.cell? ⟨b, off + j * 8 + 3, none⟩ = some (.int .i64 (cC c.frm)) ∧ w.cell? ⟨b, off + j * 8 + 4, none⟩ = some (.int .i64 (cR c.frm)) ∧ w.cell? ⟨b, off + j * 8 + 5, none⟩ = some (.int .i64 (cC c.tor)) ∧ w.cell? ⟨b, off + j * 8 + 6, none⟩ = some (.int .i64 (cR c.tor)) ∧ w.cell? ⟨b, off + j * 8 + 7, none⟩ = some (.slice p' l' c') := by
  cases d with
  | zero => rw [h.2] at hj; omega
  | succ d =>
    obtain ⟨h1, h2⟩ := h
    rcases h2 with h2 | ⟨b, off, h3, h4, h5⟩
    · omega
    · obtain ⟨c, hc⟩ : ∃ c, n.args[j]? = some c := ⟨_, List.getElem?_eq_getElem (by omega)⟩
      obtain ⟨p', l', c', h6, h7⟩ := h5 j c hc
      exact ⟨d, b, off, c, p', l', c', rfl, h3, h4, hc, h7, h6 0 _ rfl, h6 1 _ rfl, h6 2 _ rfl, h6 3 _ rfl, h6 4 _ rfl, h6 5 _ rfl, h6 6 _ rfl, h6 7 _ rfl⟩
abbrev tPn : TypeId := 48
def ndA (n : Nd) (p : Option Addr) (len cap : Nat) : Array Value := #[.int .i64 n.kind, .int .i64 n.num, .string ⟨n.text.toArray⟩, .int .i64 (cC n.frm), .int .i64 (cR n.frm), .int .i64 (cC n.tor), .int .i64 (cR n.tor), .slice p len cap]
theorem ndA_eq (n : Nd) (p : Option Addr) (len cap : Nat) : Value.agg (ndA n p len cap) = .agg #[.int .i64 n.kind, .int .i64 n.num, .string ⟨n.text.toArray⟩, .int .i64 (cC n.frm), .int .i64 (cR n.frm), .int .i64 (cC n.tor), .int .i64 (cR n.tor), .slice p len cap] := rfl
def NdB (t : TypeId) (w : World) (b : Nat) (n : Nd) (p : Option Addr) (len cap : Nat) : Prop := w.heap[b]? = some (.cells (ndA n p len cap) t (0, 0))
theorem NdB.below {t : TypeId} {w w' : World} {b : Nat} {n : Nd} {p : Option Addr} {len cap : Nat} (h : NdB t w b n p len cap) (hb : Below w.heap.size w w') : NdB t w' b n p len cap := (hb.block b (lt_some h)).trans h
theorem NdB.cells {t : TypeId} {w : World} {b : Nat} {n : Nd} {p : Option Addr} {len cap : Nat} (h : NdB t w b n p len cap) : w.cell? ⟨b, 0, none⟩ = some (.int .i64 n.kind) ∧ w.cell? ⟨b, 1, none⟩ = some (.int .i64 n.num) ∧ w.cell? ⟨b, 2, none⟩ = some (.string ⟨n.text.toArray⟩) ∧ w.cell? ⟨b, 3, none⟩ = some (.int .i64 (cC n.frm)) ∧ w.cell? ⟨b, 4, none⟩ = some (.int .i64 (cR n.frm)) ∧ w.cell? ⟨b, 5, none⟩ = some (.int .i64 (cC n.tor)) ∧ w.cell? ⟨b, 6, none⟩ = some (.int .i64 (cR n.tor)) ∧ w.cell? ⟨b, 7, none⟩ = some (.slice p len cap) := by
  refine ⟨?_, ?_, ?_, ?_, ?_, ?_, ?_, ?_⟩
  all_goals
    rw [cell_of_block h]
    rfl
end Go.Proofs.YtjklbbmgjjdalaaGreatDoor.Cel
namespace Go.Proofs.YtjklbbmgjjdalaaGreatDoor.Cel
open Go.RowKit Go.Joins
def RdP (w : World) (ok : Nat → Prop) : Nat → Nd → Option Addr → Nat → Prop
  | 0, n, p, len => n.args = [] ∧ len = 0
  | d + 1, n, p, len => n.args.length = len ∧ (len = 0 ∨ ∃ b off, p = some ⟨b, off, none⟩ ∧ ok b ∧ ∀ j c, n.args[j]? = some c → ∃ p' l' c', (∀ k u, (ndC c p' l' c')[k]? = some u → w.cell? ⟨b, off + j * 8 + k, none⟩ = some u) ∧ RdP w ok d c p' l')
theorem RdP.carry {w w' : World} {ok ok' : Nat → Prop} (hb : ∀ b, ok b → ok' b ∧ w'.heap[b]? = w.heap[b]?) : ∀ {d : Nat} {n : Nd} {p : Option Addr} {len : Nat}, RdP w ok d n p len → RdP w' ok' d n p len
  | 0, _, _, _, h => h
  | d + 1, n, p, len, h => by
    obtain ⟨h1, h2⟩ := h
    refine ⟨h1, ?_⟩
    rcases h2 with h2 | ⟨b, off, h3, h4, h5⟩
    · exact .inl h2
    · refine .inr ⟨b, off, h3, (hb b h4).1, fun j c hc => ?_⟩
      obtain ⟨p', l', c', h6, h7⟩ := h5 j c hc
      refine ⟨p', l', c', fun k u hu => ?_, RdP.carry hb h7⟩
      have := h6 k u hu
      simp only [World.cell?, (hb b h4).2] at this ⊢
      exact this
theorem RdP.rdT {w : World} {ok : Nat → Prop} {N : Nat} (hb : ∀ b, ok b → b < N) : ∀ {d : Nat} {n : Nd} {p : Option Addr} {len : Nat}, RdP w ok d n p len → RdT w N d n p len
  | 0, _, _, _, h => h
  | d + 1, n, p, len, h => by
    obtain ⟨h1, h2⟩ := h
    refine ⟨h1, ?_⟩
    rcases h2 with h2 | ⟨b, off, h3, h4, h5⟩
    · exact .inl h2
    · refine .inr ⟨b, off, h3, hb b h4, fun j c hc => ?_⟩
      obtain ⟨p', l', c', h6, h7⟩ := h5 j c hc
      exact ⟨p', l', c', h6, RdP.rdT hb h7⟩
abbrev Kid := Nd × Option Addr × Nat × Nat
def kidC (q : Kid) : List Value := ndC q.1 q.2.1 q.2.2.1 q.2.2.2
theorem kidC_len (q : Kid) : (kidC q).length = 8 := rfl
theorem kidC_one (q : Kid) : ∀ u ∈ kidC q, u.oneCell' = true := by
  intro u hu
  simp only [kidC, ndC, List.mem_cons, List.not_mem_nil, or_false] at hu
  rcases hu with rfl | rfl | rfl | rfl | rfl | rfl | rfl | rfl <;> rfl
theorem RdP.of_row {w : World} {base d : Nat} {v : Value} {L : List Kid} {n : Nd} {ok : Nat → Prop} (h : w.ownsRow base tPn 8 v L.length (L.flatMap kidC)) (hL : L.map Prod.fst = n.args) (hq : ∀ q ∈ L, RdP w ok d q.1 q.2.1 q.2.2.1) (hown : ∀ b, v.ownBlock = some b → ok b) :
    ∃ p cap, v = .slice p L.length cap ∧ RdP w ok (d + 1) n p L.length := by
  obtain ⟨p, cap, hv, _, _, ⟨_, hr⟩, _⟩ := RdG.of_own kidC_len rfl h
  refine ⟨p, cap, hv, by rw [← hL, List.length_map], ?_⟩
  rcases hr with hr | ⟨b, off, h1, h2, h3⟩
  · exact .inl hr
  · refine .inr ⟨b, off, h1, hown b (by rw [hv, h1]; rfl), fun j c hc => ?_⟩
    rw [← hL, List.getElem?_map] at hc
    cases hj : L[j]? with
    | none => rw [hj] at hc; cases hc
    | some q =>
      rw [hj] at hc
      obtain rfl : q.1 = c := by simpa using hc
      exact ⟨q.2.1, q.2.2.1, q.2.2.2, fun k u hu => h3 j q hj k u hu, hq q (List.mem_of_getElem? hj)⟩
theorem info_nd : (Tryz.prog.info? tPn).map (fun i => (i.zero, i.size, i.bytes)) = some (some (.agg #[.int .i64 0, .int .i64 0, .string ⟨#[]⟩, .int .i64 0, .int .i64 0, .int .i64 0, .int .i64 0, .slice none 0 0]), 8, 88) := by kernel_rfl
theorem newNd (w : World) (c : Nd) (p2 : Option Addr) (l' c2 : Nat) : ∀ j u, (ndC c p2 l' c2)[j]? = some u → (w.alloc (.cells (ndA c p2 l' c2) tPn)).cell? ((⟨w.heap.size, 0, none⟩ : Addr).add j) = some u := by
  intro j u hj
  have hb : NdB tPn (w.alloc (.cells (ndA c p2 l' c2) tPn)) w.heap.size c p2 l' c2 := heap_alloc_new w _
  obtain ⟨c0, c1, c2', c3, cd3, c4, cd4, c5⟩ := hb.cells
  have hj6 : j < 8 := (List.getElem?_eq_some_iff.1 hj).1
  simp only [Addr.add, Nat.zero_add]
  match j, hj6, hj with
  | 0, _, hj => cases hj; exact c0
  | 1, _, hj => cases hj; exact c1
  | 2, _, hj => cases hj; exact c2'
  | 3, _, hj => cases hj; exact c3
  | 4, _, hj => cases hj; exact cd3
  | 5, _, hj => cases hj; exact c4
  | 6, _, hj => cases hj; exact cd4
  | 7, _, hj => cases hj; exact c5
end Go.Proofs.YtjklbbmgjjdalaaGreatDoor.Cel
namespace Go.Proofs.YtjklbbmgjjdalaaGreatDoor.Cel
open Go.RowKit Go.Joins
def KeepN (w w' : World) : Prop := ∀ (k : Nat) (cs : Array Value) (fr : Nat × Nat), w.heap[k]? = some (.cells cs tPn fr) → w'.heap[k]? = some (.cells cs tPn fr)
theorem KeepN.refl (w : World) : KeepN w w := fun k cs fr h => h
theorem KeepN.trans {a b c : World} (h : KeepN a b) (h2 : KeepN b c) : KeepN a c := fun k cs fr hk => h2 k cs fr (h k cs fr hk)
theorem KeepN.of {w w' : World} (h : Below w.heap.size w w') : KeepN w w' := fun k cs fr hk => (h.block k (lt_some hk)).trans hk
theorem keep_set {w : World} {b : Nat} {cs : Array Value} {T : TypeId} {fr : Nat × Nat} (h : w.heap[b]? = some (.cells cs T fr)) (hT : T ≠ tPn) (j : Nat) (v : Value) : KeepN w (w.setCell ⟨b, j, none⟩ v) := fun k cs' fr' hk => by
  by_cases e : k = b
  · subst e
    rw [h] at hk
    simp only [Option.some.injEq, Obj.cells.injEq] at hk
    exact absurd hk.2.1 hT
  · exact (Below.heap_setCell w _ v k (by show k ≠ b; exact e)).trans hk
theorem keepB_set {B b : Nat} {p : Value} {bs : List Value} {w : World} (h : Lib.BuilderAt tBd 5 B b p bs w) (j : Nat) (v : Value) : KeepN w (w.setCell ⟨b, j, none⟩ v) := by
  obtain ⟨_, x, h2, _⟩ := h
  exact keep_set h2 (by decide) j v
theorem NdB.keep {w w' : World} {b : Nat} {n : Nd} {p : Option Addr} {len cap : Nat} (h : NdB tPn w b n p len cap) (hk : KeepN w w') : NdB tPn w' b n p len cap := hk b _ _ h
theorem copyCheckK (B b : Nat) (bs : List Value) (w : World) (h : Lib.IsBuilder tBd 5 B b bs w) :
    Calls Tryz.prog 115 #[.pointer (some ⟨b, 0, none⟩)] w fun e w' => e = .returned (.tuple #[]) ∧ Lib.BuilderAt tBd 5 B b (.pointer (some ⟨b, 0, none⟩)) bs w' ∧ Below B w w' ∧ KeepN w w' := by
  rcases h with h | h
  · refine (copyCheck_fresh b w h.cell0 h.shape h.frozen0).mono ?_
    rintro e w' ⟨rfl, rfl⟩
    exact ⟨rfl, h.used _, (Below.refl B w).setCell (p := ⟨b, 0, none⟩) h.1 _, keepB_set h 0 _⟩
  · refine (copyCheck_used b w h.cell0).mono ?_
    rintro e w' ⟨rfl, rfl⟩
    exact ⟨rfl, h, Below.refl B _, KeepN.refl _⟩
set_option maxHeartbeats 2000000 in
set_option maxRecDepth 100000 in
theorem writeStringK (B b : Nat) (bs : List Value) (s : ByteArray) (w : World) (h : Lib.IsBuilder tBd 5 B b bs w) (hlen : bs.length + s.size ≤ 10000000) (hBw : B ≤ w.heap.size) :
    Calls Tryz.prog 97 #[.pointer (some ⟨b, 0, none⟩), .string s] w fun e w' => e = .returned (.tuple #[.int .i64 s.size, .nilIface]) ∧ Lib.BuilderAt tBd 5 B b (.pointer (some ⟨b, 0, none⟩)) (bs ++ Lib.strCells s) w' ∧ Below B w w' ∧ KeepN w w' := by
  obtain ⟨i0, hi, hz0, hz1, hz2⟩ := info_parts info_u8b
  go_enter Tryz.func97, Tryz.ntmps97
  go_wp2_with (go_at_call 115; refine (copyCheckK B b bs _ h).mono ?_)
  rintro e w1 ⟨rfl, h1, hb1, hk1⟩
  obtain ⟨hB, v, hbk, hown, hne⟩ := h1
  have c0 : w1.cell? ⟨b, 0, none⟩ = some (.pointer (some ⟨b, 0, none⟩)) := by rw [Lib.cell_of_heap hbk]; rfl
  have c1 : w1.cell? ⟨b, 1, none⟩ = some v := by rw [Lib.cell_of_heap hbk]; rfl
  go_wp2_with (at_builtin; refine Lib.wpList_append_own_string _ rfl _ _ 65 9 rfl B 5 i0 Tryz.underlying65 Tryz.underlying9 hi hz0 hz1 hz2 _ _ _ rfl hown s rfl ?c3 ?c4 ?c5 ?_)
  case c3 => unfold maxLen; omega
  case c4 => omega
  case c5 => have := hb1.size; omega
  intro v' w2 hown' hgrow _
  have hlt : b < w1.heap.size := by
    rcases Nat.lt_or_ge b w1.heap.size with h' | h'
    · exact h'
    · simp [Array.getElem?_eq_none h'] at hbk
  have hb2 : w2.heap[b]? = some (.cells #[.pointer (some ⟨b, 0, none⟩), v] tBd (0, 0)) := by
    rw [hgrow.block b hlt (fun e => hne e.symm)]
    exact hbk
  have d0 : w2.cell? ⟨b, 0, none⟩ = some (.pointer (some ⟨b, 0, none⟩)) := by rw [Lib.cell_of_heap hb2]; rfl
  have d1 : w2.cell? ⟨b, 1, none⟩ = some v := by rw [Lib.cell_of_heap hb2]; rfl
  have f1 : w2.frozen? ⟨b, 1, none⟩ = false := Lib.frozen_of_heap hb2 1
  obtain ⟨ao, n', cap, rfl⟩ : ∃ ao n' cap, v' = .slice ao n' cap := by
    rcases hown'.2 with ⟨hv, _⟩ | ⟨g, cap, cur, hv, _⟩
    · exact ⟨_, _, _, hv⟩
    · exact ⟨_, _, _, hv⟩
  go_wp2
  go_ret2
  refine ⟨rfl, ?_, ?_, ?_⟩
  · exact Lib.BuilderAt.put (T := tBd) (e := 5) hB hb2 (bs' := bs ++ Lib.strCells s) (by simpa [Lib.strCells_length] using hown') (by decide)
  · exact (hb1.grown hgrow (by have := hb1.size; omega) (fun k hk => (hown.lt k hk).1)).setCell (p := ⟨b, 1, none⟩) hB _
  · refine hk1.trans (KeepN.trans (b := w2) ?_ (keep_set hb2 (by decide) 1 _))
    intro k cs fr hk
    rw [hgrow.block k (lt_some hk) (fun e => Lib.ownBlock_ne hown hk (by decide) e.symm)]
    exact hk
set_option maxHeartbeats 2000000 in
set_option maxRecDepth 100000 in
theorem writeByteK (B b : Nat) (bs : List Value) (c : Int) (w : World) (h : Lib.IsBuilder tBd 5 B b bs w) (hlen : bs.length ≤ 10000000) (hBw : B ≤ w.heap.size) :
    Calls Tryz.prog 96 #[.pointer (some ⟨b, 0, none⟩), .int .u8 c] w fun e w' => e = .returned .nilIface ∧ Lib.BuilderAt tBd 5 B b (.pointer (some ⟨b, 0, none⟩)) (bs ++ [.int .u8 c]) w' ∧ Below B w w' ∧ KeepN w w' := by
  obtain ⟨i0, hi, hz0, hz1, hz2⟩ := info_parts info_u8b
  go_enter Tryz.func96, Tryz.ntmps96
  go_wp2_with (go_at_call 115; refine (copyCheckK B b bs _ h).mono ?_)
  rintro e w1 ⟨rfl, h1, hb1, hk1⟩
  obtain ⟨hB, v, hbk, hown, hne⟩ := h1
  have c0 : w1.cell? ⟨b, 0, none⟩ = some (.pointer (some ⟨b, 0, none⟩)) := by rw [Lib.cell_of_heap hbk]; rfl
  have c1 : w1.cell? ⟨b, 1, none⟩ = some v := by rw [Lib.cell_of_heap hbk]; rfl
  go_wp2_with (at_builtin; refine wpList_append_own _ rfl _ _ 65 rfl B 5 i0 (.int .u8 0) 1 1 Tryz.underlying65 hi hz0 hz1 hz2 rfl (by decide) _ _ _ rfl (hown.alloc _) ⟨w1.heap.size, 0, none⟩ 1 1 [.int .u8 c] rfl rfl ?c1 ?c2 ?c3 ?c4 ?c5 ?_)
  case c1 =>
    intro j u hj
    match j, hj with
    | 0, hj => simp at hj; subst hj; simp [Addr.add]
  case c2 => intro u hu; simp at hu; subst hu; rfl
  case c3 => unfold maxLen; omega
  case c4 => omega
  case c5 => have := hb1.size; simp; omega
  intro v' w2 hown' hgrow _
  have hlt : b < w1.heap.size := by
    rcases Nat.lt_or_ge b w1.heap.size with h' | h'
    · exact h'
    · simp [Array.getElem?_eq_none h'] at hbk
  have hb2 : w2.heap[b]? = some (.cells #[.pointer (some ⟨b, 0, none⟩), v] tBd (0, 0)) := by
    rw [hgrow.block b (by simp; omega) (fun e => hne e.symm), Lib.alloc_old w1 _ b hlt]
    exact hbk
  have d0 : w2.cell? ⟨b, 0, none⟩ = some (.pointer (some ⟨b, 0, none⟩)) := by rw [Lib.cell_of_heap hb2]; rfl
  have d1 : w2.cell? ⟨b, 1, none⟩ = some v := by rw [Lib.cell_of_heap hb2]; rfl
  have f1 : w2.frozen? ⟨b, 1, none⟩ = false := Lib.frozen_of_heap hb2 1
  obtain ⟨g, cap, rfl⟩ : ∃ g cap, v' = .slice (some ⟨g, 0, none⟩) (bs.length + 1) cap := by
    rcases hown'.2 with ⟨_, h0⟩ | ⟨g, cap, cur, hv, _⟩
    · omega
    · exact ⟨g, cap, hv⟩
  go_wp2
  go_ret
  refine ⟨rfl, ?_, ?_, ?_⟩
  · exact Lib.BuilderAt.put (T := tBd) (e := 5) hB hb2 (bs' := bs ++ [.int .u8 c]) (by simpa using hown') (by decide)
  · exact ((hb1.alloc (by have := hb1.size; omega) _).grown hgrow (by have := hb1.size; simp; omega) (fun k hk => (hown.lt k hk).1)).setCell (p := ⟨b, 1, none⟩) hB _
  · refine hk1.trans (KeepN.trans (b := w2) ?_ (keep_set hb2 (by decide) 1 _))
    intro k cs fr hk
    rw [hgrow.block k (by have := lt_some hk; simp; omega) (fun e => Lib.ownBlock_ne hown hk (by decide) e.symm), Lib.alloc_old w1 _ k (lt_some hk)]
    exact hk
set_option maxHeartbeats 2000000 in
set_option maxRecDepth 100000 in
theorem writeByte_d (u : FrameMode) (B b : Nat) (bs : List Value) (c : Int) (w : World) (h : Lib.IsBuilder tBd 5 B b bs w) (hlen : bs.length ≤ 10000000) (hBw : B ≤ w.heap.size) :
    CallsD Tryz.prog 96 #[.pointer (some ⟨b, 0, none⟩), .int .u8 c] u w fun e u' w' => u' = u ∧ (e = .returned .nilIface ∧ Lib.BuilderAt tBd 5 B b (.pointer (some ⟨b, 0, none⟩)) (bs ++ [.int .u8 c]) w' ∧ Below B w w' ∧ KeepN w w') := by
  obtain ⟨i0, hi, hz0, hz1, hz2⟩ := info_parts info_u8b
  go_enter_d Tryz.func96, Tryz.ntmps96
  go_wp2_with (go_at_call 115; refine (copyCheckK B b bs _ h).mono ?_)
  rintro e w1 ⟨rfl, h1, hb1, hk1⟩
  obtain ⟨hB, v, hbk, hown, hne⟩ := h1
  have c0 : w1.cell? ⟨b, 0, none⟩ = some (.pointer (some ⟨b, 0, none⟩)) := by rw [Lib.cell_of_heap hbk]; rfl
  have c1 : w1.cell? ⟨b, 1, none⟩ = some v := by rw [Lib.cell_of_heap hbk]; rfl
  go_wp2_with (at_builtin; refine wpList_append_own _ rfl _ _ 65 rfl B 5 i0 (.int .u8 0) 1 1 Tryz.underlying65 hi hz0 hz1 hz2 rfl (by decide) _ _ _ rfl (hown.alloc _) ⟨w1.heap.size, 0, none⟩ 1 1 [.int .u8 c] rfl rfl ?c1 ?c2 ?c3 ?c4 ?c5 ?_)
  case c1 =>
    intro j u hj
    match j, hj with
    | 0, hj => simp at hj; subst hj; simp [Addr.add]
  case c2 => intro u hu; simp at hu; subst hu; rfl
  case c3 => unfold maxLen; omega
  case c4 => omega
  case c5 => have := hb1.size; simp; omega
  intro v' w2 hown' hgrow _
  have hlt : b < w1.heap.size := by
    rcases Nat.lt_or_ge b w1.heap.size with h' | h'
    · exact h'
    · simp [Array.getElem?_eq_none h'] at hbk
  have hb2 : w2.heap[b]? = some (.cells #[.pointer (some ⟨b, 0, none⟩), v] tBd (0, 0)) := by
    rw [hgrow.block b (by simp; omega) (fun e => hne e.symm), Lib.alloc_old w1 _ b hlt]
    exact hbk
  have d0 : w2.cell? ⟨b, 0, none⟩ = some (.pointer (some ⟨b, 0, none⟩)) := by rw [Lib.cell_of_heap hb2]; rfl
  have d1 : w2.cell? ⟨b, 1, none⟩ = some v := by rw [Lib.cell_of_heap hb2]; rfl
  have f1 : w2.frozen? ⟨b, 1, none⟩ = false := Lib.frozen_of_heap hb2 1
  obtain ⟨g, cap, rfl⟩ : ∃ g cap, v' = .slice (some ⟨g, 0, none⟩) (bs.length + 1) cap := by
    rcases hown'.2 with ⟨_, h0⟩ | ⟨g, cap, cur, hv, _⟩
    · omega
    · exact ⟨g, cap, hv⟩
  go_wp2
  go_ret
  refine ⟨rfl, ?_, ?_, ?_⟩
  · exact Lib.BuilderAt.put (T := tBd) (e := 5) hB hb2 (bs' := bs ++ [.int .u8 c]) (by simpa using hown') (by decide)
  · exact ((hb1.alloc (by have := hb1.size; omega) _).grown hgrow (by have := hb1.size; simp; omega) (fun k hk => (hown.lt k hk).1)).setCell (p := ⟨b, 1, none⟩) hB _
  · refine hk1.trans (KeepN.trans (b := w2) ?_ (keep_set hb2 (by decide) 1 _))
    intro k cs fr hk
    rw [hgrow.block k (by have := lt_some hk; simp; omega) (fun e => Lib.ownBlock_ne hown hk (by decide) e.symm), Lib.alloc_old w1 _ k (lt_some hk)]
    exact hk
theorem write_atK (B b : Nat) (l : List UInt8) (s : ByteArray) (w : World) (h : Lib.IsBuilder tBd 5 B b (Lib.byteCells l) w) (hlen : l.length + s.size ≤ 10000000) (hBw : B ≤ w.heap.size) :
    Calls Tryz.prog 97 #[.pointer (some ⟨b, 0, none⟩), .string s] w fun e w' => e = .returned (.tuple #[.int .i64 s.size, .nilIface]) ∧ Lib.IsBuilder tBd 5 B b (Lib.byteCells (l ++ s.data.toList)) w' ∧ Below B w w' ∧ KeepN w w' :=
  (writeStringK B b _ s w h (by simpa [Lib.byteCells] using hlen) hBw).mono fun e w' ⟨h1, h2, h3⟩ => ⟨h1, .inr (by
    have e : Lib.byteCells (l ++ s.data.toList) = Lib.byteCells l ++ Lib.strCells s := by simp [Lib.byteCells, Lib.strCells]
    rw [e]; exact h2), h3⟩
theorem writeByte_atK (B b : Nat) (l : List UInt8) (c : Nat) (hc : c < 256) (w : World) (h : Lib.IsBuilder tBd 5 B b (Lib.byteCells l) w) (hlen : l.length ≤ 10000000) (hBw : B ≤ w.heap.size) :
    Calls Tryz.prog 96 #[.pointer (some ⟨b, 0, none⟩), .int .u8 (c : Int)] w fun e w' => e = .returned .nilIface ∧ Lib.IsBuilder tBd 5 B b (Lib.byteCells (l ++ [UInt8.ofNat c])) w' ∧ Below B w w' ∧ KeepN w w' :=
  (writeByteK B b _ (c : Int) w h (by simpa [Lib.byteCells] using hlen) hBw).mono fun e w' ⟨h1, h2, h3⟩ => ⟨h1, .inr (by
    have e : Lib.byteCells (l ++ [UInt8.ofNat c]) = Lib.byteCells l ++ [.int .u8 (c : Int)] := by
      have : (UInt8.ofNat c).toNat = c := by simp; omega
      simp [Lib.byteCells]
      omega
    rw [e]; exact h2), h3⟩
theorem writeByte_dat (u : FrameMode) (B b : Nat) (l : List UInt8) (c : Nat) (hc : c < 256) (w : World) (h : Lib.IsBuilder tBd 5 B b (Lib.byteCells l) w) (hlen : l.length ≤ 10000000) (hBw : B ≤ w.heap.size) :
    CallsD Tryz.prog 96 #[.pointer (some ⟨b, 0, none⟩), .int .u8 (c : Int)] u w fun e u' w' => u' = u ∧ (e = .returned .nilIface ∧ Lib.IsBuilder tBd 5 B b (Lib.byteCells (l ++ [UInt8.ofNat c])) w' ∧ Below B w w' ∧ KeepN w w') :=
  (writeByte_d u B b _ (c : Int) w h (by simpa [Lib.byteCells] using hlen) hBw).mono fun e u' w' ⟨h0, h1, h2, h3⟩ => ⟨h0, h1, .inr (by
    have e : Lib.byteCells (l ++ [UInt8.ofNat c]) = Lib.byteCells l ++ [.int .u8 (c : Int)] := by
      have : (UInt8.ofNat c).toNat = c := by simp; omega
      simp [Lib.byteCells]
      omega
    rw [e]; exact h2), h3⟩
end Go.Proofs.YtjklbbmgjjdalaaGreatDoor.Cel
namespace Go.Proofs.YtjklbbmgjjdalaaGreatDoor.Cel
open Go.RowKit Go.Joins
set_option maxRecDepth 100000 in
set_option maxHeartbeats 2000000 in
theorem strengthN (n : Nd) (p : Option Addr) (len cap : Nat) (w : World) : Calls Tryz.prog 95 #[.agg (ndA n p len cap)] w fun e w' => e = .returned (.int .i64 (hdS n.kind n.text)) ∧ Below w.heap.size w w' := by
  have hA0 : Hid (NdB tPn (w.alloc (.cells (ndA n p len cap) tPn)) w.heap.size n p len cap) := heap_alloc_new w _
  have hAB : Hid (Below w.heap.size w (w.alloc (.cells (ndA n p len cap) tPn))) := by unfold Hid; (repeat' (first | (with_reducible exact Below.refl _ _) | (with_reducible assumption) | (with_reducible refine Below.alloc ?_ ?_ _) | (with_reducible refine bel_drewN ?_ _) | (with_reducible refine Below.drew ?_) | (with_reducible refine Below.setCell ?_ ?_ _) | (with_reducible refine bel_call ‹_› ?_ ?_) | go_size))
  have HLV := Lib.hid (fun W => level_any ⟨n.text.toArray⟩ W)
  rw [show (⟨n.text.toArray⟩ : ByteArray).data.toList = n.text from rfl] at HLV
  obtain ⟨O, hO⟩ : ∃ O, hdS n.kind n.text = O := ⟨_, rfl⟩
  have HO : Hid (O = if n.kind = 6 then lvS n.text else if n.kind = 5 then 5 else 6) := by unfold Hid; rw [← hO]; rfl
  rw [hO]
  clear hO
  generalize lvS n.text = lv at HLV HO
  rw [ndA_eq]
  go_enter Tryz.func95, Tryz.ntmps95
  go_upto_region 1 with fail
  have e0 : w.alloc (.cells #[.int .i64 n.kind, .int .i64 n.num, .string ⟨n.text.toArray⟩, .int .i64 (cC n.frm), .int .i64 (cR n.frm), .int .i64 (cC n.tor), .int .i64 (cR n.tor), .slice p len cap] tPn) = w.alloc (.cells (ndA n p len cap) tPn) := rfl
  rw [e0]
  clear e0
  generalize w.alloc (.cells (ndA n p len cap) tPn) = w0 at hA0 hAB ⊢
  obtain ⟨c0, c1, c2, c3, cd3, c4, cd4, c5⟩ := hA0.out.cells
  by_cases h6 : n.kind = 6
  · rw [h6] at c0
    go_wp2_with fail
    refine (HLV.out _).mono ?_
    rintro e w3 ⟨rfl, hb3⟩
    have hB3 := bel_call hb3 hAB.out hAB.out.size
    go_wp2_with fail
    go_ret
    exact ⟨by rw [HO.out, if_pos h6]; rfl, hB3⟩
  · by_cases h5 : n.kind = 5
    · rw [h5] at c0
      go_wp2_with fail
      go_ret
      exact ⟨by rw [HO.out, if_neg h6, if_pos h5]; rfl, hAB.out⟩
    · go_wp2_with fail
      go_ret
      exact ⟨by rw [HO.out, if_neg h6, if_neg h5]; rfl, hAB.out⟩
end Go.Proofs.YtjklbbmgjjdalaaGreatDoor.Cel
namespace Go.Proofs.YtjklbbmgjjdalaaGreatDoor.Cel
open Go.RowKit Go.Joins
def WriteN (nm : Int → Bs) (F : Value) (q : Nd → Prop) (d : Nat) : Prop := ∀ (n : Nd) (p : Option Addr) (len cap : Nat) (least lv : Int) (B b : Nat) (l : Bs) (w0 w : World), q n → RdT w B d n p len → OkN n → rtN n lv = true → 0 ≤ least → least ≤ 5 → w0.ShapedOpen Tryz.prog → B = w0.heap.size → Below B w0 w →
    Lib.IsBuilder tBd 5 B b (Lib.byteCells l) w → B ≤ w.heap.size → l.length + wtN n ≤ 2200000 →
    Calls Tryz.prog 73 #[.pointer (some ⟨b, 0, none⟩), .agg (ndA n p len cap), .int .i64 least, F] w fun e w' => e = .returned (.tuple #[]) ∧ Lib.IsBuilder tBd 5 B b (Lib.byteCells (l ++ prN nm n least)) w' ∧ Below B w w' ∧ KeepN w w'
set_option maxRecDepth 100000 in
set_option maxHeartbeats 4000000 in
theorem write_8 (nm : Int → Bs) (F : Value) (d : Nat) : WriteN nm F (fun n => n.kind = 8) d := by
  intro n p len cap least lv B b l ws w hq hrd hok hrt hl0 hl1 hsh hB0 hw0 hib hB hlen
  have hk : n.kind = 8 := hq
  have HK := Lib.hid hk
  have HST := Lib.hid (fun W => strengthN n p len cap W)
  have hpr : prN nm n least = refBs := by
    cases n with
    | mk k u t f o a =>
      obtain rfl : k = 8 := hk
      rw [prN, if_neg (by unfold hdS; simp; omega)]
      rfl
  have hw : 400 ≤ wtN n := by cases n; rw [wtN]; omega
  rw [hpr]
  rw [show hdS n.kind n.text = 6 from by rw [hk]; rfl] at HST
  clear hrd hok hrt hsh hB0 hw0 hpr hk hq
  have hl6 : ¬ 6 < least := by omega
  have hA0 : Hid (NdB tPn (w.alloc (.cells (ndA n p len cap) tPn)) w.heap.size n p len cap) := heap_alloc_new w _
  have hAB : Hid (Below B w (w.alloc (.cells (ndA n p len cap) tPn))) := (Below.refl B w).alloc hB _
  have hAK : Hid (KeepN w (w.alloc (.cells (ndA n p len cap) tPn))) := KeepN.of (by (repeat' (first | (with_reducible exact Below.refl _ _) | (with_reducible assumption) | (with_reducible refine Below.alloc ?_ ?_ _) | (with_reducible refine bel_drewN ?_ _) | (with_reducible refine Below.drew ?_) | (with_reducible refine Below.setCell ?_ ?_ _) | (with_reducible refine bel_call ‹_› ?_ ?_) | go_size)))
  have HIB := Lib.hid (IsBuilder_below hib (Below.alloc (Below.refl w.heap.size w) (Nat.le_refl _) (.cells (ndA n p len cap) tPn)))
  rw [ndA_eq] at HST ⊢
  clear hib
  go_enter_defers Tryz.func73, Tryz.ntmps73
  go_upto_region 1 with fail
  have e0 : w.alloc (.cells #[.int .i64 n.kind, .int .i64 n.num, .string ⟨n.text.toArray⟩, .int .i64 (cC n.frm), .int .i64 (cR n.frm), .int .i64 (cC n.tor), .int .i64 (cR n.tor), .slice p len cap] tPn) = w.alloc (.cells (ndA n p len cap) tPn) := rfl
  rw [e0]
  clear e0
  generalize w.alloc (.cells (ndA n p len cap) tPn) = w0 at hA0 hAB HIB hAK ⊢
  obtain ⟨c0, c1, c2, c3, cd3, c4, cd4, c5⟩ := hA0.out.cells
  go_wp2_with fail
  refine (HST.out _).mono ?_
  rintro e w1 ⟨rfl, hb1⟩
  have hz0 : B ≤ w0.heap.size := Nat.le_trans hB hAB.out.size
  have hB1 : Hid (Below B w w1) := bel_call hb1 hAB.out hz0
  have hA1 := Lib.hid (hA0.out.below hb1)
  have HI1 := Lib.hid (IsBuilder_below HIB.out hb1)
  have HK1 : Hid (KeepN w w1) := hAK.out.trans (KeepN.of hb1)
  have hz1 : B ≤ w1.heap.size := Nat.le_trans hz0 hb1.size
  generalize w.heap.size = bn at hA0 hA1 hB hb1 ⊢
  clear hb1 hA0 HIB hAB hz0 c0 c1 c2 c3 cd3 c4 cd4 c5 HST hAK
  obtain ⟨c0, c1, c2, c3, cd3, c4, cd4, c5⟩ := hA1.out.cells
  rw [HK.out] at c0
  have hXs : (⟨#[35, 82, 69, 70, 33]⟩ : ByteArray).size = 5 := rfl
  go_wp2_with fail
  refine (write_atK B b l ⟨#[35, 82, 69, 70, 33]⟩ w1 HI1.out (by rw [hXs]; omega) hz1).mono ?_
  rintro e w3 ⟨rfl, hi3, hb3, hk3⟩
  have hB3 : Hid (Below B w w3) := hB1.out.trans hb3
  have HI3 := Lib.hid hi3
  have HK3 : Hid (KeepN w w3) := HK1.out.trans hk3
  clear hi3 hb3 HI1 hB1 hXs HK1 hk3
  go_wp2_with fail
  exact ⟨_, results_none rfl _ _ _, rfl, HI3.out, hB3.out, HK3.out⟩
end Go.Proofs.YtjklbbmgjjdalaaGreatDoor.Cel
