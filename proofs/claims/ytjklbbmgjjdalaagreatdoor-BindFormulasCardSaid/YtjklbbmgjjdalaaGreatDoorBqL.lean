/- Trees over references of any kind: as plain trees, and as they lie in memory. No function of the program. Trees over cells by stamps: which may be: the program's right, Right. Printed by gen_tnb.py. Trees over cells by stamps, taken from bytes: plain part, and how parts that are built stay. Trees over cells by stamps, taken from bytes: bind.take: the walk. Printed by gen_tnd.py. -/
import Derived.Test.YtjklbbmgjjdalaaGreatDoorBqA
import Derived.Deep.MidRow
import Derived.Lib.SmallJoins
import Derived.Test.YtjklbbmgjjdalaaGreatDoorBqB
import Derived.Test.YtjklbbmgjjdalaaGreatDoorBqM
import Derived.Deep.CutBlock
import Derived.Test.YtjklbbmgjjdalaaGreatDoorBqE
import Derived.Test.YtjklbbmgjjdalaaGreatDoorBqN
import Derived.Maps.AppendAt
set_option linter.unusedSimpArgs false
set_option linter.unusedVariables false
namespace Go.Proofs.YtjklbbmgjjdalaaGreatDoor.Bd
open Go.RowKit Go.Joins
inductive Tn (R : Type) where
  | mk (kind num : Int) (text : List UInt8) (frm tor : R) (args : List (Tn R))
section
variable {R : Type}
def Tn.kind : Tn R → Int | .mk k _ _ _ _ _ => k
def Tn.num : Tn R → Int | .mk _ m _ _ _ _ => m
def Tn.text : Tn R → List UInt8 | .mk _ _ t _ _ _ => t
def Tn.frm : Tn R → R | .mk _ _ _ f _ _ => f
def Tn.tor : Tn R → R | .mk _ _ _ _ o _ => o
def Tn.args : Tn R → List (Tn R) | .mk _ _ _ _ _ a => a
def tnC (enc : R → List Value) (n : Tn R) (p : Option Addr) (len cap : Nat) : List Value := .int .i64 n.kind :: .int .i64 n.num :: .string ⟨n.text.toArray⟩ :: (enc n.frm ++ (enc n.tor ++ [.slice p len cap]))
theorem tnC_len {enc : R → List Value} {m : Nat} (hm : ∀ x, (enc x).length = m) (n : Tn R) (p : Option Addr) (len cap : Nat) : (tnC enc n p len cap).length = 4 + 2 * m := by
  unfold tnC
  simp [hm]
  omega
def RdQ (enc : R → List Value) (sz : Nat) (w : World) (ok : Nat → Prop) : Nat → Tn R → Option Addr → Nat → Prop
  | 0, n, p, len => n.args = [] ∧ len = 0
  | d + 1, n, p, len => n.args.length = len ∧ (len = 0 ∨ ∃ b off, p = some ⟨b, off, none⟩ ∧ ok b ∧ b < w.heap.size ∧ ∀ j c, n.args[j]? = some c → ∃ p' l' c', w.rangeAt b (off + j * sz) (tnC enc c p' l' c') ∧ RdQ enc sz w ok d c p' l')
theorem rangeAt_of_block' {w w' : World} {b o : Nat} {cs : List Value} (h : w.rangeAt b o cs) (hb : w'.heap[b]? = w.heap[b]?) : w'.rangeAt b o cs := fun j v hv => by
  have := h j v hv
  simp only [World.cell?, hb] at this ⊢
  exact this
theorem lt_of_block' {w w' : World} {b : Nat} (h : b < w.heap.size) (hb : w'.heap[b]? = w.heap[b]?) : b < w'.heap.size := by
  rcases Nat.lt_or_ge b w'.heap.size with h' | h'
  · exact h'
  · rw [Array.getElem?_eq_none h', Array.getElem?_eq_getElem h] at hb
    cases hb
theorem RdQ.carry {enc : R → List Value} {sz : Nat} {w w' : World} {ok ok' : Nat → Prop} (hb : ∀ b, ok b → b < w.heap.size → ok' b ∧ w'.heap[b]? = w.heap[b]?) : ∀ {d : Nat} {n : Tn R} {p : Option Addr} {len : Nat}, RdQ enc sz w ok d n p len → RdQ enc sz w' ok' d n p len
  | 0, _, _, _, h => h
  | d + 1, n, p, len, h => by
    obtain ⟨h1, h2⟩ := h
    refine ⟨h1, ?_⟩
    rcases h2 with h2 | ⟨b, off, h3, h4, hl, h5⟩
    · exact .inl h2
    · refine .inr ⟨b, off, h3, (hb b h4 hl).1, lt_of_block' hl (hb b h4 hl).2, fun j c hc => ?_⟩
      obtain ⟨p', l', c', h6, h7⟩ := h5 j c hc
      exact ⟨p', l', c', rangeAt_of_block' h6 (hb b h4 hl).2, RdQ.carry hb h7⟩
theorem RdQ.below {enc : R → List Value} {sz : Nat} {w w' : World} {ok : Nat → Prop} {d : Nat} {n : Tn R} {p : Option Addr} {len : Nat} (h : RdQ enc sz w ok d n p len) (hb : Below w.heap.size w w') : RdQ enc sz w' ok d n p len := h.carry fun b h1 h2 => ⟨h1, hb.block b h2⟩
theorem RdQ.low {enc : R → List Value} {sz : Nat} {w w' : World} {N : Nat} {d : Nat} {n : Tn R} {p : Option Addr} {len : Nat} (h : RdQ enc sz w (· < N) d n p len) (hb : Below N w w') : RdQ enc sz w' (· < N) d n p len := h.carry fun b h1 _ => ⟨h1, hb.block b h1⟩
theorem RdQ.weak {enc : R → List Value} {sz : Nat} {w : World} {ok ok' : Nat → Prop} {d : Nat} {n : Tn R} {p : Option Addr} {len : Nat} (h : RdQ enc sz w ok d n p len) (hw : ∀ b, ok b → ok' b) : RdQ enc sz w ok' d n p len := h.carry fun b h1 _ => ⟨hw b h1, rfl⟩
theorem RdQ.len {enc : R → List Value} {sz : Nat} {w : World} {ok : Nat → Prop} {d : Nat} {n : Tn R} {p : Option Addr} {len : Nat} (h : RdQ enc sz w ok d n p len) : n.args.length = len := by
  cases d with
  | zero => rw [h.1, h.2]; rfl
  | succ d => exact h.1
theorem RdQ.at {enc : R → List Value} {sz : Nat} {w : World} {ok : Nat → Prop} {d : Nat} {n : Tn R} {p : Option Addr} {len : Nat} (h : RdQ enc sz w ok d n p len) {j : Nat} (hj : j < len) : ∃ d' b off c p' l' c', d = d' + 1 ∧ p = some ⟨b, off, none⟩ ∧ ok b ∧ b < w.heap.size ∧ n.args[j]? = some c ∧ RdQ enc sz w ok d' c p' l' ∧ w.rangeAt b (off + j * sz) (tnC enc c p' l' c') := by
  cases d with
  | zero => rw [h.2] at hj; omega
  | succ d =>
    obtain ⟨h1, h2⟩ := h
    rcases h2 with h2 | ⟨b, off, h3, h4, hl, h5⟩
    · omega
    · obtain ⟨c, hc⟩ : ∃ c, n.args[j]? = some c := ⟨_, List.getElem?_eq_getElem (by omega)⟩
      obtain ⟨p', l', c', h6, h7⟩ := h5 j c hc
      exact ⟨d, b, off, c, p', l', c', rfl, h3, h4, hl, hc, h7, h6⟩
theorem RdQ.up {enc : R → List Value} {sz : Nat} {w : World} {ok : Nat → Prop} : ∀ {d d' : Nat} {n : Tn R} {p : Option Addr} {len : Nat}, d ≤ d' → RdQ enc sz w ok d n p len → RdQ enc sz w ok d' n p len
  | 0, 0, _, _, _, _, h => h
  | 0, d' + 1, _, _, _, _, h => ⟨by rw [h.1, h.2]; rfl, .inl h.2⟩
  | d + 1, 0, _, _, _, hd, _ => by omega
  | d + 1, d' + 1, n, p, len, hd, h => by
    obtain ⟨h1, h2⟩ := h
    refine ⟨h1, ?_⟩
    rcases h2 with h2 | ⟨b, off, h3, h4, hl, h5⟩
    · exact .inl h2
    · refine .inr ⟨b, off, h3, h4, hl, fun j c hc => ?_⟩
      obtain ⟨p', l', c', h6, h7⟩ := h5 j c hc
      exact ⟨p', l', c', h6, RdQ.up (by omega) h7⟩
abbrev KidQ (R : Type) := Tn R × Option Addr × Nat × Nat
def kidQ (enc : R → List Value) (q : KidQ R) : List Value := tnC enc q.1 q.2.1 q.2.2.1 q.2.2.2
theorem RdQ.of_row {enc : R → List Value} {sz : Nat} (hz : ∀ q, (kidQ enc q).length = sz) {w : World} {base d : Nat} {e : TypeId} {v : Value} {L : List (KidQ R)} {n : Tn R} {ok : Nat → Prop} (h : w.ownsRow base e sz v L.length (L.flatMap (kidQ enc))) (hL : L.map Prod.fst = n.args) (hq : ∀ q ∈ L, RdQ enc sz w ok d q.1 q.2.1 q.2.2.1) (hown : ∀ b, v.ownBlock = some b → ok b) :
    ∃ p cap, v = .slice p L.length cap ∧ RdQ enc sz w ok (d + 1) n p L.length := by
  obtain ⟨p, cap, hv, _, _, ⟨_, hr⟩, _⟩ := RdG.of_own hz rfl h
  refine ⟨p, cap, hv, by rw [← hL, List.length_map], ?_⟩
  rcases hr with hr | ⟨b, off, h1, h2, h3⟩
  · exact .inl hr
  · refine .inr ⟨b, off, h1, hown b (by rw [hv, h1]; rfl), h2, fun j c hc => ?_⟩
    rw [← hL, List.getElem?_map] at hc
    cases hj : L[j]? with
    | none => rw [hj] at hc; cases hc
    | some q =>
      rw [hj] at hc
      obtain rfl : q.1 = c := by simpa using hc
      exact ⟨q.2.1, q.2.2.1, q.2.2.2, fun k u hu => h3 j q hj k u hu, hq q (List.mem_of_getElem? hj)⟩
def okQ (lo : Nat) (w : World) (v : Value) (b : Nat) : Prop := lo ≤ b ∧ b < w.heap.size ∧ v.ownBlock ≠ some b
theorem mem_of_at {a : List (Tn R)} {i : Nat} {c : Tn R} (h : a[i]? = some c) : c ∈ a := List.mem_of_getElem? h
end
end Go.Proofs.YtjklbbmgjjdalaaGreatDoor.Bd
namespace Go.Proofs.YtjklbbmgjjdalaaGreatDoor.Bd
open Go.RowKit Go.Joins
abbrev Rfp := Idp × Idp
def rfE (x : Rfp) : List Value := [.int .u64 x.1.1, .int .i64 x.1.2, .int .u64 x.2.1, .int .i64 x.2.2]
abbrev Bn := Tn Rfp
section
variable {R : Type}
inductive Sm : Tn R → Prop
  | mk (k u : Int) (t : List UInt8) (f o : R) (a : List (Tn R)) (h1 : t.length ≤ 200000) (h2 : a.length ≤ 100000) (h3 : ∀ c ∈ a, Sm c) : Sm (.mk k u t f o a)
theorem Sm.text {n : Tn R} (h : Sm n) : n.text.length ≤ 200000 := by cases h with | mk k u t f o a h1 h2 h3 => exact h1
theorem Sm.len {n : Tn R} (h : Sm n) : n.args.length ≤ 100000 := by cases h with | mk k u t f o a h1 h2 h3 => exact h2
theorem Sm.child {n c : Tn R} (h : Sm n) (hc : c ∈ n.args) : Sm c := by cases h with | mk k u t f o a h1 h2 h3 => exact h3 c hc
end
def bnA (n : Bn) (p : Option Addr) (len cap : Nat) : Array Value := #[.int .i64 n.kind, .int .i64 n.num, .string ⟨n.text.toArray⟩, .int .u64 n.frm.1.1, .int .i64 n.frm.1.2, .int .u64 n.frm.2.1, .int .i64 n.frm.2.2, .int .u64 n.tor.1.1, .int .i64 n.tor.1.2, .int .u64 n.tor.2.1, .int .i64 n.tor.2.2, .slice p len cap]
theorem bnA_eq (n : Bn) (p : Option Addr) (len cap : Nat) : Value.agg (bnA n p len cap) = .agg #[.int .i64 n.kind, .int .i64 n.num, .string ⟨n.text.toArray⟩, .int .u64 n.frm.1.1, .int .i64 n.frm.1.2, .int .u64 n.frm.2.1, .int .i64 n.frm.2.2, .int .u64 n.tor.1.1, .int .i64 n.tor.1.2, .int .u64 n.tor.2.1, .int .i64 n.tor.2.2, .slice p len cap] := rfl
theorem bnA_list (n : Bn) (p : Option Addr) (len cap : Nat) : tnC rfE n p len cap = [.int .i64 n.kind, .int .i64 n.num, .string ⟨n.text.toArray⟩, .int .u64 n.frm.1.1, .int .i64 n.frm.1.2, .int .u64 n.frm.2.1, .int .i64 n.frm.2.2, .int .u64 n.tor.1.1, .int .i64 n.tor.1.2, .int .u64 n.tor.2.1, .int .i64 n.tor.2.2, .slice p len cap] := rfl
abbrev okA : Nat → Prop := fun _ => True
end Go.Proofs.YtjklbbmgjjdalaaGreatDoor.Bd
namespace Go.Proofs.YtjklbbmgjjdalaaGreatDoor.Bd
open Go.RowKit Go.Joins
abbrev rfZ : Rfp := ((0, 0), (0, 0))
structure Hd where
  u : Int
  t : List UInt8
  f : Rfp
  g : Rfp
  ok : Bool
  S : Option (List UInt8)
theorem kidR_len (q : KidQ Rfp) : (kidQ rfE q).length = 12 := tnC_len (m := 4) (fun _ => rfl) _ _ _ _
theorem kidR_one (q : KidQ Rfp) : ∀ u ∈ kidQ rfE q, u.oneCell' = true := by
  intro u hu
  rw [show kidQ rfE q = tnC rfE q.1 q.2.1 q.2.2.1 q.2.2.2 from rfl, bnA_list] at hu
  simp only [List.mem_cons, List.not_mem_nil, or_false] at hu
  rcases hu with rfl | rfl | rfl | rfl | rfl | rfl | rfl | rfl | rfl | rfl | rfl | rfl <;> rfl
theorem info_bn : (Tryz.prog.info? tNr).map (fun i => (i.zero, i.size, i.bytes)) = some (some (.agg #[.int .i64 0, .int .i64 0, .string ⟨#[]⟩, .int .u64 0, .int .i64 0, .int .u64 0, .int .i64 0, .int .u64 0, .int .i64 0, .int .u64 0, .int .i64 0, .slice none 0 0]), 12, 120) := by kernel_rfl
theorem newBn (w : World) (c : Bn) (p2 : Option Addr) (l' c2 : Nat) : ∀ j u, (kidQ rfE (c, p2, l', c2))[j]? = some u → (w.alloc (.cells (bnA c p2 l' c2) tNr)).cell? ((⟨w.heap.size, 0, none⟩ : Addr).add j) = some u := by
  intro j u hj
  have hb : BlkC (w.alloc (.cells (bnA c p2 l' c2) tNr)) w.heap.size (bnA c p2 l' c2) tNr := heap_alloc_new w _
  rw [Addr.add_mid, Nat.zero_add, cell_of_block hb]
  have e : bnA c p2 l' c2 = (kidQ rfE (c, p2, l', c2)).toArray := rfl
  rw [e]
  simpa using hj
end Go.Proofs.YtjklbbmgjjdalaaGreatDoor.Bd
namespace Go.Proofs.YtjklbbmgjjdalaaGreatDoor.Bd
open Go.RowKit Go.Joins
abbrev bnZ : Bn := .mk 0 0 [] rfZ rfZ []
theorem Off.low {b : Nat} {w w' : World} (h : Off b w w') {N : Nat} (hb : N ≤ b) (hN : N ≤ w.heap.size) : Below N w w' := h.below hb hN
end Go.Proofs.YtjklbbmgjjdalaaGreatDoor.Bd
