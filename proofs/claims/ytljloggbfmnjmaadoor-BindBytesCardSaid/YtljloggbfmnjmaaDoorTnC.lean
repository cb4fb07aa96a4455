/- Trees over cells by stamps, taken from bytes: plain part, and how parts that are built stay. -/
import Derived.Test.YtljloggbfmnjmaaDoorTnB
import Derived.Test.YtljloggbfmnjmaaDoorWirD
import Derived.Maps.AppendAt
set_option linter.unusedSimpArgs false
set_option linter.unusedVariables false
namespace Go.Proofs.YtljloggbfmnjmaaDoor
open Go.RowKit Go.Joins

abbrev rfZ : Rfp := ((0, 0), (0, 0))
def cntK (k : Nat) : Nat := if k = 5 then 1 else if k = 6 then 2 else 0
/-- A node's own part: number, text, cells; may it be; what is left. -/
structure Hd where
  u : Int
  t : List UInt8
  f : Rfp
  g : Rfp
  ok : Bool
  S : Option (List UInt8)
def hdP (k : Nat) (S : Option (List UInt8)) : Hd :=
  if k = 1 then ⟨wrap64 ((numR S).1 : Nat), [], rfZ, rfZ, true, (numR S).2⟩
  else if k = 2 ∨ k = 6 ∨ k = 7 then ⟨0, (bytR S).1, rfZ, rfZ, true, (bytR S).2⟩
  else if k = 3 then ⟨0, [], (tkF S).1.1, rfZ, (tkF S).1.2, (tkF S).2⟩
  else if k = 4 then (if (tkF S).1.2 = true then ⟨0, [], (tkF S).1.1, (tkF (tkF S).2).1.1, (tkF (tkF S).2).1.2, (tkF (tkF S).2).2⟩ else ⟨0, [], (tkF S).1.1, rfZ, false, (tkF S).2⟩)
  else ⟨0, [], rfZ, rfZ, true, S⟩
/-- How many parts. -/
def cP (k : Nat) (S : Option (List UInt8)) : Nat × Option (List UInt8) := if k = 7 then intR 16 S else (cntK k, S)
/-- So many trees, one behind the other. -/
def tkL {α : Type} (F : List UInt8 → Option (α × List UInt8)) : Nat → List UInt8 → Option (List α × List UInt8)
  | 0, L => some ([], L)
  | c + 1, L => match F L with
    | none => none
    | some (a, L1) => match tkL F c L1 with
      | none => none
      | some (q, L2) => some (a :: q, L2)
/-- A tree that bytes begin with, of so many levels at most. -/
def tkN : Nat → List UInt8 → Option (Bn × List UInt8)
  | 0, _ => none
  | d + 1, L => match intR 8 (some L) with
    | (_, none) => none
    | (k, some L1) => if k = 0 then none else
      if (hdP k (some L1)).ok = true then (match cP k (hdP k (some L1)).S with
        | (_, none) => none
        | (c, some L3) => (tkL (tkN d) c L3).map fun x => (.mk k (hdP k (some L1)).u (hdP k (some L1)).t (hdP k (some L1)).f (hdP k (some L1)).g x.1, x.2))
      else none
theorem tkL_succ {α : Type} (F : List UInt8 → Option (α × List UInt8)) (c : Nat) (L : List UInt8) : tkL F (c + 1) L = (F L).bind fun x => (tkL F c x.2).map fun y => (x.1 :: y.1, y.2) := by
  rw [tkL]
  cases F L with
  | none => rfl
  | some x =>
    obtain ⟨a, L1⟩ := x
    simp only [Option.bind_some]
    cases tkL F c L1 with
    | none => rfl
    | some y => rfl
/-- What take answers. -/
def TakP (b : Nat) (d : Nat) (O : Option (Bn × List UInt8)) (w : World) (e : Ending) (w' : World) : Prop := Off b w w' ∧ match O with
  | none => ∃ n p l c, e = .returned (.tuple #[.agg (bnA n p l c), .bool false])
  | some (n, r) => ∃ p cap, e = .returned (.tuple #[.agg (bnA n p n.args.length cap), .bool true]) ∧ RdQ rfE 12 w' (fun k => w.heap.size ≤ k) d n p n.args.length ∧ Rdr w' b (some r)
def TakeC (d : Nat) : Prop := ∀ (b : Nat) (S : Option (List UInt8)) (w : World), Rdr w b S → Calls Tryd.prog 18 #[.pointer (some ⟨b, 0, none⟩), .int .i64 (d : Nat)] w (TakP b d (S.bind (tkN d)) w)
theorem kidR_len (q : KidQ Rfp) : (kidQ rfE q).length = 12 := tnC_len (m := 4) (fun _ => rfl) _ _ _ _
theorem kidR_one (q : KidQ Rfp) : ∀ u ∈ kidQ rfE q, u.oneCell' = true := by
  intro u hu
  rw [show kidQ rfE q = tnC rfE q.1 q.2.1 q.2.2.1 q.2.2.2 from rfl, bnA_list] at hu
  simp only [List.mem_cons, List.not_mem_nil, or_false] at hu
  rcases hu with rfl | rfl | rfl | rfl | rfl | rfl | rfl | rfl | rfl | rfl | rfl | rfl <;> rfl
theorem row_carry {w w' : World} {base size n : Nat} {e : TypeId} {v : Value} {xs : List Value} (h : w.ownsRow base e size v n xs) (hb : ∀ b, v.ownBlock = some b → w'.heap[b]? = w.heap[b]?) : w'.ownsRow base e size v n xs := by
  obtain ⟨h1, h2⟩ := h
  refine ⟨h1, ?_⟩
  rcases h2 with h2 | ⟨g, cap, cur, hv, hg, hh, r⟩
  · exact .inl h2
  · refine .inr ⟨g, cap, cur, hv, hg, ?_, r⟩
    rw [hb g (by rw [hv]; rfl)]
    exact hh
theorem info_bn : (Tryd.prog.info? tNr).map (fun i => (i.zero, i.size, i.bytes)) = some (some (.agg #[.int .i64 0, .int .i64 0, .string ⟨#[]⟩, .int .u64 0, .int .i64 0, .int .u64 0, .int .i64 0, .int .u64 0, .int .i64 0, .int .u64 0, .int .i64 0, .slice none 0 0]), 12, 120) := by kernel_rfl
theorem newBn (w : World) (c : Bn) (p2 : Option Addr) (l' c2 : Nat) : ∀ j u, (kidQ rfE (c, p2, l', c2))[j]? = some u → (w.alloc (.cells (bnA c p2 l' c2) tNr)).cell? ((⟨w.heap.size, 0, none⟩ : Addr).add j) = some u := by
  intro j u hj
  have hb : BlkC (w.alloc (.cells (bnA c p2 l' c2) tNr)) w.heap.size (bnA c p2 l' c2) tNr := heap_alloc_new w _
  rw [Addr.add_mid, Nat.zero_add, cell_of_block hb]
  have e : bnA c p2 l' c2 = (kidQ rfE (c, p2, l', c2)).toArray := rfl
  rw [e]
  simpa using hj
/-- The parts behind one more append, and behind the store of the row. -/
theorem kidsB_on {b g d l' c2 k11 : Nat} {wr w3 w5 : World} {o1 o2 : Obj} {v v' u : Value} {acc : List (KidQ Rfp)} {c : Bn} {p2 : Option Addr} (hbg : b < g) (hg : g < wr.heap.size) (ho : Off b wr w3) (hgr : ((w3.alloc o1).alloc o2).grownBy w5 v.ownBlock)
    (hat : v'.ownBlock = v.ownBlock ∨ v'.ownBlock = some ((w3.alloc o1).alloc o2).heap.size) (hlt : ∀ k, v.ownBlock = some k → g + 1 ≤ k ∧ k < wr.heap.size) (hk : ∀ x ∈ acc, RdQ rfE 12 wr (okQ (g + 1) wr v) d x.1 x.2.1 x.2.2.1)
    (hn : RdQ rfE 12 w3 (fun k => wr.heap.size ≤ k) d c p2 l') :
    ∀ x ∈ acc ++ [(c, p2, l', c2)], RdQ rfE 12 (w5.setCell ⟨g, k11, none⟩ u) (okQ (g + 1) (w5.setCell ⟨g, k11, none⟩ u) v') d x.1 x.2.1 x.2.2.1 := by
  have hs := ho.size
  have hs2 := hgr.size
  simp only [World.size_alloc] at hs2 hat
  have hblk : ∀ k, g ≠ k → k < w3.heap.size → v.ownBlock ≠ some k → (w5.setCell ⟨g, k11, none⟩ u).heap[k]? = w3.heap[k]? := fun k h1 h2 h3 => by
    rw [heap_setCell_other _ _ _ _ (fun e => h1 e.symm), hgr.block k (by simp only [World.size_alloc]; omega) (fun e => h3 e.symm), heap_alloc_old _ _ (by rw [World.size_alloc]; omega), heap_alloc_old _ _ h2]
  intro x hx
  rcases List.mem_append.1 hx with hx | hx
  · refine RdQ.carry (fun k hb' hkl => ?_) (hk x hx)
    obtain ⟨h1, h2, h3⟩ := hb'
    refine ⟨⟨h1, by rw [World.size_setCell]; omega, ?_⟩, ?_⟩
    · rcases hat with e | e
      · rw [e]; exact h3
      · rw [e]; intro e'; have := Option.some.inj e'; omega
    · rw [hblk k (by omega) (by omega) h3, ho.block k h2 (by omega)]
  · obtain rfl := List.mem_singleton.1 hx
    refine RdQ.carry (fun k hb' hkl => ?_) hn
    have h3 : v.ownBlock ≠ some k := fun e => by have := (hlt k e).2; omega
    refine ⟨⟨by omega, by rw [World.size_setCell]; omega, ?_⟩, ?_⟩
    · rcases hat with e | e
      · rw [e]; exact h3
      · rw [e]; intro e'; have := Option.some.inj e'; omega
    · exact hblk k (by omega) hkl h3
set_option maxRecDepth 100000 in
set_option maxHeartbeats 1000000 in
theorem count_any (k : Nat) (w : World) : Calls Tryd.prog 25 #[.int .i64 (k : Nat)] w fun e w' => e = .returned (.int .i64 (cntK k : Nat)) ∧ w' = w := by
  unfold cntK
  by_cases h5 : k = 5
  · subst h5
    go_enter Tryd.func25, Tryd.ntmps25
    go_wp2_with fail
    go_ret
    exact ⟨rfl, rfl⟩
  · by_cases h6 : k = 6
    · subst h6
      go_enter Tryd.func25, Tryd.ntmps25
      go_wp2_with fail
      go_ret
      exact ⟨rfl, rfl⟩
    · rw [if_neg h5, if_neg h6]
      have b5 : ((k : Int) == 5) = false := by simp; omega
      have b6 : ((k : Int) == 6) = false := by simp; omega
      go_enter Tryd.func25, Tryd.ntmps25
      go_wp2_with fail
      go_ret
      exact ⟨rfl, rfl⟩
/-- What the loop over the parts holds: good so far, or lost. -/
def TkS (O : Option (Bn × List UInt8)) (b g d c i k : Nat) (hd : Hd) (okv : Bool) (v : Value) (wr : World) : Prop :=
  (okv = true ∧ ∃ (S' : Option (List UInt8)) (acc : List (KidQ Rfp)), Rdr wr b S' ∧ wr.ownsRow (g + 1) tNr 12 v i (acc.flatMap (kidQ rfE)) ∧ (∀ x ∈ acc, RdQ rfE 12 wr (okQ (g + 1) wr v) d x.1 x.2.1 x.2.2.1) ∧ acc.length = i ∧
    O = S'.bind fun L => (tkL (tkN d) (c - i) L).map fun x => (.mk k hd.u hd.t hd.f hd.g (acc.map Prod.fst ++ x.1), x.2)) ∨ (okv = false ∧ O = none)
/-- What stands behind the loop over the parts. -/
def EndS (O : Option (Bn × List UInt8)) (g d i k : Nat) (hd : Hd) (okv : Bool) (S' : Option (List UInt8)) (q : Option Addr) (wr : World) : Prop := match O with
  | none => (okv && S'.isSome) = false
  | some (n, r) => okv = true ∧ S' = some r ∧ n = .mk k hd.u hd.t hd.f hd.g n.args ∧ n.args.length = i ∧ RdQ rfE 12 wr (fun k' => g + 1 ≤ k') (d + 1) n q i
theorem TkS.ends {O : Option (Bn × List UInt8)} {b g d i k : Nat} {hd : Hd} {okv : Bool} {q : Option Addr} {cp : Nat} {wr : World} (h : TkS O b g d i i k hd okv (.slice q i cp) wr) : ∃ S' : Option (List UInt8), (okv = true → Rdr wr b S') ∧ EndS O g d i k hd okv S' q wr := by
  rcases h with ⟨h1, S', acc, h2, h3, h4, h5, h6⟩ | ⟨h1, h2⟩
  · refine ⟨S', fun _ => h2, ?_⟩
    rw [Nat.sub_self] at h6
    cases S' with
    | none =>
      rw [h6]
      unfold EndS
      simp
    | some L =>
      rw [h6]
      subst h5
      obtain ⟨q', cp', hv, hr⟩ := RdQ.of_row (enc := rfE) kidR_len (n := .mk k hd.u hd.t hd.f hd.g (acc.map Prod.fst ++ [])) (d := d) (ok := fun k' => g + 1 ≤ k') h3 (by rw [List.append_nil]; rfl) (fun x hx => (h4 x hx).weak fun k' h => h.1) (fun k' h => (h3.lt k' h).1)
      cases hv
      exact ⟨h1, rfl, rfl, by simp [Tn.args], hr⟩
  · refine ⟨none, (fun h => (by rw [h1] at h; cases h)), ?_⟩
    rw [h2, h1]
    rfl
end Go.Proofs.YtljloggbfmnjmaaDoor
