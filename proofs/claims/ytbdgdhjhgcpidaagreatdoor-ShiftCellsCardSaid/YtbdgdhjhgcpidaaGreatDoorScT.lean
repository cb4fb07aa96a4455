/- Trees: the law's 'named'. Printed by gen_trexf.py. -/
import Derived.Test.YtbdgdhjhgcpidaaGreatDoorScR
import Derived.Test.YtbdgdhjhgcpidaaGreatDoorScQ
set_option linter.unusedSimpArgs false
set_option linter.unusedVariables false
namespace Go.Proofs.YtbdgdhjhgcpidaaGreatDoor
open Go.RowKit Go.Joins

theorem info_rn : (Tryz.prog.info? tRn).map (fun i => (i.zero, i.size, i.bytes)) = some (some (.agg #[.int .i64 0, .int .i64 0, .string ⟨#[]⟩, .int .i64 0, .int .i64 0, .slice none 0 0]), 6, 72) := by kernel_rfl
theorem newRn (w : World) (c : Nd) (p2 : Option Addr) (l' c2 : Nat) : ∀ j u, (ndC c p2 l' c2)[j]? = some u → (w.alloc (.cells (ndA c p2 l' c2) tRn)).cell? ((⟨w.heap.size, 0, none⟩ : Addr).add j) = some u := by
  intro j u hj
  have hb : NdB tRn (w.alloc (.cells (ndA c p2 l' c2) tRn)) w.heap.size c p2 l' c2 := heap_alloc_new w _
  obtain ⟨c0, c1, c2', c3, c4, c5⟩ := hb.cells
  have hj6 : j < 6 := (List.getElem?_eq_some_iff.1 hj).1
  simp only [Addr.add, Nat.zero_add]
  match j, hj6, hj with
  | 0, _, hj => cases hj; exact c0
  | 1, _, hj => cases hj; exact c1
  | 2, _, hj => cases hj; exact c2'
  | 3, _, hj => cases hj; exact c3
  | 4, _, hj => cases hj; exact c4
  | 5, _, hj => cases hj; exact c5
theorem RdP.of_rowR {w : World} {base d : Nat} {v : Value} {L : List Kid} {n : Nd} {ok : Nat → Prop} (h : w.ownsRow base tRn 6 v L.length (L.flatMap kidC)) (hL : L.map Prod.fst = n.args) (hq : ∀ q ∈ L, RdP w ok d q.1 q.2.1 q.2.2.1) (hown : ∀ b, v.ownBlock = some b → ok b) :
    ∃ p cap, v = .slice p L.length cap ∧ RdP w ok (d + 1) n p L.length := by
  obtain ⟨p, cap, hv, _, _, ⟨_, hr⟩, _⟩ := RdG.of_own kidC_len rfl h
  refine ⟨p, cap, hv, by rw [← hL, List.length_map], ?_⟩
  rcases hr with hr | ⟨b, off, h1, h2, h3⟩
  · exact .inl hr
  · refine .inr ⟨b, off, h1, hown b (by rw [hv, h1]; rfl), fun j c hc => ?_⟩
    rw [← hL, List.getElem?_map] at hc
    cases hj : L[j]? with
    | none => rw [hj] at hc; cases hc
    | some q =>
      rw [hj] at hc
      obtain rfl : q.1 = c := by simpa using hc
      exact ⟨q.2.1, q.2.2.1, q.2.2.2, fun k u hu => h3 j q hj k u hu, hq q (List.mem_of_getElem? hj)⟩
/-- A node in its first form: no references, no parts. -/
abbrev ndF (n : Nd) (T : Bs) : Nd := .mk n.kind n.num T 0 0 []
theorem nd_two {w : World} {b : Nat} {n : Nd} {T T' : Bs} (h : NdB tRn w b (ndF n T) none 0 0) : NdB tRn (w.setCell ⟨b, 2, none⟩ (.string ⟨T'.toArray⟩)) b (ndF n T') none 0 0 := by
  have h1 := heap_setCell_same w b 2 _ _ (.string ⟨T'.toArray⟩) h
  unfold NdB
  rw [h1]
  rfl
end Go.Proofs.YtbdgdhjhgcpidaaGreatDoor
