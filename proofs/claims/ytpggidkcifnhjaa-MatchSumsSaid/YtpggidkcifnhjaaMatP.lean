/- Conditions: Count. -/
import Derived.Test.YtpggidkcifnhjaaMatO
set_option linter.unusedSimpArgs false
set_option linter.unusedVariables false
namespace Go.Proofs.Ytpggidkcifnhjaa
open Go.RowKit

/-- A value: its kind, its number, its text; its cells. -/
structure Vl where
  k : Int
  n : Int
  t : ByteArray
def vlE (v : Vl) : List Value := [.int .i64 v.k, .int .i64 v.n, .string v.t]
theorem vlE_len (v : Vl) : (vlE v).length = 3 := rfl
def vlOk (v : Vl) : Prop := (v.k = 0 ∨ v.k = 1 ∨ v.k = 2 ∨ v.k = 3) ∧ v.t.size ≤ 900 ∧ -9223372036854775808 ≤ v.n ∧ v.n ≤ 9223372036854775807
/-- Of how many values a condition holds. -/
def cntB (q : Nat) (nb : Bool) (num : Int) (L : List Sg) (Vs : List Vl) : Nat := (Vs.filter fun v => isB q nb num L v.k v.n v.t).length

set_option maxRecDepth 100000 in
set_option maxHeartbeats 4000000 in
theorem count_any (q : Nat) (hq : q < 6) (nb : Bool) (num : Int) (L : List Sg) (p : Option Addr) (cap : Nat) (Vs : List Vl) (pv : Option Addr) (cv : Nat) (hv : Vs.length ≤ 1000) (hvo : ∀ v ∈ Vs, vlOk v) (hlen : L.length ≤ 1000) (hok : ∀ x ∈ L, x.1 ≤ 2 ∧ x.2 < 256) (w : World) (hsh : w.ShapedOpen Try.prog) (hL : RdG sgE 2 w p L.length L) (hV : RdG vlE 3 w pv Vs.length Vs) :
    Calls Try.prog 9 #[.agg #[.string (sgB q), .bool nb, .int .i64 num, .slice p L.length cap], .slice pv Vs.length cv] w fun e w' => e = .returned (.int .i64 (cntB q nb num L Vs : Int)) ∧ Below w.heap.size w w' := by
  have HI : Hid (∀ (k n : Int) (t : ByteArray), vlOk ⟨k, n, t⟩ → ∀ W, Below w.heap.size w W → Calls Try.prog 14 #[.agg #[.string (sgB q), .bool nb, .int .i64 num, .slice p L.length cap], .agg #[.int .i64 k, .int .i64 n, .string t]] W fun e w' => e = .returned (.bool (isB q nb num L k n t)) ∧ Below W.heap.size W w') := fun k n t h W hW => is_any q hq nb num L p cap k n t h.1 hlen h.2.1 hok W (shaped_below hsh hW) (hL.below hW)
  obtain ⟨m, hm⟩ : ∃ m, Vs.length = m := ⟨_, rfl⟩
  obtain ⟨ln, hln⟩ : ∃ ln, L.length = ln := ⟨_, rfl⟩
  rw [hm] at hV hv ⊢
  rw [hln] at HI ⊢
  obtain ⟨sg, hsg⟩ : ∃ sg, sgB q = sg := ⟨_, rfl⟩
  rw [hsg] at HI ⊢
  have HM := Lib.hid hm
  have HV := Lib.hid hV
  have HVO := Lib.hid hvo
  clear hm hln hsg hV hvo hsh hL hok hlen
  go_enter Try.func9, Try.ntmps9
  go_wp2_with fail
  go_loopg [5, 10] m (fun g v5 v10 wr => ∃ i : Nat, i + g = m ∧ v10 = .int .i64 i ∧ v5 = .int .i64 (cntB q nb num L (Vs.take i) : Int) ∧ wr.cell? ⟨w.heap.size, 0, none⟩ = some (.string sg) ∧ wr.cell? ⟨w.heap.size, 1, none⟩ = some (.bool nb) ∧ wr.cell? ⟨w.heap.size, 2, none⟩ = some (.int .i64 num) ∧ wr.cell? ⟨w.heap.size, 3, none⟩ = some (.slice p ln cap) ∧ w.heap.size < wr.heap.size ∧ Below w.heap.size w wr)
  case atStart => exact ⟨0, by omega, rfl, rfl, by go_simp, by go_simp, by go_simp, by go_simp, by simp, by (repeat' (first | (with_reducible exact Below.refl _ _) | (with_reducible assumption) | (with_reducible refine Below.alloc ?_ ?_ _) | (with_reducible refine bel_drewN ?_ _) | (with_reducible refine Below.drew ?_) | (with_reducible refine Below.setCell ?_ ?_ _) | (with_reducible refine bel_call ‹_› ?_ ?_) | go_size))⟩
  case round =>
    obtain ⟨i, hig, rfl, rfl, q0, q1, q2, q3, hzr, hbel⟩ := hrel
    have hcl : cntB q nb num L (Vs.take i) ≤ 1000 := by
      unfold cntB
      exact Nat.le_trans (List.length_filter_le _ _) (by rw [List.length_take]; omega)
    by_cases hlt : i < m
    · have hli : (i : Int) < (m : Int) := by omega
      have hiV : i < Vs.length := by rw [HM.out]; exact hlt
      obtain ⟨⟨k, n, t⟩, hx⟩ : ∃ x, Vs[i] = x := ⟨_, rfl⟩
      have hxo := HVO.out _ (List.getElem_mem hiV)
      rw [hx] at hxo
      have hx' : Vs[i]? = some ⟨k, n, t⟩ := by rw [List.getElem?_eq_getElem hiV, hx]
      obtain ⟨b, off, rfl, hb, hcs⟩ := HV.out.some hlt
      have c0 : wr.cell? ⟨b, off + i * 3, none⟩ = some (.int .i64 k) := (hbel.cell (p := ⟨b, off + i * 3, none⟩) hb).trans (hcs i _ hx' 0 _ rfl)
      have c1 : wr.cell? ⟨b, off + i * 3 + 1, none⟩ = some (.int .i64 n) := (hbel.cell (p := ⟨b, off + i * 3 + 1, none⟩) hb).trans (hcs i _ hx' 1 _ rfl)
      have c2 : wr.cell? ⟨b, off + i * 3 + 2, none⟩ = some (.string t) := (hbel.cell (p := ⟨b, off + i * 3 + 2, none⟩) hb).trans (hcs i _ hx' 2 _ rfl)
      have hstep : cntB q nb num L (Vs.take (i + 1)) = cntB q nb num L (Vs.take i) + (if isB q nb num L k n t then 1 else 0) := by
        unfold cntB
        rw [List.take_succ_eq_append_getElem hiV, hx, List.filter_append, List.length_append]
        congr 1
        cases h : isB q nb num L k n t <;> simp [List.filter_cons, h]
      have HC := Lib.hid (HI.out k n t hxo)
      obtain ⟨o, ho⟩ : ∃ o, isB q nb num L k n t = o := ⟨_, rfl⟩
      rw [ho] at HC hstep
      obtain ⟨c, hc⟩ : ∃ c, cntB q nb num L (Vs.take i) = c := ⟨_, rfl⟩
      rw [hc] at hstep hcl ⊢
      have HS := Lib.hid hstep
      have hbr : b < wr.heap.size := Nat.lt_of_lt_of_le hb hbel.size
      clear hx hx' hxo hcs hstep ho hc
      go_wp2_with fail
      refine (HC.out _ (by (repeat' (first | (with_reducible exact Below.refl _ _) | (with_reducible assumption) | (with_reducible refine Below.alloc ?_ ?_ _) | (with_reducible refine bel_drewN ?_ _) | (with_reducible refine Below.drew ?_) | (with_reducible refine Below.setCell ?_ ?_ _) | (with_reducible refine bel_call ‹_› ?_ ?_) | go_size)))).mono ?_
      rintro e w1 ⟨rfl, hb1⟩
      obtain ⟨hc1, hf1, hz1⟩ := bcell hb1 (by first | (simp only [World.size_alloc, World.size_setCell, World.size_drew]; rfl) | rfl)
      have e0 : w1.cell? ⟨w.heap.size, 0, none⟩ = some (.string sg) := by go_simp
      have e1 : w1.cell? ⟨w.heap.size, 1, none⟩ = some (.bool nb) := by go_simp
      have e2 : w1.cell? ⟨w.heap.size, 2, none⟩ = some (.int .i64 num) := by go_simp
      have e3 : w1.cell? ⟨w.heap.size, 3, none⟩ = some (.slice p ln cap) := by go_simp
      have hbw : Below w.heap.size w w1 := by (repeat' (first | (with_reducible exact Below.refl _ _) | (with_reducible assumption) | (with_reducible refine Below.alloc ?_ ?_ _) | (with_reducible refine bel_drewN ?_ _) | (with_reducible refine Below.drew ?_) | (with_reducible refine Below.setCell ?_ ?_ _) | (with_reducible refine bel_call ‹_› ?_ ?_) | go_size))
      clear hb1 hc1 hf1 c0 c1 c2 q0 q1 q2 q3
      cases o
      all_goals
        go_wp2_with fail
        go_roundg (gk - 1)
        case measure => omega
        case rel => exact ⟨i + 1, by omega, by go_num, by rw [HS.out]; first | rfl | go_num, e0, e1, e2, e3, by omega, hbw⟩
    · have hli : ¬ (i : Int) < (m : Int) := by omega
      have ht : Vs.take i = Vs := List.take_of_length_le (by rw [HM.out]; omega)
      rw [ht]
      clear ht
      go_wp2_with fail
      go_ret
      exact ⟨rfl, hbel⟩
end Go.Proofs.Ytpggidkcifnhjaa
