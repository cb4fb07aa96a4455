/- A region that draws its order, reads, calls callees that leave the world alone, and ends in a forced tail (a store, an append): walked by the quick rules of a quiet region. No function of the program. A region that keeps the text's order, whose operations only read and whose callees end in Below, walked by the quick rules of a quiet region. No function of the program. Trees: the signs of a level, the level of a sign. -/
import Derived.Test.YtigmcoelkkihkaaGreatDoorBase
import Derived.StillTailTactics
import Derived.Deep.QuietTactic
import Derived.BigQuiet
import Derived.Lib.QuietBelow
import Derived.Test.YtigmcoelkkihkaaGreatDoorPmA
import Derived.Lib.SmallJoins
set_option linter.unusedSimpArgs false
set_option linter.unusedVariables false
namespace Go.Proofs.YtigmcoelkkihkaaGreatDoor
open Go.RowKit

/-- A quiet walk in one world alone is a still one. -/
theorem still_of_quiet {P : Program} {ops : Array Oper} {w : World} {Q : Act → Prop} : ∀ (l : List Oper) (a : Act), wpQuiet P ops (fun w' => w' = w) Q l a → wpStill P ops w Q l a
  | [], a, h => h
  | o :: rest, a, h => by
    unfold wpQuiet at h
    unfold wpStill
    by_cases hw : Region.wanted o (yielded ops a.tmps) = true
    · rw [if_pos hw] at h ⊢
      obtain ⟨v, h1, h2⟩ := h
      have h1 := h1 w rfl
      have h2 := still_of_quiet rest _ h2
      unfold Oper.quietAt at h1
      unfold Oper.still
      generalize (execOp a.eval o).run P w = r at *
      cases r with
      | ok n w1 =>
        cases n with
        | value u =>
          obtain ⟨rfl, rfl⟩ := h1
          exact ⟨rfl, h2⟩
        | skip =>
          obtain ⟨rfl, rfl⟩ := h1
          exact ⟨rfl, h2⟩
        | enter f args =>
          obtain ⟨rfl, hc⟩ := h1
          exact ⟨rfl, v, hc, h2⟩
        | _ => exact h1.elim
      | _ => exact h1.elim
    · rw [if_neg hw] at h ⊢
      exact still_of_quiet rest _ h
end Go.Proofs.YtigmcoelkkihkaaGreatDoor
namespace Go.Proofs.YtigmcoelkkihkaaGreatDoor
open Go.RowKit

theorem list_of_quiet {P : Program} {ops : Array Oper} {C : World → Prop} {Q : Exit → Act → World → Prop} : ∀ (l : List Oper) (a : Act) (w : World), C w → wpQuiet P ops C (fun a' => ∀ w', C w' → Q .normal a' w') l a → wpList P ops Q l a w
  | [], a, w, hC, h => h w hC
  | o :: rest, a, w, hC, h => by
    unfold wpQuiet at h
    unfold wpList
    by_cases hw : Region.wanted o (yielded ops a.tmps) = true
    · rw [if_pos hw] at h ⊢
      obtain ⟨v, h1, h2⟩ := h
      have h1 := h1 w hC
      have h2 := fun w' hC' => list_of_quiet rest (a.put o.dst v) w' hC' h2
      refine .inl ?_
      unfold Oper.quietAt at h1
      unfold Oper.wp
      generalize (execOp a.eval o).run P w = r at *
      cases r with
      | ok n w1 =>
        cases n with
        | value u =>
          obtain ⟨rfl, rfl⟩ := h1
          exact h2 _ hC
        | skip =>
          obtain ⟨rfl, rfl⟩ := h1
          exact h2 _ hC
        | enter f args =>
          obtain ⟨rfl, h1⟩ := h1
          refine Calls.mono h1 ?_
          rintro e w' ⟨rfl, hC1⟩
          exact h2 _ hC1
        | _ => exact h1.elim
      | _ => exact h1.elim
    · rw [if_neg hw] at h ⊢
      exact list_of_quiet rest _ w hC h
theorem wp_region_plain_below {P : Program} {id : Nat} {Q : Exit → Act → World → Prop} {a : Act} {w : World} {l : List Oper}
    (h : wpQuiet P l.toArray (fun w' => ∃ p : Regrown, w' = Go.Sort.grow (redrawn w p.d) p.os) (fun a' => ∀ w', (∃ p : Regrown, w' = Go.Sort.grow (redrawn w p.d) p.os) → Q .normal a' w') l a) : (Code.region id l.toArray false).wp P Q a w :=
  wp_region_lit (list_of_quiet l a w ⟨⟨w.drawn, #[]⟩, by rw [Go.Sort.grow_empty]; rfl⟩ h)
theorem wp_region_plain_same {P : Program} {id : Nat} {Q : Exit → Act → World → Prop} {a : Act} {w : World} {l : List Oper}
    (h : wpQuiet P l.toArray (fun w' => ∃ n : Unit, w' = w) (fun a' => Q .normal a' w) l a) : (Code.region id l.toArray false).wp P Q a w := by
  refine wp_region_lit (list_of_quiet (C := fun w' => ∃ n : Unit, w' = w) l a w ⟨(), rfl⟩ ?_)
  have e : (fun a' => ∀ w', (∃ n : Unit, w' = w) → Q .normal a' w') = fun a' => Q .normal a' w := by
    funext a'
    exact propext ⟨fun h => h w ⟨(), rfl⟩, fun h w' ⟨_, hw⟩ => hw ▸ h⟩
  rw [e]
  exact h
end Go.Proofs.YtigmcoelkkihkaaGreatDoor
namespace Go.Proofs.YtigmcoelkkihkaaGreatDoor
open Go.RowKit Go.Joins

def stE (L : Bs) : List Value := [.string ⟨L.toArray⟩]
abbrev tSt : TypeId := 9
def strs (L : List Bs) : Array Value := ⟨L.map fun x => .string ⟨x.toArray⟩⟩
theorem lt_some {w : World} {b : Nat} {o : Obj} (h : w.heap[b]? = some o) : b < w.heap.size := by
  rcases Nat.lt_or_ge b w.heap.size with h' | h'
  · exact h'
  · rw [Array.getElem?_eq_none h'] at h; cases h
/-- A block of strings. -/
def SsB (w : World) (b : Nat) (L : List Bs) : Prop := w.heap[b]? = some (.cells (strs L) tSt (0, 0))
theorem SsB.below {w w' : World} {b : Nat} {L : List Bs} (h : SsB w b L) (hb : Below w.heap.size w w') : SsB w' b L := (hb.block b (lt_some h)).trans h
theorem SsB.at {w : World} {b : Nat} {L : List Bs} (h : SsB w b L) (j : Nat) (x : Bs) (hx : L[j]? = some x) : w.cell? ⟨b, j, none⟩ = some (.string ⟨x.toArray⟩) := by
  rw [cell_of_block h]
  unfold strs
  simp [hx]
theorem rd_blk {w : World} {b : Nat} {L : List Bs} (h : SsB w b L) : RdG stE 1 w (some ⟨b, 0, none⟩) L.length L := by
  refine ⟨rfl, .inr ⟨b, 0, rfl, lt_some h, fun j x hx k u hu => ?_⟩⟩
  match k, hu with
  | 0, hu =>
    simp only [stE, List.getElem?_cons_zero, Option.some.injEq] at hu
    subst hu
    have := h.at j x hx
    rw [show 0 + j * 1 + 0 = j from by omega]
    exact this
  | k + 1, hu => simp [stE] at hu
/-- What hands back strings. -/
def StrsR (L : List Bs) (e : Ending) (w' : World) : Prop := ∃ p cap, e = .returned (.slice p L.length cap) ∧ RdG stE 1 w' p L.length L
theorem strs_new (w : World) (L : List Bs) (n : Nat) (hn : L.length = n) : StrsR L (.returned (.slice (some ⟨w.heap.size, 0, none⟩) n n)) (w.alloc (.cells (strs L) tSt)) := by
  subst hn
  exact ⟨_, _, rfl, rd_blk (heap_alloc_new w _)⟩
theorem strs_nil (w : World) : StrsR [] (.returned (.slice none 0 0)) w := ⟨none, 0, rfl, RdG.nil _ _ _ _⟩
theorem cell_st {w : World} {p : Option Addr} {n : Nat} {R : List Bs} (h : RdG stE 1 w p n R) {j : Nat} (hj : j < n) : ∃ b off, p = some ⟨b, off, none⟩ ∧ b < w.heap.size ∧ w.cell? ⟨b, off + j, none⟩ = some (.string ⟨(R.getD j []).toArray⟩) := by
  obtain ⟨b, off, h1, h2, h3⟩ := h.some hj
  refine ⟨b, off, h1, h2, RdG.at1 (n := n) (p := p) h3 (x := R.getD j []) ?_ rfl⟩
  have hl : j < R.length := by rw [h.1]; exact hj
  rw [List.getD_eq_getElem?_getD, List.getElem?_eq_getElem hl]
  rfl
def sg1 : List Bs := [[61], [60, 62], [60], [60, 61], [62], [62, 61]]
def sg2 : List Bs := [[38]]
def sg3 : List Bs := [[43], [45]]
def sg4 : List Bs := [[42], [47]]
/-- The signs of a level. -/
def sgS (l : Int) : List Bs := if l = 1 then sg1 else if l = 2 then sg2 else if l = 3 then sg3 else if l = 4 then sg4 else []

set_option maxRecDepth 100000 in
set_option maxHeartbeats 4000000 in
theorem signs_any (l : Int) (w : World) : Calls Tryz.prog 77 #[.int .i64 l] w fun e w' => StrsR (sgS l) e w' ∧ Below w.heap.size w w' := by
  by_cases h1 : l = 1
  · subst h1
    go_enter Tryz.func77, Tryz.ntmps77
    go_wp2_with fail
    go_ret
    exact ⟨strs_new _ sg1 _ rfl, by (repeat' (first | (with_reducible exact Below.refl _ _) | (with_reducible assumption) | (with_reducible refine Below.alloc ?_ ?_ _) | (with_reducible refine bel_drewN ?_ _) | (with_reducible refine Below.drew ?_) | (with_reducible refine Below.setCell ?_ ?_ _) | (with_reducible refine bel_call ‹_› ?_ ?_) | go_size))⟩
  · by_cases h2 : l = 2
    · subst h2
      go_enter Tryz.func77, Tryz.ntmps77
      go_wp2_with fail
      go_ret
      exact ⟨strs_new _ sg2 _ rfl, by (repeat' (first | (with_reducible exact Below.refl _ _) | (with_reducible assumption) | (with_reducible refine Below.alloc ?_ ?_ _) | (with_reducible refine bel_drewN ?_ _) | (with_reducible refine Below.drew ?_) | (with_reducible refine Below.setCell ?_ ?_ _) | (with_reducible refine bel_call ‹_› ?_ ?_) | go_size))⟩
    · by_cases h3 : l = 3
      · subst h3
        go_enter Tryz.func77, Tryz.ntmps77
        go_wp2_with fail
        go_ret
        exact ⟨strs_new _ sg3 _ rfl, by (repeat' (first | (with_reducible exact Below.refl _ _) | (with_reducible assumption) | (with_reducible refine Below.alloc ?_ ?_ _) | (with_reducible refine bel_drewN ?_ _) | (with_reducible refine Below.drew ?_) | (with_reducible refine Below.setCell ?_ ?_ _) | (with_reducible refine bel_call ‹_› ?_ ?_) | go_size))⟩
      · by_cases h4 : l = 4
        · subst h4
          go_enter Tryz.func77, Tryz.ntmps77
          go_wp2_with fail
          go_ret
          exact ⟨strs_new _ sg4 _ rfl, by (repeat' (first | (with_reducible exact Below.refl _ _) | (with_reducible assumption) | (with_reducible refine Below.alloc ?_ ?_ _) | (with_reducible refine bel_drewN ?_ _) | (with_reducible refine Below.drew ?_) | (with_reducible refine Below.setCell ?_ ?_ _) | (with_reducible refine bel_call ‹_› ?_ ?_) | go_size))⟩
        · have hs : sgS l = [] := by unfold sgS; rw [if_neg h1, if_neg h2, if_neg h3, if_neg h4]
          rw [hs]
          clear hs
          have e1 : (l == 1) = false := by simpa using h1
          have e2 : (l == 2) = false := by simpa using h2
          have e3 : (l == 3) = false := by simpa using h3
          have e4 : (l == 4) = false := by simpa using h4
          clear h1 h2 h3 h4
          go_enter Tryz.func77, Tryz.ntmps77
          go_wp2_with fail
          go_ret
          exact ⟨strs_nil _, by (repeat' (first | (with_reducible exact Below.refl _ _) | (with_reducible assumption) | (with_reducible refine Below.alloc ?_ ?_ _) | (with_reducible refine bel_drewN ?_ _) | (with_reducible refine Below.drew ?_) | (with_reducible refine Below.setCell ?_ ?_ _) | (with_reducible refine bel_call ‹_› ?_ ?_) | go_size))⟩
theorem contains_any (L : List Bs) (p : Option Addr) (cap : Nat) (s : ByteArray) (hL : L.length ≤ 100) (w : World) (h : RdG stE 1 w p L.length L) : Calls Tryz.prog 92 #[.slice p L.length cap, .string s] w fun e w' => e = .returned (.bool (decide (s.data.toList ∈ L))) ∧ w' = w := by
  by_cases h0 : L.length = 0
  · rw [h0]
    have : L = [] := List.eq_nil_of_length_eq_zero h0
    subst this
    exact (Tryz.slices_Contains_string_empty p cap s w).mono fun e w' h => ⟨by rw [h.1]; rfl, h.2⟩
  · obtain ⟨b, off, rfl, _, hc⟩ := h.some (j := 0) (by omega)
    refine (Tryz.slices_Contains_string b off L.length cap (L.map fun x => ⟨x.toArray⟩) s w (by simp) (by omega) (fun j hj => ?_)).mono fun e w' h => ⟨?_, h.2⟩
    · rw [List.length_map] at hj
      have := RdG.at1 (p := some ⟨b, off, none⟩) (n := L.length) hc (j := j) (x := L[j]) (List.getElem?_eq_getElem hj) rfl
      rw [this, List.getD_eq_getElem?_getD, List.getElem?_map, List.getElem?_eq_getElem hj]
      rfl
    · rw [h.1, List.take_of_length_le (by simp)]
      congr 2
      have hm : (s ∈ L.map fun x => (⟨x.toArray⟩ : ByteArray)) ↔ s.data.toList ∈ L := by
        rw [List.mem_map]
        constructor
        · rintro ⟨x, hx, rfl⟩
          simpa using hx
        · intro hx
          exact ⟨_, hx, by simp⟩
      rw [Bool.eq_iff_iff, Lib.containsS_iff, hm, decide_eq_true_eq]
/-- The level of a sign. -/
def lvS (s : Bs) : Int := if s ∈ sgS 1 then 1 else if s ∈ sgS 2 then 2 else if s ∈ sgS 3 then 3 else if s ∈ sgS 4 then 4 else 0
theorem lvS_at {s : Bs} {k : Nat} (h1 : 1 ≤ k) (h4 : k ≤ 4) (hno : ∀ j : Nat, 1 ≤ j → j < k → s ∉ sgS (j : Int)) (h : s ∈ sgS (k : Int)) : lvS s = (k : Int) := by
  have hk : k = 1 ∨ k = 2 ∨ k = 3 ∨ k = 4 := by omega
  unfold lvS
  rcases hk with rfl | rfl | rfl | rfl
  · have h : s ∈ sgS 1 := h
    rw [if_pos h]; rfl
  · have h : s ∈ sgS 2 := h
    have n1 : s ∉ sgS 1 := hno 1 (by omega) (by omega)
    rw [if_neg n1, if_pos h]; rfl
  · have h : s ∈ sgS 3 := h
    have n1 : s ∉ sgS 1 := hno 1 (by omega) (by omega)
    have n2 : s ∉ sgS 2 := hno 2 (by omega) (by omega)
    rw [if_neg n1, if_neg n2, if_pos h]; rfl
  · have h : s ∈ sgS 4 := h
    have n1 : s ∉ sgS 1 := hno 1 (by omega) (by omega)
    have n2 : s ∉ sgS 2 := hno 2 (by omega) (by omega)
    have n3 : s ∉ sgS 3 := hno 3 (by omega) (by omega)
    rw [if_neg n1, if_neg n2, if_neg n3, if_pos h]; rfl
theorem lvS_no {s : Bs} (hno : ∀ j : Nat, 1 ≤ j → j < 5 → s ∉ sgS (j : Int)) : lvS s = 0 := by
  unfold lvS
  have n1 : s ∉ sgS 1 := hno 1 (by omega) (by omega)
  have n2 : s ∉ sgS 2 := hno 2 (by omega) (by omega)
  have n3 : s ∉ sgS 3 := hno 3 (by omega) (by omega)
  have n4 : s ∉ sgS 4 := hno 4 (by omega) (by omega)
  rw [if_neg n1, if_neg n2, if_neg n3, if_neg n4]
theorem sgS_len (l : Int) : (sgS l).length ≤ 6 := by
  unfold sgS
  split
  · decide
  · split
    · decide
    · split
      · decide
      · split <;> decide

set_option maxRecDepth 100000 in
set_option maxHeartbeats 4000000 in
theorem level_any (s : ByteArray) (w : World) : Calls Tryz.prog 67 #[.string s] w fun e w' => e = .returned (.int .i64 (lvS s.data.toList)) ∧ Below w.heap.size w w' := by
  have HSG := Lib.hid (fun k W => signs_any k W)
  have HCO := Lib.hid (fun L p cap h W hW => contains_any L p cap s h W hW)
  have HLE := Lib.hid sgS_len
  generalize s.data.toList = L at HCO ⊢
  obtain ⟨O, hO⟩ : ∃ O, lvS L = O := ⟨_, rfl⟩
  have HO := Lib.hid hO
  rw [hO]
  clear hO
  go_enter Tryz.func67, Tryz.ntmps67
  go_wp2_with fail
  go_loopg [3] 4 (fun g v3 wr => ∃ k : Nat, k + g = 5 ∧ 1 ≤ k ∧ v3 = .int .i64 (k : Int) ∧ (∀ j : Nat, 1 ≤ j → j < k → L ∉ sgS (j : Int)) ∧ Below w.heap.size w wr)
  case atStart => exact ⟨1, by omega, by omega, rfl, fun j h1 h2 => by omega, Below.refl _ _⟩
  case round =>
    obtain ⟨k, hkg, hk1, rfl, hno, hbel⟩ := hrel
    have HNO := Lib.hid hno
    have HBL := Lib.hid hbel
    clear hno hbel
    by_cases hk : k ≤ 4
    · have hki : (k : Int) ≤ 4 := by omega
      go_wp2_with fail
      refine (HSG.out _ _).mono ?_
      rintro e w1 ⟨⟨p, cap, rfl, hrd⟩, hb1⟩
      have HB1 : Hid (Below w.heap.size w w1) := bel_call hb1 HBL.out HBL.out.size
      have HC := Lib.hid (HCO.out _ p cap (by have := HLE.out (k : Int); omega) w1 hrd)
      by_cases hm : L ∈ sgS (k : Int)
      · have HON : Hid (O = (k : Int)) := by unfold Hid; rw [← HO.out]; exact lvS_at hk1 hk HNO.out hm
        rw [decide_eq_true hm] at HC
        clear hm hrd hb1
        generalize (sgS (k : Int)).length = n at HC ⊢
        go_wp2_with fail
        refine HC.out.mono ?_
        rintro e wx ⟨rfl, hwx⟩
        rw [hwx]
        clear hwx wx
        go_wp2_with fail
        go_ret
        exact ⟨by rw [HON.out]; rfl, HB1.out⟩
      · have HN2 : Hid (∀ j : Nat, 1 ≤ j → j < k + 1 → L ∉ sgS (j : Int)) := fun j h1 h2 => by
          by_cases h : j < k
          · exact HNO.out j h1 h
          · obtain rfl : j = k := by omega
            exact hm
        rw [decide_eq_false hm] at HC
        clear hm hrd hb1
        generalize (sgS (k : Int)).length = n at HC ⊢
        go_wp2_with fail
        refine HC.out.mono ?_
        rintro e wx ⟨rfl, hwx⟩
        rw [hwx]
        clear hwx wx
        go_wp2_with fail
        go_roundg (gk - 1)
        case measure => omega
        case rel => exact ⟨k + 1, by omega, by omega, by go_num, HN2.out, HB1.out⟩
    · have hki : ¬ (k : Int) ≤ 4 := by omega
      have HON : Hid (O = 0) := by unfold Hid; rw [← HO.out]; exact lvS_no (fun j h1 h2 => HNO.out j h1 (by omega))
      go_wp2_with fail
      go_ret
      exact ⟨by rw [HON.out]; rfl, HBL.out⟩

set_option maxRecDepth 100000 in
set_option maxHeartbeats 4000000 in
theorem rsigns_any (l : Int) (w : World) : Calls Tryz.prog 40 #[.int .i64 l] w fun e w' => StrsR (sgS l) e w' ∧ Below w.heap.size w w' := by
  obtain ⟨o5, ho5⟩ : ∃ o5 : Obj, o5 = .cells #[.slice (some ⟨w.heap.size, 0, none⟩) 6 6, .slice (some ⟨w.heap.size + 1, 0, none⟩) 1 1, .slice (some ⟨w.heap.size + 1 + 1, 0, none⟩) 2 2, .slice (some ⟨w.heap.size + 1 + 1 + 1, 0, none⟩) 2 2] 81 := ⟨_, rfl⟩
  obtain ⟨wz, hwz⟩ : ∃ wz : World, wz = ((((w.alloc (.cells (strs sg1) tSt)).alloc (.cells (strs sg2) tSt)).alloc (.cells (strs sg3) tSt)).alloc (.cells (strs sg4) tSt)).alloc o5 := ⟨_, rfl⟩
  have h0 : Hid (SsB wz w.heap.size sg1) := by
    unfold Hid SsB
    rw [hwz, Lib.alloc_old _ _ _ (by simp <;> omega), Lib.alloc_old _ _ _ (by simp <;> omega), Lib.alloc_old _ _ _ (by simp <;> omega), Lib.alloc_old _ _ _ (by simp)]
    exact heap_alloc_new w _
  have hS1 : Hid (SsB wz (w.heap.size + 1) sg2) := by
    unfold Hid SsB
    rw [hwz, Lib.alloc_old _ _ _ (by simp <;> omega), Lib.alloc_old _ _ _ (by simp <;> omega), Lib.alloc_old _ _ _ (by simp)]
    have := heap_alloc_new (w.alloc (.cells (strs sg1) tSt)) (.cells (strs sg2) tSt)
    rw [World.size_alloc] at this
    exact this
  have h2 : Hid (SsB wz (w.heap.size + 1 + 1) sg3) := by
    unfold Hid SsB
    rw [hwz, Lib.alloc_old _ _ _ (by simp <;> omega), Lib.alloc_old _ _ _ (by simp)]
    have := heap_alloc_new ((w.alloc (.cells (strs sg1) tSt)).alloc (.cells (strs sg2) tSt)) (.cells (strs sg3) tSt)
    rw [World.size_alloc, World.size_alloc] at this
    exact this
  have h3 : Hid (SsB wz (w.heap.size + 1 + 1 + 1) sg4) := by
    unfold Hid SsB
    rw [hwz, Lib.alloc_old _ _ _ (by simp)]
    have := heap_alloc_new (((w.alloc (.cells (strs sg1) tSt)).alloc (.cells (strs sg2) tSt)).alloc (.cells (strs sg3) tSt)) (.cells (strs sg4) tSt)
    rw [World.size_alloc, World.size_alloc, World.size_alloc] at this
    exact this
  have h4 : Hid (wz.heap[w.heap.size + 1 + 1 + 1 + 1]? = some o5) := by
    unfold Hid
    rw [hwz]
    have := heap_alloc_new ((((w.alloc (.cells (strs sg1) tSt)).alloc (.cells (strs sg2) tSt)).alloc (.cells (strs sg3) tSt)).alloc (.cells (strs sg4) tSt)) o5
    rw [World.size_alloc, World.size_alloc, World.size_alloc, World.size_alloc] at this
    exact this
  have hB : Hid (Below w.heap.size w wz) := by unfold Hid; rw [hwz]; (repeat' (first | (with_reducible exact Below.refl _ _) | (with_reducible assumption) | (with_reducible refine Below.alloc ?_ ?_ _) | (with_reducible refine bel_drewN ?_ _) | (with_reducible refine Below.drew ?_) | (with_reducible refine Below.setCell ?_ ?_ _) | (with_reducible refine bel_call ‹_› ?_ ?_) | go_size))
  have HR : Hid (∀ b L n, SsB wz b L → L.length = n → StrsR L (.returned (.slice (some ⟨b, 0, none⟩) n n)) wz) := fun b L n h hn => by subst hn; exact ⟨_, _, rfl, rd_blk h⟩
  have c0 : wz.cell? ⟨w.heap.size + 1 + 1 + 1 + 1, 0, none⟩ = some (.slice (some ⟨w.heap.size, 0, none⟩) 6 6) := by have := h4.out; rw [ho5] at this; rw [cell_of_block this]; rfl
  have c1 : wz.cell? ⟨w.heap.size + 1 + 1 + 1 + 1, 1, none⟩ = some (.slice (some ⟨w.heap.size + 1, 0, none⟩) 1 1) := by have := h4.out; rw [ho5] at this; rw [cell_of_block this]; rfl
  have c2 : wz.cell? ⟨w.heap.size + 1 + 1 + 1 + 1, 2, none⟩ = some (.slice (some ⟨w.heap.size + 1 + 1, 0, none⟩) 2 2) := by have := h4.out; rw [ho5] at this; rw [cell_of_block this]; rfl
  have c3 : wz.cell? ⟨w.heap.size + 1 + 1 + 1 + 1, 3, none⟩ = some (.slice (some ⟨w.heap.size + 1 + 1 + 1, 0, none⟩) 2 2) := by have := h4.out; rw [ho5] at this; rw [cell_of_block this]; rfl
  clear h4
  have HWZ := Lib.hid hwz
  clear hwz
  have HO5 := Lib.hid ho5
  clear ho5
  go_enter Tryz.func40, Tryz.ntmps40
  go_upto_region 2 with fail
  have e0 : ((((w.alloc (.cells #[.string ⟨#[61]⟩, .string ⟨#[60, 62]⟩, .string ⟨#[60]⟩, .string ⟨#[60, 61]⟩, .string ⟨#[62]⟩, .string ⟨#[62, 61]⟩] tSt)).alloc (.cells #[.string ⟨#[38]⟩] tSt)).alloc (.cells #[.string ⟨#[43]⟩, .string ⟨#[45]⟩] tSt)).alloc (.cells #[.string ⟨#[42]⟩, .string ⟨#[47]⟩] tSt)).alloc (.cells #[.slice (some ⟨w.heap.size, 0, none⟩) 6 6, .slice (some ⟨w.heap.size + 1, 0, none⟩) 1 1, .slice (some ⟨w.heap.size + 1 + 1, 0, none⟩) 2 2, .slice (some ⟨w.heap.size + 1 + 1 + 1, 0, none⟩) 2 2] 81) = wz := by rw [HWZ.out, HO5.out]; rfl
  rw [e0]
  clear e0 HWZ HO5
  by_cases h1 : l < 1
  · have hs : sgS l = [] := by unfold sgS; rw [if_neg (by omega), if_neg (by omega), if_neg (by omega), if_neg (by omega)]
    have HS := Lib.hid hs
    clear hs
    go_wp2_with fail
    go_ret
    exact ⟨by rw [HS.out]; exact strs_nil _, hB.out⟩
  · by_cases h4 : 4 < l
    · have hs : sgS l = [] := by unfold sgS; rw [if_neg (by omega), if_neg (by omega), if_neg (by omega), if_neg (by omega)]
      have HS := Lib.hid hs
      clear hs
      go_wp2_with fail
      go_ret
      exact ⟨by rw [HS.out]; exact strs_nil _, hB.out⟩
    · have hk : l = 1 ∨ l = 2 ∨ l = 3 ∨ l = 4 := by omega
      clear h1 h4
      rcases hk with rfl | rfl | rfl | rfl
      · go_wp2_with fail
        go_ret
        exact ⟨HR.out _ sg1 _ h0.out rfl, hB.out⟩
      · go_wp2_with fail
        go_ret
        exact ⟨HR.out _ sg2 _ hS1.out rfl, hB.out⟩
      · go_wp2_with fail
        go_ret
        exact ⟨HR.out _ sg3 _ h2.out rfl, hB.out⟩
      · go_wp2_with fail
        go_ret
        exact ⟨HR.out _ sg4 _ h3.out rfl, hB.out⟩
end Go.Proofs.YtigmcoelkkihkaaGreatDoor
