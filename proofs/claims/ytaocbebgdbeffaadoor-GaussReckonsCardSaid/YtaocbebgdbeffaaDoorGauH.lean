/- The law's helper few: the numbers that fit, not too many. -/
import Derived.Test.YtaocbebgdbeffaaDoorGauG
import Derived.OwnWalk
import Derived.Laws.AppendOwnNone
import Derived.Laws.OwnMore
import Derived.Laws.MakeOwn
import Derived.Deep.AppendLies
set_option linter.unusedSimpArgs false
set_option linter.unusedVariables false
namespace Go.Proofs.YtaocbebgdbeffaaDoor
open Go.RowKit

/-- A number's cell, a pair's cells. -/
def cz (z : Int × Int) : Value := .complex .f64 (floatOfInt .f64 z.1) (floatOfInt .f64 z.2)
def cp (z : Int × Int) : List Value := [.int .i64 z.1, .int .i64 z.2]
theorem info_num : (Tryd.prog.info? 23).map (fun i => (i.zero, i.size, i.bytes)) = some (some (.complex .f64 0 0), 1, 16) := by kernel_rfl
theorem info_pair : (Tryd.prog.info? 28).map (fun i => (i.zero, i.size, i.bytes)) = some (some (.agg #[.int .i64 0, .int .i64 0]), 2, 16) := by kernel_rfl

/-- Pairs as they come in: whatever numbers. -/
def RdQ (w : World) (p : Option Addr) (n : Nat) (L : List (Int × Int)) : Prop :=
  L.length = n ∧ (n = 0 ∨ ∃ b off, p = some ⟨b, off, none⟩ ∧ b < w.heap.size ∧ ∀ (j : Nat) (h : j < L.length), w.cell? ⟨b, off + j * 2, none⟩ = some (.int .i64 L[j].1) ∧ w.cell? ⟨b, off + j * 2 + 1, none⟩ = some (.int .i64 L[j].2))
def fewL (L : List (Int × Int)) : List (Int × Int) := (L.take 30).filter fitB

theorem info_parts2 {t : TypeId} {z : Value} {s b : Nat} (h : (Tryd.prog.info? t).map (fun i => (i.zero, i.size, i.bytes)) = some (some z, s, b)) : ∃ i, Tryd.prog.info? t = some i ∧ i.zero = some z ∧ i.size = s ∧ i.bytes = b := by
  cases hi : Tryd.prog.info? t with
  | none => rw [hi] at h; cases h
  | some i =>
    rw [hi] at h
    simp only [Option.map_some, Option.some.injEq, Prod.mk.injEq] at h
    exact ⟨i, rfl, h.1, h.2.1, h.2.2⟩
/-- Rows of different element types are different blocks. -/
theorem own_ne {w : World} {b1 b2 : Nat} {e1 e2 : TypeId} {s1 s2 : Nat} {v u : Value} {n m : Nat} {xs ys : List Value} (h1 : w.ownsRow b1 e1 s1 v n xs) (h2 : w.ownsRow b2 e2 s2 u m ys) (hne : e1 ≠ e2) : v.ownBlock = none ∨ v.ownBlock ≠ u.ownBlock := by
  obtain ⟨_, ⟨rfl, _⟩ | ⟨g, c, cur, rfl, _, hh, _⟩⟩ := h1
  · exact .inl rfl
  · obtain ⟨_, ⟨rfl, _⟩ | ⟨g', c', cur', rfl, _, hh', _⟩⟩ := h2
    · exact .inr (by simp [Value.ownBlock])
    · refine .inr fun e => ?_
      have e' : g = g' := by simpa [Value.ownBlock] using e
      subst e'
      rw [hh] at hh'
      simp only [Option.some.injEq, Obj.cells.injEq] at hh'
      exact hne hh'.2.1
theorem own_belowG {w w' : World} {base e size n : Nat} {v : Value} {xs : List Value} (h : w.ownsRow base e size v n xs) (hb : Below w.heap.size w w') : w'.ownsRow base e size v n xs := by
  obtain ⟨h1, h2⟩ := h
  refine ⟨h1, ?_⟩
  rcases h2 with h2 | ⟨g, cap, cur, hv, hg, hh, r⟩
  · exact .inl h2
  · refine .inr ⟨g, cap, cur, hv, hg, ?_, r⟩
    rw [hb.block g (by
      rcases Nat.lt_or_ge g w.heap.size with h' | h'
      · exact h'
      · rw [Array.getElem?_eq_none h'] at hh; cases hh)]
    exact hh
theorem few_yes {L : List (Int × Int)} {j : Nat} {z : Int × Int} (h : j < L.length) (hz : L[j] = z) (hf : fitB z = true) : (L.take (j + 1)).filter fitB = (L.take j).filter fitB ++ [z] := by
  rw [List.take_succ_eq_append_getElem h, List.filter_append, hz]
  simp [hf]
theorem few_no {L : List (Int × Int)} {j : Nat} {z : Int × Int} (h : j < L.length) (hz : L[j] = z) (hf : fitB z = false) : (L.take (j + 1)).filter fitB = (L.take j).filter fitB := by
  rw [List.take_succ_eq_append_getElem h, List.filter_append, hz]
  simp [hf]
theorem newsZ (w : World) (v : Value) (t : TypeId) : ∀ j u, [v][j]? = some u → (w.alloc (.cells #[v] t)).cell? ((⟨w.heap.size, 0, none⟩ : Addr).add j) = some u := by
  intro j u hj
  match j, hj with
  | 0, hj => simp at hj; subst hj; simp [Addr.add]
theorem newsP (w : World) (v v' : Value) (t : TypeId) : ∀ j u, [v, v'][j]? = some u → (w.alloc (.cells #[v, v'] t)).cell? ((⟨w.heap.size, 0, none⟩ : Addr).add j) = some u := by
  intro j u hj
  match j, hj with
  | 0, hj => simp at hj; subst hj; simp [Addr.add]
  | 1, hj => simp at hj; subst hj; simp [Addr.add]

set_option maxRecDepth 100000 in
set_option maxHeartbeats 1000000 in
theorem few_any (p : Option Addr) (n cap : Nat) (L : List (Int × Int)) (hn : n ≤ 9223372036854775807) (w : World) (hL : RdQ w p n L) :
    Calls Tryd.prog 18 #[.slice p n cap] w fun e w' => (∃ v u, e = .returned (.tuple #[v, u]) ∧ w'.ownsRow w.heap.size 23 1 v (fewL L).length ((fewL L).map cz) ∧ w'.ownsRow w.heap.size 28 2 u (fewL L).length ((fewL L).flatMap cp)) ∧ Below w.heap.size w w' := by
  obtain ⟨i0, hi, iz0, iz1, iz2⟩ := info_parts2 info_num
  obtain ⟨i1, ki, kz0, kz1, kz2⟩ := info_parts2 info_pair
  obtain ⟨hl, hcells⟩ := hL
  have HL := Lib.hid hl
  have HC := Lib.hid hcells
  clear hcells hl
  go_enter Tryd.func18, Tryd.ntmps18
  go_wp2_with fail
  obtain ⟨M, hM⟩ : ∃ M, min n 30 = M := ⟨_, rfl⟩
  go_loopg [4, 5, 6] M (fun g v4 v5 v6 wr => ∃ j : Nat, j + g = M ∧ v6 = .int .i64 j ∧ wr.ownsRow w.heap.size 23 1 v4 ((L.take j).filter fitB).length (((L.take j).filter fitB).map cz) ∧ wr.ownsRow w.heap.size 28 2 v5 ((L.take j).filter fitB).length (((L.take j).filter fitB).flatMap cp) ∧ Below w.heap.size w wr)
  case atStart => exact ⟨0, by omega, rfl, World.ownsRow_nil _ _ _ _, World.ownsRow_nil _ _ _ _, Below.refl _ _⟩
  case round =>
    obtain ⟨j, hj, rfl, ho, hp, hbel⟩ := hrel
    have hsz := hbel.size
    by_cases hgo : j < M
    · have hjn : j < n := by omega
      have hj30 : (j : Int) < 30 := by omega
      have hjl : j < L.length := by rw [HL.out]; exact hjn
      have hlen : ((L.take j).filter fitB).length ≤ 30 := Nat.le_trans (List.length_filter_le _ _) (by rw [List.length_take]; omega)
      obtain ⟨c, hc⟩ : ∃ c, L[j].1 = c := ⟨_, rfl⟩
      obtain ⟨d, hd⟩ : ∃ d, L[j].2 = d := ⟨_, rfl⟩
      have hz : L[j] = (c, d) := by rw [← hc, ← hd]
      obtain ⟨b0, off, rfl, hlt, k0, k1⟩ : ∃ b0 off, p = some ⟨b0, off, none⟩ ∧ b0 < w.heap.size ∧ wr.cell? ⟨b0, off + j * 2, none⟩ = some (.int .i64 c) ∧ wr.cell? ⟨b0, off + j * 2 + 1, none⟩ = some (.int .i64 d) := by
        rcases HC.out with h | ⟨b0, off, h1, h2, h3⟩
        · omega
        · obtain ⟨h4, h5⟩ := h3 j hjl
          exact ⟨b0, off, h1, h2, by rw [← hc]; exact (hbel.cell (p := ⟨b0, off + j * 2, none⟩) h2).trans h4, by rw [← hd]; exact (hbel.cell (p := ⟨b0, off + j * 2 + 1, none⟩) h2).trans h5⟩
      have hjn' : (j : Int) < (n : Int) := by omega
      have hj0 : (0 : Int) ≤ (j : Int) := by omega
      have HO := Lib.hid ho
      have HP := Lib.hid hp
      clear hc hd ho hp
      by_cases hfit : (-1048576 ≤ c ∧ c ≤ 1048576 ∧ -1048576 ≤ d ∧ d ≤ 1048576)
      · have hfw := few_yes hjl hz (decide_eq_true hfit)
        have HFW := Lib.hid hfw
        have HT := Lib.hid (fun W => to_yes c d hfit.1 hfit.2.1 hfit.2.2.1 hfit.2.2.2 W)
        have HFT := Lib.hid (fun W => fits_any c d W)
        rw [decide_eq_true hfit] at HFT
        clear hfw hz hfit hjl
        go_wp2_with fail
        refine (HFT.out _).mono ?_
        rintro e w2 ⟨rfl, hb2⟩
        obtain ⟨hc2, hf2, hz2⟩ := bcell hb2 (by first | (simp only [World.size_alloc, World.size_setCell, World.size_drew]; rfl) | rfl)
        go_wp2_with fail
        refine (HT.out _).mono ?_
        rintro e w3 ⟨rfl, hb3⟩
        obtain ⟨hc3, hf3, hz3⟩ := bcell hb3 (by first | (simp only [World.size_alloc, World.size_setCell, World.size_drew]; rfl) | rfl)
        have hb23 : Below wr.heap.size wr w3 := by (repeat' (first | (with_reducible exact Below.refl _ _) | (with_reducible assumption) | (with_reducible refine Below.alloc ?_ ?_ _) | (with_reducible refine bel_drewN ?_ _) | (with_reducible refine Below.drew ?_) | (with_reducible refine Below.setCell ?_ ?_ _) | (with_reducible refine bel_call ‹_› ?_ ?_) | go_size))
        have HO3 := Lib.hid (own_belowG HO.out hb23)
        have HP3 := Lib.hid (own_belowG HP.out hb23)
        have hbw3 : Below w.heap.size w w3 := bel_call hb23 hbel (by omega)
        have k03 : w3.cell? ⟨b0, off + j * 2, none⟩ = some (.int .i64 c) := (hb23.cell (p := ⟨b0, off + j * 2, none⟩) (by show b0 < _; omega)).trans k0
        have k13 : w3.cell? ⟨b0, off + j * 2 + 1, none⟩ = some (.int .i64 d) := (hb23.cell (p := ⟨b0, off + j * 2 + 1, none⟩) (by show b0 < _; omega)).trans k1
        clear hc2 hf2 hc3 hf3 hb2 hb3
        go_wp2_with (at_builtin; refine wpList_append_own _ rfl (.tmp 22) (.tmp 28) _ rfl w.heap.size 23 i0 (.complex .f64 0 0) 1 16 Tryd.underlying45 hi iz0 iz1 iz2 rfl (by decide) _ _ _ rfl (HO3.out.alloc _) ⟨w3.heap.size, 0, none⟩ 1 1 [cz (c, d)] rfl rfl ?c1 ?c2 ?c3 ?c4 ?c5 ?_)
        case c1 => exact newsZ w3 (cz (c, d)) _
        case c2 => intro u hu; simp at hu; subst hu; rfl
        case c3 => unfold maxLen; omega
        case c4 => omega
        case c5 => simp; omega
        intro v' w4 hown4 hgrow4 _
        have hb4 : Below w.heap.size w w4 := (hbw3.alloc (by omega) _).grown hgrow4 (by simp; omega) (fun k hk => (HO3.out.lt k hk).1)
        have HP4 := Lib.hid ((HP3.out.alloc (.cells #[.complex .f64 (floatOfInt .f64 c) (floatOfInt .f64 d)] 23)).kept hgrow4 (own_ne HP3.out HO3.out (by decide)))
        have HO4 := Lib.hid hown4
        have hs4 := hgrow4.size
        have k04 : w4.cell? ⟨b0, off + j * 2, none⟩ = some (.int .i64 c) := by
          rw [hb4.cell (p := ⟨b0, off + j * 2, none⟩) hlt, ← hbw3.cell (p := ⟨b0, off + j * 2, none⟩) hlt]
          exact k03
        have k14 : w4.cell? ⟨b0, off + j * 2 + 1, none⟩ = some (.int .i64 d) := by
          rw [hb4.cell (p := ⟨b0, off + j * 2 + 1, none⟩) hlt, ← hbw3.cell (p := ⟨b0, off + j * 2 + 1, none⟩) hlt]
          exact k13
        have hs5 : w.heap.size ≤ w4.heap.size := hb4.size
        clear hown4 hgrow4 k0 k1 k03 k13 hb23
        go_wp2_with (at_builtin; refine wpList_append_own _ rfl (.tmp 30) (.tmp 35) _ rfl w.heap.size 28 i1 (.agg #[.int .i64 0, .int .i64 0]) 2 16 Tryd.underlying44 ki kz0 kz1 kz2 rfl (by decide) _ _ _ rfl (HP4.out.alloc _) ⟨w4.heap.size, 0, none⟩ 1 1 (cp (c, d)) rfl rfl ?c1 ?c2 ?c3 ?c4 ?c5 ?_)
        case c1 => exact newsP w4 _ _ _
        case c2 => intro u hu; simp [cp] at hu; rcases hu with rfl | rfl <;> rfl
        case c3 => unfold maxLen; omega
        case c4 => omega
        case c5 => simp; omega
        intro v5' w5 hown5 hgrow5 _
        have hb5 : Below w.heap.size w w5 := (hb4.alloc (by omega) _).grown hgrow5 (by simp; omega) (fun k hk => (HP4.out.lt k hk).1)
        have HO5 := Lib.hid ((HO4.out.alloc (.cells #[.int .i64 c, .int .i64 d] 28)).kept hgrow5 (own_ne HO4.out HP4.out (by decide)))
        have HP5 := Lib.hid hown5
        clear hown5 hgrow5 k04 k14
        go_wp2
        go_roundg (gk - 1)
        case measure => omega
        case rel => exact ⟨j + 1, by omega, by go_num, by rw [HFW.out, List.map_append, List.length_append]; exact HO5.out, by rw [HFW.out, List.flatMap_append, List.length_append]; exact (by simpa [cp] using HP5.out), hb5⟩
      · have hfw := few_no hjl hz (decide_eq_false hfit)
        have HFW := Lib.hid hfw
        have HFT := Lib.hid (fun W => fits_any c d W)
        rw [decide_eq_false hfit] at HFT
        clear hfw hz hfit hjl
        go_wp2_with fail
        refine (HFT.out _).mono ?_
        rintro e w2 ⟨rfl, hb2⟩
        have HO2 := Lib.hid (own_belowG HO.out hb2)
        have HP2 := Lib.hid (own_belowG HP.out hb2)
        have hbw2 : Below w.heap.size w w2 := bel_call hb2 hbel (by omega)
        go_wp2_with fail
        go_roundg (gk - 1)
        case measure => omega
        case rel => exact ⟨j + 1, by omega, by go_num, by rw [HFW.out]; exact HO2.out, by rw [HFW.out]; exact HP2.out, hbw2⟩
    · have e : fewL L = (L.take j).filter fitB := by
        unfold fewL
        congr 1
        rcases Nat.lt_or_ge n 30 with h | h
        · rw [List.take_of_length_le (by rw [HL.out]; omega), List.take_of_length_le (by rw [HL.out]; omega)]
        · rw [show j = 30 from by omega]
      have HE := Lib.hid e
      have hcase : (j : Int) < (n : Int) ∧ ¬ (j : Int) < 30 ∨ ¬ (j : Int) < (n : Int) := by omega
      clear e
      rcases hcase with ⟨h1, h2⟩ | h1
      all_goals
        go_wp2_with fail
        go_ret2
        exact ⟨⟨_, _, rfl, by rw [HE.out]; exact ho, by rw [HE.out]; exact hp⟩, hbel⟩
end Go.Proofs.YtaocbebgdbeffaaDoor
