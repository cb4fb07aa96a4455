/- The law GaussReckons: the walk. -/
import Derived.Test.YtaocbebgdbeffaaDoorGauH
import Derived.Lib.QuietBelow
set_option linter.unusedSimpArgs false
set_option linter.unusedVariables false
namespace Go.Proofs.YtaocbebgdbeffaaDoor
open Go.RowKit

theorem RdZ.below {w w' : World} {p : Option Addr} {n : Nat} {L : List (Int × Int)} (h : RdZ w p n L) (hb : Below w.heap.size w w') : RdZ w' p n L := by
  obtain ⟨h1, h2, h3⟩ := h
  refine ⟨h1, h2, ?_⟩
  rcases h3 with h3 | ⟨b, off, h4, h5, h6⟩
  · exact .inl h3
  · refine .inr ⟨b, off, h4, Nat.lt_of_lt_of_le h5 hb.size, fun j hj => ?_⟩
    obtain ⟨x, y, h7, h8⟩ := h6 j hj
    exact ⟨x, y, (hb.cell (p := ⟨b, off + j, none⟩) h5).trans h7, h8⟩
theorem RdP.below {w w' : World} {p : Option Addr} {n : Nat} {L : List (Int × Int)} (h : RdP w p n L) (hb : Below w.heap.size w w') : RdP w' p n L := by
  obtain ⟨h1, h2, h3⟩ := h
  refine ⟨h1, h2, ?_⟩
  rcases h3 with h3 | ⟨b, off, h4, h5, h6⟩
  · exact .inl h3
  · refine .inr ⟨b, off, h4, Nat.lt_of_lt_of_le h5 hb.size, fun j hj => ?_⟩
    obtain ⟨h7, h8⟩ := h6 j hj
    exact ⟨(hb.cell (p := ⟨b, off + j * 2, none⟩) h5).trans h7, (hb.cell (p := ⟨b, off + j * 2 + 1, none⟩) h5).trans h8⟩
theorem few_fit (L : List (Int × Int)) : ∀ z ∈ fewL L, -1048576 ≤ z.1 ∧ z.1 ≤ 1048576 ∧ -1048576 ≤ z.2 ∧ z.2 ≤ 1048576 := by
  intro z hz
  have h := (List.mem_filter.1 hz).2
  simpa only [fitB, decide_eq_true_eq] using h
theorem few_len (L : List (Int × Int)) : (fewL L).length ≤ 30 := Nat.le_trans (List.length_filter_le _ _) (by rw [List.length_take]; omega)
theorem own_rdz {w : World} {base : Nat} {e : TypeId} {v : Value} {F : List (Int × Int)} (h : w.ownsRow base e 1 v F.length (F.map cz)) (hf : ∀ z ∈ F, -1048576 ≤ z.1 ∧ z.1 ≤ 1048576 ∧ -1048576 ≤ z.2 ∧ z.2 ≤ 1048576) : ∃ p cap, v = .slice p F.length cap ∧ RdZ w p F.length F := by
  obtain ⟨hl, ⟨rfl, h0⟩ | ⟨g, cap, cur, rfl, hg, hh, hn, hm, hs, ht⟩⟩ := h
  · exact ⟨none, 0, by rw [h0], rfl, hf, .inl h0⟩
  · have hlt : g < w.heap.size := by
      rcases Nat.lt_or_ge g w.heap.size with h' | h'
      · exact h'
      · rw [Array.getElem?_eq_none h'] at hh; cases hh
    have ho : w.ownsRow base e 1 (.slice (some ⟨g, 0, none⟩) F.length cap) F.length (F.map cz) := ⟨hl, .inr ⟨g, cap, cur, rfl, hg, hh, hn, hm, hs, ht⟩⟩
    refine ⟨some ⟨g, 0, none⟩, cap, rfl, rfl, hf, .inr ⟨g, 0, rfl, hlt, fun j hj => ?_⟩⟩
    have hz := hf F[j] (List.getElem_mem hj)
    refine ⟨floatOfInt .f64 F[j].1, floatOfInt .f64 F[j].2, ?_, isF_of (by unfold M53; omega), isF_of (by unfold M53; omega)⟩
    rw [Nat.zero_add, ho.cellAt j (by omega)]
    simp [hj, cz]
theorem flat_get (F : List (Int × Int)) : ∀ (j : Nat) (h : j < F.length), (F.flatMap cp)[j * 2]? = some (.int .i64 F[j].1) ∧ (F.flatMap cp)[j * 2 + 1]? = some (.int .i64 F[j].2) := by
  induction F with
  | nil => intro j h; simp at h
  | cons z r ih =>
    intro j h
    match j, h with
    | 0, _ => exact ⟨rfl, rfl⟩
    | j + 1, h =>
      obtain ⟨h1, h2⟩ := ih j (by simpa using h)
      have e1 : (j + 1) * 2 = j * 2 + 2 := by omega
      have e2 : (j + 1) * 2 + 1 = j * 2 + 1 + 2 := by omega
      rw [e1]
      refine ⟨?_, ?_⟩
      · simpa [cp] using h1
      · rw [show j * 2 + 2 + 1 = j * 2 + 1 + 2 from by omega]
        simpa [cp] using h2
theorem own_rdp {w : World} {base : Nat} {e : TypeId} {v : Value} {F : List (Int × Int)} (h : w.ownsRow base e 2 v F.length (F.flatMap cp)) (hf : ∀ z ∈ F, -1048576 ≤ z.1 ∧ z.1 ≤ 1048576 ∧ -1048576 ≤ z.2 ∧ z.2 ≤ 1048576) : ∃ p cap, v = .slice p F.length cap ∧ RdP w p F.length F := by
  obtain ⟨hl, ⟨rfl, h0⟩ | ⟨g, cap, cur, rfl, hg, hh, hn, hm, hs, ht⟩⟩ := h
  · exact ⟨none, 0, by rw [h0], rfl, hf, .inl h0⟩
  · have hlt : g < w.heap.size := by
      rcases Nat.lt_or_ge g w.heap.size with h' | h'
      · exact h'
      · rw [Array.getElem?_eq_none h'] at hh; cases hh
    have ho : w.ownsRow base e 2 (.slice (some ⟨g, 0, none⟩) F.length cap) F.length (F.flatMap cp) := ⟨hl, .inr ⟨g, cap, cur, rfl, hg, hh, hn, hm, hs, ht⟩⟩
    refine ⟨some ⟨g, 0, none⟩, cap, rfl, rfl, hf, .inr ⟨g, 0, rfl, hlt, fun j hj => ?_⟩⟩
    obtain ⟨h1, h2⟩ := flat_get F j hj
    rw [Nat.zero_add]
    exact ⟨by rw [ho.cellAt (j * 2) (by omega)]; exact h1, by rw [ho.cellAt (j * 2 + 1) (by omega)]; exact h2⟩

set_option maxRecDepth 100000 in
set_option maxHeartbeats 30000000 in
theorem reckons_walk (p : Option Addr) (n cap : Nat) (L : List (Int × Int)) (hn : n ≤ 9223372036854775807) (w : World) (hL : RdQ w p n L) :
    Calls Tryd.prog 6 #[.slice p n cap] w fun e w' => e = .returned (.bool true) ∧ Below w.heap.size w w' := by
  have HFEW := Lib.hid (few_any p n cap L hn w hL)
  have hfit := few_fit L
  have hlen := few_len L
  obtain ⟨F, hF⟩ : ∃ F, fewL L = F := ⟨_, rfl⟩
  rw [hF] at HFEW hfit hlen
  have HFIT := Lib.hid hfit
  clear hL hF hfit
  go_enter Tryd.func6, Tryd.ntmps6
  go_wp2_with fail
  refine (HFEW.out).mono ?_
  rintro e w1 ⟨⟨v, u, rfl, ho, hp⟩, hb1⟩
  obtain ⟨p1, c1, rfl, hz1⟩ := own_rdz ho HFIT.out
  obtain ⟨p2, c2, rfl, hz2⟩ := own_rdp hp HFIT.out
  have hs1 := hb1.size
  obtain ⟨m, hm⟩ : ∃ m, F.length = m := ⟨_, rfl⟩
  rw [hm] at hz1 hz2 hlen ⊢
  have HZ := Lib.hid hz1
  have HP := Lib.hid hz2
  have HM := Lib.hid hm
  clear ho hp hz1 hz2 hm
  go_wp2_with fail
  refine (add_any p1 m c1 F (by omega) _ HZ.out).mono ?_
  rintro e w2 ⟨⟨x, y, rfl, hx, hy⟩, rfl⟩
  have HX := Lib.hid (And.intro hx hy)
  clear hx hy
  go_wp2_with fail
  refine (refAdd_any p2 m c2 F (by omega) _ HP.out).mono ?_
  rintro e w3 ⟨rfl, hb3⟩
  have hs3 := hb3.size
  go_wp2_with fail
  refine (mul_any p1 m c1 F (by omega) _ (HZ.out.below (by (repeat' (first | (with_reducible exact Below.refl _ _) | (with_reducible assumption) | (with_reducible refine Below.alloc ?_ ?_ _) | (with_reducible refine bel_drewN ?_ _) | (with_reducible refine Below.drew ?_) | (with_reducible refine Below.setCell ?_ ?_ _) | (with_reducible refine bel_call ‹_› ?_ ?_) | go_size))))).mono ?_
  rintro e w4 ⟨⟨x', y', rfl, hx, hy⟩, rfl⟩
  have HX' := Lib.hid (And.intro hx hy)
  clear hx hy
  go_wp2_with fail
  refine (refMul_any p2 m c2 F (by omega) _ (HP.out.below (by (repeat' (first | (with_reducible exact Below.refl _ _) | (with_reducible assumption) | (with_reducible refine Below.alloc ?_ ?_ _) | (with_reducible refine bel_drewN ?_ _) | (with_reducible refine Below.drew ?_) | (with_reducible refine Below.setCell ?_ ?_ _) | (with_reducible refine bel_call ‹_› ?_ ?_) | go_size))))).mono ?_
  rintro e w5 ⟨rfl, hb5⟩
  obtain ⟨hc5, hf5, hz5⟩ := bcell hb5 (by first | (simp only [World.size_alloc, World.size_setCell, World.size_drew]; rfl) | rfl)
  go_wp2_with fail
  refine (is_yes x y _ _ HX.out.1 HX.out.2 _).mono ?_
  rintro e w6 ⟨rfl, hb6⟩
  obtain ⟨hc6, hf6, hz6⟩ := bcell hb6 (by first | (simp only [World.size_alloc, World.size_setCell, World.size_drew]; rfl) | rfl)
  go_wp2_with fail
  refine (is_yes x' y' _ _ HX'.out.1 HX'.out.2 _).mono ?_
  rintro e w7 ⟨rfl, hb7⟩
  obtain ⟨hc7, hf7, hz7⟩ := bcell hb7 (by first | (simp only [World.size_alloc, World.size_setCell, World.size_drew]; rfl) | rfl)
  have hb17 : Below w1.heap.size w1 w7 := by (repeat' (first | (with_reducible exact Below.refl _ _) | (with_reducible assumption) | (with_reducible refine Below.alloc ?_ ?_ _) | (with_reducible refine bel_drewN ?_ _) | (with_reducible refine Below.drew ?_) | (with_reducible refine Below.setCell ?_ ?_ _) | (with_reducible refine bel_call ‹_› ?_ ?_) | go_size))
  clear hb3 hb5 hb6 hb7 hc5 hf5 hc6 hf6 hc7 hf7
  go_wp2_with fail
  go_loopg [13] m (fun g v13 wr => ∃ i : Nat, i + g = m ∧ v13 = .int .i64 i ∧ Below w1.heap.size w1 wr)
  case atStart => exact ⟨0, by omega, rfl, hb17⟩
  case round =>
    obtain ⟨i, hi, rfl, hbl⟩ := hrel
    have hsl := hbl.size
    by_cases hgo : i < m
    · have hil : i < F.length := by rw [HM.out]; exact hgo
      obtain ⟨c, hc⟩ : ∃ c, F[i].1 = c := ⟨_, rfl⟩
      obtain ⟨d, hd⟩ : ∃ d, F[i].2 = d := ⟨_, rfl⟩
      have hcd : -1048576 ≤ c ∧ c ≤ 1048576 ∧ -1048576 ≤ d ∧ d ≤ 1048576 := by
        have := HFIT.out F[i] (List.getElem_mem hil)
        rw [hc, hd] at this
        exact this
      obtain ⟨g1, o1, rfl, hg1, u1, u2, k1, hu1, hu2⟩ : ∃ g1 o1, p1 = some ⟨g1, o1, none⟩ ∧ g1 < w1.heap.size ∧ ∃ u1 u2, w1.cell? ⟨g1, o1 + i, none⟩ = some (.complex .f64 u1 u2) ∧ IsF u1 c ∧ IsF u2 d := by
        obtain ⟨_, _, h⟩ := HZ.out
        rcases h with h | ⟨b0, off, h1, h2, h3⟩
        · omega
        · obtain ⟨u, v, h4, h5, h6⟩ := h3 i hil
          exact ⟨b0, off, h1, h2, u, v, h4, by rw [← hc]; exact h5, by rw [← hd]; exact h6⟩
      obtain ⟨g2, o2, rfl, hg2, k2, k3⟩ : ∃ g2 o2, p2 = some ⟨g2, o2, none⟩ ∧ g2 < w1.heap.size ∧ w1.cell? ⟨g2, o2 + i * 2, none⟩ = some (.int .i64 c) ∧ w1.cell? ⟨g2, o2 + i * 2 + 1, none⟩ = some (.int .i64 d) := by
        obtain ⟨_, _, h⟩ := HP.out
        rcases h with h | ⟨b0, off, h1, h2, h3⟩
        · omega
        · obtain ⟨h4, h5⟩ := h3 i hil
          exact ⟨b0, off, h1, h2, by rw [← hc]; exact h4, by rw [← hd]; exact h5⟩
      have q1 : wr.cell? ⟨g1, o1 + i, none⟩ = some (.complex .f64 u1 u2) := (hbl.cell (p := ⟨g1, o1 + i, none⟩) hg1).trans k1
      have q2 : wr.cell? ⟨g2, o2 + i * 2, none⟩ = some (.int .i64 c) := (hbl.cell (p := ⟨g2, o2 + i * 2, none⟩) hg2).trans k2
      have q3 : wr.cell? ⟨g2, o2 + i * 2 + 1, none⟩ = some (.int .i64 d) := (hbl.cell (p := ⟨g2, o2 + i * 2 + 1, none⟩) hg2).trans k3
      obtain ⟨z, hz, hcj⟩ := conj_any u1 u2 c d hu1 hu2
      have HCJ := Lib.hid hcj
      have HIS := Lib.hid (fun W => is_yes u1 z c (-d) hu1 hz W)
      have HNM := Lib.hid (fun W => norm_any u1 u2 c d hu1 hu2 hcd W)
      have b1 := sq_bounds c hcd.1 hcd.2.1
      have b2 := sq_bounds d hcd.2.2.1 hcd.2.2.2
      have w11 : IntKind.i64.wrap (c * c) = c * c := IntWalk.i64_in _ (by omega)
      have w12 : IntKind.i64.wrap (d * d) = d * d := IntWalk.i64_in _ (by omega)
      have w13 : IntKind.i64.wrap (c * c + d * d) = c * c + d * d := IntWalk.i64_in _ (by omega)
      have w14 : IntKind.i64.wrap (-d) = -d := IntWalk.i64_in _ (by omega)
      have w15 : IntKind.i64.wrap (0 - d) = -d := by rw [Int.zero_sub]; exact w14
      have him : (i : Int) < (m : Int) := by omega
      have hi0 : (0 : Int) ≤ (i : Int) := by omega
      clear hc hd hil k1 k2 k3 hcj hz hu1 hu2
      have r1 := cell_regrown q1
      have r2 := cell_regrown q2
      have r3 := cell_regrown q3
      have cJ : ∀ dd os, Calls Tryd.prog 22 #[.complex .f64 u1 u2] (Go.Sort.grow (redrawn wr dd) os) fun e w'' => e = .returned (.complex .f64 u1 z) ∧ ∃ p : Regrown, w'' = Go.Sort.grow (redrawn wr p.d) p.os := fun dd os => Calls.regrown_of ((HCJ.out _).mono fun e w' ⟨h1, h2⟩ => ⟨h1, h2 ▸ Below.refl _ _⟩)
      have cI : ∀ dd os, Calls Tryd.prog 9 #[.complex .f64 u1 z, .agg #[.int .i64 c, .int .i64 (-d)]] (Go.Sort.grow (redrawn wr dd) os) fun e w'' => e = .returned (.bool true) ∧ ∃ p : Regrown, w'' = Go.Sort.grow (redrawn wr p.d) p.os := fun dd os => Calls.regrown_of (HIS.out _)
      have cN : ∀ dd os, Calls Tryd.prog 17 #[.complex .f64 u1 u2] (Go.Sort.grow (redrawn wr dd) os) fun e w'' => e = .returned (.int .i64 (c * c + d * d)) ∧ ∃ p : Regrown, w'' = Go.Sort.grow (redrawn wr p.d) p.os := fun dd os => Calls.regrown_of ((HNM.out _).mono fun e w' ⟨h1, h2⟩ => ⟨h1, h2 ▸ Below.refl _ _⟩)
      go_wp2_with fail
      refine wp_region_quiet_below (by kernel_rfl) (by kernel_rfl) ?_
      repeat (quiet_step (first | with_reducible exact cJ _ _ | with_reducible exact cI _ _ | with_reducible exact cN _ _))
      refine wpQuiet_nil ?_
      intro _ hw'
      obtain ⟨⟨dq, osq⟩, hw''⟩ := hw'
      subst hw''
      clear r1 r2 r3 cJ cI cN q1 q2 q3
      have hbq : Below w1.heap.size w1 (Go.Sort.grow (redrawn wr dq) osq) := bel_call (below_regrown wr dq osq) hbl (by omega)
      go_wp2
      go_roundg (gk - 1)
      case measure => omega
      case rel => exact ⟨i + 1, by omega, by go_num, hbq⟩
    · have hbw : Below w.heap.size w wr := bel_call hbl hb1 (by omega)
      have him : ¬ (i : Int) < (m : Int) := by omega
      go_wp2_with fail
      refine (awake_any _).mono ?_
      rintro e w9 ⟨rfl, hb9⟩
      go_wp2_with fail
      go_ret
      exact ⟨rfl, bel_call hb9 hbw (by omega)⟩
end Go.Proofs.YtaocbebgdbeffaaDoor
