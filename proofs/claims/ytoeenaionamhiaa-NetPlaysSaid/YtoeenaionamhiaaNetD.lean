/- The net's own cut: a packet is taken away. -/
import Derived.Test.YtoeenaionamhiaaNetC
import Derived.Deep.RegionLaw
import Derived.Deep.AppendLies
set_option linter.unusedSimpArgs false
set_option linter.unusedVariables false
namespace Go.Proofs.Ytoeenaionamhiaa
open Go.RowKit

/-- What cut hands back, and what it leaves. -/
def RetCut (B0 g : Nat) (m s l c : Int) (p : Pk) (Ps' : List Pk) (W : World) (e : Ending) (w' : World) : Prop := e = .returned p.val ∧ (∃ v', NetW B0 w' g m s l c v' Ps' ∧ ∀ k, v'.ownBlock = some k → W.heap.size ≤ k) ∧ W.grownBy w' (some g)

theorem own_slice {w : World} {base : Nat} {e : TypeId} {size : Nat} {v : Value} {n : Nat} {xs : List Value} (h : w.ownsRow base e size v n xs) : ∃ A c, v = .slice A n c := by
  obtain ⟨_, ⟨rfl, rfl⟩ | ⟨g, cap, cur, rfl, _⟩⟩ := h
  · exact ⟨_, _, rfl⟩
  · exact ⟨_, _, rfl⟩
theorem rdc_of {w : World} {r : Nat} {xs : List Value} (hk : ∀ j u, xs[j]? = some u → w.cell? ⟨r, j, none⟩ = some u) (h1 : ∀ u ∈ xs, u.oneCell' = true) (k n : Nat) (hn : ((xs.drop (k * 3)).take (n * 3)).length = n * 3) : RdC w ⟨r, k * 3, none⟩ n ((xs.drop (k * 3)).take (n * 3)) := by
  refine ⟨hn, fun j u hu => ?_, fun u hu => h1 u (List.mem_of_mem_drop (List.mem_of_mem_take hu))⟩
  have e : (⟨r, k * 3, none⟩ : Addr).add j = ⟨r, k * 3 + j, none⟩ := by
    unfold Addr.add
    split
    · rename_i h0; subst h0; rfl
    · rfl
  rw [e]
  refine hk _ _ ?_
  rw [List.getElem?_take] at hu
  split at hu
  · rw [List.getElem?_drop] at hu; exact hu
  · cases hu

set_option maxRecDepth 100000 in
set_option maxHeartbeats 2000000 in
theorem cut_any (B0 g : Nat) (m s l c : Int) (v : Value) (Ps : List Pk) (i : Nat) (p : Pk) (hp : Ps[i]? = some p) (hlen : Ps.length ≤ 1000) (w : World) (hB : B0 ≤ w.heap.size) (hN : NetW B0 w g m s l c v Ps) :
    Calls Try.prog 19 #[.pointer (some ⟨g, 0, none⟩), .int .i64 i] w (RetCut B0 g m s l c p (Ps.eraseIdx i) w) := by
  have hi : i < Ps.length := (List.getElem?_eq_some_iff.1 hp).1
  obtain ⟨r, cap, rfl, hr, hnc, hcm, hrl, hty, hfr, key⟩ := hN.row (by omega)
  obtain ⟨q0, q1, q2, q3, q4, q5⟩ := hN.cell
  have hgl := hN.lt
  have HN := Lib.hid hN
  have HT := Lib.hid hty
  have HK := Lib.hid key
  have HP := Lib.hid hp
  have k0 : w.cell? ⟨r, i * 3, none⟩ = some (.int .i64 p.f) := key _ _ (flat_at Ps i p hp 0 (by omega))
  have k1 : w.cell? ⟨r, i * 3 + 1, none⟩ = some (.int .i64 p.t) := key _ _ (flat_at Ps i p hp 1 (by omega))
  have k2 : w.cell? ⟨r, i * 3 + 2, none⟩ = some (.slice p.A p.n p.c) := key _ _ (flat_at Ps i p hp 2 (by omega))
  clear hN hty key hfr hp
  obtain ⟨n, hn⟩ : ∃ n, n = Ps.length := ⟨_, rfl⟩
  have HL := Lib.hid hn
  rw [← hn] at hi hnc hlen q1 HN
  clear hn
  unfold maxLen at hcm
  have hx1 : (((Ps.flatMap Pk.cells).drop (0 * 3)).take (i * 3)).length = i * 3 := by have := HL.out; simp only [List.length_take, List.length_drop, flat_len]; omega
  have hx2 : (((Ps.flatMap Pk.cells).drop ((i + 1) * 3)).take ((n - (i + 1)) * 3)).length = (n - (i + 1)) * 3 := by have := HL.out; simp only [List.length_take, List.length_drop, flat_len]; omega
  have T1 := rdc_of HK.out (flat_one Ps) 0 i hx1
  have T2 := rdc_of HK.out (flat_one Ps) (i + 1) (n - (i + 1)) hx2
  have R1 : Hid (∀ W, Below w.heap.size w W → RdC W ⟨r, 0, none⟩ i ((Ps.take i).flatMap Pk.cells)) := fun W hb => by
    have := T1.kept (w' := W) (hb.block r hrl)
    rw [flat_take]
    simpa using this
  have R2 : Hid (∀ W, Below w.heap.size w W → RdC W ⟨r, (i + 1) * 3, none⟩ (n - (i + 1)) ((Ps.drop (i + 1)).flatMap Pk.cells)) := fun W hb => by
    have h := T2.kept (w' := W) (hb.block r hrl)
    have e : ((Ps.flatMap Pk.cells).drop ((i + 1) * 3)).take ((n - (i + 1)) * 3) = (Ps.drop (i + 1)).flatMap Pk.cells := by
      rw [flat_drop, List.take_of_length_le]
      have := HL.out; simp only [List.length_drop, flat_len]; omega
    rw [e] at h
    exact h
  have R0 : Hid (∀ W, RdC W ⟨r, 0, none⟩ 0 []) := fun W => ⟨rfl, fun j u hu => by simp at hu, by simp⟩
  have HE : Hid ((Ps.take i).flatMap Pk.cells ++ (Ps.drop (i + 1)).flatMap Pk.cells = (Ps.eraseIdx i).flatMap Pk.cells) := by
    unfold Hid
    rw [List.eraseIdx_eq_take_drop_succ, List.flatMap_append]
  have HQ : Hid ((Ps.eraseIdx i).length = i + (n - (i + 1))) := by
    unfold Hid
    have := HL.out
    rw [List.length_eraseIdx, if_pos (by omega)]
    omega
  have HO : Hid (∀ q ∈ Ps.eraseIdx i, q.ok B0 w) := fun q hq => HN.out.pk q (List.mem_of_mem_eraseIdx hq)
  clear hx1 hx2 T1 T2
  have g1 : i ≤ cap := by omega
  have g2 : i + 1 ≤ n := by omega
  have g3 : i + 1 ≤ cap := by omega
  by_cases hcap : cap = i + 1
  · have hni : n = i + 1 := by omega
    subst hcap
    subst hni
    go_enter Try.func19, Try.ntmps19
    go_wp2_with fail
    have g6 : (i : Int) ≤ (i : Int) + 1 := by omega
    have g4 : (i : Int) + 1 ≤ ((i + 1 : Nat) : Int) := by omega
    have e2 : (0 : Int) ≤ (i : Int) + 1 := by omega
    have e3 : ((i : Int) + 1).toNat = i + 1 := by omega
    have e1 : IntKind.i64.wrap ((i : Int) + 1) = (i : Int) + 1 := IntWalk.i64_in _ (by omega)
    have HE1 : Hid ((Ps.take i).flatMap Pk.cells ++ [] = (Ps.eraseIdx i).flatMap Pk.cells) := by
      have h := HE.out
      have e : Ps.drop (i + 1) = [] := List.drop_of_length_le (by have := HL.out; omega)
      rw [e] at h
      exact h
    have HQ1 : Hid ((Ps.eraseIdx i).length = i + 0) := by
      have h := HQ.out
      unfold Hid
      omega
    go_region_law (first | (
      go_simp
      go_at_call 25
      refine (concat_any _ ⟨r, 0, none⟩ ⟨r, 0, none⟩ i (i + 1) 0 0 _ [] ?_ ?_ _ ?_ ?_ ?_ ?_ ?_ (R1.out _ ?_) (R0.out _)).mono ?_
      · omega
      · omega
      · simp
      · simp; omega
      · simp; omega
      · go_simp
      · go_simp
      · (repeat' (first | (with_reducible exact Below.refl _ _) | (with_reducible assumption) | (with_reducible refine Below.alloc ?_ ?_ _) | (with_reducible refine bel_drewN ?_ _) | (with_reducible refine Below.drew ?_) | (with_reducible refine Below.setCell ?_ ?_ _) | (with_reducible refine bel_call ‹_› ?_ ?_) | go_size))
      rintro e w1 ⟨v', rfl, hown, hb⟩
      obtain ⟨A', c', rfl⟩ := own_slice hown
      obtain ⟨hc, hf, hz⟩ := bcell hb (by first | (simp only [World.size_alloc, World.size_setCell, World.size_drew]; rfl) | rfl)
      have HW := Lib.hid hown
      clear hown
      go_simp))
    all_goals go_wp2_with fail
    all_goals
      have hbw : Below w.heap.size w w1 := by (repeat' (first | (with_reducible exact Below.refl _ _) | (with_reducible assumption) | (with_reducible refine Below.alloc ?_ ?_ _) | (with_reducible refine bel_drewN ?_ _) | (with_reducible refine Below.drew ?_) | (with_reducible refine Below.setCell ?_ ?_ _) | (with_reducible refine bel_call ‹_› ?_ ?_) | go_size))
      have tyb : tyAt w1 w.heap.size = some tPk := ty_call hb (ty_drew (ty_old (ty_old (ty_new rfl) _) _))
      have hown : w1.ownsRow B0 tPk 3 (Value.slice A' i c') (Ps.eraseIdx i).length ((Ps.eraseIdx i).flatMap Pk.cells) := by
        have h := own_mono HW.out (base := B0) (by simp; omega)
        rw [HE1.out] at h
        rw [HQ1.out]
        exact h
      have hne : (Value.slice A' i c').ownBlock ≠ some w.heap.size := by
        intro he
        have h := (own_ty HW.out _ he).1
        simp at h
        omega
      have net := (NetW.setL (v' := (Value.slice A' i c')) (Ps' := Ps.eraseIdx i) ((hbw.block g hgl).trans HN.out.blk) HN.out.hg hown (fun q hq => (HO.out q hq).fr (.of_below hbw)))
      have net1 := (((net.far (p := ⟨w.heap.size, 0, none⟩) hB (ty_set tyb _ _) hne (.int .i64 p.f)).far (p := ⟨w.heap.size, 1, none⟩) hB (ty_set (ty_set tyb _ _) _ _) hne (.int .i64 p.t)).far (p := ⟨w.heap.size, 2, none⟩) hB (ty_set (ty_set (ty_set tyb _ _) _ _) _ _) hne (.slice p.A p.n p.c))
      have fr1 : w.grownBy _ (some g) := gb_set (gb_set (gb_set (gb_set (gb_below hbw (some g)) (p := ⟨g, 1, none⟩) (.inr rfl) (Value.slice A' i c')) (p := ⟨w.heap.size, 0, none⟩) (.inl (Nat.le_refl _)) (.int .i64 p.f)) (p := ⟨w.heap.size, 1, none⟩) (.inl (Nat.le_refl _)) (.int .i64 p.t)) (p := ⟨w.heap.size, 2, none⟩) (.inl (Nat.le_refl _)) (.slice p.A p.n p.c)
      have hfresh : ∀ k, ((Value.slice A' i c')).ownBlock = some k → w.heap.size ≤ k := by
        intro k he
        have h := (own_ty HW.out _ he).1
        simp at h
        omega
      refine bodyPost_ret (v := p.val) (by simp [results, Try.results19, go_sem, hc, hz, Pk.val]) rfl ⟨rfl, ⟨_, net1, hfresh⟩, fr1⟩
  · go_enter Try.func19, Try.ntmps19
    go_wp2_with fail
    have g4 : (i : Int) + 1 ≤ (n : Int) := by omega
    have e2 : (0 : Int) ≤ (i : Int) + 1 := by omega
    have e3 : ((i : Int) + 1).toNat = i + 1 := by omega
    have e1 : IntKind.i64.wrap ((i : Int) + 1) = (i : Int) + 1 := IntWalk.i64_in _ (by omega)
    go_region_law (first | (
      go_simp
      go_at_call 25
      refine (concat_any _ ⟨r, 0, none⟩ ⟨r, (i + 1) * 3, none⟩ i cap (n - (i + 1)) (cap - (i + 1)) _ _ ?_ ?_ _ ?_ ?_ ?_ ?_ ?_ (R1.out _ ?_) (R2.out _ ?_)).mono ?_
      · omega
      · omega
      · simp
      · simp; omega
      · simp; omega
      · go_simp
      · go_simp
      · (repeat' (first | (with_reducible exact Below.refl _ _) | (with_reducible assumption) | (with_reducible refine Below.alloc ?_ ?_ _) | (with_reducible refine bel_drewN ?_ _) | (with_reducible refine Below.drew ?_) | (with_reducible refine Below.setCell ?_ ?_ _) | (with_reducible refine bel_call ‹_› ?_ ?_) | go_size))
      · (repeat' (first | (with_reducible exact Below.refl _ _) | (with_reducible assumption) | (with_reducible refine Below.alloc ?_ ?_ _) | (with_reducible refine bel_drewN ?_ _) | (with_reducible refine Below.drew ?_) | (with_reducible refine Below.setCell ?_ ?_ _) | (with_reducible refine bel_call ‹_› ?_ ?_) | go_size))
      rintro e w1 ⟨v', rfl, hown, hb⟩
      obtain ⟨A', c', rfl⟩ := own_slice hown
      obtain ⟨hc, hf, hz⟩ := bcell hb (by first | (simp only [World.size_alloc, World.size_setCell, World.size_drew]; rfl) | rfl)
      have HW := Lib.hid hown
      clear hown
      go_simp))
    all_goals go_wp2_with fail
    all_goals
      have hbw : Below w.heap.size w w1 := by (repeat' (first | (with_reducible exact Below.refl _ _) | (with_reducible assumption) | (with_reducible refine Below.alloc ?_ ?_ _) | (with_reducible refine bel_drewN ?_ _) | (with_reducible refine Below.drew ?_) | (with_reducible refine Below.setCell ?_ ?_ _) | (with_reducible refine bel_call ‹_› ?_ ?_) | go_size))
      have tyb : tyAt w1 w.heap.size = some tPk := ty_call hb (ty_drew (ty_old (ty_old (ty_new rfl) _) _))
      have hown : w1.ownsRow B0 tPk 3 (Value.slice A' (i + (n - (i + 1))) c') (Ps.eraseIdx i).length ((Ps.eraseIdx i).flatMap Pk.cells) := by
        have h := own_mono HW.out (base := B0) (by simp; omega)
        rw [HE.out] at h
        rw [HQ.out]
        exact h
      have hne : (Value.slice A' (i + (n - (i + 1))) c').ownBlock ≠ some w.heap.size := by
        intro he
        have h := (own_ty HW.out _ he).1
        simp at h
        omega
      have net := (NetW.setL (v' := (Value.slice A' (i + (n - (i + 1))) c')) (Ps' := Ps.eraseIdx i) ((hbw.block g hgl).trans HN.out.blk) HN.out.hg hown (fun q hq => (HO.out q hq).fr (.of_below hbw)))
      have net1 := (((net.far (p := ⟨w.heap.size, 0, none⟩) hB (ty_set tyb _ _) hne (.int .i64 p.f)).far (p := ⟨w.heap.size, 1, none⟩) hB (ty_set (ty_set tyb _ _) _ _) hne (.int .i64 p.t)).far (p := ⟨w.heap.size, 2, none⟩) hB (ty_set (ty_set (ty_set tyb _ _) _ _) _ _) hne (.slice p.A p.n p.c))
      have fr1 : w.grownBy _ (some g) := gb_set (gb_set (gb_set (gb_set (gb_below hbw (some g)) (p := ⟨g, 1, none⟩) (.inr rfl) (Value.slice A' (i + (n - (i + 1))) c')) (p := ⟨w.heap.size, 0, none⟩) (.inl (Nat.le_refl _)) (.int .i64 p.f)) (p := ⟨w.heap.size, 1, none⟩) (.inl (Nat.le_refl _)) (.int .i64 p.t)) (p := ⟨w.heap.size, 2, none⟩) (.inl (Nat.le_refl _)) (.slice p.A p.n p.c)
      have hfresh : ∀ k, ((Value.slice A' (i + (n - (i + 1))) c')).ownBlock = some k → w.heap.size ≤ k := by
        intro k he
        have h := (own_ty HW.out _ he).1
        simp at h
        omega
      refine bodyPost_ret (v := p.val) (by simp [results, Try.results19, go_sem, hc, hz, Pk.val]) rfl ⟨rfl, ⟨_, net1, hfresh⟩, fr1⟩
end Go.Proofs.Ytoeenaionamhiaa
