/- CSV: the example; the walk of CsvCells. -/
import Derived.Test.YthgeajmggbakbaaDoorCsvI
set_option linter.unusedSimpArgs false
set_option linter.unusedVariables false
namespace Go.Proofs.YthgeajmggbakbaaDoor
open Go.RowKit

set_option maxRecDepth 100000 in
set_option maxHeartbeats 2000000 in
theorem awake_any (w : World) (hsh : w.ShapedOpen Tryd.prog) :
    Calls Tryd.prog 7 #[] w fun e w' => e = .returned (.bool true) ∧ Below w.heap.size w w' := by
  have hb : Below w.heap.size w (w.alloc (.cells #[.string ⟨#[97, 44, 98]⟩, .string ⟨#[99]⟩] 9)) := by (repeat' (first | (with_reducible exact Below.refl _ _) | (with_reducible assumption) | (with_reducible refine Below.alloc ?_ ?_ _) | (with_reducible refine bel_drewN ?_ _) | (with_reducible refine Below.drew ?_) | (with_reducible refine Below.setCell ?_ ?_ _) | (with_reducible refine bel_call ‹_› ?_ ?_) | go_size))
  have hR : RdG bsE 1 (w.alloc (.cells #[.string ⟨#[97, 44, 98]⟩, .string ⟨#[99]⟩] 9)) (some ⟨w.heap.size, 0, none⟩) 2 [[97, 44, 98], [99]] := by
    refine ⟨rfl, .inr ⟨w.heap.size, 0, rfl, by simp, ?_⟩⟩
    intro j x hx k u hu
    match j, k, hx, hu with
    | 0, 0, hx, hu => cases hx; cases hu; simp
    | 1, 0, hx, hu => cases hx; cases hu; simp
    | 0, k + 1, hx, hu => cases hx; cases hu
    | 1, k + 1, hx, hu => cases hx; cases hu
    | j + 2, k, hx, hu => cases hx
  have H := Lib.hid (row_any _ 2 2 _ _ (shaped_below hsh hb) hR (by omega) (by omega) (by decide))
  have HV : Hid ((⟨(rowL [[97, 44, 98], [99]]).toArray⟩ : ByteArray) = ⟨#[34, 97, 44, 98, 34, 44, 99]⟩) := by unfold Hid; decide
  rw [HV.out] at H
  clear hR HV
  go_enter Tryd.func7, Tryd.ntmps7
  go_wp2_with fail
  refine H.out.mono ?_
  rintro e w1 ⟨rfl, hb1⟩
  go_wp2_with fail
  go_ret
  exact ⟨rfl, bel_call hb1 hb hb.size⟩

theorem light_one (p : Option Addr) (n cap : Nat) (R : List Bs) (w : World) (hr : RdG bsE 1 w p n R) (hcap : n ≤ cap) (hn : n ≤ 9223372036854775807) (b : Nat) (hb : b = w.heap.size) :
    Calls Tryd.prog 6 #[.slice (some ⟨b, 0, none⟩) 1 1] (w.alloc (.cells #[.slice p n cap] 22)) fun e w' => (∃ L, e = .returned (.bool L) ∧ (L = true → n ≤ 20)) ∧ w' = w.alloc (.cells #[.slice p n cap] 22) := by
  subst hb
  refine (light_any _ 1 1 [⟨p, n, cap, R⟩] _ ⟨⟨rfl, .inr ⟨w.heap.size, 0, rfl, by simp, ?_⟩⟩, ?_⟩ (by omega)).mono fun e w' h => ⟨⟨_, h.1, fun h' => (light_yes h').2 _ (List.mem_singleton.2 rfl)⟩, h.2.symm⟩
  · intro j x hx k u hu
    match j, k, hx, hu with
    | 0, 0, hx, hu => cases hx; cases hu; simp
    | 0, k + 1, hx, hu => cases hx; cases hu
    | j + 1, k, hx, hu => cases hx
  · intro r hr'
    rw [List.mem_singleton] at hr'
    subst hr'
    exact ⟨hr.below (by (repeat' (first | (with_reducible exact Below.refl _ _) | (with_reducible assumption) | (with_reducible refine Below.alloc ?_ ?_ _) | (with_reducible refine bel_drewN ?_ _) | (with_reducible refine Below.drew ?_) | (with_reducible refine Below.setCell ?_ ?_ _) | (with_reducible refine bel_call ‹_› ?_ ?_) | go_size))), hcap, hn⟩

set_option maxRecDepth 100000 in
set_option maxHeartbeats 2000000 in
theorem cells_walk (s : ByteArray) (p : Option Addr) (n cap : Nat) (R : List Bs) (w : World) (hsh : w.ShapedOpen Tryd.prog) (hr : RdG bsE 1 w p n R) (hcap : n ≤ cap) (hn : n ≤ 9223372036854775807) (hsz : szR R ≤ 1100000) :
    Calls Tryd.prog 3 #[.string s, .slice p n cap] w fun e w' => e = .returned (.bool true) ∧ Below w.heap.size w w' := by
  have HA : Hid (∀ W, Below w.heap.size w W → Calls Tryd.prog 7 #[] W fun e w' => e = .returned (.bool true) ∧ Below W.heap.size W w') := fun W h => awake_any W (shaped_below hsh h)
  by_cases h2 : s.size ≤ 2000
  · have h2i : ¬ (2000 : Int) < (s.size : Int) := by omega
    have HL := Lib.hid (light_one p n cap R w hr hcap hn w.heap.size rfl)
    have HC := Lib.hid (fun W (h : Below w.heap.size w W) => cell_any s (by omega) W (shaped_below hsh h))
    have HRC := Lib.hid (fun W => rcell_any s (by omega) W)
    have HR := Lib.hid (fun (h20 : n ≤ 20) W (h : Below w.heap.size w W) => row_any p n cap R W (shaped_below hsh h) (hr.below h) hcap (by omega) hsz)
    have HRR := Lib.hid (fun (h20 : n ≤ 20) W (h : Below w.heap.size w W) => rrow_any p n cap R W (hr.below h) hcap (by omega) hsz)
    generalize (⟨(cellL s.data.toList).toArray⟩ : ByteArray) = C at HC HRC
    generalize (⟨(rowL R).toArray⟩ : ByteArray) = T at HR HRR
    have hb0 : Below w.heap.size w (w.alloc (.cells #[.slice p n cap] 22)) := by (repeat' (first | (with_reducible exact Below.refl _ _) | (with_reducible assumption) | (with_reducible refine Below.alloc ?_ ?_ _) | (with_reducible refine bel_drewN ?_ _) | (with_reducible refine Below.drew ?_) | (with_reducible refine Below.setCell ?_ ?_ _) | (with_reducible refine bel_call ‹_› ?_ ?_) | go_size))
    have HA1 := Lib.hid (HA.out _ hb0)
    have HB0 := Lib.hid hb0
    clear hr hb0
    go_enter Tryd.func3, Tryd.ntmps3
    go_wp2_with fail
    refine HL.out.mono ?_
    rintro e w1 ⟨⟨L, rfl, hL⟩, rfl⟩
    cases L
    · go_wp2_with fail
      refine HA1.out.mono ?_
      rintro e w2 ⟨rfl, hb2⟩
      go_wp2_with fail
      go_ret
      exact ⟨rfl, bel_call hb2 HB0.out HB0.out.size⟩
    · have h20 := hL rfl
      have HR2 := Lib.hid (HR.out h20)
      have HRR2 := Lib.hid (HRR.out h20)
      clear hL HL HR HRR
      generalize (w.alloc (.cells #[.slice p n cap] 22)) = w0 at HB0 HA1 ⊢
      go_wp2_with fail
      refine (HC.out w0 HB0.out).mono ?_
      rintro e w1 ⟨rfl, hb1⟩
      have HB1 : Hid (Below w.heap.size w w1) := bel_call hb1 HB0.out HB0.out.size
      clear hb1
      go_wp2_with fail
      refine (HRC.out w1).mono ?_
      rintro e w2 ⟨rfl, rfl⟩
      go_wp2_with fail
      refine (HR2.out w1 HB1.out).mono ?_
      rintro e w2 ⟨rfl, hb2⟩
      have HB2 : Hid (Below w.heap.size w w2) := bel_call hb2 HB1.out HB1.out.size
      clear hb2
      go_wp2_with fail
      refine (HRR2.out w2 HB2.out).mono ?_
      rintro e w3 ⟨rfl, rfl⟩
      go_wp2_with fail
      refine (HA.out w2 HB2.out).mono ?_
      rintro e w3 ⟨rfl, hb3⟩
      go_wp2_with fail
      go_ret
      exact ⟨rfl, bel_call hb3 HB2.out HB2.out.size⟩
  · have h2i : (2000 : Int) < (s.size : Int) := by omega
    go_enter Tryd.func3, Tryd.ntmps3
    go_wp2_with fail
    refine (HA.out w (Below.refl _ _)).mono ?_
    rintro e w2 ⟨rfl, hb2⟩
    go_wp2_with fail
    go_ret
    exact ⟨rfl, hb2⟩
end Go.Proofs.YthgeajmggbakbaaDoor
