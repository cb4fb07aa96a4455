/- Shift: the law's example: same, Fill, awake. Printed by gen_shk.py. Shift: the law's example. The walk of ShiftCells. Printed by gen_shn.py. The walk of ShiftFormulas. Printed by gen_sho.py. -/
import Derived.Test.YtbdgdhjhgcpidaaGreatDoorSfAb
import Derived.Maps.AppendAt
import Derived.Test.YtbdgdhjhgcpidaaGreatDoorSfW
import Derived.Test.YtbdgdhjhgcpidaaGreatDoorSfZ
import Derived.Test.YtbdgdhjhgcpidaaGreatDoorSfY
import Derived.Test.YtbdgdhjhgcpidaaGreatDoorSfAk
set_option linter.unusedSimpArgs false
set_option linter.unusedVariables false
namespace Go.Proofs.YtbdgdhjhgcpidaaGreatDoor
open Go.RowKit Go.Joins
def SRow (w : World) (x : Nat) (E : List ByteArray) : Prop := ∀ j s, E[j]? = some s → w.cell? ⟨x, j, none⟩ = some (.string s)
theorem SRow.below {w w' : World} {x : Nat} {E : List ByteArray} (h : SRow w x E) (hx : x < w.heap.size) (hb : Below w.heap.size w w') : SRow w' x E := fun j s hj => (hb.cell (p := ⟨x, j, none⟩) hx).trans (h j s hj)
theorem info_st : (Tryz.prog.info? 9).map (fun i => (i.zero, i.size, i.bytes)) = some (some (.string ⟨#[]⟩), 1, 16) := by kernel_rfl
set_option maxRecDepth 100000 in
set_option maxHeartbeats 8000000 in
theorem same34 (x y n c1 c2 : Nat) (E : List ByteArray) (hn : E.length = n) (hs : n ≤ 100) (w : World) (hA : SRow w x E) (hB : SRow w y E) :
    Calls Tryz.prog 19 #[.slice (some ⟨x, 0, none⟩) n c1, .slice (some ⟨y, 0, none⟩) n c2] w fun e w' => e = .returned (.bool true) ∧ Below w.heap.size w w' := by
  have A6 := Lib.hid hA
  have B6 := Lib.hid hB
  have HN := Lib.hid hn
  clear hA hB hn
  go_enter Tryz.func19, Tryz.ntmps19
  go_wp2_with fail
  go_loopw [5] (fun i wr => ∃ k : Nat, i = .int .i64 k ∧ k ≤ n ∧ ∃ m, wr = w.drewN m) (fun i _ => n - (intOf i).toNat)
  case atStart => exact ⟨0, rfl, by omega, 0, rfl⟩
  case round =>
    obtain ⟨k, rfl, hk, m, rfl⟩ := hrel
    rcases Nat.lt_or_ge k n with hlt | hge
    · obtain ⟨s, hs1⟩ : ∃ s, E[k]? = some s := ⟨_, List.getElem?_eq_getElem (by rw [HN.out]; exact hlt)⟩
      have f1 := A6.out k s hs1
      have g1 := B6.out k s hs1
      have hklt : (k : Int) < (n : Int) := by omega
      have e2 : (s.toList != s.toList) = false := by simp
      clear hs1
      go_wp2_with fail
      go_quiet (fail)
      go_wp2_with fail
      go_roundw
      case rel => exact ⟨k + 1, by go_num, by omega, _, rfl⟩
      case measure => simp [intOf]; omega
    · have hklt : ¬ (k : Int) < (n : Int) := by omega
      go_wp2_with fail
      go_ret
      exact ⟨rfl, by (repeat' (first | (with_reducible exact Below.refl _ _) | (with_reducible assumption) | (with_reducible refine Below.alloc ?_ ?_ _) | (with_reducible refine bel_drewN ?_ _) | (with_reducible refine Below.drew ?_) | (with_reducible refine Below.setCell ?_ ?_ _) | (with_reducible refine bel_call ‹_› ?_ ?_) | go_size))⟩
set_option maxRecDepth 100000 in
set_option maxHeartbeats 8000000 in
theorem fill_any (g m c n : Nat) (last : ByteArray) (by_ : Int) (E T : List ByteArray) (hm1 : 1 ≤ m) (hm2 : m ≤ 2) (hn : E.length = n) (hTl : T.length = n) (hn1 : 1 ≤ n) (hn3 : n ≤ 3) (hp : Bool) (w : World) (hlast : w.cell? ⟨g, m - 1, none⟩ = some (.string last))
    (HPE : ∀ W, Calls Tryz.prog 28 #[.string last, .string ⟨#[61]⟩] W fun e w' => e = .returned (.bool hp) ∧ w' = W)
    (HS : ∀ W, Below w.heap.size w W → Calls Tryz.prog 26 #[.slice (some ⟨g, 0, none⟩) m c] W fun e w' => e = .returned (.int .i64 by_) ∧ Below W.heap.size W w')
    (HT : ∀ (W : World) (k : Nat) (t : ByteArray), Below w.heap.size w W → T[k]? = some t → Calls Tryz.prog 27 #[.agg #[.int .i64 0, .int .i64 ((k : Int) + 1)], .string last] W fun e w' => e = .returned (.tuple #[.string t, .int .i64 0]) ∧ Below W.heap.size W w')
    (HP : hp = false → ∀ (W : World) (k : Nat) (s : ByteArray), Below w.heap.size w W → E[k]? = some s → Calls Tryz.prog 29 #[.string last, .int .i64 by_, .int .i64 ((k : Int) + 1)] W fun e w' => e = .returned (.tuple #[.string s, .int .i64 0]) ∧ Below W.heap.size W w')
    (HE : hp = true → T = E) :
    Calls Tryz.prog 18 #[.slice (some ⟨g, 0, none⟩) m c, .int .i64 n, .bool false] w fun e w' => (∃ x cap, e = .returned (.tuple #[.slice (some ⟨x, 0, none⟩) n cap, .int .i64 0]) ∧ x < w'.heap.size ∧ SRow w' x E) ∧ Below w.heap.size w w' := by
  have HS1 := Lib.hid HS
  have HT1 := Lib.hid HT
  have HP1 := Lib.hid HP
  have HE1 := Lib.hid HE
  have HPE1 := Lib.hid HPE
  have HN := Lib.hid hn
  have HTL := Lib.hid hTl
  have hg : g < w.heap.size := lt_of_cell hlast
  obtain ⟨i0, hi, hz0, hz1, hz2⟩ := info_of info_st
  have f1 : IntKind.i64.wrap ((m : Int) - 1) = ((m - 1 : Nat) : Int) := by rw [show (m : Int) - 1 = ((m - 1 : Nat) : Int) from by omega]; exact IntWalk.i64_in _ (by omega)
  have hml : ((m - 1 : Nat) : Int) < (m : Int) := by omega
  have hml2 : m - 1 < m := by omega
  have hm0 : ((m : Int) == 0) = false := by simp; omega
  have hm00 : (m == 0) = false := by simp; omega
  have hn0 : ¬ (n : Int) < 0 := by omega
  have hn64 : ¬ (64 : Int) < (n : Int) := by omega
  clear HS HT HP HE HPE hn hTl
  go_enter Tryz.func18, Tryz.ntmps18
  go_wp2_with fail
  refine (HS1.out w (Below.refl _ _)).mono ?_
  rintro e w1 ⟨rfl, hb1⟩
  have hl1 : w1.cell? ⟨g, m - 1, none⟩ = some (.string last) := (hb1.cell (p := ⟨g, m - 1, none⟩) hg).trans hlast
  have HB1 := Lib.hid hb1
  clear hb1 hlast HS1
  go_wp2_with fail
  clear hl1 f1 hml hml2 hm0 hm00 hn0 hn64 hg
  go_loopg [10, 35] n (fun g v10 v35 wr => ∃ k : Nat, v35 = .int .i64 k ∧ k + g = n ∧ wr.ownsRow w.heap.size 9 1 v10 k ((E.map Value.string).take k) ∧ Below w.heap.size w wr)
  case atStart => exact ⟨0, rfl, by omega, World.ownsRow_nil _ _ _ _, HB1.out⟩
  case round =>
    obtain ⟨k, rfl, hkg, hown, hbel⟩ := hrel
    have HOW := Lib.hid hown
    have HBL := Lib.hid hbel
    have hzr := hbel.size
    clear hown hbel HB1
    by_cases hk : k < n
    · have hki : (k : Int) < (n : Int) := by omega
      obtain ⟨t, ht⟩ : ∃ t, T[k]? = some t := ⟨_, List.getElem?_eq_getElem (by rw [HTL.out]; exact hk)⟩
      obtain ⟨s, hs⟩ : ∃ s, E[k]? = some s := ⟨_, List.getElem?_eq_getElem (by rw [HN.out]; exact hk)⟩
      have f2 : IntKind.i64.wrap ((k : Int) + 1) = (k : Int) + 1 := IntWalk.i64_in _ (by omega)
      have HT2 := Lib.hid (fun W hW => HT1.out W k t hW ht)
      have HP2 := Lib.hid (fun h W hW => HP1.out h W k s hW hs)
      have HTS := Lib.hid (fun h => (show t = s from by have := HE1.out h; rw [this] at ht; rw [ht] at hs; exact Option.some.inj hs))
      have HES := Lib.hid (show (E.map Value.string).take (k + 1) = (E.map Value.string).take k ++ [.string s] from by rw [List.take_add_one, List.getElem?_map, hs]; rfl)
      clear ht hs
      go_upto_region 12 with fail
      have hm8 : Hid (BlkC (wr.alloc (.cells #[.int .i64 0, .int .i64 ((k : Int) + 1)] 25)) wr.heap.size #[.int .i64 0, .int .i64 ((k : Int) + 1)] 25) := heap_alloc_new wr _
      have hb2 : Below wr.heap.size wr (wr.alloc (.cells #[.int .i64 0, .int .i64 ((k : Int) + 1)] 25)) := (Below.refl _ _).alloc (Nat.le_refl _) _
      have HOW2 := Lib.hid (row_below HOW.out hb2)
      have HB2 : Hid (Below w.heap.size w (wr.alloc (.cells #[.int .i64 0, .int .i64 ((k : Int) + 1)] 25))) := bel_call hb2 HBL.out hzr
      clear hb2 HOW HBL
      generalize wr.alloc (.cells #[.int .i64 0, .int .i64 ((k : Int) + 1)] 25) = w2 at hm8 HOW2 HB2 ⊢
      generalize wr.heap.size = gm at hm8 hzr ⊢
      have m0 := hm8.out.cell 0 _ rfl
      have m1 := hm8.out.cell 1 _ rfl
      have HT3 := Lib.hid (HT2.out w2 HB2.out)
      clear HT2 hm8
      go_wp2_with fail
      refine HT3.out.mono ?_
      rintro e w3 ⟨rfl, hb3⟩
      have HOW3 := Lib.hid (row_below HOW2.out hb3)
      have HB3 : Hid (Below w.heap.size w w3) := bel_call hb3 HB2.out HB2.out.size
      clear hb3 HT3 HOW2 HB2 m0 m1
      go_wp2_with fail
      refine (HPE1.out w3).mono ?_
      rintro e w4 ⟨rfl, hw⟩
      rw [hw]
      clear hw
      cases hp with
      | true =>
        obtain rfl := HTS.out rfl
        clear HTS HP2 HP1 HT1 HE1 HPE1
        go_wp2_with (at_builtin; refine wpList_append_own _ rfl _ _ _ rfl w.heap.size 9 i0 (.string ⟨#[]⟩) 1 16 Tryz.underlying49 hi hz0 hz1 hz2 rfl (by decide) _ _ _ rfl (HOW3.out.alloc _) ⟨w3.heap.size, 0, none⟩ 1 1 [.string t] rfl rfl ?c1 ?c2 ?c3 ?c4 ?c5 ?_)
        case c1 => exact cell_one_new _ _ _
        case c2 => intro u hu; obtain rfl := List.mem_singleton.1 hu; rfl
        case c3 => unfold maxLen; omega
        case c4 => omega
        case c5 => rw [World.size_alloc]; have := HB3.out.size; omega
        intro v' w7 hown7 hgrow7 _
        have HOW7 : Hid (w7.ownsRow w.heap.size 9 1 v' (k + 1) ((E.map Value.string).take (k + 1))) := by
          unfold Hid
          rw [HES.out]
          exact hown7
        have HB7 : Hid (Below w.heap.size w w7) := (HB3.out.alloc HB3.out.size _).grown hgrow7 (by rw [World.size_alloc]; have := HB3.out.size; omega) (fun k' hk' => (HOW3.out.lt k' hk').1)
        clear hown7 hgrow7
        go_wp2_with fail
        go_roundg (gk - 1)
        case measure => omega
        case rel => exact ⟨k + 1, by go_num, by omega, HOW7.out, HB7.out⟩
      | false =>
        have HP3 := Lib.hid (HP2.out rfl w3 HB3.out)
        clear HTS HP2 HP1 HT1 HE1 HPE1
        go_wp2_with fail
        refine HP3.out.mono ?_
        rintro e w5 ⟨rfl, hb5⟩
        have HOW5 := Lib.hid (row_below HOW3.out hb5)
        have HB5 : Hid (Below w.heap.size w w5) := bel_call hb5 HB3.out HB3.out.size
        clear hb5 HP3 HOW3 HB3
        go_wp2_with (at_builtin; refine wpList_append_own _ rfl _ _ _ rfl w.heap.size 9 i0 (.string ⟨#[]⟩) 1 16 Tryz.underlying49 hi hz0 hz1 hz2 rfl (by decide) _ _ _ rfl (HOW5.out.alloc _) ⟨w5.heap.size, 0, none⟩ 1 1 [.string s] rfl rfl ?c1 ?c2 ?c3 ?c4 ?c5 ?_)
        case c1 => exact cell_one_new _ _ _
        case c2 => intro u hu; obtain rfl := List.mem_singleton.1 hu; rfl
        case c3 => unfold maxLen; omega
        case c4 => omega
        case c5 => rw [World.size_alloc]; have := HB5.out.size; omega
        intro v' w7 hown7 hgrow7 _
        have HOW7 : Hid (w7.ownsRow w.heap.size 9 1 v' (k + 1) ((E.map Value.string).take (k + 1))) := by
          unfold Hid
          rw [HES.out]
          exact hown7
        have HB7 : Hid (Below w.heap.size w w7) := (HB5.out.alloc HB5.out.size _).grown hgrow7 (by rw [World.size_alloc]; have := HB5.out.size; omega) (fun k' hk' => (HOW5.out.lt k' hk').1)
        clear hown7 hgrow7
        go_wp2_with fail
        go_roundg (gk - 1)
        case measure => omega
        case rel => exact ⟨k + 1, by go_num, by omega, HOW7.out, HB7.out⟩
    · obtain rfl : k = n := by omega
      have hki : ¬ (k : Int) < (k : Int) := by omega
      have hE : (E.map Value.string).take k = E.map Value.string := by rw [List.take_of_length_le (by rw [List.length_map, HN.out]; exact Nat.le_refl _)]
      rcases HOW.out.2 with ⟨_, h0⟩ | ⟨x, cap, cur, hv, hx1, hx2, _, _, _, _⟩
      · omega
      · subst hv
        have HR := Lib.hid (show SRow wr x E from fun j s hj => by
          have h := World.ownsRow.cells (g := x) HOW.out rfl j (.string s) (by rw [hE, List.getElem?_map, hj]; rfl)
          rw [Addr.add_mid, Nat.zero_add] at h
          exact h)
        have hxl := (HOW.out.lt x rfl).2
        go_wp2_with fail
        go_ret2
        exact ⟨⟨x, ⟨cap, rfl⟩, hxl, HR.out⟩, HBL.out⟩
abbrev eQ8 : ByteArray := ⟨#[81, 48, 56]⟩
abbrev eQ9 : ByteArray := ⟨#[81, 48, 57]⟩
theorem fill_num (g c : Nat) (w : World) (h0 : w.cell? ⟨g, 0, none⟩ = some (.string s1)) (h1 : w.cell? ⟨g, 1, none⟩ = some (.string s3)) (hsh : w.ShapedOpen Tryz.prog) :
    Calls Tryz.prog 18 #[.slice (some ⟨g, 0, none⟩) 2 c, .int .i64 3, .bool false] w fun e w' => (∃ x cap, e = .returned (.tuple #[.slice (some ⟨x, 0, none⟩) 3 cap, .int .i64 0]) ∧ x < w'.heap.size ∧ SRow w' x [⟨#[53]⟩, ⟨#[55]⟩, ⟨#[57]⟩]) ∧ Below w.heap.size w w' :=
  fill_any g 2 c 3 s3 2000000 [⟨#[53]⟩, ⟨#[55]⟩, ⟨#[57]⟩] [s3, s3, s3] (by omega) (by omega) rfl rfl (by omega) (by omega) false w h1
    (fun W => by have := Tryz.strings_HasPrefix s3 ⟨#[61]⟩ W; rwa [show Lib.hasPrefix s3.data.toList (⟨#[61]⟩ : ByteArray).data.toList = false from by decide +kernel] at this)
    (fun W hW => steps_two g c W ((hW.cell (p := ⟨g, 0, none⟩) (lt_of_cell h0)).trans h0) ((hW.cell (p := ⟨g, 1, none⟩) (lt_of_cell h0)).trans h1) (shaped_bl hsh hW))
    (fun W k t hW ht => by
      have e : t = s3 := by
        match k, ht with
        | 0, ht => exact (Option.some.inj ht).symm
        | 1, ht => exact (Option.some.inj ht).symm
        | 2, ht => exact (Option.some.inj ht).symm
        | k + 3, ht => simp at ht
      subst e
      exact typed_plain s3 (by decide +kernel) 0 _ W)
    (fun _ W k s hW hs => by
      match k, hs with
      | 0, hs => obtain rfl := (Option.some.inj hs).symm; exact step_3 1 (by omega) (by omega) W (shaped_bl hsh hW)
      | 1, hs => obtain rfl := (Option.some.inj hs).symm; exact step_3 2 (by omega) (by omega) W (shaped_bl hsh hW)
      | 2, hs => obtain rfl := (Option.some.inj hs).symm; exact step_3 3 (by omega) (by omega) W (shaped_bl hsh hW)
      | k + 3, hs => simp at hs)
    (fun h => by cases h)
theorem fill_txt (g c : Nat) (w : World) (h0 : w.cell? ⟨g, 0, none⟩ = some (.string q07)) (hsh : w.ShapedOpen Tryz.prog) :
    Calls Tryz.prog 18 #[.slice (some ⟨g, 0, none⟩) 1 c, .int .i64 2, .bool false] w fun e w' => (∃ x cap, e = .returned (.tuple #[.slice (some ⟨x, 0, none⟩) 2 cap, .int .i64 0]) ∧ x < w'.heap.size ∧ SRow w' x [eQ8, eQ9]) ∧ Below w.heap.size w w' :=
  fill_any g 1 c 2 q07 1000000 [eQ8, eQ9] [q07, q07] (by omega) (by omega) rfl rfl (by omega) (by omega) false w h0
    (fun W => by have := Tryz.strings_HasPrefix q07 ⟨#[61]⟩ W; rwa [show Lib.hasPrefix q07.data.toList (⟨#[61]⟩ : ByteArray).data.toList = false from by decide +kernel] at this)
    (fun W hW => steps_one _ c W)
    (fun W k t hW ht => by
      have e : t = q07 := by
        match k, ht with
        | 0, ht => exact (Option.some.inj ht).symm
        | 1, ht => exact (Option.some.inj ht).symm
        | k + 2, ht => simp at ht
      subst e
      exact typed_plain q07 (by decide +kernel) 0 _ W)
    (fun _ W k s hW hs => by
      match k, hs with
      | 0, hs => obtain rfl := (Option.some.inj hs).symm; exact step_q 1000000 1 (by omega) (by omega) W (shaped_bl hsh hW)
      | 1, hs => obtain rfl := (Option.some.inj hs).symm; exact step_q 1000000 2 (by omega) (by omega) W (shaped_bl hsh hW)
      | k + 2, hs => simp at hs)
    (fun h => by cases h)
theorem fill_for (g c : Nat) (w : World) (h0 : w.cell? ⟨g, 0, none⟩ = some (.string eA1)) (hsh : w.ShapedOpen Tryz.prog) :
    Calls Tryz.prog 18 #[.slice (some ⟨g, 0, none⟩) 1 c, .int .i64 1, .bool false] w fun e w' => (∃ x cap, e = .returned (.tuple #[.slice (some ⟨x, 0, none⟩) 1 cap, .int .i64 0]) ∧ x < w'.heap.size ∧ SRow w' x [eA2]) ∧ Below w.heap.size w w' :=
  fill_any g 1 c 1 eA1 1000000 [eA2] [eA2] (by omega) (by omega) rfl rfl (by omega) (by omega) true w h0
    (fun W => by have := Tryz.strings_HasPrefix eA1 ⟨#[61]⟩ W; rwa [show Lib.hasPrefix eA1.data.toList (⟨#[61]⟩ : ByteArray).data.toList = true from by decide +kernel] at this)
    (fun W hW => steps_one _ c W)
    (fun W k t hW ht => by
      match k, ht with
      | 0, ht => obtain rfl := (Option.some.inj ht).symm; exact typed_ref W (shaped_bl hsh hW)
      | k + 1, ht => simp at ht)
    (fun h => by cases h)
    (fun _ => rfl)
end Go.Proofs.YtbdgdhjhgcpidaaGreatDoor
namespace Go.Proofs.YtbdgdhjhgcpidaaGreatDoor
open Go.RowKit Go.Joins
theorem srow_new (w : World) (E : List ByteArray) : SRow (w.alloc (.cells (E.map Value.string).toArray 9)) w.heap.size E := fun j s hj => by
  have hb : BlkC (w.alloc (.cells (E.map Value.string).toArray 9)) w.heap.size (E.map Value.string).toArray 9 := heap_alloc_new w _
  rw [cell_of_block hb]
  simp [hj]
set_option maxRecDepth 100000 in
set_option maxHeartbeats 8000000 in
theorem sawake_any (w : World) (hsh : w.ShapedOpen Tryz.prog) : Calls Tryz.prog 6 #[] w fun e w' => e = .returned (.bool true) ∧ Below w.heap.size w w' := by
  have HSH := Lib.hid (fun W (hW : Below w.heap.size w W) => shaped_bl hsh hW)
  have HF1 := Lib.hid (fun g c W (hW : Below w.heap.size w W) h0 h1 => fill_num g c W h0 h1 (HSH.out W hW))
  have HF2 := Lib.hid (fun g c W (hW : Below w.heap.size w W) h0 => fill_txt g c W h0 (HSH.out W hW))
  have HF3 := Lib.hid (fun g c W (hW : Below w.heap.size w W) h0 => fill_for g c W h0 (HSH.out W hW))
  have HSM := Lib.hid (fun x y n c1 c2 E hn hs W hA hB => same34 x y n c1 c2 E hn hs W hA hB)
  clear hsh
  have hR0 := Lib.hid (srow_new w [s1, s3])
  have hB0 : Hid (Below w.heap.size w (w.alloc (.cells ([s1, s3].map Value.string).toArray 9))) := by unfold Hid; (repeat' (first | (with_reducible exact Below.refl _ _) | (with_reducible assumption) | (with_reducible refine Below.alloc ?_ ?_ _) | (with_reducible refine bel_drewN ?_ _) | (with_reducible refine Below.drew ?_) | (with_reducible refine Below.setCell ?_ ?_ _) | (with_reducible refine bel_call ‹_› ?_ ?_) | go_size))
  go_enter Tryz.func6, Tryz.ntmps6
  have HX1 := Lib.hid (HF1.out w.heap.size 2 _ hB0.out (hR0.out 0 s1 rfl) (hR0.out 1 s3 rfl))
  clear HF1
  go_wp2_with fail
  refine HX1.out.mono ?_
  rintro e w1 ⟨⟨x1, k1, rfl, hx1, hr1⟩, hb1⟩
  have HR1 := Lib.hid hr1
  have HB1 : Hid (Below w.heap.size w w1) := bel_call hb1 hB0.out hB0.out.size
  clear hr1 hb1 hB0 hR0 HX1
  have hR0 := Lib.hid (srow_new w1 [q07])
  have hb0 : Below w1.heap.size w1 (w1.alloc (.cells ([q07].map Value.string).toArray 9)) := (Below.refl _ _).alloc (Nat.le_refl _) _
  have hB0 : Hid (Below w.heap.size w (w1.alloc (.cells ([q07].map Value.string).toArray 9))) := bel_call hb0 HB1.out HB1.out.size
  have HX2 := Lib.hid (HF2.out w1.heap.size 1 _ hB0.out (hR0.out 0 q07 rfl))
  clear HF2
  go_wp2_with fail
  refine HX2.out.mono ?_
  rintro e w2 ⟨⟨x2, k2, rfl, hx2, hr2⟩, hb2⟩
  have HR2 := Lib.hid hr2
  have HB2 : Hid (Below w.heap.size w w2) := bel_call hb2 hB0.out hB0.out.size
  have hb12 : Below w1.heap.size w1 w2 := bel_call hb2 hb0 hb0.size
  have HR12 := Lib.hid (HR1.out.below hx1 hb12)
  have hx12 : x1 < w2.heap.size := Nat.lt_of_lt_of_le hx1 hb12.size
  clear hr2 hb2 hb0 hb12 hB0 hR0 HX2 HR1 HB1
  have hR0 := Lib.hid (srow_new w2 [eA1])
  have hb0 : Below w2.heap.size w2 (w2.alloc (.cells ([eA1].map Value.string).toArray 9)) := (Below.refl _ _).alloc (Nat.le_refl _) _
  have hB0 : Hid (Below w.heap.size w (w2.alloc (.cells ([eA1].map Value.string).toArray 9))) := bel_call hb0 HB2.out HB2.out.size
  have HX3 := Lib.hid (HF3.out w2.heap.size 1 _ hB0.out (hR0.out 0 eA1 rfl))
  clear HF3
  go_wp2_with fail
  refine HX3.out.mono ?_
  rintro e w3 ⟨⟨x3, k3, rfl, hx3, hr3⟩, hb3⟩
  have HR3 := Lib.hid hr3
  have HB3 : Hid (Below w.heap.size w w3) := bel_call hb3 hB0.out hB0.out.size
  have hb23 : Below w2.heap.size w2 w3 := bel_call hb3 hb0 hb0.size
  have HR13 := Lib.hid (HR12.out.below hx12 hb23)
  have HR23 := Lib.hid (HR2.out.below hx2 hb23)
  have hx13 : x1 < w3.heap.size := Nat.lt_of_lt_of_le hx12 hb23.size
  have hx23 : x2 < w3.heap.size := Nat.lt_of_lt_of_le hx2 hb23.size
  clear hr3 hb3 hb0 hb23 hB0 hR0 HX3 HR12 HR2 HB2
  have ha : Below w3.heap.size w3 (w3.alloc (.cells ([⟨#[53]⟩, ⟨#[55]⟩, ⟨#[57]⟩].map Value.string).toArray 9)) := (Below.refl _ _).alloc (Nat.le_refl _) _
  have HY1 := Lib.hid (HSM.out x1 w3.heap.size 3 k1 3 [⟨#[53]⟩, ⟨#[55]⟩, ⟨#[57]⟩] rfl (by omega) _ (HR13.out.below hx13 ha) (srow_new w3 [⟨#[53]⟩, ⟨#[55]⟩, ⟨#[57]⟩]))
  go_wp2_with fail
  refine HY1.out.mono ?_
  rintro e w4 ⟨rfl, hb4⟩
  have hb34 : Below w3.heap.size w3 w4 := bel_call hb4 ha ha.size
  have HB4 : Hid (Below w.heap.size w w4) := bel_call hb34 HB3.out HB3.out.size
  have HR24 := Lib.hid (HR23.out.below hx23 hb34)
  have HR34 := Lib.hid (HR3.out.below hx3 hb34)
  have hx24 : x2 < w4.heap.size := Nat.lt_of_lt_of_le hx23 hb34.size
  have hx34 : x3 < w4.heap.size := Nat.lt_of_lt_of_le hx3 hb34.size
  clear hb4 hb34 ha HY1 HR13 HR23 HR3 HB3
  have ha : Below w4.heap.size w4 (w4.alloc (.cells ([eQ8, eQ9].map Value.string).toArray 9)) := (Below.refl _ _).alloc (Nat.le_refl _) _
  have HY2 := Lib.hid (HSM.out x2 w4.heap.size 2 k2 2 [eQ8, eQ9] rfl (by omega) _ (HR24.out.below hx24 ha) (srow_new w4 [eQ8, eQ9]))
  go_wp2_with fail
  refine HY2.out.mono ?_
  rintro e w5 ⟨rfl, hb5⟩
  have hb45 : Below w4.heap.size w4 w5 := bel_call hb5 ha ha.size
  have HB5 : Hid (Below w.heap.size w w5) := bel_call hb45 HB4.out HB4.out.size
  have HR35 := Lib.hid (HR34.out.below hx34 hb45)
  have hx35 : x3 < w5.heap.size := Nat.lt_of_lt_of_le hx34 hb45.size
  clear hb5 hb45 ha HY2 HR24 HR34 HB4
  have ha : Below w5.heap.size w5 (w5.alloc (.cells ([eA2].map Value.string).toArray 9)) := (Below.refl _ _).alloc (Nat.le_refl _) _
  have HY3 := Lib.hid (HSM.out x3 w5.heap.size 1 k3 1 [eA2] rfl (by omega) _ (HR35.out.below hx35 ha) (srow_new w5 [eA2]))
  go_wp2_with fail
  refine HY3.out.mono ?_
  rintro e w6 ⟨rfl, hb6⟩
  have hb56 : Below w5.heap.size w5 w6 := bel_call hb6 ha ha.size
  have HB6 : Hid (Below w.heap.size w w6) := bel_call hb56 HB5.out HB5.out.size
  clear hb6 hb56 ha
  go_wp2_with fail
  go_ret
  exact ⟨rfl, HB6.out⟩
end Go.Proofs.YtbdgdhjhgcpidaaGreatDoor
namespace Go.Proofs.YtbdgdhjhgcpidaaGreatDoor
open Go.RowKit Go.Joins
theorem two_hp (w : World) (a b : Obj) : ((w.alloc a).alloc b).heap[w.heap.size]? = some a ∧ ((w.alloc a).alloc b).heap[w.heap.size + 1]? = some b := by
  refine ⟨?_, ?_⟩ <;> simp only [World.alloc, Array.getElem?_push, Array.size_push] <;> (repeat (first | rfl | (rw [if_neg (by omega)]) | (rw [if_pos (by omega)])))
set_option maxRecDepth 100000 in
set_option maxHeartbeats 8000000 in
theorem back_any (a b : Int) (ha1 : -9223372036854775807 ≤ a) (ha2 : a ≤ 9223372036854775807) (hb1 : -9223372036854775807 ≤ b) (hb2 : b ≤ 9223372036854775807) (w : World) : Calls Tryz.prog 11 #[.agg #[.int .i64 a, .int .i64 b]] w fun e w' => e = .returned (.agg #[.int .i64 (-a), .int .i64 (-b)]) ∧ Below w.heap.size w w' := by
  have hh := Lib.hid (two_hp w (.cells #[.int .i64 a, .int .i64 b] 25) (.cells #[.int .i64 0, .int .i64 0] 25))
  have hAB : Hid (Below w.heap.size w ((w.alloc (.cells #[.int .i64 a, .int .i64 b] 25)).alloc (.cells #[.int .i64 0, .int .i64 0] 25))) := by unfold Hid; (repeat' (first | (with_reducible exact Below.refl _ _) | (with_reducible assumption) | (with_reducible refine Below.alloc ?_ ?_ _) | (with_reducible refine bel_drewN ?_ _) | (with_reducible refine Below.drew ?_) | (with_reducible refine Below.setCell ?_ ?_ _) | (with_reducible refine bel_call ‹_› ?_ ?_) | go_size))
  have f1 : IntKind.i64.wrap (-a) = -a := IntWalk.i64_in _ (by omega)
  have f2 : IntKind.i64.wrap (-b) = -b := IntWalk.i64_in _ (by omega)
  go_enter Tryz.func11, Tryz.ntmps11
  go_upto_region 1 with fail
  generalize (w.alloc (.cells #[.int .i64 a, .int .i64 b] 25)).alloc (.cells #[.int .i64 0, .int .i64 0] 25) = w0 at hh hAB ⊢
  have hA0 : Hid (BlkC w0 w.heap.size #[.int .i64 a, .int .i64 b] 25) := hh.out.1
  have hA1 : Hid (BlkC w0 (w.heap.size + 1) #[.int .i64 0, .int .i64 0] 25) := hh.out.2
  have m0 := hA0.out.cell 0 _ rfl
  have m1 := hA0.out.cell 1 _ rfl
  have z0 := hA1.out.cell 0 _ rfl
  have z1 := hA1.out.cell 1 _ rfl
  have y0 := hA1.out.fz 0
  have y1 := hA1.out.fz 1
  have hB := hAB.out
  have hsz : w.heap.size ≤ w.heap.size + 1 := by omega
  clear hh hA0 hA1 hAB
  go_wp2_with fail
  refine bodyPost_ret (v := .agg #[.int .i64 (-a), .int .i64 (-b)]) (by simp only [results, Tryz.results11]; go_simp) rfl ⟨rfl, by (repeat' (first | (with_reducible exact Below.refl _ _) | (with_reducible assumption) | (with_reducible refine Below.alloc ?_ ?_ _) | (with_reducible refine bel_drewN ?_ _) | (with_reducible refine Below.drew ?_) | (with_reducible refine Below.setCell ?_ ?_ _) | (with_reducible refine bel_call ‹_› ?_ ?_) | go_size))⟩
end Go.Proofs.YtbdgdhjhgcpidaaGreatDoor
namespace Go.Proofs.YtbdgdhjhgcpidaaGreatDoor
open Go.RowKit Go.Joins
theorem ndA_c8 (n : Nd) (p : Option Addr) (l c : Nat) : Value.agg (Cel.ndA n p l c) = .agg #[.int .i64 n.kind, .int .i64 n.num, .string ⟨n.text.toArray⟩, .int .i64 (cC n.frm), .int .i64 (cR n.frm), .int .i64 (cC n.tor), .int .i64 (cR n.tor), .slice p l c] := rfl
theorem ndA_c6 (n : Nd) (p : Option Addr) (l c : Nat) : Value.agg (ndA n p l c) = .agg #[.int .i64 n.kind, .int .i64 n.num, .string ⟨n.text.toArray⟩, .int .i64 n.frm, .int .i64 n.tor, .slice p l c] := rfl
set_option maxRecDepth 100000 in
set_option maxHeartbeats 16000000 in
theorem formulas_walk (s : ByteArray) (a b : Int) (ha1 : -9223372036854775808 ≤ a) (ha2 : a ≤ 9223372036854775807) (hb1 : -9223372036854775808 ≤ b) (hb2 : b ≤ 9223372036854775807) (w : World) (hsh : w.ShapedOpen Tryz.prog) :
    Calls Tryz.prog 4 #[.string s, .agg #[.int .i64 a, .int .i64 b]] w fun e w' => e = .returned (.bool true) ∧ Below w.heap.size w w' := by
  have HSH := Lib.hid (fun W (hW : Below w.heap.size w W) => shaped_bl hsh hW)
  have HAW := Lib.hid (fun W (hW : Below w.heap.size w W) => sawake_any W (HSH.out W hW))
  have HFM := Lib.hid (fun W => rformula_any s W)
  have hA0 : Hid (BlkC (w.alloc (.cells #[.int .i64 a, .int .i64 b] 25)) w.heap.size #[.int .i64 a, .int .i64 b] 25) := heap_alloc_new w _
  have hAB : Hid (Below w.heap.size w (w.alloc (.cells #[.int .i64 a, .int .i64 b] 25))) := by unfold Hid; (repeat' (first | (with_reducible exact Below.refl _ _) | (with_reducible assumption) | (with_reducible refine Below.alloc ?_ ?_ _) | (with_reducible refine bel_drewN ?_ _) | (with_reducible refine Below.drew ?_) | (with_reducible refine Below.setCell ?_ ?_ _) | (with_reducible refine bel_call ‹_› ?_ ?_) | go_size))
  clear hsh
  go_enter Tryz.func4, Tryz.ntmps4
  go_upto_region 1 with fail
  generalize w.alloc (.cells #[.int .i64 a, .int .i64 b] 25) = w0 at hA0 hAB ⊢
  go_cut [34] (fun v wx => v = .bool (decide (300 < s.size ∨ 2000 < a ∨ a < -2000 ∨ 20000 < b ∨ b < -20000)) ∧ wx = w0)
  case first =>
    have m0 := hA0.out.cell 0 _ rfl
    have m1 := hA0.out.cell 1 _ rfl
    by_cases x0 : 300 < s.size
    · have y0 : (300 : Int) < (s.size : Int) := by omega
      go_wp2_with fail
      go_meet
      exact ⟨by rw [decide_eq_true (show 300 < s.size ∨ 2000 < a ∨ a < -2000 ∨ 20000 < b ∨ b < -20000 from .inl x0)], rfl⟩
    · have y0 : ¬ (300 : Int) < (s.size : Int) := by omega
      by_cases x1 : 2000 < a
      · go_wp2_with fail
        go_meet
        exact ⟨by rw [decide_eq_true (show 300 < s.size ∨ 2000 < a ∨ a < -2000 ∨ 20000 < b ∨ b < -20000 from .inr (.inl x1))], rfl⟩
      · by_cases x2 : a < -2000
        · go_wp2_with fail
          go_meet
          exact ⟨by rw [decide_eq_true (show 300 < s.size ∨ 2000 < a ∨ a < -2000 ∨ 20000 < b ∨ b < -20000 from .inr (.inr (.inl x2)))], rfl⟩
        · by_cases x3 : 20000 < b
          · go_wp2_with fail
            go_meet
            exact ⟨by rw [decide_eq_true (show 300 < s.size ∨ 2000 < a ∨ a < -2000 ∨ 20000 < b ∨ b < -20000 from .inr (.inr (.inr (.inl x3))))], rfl⟩
          · by_cases x4 : b < -20000
            · go_wp2_with fail
              go_meet
              exact ⟨by rw [decide_eq_true (show 300 < s.size ∨ 2000 < a ∨ a < -2000 ∨ 20000 < b ∨ b < -20000 from .inr (.inr (.inr (.inr x4))))], rfl⟩
            · have hno : ¬ (300 < s.size ∨ 2000 < a ∨ a < -2000 ∨ 20000 < b ∨ b < -20000) := by omega
              go_wp2_with fail
              go_meet
              exact ⟨by rw [decide_eq_false hno], rfl⟩
  case rest =>
    obtain ⟨hv, hw⟩ := hcut
    rw [hw]
    clear hw
    by_cases hG : 300 < s.size ∨ 2000 < a ∨ a < -2000 ∨ 20000 < b ∨ b < -20000
    · rw [decide_eq_true hG] at hv
      subst hv
      clear hG HFM
      go_wp2_with fail
      refine (HAW.out w0 hAB.out).mono ?_
      rintro e w1 ⟨rfl, hb⟩
      have hB1 := bel_call hb hAB.out hAB.out.size
      go_wp2_with fail
      go_ret
      exact ⟨rfl, hB1⟩
    · rw [decide_eq_false hG] at hv
      subst hv
      have hGa : -2000 ≤ a ∧ a ≤ 2000 ∧ -20000 ≤ b ∧ b ≤ 20000 := by omega
      clear hG
      go_wp2_with fail
      refine (HFM.out w0).mono ?_
      rintro e w3 ⟨⟨x, p2, len, cap2, k, rfl, hk, hkz⟩, hb3⟩
      have HA3 := Lib.hid (hA0.out.below hb3)
      have HB3 : Hid (Below w.heap.size w w3) := bel_call hb3 hAB.out hAB.out.size
      have HKK := Lib.hid hk
      clear hb3 HFM hk hkz hA0 hAB
      rw [ndA_c6]
      go_upto_region 4 with fail
      have e1 : w3.alloc (.cells #[.int .i64 x.kind, .int .i64 x.num, .string ⟨x.text.toArray⟩, .int .i64 x.frm, .int .i64 x.tor, .slice p2 len cap2] tRn) = w3.alloc (.cells (ndA x p2 len cap2) tRn) := rfl
      rw [e1]
      clear e1
      have HX4 : Hid (NdB tRn (w3.alloc (.cells (ndA x p2 len cap2) tRn)) w3.heap.size x p2 len cap2) := heap_alloc_new w3 _
      have hb4 : Below w3.heap.size w3 (w3.alloc (.cells (ndA x p2 len cap2) tRn)) := (Below.refl _ _).alloc (Nat.le_refl _) _
      have HA4 := Lib.hid (HA3.out.below hb4)
      have HB4 : Hid (Below w.heap.size w (w3.alloc (.cells (ndA x p2 len cap2) tRn))) := bel_call hb4 HB3.out HB3.out.size
      by_cases hk0 : k = 0
      · subst hk0
        obtain ⟨rfl, hfm, hok, hcn, hwt, hdp, hrd⟩ := HKK.out rfl
        obtain ⟨len, hlen⟩ : ∃ len, x.args.length = len := ⟨_, rfl⟩
        rw [hlen] at hrd HX4 HA4 HB4 hb4 ⊢
        obtain ⟨d, hdx⟩ : ∃ d, dpN x = d := ⟨_, rfl⟩
        have HK4 : Hid (RdT (w3.alloc (.cells (ndA x p2 len cap2) tRn)) w3.heap.size d x p2 len) := ((hrd d (by omega)).rdT (fun b h => h.2)).below hb4
        have HXF := Lib.hid hfm
        have HXO := Lib.hid hok
        have HXC := Lib.hid hcn
        have hz4 := hb4.size
        clear HKK hfm hok hcn hwt hdp hrd hdx hlen hb4 HB3 HA3
        generalize w3.alloc (.cells (ndA x p2 len cap2) tRn) = w4 at HX4 HA4 HB4 HK4 hz4 ⊢
        generalize w3.heap.size = B at HX4 HK4 hz4 ⊢
        have HFW : Hid (FewN x) := cn_few HXC.out
        obtain ⟨y, hy⟩ : ∃ y, mvN a b x = y := ⟨_, rfl⟩
        have HYF : Hid (Fm y) := by unfold Hid; rw [← hy]; exact fm_mv a b HXF.out
        have HYO : Hid (OkN y) := by unfold Hid; rw [← hy]; exact mv_okN a b HXF.out HXO.out
        have HYC : Hid (cnN y ≤ 1000) := by unfold Hid; rw [← hy]; exact Nat.le_trans (mv_cn a b x) HXC.out
        have HYW : Hid (FewN y) := cn_few HYC.out
        have HLN : Hid ((lvK y).length = (lvK x).length) := by unfold Hid; rw [← hy]; exact lvK_len a b x
        have HBK : Hid (lvK y = lvK x → mvN (-a) (-b) y = x) := by unfold Hid; rw [← hy]; exact mv_back a b HXF.out
        have HKB := Lib.hid (fun W (hW : Below w4.heap.size w4 W) => (HK4.out.below (hW.mono hz4)).mono (Nat.le_trans hz4 hW.size))
        have HMF := Lib.hid (fun W (hW : Below w4.heap.size w4 W) => mf_any a b ha1 ha2 hb1 hb2 d x p2 len cap2 W (HKB.out W hW) HXF.out)
        rw [hy] at HMF
        have HTO := Lib.hid (fun W (hW : Below w4.heap.size w4 W) => tom_any d x p2 len cap2 W (HKB.out W hW) HXO.out HFW.out)
        have HLV := Lib.hid (fun W (hW : Below w4.heap.size w4 W) => lv_any d x p2 len cap2 W (HKB.out W hW) HXF.out HXC.out)
        have HFO := Lib.hid (fun q l cq W (h : Cel.RdT W W.heap.size d x q l) => mform_any a b d x q l cq W h HXF.out)
        rw [hy] at HFO
        have HFY := Lib.hid (fun q l cq W (h : Cel.RdT W W.heap.size d y q l) => mform_any (-a) (-b) d y q l cq W h HYF.out)
        have HTY := Lib.hid (fun q l cq W (h : RdT W W.heap.size d y q l) => tom_any d y q l cq W h HYO.out HYW.out)
        have HLY := Lib.hid (fun q l cq W (h : RdT W W.heap.size d y q l) => lv_any d y q l cq W h HYF.out HYC.out)
        have HSY := Lib.hid (fun q1 l1 c1 q2 l2 c2 W (h1 : Cel.RdT W W.heap.size d y q1 l1) (h2 : Cel.RdT W W.heap.size d y q2 l2) => Cel.same1_any d d y q1 q2 l1 c1 l2 c2 W h1 h2 HYW.out)
        have HSX := Lib.hid (fun q1 l1 c1 q2 l2 c2 W (h1 : Cel.RdT W W.heap.size d x q1 l1) (h2 : Cel.RdT W W.heap.size d x q2 l2) => Cel.same1_any d d x q1 q2 l1 c1 l2 c2 W h1 h2 HFW.out)
        have HBA := Lib.hid (fun W => back_any a b (by omega) (by omega) (by omega) (by omega) W)
        clear hy
        obtain ⟨c0, c1, c2, c3, c4, c5⟩ := HX4.out.cells
        have m0 := HA4.out.cell 0 _ rfl
        have m1 := HA4.out.cell 1 _ rfl
        have HM4 := Lib.hid (HMF.out w4 (Below.refl _ _))
        rw [ndA_c6] at HM4
        clear HMF
        go_wp2_with fail
        refine HM4.out.mono ?_
        rintro e w5 ⟨⟨q, l, cq, rfl, hk5⟩, hb5⟩
        have HB5 := Lib.hid hb5
        have HK5 : Hid (RdT w5 w5.heap.size d y q l) := hk5.rdT (fun b h => h.2)
        clear hk5 hb5 HM4 c0 c1 c2 c3 c4 c5 m0 m1
        rw [ndA_c6]
        go_upto_region 7 with fail
        have e6 : w5.alloc (.cells #[.int .i64 y.kind, .int .i64 y.num, .string ⟨y.text.toArray⟩, .int .i64 y.frm, .int .i64 y.tor, .slice q l cq] tRn) = w5.alloc (.cells (ndA y q l cq) tRn) := rfl
        rw [e6]
        clear e6
        have HY6 : Hid (NdB tRn (w5.alloc (.cells (ndA y q l cq) tRn)) w5.heap.size y q l cq) := heap_alloc_new w5 _
        have hb6 : Below w5.heap.size w5 (w5.alloc (.cells (ndA y q l cq) tRn)) := (Below.refl _ _).alloc (Nat.le_refl _) _
        have HB6 : Hid (Below w4.heap.size w4 (w5.alloc (.cells (ndA y q l cq) tRn))) := bel_call hb6 HB5.out HB5.out.size
        have HK6 : Hid (RdT (w5.alloc (.cells (ndA y q l cq) tRn)) w5.heap.size d y q l) := HK5.out.below hb6
        have hz6 := hb6.size
        clear hb6 HB5 HK5
        generalize w5.alloc (.cells (ndA y q l cq) tRn) = w6 at HY6 HB6 HK6 hz6 ⊢
        generalize w5.heap.size = B2 at HY6 HK6 hz6 ⊢
        have HX6 := Lib.hid (HX4.out.below HB6.out)
        have HA6 := Lib.hid (HA4.out.below HB6.out)
        obtain ⟨c0, c1, c2, c3, c4, c5⟩ := HX6.out.cells
        obtain ⟨y0, y1, y2, y3, y4, y5⟩ := HY6.out.cells
        have R0 := Kept.at c0
        have R1 := Kept.at c1
        have R2 := Kept.at c2
        have R3 := Kept.at c3
        have R4 := Kept.at c4
        have R5 := Kept.at c5
        have S0 := Kept.at y0
        have S1 := Kept.at y1
        have S2 := Kept.at y2
        have S3 := Kept.at y3
        have S4 := Kept.at y4
        have S5 := Kept.at y5
        have M0 := Kept.at (HA6.out.cell 0 _ rfl)
        have M1 := Kept.at (HA6.out.cell 1 _ rfl)
        clear c0 c1 c2 c3 c4 c5 y0 y1 y2 y3 y4 y5
        refine wp_region_sched (fun wx => ∃ x : Kept w6.heap.size w6, wx = x.v) [([0, 1, 4], 2), ([], 3), ([], 5), ([], 6)] [7] (by kernel_rfl) (by kernel_rfl) (by kernel_rfl) rfl (kept_drew _ _ (Nat.le_refl _)) ?_
        have kb0 : Hid (Below w6.heap.size w6 w6.drew) := Below.drew (Below.refl _ _)
        (unfold wpSeg; simp only [pick_nil, pick_cons, nthO_zero, nthO_succ, List.append])
        repeat (go_big_quiet_step (fail))
        refine wpQuiet_nil ?_
        have hc1 := Lib.hid (HTO.out w6.drew (bel_call kb0.out HB6.out HB6.out.size))
        simp only [ndA_c6] at hc1
        go_wp2_with fail
        refine hc1.out.mono ?_
        rintro e x1 ⟨⟨q1, k1, rfl, hk⟩, hb⟩
        have kb1 : Hid (Below w6.heap.size w6 x1) := bel_call hb kb0.out kb0.out.size
        have hc2 := Lib.hid (HFO.out q1 len k1 x1 (hk.rdT (fun b h => h.2)))
        clear hb hc1 hk
        rw [ndA_c8 x q1] at hc2
        rw [ndA_c8 x q1]
        go_wp2_with fail
        refine ⟨rfl, ⟨⟨x1, kb1.out⟩, rfl⟩, ?_⟩
        (unfold wpSeg; simp only [pick_nil, pick_cons, nthO_zero, nthO_succ, List.append])
        repeat (go_big_quiet_step (fail))
        refine wpQuiet_nil ?_
        go_wp2_with fail
        refine hc2.out.mono ?_
        rintro e x2 ⟨⟨q2, l2, k2, rfl, hk⟩, hb⟩
        have kb2 : Hid (Below w6.heap.size w6 x2) := bel_call hb kb1.out kb1.out.size
        have HQ2 : Hid (Cel.RdT x2 x2.heap.size d y q2 l2) := hk.rdT (fun b h => h.2)
        have hc3 := Lib.hid (HTY.out q l cq x2 ((HK6.out.below (kb2.out.mono hz6)).mono (Nat.le_trans hz6 kb2.out.size)))
        simp only [ndA_c6] at hc3
        rw [ndA_c8 y q2]
        clear hb hc2 hk
        go_wp2_with fail
        refine ⟨rfl, ⟨⟨x2, kb2.out⟩, rfl⟩, ?_⟩
        (unfold wpSeg; simp only [pick_nil, pick_cons, nthO_zero, nthO_succ, List.append])
        repeat (go_big_quiet_step (fail))
        refine wpQuiet_nil ?_
        go_wp2_with fail
        refine hc3.out.mono ?_
        rintro e x3 ⟨⟨q3, k3, rfl, hk⟩, hb⟩
        have kb3 : Hid (Below w6.heap.size w6 x3) := bel_call hb kb2.out kb2.out.size
        have hc4 := Lib.hid (HSY.out q2 l2 k2 q3 l k3 x3 ((HQ2.out.below hb).mono hb.size) (hk.rdT (fun b h => h.2)))
        rw [ndA_c8 y q2, ndA_c8 y q3] at hc4
        rw [ndA_c8 y q3]
        clear hb hc3 hk HQ2
        go_wp2_with fail
        refine ⟨rfl, ⟨⟨x3, kb3.out⟩, rfl⟩, ?_⟩
        (unfold wpSeg; simp only [pick_nil, pick_cons, nthO_zero, nthO_succ, List.append])
        repeat (go_big_quiet_step (fail))
        refine wpQuiet_nil ?_
        go_wp2_with fail
        refine hc4.out.mono ?_
        rintro e x4 ⟨rfl, hb⟩
        have kb4 : Hid (Below w6.heap.size w6 x4) := bel_call hb kb3.out kb3.out.size
        clear hb hc4
        go_wp2_with fail
        refine ⟨rfl, ⟨⟨x4, kb4.out⟩, rfl⟩, ?_⟩
        (unfold wpSeg; simp only [pick_nil, pick_cons, nthO_zero, nthO_succ, List.append])
        repeat (go_big_quiet_step (fail))
        refine wpQuiet_nil ?_
        clear R0 R1 R2 R3 R4 R5 S0 S1 S2 S3 S4 S5 M0 M1 kb0 kb1 kb2 kb3 HTY HSY
        have HX7 := Lib.hid (HX6.out.below kb4.out)
        have HY7 := Lib.hid (HY6.out.below kb4.out)
        have HA7 := Lib.hid (HA6.out.below kb4.out)
        have HB7 : Hid (Below w4.heap.size w4 x4) := bel_call kb4.out HB6.out HB6.out.size
        have HK7 : Hid (RdT x4 B2 d y q l) := HK6.out.below (kb4.out.mono hz6)
        have hz7 : B2 ≤ x4.heap.size := Nat.le_trans hz6 kb4.out.size
        clear HX6 HY6 HA6 HB6 HK6 hz6 kb4 HX4 HA4
        go_upto_region 10 with fail
        obtain ⟨c0, c1, c2, c3, c4, c5⟩ := HX7.out.cells
        obtain ⟨y0, y1, y2, y3, y4, y5⟩ := HY7.out.cells
        have R0 := Kept.at c0
        have R1 := Kept.at c1
        have R2 := Kept.at c2
        have R3 := Kept.at c3
        have R4 := Kept.at c4
        have R5 := Kept.at c5
        have S0 := Kept.at y0
        have S1 := Kept.at y1
        have S2 := Kept.at y2
        have S3 := Kept.at y3
        have S4 := Kept.at y4
        have S5 := Kept.at y5
        clear c0 c1 c2 c3 c4 c5 y0 y1 y2 y3 y4 y5
        refine wp_region_sched (fun wx => ∃ x : Kept x4.heap.size x4, wx = x.v) [([0, 2], 1), ([], 3)] [4, 5] (by kernel_rfl) (by kernel_rfl) (by kernel_rfl) rfl (kept_drew _ _ (Nat.le_refl _)) ?_
        have kb0 : Hid (Below x4.heap.size x4 x4.drew) := Below.drew (Below.refl _ _)
        (unfold wpSeg; simp only [pick_nil, pick_cons, nthO_zero, nthO_succ, List.append])
        repeat (go_big_quiet_step (fail))
        refine wpQuiet_nil ?_
        have hc1 := Lib.hid (HLV.out x4.drew (bel_call kb0.out HB7.out HB7.out.size))
        simp only [ndA_c6] at hc1
        go_wp2_with fail
        refine hc1.out.mono ?_
        rintro e x5 ⟨⟨L1, v1, rfl, hk1, hl1, hr1⟩, hb⟩
        obtain ⟨p1, cp1, rfl, _, _, hrd1, _⟩ := RdG.of_own kidC_len rfl hr1
        have kb1 : Hid (Below x4.heap.size x4 x5) := bel_call hb kb0.out kb0.out.size
        have HE1 := Lib.hid hk1
        have hc2 := Lib.hid (HLY.out q l cq x5 ((HK7.out.below (kb1.out.mono hz7)).mono (Nat.le_trans hz7 kb1.out.size)))
        simp only [ndA_c6] at hc2
        have HRD1 := Lib.hid hrd1
        have hn1 : L1.length ≤ 1000 := Nat.le_trans hl1 HXC.out
        clear hb hc1 hk1 hl1 hr1 hrd1 HLV HLY
        go_wp2_with fail
        refine ⟨rfl, ⟨⟨x5, kb1.out⟩, rfl⟩, ?_⟩
        (unfold wpSeg; simp only [pick_nil, pick_cons, nthO_zero, nthO_succ, List.append])
        repeat (go_big_quiet_step (fail))
        refine wpQuiet_nil ?_
        go_wp2_with fail
        refine hc2.out.mono ?_
        rintro e x6 ⟨⟨L2, v2, rfl, hk2, hl2, hr2⟩, hb⟩
        obtain ⟨p2', cp2, rfl, _, _, hrd2, _⟩ := RdG.of_own kidC_len rfl hr2
        have kb2 : Hid (Below x4.heap.size x4 x6) := bel_call hb kb1.out kb1.out.size
        have HE2 := Lib.hid hk2
        have HRD1' : Hid (RdG kidC 6 x6 p1 L1.length L1) := HRD1.out.below hb
        have HRD2 := Lib.hid hrd2
        have hLL : L2.length = L1.length := by
          have h1 := congrArg List.length HE1.out
          have h2 := congrArg List.length HE2.out
          have h3 := HLN.out
          rw [List.length_map] at h1 h2
          omega
        clear hb hc2 hk2 hl2 hr2 hrd2 HRD1
        go_wp2_with fail
        refine ⟨rfl, ⟨⟨x6, kb2.out⟩, rfl⟩, ?_⟩
        (unfold wpSeg; simp only [pick_nil, pick_cons, nthO_zero, nthO_succ, List.append])
        repeat (go_big_quiet_step (fail))
        refine wpQuiet_nil ?_
        clear R0 R1 R2 R3 R4 R5 S0 S1 S2 S3 S4 S5 kb0 kb1
        obtain ⟨n, hn⟩ : ∃ n, L1.length = n := ⟨_, rfl⟩
        rw [hLL, hn] at HRD2
        rw [hn] at HRD1' hn1
        go_wp2_with fail
        try rw [hLL]
        try rw [hn]
        go_loopg [8, 11] n (fun g v8 v11 wx => ∃ i f : Nat, v11 = .int .i64 (i : Int) ∧ v8 = .int .i64 (f : Int) ∧ i + g = n ∧ f ≤ i ∧ (f = 0 → ∀ j c c', j < i → L1[j]? = some c → L2[j]? = some c' → c.1.kind = c'.1.kind) ∧ ∃ m, wx = x6.drewN m)
        case atStart => exact ⟨0, 0, rfl, rfl, by omega, by omega, fun _ j c c' h => by omega, 0, rfl⟩
        case round =>
          obtain ⟨i, f, rfl, rfl, hig, hfi, hall, m, rfl⟩ := hrel
          have HALL := Lib.hid hall
          clear hall
          by_cases hlt : i < n
          · have hli : (i : Int) < (n : Int) := by omega
            obtain ⟨ca, hca⟩ : ∃ c, L1[i]? = some c := ⟨_, List.getElem?_eq_getElem (by rw [HRD1'.out.1]; exact hlt)⟩
            obtain ⟨cb, hcb⟩ : ∃ c, L2[i]? = some c := ⟨_, List.getElem?_eq_getElem (by rw [HRD2.out.1]; exact hlt)⟩
            rcases HRD1'.out.2 with h0 | ⟨g1, o1, hp1, hg1, hc1⟩
            · omega
            rcases HRD2.out.2 with h0 | ⟨g2, o2, hp2, hg2, hc2⟩
            · omega
            subst hp1
            subst hp2
            have f1 := hc1 i ca hca 0 (.int .i64 ca.1.kind) rfl
            have f2 := hc2 i cb hcb 0 (.int .i64 cb.1.kind) rfl
            rw [Nat.add_zero] at f1 f2
            have HCA := Lib.hid hca
            have HCB := Lib.hid hcb
            clear hca hcb hc1 hc2
            have HKE := Lib.hid (show ca.1.kind = cb.1.kind ∨ ¬ ca.1.kind = cb.1.kind from Classical.em _)
            obtain ⟨ka, hka⟩ : ∃ k, ca.1.kind = k := ⟨_, rfl⟩
            obtain ⟨kb, hkb⟩ : ∃ k, cb.1.kind = k := ⟨_, rfl⟩
            rw [hka] at f1 HKE
            rw [hkb] at f2 HKE
            have HKA := Lib.hid hka
            have HKB' := Lib.hid hkb
            clear hka hkb
            rcases HKE.out with hke | hke
            · subst hke
              have e1 : (ka != ka) = false := by simp
              go_wp2_with fail
              go_quiet (fail)
              go_wp2_with fail
              go_roundg (gk - 1)
              case measure => omega
              case rel =>
                refine ⟨i + 1, f, by go_num, rfl, by omega, by omega, fun h0 j c c' hj h1 h2 => ?_, _, rfl⟩
                by_cases hji : j < i
                · exact HALL.out h0 j c c' hji h1 h2
                · obtain rfl : j = i := by omega
                  rw [HCA.out] at h1
                  rw [HCB.out] at h2
                  cases h1
                  cases h2
                  rw [HKA.out, HKB'.out]
            · have e1 : (ka != kb) = true := by simpa using hke
              clear hke HKE
              go_wp2_with fail
              go_quiet (fail)
              go_wp2_with fail
              go_roundg (gk - 1)
              case measure => omega
              case rel => exact ⟨i + 1, f + 1, by go_num, by go_num, by omega, by omega, fun h0 => absurd h0 (by omega), _, rfl⟩
          · obtain rfl : i = n := by omega
            have hli : ¬ (i : Int) < (i : Int) := by omega
            have kbz : Below x4.heap.size x4 (x6.drewN m) := bel_drewN kb2.out m
            generalize x6.drewN m = w7 at kbz ⊢
            have HX8 := Lib.hid (HX7.out.below kbz)
            have HA8 := Lib.hid (HA7.out.below kbz)
            have HB8 : Hid (Below w4.heap.size w4 w7) := bel_call kbz HB7.out HB7.out.size
            clear kbz kb2 HX7 HA7 HB7 HY7 HK7 hz7
            by_cases hf0 : f = 0
            · subst hf0
              have hkinds : lvK y = lvK x := by
                rw [← HE1.out, ← HE2.out]
                refine List.ext_getElem? (fun j => ?_)
                rw [List.getElem?_map, List.getElem?_map]
                by_cases hj : j < i
                · obtain ⟨ca, hca⟩ : ∃ c, L1[j]? = some c := ⟨_, List.getElem?_eq_getElem (by rw [HRD1'.out.1]; exact hj)⟩
                  obtain ⟨cb, hcb⟩ : ∃ c, L2[j]? = some c := ⟨_, List.getElem?_eq_getElem (by rw [HRD2.out.1]; exact hj)⟩
                  have h := HALL.out rfl j ca cb hj hca hcb
                  rw [hca, hcb]
                  show some cb.1.kind = some ca.1.kind
                  rw [h]
                · rw [List.getElem?_eq_none (by rw [HRD2.out.1]; omega), List.getElem?_eq_none (by rw [HRD1'.out.1]; omega)]
              have hmv := HBK.out hkinds
              rw [hmv] at HFY
              clear hkinds hmv HBK HALL HE1 HE2 HRD1' HRD2 HLN
              go_upto_region 16 with fail
              obtain ⟨c0, c1, c2, c3, c4, c5⟩ := HX8.out.cells
              have R0 := Kept.at c0
              have R1 := Kept.at c1
              have R2 := Kept.at c2
              have R3 := Kept.at c3
              have R4 := Kept.at c4
              have R5 := Kept.at c5
              have M0 := Kept.at (HA8.out.cell 0 _ rfl)
              have M1 := Kept.at (HA8.out.cell 1 _ rfl)
              clear c0 c1 c2 c3 c4 c5
              refine wp_region_sched (fun wx => ∃ x : Kept w7.heap.size w7, wx = x.v) [([0, 1, 2, 3, 5, 6, 10], 4), ([], 7), ([], 8), ([], 9), ([], 11), ([], 12), ([13, 14], 15)] [16, 17] (by kernel_rfl) (by kernel_rfl) (by kernel_rfl) rfl (kept_drew _ _ (Nat.le_refl _)) ?_
              have kb0 : Hid (Below w7.heap.size w7 w7.drew) := Below.drew (Below.refl _ _)
              (unfold wpSeg; simp only [pick_nil, pick_cons, nthO_zero, nthO_succ, List.append])
              repeat (go_big_quiet_step (fail))
              refine wpQuiet_nil ?_
              have hc1 := Lib.hid (HBA.out w7.drew)
              go_wp2_with fail
              refine hc1.out.mono ?_
              rintro e z1 ⟨rfl, hb⟩
              have kb1 : Hid (Below w7.heap.size w7 z1) := bel_call hb kb0.out kb0.out.size
              have hc2 := Lib.hid (HTO.out z1 (bel_call kb1.out HB8.out HB8.out.size))
              simp only [ndA_c6] at hc2
              clear hb hc1
              go_wp2_with fail
              refine ⟨rfl, ⟨⟨z1, kb1.out⟩, rfl⟩, ?_⟩
              (unfold wpSeg; simp only [pick_nil, pick_cons, nthO_zero, nthO_succ, List.append])
              repeat (go_big_quiet_step (fail))
              refine wpQuiet_nil ?_
              go_wp2_with fail
              refine hc2.out.mono ?_
              rintro e z2 ⟨⟨q1, k1, rfl, hk⟩, hb⟩
              have kb2 : Hid (Below w7.heap.size w7 z2) := bel_call hb kb1.out kb1.out.size
              have hc3 := Lib.hid (HFO.out q1 len k1 z2 (hk.rdT (fun b h => h.2)))
              rw [ndA_c8 x q1] at hc3
              rw [ndA_c8 x q1]
              clear hb hc2 hk
              go_wp2_with fail
              refine ⟨rfl, ⟨⟨z2, kb2.out⟩, rfl⟩, ?_⟩
              (unfold wpSeg; simp only [pick_nil, pick_cons, nthO_zero, nthO_succ, List.append])
              repeat (go_big_quiet_step (fail))
              refine wpQuiet_nil ?_
              go_wp2_with fail
              refine hc3.out.mono ?_
              rintro e z3 ⟨⟨q2, l2, k2, rfl, hk⟩, hb⟩
              have kb3 : Hid (Below w7.heap.size w7 z3) := bel_call hb kb2.out kb2.out.size
              have hc4 := Lib.hid (HFY.out q2 l2 k2 z3 (hk.rdT (fun b h => h.2)))
              rw [ndA_c8 y q2] at hc4
              rw [ndA_c8 y q2]
              clear hb hc3 hk
              go_wp2_with fail
              refine ⟨rfl, ⟨⟨z3, kb3.out⟩, rfl⟩, ?_⟩
              (unfold wpSeg; simp only [pick_nil, pick_cons, nthO_zero, nthO_succ, List.append])
              repeat (go_big_quiet_step (fail))
              refine wpQuiet_nil ?_
              go_wp2_with fail
              refine hc4.out.mono ?_
              rintro e z4 ⟨⟨q3, l3, k3, rfl, hk⟩, hb⟩
              have kb4 : Hid (Below w7.heap.size w7 z4) := bel_call hb kb3.out kb3.out.size
              have HQ4 : Hid (Cel.RdT z4 z4.heap.size d x q3 l3) := hk.rdT (fun b h => h.2)
              have hc5 := Lib.hid (HTO.out z4 (bel_call kb4.out HB8.out HB8.out.size))
              simp only [ndA_c6] at hc5
              rw [ndA_c8 x q3]
              clear hb hc4 hk
              go_wp2_with fail
              refine ⟨rfl, ⟨⟨z4, kb4.out⟩, rfl⟩, ?_⟩
              (unfold wpSeg; simp only [pick_nil, pick_cons, nthO_zero, nthO_succ, List.append])
              repeat (go_big_quiet_step (fail))
              refine wpQuiet_nil ?_
              go_wp2_with fail
              refine hc5.out.mono ?_
              rintro e z5 ⟨⟨q4, k4, rfl, hk⟩, hb⟩
              have kb5 : Hid (Below w7.heap.size w7 z5) := bel_call hb kb4.out kb4.out.size
              have hc6 := Lib.hid (HSX.out q3 l3 k3 q4 len k4 z5 ((HQ4.out.below hb).mono hb.size) (hk.rdT (fun b h => h.2)))
              rw [ndA_c8 x q3, ndA_c8 x q4] at hc6
              rw [ndA_c8 x q4]
              clear hb hc5 hk HQ4
              go_wp2_with fail
              refine ⟨rfl, ⟨⟨z5, kb5.out⟩, rfl⟩, ?_⟩
              (unfold wpSeg; simp only [pick_nil, pick_cons, nthO_zero, nthO_succ, List.append])
              repeat (go_big_quiet_step (fail))
              refine wpQuiet_nil ?_
              go_wp2_with fail
              refine hc6.out.mono ?_
              rintro e z6 ⟨rfl, hb⟩
              have kb6 : Hid (Below w7.heap.size w7 z6) := bel_call hb kb5.out kb5.out.size
              have hbw : Hid (Below w.heap.size w z6) := bel_call (bel_call kb6.out HB8.out HB8.out.size) HB4.out HB4.out.size
              have hc7 := Lib.hid (HAW.out z6 hbw.out)
              clear hb hc6
              go_wp2_with fail
              refine ⟨rfl, ⟨⟨z6, kb6.out⟩, rfl⟩, ?_⟩
              (unfold wpSeg; simp only [pick_nil, pick_cons, nthO_zero, nthO_succ, List.append])
              repeat (go_big_quiet_step (fail))
              refine wpQuiet_nil ?_
              go_wp2_with fail
              refine hc7.out.mono ?_
              rintro e z7 ⟨rfl, hb⟩
              have kb7 : Hid (Below w7.heap.size w7 z7) := bel_call hb kb6.out kb6.out.size
              have hbz : Hid (Below w.heap.size w z7) := bel_call hb hbw.out hbw.out.size
              clear hb hc7
              go_wp2_with fail
              refine ⟨rfl, ⟨⟨z7, kb7.out⟩, rfl⟩, ?_⟩
              (unfold wpSeg; simp only [pick_nil, pick_cons, nthO_zero, nthO_succ, List.append])
              repeat (go_big_quiet_step (fail))
              refine wpQuiet_nil ?_
              go_wp2_with fail
              go_ret
              exact ⟨rfl, hbz.out⟩
            · have hfn0 : 0 < f := by omega
              have hfi0 : (0 : Int) < (f : Int) := by omega
              have hbw : Hid (Below w.heap.size w w7) := bel_call HB8.out HB4.out HB4.out.size
              clear HFY HFO HTO HSX HBA HALL HE1 HE2 HRD1' HRD2 HLN HBK HX8 HA8 HB8
              go_upto_region 16 with fail
              have hBR : ∀ dd os, Below w.heap.size w (Go.Sort.grow (redrawn w7 dd) os) := fun dd os => bel_call (below_regrown w7 dd os) hbw.out hbw.out.size
              have q5 : ∀ dd os, Calls Tryz.prog 6 #[] (Go.Sort.grow (redrawn w7 dd) os) fun e w'' => e = .returned (.bool true) ∧ ∃ p : Regrown, w'' = Go.Sort.grow (redrawn w7 p.1) p.2 := fun dd os => Calls.regrown_of (HAW.out _ (hBR dd os))
              refine wp_region_quiet_below (by kernel_rfl) (by kernel_rfl) ?_
              repeat (go_big_quiet_step ((first | with_reducible exact q5 _ _)))
              refine wpQuiet_nil ?_
              intro _ hw'
              obtain ⟨⟨dz, osz⟩, hw''⟩ := hw'
              subst hw''
              have hBz := hBR dz osz
              clear q5 hBR
              go_wp2_with fail
              go_ret
              exact ⟨rfl, hBz⟩
      · have hke : (k == 0) = false := by simpa using hk0
        clear HKK HX4 HA4 HB3 HA3
        generalize w3.alloc (.cells (ndA x p2 len cap2) tRn) = w4 at HB4 ⊢
        go_wp2_with fail
        refine (HAW.out w4 HB4.out).mono ?_
        rintro e w5 ⟨rfl, hb5⟩
        have hB5 := bel_call hb5 HB4.out HB4.out.size
        go_wp2_with fail
        go_ret
        exact ⟨rfl, hB5⟩
end Go.Proofs.YtbdgdhjhgcpidaaGreatDoor
