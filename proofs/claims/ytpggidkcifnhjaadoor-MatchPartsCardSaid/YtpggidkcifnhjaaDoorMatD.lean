/- Conditions: fits. -/
import Derived.Test.YtpggidkcifnhjaaDoorMatC
set_option linter.unusedSimpArgs false
set_option linter.unusedVariables false

namespace Go.Proofs.YtpggidkcifnhjaaDoor
open Go.RowKit

theorem info_bool : (Tryd.prog.info? 4).map (fun i => (i.zero, i.size, i.bytes)) = some (some (.bool false), 1, 1) := by kernel_rfl
theorem made_bools (n : Nat) : (madeCells #[Value.bool false] (n * 1)).toList = List.replicate n (.bool false) := by
  apply List.ext_getElem
  · simp [madeCells]
  · intro i h1 h2
    simp [madeCells, Nat.mod_one]
/-- The signs made small, and the text's bytes made small. -/
def lowAt (L : List Sg) (i : Nat) : Sg := low (sgAt L i)
def lowS (T : List UInt8) (k : Nat) : Nat := lowN (btN T k)
def fitB (L : List Sg) (T : List UInt8) : Bool := TT (lowAt L) (lowS T) L.length T.length
theorem bytes_cell (W : World) (s : ByteArray) : ∀ j, j < s.size → (Lib.bytesWorld W 5 s).cell? ⟨W.heap.size, j, none⟩ = some (.int .u8 (btN s.data.toList j : Int)) := fun j hj => Lib.bytesWorld_cell W _ s j hj
theorem bytes_below (W : World) (s : ByteArray) : Below W.heap.size W (Lib.bytesWorld W 5 s) := ⟨rfl, rfl, rfl, by rw [Lib.bytesWorld_size]; omega, fun k hk => Lib.bytesWorld_at_old W _ s k hk⟩

theorem OP_low (L : List Sg) (f : Nat → Bool) : ∀ j, OP (sgAt L) f j = OP (lowAt L) f j
  | 0 => rfl
  | j + 1 => by rw [OP, OP, OP_low L f j]; rfl
section
variable (p : Nat → Sg) (s : Nat → Nat)
theorem NX_0 (k j : Nat) : NX p s k 0 j = false := by cases j <;> simp [NX]
theorem NX_no {k i : Nat} (h : PP p s i k = false ∨ (¬ (p i).1 = 2 ∧ ¬ ((p i).1 = 1 ∨ (p i).2 = s k))) (j : Nat) : NX p s k (i + 1) j = NX p s k i j := by
  cases j with
  | zero =>
    simp only [NX]
    by_cases hi : i = 0
    · subst hi
      rcases h with h | ⟨h, _⟩
      · rw [h]; simp
      · simp [h]
    · rw [decide_eq_true (show 0 < i + 1 by omega), decide_eq_true (show 0 < i by omega)]
  | succ j =>
    simp only [NX]
    by_cases h1 : j + 1 = i
    · have e1 : decide (j < i + 1) = decide (j < i) := by rw [decide_eq_true (show j < i + 1 by omega), decide_eq_true (show j < i by omega)]
      rw [e1]
      subst h1
      rcases h with h | ⟨h, _⟩
      · rw [h]; simp
      · simp [h]
    · by_cases h2 : j = i
      · subst h2
        rw [decide_eq_false (show ¬ j + 1 < j + 1 by omega), decide_eq_false (show ¬ j + 1 < j by omega)]
        rcases h with h | ⟨h, h'⟩
        · rw [h]; simp
        · simp [h, not_or.1 h']
      · have e1 : decide (j < i + 1) = decide (j < i) := by rw [Bool.eq_iff_iff]; simp; omega
        have e2 : decide (j + 1 < i + 1) = decide (j + 1 < i) := by rw [Bool.eq_iff_iff]; simp; omega
        rw [e1, e2]
theorem NX_stay {k i : Nat} (h : PP p s i k = true) (h2 : (p i).1 = 2) (j : Nat) : NX p s k (i + 1) j = if j = i then true else NX p s k i j := by
  cases j with
  | zero =>
    by_cases hi : i = 0
    · subst hi
      simp only [NX]
      rw [h, decide_eq_true h2]
      rfl
    · rw [if_neg (by omega)]
      simp only [NX]
      rw [decide_eq_true (show 0 < i + 1 by omega), decide_eq_true (show 0 < i by omega)]
  | succ j =>
    by_cases h1 : j + 1 = i
    · rw [if_pos h1]
      subst h1
      simp only [NX]
      rw [h, decide_eq_true h2, decide_eq_true (show j + 1 < j + 1 + 1 by omega)]
      rfl
    · rw [if_neg h1]
      simp only [NX]
      have e2 : decide (j + 1 < i + 1) = decide (j + 1 < i) := by rw [Bool.eq_iff_iff]; simp; omega
      rw [e2]
      by_cases h3 : j = i
      · subst h3
        simp [h2]
      · have e1 : decide (j < i + 1) = decide (j < i) := by rw [Bool.eq_iff_iff]; simp; omega
        rw [e1]
theorem NX_step {k i : Nat} (h : PP p s i k = true) (h2 : ¬ (p i).1 = 2) (h3 : (p i).1 = 1 ∨ (p i).2 = s k) (j : Nat) : NX p s k (i + 1) j = if j = i + 1 then true else NX p s k i j := by
  cases j with
  | zero =>
    rw [if_neg (by omega)]
    simp only [NX]
    by_cases hi : i = 0
    · subst hi
      simp [h2]
    · rw [decide_eq_true (show 0 < i + 1 by omega), decide_eq_true (show 0 < i by omega)]
  | succ j =>
    by_cases h1 : j = i
    · subst h1
      rw [if_pos rfl]
      simp only [NX]
      rw [h, decide_eq_true (show j < j + 1 by omega), decide_eq_false h2]
      rcases h3 with h3 | h3 <;> simp [h3]
    · rw [if_neg (by omega)]
      simp only [NX]
      have e1 : decide (j < i + 1) = decide (j < i) := by rw [Bool.eq_iff_iff]; simp; omega
      rw [e1]
      by_cases h4 : j + 1 = i
      · subst h4
        simp [h2]
      · have e2 : decide (j + 1 < i + 1) = decide (j + 1 < i) := by rw [Bool.eq_iff_iff]; simp; omega
        rw [e2]
end
theorem lowAt_mem {L : List Sg} {i : Nat} (h : i < L.length) : sgAt L i ∈ L := by
  have := sgAt_get h
  exact List.mem_of_getElem? this

set_option maxRecDepth 100000 in
set_option maxHeartbeats 8000000 in
theorem fits_any (L : List Sg) (p : Option Addr) (cap : Nat) (s : ByteArray) (hlen : L.length ≤ 1000) (hs : s.size ≤ 1000) (hok : ∀ x ∈ L, x.1 ≤ 2 ∧ x.2 < 256) (w : World) (hL : RdG sgE 2 w p L.length L) :
    Calls Tryd.prog 22 #[.slice p L.length cap, .string s] w fun e w' => e = .returned (.bool (fitB L s.data.toList)) ∧ Below w.heap.size w w' := by
  obtain ⟨i0, hi, hz0, hz1, hz2⟩ := info_of info_bool
  have hconv := fun (W : World) => Lib.run_convert_string_bytes (P := Tryd.prog) W 9 77 5 s Tryd.underlying9 Tryd.underlying77 Tryd.underlying5
  obtain ⟨n, hn⟩ : ∃ n, L.length = n := ⟨_, rfl⟩
  obtain ⟨T, hT⟩ : ∃ T, s.data.toList = T := ⟨_, rfl⟩
  have hm : s.size = T.length := by rw [← hT, Lib.size_eq]
  have HBC := Lib.hid (fun W => bytes_cell W s)
  have HOPEN := Lib.hid (fun W bx r cp f hbx h1 h2 h3 h4 => open_any L p cap bx r cp f (by omega) W hbx h1 h2 h3 h4)
  rw [hT] at HBC ⊢
  rw [hn] at hL hlen HOPEN ⊢
  have HN := Lib.hid hn
  have HM := Lib.hid hm
  have HL := Lib.hid hL
  have HOK := Lib.hid hok
  have hpl : ∀ a, p = some a → 0 < n → a.block < w.heap.size := fun a ha h0 => by
    obtain ⟨b, off, h1, h2, _⟩ := hL.some h0
    rw [h1] at ha
    cases ha
    exact h2
  clear hn hT hm hL hok
  go_enter Tryd.func22, Tryd.ntmps22
  go_wp2_with (at_make; refine wpList_make_full _ rfl _ _ _ rfl w.heap.size 4 i0 (.bool false) 1 Tryd.underlying79 hi hz0 hz1 .i64 .i64 _ _ (n + 1) rfl rfl rfl rfl (by rw [hz2]; omega) (by unfold maxLen; omega) ?cb ?_)
  case cb => simp
  intro w0 hown0 hgrow0
  have hb0 : Below w.heap.size w w0 := (Below.alloc (Below.refl _ _) (Nat.le_refl _) _).grown hgrow0 (by simp) (fun k hk => by cases hk)
  have hbox0 : w0.cell? ⟨w.heap.size, 0, none⟩ = some (.slice p n cap) := by
    rw [World.cell?_of_block (a := ⟨w.heap.size, 0, none⟩) (hgrow0.block w.heap.size (by simp) (by intro e; cases e))]
    simp
  have HR0 : Hid (RowV 4 w0 (w.heap.size + 1) (n + 1) (fun _ => .bool false)) := RowV.of_own hown0 (Nat.le_refl _) _ (fun j hj => by
    rw [← Nat.mul_one (n + 1), show (madeCells #[Value.bool false] ((n + 1) * 1)).toList = _ from made_bools (n + 1)]
    simp [List.getElem?_replicate]
    omega)
  have hz0' := HR0.out.lt
  have hfr0 := HR0.out.free 0
  have hce0 := HR0.out.cell (j := 0) (by omega)
  have HB0 := Lib.hid hb0
  have HBX0 := Lib.hid hbox0
  clear hown0 hgrow0 hb0 hbox0
  have hR1 : RowV 4 (w0.setCell ⟨w.heap.size + 1, 0, none⟩ (.bool true)) (w.heap.size + 1) (n + 1) (fun j => .bool (decide (j = 0))) := HR0.out.set (by omega) _ (fun x hx => by
    by_cases h : x = 0
    · subst h; rfl
    · rw [if_neg h, decide_eq_false h])
  have hbx1 : (w0.setCell ⟨w.heap.size + 1, 0, none⟩ (.bool true)).cell? ⟨w.heap.size, 0, none⟩ = some (.slice p n cap) := by
    rw [← HBX0.out]
    exact World.cell?_of_block (a := ⟨w.heap.size, 0, none⟩) (Below.heap_setCell w0 _ _ _ (by simp))
  have hb1 : Below w.heap.size w (w0.setCell ⟨w.heap.size + 1, 0, none⟩ (.bool true)) := HB0.out.setCell (by simp) _
  have HC1 := Lib.hid (HOPEN.out (w0.setCell ⟨w.heap.size + 1, 0, none⟩ (.bool true)) w.heap.size (w.heap.size + 1) (n + 1) (fun j => decide (j = 0)) hbx1 (fun h0 a ha => by have := hpl a ha h0; omega) (by omega) (HL.out.below hb1) hR1)
  have HB1 := Lib.hid hb1
  have hs1 : (w0.setCell ⟨w.heap.size + 1, 0, none⟩ (.bool true)).heap.size = w0.heap.size := by simp [World.setCell]
  clear hR1 hbx1 hb1
  go_wp2_with (first | (go_at_call 39; refine HC1.out.mono ?_; rintro e w2 ⟨rfl, hR2, hgb2⟩))
  have hs2 := hgb2.size
  rw [hs1] at hs2
  have hb2 : Below w.heap.size w w2 := HB1.out.trans (gb_below_of hgb2 (by omega) (by rw [hs1]; omega))
  have hbx2 : w2.cell? ⟨w.heap.size, 0, none⟩ = some (.slice p n cap) := by
    rw [gb_cell hgb2 (by rw [hs1]; omega) (by omega) 0, ← HBX0.out]
    exact World.cell?_of_block (a := ⟨w.heap.size, 0, none⟩) (Below.heap_setCell w0 _ _ _ (by simp))
  have HR3 : Hid (RowV 4 (Lib.bytesWorld w2 5 s) (w.heap.size + 1) (n + 1) (fun j => .bool (PP (lowAt L) (lowS T) j 0))) := (hR2.below (bytes_below w2 s)).congr (fun x hx => by rw [OP_low, PP_0])
  have hb3 : Below w.heap.size w (Lib.bytesWorld w2 5 s) := hb2.trans ((bytes_below w2 s).mono hb2.size)
  have HB3 := Lib.hid hb3
  have hbx3 : (Lib.bytesWorld w2 5 s).cell? ⟨w.heap.size, 0, none⟩ = some (.slice p n cap) := by rw [← hbx2]; exact (bytes_below w2 s).cell (p := ⟨w.heap.size, 0, none⟩) (by show w.heap.size < _; omega)
  have HBX3 := Lib.hid hbx3
  have HBC3 := Lib.hid (HBC.out w2)
  have hz3 : w2.heap.size < (Lib.bytesWorld w2 5 s).heap.size := by rw [Lib.bytesWorld_size]; omega
  have hz2w : w.heap.size + 1 < w2.heap.size := by omega
  clear hR2 hgb2 hb2 hbx2 hb3 hbx3 hs2 hs1 hz0' hfr0 hce0 HB0 HB1 HR0 HBX0 HC1 hconv
  generalize Lib.bytesWorld w2 5 s = W1 at HR3 HB3 HBX3 HBC3 hz3 ⊢
  generalize w2.heap.size = zb at hz3 hz2w HBC3 ⊢
  go_loopg [5, 25] T.length (fun g v5 v25 wr => ∃ k r : Nat, k + g = T.length ∧ v25 = .int .i64 k ∧ v5 = .slice (some ⟨r, 0, none⟩) (n + 1) (n + 1) ∧ RowV 4 wr r (n + 1) (fun j => .bool (PP (lowAt L) (lowS T) j k)) ∧ Below W1.heap.size W1 wr)
  case atStart => exact ⟨0, w.heap.size + 1, by omega, rfl, rfl, HR3.out, Below.refl _ _⟩
  case round =>
    obtain ⟨G, rfl⟩ : ∃ G, G = gk := ⟨_, rfl⟩
    obtain ⟨k, r, hkg, rfl, rfl, hrow, hbel⟩ := hrel
    have hzr := hbel.size
    have hrl := hrow.lt
    have HROW := Lib.hid hrow
    have HBEL := Lib.hid hbel
    have hbx : wr.cell? ⟨w.heap.size, 0, none⟩ = some (.slice p n cap) := by rw [← HBX3.out]; exact hbel.cell (p := ⟨w.heap.size, 0, none⟩) (by show w.heap.size < _; omega)
    have HBX := Lib.hid hbx
    by_cases hlt : k < T.length
    · have hki : (k : Int) < (s.size : Int) := by have := HM.out; omega
      have hk0 : (0 : Int) ≤ (k : Int) := by omega
      obtain ⟨c, hc⟩ : ∃ c, btN T k = c := ⟨_, rfl⟩
      have hc256 : c < 256 := by rw [← hc]; exact btN_lt T k
      have hcs : lowS T k = lowN c := by unfold lowS; rw [hc]
      have hq : wr.cell? ⟨zb, k, none⟩ = some (.int .u8 (c : Int)) := by
        rw [← hc]
        exact (hbel.cell (p := ⟨zb, k, none⟩) hz3).trans (HBC3.out k (by have := HM.out; omega))
      have HCS := Lib.hid hcs
      obtain ⟨wo, hwo⟩ : ∃ wo, wr = wo := ⟨_, rfl⟩
      clear hrow hbel hc hcs
      rw [hwo] at hzr hrl HROW HBEL hbx HBX hq ⊢
      clear hwo
      go_wp2_with (at_make; refine wpList_make_full _ rfl _ _ _ rfl w.heap.size 4 i0 (.bool false) 1 Tryd.underlying79 hi hz0 hz1 .i64 .i64 _ _ (n + 1) rfl rfl rfl rfl (by rw [hz2]; omega) (by unfold maxLen; omega) ?cb2 ?_)
      case cb2 => have := HB3.out.size; omega
      intro w3 hown3 hgrow3
      have hb3 : Below wo.heap.size wo w3 := (Below.refl _ _).grown hgrow3 (Nat.le_refl _) (fun k hk => by cases hk)
      have HRN : Hid (RowV 4 w3 wo.heap.size (n + 1) (fun _ => .bool false)) := RowV.of_own hown3 (Nat.le_refl _) _ (fun j hj => by
        rw [← Nat.mul_one (n + 1), show (madeCells #[Value.bool false] ((n + 1) * 1)).toList = _ from made_bools (n + 1)]
        simp [List.getElem?_replicate]
        omega)
      have hrn := HRN.out.lt
      have HB33 := Lib.hid hb3
      have hbx33 : w3.cell? ⟨w.heap.size, 0, none⟩ = some (.slice p n cap) := by rw [← HBX.out]; exact hb3.cell (p := ⟨w.heap.size, 0, none⟩) (by show w.heap.size < _; omega)
      have HBX33 := Lib.hid hbx33
      clear hown3 hgrow3 hb3 hbx hq
      go_wp2_with fail
      go_loopg [35] n (fun g v35 wx => ∃ i : Nat, i + g = n ∧ v35 = .int .i64 i ∧ RowV 4 wx wo.heap.size (n + 1) (fun j => .bool (NX (lowAt L) (lowS T) k i j)) ∧ w3.grownBy wx (some wo.heap.size))
      case atStart => exact ⟨0, by omega, rfl, HRN.out.congr (fun x hx => by rw [NX_0]), gb_below (Below.refl _ _) _⟩
      case round =>
        obtain ⟨i, hig, rfl, hrow, hgb⟩ := hrel
        have hzx := hgb.size
        have HROWN := Lib.hid hrow
        have HGB := Lib.hid hgb
        by_cases hlt2 : i < n
        · have hli : (i : Int) < (n : Int) := by omega
          have hi0 : (0 : Int) ≤ (i : Int) := by omega
          have hli1 : (i : Int) + 1 < (n : Int) + 1 := by omega
          have hiL : i < L.length := by rw [HN.out]; exact hlt2
          have hx := sgAt_get hiL
          have hxo := HOK.out _ (lowAt_mem hiL)
          obtain ⟨kd, ch, hkc⟩ : ∃ kd ch, sgAt L i = (kd, ch) := ⟨_, _, rfl⟩
          rw [hkc] at hx hxo
          have hlow : lowAt L i = (kd, lowN ch) := by unfold lowAt; rw [hkc]; rfl
          obtain ⟨b, off, rfl, hb, hcs⟩ := HL.out.some hlt2
          have q1 : wr.cell? ⟨b, off + i * 2, none⟩ = some (.int .i64 (kd : Int)) := by
            rw [gb_cell hgb (by omega) (by omega), HB33.out.cell (p := ⟨b, off + i * 2, none⟩) (by show b < _; omega), HBEL.out.cell (p := ⟨b, off + i * 2, none⟩) (by show b < _; omega), HB3.out.cell (p := ⟨b, off + i * 2, none⟩) hb]
            exact hcs i _ hx 0 _ rfl
          have q2 : wr.cell? ⟨b, off + i * 2 + 1, none⟩ = some (.int .u8 (ch : Int)) := by
            rw [gb_cell hgb (by omega) (by omega), HB33.out.cell (p := ⟨b, off + i * 2 + 1, none⟩) (by show b < _; omega), HBEL.out.cell (p := ⟨b, off + i * 2 + 1, none⟩) (by show b < _; omega), HB3.out.cell (p := ⟨b, off + i * 2 + 1, none⟩) hb]
            exact hcs i _ hx 1 _ rfl
          have q3 : wr.cell? ⟨r, i, none⟩ = some (.bool (PP (lowAt L) (lowS T) i k)) := by
            rw [gb_cell hgb (by omega) (by omega), HB33.out.cell (p := ⟨r, i, none⟩) hrl]
            exact HROW.out.cell (by omega)
          have f1 := hrow.free i
          have f2 := hrow.free (i + 1)
          have q4 := hrow.cell (j := i) (by omega)
          have q5 := hrow.cell (j := i + 1) (by omega)
          have HNO := Lib.hid (fun h j => NX_no (lowAt L) (lowS T) (k := k) (i := i) h j)
          have HST := Lib.hid (fun h h2 j => NX_stay (lowAt L) (lowS T) (k := k) (i := i) h h2 j)
          have HSP := Lib.hid (fun h h2 h3 j => NX_step (lowAt L) (lowS T) (k := k) (i := i) h h2 h3 j)
          rw [hlow, HCS.out] at HNO HSP
          rw [hlow] at HST
          simp only at HNO HSP HST
          have HLO := Lib.hid (fun W => lower_any ch hxo.2 W)
          have HLC := Lib.hid (fun W => lower_any c hc256 W)
          obtain ⟨o, ho⟩ : ∃ o, PP (lowAt L) (lowS T) i k = o := ⟨_, rfl⟩
          rw [ho] at q3 HNO HST HSP
          have hkd := hxo.1
          have hbr : b < w.heap.size := hb
          clear hrow hgb hx hxo hkc hlow hcs ho
          cases o
          · have hnx := HNO.out (.inl rfl)
            have HX := Lib.hid hnx
            clear hnx
            go_wp2_with fail
            go_roundg (gk - 1)
            case measure => omega
            case rel => exact ⟨i + 1, by omega, by go_num, (HROWN.out.congr (fun x hx => by rw [HX.out])).below (by (repeat' (first | (with_reducible exact Below.refl _ _) | (with_reducible assumption) | (with_reducible refine Below.alloc ?_ ?_ _) | (with_reducible refine bel_drewN ?_ _) | (with_reducible refine Below.drew ?_) | (with_reducible refine Below.setCell ?_ ?_ _) | (with_reducible refine bel_call ‹_› ?_ ?_) | go_size))), gb_call HGB.out (by (repeat' (first | (with_reducible exact Below.refl _ _) | (with_reducible assumption) | (with_reducible refine Below.alloc ?_ ?_ _) | (with_reducible refine bel_drewN ?_ _) | (with_reducible refine Below.drew ?_) | (with_reducible refine Below.setCell ?_ ?_ _) | (with_reducible refine bel_call ‹_› ?_ ?_) | go_size)))⟩
          · obtain rfl | rfl | rfl : kd = 0 ∨ kd = 1 ∨ kd = 2 := by omega
            · by_cases hm : lowN ch = lowN c
              · have hX := HSP.out rfl (by decide) (.inr hm)
                have HX := Lib.hid hX
                have hmi : ((lowN ch : Int) == (lowN c : Int)) = true := by simp [hm]
                clear hX
                go_wp2_with fail
                refine (HLO.out _).mono ?_
                rintro e wa ⟨rfl, rfl⟩
                go_wp2_with fail
                refine (HLC.out _).mono ?_
                rintro e wa ⟨rfl, rfl⟩
                go_wp2_with fail
                go_roundg (gk - 1)
                case measure => omega
                case rel => exact ⟨i + 1, by omega, by go_num, (HROWN.out.below (by (repeat' (first | (with_reducible exact Below.refl _ _) | (with_reducible assumption) | (with_reducible refine Below.alloc ?_ ?_ _) | (with_reducible refine bel_drewN ?_ _) | (with_reducible refine Below.drew ?_) | (with_reducible refine Below.setCell ?_ ?_ _) | (with_reducible refine bel_call ‹_› ?_ ?_) | go_size)))).set (by omega) (.bool true) (fun x hx => by
                  rw [HX.out]
                  split <;> rfl), gb_set (gb_call HGB.out (by (repeat' (first | (with_reducible exact Below.refl _ _) | (with_reducible assumption) | (with_reducible refine Below.alloc ?_ ?_ _) | (with_reducible refine bel_drewN ?_ _) | (with_reducible refine Below.drew ?_) | (with_reducible refine Below.setCell ?_ ?_ _) | (with_reducible refine bel_call ‹_› ?_ ?_) | go_size)))) (.inr rfl) _⟩
              · have hX := HNO.out (.inr ⟨by decide, by simp [hm]⟩)
                have HX := Lib.hid hX
                have hmi : ((lowN ch : Int) == (lowN c : Int)) = false := by simp; omega
                clear hX hm
                go_wp2_with fail
                refine (HLO.out _).mono ?_
                rintro e wa ⟨rfl, rfl⟩
                go_wp2_with fail
                refine (HLC.out _).mono ?_
                rintro e wa ⟨rfl, rfl⟩
                go_wp2_with fail
                go_roundg (gk - 1)
                case measure => omega
                case rel => exact ⟨i + 1, by omega, by go_num, (HROWN.out.congr (fun x hx => by rw [HX.out])).below (by (repeat' (first | (with_reducible exact Below.refl _ _) | (with_reducible assumption) | (with_reducible refine Below.alloc ?_ ?_ _) | (with_reducible refine bel_drewN ?_ _) | (with_reducible refine Below.drew ?_) | (with_reducible refine Below.setCell ?_ ?_ _) | (with_reducible refine bel_call ‹_› ?_ ?_) | go_size))), gb_call HGB.out (by (repeat' (first | (with_reducible exact Below.refl _ _) | (with_reducible assumption) | (with_reducible refine Below.alloc ?_ ?_ _) | (with_reducible refine bel_drewN ?_ _) | (with_reducible refine Below.drew ?_) | (with_reducible refine Below.setCell ?_ ?_ _) | (with_reducible refine bel_call ‹_› ?_ ?_) | go_size)))⟩
            · have hX := HSP.out rfl (by decide) (.inl rfl)
              have HX := Lib.hid hX
              clear hX
              go_wp2_with fail
              go_roundg (gk - 1)
              case measure => omega
              case rel => exact ⟨i + 1, by omega, by go_num, (HROWN.out.below (by (repeat' (first | (with_reducible exact Below.refl _ _) | (with_reducible assumption) | (with_reducible refine Below.alloc ?_ ?_ _) | (with_reducible refine bel_drewN ?_ _) | (with_reducible refine Below.drew ?_) | (with_reducible refine Below.setCell ?_ ?_ _) | (with_reducible refine bel_call ‹_› ?_ ?_) | go_size)))).set (by omega) (.bool true) (fun x hx => by
                rw [HX.out]
                split <;> rfl), gb_set (gb_call HGB.out (by (repeat' (first | (with_reducible exact Below.refl _ _) | (with_reducible assumption) | (with_reducible refine Below.alloc ?_ ?_ _) | (with_reducible refine bel_drewN ?_ _) | (with_reducible refine Below.drew ?_) | (with_reducible refine Below.setCell ?_ ?_ _) | (with_reducible refine bel_call ‹_› ?_ ?_) | go_size)))) (.inr rfl) _⟩
            · have hX := HST.out rfl rfl
              have HX := Lib.hid hX
              clear hX
              go_wp2_with fail
              go_roundg (gk - 1)
              case measure => omega
              case rel => exact ⟨i + 1, by omega, by go_num, (HROWN.out.below (by (repeat' (first | (with_reducible exact Below.refl _ _) | (with_reducible assumption) | (with_reducible refine Below.alloc ?_ ?_ _) | (with_reducible refine bel_drewN ?_ _) | (with_reducible refine Below.drew ?_) | (with_reducible refine Below.setCell ?_ ?_ _) | (with_reducible refine bel_call ‹_› ?_ ?_) | go_size)))).set (by omega) (.bool true) (fun x hx => by
                rw [HX.out]
                split <;> rfl), gb_set (gb_call HGB.out (by (repeat' (first | (with_reducible exact Below.refl _ _) | (with_reducible assumption) | (with_reducible refine Below.alloc ?_ ?_ _) | (with_reducible refine bel_drewN ?_ _) | (with_reducible refine Below.drew ?_) | (with_reducible refine Below.setCell ?_ ?_ _) | (with_reducible refine bel_call ‹_› ?_ ?_) | go_size)))) (.inr rfl) _⟩
        · have hin : i = n := by omega
          subst hin
          have hli : ¬ (i : Int) < (i : Int) := by omega
          have hbxr : wr.cell? ⟨w.heap.size, 0, none⟩ = some (.slice p i cap) := by
            rw [gb_cell hgb (by omega) (by omega)]
            exact HBX33.out
          have hbw : Below w.heap.size w wr := ((HB3.out.trans (HBEL.out.mono HB3.out.size)).trans (HB33.out.mono (by omega))).trans (gb_below_of hgb (by omega) (by omega))
          have HBW := Lib.hid hbw
          have HC4 := Lib.hid (HOPEN.out wr w.heap.size wo.heap.size (i + 1) (NX (lowAt L) (lowS T) k i) hbxr (fun h0 a ha => by have := hpl a ha h0; omega) (by omega) (HL.out.below hbw) hrow)
          have hbel4 : Below W1.heap.size W1 wr := (HBEL.out.trans (HB33.out.mono (by omega))).trans (gb_below_of hgb (by omega) (by omega))
          have HBEL4 := Lib.hid hbel4
          clear hrow hgb hbxr hbw hbel4
          go_wp2_with (first | (go_at_call 39; refine HC4.out.mono ?_; rintro e w5 ⟨rfl, hR5, hgb5⟩))
          have HR5 : Hid (RowV 4 w5 wo.heap.size (i + 1) (fun j => .bool (PP (lowAt L) (lowS T) j (k + 1)))) := hR5.congr (fun x hx => by rw [OP_low, PP_s _ _ i k x (by omega) (by show (sgAt L i).1 ≠ 2; rw [sgAt_end (by rw [HN.out]; omega)]; decide)])
          have HB5 : Hid (Below W1.heap.size W1 w5) := HBEL4.out.trans (gb_below_of hgb5 (by omega) (by omega))
          clear hR5 hgb5
          go_roundg (G - 1)
          case measure => omega
          case rel => exact ⟨k + 1, wo.heap.size, by omega, by go_num, rfl, HR5.out, HB5.out⟩
    · have hki : ¬ (k : Int) < (s.size : Int) := by have := HM.out; omega
      have hkT : k = T.length := by omega
      have q1 := hrow.cell (j := n) (by omega)
      have hv : PP (lowAt L) (lowS T) n k = fitB L T := by
        rw [PP_end _ _ (by show (sgAt L n).1 ≠ 2; rw [sgAt_end (by rw [HN.out]; omega)]; decide), hkT]
        unfold fitB
        rw [HN.out]
      rw [hv] at q1
      have hbw : Below w.heap.size w wr := HB3.out.trans (HBEL.out.mono HB3.out.size)
      have HBW := Lib.hid hbw
      clear hrow hbel hbw hv hkT
      go_wp2_with fail
      go_ret
      exact ⟨rfl, HBW.out⟩
end Go.Proofs.YtpggidkcifnhjaaDoor
