/- The document's Distance: by a whole table. -/
import Derived.Test.YtcmpeppjopdeaaaStrC
import Derived.Deep.QuietTactic
import Derived.BigQuiet
import Derived.BigRegion
set_option linter.unusedSimpArgs false
set_option linter.unusedVariables false
namespace Go.Proofs.Ytcmpeppjopdeaaa
open Go.RowKit

theorem lev_p (A B : List UInt8) (i k : Nat) (hi : 1 ≤ i) (hk : 1 ≤ k) : lev A B i k = min (min (lev A B (i - 1) k) (lev A B i (k - 1)) + 1) (lev A B (i - 1) (k - 1) + if nx A (i - 1) = nx B (k - 1) then 0 else 1) := by
  obtain ⟨i, rfl⟩ : ∃ j, i = j + 1 := ⟨i - 1, by omega⟩
  obtain ⟨k, rfl⟩ : ∃ j, k = j + 1 := ⟨k - 1, by omega⟩
  exact lev_s A B i k
abbrev tRow : TypeId := 37
theorem info_row : (Try.prog.info? 37).map (fun i => (i.zero, i.size, i.bytes)) = some (some (.slice none 0 0), 1, 24) := by kernel_rfl
theorem made_rows (n : Nat) : (madeCells #[Value.slice none 0 0] (n * 1)).toList = List.replicate n (.slice none 0 0) := by
  apply List.ext_getElem
  · simp [madeCells]
  · intro i h1 h2
    simp [madeCells, Nat.mod_one]
/-- Block tb is a table of so many rows, the first i of them laid. -/
def Tab (w : World) (tb m n i : Nat) (R : Nat → Nat) : Prop := ∃ cs : Array Value, w.heap[tb]? = some (.cells cs tRow (0, 0)) ∧ cs.size = m ∧ ∀ x, x < i → cs[x]? = some (.slice (some ⟨R x, 0, none⟩) (n + 1) (n + 1))
theorem Tab.cell {w : World} {tb m n i : Nat} {R : Nat → Nat} (h : Tab w tb m n i R) {x : Nat} (hx : x < i) : w.cell? ⟨tb, x, none⟩ = some (.slice (some ⟨R x, 0, none⟩) (n + 1) (n + 1)) := by
  obtain ⟨cs, h1, h2, h3⟩ := h
  simp [World.cell?, h1, h3 x hx]
theorem Tab.has {w : World} {tb m n i : Nat} {R : Nat → Nat} (h : Tab w tb m n i R) {x : Nat} (hx : x < m) : ∃ u, w.cell? ⟨tb, x, none⟩ = some u := by
  obtain ⟨cs, h1, h2, h3⟩ := h
  exact ⟨cs[x], by simp [World.cell?, h1, Array.getElem?_eq_getElem (show x < cs.size by omega)]⟩
theorem Tab.free {w : World} {tb m n i : Nat} {R : Nat → Nat} (h : Tab w tb m n i R) (x : Nat) : w.frozen? ⟨tb, x, none⟩ = false := by
  obtain ⟨cs, h1, h2, h3⟩ := h
  simp [World.frozen?, h1]
theorem Tab.lt {w : World} {tb m n i : Nat} {R : Nat → Nat} (h : Tab w tb m n i R) : tb < w.heap.size := by
  obtain ⟨cs, h1, _⟩ := h
  rcases Nat.lt_or_ge tb w.heap.size with h' | h'
  · exact h'
  · rw [Array.getElem?_eq_none h'] at h1; cases h1
theorem Tab.same {w w' : World} {tb m n i : Nat} {R : Nat → Nat} (h : Tab w tb m n i R) (hs : w'.heap[tb]? = w.heap[tb]?) : Tab w' tb m n i R := by
  obtain ⟨cs, h1, h2⟩ := h
  exact ⟨cs, hs.trans h1, h2⟩
theorem RowF.same {w w' : World} {r n : Nat} {f : Nat → Nat} (h : RowF w r n f) (hs : w'.heap[r]? = w.heap[r]?) : RowF w' r n f := by
  obtain ⟨cs, h1, h2⟩ := h
  exact ⟨cs, hs.trans h1, h2⟩
theorem Tab.push {w : World} {tb m n i r : Nat} {R : Nat → Nat} (h : Tab w tb m n i R) (hi : i < m) : Tab (w.setCell ⟨tb, i, none⟩ (.slice (some ⟨r, 0, none⟩) (n + 1) (n + 1))) tb m n (i + 1) (fun x => if x = i then r else R x) := by
  obtain ⟨cs, h1, h2, h3⟩ := h
  refine ⟨cs.setIfInBounds i (.slice (some ⟨r, 0, none⟩) (n + 1) (n + 1)), ?_, by simpa using h2, fun x hx => ?_⟩
  · simp [World.setCell, Array.getElem?_modify, h1]
  · show (cs.setIfInBounds i _)[x]? = some (.slice (some ⟨if x = i then r else R x, 0, none⟩) (n + 1) (n + 1))
    rw [Array.getElem?_setIfInBounds]
    by_cases hxi : x = i
    · subst hxi
      simp [h2, hi]
    · rw [if_neg (fun e => hxi e.symm), if_neg hxi]
      exact h3 x (by omega)
theorem gb_heap {w w' : World} {g b : Nat} (h : w.grownBy w' (some g)) (hb : b < w.heap.size) (hne : b ≠ g) : w'.heap[b]? = w.heap[b]? := h.block b hb (by intro e; injection e with e; exact hne e)
theorem RowF.drewN {w : World} {r n : Nat} {f : Nat → Nat} (h : RowF w r n f) (k : Nat) : RowF (w.drewN k) r n f := h
theorem gb_drewN {w w' : World} {row : Option Nat} (h : w.grownBy w' row) (k : Nat) : w.grownBy (w'.drewN k) row := ⟨h.os, h.tape, h.output, h.size, h.block⟩
/-- The rows that are done. -/
def Done (w : World) (tb n i : Nat) (R : Nat → Nat) (A B : List UInt8) : Prop := ∀ x, x < i → tb < R x ∧ R x < w.heap.size ∧ RowF w (R x) n (lev A B x)

set_option maxRecDepth 100000 in
set_option maxHeartbeats 4000000 in
theorem rdist_core (a b : ByteArray) (A B : List UInt8) (hA : a.data.toList = A) (hB : b.data.toList = B) (ha : a.size ≤ 1000) (hb : b.size ≤ 1000) (w : World) :
    Calls Try.prog 8 #[.string a, .string b] w fun e w' => e = .returned (.int .i64 (lev A B a.size b.size : Int)) ∧ Below w.heap.size w w' := by
  obtain ⟨i0, hi, hz0, hz1, hz2⟩ := info_parts info_int
  obtain ⟨j0, ji, jz0, jz1, jz2⟩ := info_parts info_row
  have HA := Lib.hid hA
  have HB := Lib.hid hB
  clear hA hB
  obtain ⟨n, hn⟩ : ∃ n, b.size = n := ⟨_, rfl⟩
  obtain ⟨m, hm⟩ : ∃ m, a.size = m := ⟨_, rfl⟩
  obtain ⟨tb, htb⟩ : ∃ tb, w.heap.size = tb := ⟨_, rfl⟩
  go_enter Try.func8, Try.ntmps8
  rw [hn, hm]
  rw [hn] at hb
  rw [hm] at ha
  go_wp2_with (at_make; refine wpList_make_full _ rfl _ _ _ rfl w.heap.size 37 j0 (.slice none 0 0) 1 Try.underlying39 ji jz0 jz1 .i64 .i64 _ _ (m + 1) rfl rfl rfl rfl (by rw [jz2]; omega) (by unfold maxLen; omega) (Nat.le_refl _) ?_; intro w0 hown0 hgrow0)
  have hbl0 : Below w.heap.size w w0 := (Below.refl _ _).grown hgrow0 (Nat.le_refl _) (fun k hk => by cases hk)
  have htab0 : Tab w0 w.heap.size (m + 1) n 0 (fun _ => 0) := by
    obtain ⟨hl, ⟨hv, _⟩ | ⟨g, cap', cur, hv, hg, hh, hn', hm', hs, ht⟩⟩ := hown0
    · cases hv
    · cases hv
      exact ⟨cur, hh, by omega, fun x hx => by omega⟩
  rw [htb] at hbl0 htab0
  have HBL0 := Lib.hid hbl0
  have HT0 := Lib.hid htab0
  clear hown0 hgrow0 hbl0 htab0
  go_loopw [6] (fun v wr => ∃ (i : Nat) (R : Nat → Nat), v = .int .i64 i ∧ i ≤ m + 1 ∧ Tab wr tb (m + 1) n i R ∧ Done wr tb n i R A B ∧ Below tb w wr) (fun v _ => m + 1 - (intOf v).toNat)
  case atStart => exact ⟨0, _, rfl, by omega, HT0.out, fun x hx => by omega, HBL0.out⟩
  case round =>
    obtain ⟨i, R, rfl, him, htab, hdone, hbel⟩ := hrel
    have HTAB := Lib.hid htab
    have HDONE := Lib.hid hdone
    have HBEL := Lib.hid hbel
    have hzt := htab.lt
    rcases Nat.lt_or_ge i (m + 1) with hilt | hige
    · have hii : (i : Int) ≤ (m : Int) := by omega
      have hii2 : (i : Int) < (m : Int) + 1 := by omega
      clear htab hdone hbel HT0 HBL0
      obtain ⟨zr, hzr⟩ : ∃ z, wr.heap.size = z := ⟨_, rfl⟩
      go_wp2_with (at_make; refine wpList_make_full _ rfl _ _ _ rfl wr.heap.size 3 i0 (.int .i64 0) 1 Try.underlying37 hi hz0 hz1 .i64 .i64 _ _ (n + 1) rfl rfl rfl rfl (by rw [hz2]; omega) (by unfold maxLen; omega) (Nat.le_refl _) ?_; intro w1 hown1 hgrow1; obtain ⟨u1, c1⟩ := (HTAB.out.same (hgrow1.block tb hzt (by intro e; cases e))).has (x := i) hilt; have f1 := (HTAB.out.same (hgrow1.block tb hzt (by intro e; cases e))).free i)
      have hrow1 : RowF w1 wr.heap.size n (fun _ => 0) := RowF.of_own hown1 (by omega) _ (fun j hj => by rw [show (madeCells (Value.int IntKind.i64 0).cells ((n + 1) * 1)).toList = _ from made_ints (n + 1)]; simp [List.getElem?_replicate]; omega)
      have hzw : wr.heap.size ≤ w1.heap.size := hgrow1.size
      have hold : ∀ b, b < wr.heap.size → w1.heap[b]? = wr.heap[b]? := fun b hb => hgrow1.block b hb (by intro e; cases e)
      have htab1 := HTAB.out.same (hold tb hzt)
      rw [hzr] at hrow1 hzw hzt
      have hzr2 := hrow1.lt
      have HTAB2 := Lib.hid (htab1.push (r := zr) hilt)
      have HROW2 : Hid (RowF (w1.setCell ⟨tb, i, none⟩ (.slice (some ⟨zr, 0, none⟩) (n + 1) (n + 1))) zr n (fun _ => 0)) := hrow1.same (Below.heap_setCell _ _ _ _ (by show zr ≠ tb; omega))
      have HDONE2 : Hid (Done (w1.setCell ⟨tb, i, none⟩ (.slice (some ⟨zr, 0, none⟩) (n + 1) (n + 1))) tb n i R A B) := fun x hx => by
        obtain ⟨q1, q2, q3⟩ := HDONE.out x hx
        rw [hzr] at q2
        exact ⟨q1, by simp [World.setCell]; omega, q3.same ((Below.heap_setCell _ _ _ _ (by show R x ≠ tb; omega)).trans (hold _ (by omega)))⟩
      have HRL : Hid (∀ x, x < i → R x < zr) := fun x hx => by have := (HDONE.out x hx).2.1; omega
      have HBEL2 : Hid (Below tb w (w1.setCell ⟨tb, i, none⟩ (.slice (some ⟨zr, 0, none⟩) (n + 1) (n + 1)))) := (HBEL.out.grown hgrow1 (by omega) (fun k hk => by cases hk)).setCell (Nat.le_refl _) _
      have hz3 : zr < (w1.setCell ⟨tb, i, none⟩ (.slice (some ⟨zr, 0, none⟩) (n + 1) (n + 1))).heap.size := by simp [World.setCell]; omega
      clear hown1 hgrow1 hrow1 hold htab1 HTAB HDONE HBEL
      generalize w1.setCell ⟨tb, i, none⟩ (.slice (some ⟨zr, 0, none⟩) (n + 1) (n + 1)) = Wi at HTAB2 HROW2 HDONE2 HBEL2 hz3 ⊢
      clear c1 f1 hzw hzr2 hzr
      go_loopw [7] (fun v wx => ∃ k : Nat, v = .int .i64 k ∧ k ≤ n + 1 ∧ RowF wx zr n (fun j => if j < k then lev A B i j else 0) ∧ Wi.grownBy wx (some zr)) (fun v _ => n + 1 - (intOf v).toNat)
      case atStart => exact ⟨0, rfl, by omega, HROW2.out.congr (fun x hx => by simp), gb_below (Below.refl _ _) _⟩
      case round =>
        obtain ⟨k, rfl, hkn, hrow, hgb⟩ := hrel
        have HROW := Lib.hid hrow
        have HGB := Lib.hid hgb
        have htbz : tb < Wi.heap.size := HTAB2.out.lt
        rcases Nat.lt_or_ge k (n + 1) with hklt | hkge
        · have hkk : (k : Int) ≤ (n : Int) := by omega
          have hkk2 : (k : Int) < (n : Int) + 1 := by omega
          have ht1 := HTAB2.out.same (gb_heap hgb htbz (by omega))
          have t1 := ht1.cell (x := i) (by omega)
          rw [if_pos rfl] at t1
          have g1 := hrow.cell (j := k) (by omega)
          rw [if_neg (by omega)] at g1
          have g2 := hrow.free k
          have hset : ∀ wq v, RowF wq zr n (fun j => if j < k then lev A B i j else if j = k then v else 0) → v = lev A B i k → RowF wq zr n (fun j => if j < k + 1 then lev A B i j else 0) := fun wq v h hv => h.congr (fun x hx => by
            by_cases h1 : x < k
            · rw [if_pos (by omega), if_pos h1]
            · by_cases h2 : x = k
              · subst h2; rw [if_pos (by omega), if_neg h1, if_pos rfl, hv]
              · rw [if_neg (by omega), if_neg h1, if_neg h2])
          have HSET := Lib.hid hset
          have hst : ∀ v, RowF (wr.setCell ⟨zr, k, none⟩ (.int .i64 ((v : Nat) : Int))) zr n (fun j => if j < k then lev A B i j else if j = k then v else 0) := fun v => hrow.set (by omega) v (fun x hx => by
            by_cases h2 : x = k
            · subst h2; rw [if_neg (by omega), if_pos rfl, if_pos rfl]
            · rw [if_neg h2, if_neg h2])
          have HST := Lib.hid hst
          clear hset hst
          by_cases h0 : i = 0 ∨ k = 0
          · have hv : i + k = lev A B i k := by rcases h0 with h | h <;> subst h <;> simp [lev_0, lev_i0]
            have HN := Lib.hid (HSET.out _ _ (HST.out (i + k)) hv)
            have HG := Lib.hid (gb_set (p := ⟨zr, k, none⟩) hgb (.inr rfl) (.int .i64 ((i + k : Nat) : Int)))
            clear hrow hgb ht1 hv
            have h0' : i = 0 ∨ (1 ≤ i ∧ k = 0) := by omega
            clear h0
            rcases h0' with h | ⟨h, h'⟩
            · have e1 : (((i : Nat) : Int) == 0) = true := by simp [h]
              have HH := Lib.hid h
              clear h
              go_wp2_with fail
              go_roundw
              case rel => exact ⟨k + 1, by go_num, by omega, by simpa using HN.out, by simpa using HG.out⟩
              case measure => simp [intOf]; omega
            · have e1 : (((i : Nat) : Int) == 0) = false := by simp; omega
              have e2 : (((k : Nat) : Int) == 0) = true := by simp [h']
              have HH := Lib.hid h'
              clear h'
              go_wp2_with fail
              go_roundw
              case rel => exact ⟨k + 1, by go_num, by omega, by simpa using HN.out, by simpa using HG.out⟩
              case measure => simp [intOf]; omega
          · have hi1 : 1 ≤ i := by omega
            have hk1 : 1 ≤ k := by omega
            have e1 : (((i : Nat) : Int) == 0) = false := by simp; omega
            have e2 : (((k : Nat) : Int) == 0) = false := by simp; omega
            have t2 := ht1.cell (x := i - 1) (by omega)
            rw [if_neg (by omega)] at t2
            obtain ⟨d1, d2, d3⟩ := HDONE2.out (i - 1) (by omega)
            have hrp := d3.same (gb_heap hgb d2 (by have := HRL.out (i - 1) (by omega); omega))
            have hrz := HRL.out (i - 1) (by omega)
            obtain ⟨rp, hrpn⟩ : ∃ rp, R (i - 1) = rp := ⟨_, rfl⟩
            rw [hrpn] at t2 d1 d2 d3 hrp hrz
            have q1 := hrp.cell (j := k) (by omega)
            have q2 := hrp.cell (j := k - 1) (by omega)
            have q3 := hrow.cell (j := k - 1) (by omega)
            rw [if_pos (by omega)] at q3
            have hl := lev_p A B i k hi1 hk1
            have b1 := lev_le A B (i - 1) k
            have b2 := lev_le A B (i - 1) (k - 1)
            have b3 := lev_le A B i (k - 1)
            obtain ⟨p, hp⟩ : ∃ p, lev A B (i - 1) (k - 1) = p := ⟨_, rfl⟩
            obtain ⟨q, hq⟩ : ∃ q, lev A B i (k - 1) = q := ⟨_, rfl⟩
            obtain ⟨t, ht⟩ : ∃ t, lev A B (i - 1) k = t := ⟨_, rfl⟩
            have hsa := nx_str a (i - 1) (by omega)
            have hsb := nx_str b (k - 1) (by omega)
            rw [HA.out] at hsa
            rw [HB.out] at hsb
            obtain ⟨c, hc⟩ : ∃ c, nx A (i - 1) = c := ⟨_, rfl⟩
            obtain ⟨d, hd⟩ : ∃ d, nx B (k - 1) = d := ⟨_, rfl⟩
            rw [hp, hq, ht, hc, hd] at hl
            rw [ht] at q1 b1
            rw [hp] at q2 b2
            rw [hq] at q3 b3
            rw [hc] at hsa
            rw [hd] at hsb
            have HL := Lib.hid hl
            have HRPN := Lib.hid hrpn
            have HRW := Lib.hid d3
            have HP := Lib.hid hp
            clear hrow hgb ht1 hl hp hq ht hc hd d3 hrp h0 hrpn
            go_wp2_with fail
            go_region
            all_goals
              have hv1 : min (t : Int) (q : Int) + 1 = ((min t q + 1 : Nat) : Int) := by omega
              rw [hv1]
              have HR2 := Lib.hid ((HST.out (min t q + 1)).drew)
              have HG2 := Lib.hid (gb_drew (gb_set (p := ⟨zr, k, none⟩) HGB.out (.inr rfl) (.int .i64 ((min t q + 1 : Nat) : Int))))
              generalize (wr.setCell ⟨zr, k, none⟩ (.int .i64 ((min t q + 1 : Nat) : Int))).drew = w2 at HR2 HG2 ⊢
              clear t1 t2 q1 q2 q3 g1 g2 hv1
              have ht1 := HTAB2.out.same (gb_heap HG2.out htbz (by omega))
              have t1 := ht1.cell (x := i) (by omega)
              rw [if_pos rfl] at t1
              have t2 := ht1.cell (x := i - 1) (by omega)
              rw [if_neg (by omega), HRPN.out] at t2
              have hrp := (HRW.out).same (gb_heap HG2.out d2 (by omega))
              have q2 := hrp.cell (j := k - 1) (by omega)
              rw [HP.out] at q2
              have g1 := HR2.out.cell (j := k) (by omega)
              rw [if_neg (by omega), if_pos rfl] at g1
              have g2 := HR2.out.free k
              obtain ⟨v1, hv1⟩ : ∃ v1, min t q + 1 = v1 := ⟨_, rfl⟩
              rw [hv1] at g1
              have HV1 := Lib.hid hv1
              have hvb : v1 ≤ 5000 := by omega
              clear hv1 ht1 hrp
              by_cases hcd : c = d
              · have ecd : (((a[i - 1].toNat : Nat) : Int) == ((b[k - 1].toNat : Nat) : Int)) = true := by rw [hsa, hsb]; simp [hcd]
                have HCD := Lib.hid hcd
                go_wp2_with fail
                go_quiet (fail)
                go_wp2_with fail
                go_region
                all_goals
                  have hv2 : min (v1 : Int) (p : Int) = ((lev A B i k : Nat) : Int) := by
                    rw [HL.out, if_pos HCD.out, HV1.out]
                    omega
                  rw [hv2]
                  clear hv2
                  have HN := Lib.hid (fun N => HSET.out _ _ ((RowF.drewN HR2.out N).set (j := k) (by omega) (lev A B i k) (g := fun j => if j < k then lev A B i j else if j = k then lev A B i k else 0) (fun x hx => by
                    by_cases h2 : x = k
                    · subst h2; rw [if_neg (by omega), if_pos rfl, if_pos rfl]
                    · by_cases h3 : x < k
                      · rw [if_pos h3, if_neg h2, if_pos h3]
                      · rw [if_neg h3, if_neg h2, if_neg h2, if_neg h3, if_neg h2])) rfl)
                  have HGN := Lib.hid (fun N => gb_set (p := ⟨zr, k, none⟩) (gb_drewN HG2.out N) (.inr rfl) (.int .i64 ((lev A B i k : Nat) : Int)))
                  go_wp2_with fail
                  go_roundw
                  case rel => exact ⟨k + 1, by go_num, by omega, HN.out _, HGN.out _⟩
                  case measure => simp [intOf]; omega
              · have ecd : (((a[i - 1].toNat : Nat) : Int) == ((b[k - 1].toNat : Nat) : Int)) = false := by rw [hsa, hsb]; simp; omega
                have HCD := Lib.hid hcd
                go_wp2_with fail
                go_quiet (fail)
                go_wp2_with fail
                go_region
                all_goals
                  have hv2 : min (v1 : Int) ((p : Int) + 1) = ((lev A B i k : Nat) : Int) := by
                    rw [HL.out, if_neg HCD.out, HV1.out]
                    omega
                  rw [hv2]
                  clear hv2
                  have HN := Lib.hid (fun N => HSET.out _ _ ((RowF.drewN HR2.out N).set (j := k) (by omega) (lev A B i k) (g := fun j => if j < k then lev A B i j else if j = k then lev A B i k else 0) (fun x hx => by
                    by_cases h2 : x = k
                    · subst h2; rw [if_neg (by omega), if_pos rfl, if_pos rfl]
                    · by_cases h3 : x < k
                      · rw [if_pos h3, if_neg h2, if_pos h3]
                      · rw [if_neg h3, if_neg h2, if_neg h2, if_neg h3, if_neg h2])) rfl)
                  have HGN := Lib.hid (fun N => gb_set (p := ⟨zr, k, none⟩) (gb_drewN HG2.out N) (.inr rfl) (.int .i64 ((lev A B i k : Nat) : Int)))
                  go_wp2_with fail
                  go_roundw
                  case rel => exact ⟨k + 1, by go_num, by omega, HN.out _, HGN.out _⟩
                  case measure => simp [intOf]; omega
        · obtain rfl : k = n + 1 := by omega
          have hkk : (n : Int) < ((n + 1 : Nat) : Int) := by omega
          have HTN := Lib.hid (HTAB2.out.same (gb_heap hgb htbz (by omega)))
          have HDN : Hid (Done wr tb n (i + 1) (fun x => if x = i then zr else R x) A B) := fun x hx => by
            show tb < (if x = i then zr else R x) ∧ (if x = i then zr else R x) < wr.heap.size ∧ RowF wr (if x = i then zr else R x) n (lev A B x)
            by_cases h : x = i
            · subst h
              rw [if_pos rfl]
              exact ⟨by omega, HROW.out.lt, HROW.out.congr (fun y hy => by rw [if_pos (by omega)])⟩
            · rw [if_neg h]
              obtain ⟨q1, q2, q3⟩ := HDONE2.out x (by omega)
              exact ⟨q1, Nat.lt_of_lt_of_le q2 hgb.size, q3.same (gb_heap hgb q2 (by have := HRL.out x (by omega); omega))⟩
          have HBN : Hid (Below tb w wr) := HBEL2.out.trans (gb_below_of hgb (by omega) (by omega))
          clear hrow hgb
          go_wp2_with fail
          go_roundw
          case rel => exact ⟨i + 1, _, by go_num, by omega, HTN.out, HDN.out, HBN.out⟩
          case measure => simp [intOf]; omega
    · obtain rfl : i = m + 1 := by omega
      have hii : (m : Int) < ((m + 1 : Nat) : Int) := by omega
      have t1 := htab.cell (x := m) (by omega)
      obtain ⟨d1, d2, d3⟩ := hdone m (by omega)
      have q1 := d3.cell (j := n) (Nat.le_refl _)
      have hmm : (m : Int) < (m : Int) + 1 := by omega
      have hnn : (n : Int) < (n : Int) + 1 := by omega
      clear htab hdone hbel d3
      go_wp2_with fail
      go_ret
      exact ⟨rfl, by rw [htb]; exact HBEL.out⟩

theorem rdist_any (a b : ByteArray) (d : Nat) (ha : a.size ≤ 1000) (hb : b.size ≤ 1000) (hd : lev a.data.toList b.data.toList a.size b.size = d) (w : World) :
    Calls Try.prog 8 #[.string a, .string b] w fun e w' => e = .returned (.int .i64 (d : Int)) ∧ Below w.heap.size w w' := by
  subst hd
  exact rdist_core a b _ _ rfl rfl ha hb w

set_option maxRecDepth 100000 in
set_option maxHeartbeats 1000000 in
theorem distances_walk (a b : ByteArray) (w : World) :
    Calls Try.prog 3 #[.string a, .string b] w fun e w' => e = .returned (.bool true) ∧ Below w.heap.size w w' := by
  by_cases h1 : a.size ≤ 120
  · by_cases h2 : b.size ≤ 120
    · have h1' : (a.size : Int) ≤ 120 := by omega
      have h2' : (b.size : Int) ≤ 120 := by omega
      obtain ⟨d, hd⟩ : ∃ d, lev a.data.toList b.data.toList a.size b.size = d := ⟨_, rfl⟩
      have hd2 : lev b.data.toList a.data.toList b.size a.size = d := by rw [← hd]; exact lev_sym _ _ _ _ _ (Nat.le_refl _)
      have HD := Lib.hid hd
      have HD2 := Lib.hid hd2
      clear hd hd2
      go_enter Try.func3, Try.ntmps3
      go_wp2_with fail
      refine (dist_any a b d (by omega) (by omega) HD.out _).mono ?_
      rintro e w1 ⟨rfl, hb1⟩
      have HB1 := Lib.hid hb1
      have hz1 := hb1.size
      clear hb1
      go_wp2_with fail
      refine (rdist_any a b d (by omega) (by omega) HD.out _).mono ?_
      rintro e w2 ⟨rfl, hb2⟩
      have HB2 : Hid (Below w.heap.size w w2) := HB1.out.trans (hb2.mono hz1)
      clear hb2
      go_wp2_with fail
      refine (dist_any b a d (by omega) (by omega) HD2.out _).mono ?_
      rintro e w3 ⟨rfl, hb3⟩
      have HB3 : Hid (Below w.heap.size w w3) := HB2.out.trans (hb3.mono HB2.out.size)
      clear hb3
      go_wp2_with fail
      refine (rdist_any a b d (by omega) (by omega) HD.out _).mono ?_
      rintro e w4 ⟨rfl, hb4⟩
      have HB4 : Hid (Below w.heap.size w w4) := HB3.out.trans (hb4.mono HB3.out.size)
      clear hb4
      go_wp2_with fail
      refine (awake_any _).mono ?_
      rintro e w5 ⟨rfl, hb5⟩
      have HB5 : Hid (Below w.heap.size w w5) := HB4.out.trans (hb5.mono HB4.out.size)
      clear hb5
      go_wp2_with fail
      go_ret
      exact ⟨rfl, HB5.out⟩
    · have h1' : (a.size : Int) ≤ 120 := by omega
      have h2' : (120 : Int) < (b.size : Int) := by omega
      go_enter Try.func3, Try.ntmps3
      go_wp2_with fail
      refine (awake_any _).mono ?_
      rintro e w5 ⟨rfl, hb5⟩
      go_wp2_with fail
      go_ret
      exact ⟨rfl, hb5⟩
  · have h1' : (120 : Int) < (a.size : Int) := by omega
    go_enter Try.func3, Try.ntmps3
    go_wp2_with fail
    refine (awake_any _).mono ?_
    rintro e w5 ⟨rfl, hb5⟩
    go_wp2_with fail
    go_ret
    exact ⟨rfl, hb5⟩
end Go.Proofs.Ytcmpeppjopdeaaa
