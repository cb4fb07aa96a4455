/- Wire: the document's Run; its reader in memory: num. -/
import Derived.Test.YtljloggbfmnjmaaDoorWirE
set_option linter.unusedSimpArgs false
set_option linter.unusedVariables false
namespace Go.Proofs.YtljloggbfmnjmaaDoor
open Go.RowKit Go.Joins

/-- What the document's Run answers. -/
def RuP (B : Nat) (L : List UInt8) (w : World) (e : Ending) (w' : World) : Prop := Below w.heap.size w w' ∧ match bytD L with
  | none => e = .returned (.tuple #[.slice none 0 0, .int .i64 0])
  | some (x, r) => ∃ p cap k, e = .returned (.tuple #[.slice p x.length cap, .int .i64 (k : Nat)]) ∧ RdU w' B p x.length cap x ∧ 0 < k ∧ k ≤ L.length ∧ r = L.drop k
/-- The rest is what lies behind. -/
theorem numL_drop : ∀ (L : List UInt8) (i n v : Nat) (r : List UInt8), numL i n L = some (v, r) → r = L.drop (L.length - r.length) := by
  intro L
  induction L with
  | nil => intro i n v r h; rw [numL] at h; cases h
  | cons c L ih =>
    intro i n v r h
    have hle := numL_le _ _ _ _ _ h
    rw [List.length_cons] at hle
    rw [numL] at h
    have key : r = L.drop (L.length - r.length) := by
      repeat' split at h
      all_goals first
        | exact ih _ _ _ _ h
        | (cases h; done)
        | (cases h; rw [Nat.sub_self, List.drop_zero])
    rw [List.length_cons, show L.length + 1 - r.length = (L.length - r.length) + 1 by omega, List.drop_succ_cons]
    exact key
set_option maxRecDepth 100000 in
set_option maxHeartbeats 4000000 in
theorem rrun_any (p : Option Addr) (n cap B : Nat) (L : List UInt8) (hn : n ≤ 100000) (w : World) (hL : RdU w B p n cap L) : Calls Tryd.prog 32 #[.slice p n cap] w (RuP B L w) := by
  have HT := Lib.hid (rtake_any p n cap B L hn w hL)
  have HR := Lib.hid hL
  obtain ⟨hl, hnc, hcm, hcs⟩ := hL
  unfold maxLen at hcm
  have HL := Lib.hid hl
  cases hv : numD L with
  | none =>
    have ht : takD L = (0, 0) := by unfold takD; rw [hv]
    have hb : bytD L = none := by unfold bytD intD; rw [hv]
    have HG : Hid (∀ e w', e = .returned (.tuple #[.slice none 0 0, .int .i64 0]) → Below w.heap.size w w' → RuP B L w e w') := fun e w' h1 h2 => by unfold RuP; rw [hb]; exact ⟨h2, h1⟩
    unfold TkP at HT
    rw [ht] at HT
    clear hv ht hb hl hcs
    go_enter Tryd.func32, Tryd.ntmps32
    go_wp2_with fail
    refine HT.out.mono ?_
    rintro e w1 ⟨rfl, hb1⟩
    have HB1 := Lib.hid hb1
    clear hb1
    go_wp2_with fail
    go_ret2
    exact HG.out _ _ rfl HB1.out
  | some x =>
    obtain ⟨v, r⟩ := x
    have hlt := numD_lt hv
    have hrl := numL_le _ _ _ _ _ hv
    have hrd := numL_drop _ _ _ _ _ hv
    obtain ⟨k, hk⟩ : ∃ k, L.length - r.length = k := ⟨_, rfl⟩
    have ht : takD L = (v, k) := by unfold takD; rw [hv]; show (v, L.length - r.length) = _; rw [hk]
    rw [hk] at hrd
    have hk0 : 0 < k := by omega
    have hkn : k ≤ n := by omega
    have hrn : r.length = n - k := by omega
    unfold TkP at HT
    rw [ht] at HT
    have hk0i : ((k : Int) == 0) = false := by simp; omega
    by_cases hbad : 65536 < v ∨ n - k < v
    · have hb : bytD L = none := by
        unfold bytD intD
        rw [hv]
        by_cases h : 65536 < v
        · simp [h]
        · have : r.length < v := by omega
          simp [h, this]
      have HG : Hid (∀ e w', e = .returned (.tuple #[.slice none 0 0, .int .i64 0]) → Below w.heap.size w w' → RuP B L w e w') := fun e w' h1 h2 => by unfold RuP; rw [hb]; exact ⟨h2, h1⟩
      clear hv ht hb hl hcs hrd hrl hk
      by_cases h65 : 65536 < v
      · have h65i : (65536 : Int) < (v : Int) := by omega
        clear hbad
        go_enter Tryd.func32, Tryd.ntmps32
        go_wp2_with fail
        refine HT.out.mono ?_
        rintro e w1 ⟨rfl, hb1⟩
        have HB1 := Lib.hid hb1
        clear hb1
        go_wp2_with fail
        go_ret2
        exact HG.out _ _ rfl HB1.out
      · have h65i : ¬ (65536 : Int) < (v : Int) := by omega
        have hq : IntKind.i64.wrap (v : Int) = (v : Int) := IntWalk.i64_in _ (by omega)
        have hlt2 : (n : Int) - (k : Int) < (v : Int) := by omega
        clear hbad
        go_enter Tryd.func32, Tryd.ntmps32
        go_wp2_with fail
        refine HT.out.mono ?_
        rintro e w1 ⟨rfl, hb1⟩
        have HB1 := Lib.hid hb1
        clear hb1
        go_wp2_with fail
        go_ret2
        exact HG.out _ _ rfl HB1.out
    · have h65i : ¬ (65536 : Int) < (v : Int) := by omega
      have hq : IntKind.i64.wrap (v : Int) = (v : Int) := IntWalk.i64_in _ (by omega)
      have hlt2 : ¬ (n : Int) - (k : Int) < (v : Int) := by omega
      have hkv : k + v ≤ n := by omega
      have hxl : (r.take v).length = v := by rw [List.length_take]; omega
      have hdd : r.drop v = L.drop (k + v) := by rw [hrd, List.drop_drop]
      have hb : bytD L = some (r.take v, r.drop v) := by
        unfold bytD intD
        rw [hv]
        have h1 : ¬ 65536 < v := by omega
        have h2 : ¬ r.length < v := by omega
        simp [h1, h2]
      have HG : Hid (∀ e w' p' m cap', e = .returned (.tuple #[.slice p' m cap', .int .i64 ((k : Int) + (v : Int))]) → m = v → RdU w' B p' v cap' (r.take v) → Below w.heap.size w w' → RuP B L w e w') := fun e w' p' m cap' h1 hm h2 h3 => by
        subst hm
        unfold RuP
        rw [hb]
        exact ⟨h3, p', cap', k + m, by rw [hxl]; exact h1, by rw [hxl]; exact h2, by omega, by omega, hdd⟩
      rcases hcs with ⟨_, h0, _⟩ | ⟨b, off, rfl, _, _, _⟩
      · omega
      have HRT : Hid (r.take v = (L.drop k).take v) := by unfold Hid; rw [← hrd]
      clear hv ht hb hl hrd hrl hk hxl hdd
      by_cases hce : cap = k
      · subst hce
        obtain rfl : v = 0 := by omega
        go_enter Tryd.func32, Tryd.ntmps32
        go_wp2_with fail
        refine HT.out.mono ?_
        rintro e w1 ⟨rfl, hb1⟩
        have HB1 := Lib.hid hb1
        clear hb1
        go_wp2_with fail
        go_ret2
        refine HG.out _ _ _ _ _ rfl (by omega) ?_ HB1.out
        refine ⟨by simp, Nat.le_refl _, Nat.zero_le _, ?_⟩
        rcases ((HR.out.below HB1.out).take 0 (Nat.zero_le _)).2.2.2 with h | ⟨b', o', h1, h2, h3, h4⟩
        · exact .inl ⟨h.1, rfl, rfl⟩
        · exact .inr ⟨b', o', h1, h2, h3, fun j hj => by cases hj⟩
      · have hkc : (k : Int) < (cap : Int) := by omega
        have hkvc : (k : Int) + (v : Int) ≤ (cap : Int) := by omega
        have hkvn : (k : Int) ≤ (k : Int) + (v : Int) := by omega
        clear hce
        go_enter Tryd.func32, Tryd.ntmps32
        go_wp2_with fail
        refine HT.out.mono ?_
        rintro e w1 ⟨rfl, hb1⟩
        have HB1 := Lib.hid hb1
        clear hb1
        go_wp2_with fail
        go_ret2
        refine HG.out _ _ _ _ _ rfl (by omega) ?_ HB1.out
        rw [HRT.out]
        have h := ((HR.out.below HB1.out).drop k (by omega) (off + k) (.inl rfl)).take v (by omega)
        exact h
end Go.Proofs.YtljloggbfmnjmaaDoor
