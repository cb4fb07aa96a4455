/- Bind: plain: what is bound is small; the walk of BindFormulas. Printed by gen_bfm.py. -/
import Derived.Test.YtjklbbmgjjdalaaGreatDoorBbAe
import Derived.Test.YtjklbbmgjjdalaaGreatDoorBbX
import Derived.Test.YtjklbbmgjjdalaaGreatDoorBbL
import Derived.Test.YtjklbbmgjjdalaaGreatDoorBbA
import Derived.Test.YtjklbbmgjjdalaaGreatDoorBbAd
import Derived.Test.YtjklbbmgjjdalaaGreatDoorBbAf
import Derived.Test.YtjklbbmgjjdalaaGreatDoorBbAk
import Derived.Test.YtjklbbmgjjdalaaGreatDoorBbS
import Derived.Test.YtjklbbmgjjdalaaGreatDoorBbAi
import Derived.Test.YtjklbbmgjjdalaaGreatDoorBbAo
set_option linter.unusedSimpArgs false
set_option linter.unusedVariables false
namespace Go.Proofs.YtjklbbmgjjdalaaGreatDoor.Bd
open Go.RowKit Go.Joins
theorem sm_fltB : Sm fltB := .mk _ _ _ _ _ _ (by show (0 : Nat) ≤ 200000; omega) (by show (0 : Nat) ≤ 100000; omega) (fun c h => by cases h)
theorem sm_bnZ : Sm bnZ := .mk _ _ _ _ _ _ (by show (0 : Nat) ≤ 200000; omega) (by show (0 : Nat) ≤ 100000; omega) (fun c h => by cases h)
theorem wt_child : ∀ {a : List Nd} {c : Nd}, c ∈ a → wtN c ≤ wtL a
  | x :: r, c, h => by
    rw [wtL]
    rcases List.mem_cons.1 h with rfl | h
    · omega
    · have := wt_child h
      omega
theorem sm_bd (rows cols : List Idp) {n : Nd} (h : Fm n) : wtN n ≤ 260000 → Sm (bdM rows cols n) := by
  have small : ∀ (k u : Int) (t : List UInt8) (f o : Int) (a : List Nd), a.length ≤ 16 → wtN (.mk k u t f o a) ≤ 260000 → (∀ c ∈ a, Sm (bdM rows cols c)) → Sm (bdM rows cols (.mk k u t f o a)) := fun k u t f o a ha hw hc => by
    rw [wtN] at hw
    rw [bdM]
    split
    · rw [bdML_map]
      refine .mk _ _ _ _ _ _ (by omega) (by rw [List.length_map]; omega) (fun c hm => ?_)
      obtain ⟨x, hx, rfl⟩ := List.mem_map.1 hm
      exact hc x hx
    · exact sm_fltB
  induction h with
  | num u h1 h2 => exact fun hw => small _ _ _ _ _ _ (by simp) hw (fun c hc => by cases hc)
  | txt t => exact fun hw => small _ _ _ _ _ _ (by simp) hw (fun c hc => by cases hc)
  | ref f h => exact fun hw => small _ _ _ _ _ _ (by simp) hw (fun c hc => by cases hc)
  | rng f o h1 h2 => exact fun hw => small _ _ _ _ _ _ (by simp) hw (fun c hc => by cases hc)
  | flt => exact fun hw => small _ _ _ _ _ _ (by simp) hw (fun c hc => by cases hc)
  | neg a h ih =>
    intro hw
    refine small _ _ _ _ _ _ (by simp) hw (fun c hc => ?_)
    obtain rfl := List.mem_singleton.1 hc
    refine ih ?_
    rw [wtN, wtL] at hw
    omega
  | bin t a b ht h1 h2 ih1 ih2 =>
    intro hw
    refine small _ _ _ _ _ _ (by simp) hw (fun c hc => ?_)
    rw [wtN, wtL, wtL, wtL] at hw
    rcases List.mem_cons.1 hc with rfl | hc
    · exact ih1 (by omega)
    · obtain rfl := List.mem_singleton.1 hc
      exact ih2 (by omega)
  | cal t ar ht hl h ih =>
    intro hw
    refine small _ _ _ _ _ _ hl hw (fun c hc => ih c hc ?_)
    rw [wtN] at hw
    have := wt_child hc
    omega
theorem sm_rfR (rows cols : List Idp) {n : Nd} (h : Fm n) (hw : wtN n ≤ 260000) : Sm (rfR rows cols n) := by
  unfold rfR
  split
  · exact sm_bd rows cols h hw
  · exact sm_bnZ
end Go.Proofs.YtjklbbmgjjdalaaGreatDoor.Bd
