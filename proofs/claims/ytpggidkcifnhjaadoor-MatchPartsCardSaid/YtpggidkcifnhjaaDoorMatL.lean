/- Conditions: the program's Is, of texts; and all of it. -/
import Derived.Test.YtpggidkcifnhjaaDoorMatK
set_option linter.unusedSimpArgs false
set_option linter.unusedVariables false

namespace Go.Proofs.YtpggidkcifnhjaaDoor
open Go.RowKit

set_option maxRecDepth 100000 in
set_option maxHeartbeats 4000000 in
/-- A pattern of a text: the same, or not. -/
theorem is_patSame (q : Nat) (hq : q = 5 ∨ q = 0) (num : Int) (L : List Sg) (p : Option Addr) (cap : Nat) (n : Int) (t : ByteArray) (hlen : L.length ≤ 1000) (ht : t.size ≤ 1000) (hok : ∀ x ∈ L, x.1 ≤ 2 ∧ x.2 < 256) (w : World) (hL : RdG sgE 2 w p L.length L) :
    Calls Tryd.prog 8 #[.agg #[.string (sgB q), .bool false, .int .i64 num, .slice p L.length cap], .agg #[.int .i64 2, .int .i64 n, .string t]] w fun e w' => e = .returned (.bool (isB q false num L 2 n t)) ∧ Below w.heap.size w w' := by
  have HF : Hid (∀ W, Below w.heap.size w W → Calls Tryd.prog 22 #[.slice p L.length cap, .string t] W fun e w' => e = .returned (.bool (fitB L t.data.toList)) ∧ Below W.heap.size W w') := fun W hW => fits_any L p cap t hlen ht hok W (hL.below hW)
  have HV : Hid (isB q false num L 2 n t = (fitB L t.data.toList == decide (q = 5))) := by
    unfold Hid isB
    simp [hq]
  obtain ⟨r, hr⟩ : ∃ r, isB q false num L 2 n t = r := ⟨_, rfl⟩
  obtain ⟨o, ho⟩ : ∃ o, fitB L t.data.toList = o := ⟨_, rfl⟩
  rw [hr, ho] at HV
  rw [ho] at HF
  rw [hr]
  obtain ⟨ln, hln⟩ : ∃ ln, L.length = ln := ⟨_, rfl⟩
  rw [hln] at HF hlen ⊢
  clear hr ho hln hL hok
  rcases hq with rfl | rfl
  all_goals
    have hV := HV.out
    obtain rfl : r = _ := hV
    simp only [sgB]
    clear HV
    go_enter Tryd.func8, Tryd.ntmps8
    go_wp2_with fail
    refine (HF.out _ (by (repeat' (first | (with_reducible exact Below.refl _ _) | (with_reducible assumption) | (with_reducible refine Below.alloc ?_ ?_ _) | (with_reducible refine bel_drewN ?_ _) | (with_reducible refine Below.drew ?_) | (with_reducible refine Below.setCell ?_ ?_ _) | (with_reducible refine bel_call ‹_› ?_ ?_) | go_size)))).mono ?_
    rintro e w1 ⟨rfl, hb1⟩
    obtain ⟨hc1, hf1, hz1⟩ := bcell hb1 (by first | (simp only [World.size_alloc, World.size_setCell, World.size_drew]; rfl) | rfl)
    go_wp2_with fail
    go_ret
    exact ⟨by first | rfl | (cases o <;> rfl), by (repeat' (first | (with_reducible exact Below.refl _ _) | (with_reducible assumption) | (with_reducible refine Below.alloc ?_ ?_ _) | (with_reducible refine bel_drewN ?_ _) | (with_reducible refine Below.drew ?_) | (with_reducible refine Below.setCell ?_ ?_ _) | (with_reducible refine bel_call ‹_› ?_ ?_) | go_size))⟩

theorem cmp_texts (L : List Sg) (t : ByteArray) (w : World) : Calls Tryd.prog 19 #[.string ⟨(lowL t.data.toList).toArray⟩, .string ⟨(plL L).toArray⟩] w fun e w' => e = .returned (.int .i64 (cmpS L t)) ∧ Below w.heap.size w w' :=
  (Tryd.strings_Compare ⟨(lowL t.data.toList).toArray⟩ ⟨(plL L).toArray⟩ w).mono fun e w' h => ⟨h.1, by rw [h.2]; exact Below.refl _ _⟩

set_option maxRecDepth 100000 in
set_option maxHeartbeats 4000000 in
/-- A pattern of a text, ordered. -/
theorem is_patOrder (q : Nat) (hq : q < 6) (hqo : ¬ (q = 5 ∨ q = 0)) (num : Int) (L : List Sg) (p : Option Addr) (cap : Nat) (n : Int) (t : ByteArray) (hlen : L.length ≤ 1000) (ht : t.size ≤ 1000) (hok : ∀ x ∈ L, x.1 ≤ 2 ∧ x.2 < 256) (w : World) (hL : RdG sgE 2 w p L.length L) :
    Calls Tryd.prog 8 #[.agg #[.string (sgB q), .bool false, .int .i64 num, .slice p L.length cap], .agg #[.int .i64 2, .int .i64 n, .string t]] w fun e w' => e = .returned (.bool (isB q false num L 2 n t)) ∧ Below w.heap.size w w' := by
  have HP : Hid (∀ W, Below w.heap.size w W → Calls Tryd.prog 21 #[.agg #[.string (sgB q), .bool false, .int .i64 num, .slice p L.length cap]] W fun e w' => e = .returned (.string ⟨(plL L).toArray⟩) ∧ Below W.heap.size W w') := fun W hW => plain_any L (sgB q) false num p cap hlen hok W (hL.below hW)
  have HS := Lib.hid (fun W => small_any t ht W)
  have HC := Lib.hid (fun W => cmp_texts L t W)
  have HV : Hid (isB q false num L 2 n t = soB q (decide (cmpS L t < 0)) (decide (0 < cmpS L t))) := by
    unfold Hid isB
    simp [hqo]
  have hsg := sg_order q hq hqo
  obtain ⟨hs1, hs2⟩ := hsg
  have HH := Lib.hid (fun m W => (holds_any q hq m W).mono fun e w' h => (⟨h.1, h.2 ▸ Below.refl _ _⟩ : e = .returned (.bool (soB q (decide (m < 0)) (decide (0 < m)))) ∧ Below W.heap.size W w'))
  obtain ⟨r, hr⟩ : ∃ r, isB q false num L 2 n t = r := ⟨_, rfl⟩
  rw [hr] at HV ⊢
  obtain ⟨a, ha⟩ : ∃ a : ByteArray, (⟨(lowL t.data.toList).toArray⟩ : ByteArray) = a := ⟨_, rfl⟩
  obtain ⟨b, hb⟩ : ∃ b : ByteArray, (⟨(plL L).toArray⟩ : ByteArray) = b := ⟨_, rfl⟩
  rw [ha] at HS HC
  rw [hb] at HP HC
  obtain ⟨m, hm⟩ : ∃ m, cmpS L t = m := ⟨_, rfl⟩
  rw [hm] at HC HV
  have HHm := Lib.hid (HH.out m)
  rw [← HV.out] at HHm
  obtain ⟨sg, hsgb⟩ : ∃ sg, sgB q = sg := ⟨_, rfl⟩
  rw [hsgb] at hs1 hs2 HHm HP ⊢
  obtain ⟨ln, hln⟩ : ∃ ln, L.length = ln := ⟨_, rfl⟩
  rw [hln] at HP hlen ⊢
  clear hr ha hb hm hsgb hln hL hok HH HV hqo
  go_enter Tryd.func8, Tryd.ntmps8
  go_wp2_with fail
  have q0 : ((w.alloc (.cells #[.string sg, .bool false, .int .i64 num, .slice p ln cap] 32)).alloc (.cells #[.int .i64 2, .int .i64 n, .string t] 28)).cell? ⟨w.heap.size, 0, none⟩ = some (.string sg) := by go_simp
  have q1 : ((w.alloc (.cells #[.string sg, .bool false, .int .i64 num, .slice p ln cap] 32)).alloc (.cells #[.int .i64 2, .int .i64 n, .string t] 28)).cell? ⟨w.heap.size, 1, none⟩ = some (.bool false) := by go_simp
  have q2 : ((w.alloc (.cells #[.string sg, .bool false, .int .i64 num, .slice p ln cap] 32)).alloc (.cells #[.int .i64 2, .int .i64 n, .string t] 28)).cell? ⟨w.heap.size, 2, none⟩ = some (.int .i64 num) := by go_simp
  have q3 : ((w.alloc (.cells #[.string sg, .bool false, .int .i64 num, .slice p ln cap] 32)).alloc (.cells #[.int .i64 2, .int .i64 n, .string t] 28)).cell? ⟨w.heap.size, 3, none⟩ = some (.slice p ln cap) := by go_simp
  have p0 : ((w.alloc (.cells #[.string sg, .bool false, .int .i64 num, .slice p ln cap] 32)).alloc (.cells #[.int .i64 2, .int .i64 n, .string t] 28)).cell? ⟨w.heap.size + 1, 0, none⟩ = some (.int .i64 2) := by go_simp
  have p2 : ((w.alloc (.cells #[.string sg, .bool false, .int .i64 num, .slice p ln cap] 32)).alloc (.cells #[.int .i64 2, .int .i64 n, .string t] 28)).cell? ⟨w.heap.size + 1, 2, none⟩ = some (.string t) := by go_simp
  have hbx : Below w.heap.size w ((w.alloc (.cells #[.string sg, .bool false, .int .i64 num, .slice p ln cap] 32)).alloc (.cells #[.int .i64 2, .int .i64 n, .string t] 28)) := by (repeat' (first | (with_reducible exact Below.refl _ _) | (with_reducible assumption) | (with_reducible refine Below.alloc ?_ ?_ _) | (with_reducible refine bel_drewN ?_ _) | (with_reducible refine Below.drew ?_) | (with_reducible refine Below.setCell ?_ ?_ _) | (with_reducible refine bel_call ‹_› ?_ ?_) | go_size))
  generalize ((w.alloc (.cells #[.string sg, .bool false, .int .i64 num, .slice p ln cap] 32)).alloc (.cells #[.int .i64 2, .int .i64 n, .string t] 28)) = wx at q0 q1 q2 q3 p0 p2 hbx ⊢
  have r0 := cell_regrown q0
  have r1 := cell_regrown q1
  have r2 := cell_regrown q2
  have r3 := cell_regrown q3
  have s0 := cell_regrown p0
  have s2 := cell_regrown p2
  have hbg : ∀ dd os, Below w.heap.size w (Go.Sort.grow (redrawn wx dd) os) := fun dd os => bel_call (below_regrown wx dd os) hbx hbx.size
  have cS : ∀ dd os, Calls Tryd.prog 20 #[.string t] (Go.Sort.grow (redrawn wx dd) os) fun e w'' => e = .returned (.string a) ∧ ∃ p : Regrown, w'' = Go.Sort.grow (redrawn wx p.d) p.os := fun dd os => Calls.regrown_of (HS.out _)
  have cP : ∀ dd os, Calls Tryd.prog 21 #[.agg #[.string sg, .bool false, .int .i64 num, .slice p ln cap]] (Go.Sort.grow (redrawn wx dd) os) fun e w'' => e = .returned (.string b) ∧ ∃ p : Regrown, w'' = Go.Sort.grow (redrawn wx p.d) p.os := fun dd os => Calls.regrown_of (HP.out _ (hbg dd os))
  have cC : ∀ dd os, Calls Tryd.prog 19 #[.string a, .string b] (Go.Sort.grow (redrawn wx dd) os) fun e w'' => e = .returned (.int .i64 m) ∧ ∃ p : Regrown, w'' = Go.Sort.grow (redrawn wx p.d) p.os := fun dd os => Calls.regrown_of (HC.out _)
  have cH : ∀ dd os, Calls Tryd.prog 18 #[.string sg, .int .i64 m] (Go.Sort.grow (redrawn wx dd) os) fun e w'' => e = .returned (.bool r) ∧ ∃ p : Regrown, w'' = Go.Sort.grow (redrawn wx p.d) p.os := fun dd os => Calls.regrown_of (HHm.out _)
  clear hbg
  refine wp_region_quiet_below (by kernel_rfl) (by kernel_rfl) ?_
  repeat (quiet_step (first | with_reducible exact cS _ _ | with_reducible exact cP _ _ | with_reducible exact cC _ _ | with_reducible exact cH _ _))
  refine wpQuiet_nil ?_
  intro _ hw'
  obtain ⟨⟨dq, osq⟩, hw''⟩ := hw'
  subst hw''
  clear r0 r1 r2 r3 s0 s2 cS cP cC cH
  have hbq : Below w.heap.size w (Go.Sort.grow (redrawn wx dq) osq) := bel_call (below_regrown wx dq osq) hbx hbx.size
  go_wp2_with fail
  go_ret
  exact ⟨rfl, hbq⟩

/-- THE PROGRAM's Is. -/
theorem is_any (q : Nat) (hq : q < 6) (nb : Bool) (num : Int) (L : List Sg) (p : Option Addr) (cap : Nat) (k n : Int) (t : ByteArray) (hk : k = 0 ∨ k = 1 ∨ k = 2 ∨ k = 3) (hlen : L.length ≤ 1000) (ht : t.size ≤ 900) (hok : ∀ x ∈ L, x.1 ≤ 2 ∧ x.2 < 256) (w : World) (hsh : w.ShapedOpen Tryd.prog) (hL : RdG sgE 2 w p L.length L) :
    Calls Tryd.prog 8 #[.agg #[.string (sgB q), .bool nb, .int .i64 num, .slice p L.length cap], .agg #[.int .i64 k, .int .i64 n, .string t]] w fun e w' => e = .returned (.bool (isB q nb num L k n t)) ∧ Below w.heap.size w w' := by
  cases nb
  · rcases hk with rfl | rfl | rfl | rfl
    · exact is_patPlain q hq num L p cap 0 n t (by omega) hlen w
    · exact is_patPlain q hq num L p cap 1 n t (by omega) hlen w
    · by_cases h : q = 5 ∨ q = 0
      · exact is_patSame q h num L p cap n t hlen (by omega) hok w hL
      · exact is_patOrder q hq h num L p cap n t hlen (by omega) hok w hL
    · exact is_patPlain q hq num L p cap 3 n t (by omega) hlen w
  · by_cases h : q = 5 ∨ q = 0
    · exact is_numSame q h num L p cap L.length k n t hk ht w hsh
    · exact is_numOrder q hq h num L p cap L.length k n t hk ht w hsh
end Go.Proofs.YtpggidkcifnhjaaDoor
