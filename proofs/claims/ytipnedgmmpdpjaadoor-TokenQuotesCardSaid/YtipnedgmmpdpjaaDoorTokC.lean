/- Contracts of number and run. -/
import Derived.Test.YtipnedgmmpdpjaaDoorTokB
import Derived.WalkMore
import Derived.ScopeJumps
set_option linter.unusedSimpArgs false
set_option linter.unusedVariables false
namespace Go.Proofs.YtipnedgmmpdpjaaDoor
open Go.RowKit

theorem next_z (s : ByteArray) (z : Int) (i c : Nat) (hs : s.size ≤ 100000) (hz : z = (i : Int)) (h : nx s.data.toList i = c) (w : World) :
    Calls Tryd.prog 10 #[.string s, .int .i64 z] w fun e w' => e = .returned (.int .u8 (c : Int)) ∧ w = w' := by
  subst hz
  exact next_at s i c hs h w

/-- As Q; by a goto to a label: what J says of it. -/
def jumps (J : Nat → Act → World → Prop) (Q : Exit → Act → World → Prop) : Exit → Act → World → Prop
  | .goto l, a, w => J l a w
  | e, a, w => Q e a w
theorem jumps_ret {J : Nat → Act → World → Prop} {Q : Exit → Act → World → Prop} {a : Act} {w : World} : jumps J Q .ret a w = Q .ret a w := rfl
theorem jumps_goto {J : Nat → Act → World → Prop} {Q : Exit → Act → World → Prop} {l : Nat} {a : Act} {w : World} : jumps J Q (.goto l) a w = J l a w := rfl

/-- A scope with several labels: what holds at each jump, and a measure that each pass lowers. -/
theorem wp_scope_many {P : Program} {a : Act} {w : World} {Q : Exit → Act → World → Prop} {c : Code} (J : Nat → Act → World → Prop) (m : Nat → Act → World → Nat) (M : Nat)
    (first : c.wp P (jumps (fun l a' w' => J l a' w' ∧ m l a' w' < M) Q) a w)
    (pass : ∀ l a w, J l a w → ∃ rest, findLabel c l = some rest ∧ rest.wp P (jumps (fun l' a' w' => J l' a' w' ∧ m l' a' w' < m l a w) Q) a w) : (Code.scope c).wp P Q a w := by
  intro b k cs
  have hg : ∀ l rest, findLabel c l = some rest → gotoIn l (.inScope c :: k) = some (.code rest :: .inScope c :: k) := fun l rest h => by simp [gotoIn, h]
  have key : ∀ n l a w, m l a w = n → J l a w → ∃ rest e a' w', findLabel c l = some rest ∧ Q e a' w' ∧ Arrives P (lone (b.at a (.code rest :: .inScope c :: k)) cs w) b k cs e a' w' := by
    intro n
    induction n using Nat.strongRecOn with
    | _ n ih =>
      intro l a w hn hJ
      obtain ⟨rest, hf, hp⟩ := pass l a w hJ
      obtain ⟨e, a1, w1, hq, harr⟩ := hp b (.inScope c :: k) cs
      refine ⟨rest, ?_⟩
      cases e with
      | normal => exact ⟨.normal, a1, w1, hf, hq, Steps.trans harr (.one step_inScope)⟩
      | exit id => exact ⟨.exit id, a1, w1, hf, hq, fun k' hk => harr k' (by simp [exitTo, hk])⟩
      | goto l' =>
        obtain ⟨hJ', hlt⟩ := hq
        obtain ⟨rest2, e2, a2, w2, hf2, hq2, harr2⟩ := ih _ (by omega) l' a1 w1 rfl hJ'
        exact ⟨e2, a2, w2, hf, hq2, .of_steps (harr _ (hg _ _ hf2)) harr2⟩
      | ret => exact ⟨_, a1, w1, hf, hq, harr⟩
      | panic ch => exact ⟨_, a1, w1, hf, hq, harr⟩
      | outgrown => exact ⟨_, a1, w1, hf, hq, harr⟩
  obtain ⟨e, a1, w1, hq, harr⟩ := first b (.inScope c :: k) cs
  cases e with
  | normal => exact ⟨.normal, a1, w1, hq, .head step_scope (Steps.trans harr (.one step_inScope))⟩
  | exit id => exact ⟨.exit id, a1, w1, hq, fun k' hk => .head step_scope (harr k' (by simp [exitTo, hk]))⟩
  | goto l' =>
    obtain ⟨hJ', hlt⟩ := hq
    obtain ⟨rest2, e2, a2, w2, hf2, hq2, harr2⟩ := key _ l' a1 w1 rfl hJ'
    exact ⟨e2, a2, w2, hq2, .of_steps (.head step_scope (harr _ (hg _ _ hf2))) harr2⟩
  | ret => exact ⟨_, a1, w1, hq, .of_steps (.one step_scope) harr⟩
  | panic ch => exact ⟨_, a1, w1, hq, .of_steps (.one step_scope) harr⟩
  | outgrown => exact ⟨_, a1, w1, hq, .of_steps (.one step_scope) harr⟩

theorem dg46 : dgB 46 = false := by decide
theorem run_yes {p : Nat → Bool} (h0 : p 0 = false) {L : List UInt8} {k c : Nat} (hc : nx L k = c) (h : p c = true) : runN p L k = runN p L (k + 1) + 1 := by rw [run_step h0, hc, if_pos h]
theorem run_no {p : Nat → Bool} (h0 : p 0 = false) {L : List UInt8} {k c : Nat} (hc : nx L k = c) (h : p c = false) : runN p L k = 0 := by rw [run_step h0, hc, if_neg (by simp [h])]

/-- Where the number ends that begins at a place; 0: a point ends it. -/
def NumR (L : List UInt8) (n1 r : Nat) : Prop := (nx L n1 ≠ 46 ∧ r = n1) ∨ (nx L n1 = 46 ∧ dgB (nx L (n1 + 1)) = false ∧ r = 0) ∨ (nx L n1 = 46 ∧ dgB (nx L (n1 + 1)) = true ∧ r = n1 + 1 + runN dgB L (n1 + 1))

set_option maxRecDepth 100000 in
set_option maxHeartbeats 2000000 in
theorem number_core (s : ByteArray) (i n1 r : Nat) (hs : s.size ≤ 100000) (hi : i ≤ 100000) (hn : i + runN dgB s.data.toList i = n1) (hr : NumR s.data.toList n1 r) (w : World) :
    Calls Tryd.prog 14 #[.string s, .int .i64 i] w fun e w' => e = .returned (.int .i64 r) ∧ w = w' := by
  have HN := Lib.hid hn
  have HR := Lib.hid hr
  have hn1 : n1 ≤ 200000 := by have := run_le dgB s.data.toList i; rw [← Lib.size_eq] at this; omega
  clear hn hr
  go_enter Tryd.func14, Tryd.ntmps14
  go_wp2_with fail
  refine wp_scope_many (fun l a' w' => w = w' ∧ ∃ k : Nat, k ≤ 500000 ∧ (∃ u2 u3 u5 u6 u7 u8 u9 u10 u11 u12 u13 u14 u15 u16 u17 u18 u19 u20 u21 u22 u23 u24 u25 u26 u27 u28 u29 : Value, a' = { tmps := #[.string s, .int .i64 k, u2, u3, .int .i64 0, u5, u6, u7, u8, u9, u10, u11, u12, u13, u14, u15, u16, u17, u18, u19, u20, u21, u22, u23, u24, u25, u26, u27, u28, u29], defers := [] }) ∧ ((l = 0 ∧ k ≤ n1 ∧ k + runN dgB s.data.toList k = n1) ∨ (l = 1 ∧ dgB (nx s.data.toList k) = true ∧ k + runN dgB s.data.toList k = r))) (fun _ a' _ => 600000 - (intOf (a'.tmps.getD 1 undef)).toNat) 600000 ?first ?pass
  · go_wp2_with fail
    go_step3
    have hk : i ≤ n1 := by have := HN.out; omega
    obtain ⟨k, hki⟩ : ∃ k, i = k := ⟨_, rfl⟩
    subst hki
    have HK := Lib.hid HN.out
    have hk5 : i ≤ 500000 := by omega
    obtain ⟨k, hki⟩ : ∃ k, k = i := ⟨_, rfl⟩
    rw [← hki] at hk5 hk HK
    rw [← hki]
    clear hki
    have hMM : 600000 - k ≤ 600000 := by omega
    obtain ⟨c, hc⟩ : ∃ c, nx s.data.toList k = c := ⟨_, rfl⟩
    rcases hd : dgB c with _ | _
    · have hkn : k = n1 := by have := run_no (p := dgB) (by decide) hc hd; have := HK.out; omega
      have HD := Lib.hid hd
      have HC := Lib.hid hc
      have HKN := Lib.hid hkn
      clear hd hc hkn
      go_wp2_with fail
      refine (next_z s _ k c hs (by omega) HC.out _).mono ?_
      rintro e w1 ⟨rfl, rfl⟩
      go_wp2_with fail
      refine (digit_no c HD.out _).mono ?_
      rintro e w1 ⟨rfl, rfl⟩
      rcases HR.out with ⟨h1, h2⟩ | ⟨h1, h2, h3⟩ | ⟨h1, h2, h3⟩
      · rw [← HKN.out, HC.out] at h1
        have h46 : (((c : Nat) : Int) != 46) = true := by simp; omega
        have H2 := Lib.hid h2
        clear h1 h2
        go_wp2_with fail
        refine (next_z s _ k c hs (by omega) HC.out _).mono ?_
        rintro e w1 ⟨rfl, rfl⟩
        go_wp2_with fail
        simp only [jumps_ret]
        go_ret
        exact ⟨ret_i64 (by rw [H2.out, HKN.out]), rfl⟩
      · rw [← HKN.out, HC.out] at h1
        have h46 : (((c : Nat) : Int) != 46) = false := by simp; omega
        have H3 := Lib.hid h3
        obtain ⟨c2, hc2⟩ : ∃ c2, nx s.data.toList (k + 1) = c2 := ⟨_, rfl⟩
        rw [← HKN.out, hc2] at h2
        have H2 := Lib.hid h2
        have HC2 := Lib.hid hc2
        clear h1 h2 h3 hc2
        go_wp2_with fail
        refine (next_z s _ k c hs (by omega) HC.out _).mono ?_
        rintro e w1 ⟨rfl, rfl⟩
        go_wp2_with fail
        refine (next_z s _ (k + 1) c2 hs (by omega) HC2.out _).mono ?_
        rintro e w1 ⟨rfl, rfl⟩
        go_wp2_with fail
        refine (digit_no c2 H2.out _).mono ?_
        rintro e w1 ⟨rfl, rfl⟩
        go_wp2_with fail
        simp only [jumps_ret]
        go_ret
        exact ⟨ret_i64 (by rw [H3.out]; rfl), rfl⟩
      · rw [← HKN.out, HC.out] at h1
        have h46 : (((c : Nat) : Int) != 46) = false := by simp; omega
        rw [← HKN.out] at h3
        have H3 := Lib.hid h3
        obtain ⟨c2, hc2⟩ : ∃ c2, nx s.data.toList (k + 1) = c2 := ⟨_, rfl⟩
        rw [← HKN.out, hc2] at h2
        have H2 := Lib.hid h2
        have HC2 := Lib.hid hc2
        obtain ⟨c3, hc3⟩ : ∃ c3, nx s.data.toList (k + 1 + 1) = c3 := ⟨_, rfl⟩
        rcases hd3 : dgB c3 with _ | _
        · have H4 : Hid (r = k + 1 + 1) := by unfold Hid; rw [H3.out, run_yes (p := dgB) (by decide) hc2 h2, run_no (p := dgB) (by decide) hc3 hd3]
          have HD3 := Lib.hid hd3
          have HC3 := Lib.hid hc3
          clear h1 h2 h3 hc2 hc3 hd3
          go_wp2_with fail
          refine (next_z s _ k c hs (by omega) HC.out _).mono ?_
          rintro e w1 ⟨rfl, rfl⟩
          go_wp2_with fail
          refine (next_z s _ (k + 1) c2 hs (by omega) HC2.out _).mono ?_
          rintro e w1 ⟨rfl, rfl⟩
          go_wp2_with fail
          refine (digit_yes c2 H2.out _).mono ?_
          rintro e w1 ⟨rfl, rfl⟩
          go_wp2_with fail
          go_step3
          go_wp2_with fail
          refine (next_z s _ (k + 1 + 1) c3 hs (by omega) HC3.out _).mono ?_
          rintro e w1 ⟨rfl, rfl⟩
          go_wp2_with fail
          refine (digit_no c3 HD3.out _).mono ?_
          rintro e w1 ⟨rfl, rfl⟩
          go_wp2_with fail
          simp only [jumps_ret]
          go_ret
          exact ⟨ret_i64 (by rw [H4.out]; go_num), rfl⟩
        · have H4 : Hid (k + 1 + 1 + runN dgB s.data.toList (k + 1 + 1) = r) := by unfold Hid; rw [H3.out, run_yes (p := dgB) (by decide) hc2 h2]; omega
          have HD3 := Lib.hid hd3
          have HC3 := Lib.hid hc3
          clear h1 h2 h3 hc2 hc3 hd3
          go_wp2_with fail
          refine (next_z s _ k c hs (by omega) HC.out _).mono ?_
          rintro e w1 ⟨rfl, rfl⟩
          go_wp2_with fail
          refine (next_z s _ (k + 1) c2 hs (by omega) HC2.out _).mono ?_
          rintro e w1 ⟨rfl, rfl⟩
          go_wp2_with fail
          refine (digit_yes c2 H2.out _).mono ?_
          rintro e w1 ⟨rfl, rfl⟩
          go_wp2_with fail
          go_step3
          go_wp2_with fail
          refine (next_z s _ (k + 1 + 1) c3 hs (by omega) HC3.out _).mono ?_
          rintro e w1 ⟨rfl, rfl⟩
          go_wp2_with fail
          refine (digit_yes c3 HD3.out _).mono ?_
          rintro e w1 ⟨rfl, rfl⟩
          go_wp2_with fail
          go_step3
          refine ⟨⟨rfl, k + 1 + 1, by omega, ⟨_, _, _, _, _, _, _, _, _, _, _, _, _, _, _, _, _, _, _, _, _, _, _, _, _, _, _, by first | rfl | (congr 3; go_num) | go_num⟩, .inr ⟨rfl, by rw [HC3.out]; exact HD3.out, H4.out⟩⟩, by simp [intOf]; omega⟩
    · have hkn : k + 1 + runN dgB s.data.toList (k + 1) = n1 := by have := run_yes (p := dgB) (by decide) hc hd; have := HK.out; omega
      have HD := Lib.hid hd
      have HC := Lib.hid hc
      have HKN := Lib.hid hkn
      clear hd hc hkn
      go_wp2_with fail
      refine (next_z s _ k c hs (by omega) HC.out _).mono ?_
      rintro e w1 ⟨rfl, rfl⟩
      go_wp2_with fail
      refine (digit_yes c HD.out _).mono ?_
      rintro e w1 ⟨rfl, rfl⟩
      go_wp2_with fail
      go_step3
      have hk9 : k + 1 ≤ n1 := by have := HKN.out; omega
      refine ⟨⟨rfl, k + 1, by omega, ⟨_, _, _, _, _, _, _, _, _, _, _, _, _, _, _, _, _, _, _, _, _, _, _, _, _, _, _, by first | rfl | (congr 3; go_num) | go_num⟩, .inl ⟨rfl, hk9, HKN.out⟩⟩, by simp [intOf]; omega⟩
  · rintro l a' w' ⟨rfl, k, hk5, ⟨u2, u3, u5, u6, u7, u8, u9, u10, u11, u12, u13, u14, u15, u16, u17, u18, u19, u20, u21, u22, u23, u24, u25, u26, u27, u28, u29, rfl⟩, ⟨rfl, hk, hr1⟩ | ⟨rfl, hd, hr1⟩⟩
    · refine ⟨_, rfl, ?_⟩
      have HK := Lib.hid hr1
      clear hr1
      obtain ⟨c, hc⟩ : ∃ c, nx s.data.toList k = c := ⟨_, rfl⟩
      rcases hd : dgB c with _ | _
      · have hkn : k = n1 := by have := run_no (p := dgB) (by decide) hc hd; have := HK.out; omega
        have HD := Lib.hid hd
        have HC := Lib.hid hc
        have HKN := Lib.hid hkn
        clear hd hc hkn
        go_wp2_with fail
        refine (next_z s _ k c hs (by omega) HC.out _).mono ?_
        rintro e w1 ⟨rfl, rfl⟩
        go_wp2_with fail
        refine (digit_no c HD.out _).mono ?_
        rintro e w1 ⟨rfl, rfl⟩
        rcases HR.out with ⟨h1, h2⟩ | ⟨h1, h2, h3⟩ | ⟨h1, h2, h3⟩
        · rw [← HKN.out, HC.out] at h1
          have h46 : (((c : Nat) : Int) != 46) = true := by simp; omega
          have H2 := Lib.hid h2
          clear h1 h2
          go_wp2_with fail
          refine (next_z s _ k c hs (by omega) HC.out _).mono ?_
          rintro e w1 ⟨rfl, rfl⟩
          go_wp2_with fail
          simp only [jumps_ret]
          go_ret
          exact ⟨ret_i64 (by rw [H2.out, HKN.out]), rfl⟩
        · rw [← HKN.out, HC.out] at h1
          have h46 : (((c : Nat) : Int) != 46) = false := by simp; omega
          have H3 := Lib.hid h3
          obtain ⟨c2, hc2⟩ : ∃ c2, nx s.data.toList (k + 1) = c2 := ⟨_, rfl⟩
          rw [← HKN.out, hc2] at h2
          have H2 := Lib.hid h2
          have HC2 := Lib.hid hc2
          clear h1 h2 h3 hc2
          go_wp2_with fail
          refine (next_z s _ k c hs (by omega) HC.out _).mono ?_
          rintro e w1 ⟨rfl, rfl⟩
          go_wp2_with fail
          refine (next_z s _ (k + 1) c2 hs (by omega) HC2.out _).mono ?_
          rintro e w1 ⟨rfl, rfl⟩
          go_wp2_with fail
          refine (digit_no c2 H2.out _).mono ?_
          rintro e w1 ⟨rfl, rfl⟩
          go_wp2_with fail
          simp only [jumps_ret]
          go_ret
          exact ⟨ret_i64 (by rw [H3.out]; rfl), rfl⟩
        · rw [← HKN.out, HC.out] at h1
          have h46 : (((c : Nat) : Int) != 46) = false := by simp; omega
          rw [← HKN.out] at h3
          have H3 := Lib.hid h3
          obtain ⟨c2, hc2⟩ : ∃ c2, nx s.data.toList (k + 1) = c2 := ⟨_, rfl⟩
          rw [← HKN.out, hc2] at h2
          have H2 := Lib.hid h2
          have HC2 := Lib.hid hc2
          obtain ⟨c3, hc3⟩ : ∃ c3, nx s.data.toList (k + 1 + 1) = c3 := ⟨_, rfl⟩
          rcases hd3 : dgB c3 with _ | _
          · have H4 : Hid (r = k + 1 + 1) := by unfold Hid; rw [H3.out, run_yes (p := dgB) (by decide) hc2 h2, run_no (p := dgB) (by decide) hc3 hd3]
            have HD3 := Lib.hid hd3
            have HC3 := Lib.hid hc3
            clear h1 h2 h3 hc2 hc3 hd3
            go_wp2_with fail
            refine (next_z s _ k c hs (by omega) HC.out _).mono ?_
            rintro e w1 ⟨rfl, rfl⟩
            go_wp2_with fail
            refine (next_z s _ (k + 1) c2 hs (by omega) HC2.out _).mono ?_
            rintro e w1 ⟨rfl, rfl⟩
            go_wp2_with fail
            refine (digit_yes c2 H2.out _).mono ?_
            rintro e w1 ⟨rfl, rfl⟩
            go_wp2_with fail
            go_step3
            go_wp2_with fail
            refine (next_z s _ (k + 1 + 1) c3 hs (by omega) HC3.out _).mono ?_
            rintro e w1 ⟨rfl, rfl⟩
            go_wp2_with fail
            refine (digit_no c3 HD3.out _).mono ?_
            rintro e w1 ⟨rfl, rfl⟩
            go_wp2_with fail
            simp only [jumps_ret]
            go_ret
            exact ⟨ret_i64 (by rw [H4.out]; go_num), rfl⟩
          · have H4 : Hid (k + 1 + 1 + runN dgB s.data.toList (k + 1 + 1) = r) := by unfold Hid; rw [H3.out, run_yes (p := dgB) (by decide) hc2 h2]; omega
            have HD3 := Lib.hid hd3
            have HC3 := Lib.hid hc3
            clear h1 h2 h3 hc2 hc3 hd3
            go_wp2_with fail
            refine (next_z s _ k c hs (by omega) HC.out _).mono ?_
            rintro e w1 ⟨rfl, rfl⟩
            go_wp2_with fail
            refine (next_z s _ (k + 1) c2 hs (by omega) HC2.out _).mono ?_
            rintro e w1 ⟨rfl, rfl⟩
            go_wp2_with fail
            refine (digit_yes c2 H2.out _).mono ?_
            rintro e w1 ⟨rfl, rfl⟩
            go_wp2_with fail
            go_step3
            go_wp2_with fail
            refine (next_z s _ (k + 1 + 1) c3 hs (by omega) HC3.out _).mono ?_
            rintro e w1 ⟨rfl, rfl⟩
            go_wp2_with fail
            refine (digit_yes c3 HD3.out _).mono ?_
            rintro e w1 ⟨rfl, rfl⟩
            go_wp2_with fail
            go_step3
            refine ⟨⟨rfl, k + 1 + 1, by omega, ⟨_, _, _, _, _, _, _, _, _, _, _, _, _, _, _, _, _, _, _, _, _, _, _, _, _, _, _, by first | rfl | (congr 3; go_num) | go_num⟩, .inr ⟨rfl, by rw [HC3.out]; exact HD3.out, H4.out⟩⟩, by simp [intOf]; omega⟩
      · have hkn : k + 1 + runN dgB s.data.toList (k + 1) = n1 := by have := run_yes (p := dgB) (by decide) hc hd; have := HK.out; omega
        have HD := Lib.hid hd
        have HC := Lib.hid hc
        have HKN := Lib.hid hkn
        clear hd hc hkn
        go_wp2_with fail
        refine (next_z s _ k c hs (by omega) HC.out _).mono ?_
        rintro e w1 ⟨rfl, rfl⟩
        go_wp2_with fail
        refine (digit_yes c HD.out _).mono ?_
        rintro e w1 ⟨rfl, rfl⟩
        go_wp2_with fail
        go_step3
        have hk9 : k + 1 ≤ n1 := by have := HKN.out; omega
        refine ⟨⟨rfl, k + 1, by omega, ⟨_, _, _, _, _, _, _, _, _, _, _, _, _, _, _, _, _, _, _, _, _, _, _, _, _, _, _, by first | rfl | (congr 3; go_num) | go_num⟩, .inl ⟨rfl, hk9, HKN.out⟩⟩, by simp [intOf]; omega⟩
    · refine ⟨_, rfl, ?_⟩
      obtain ⟨c0, hc0⟩ : ∃ c, nx s.data.toList k = c := ⟨_, rfl⟩
      rw [hc0] at hd
      obtain ⟨c, hc⟩ : ∃ c, nx s.data.toList (k + 1) = c := ⟨_, rfl⟩
      rcases hd2 : dgB c with _ | _
      · have H4 : Hid (r = k + 1) := by unfold Hid; rw [← hr1, run_yes (p := dgB) (by decide) hc0 hd, run_no (p := dgB) (by decide) hc hd2]
        have HD2 := Lib.hid hd2
        have HC := Lib.hid hc
        clear hd hc0 hr1 hc hd2
        go_wp2_with fail
        refine (next_z s _ (k + 1) c hs (by omega) HC.out _).mono ?_
        rintro e w1 ⟨rfl, rfl⟩
        go_wp2_with fail
        refine (digit_no c HD2.out _).mono ?_
        rintro e w1 ⟨rfl, rfl⟩
        go_wp2_with fail
        simp only [jumps_ret]
        go_ret
        exact ⟨ret_i64 (by rw [H4.out]; go_num), rfl⟩
      · have H4 : Hid (k + 1 + runN dgB s.data.toList (k + 1) = r) := by unfold Hid; rw [← hr1, run_yes (p := dgB) (by decide) hc0 hd]; omega
        have HD2 := Lib.hid hd2
        have HC := Lib.hid hc
        clear hd hc0 hr1
        have hk9 : k + 1 ≤ 500000 := by
          have := lt_of_nx (L := s.data.toList) (i := k + 1) (by rw [hc]; intro e; rw [e] at hd2; exact absurd hd2 (by decide))
          rw [← Lib.size_eq] at this
          omega
        clear hc hd2
        go_wp2_with fail
        refine (next_z s _ (k + 1) c hs (by omega) HC.out _).mono ?_
        rintro e w1 ⟨rfl, rfl⟩
        go_wp2_with fail
        refine (digit_yes c HD2.out _).mono ?_
        rintro e w1 ⟨rfl, rfl⟩
        go_wp2_with fail
        go_step3
        refine ⟨⟨rfl, k + 1, by omega, ⟨_, _, _, _, _, _, _, _, _, _, _, _, _, _, _, _, _, _, _, _, _, _, _, _, _, _, _, by first | rfl | (congr 3; go_num) | go_num⟩, .inr ⟨rfl, by rw [HC.out]; exact HD2.out, H4.out⟩⟩, by simp [intOf]; omega⟩

theorem numR_of (L : List UInt8) (i : Nat) (hd : dgB (nx L i) = true) : NumR L (i + runN dgB L i) (if numN L i = 0 then 0 else i + numN L i) := by
  have h0 := run_yes (p := dgB) (by decide) (L := L) (k := i) rfl hd
  unfold NumR
  by_cases h : nx L (i + runN dgB L i) = 46
  · by_cases h2 : dgB (nx L (i + runN dgB L i + 1)) = true
    · have h3 := run_yes (p := dgB) (by decide) (L := L) (k := i + runN dgB L i + 1) rfl h2
      have e : numN L i = runN dgB L i + 1 + runN dgB L (i + runN dgB L i + 1) := by unfold numN; rw [if_pos h, if_neg (by omega)]
      exact .inr (.inr ⟨h, h2, by rw [if_neg (by omega)]; omega⟩)
    · have h2 : dgB (nx L (i + runN dgB L i + 1)) = false := by simpa using h2
      have h3 := run_no (p := dgB) (by decide) (L := L) (k := i + runN dgB L i + 1) rfl h2
      have e : numN L i = 0 := by unfold numN; rw [if_pos h, if_pos h3]
      exact .inr (.inl ⟨h, h2, by rw [if_pos e]⟩)
  · have e : numN L i = runN dgB L i := by unfold numN; rw [if_neg h]
    exact .inl ⟨h, by rw [if_neg (by omega)]; omega⟩
/-- number, where a digit stands. -/
theorem number_any (s : ByteArray) (i r : Nat) (hs : s.size ≤ 100000) (hi : i ≤ 100000) (hd : dgB (nx s.data.toList i) = true) (hr : (if numN s.data.toList i = 0 then 0 else i + numN s.data.toList i) = r) (w : World) :
    Calls Tryd.prog 14 #[.string s, .int .i64 i] w fun e w' => e = .returned (.int .i64 r) ∧ w = w' :=
  number_core s i _ r hs hi rfl (hr ▸ numR_of _ i hd) w
end Go.Proofs.YtipnedgmmpdpjaaDoor
