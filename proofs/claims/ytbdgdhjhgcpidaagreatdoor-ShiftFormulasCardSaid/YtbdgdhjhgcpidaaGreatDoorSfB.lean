/- Tokens of a text, in plain lists of bytes: what the program and the document's answer both compute. Contracts of the small functions of both texts: a byte, a digit, a letter, a run, a beginning. Contracts of number and run. Contracts of strings.Builder's WriteByte and String at a builder of the call's own. Contracts of quoted, in both texts. -/
import Derived.Test.YtbdgdhjhgcpidaaGreatDoorBase
import Derived.Test.YtbdgdhjhgcpidaaGreatDoorSfA
import Derived.Deep.DeepCutAuto
import Derived.Deep.LoopGhost
import Derived.WalkMore
import Derived.ScopeJumps
import Derived.Lib.Builder
import Derived.OwnWalk
import Derived.Laws.AppendOwnNone
import Derived.Laws.OwnMore
import Derived.LoopTactic
set_option linter.unusedSimpArgs false
set_option linter.unusedVariables false
namespace Go.Proofs.YtbdgdhjhgcpidaaGreatDoor.Tks
open Go.RowKit
def nx (L : List UInt8) (i : Nat) : Nat := (L.getD i 0).toNat
def dgB (c : Nat) : Bool := decide (48 ≤ c) && decide (c ≤ 57)
def upB (c : Nat) : Bool := decide (65 ≤ c) && decide (c ≤ 90)
def nmB (c : Nat) : Bool := upB c || dgB c
def runN (p : Nat → Bool) (L : List UInt8) (i : Nat) : Nat := ((L.drop i).takeWhile fun c => p c.toNat).length
theorem nx_lt (L : List UInt8) (i : Nat) : nx L i < 256 := (L.getD i 0).toNat_lt
theorem nx_get {L : List UInt8} {i : Nat} (h : i < L.length) : nx L i = L[i].toNat := by simp [nx, List.getD, h]
theorem nx_end {L : List UInt8} {i : Nat} (h : L.length ≤ i) : nx L i = 0 := by simp [nx, List.getD, List.getElem?_eq_none h]
theorem nx_drop (L : List UInt8) (i j : Nat) : nx (L.drop i) j = nx L (i + j) := by simp [nx, List.getD, List.getElem?_drop]
theorem lt_of_nx {L : List UInt8} {i : Nat} (h : nx L i ≠ 0) : i < L.length := by
  rcases Nat.lt_or_ge i L.length with h' | h'
  · exact h'
  · exact absurd (nx_end h') h
theorem run_step {p : Nat → Bool} (h0 : p 0 = false) (L : List UInt8) (i : Nat) : runN p L i = if p (nx L i) then runN p L (i + 1) + 1 else 0 := by
  unfold runN
  rcases Nat.lt_or_ge i L.length with h | h
  · rw [List.drop_eq_getElem_cons h, List.takeWhile_cons, nx_get h]
    split <;> simp
  · rw [List.drop_of_length_le h, nx_end h, h0]
    simp
theorem run_le (p : Nat → Bool) (L : List UInt8) (i : Nat) : runN p L i ≤ L.length - i := by
  have := (List.takeWhile_sublist (fun c : UInt8 => p c.toNat) (l := L.drop i)).length_le
  simpa [runN] using this
def numN (L : List UInt8) (i : Nat) : Nat := if nx L (i + runN dgB L i) = 46 then (if runN dgB L (i + runN dgB L i + 1) = 0 then 0 else runN dgB L i + 1 + runN dgB L (i + runN dgB L i + 1)) else runN dgB L i
def quo : List UInt8 → Option (List UInt8 × Nat)
  | [] => none
  | [c] => if c.toNat = 34 then some ([], 1) else none
  | c :: d :: r => if c.toNat = 34 then (if d.toNat = 34 then (match quo r with | some (t, n) => some (c :: t, n + 2) | none => none) else some ([], 1)) else (match quo (d :: r) with | some (t, n) => some (c :: t, n + 1) | none => none)
def sREF : List UInt8 := [35, 82, 69, 70, 33]
def sgs : List (List UInt8) := [[60, 62], [60, 61], [62, 61], [60], [62], [61], [43], [45], [42], [47], [38], [40], [41], [44], [58]]
def sgn (l : List UInt8) : List UInt8 := (sgs.find? fun x => Lib.hasPrefix l x).getD []
abbrev Tk := Int × List UInt8 × Nat
def tok (L : List UInt8) (i : Nat) : Option (Int × List UInt8 × Nat) :=
  if dgB (nx L i) then (if numN L i = 0 then none else some (1, (L.drop i).take (numN L i), numN L i))
  else if upB (nx L i) then some (3, (L.drop i).take (runN nmB L i), runN nmB L i)
  else if nx L i = 34 then (match quo (L.drop (i + 1)) with | some (t, n) => some (2, t, n + 1) | none => none)
  else if Lib.hasPrefix (L.drop i) sREF then some (5, sREF, 5)
  else if sgn (L.drop i) = [] then none else some (4, sgn (L.drop i), (sgn (L.drop i)).length)
def splF (L : List UInt8) : Nat → Nat → Option (List Tk) × Nat
  | 0, _ => (some [], 0)
  | f + 1, i =>
    if L.length ≤ i then (some [], 0)
    else if nx L i = 32 then splF L f (i + 1)
    else match tok L i with
      | none => (none, i)
      | some (k, t, n) => match splF L f (i + n) with
        | (some r, x) => (some ((k, t, i) :: r), x)
        | (none, x) => (none, x)
def spl (L : List UInt8) (i : Nat) : Option (List Tk) × Nat := splF L (L.length + 1 - i) i
theorem quo_pos : ∀ (l : List UInt8) (t : List UInt8) (n : Nat), quo l = some (t, n) → 1 ≤ n ∧ n ≤ l.length ∧ t.length + 1 ≤ n
  | [], t, n, h => by simp [quo] at h
  | [c], t, n, h => by
    simp only [quo] at h
    split at h
    · cases h; simp
    · cases h
  | c :: d :: r, t, n, h => by
    have i1 := quo_pos r
    have i2 := quo_pos (d :: r)
    simp only [quo] at h
    split at h
    · split at h
      · split at h
        · rename_i t' n' e
          cases h
          have := i1 t' n' e
          simp
          omega
        · cases h
      · cases h
        simp
    · split at h
      · rename_i t' n' e
        cases h
        have := i2 t' n' e
        simp at this ⊢
        omega
      · cases h
theorem hasPrefix_len {l p : List UInt8} (h : Lib.hasPrefix l p = true) : p.length ≤ l.length := by
  unfold Lib.hasPrefix at h
  exact (List.isPrefixOf_iff_prefix.1 h).length_le
theorem sgn_prefix (l : List UInt8) (h : sgn l ≠ []) : Lib.hasPrefix l (sgn l) = true := by
  unfold sgn at h ⊢
  cases e : sgs.find? fun x => Lib.hasPrefix l x with
  | none => rw [e] at h; exact absurd rfl h
  | some x => have := List.find?_some e; simpa using this
theorem sgn_len (l : List UInt8) : (sgn l).length ≤ 2 := by
  unfold sgn
  cases e : sgs.find? fun x => Lib.hasPrefix l x with
  | none => simp
  | some x =>
    have := List.mem_of_find?_eq_some e
    simp only [sgs, List.mem_cons, List.not_mem_nil, or_false] at this
    rcases this with rfl | rfl | rfl | rfl | rfl | rfl | rfl | rfl | rfl | rfl | rfl | rfl | rfl | rfl | rfl
    all_goals simp
theorem tok_pos {L : List UInt8} {i : Nat} (hi : i < L.length) {k : Int} {t : List UInt8} {n : Nat} (h : tok L i = some (k, t, n)) : 1 ≤ n ∧ i + n ≤ L.length ∧ t.length ≤ n := by
  unfold tok at h
  split at h
  · split at h
    · cases h
    · rename_i h0
      cases h
      refine ⟨by omega, ?_, by simp; omega⟩
      unfold numN at h0 ⊢
      have r1 := run_le dgB L i
      have r2 := run_le dgB L (i + runN dgB L i + 1)
      split
      · rename_i e
        have := lt_of_nx (L := L) (i := i + runN dgB L i) (by omega)
        split <;> omega
      · omega
  · split at h
    · rename_i h0
      cases h
      have r1 := run_le nmB L i
      have r2 := run_step (p := nmB) (by decide) L i
      rw [if_pos (by simp [nmB, h0])] at r2
      exact ⟨by omega, by omega, by simp; omega⟩
    · split at h
      · split at h
        · rename_i t' n' e
          cases h
          have := quo_pos _ _ _ e
          simp at this
          omega
        · cases h
      · split at h
        · rename_i h0
          cases h
          have := hasPrefix_len h0
          simp [sREF] at this ⊢
          omega
        · split at h
          · cases h
          · rename_i h0
            cases h
            have := hasPrefix_len (sgn_prefix _ h0)
            have h1 : 1 ≤ (sgn (L.drop i)).length := by
              cases hs : sgn (L.drop i) with
              | nil => exact absurd hs h0
              | cons => simp
            simp at this
            omega
theorem splF_more (L : List UInt8) : ∀ (f g i : Nat), L.length + 1 - i ≤ f → L.length + 1 - i ≤ g → splF L f i = splF L g i := by
  intro f
  induction f with
  | zero =>
    intro g i hf hg
    cases g with
    | zero => rfl
    | succ g => rw [splF, splF, if_pos (by omega)]
  | succ f ih =>
    intro g i hf hg
    cases g with
    | zero => rw [splF, splF, if_pos (by omega)]
    | succ g =>
      rw [splF, splF]
      split
      · rfl
      · rename_i hl
        rw [ih g (i + 1) (by omega) (by omega)]
        split
        · rfl
        · cases ht : tok L i with
          | none => rfl
          | some x =>
            obtain ⟨k, t, n⟩ := x
            have := (tok_pos (by omega) ht).1
            simp only []
            rw [ih g (i + n) (by omega) (by omega)]
theorem spl_step (L : List UInt8) (i : Nat) (h : i < L.length) : spl L i = if nx L i = 32 then spl L (i + 1)
    else match tok L i with
      | none => (none, i)
      | some (k, t, n) => match spl L (i + n) with
        | (some r, x) => (some ((k, t, i) :: r), x)
        | (none, x) => (none, x) := by
  conv => lhs; unfold spl
  rw [show L.length + 1 - i = (L.length - i) + 1 by omega, splF, if_neg (by omega)]
  unfold spl
  rw [splF_more L (L.length - i) (L.length + 1 - (i + 1)) (i + 1) (by omega) (by omega)]
  split
  · rfl
  · cases ht : tok L i with
    | none => rfl
    | some x =>
      obtain ⟨k, t, n⟩ := x
      have := (tok_pos h ht).1
      simp only []
      rw [splF_more L (L.length - i) (L.length + 1 - (i + n)) (i + n) (by omega) (by omega)]
theorem spl_end (L : List UInt8) (i : Nat) (h : L.length ≤ i) : spl L i = (some [], 0) := by
  unfold spl
  cases e : L.length + 1 - i with
  | zero => rfl
  | succ f => rw [splF, if_pos h]
end Go.Proofs.YtbdgdhjhgcpidaaGreatDoor.Tks
namespace Go.Proofs.YtbdgdhjhgcpidaaGreatDoor.Tks
open Go.RowKit
theorem nx_str (s : ByteArray) (i : Nat) (h : i < s.size) : ((s[i].toNat : Nat) : Int) = (nx s.data.toList i : Int) := by
  have hl : i < s.data.toList.length := by rw [← Lib.size_eq]; exact h
  rw [nx_get hl]
  simp [ByteArray.getElem_eq_getElem_data]
theorem ret_u8 {a b : Int} (h : a = b) : Ending.returned (.int .u8 a) = .returned (.int .u8 b) := by rw [h]
theorem ret_i64 {a b : Int} (h : a = b) : Ending.returned (.int .i64 a) = .returned (.int .i64 b) := by rw [h]
theorem ret_b {a b : Bool} (h : a = b) : Ending.returned (.bool a) = .returned (.bool b) := by rw [h]
set_option maxHeartbeats 400000 in
theorem next_any (s : ByteArray) (i : Nat) (hs : s.size ≤ 100000) (w : World) :
    Calls Tryz.prog 76 #[.string s, .int .i64 i] w fun e w' => e = .returned (.int .u8 (nx s.data.toList i : Int)) ∧ w = w' := by
  by_cases h : i < s.size
  · have H := Lib.hid (nx_str s i h)
    go_enter Tryz.func76, Tryz.ntmps76
    go_wp2
    go_ret
    exact ⟨ret_u8 H.out, rfl⟩
  · have H := Lib.hid (nx_end (L := s.data.toList) (i := i) (by rw [← Lib.size_eq]; omega))
    have h' : s.size ≤ i := by omega
    go_enter Tryz.func76, Tryz.ntmps76
    go_wp2
    go_ret
    exact ⟨ret_u8 (by rw [H.out]; rfl), rfl⟩
set_option maxHeartbeats 400000 in
theorem digit_any (c : Nat) (w : World) : Calls Tryz.prog 98 #[.int .u8 c] w fun e w' => e = .returned (.bool (dgB c)) ∧ w = w' := by
  by_cases h1 : (48 : Int) ≤ (c : Int)
  · by_cases h2 : (c : Int) ≤ 57
    · have H := Lib.hid (show dgB c = true by simp [dgB]; omega)
      go_enter Tryz.func98, Tryz.ntmps98
      go_wp2
      go_ret
      exact ⟨ret_b H.out.symm, rfl⟩
    · have H := Lib.hid (show dgB c = false by simp [dgB]; omega)
      go_enter Tryz.func98, Tryz.ntmps98
      go_wp2
      go_ret
      exact ⟨ret_b H.out.symm, rfl⟩
  · have H := Lib.hid (show dgB c = false by simp [dgB]; omega)
    go_enter Tryz.func98, Tryz.ntmps98
    go_wp2
    go_ret
    exact ⟨ret_b H.out.symm, rfl⟩
set_option maxHeartbeats 400000 in
theorem letter_any (c : Nat) (w : World) : Calls Tryz.prog 100 #[.int .u8 c] w fun e w' => e = .returned (.bool (upB c)) ∧ w = w' := by
  by_cases h1 : (65 : Int) ≤ (c : Int)
  · by_cases h2 : (c : Int) ≤ 90
    · have H := Lib.hid (show upB c = true by simp [upB]; omega)
      go_enter Tryz.func100, Tryz.ntmps100
      go_wp2
      go_ret
      exact ⟨ret_b H.out.symm, rfl⟩
    · have H := Lib.hid (show upB c = false by simp [upB]; omega)
      go_enter Tryz.func100, Tryz.ntmps100
      go_wp2
      go_ret
      exact ⟨ret_b H.out.symm, rfl⟩
  · have H := Lib.hid (show upB c = false by simp [upB]; omega)
    go_enter Tryz.func100, Tryz.ntmps100
    go_wp2
    go_ret
    exact ⟨ret_b H.out.symm, rfl⟩
theorem next_at (s : ByteArray) (i c : Nat) (hs : s.size ≤ 100000) (h : nx s.data.toList i = c) (w : World) :
    Calls Tryz.prog 76 #[.string s, .int .i64 i] w fun e w' => e = .returned (.int .u8 (c : Int)) ∧ w = w' := h ▸ next_any s i hs w
theorem digit_yes (c : Nat) (h : dgB c = true) (w : World) : Calls Tryz.prog 98 #[.int .u8 c] w fun e w' => e = .returned (.bool true) ∧ w = w' := h ▸ digit_any c w
theorem digit_no (c : Nat) (h : dgB c = false) (w : World) : Calls Tryz.prog 98 #[.int .u8 c] w fun e w' => e = .returned (.bool false) ∧ w = w' := h ▸ digit_any c w
theorem letter_yes (c : Nat) (h : upB c = true) (w : World) : Calls Tryz.prog 100 #[.int .u8 c] w fun e w' => e = .returned (.bool true) ∧ w = w' := h ▸ letter_any c w
theorem letter_no (c : Nat) (h : upB c = false) (w : World) : Calls Tryz.prog 100 #[.int .u8 c] w fun e w' => e = .returned (.bool false) ∧ w = w' := h ▸ letter_any c w
set_option maxRecDepth 100000 in
set_option maxHeartbeats 1000000 in
theorem name_any (s : ByteArray) (i : Nat) (hs : s.size ≤ 100000) (hi : i ≤ 100000) (w : World) :
    Calls Tryz.prog 101 #[.string s, .int .i64 i] w fun e w' => e = .returned (.int .i64 ((i + runN nmB s.data.toList i : Nat) : Int)) ∧ w = w' := by
  have HE := Lib.hid (show runN nmB s.data.toList i + i ≤ i + runN nmB s.data.toList i by omega)
  obtain ⟨n, hn⟩ : ∃ n, i + runN nmB s.data.toList i = n := ⟨_, rfl⟩
  have hn2 : n ≤ 200000 := by have := run_le nmB s.data.toList i; rw [← Lib.size_eq] at this; omega
  rw [hn]
  have HN := Lib.hid hn
  clear hn HE
  go_enter Tryz.func101, Tryz.ntmps101
  go_wp2_with fail
  go_loop [1] (fun v => ∃ k : Nat, v = .int .i64 k ∧ k ≤ n ∧ k + runN nmB s.data.toList k = n) (fun v => n - (intOf v).toNat)
  case atStart => exact ⟨i, rfl, by have := HN.out; omega, HN.out⟩
  case round =>
    obtain ⟨k, rfl, hk, hr⟩ := hrel
    have HR := Lib.hid hr
    clear hr
    obtain ⟨c, hc⟩ : ∃ c, nx s.data.toList k = c := ⟨_, rfl⟩
    have HC := Lib.hid hc
    clear hc
    have HS := Lib.hid (run_step (p := nmB) (by decide) s.data.toList k)
    rcases hu : upB c with _ | _
    · rcases hd : dgB c with _ | _
      · have HU := Lib.hid hu
        have HD := Lib.hid hd
        clear hu hd
        have hkn : k = n := by have h1 := HS.out; rw [HC.out, if_neg (by simp [nmB, HU.out, HD.out])] at h1; have := HR.out; omega
        have HK := Lib.hid hkn
        clear hkn
        go_wp2_with fail
        refine (next_at s k c hs HC.out _).mono ?_
        rintro e w1 ⟨rfl, rfl⟩
        go_wp2_with fail
        refine (letter_no c HU.out _).mono ?_
        rintro e w1 ⟨rfl, rfl⟩
        go_wp2_with fail
        refine (next_at s k c hs HC.out _).mono ?_
        rintro e w1 ⟨rfl, rfl⟩
        go_wp2_with fail
        refine (digit_no c HD.out _).mono ?_
        rintro e w1 ⟨rfl, rfl⟩
        go_wp2_with fail
        go_ret
        exact ⟨ret_i64 (by rw [HK.out]), rfl⟩
      · have HU := Lib.hid hu
        have HD := Lib.hid hd
        clear hu hd
        have hkn : k + 1 + runN nmB s.data.toList (k + 1) = n := by have h1 := HS.out; rw [HC.out, if_pos (by simp [nmB, HD.out])] at h1; have := HR.out; omega
        have HK := Lib.hid hkn
        clear hkn
        go_wp2_with fail
        refine (next_at s k c hs HC.out _).mono ?_
        rintro e w1 ⟨rfl, rfl⟩
        go_wp2_with fail
        refine (letter_no c HU.out _).mono ?_
        rintro e w1 ⟨rfl, rfl⟩
        go_wp2_with fail
        refine (next_at s k c hs HC.out _).mono ?_
        rintro e w1 ⟨rfl, rfl⟩
        go_wp2_with fail
        refine (digit_yes c HD.out _).mono ?_
        rintro e w1 ⟨rfl, rfl⟩
        go_wp2_with fail
        go_round
        case rel => exact ⟨k + 1, by go_num, by have := HK.out; omega, HK.out⟩
        case measure => have := HK.out; simp [intOf]; omega
    · have HU := Lib.hid hu
      clear hu
      have hkn : k + 1 + runN nmB s.data.toList (k + 1) = n := by have h1 := HS.out; rw [HC.out, if_pos (by simp [nmB, HU.out])] at h1; have := HR.out; omega
      have HK := Lib.hid hkn
      clear hkn
      go_wp2_with fail
      refine (next_at s k c hs HC.out _).mono ?_
      rintro e w1 ⟨rfl, rfl⟩
      go_wp2_with fail
      refine (letter_yes c HU.out _).mono ?_
      rintro e w1 ⟨rfl, rfl⟩
      go_wp2_with fail
      go_round
      case rel => exact ⟨k + 1, by go_num, by have := HK.out; omega, HK.out⟩
      case measure => have := HK.out; simp [intOf]; omega
end Go.Proofs.YtbdgdhjhgcpidaaGreatDoor.Tks
namespace Go.Proofs.YtbdgdhjhgcpidaaGreatDoor.Tks
open Go.RowKit
theorem next_z (s : ByteArray) (z : Int) (i c : Nat) (hs : s.size ≤ 100000) (hz : z = (i : Int)) (h : nx s.data.toList i = c) (w : World) :
    Calls Tryz.prog 76 #[.string s, .int .i64 z] w fun e w' => e = .returned (.int .u8 (c : Int)) ∧ w = w' := by
  subst hz
  exact next_at s i c hs h w
def jumps (J : Nat → Act → World → Prop) (Q : Exit → Act → World → Prop) : Exit → Act → World → Prop
  | .goto l, a, w => J l a w
  | e, a, w => Q e a w
theorem jumps_ret {J : Nat → Act → World → Prop} {Q : Exit → Act → World → Prop} {a : Act} {w : World} : jumps J Q .ret a w = Q .ret a w := rfl
theorem wp_scope_many {P : Program} {a : Act} {w : World} {Q : Exit → Act → World → Prop} {c : Code} (J : Nat → Act → World → Prop) (m : Nat → Act → World → Nat) (M : Nat)
    (first : c.wp P (jumps (fun l a' w' => J l a' w' ∧ m l a' w' < M) Q) a w)
    (pass : ∀ l a w, J l a w → ∃ rest, findLabel c l = some rest ∧ rest.wp P (jumps (fun l' a' w' => J l' a' w' ∧ m l' a' w' < m l a w) Q) a w) : (Code.scope c).wp P Q a w := by
  intro b k cs
  have hg : ∀ l rest, findLabel c l = some rest → gotoIn l (.inScope c :: k) = some (.code rest :: .inScope c :: k) := fun l rest h => by simp [gotoIn, h]
  have key : ∀ n l a w, m l a w = n → J l a w → ∃ rest e a' w', findLabel c l = some rest ∧ Q e a' w' ∧ Arrives P (lone (b.at a (.code rest :: .inScope c :: k)) cs w) b k cs e a' w' := by
    intro n
    induction n using Nat.strongRecOn with
    | _ n ih =>
      intro l a w hn hJ
      obtain ⟨rest, hf, hp⟩ := pass l a w hJ
      obtain ⟨e, a1, w1, hq, harr⟩ := hp b (.inScope c :: k) cs
      refine ⟨rest, ?_⟩
      cases e with
      | normal => exact ⟨.normal, a1, w1, hf, hq, Steps.trans harr (.one step_inScope)⟩
      | exit id => exact ⟨.exit id, a1, w1, hf, hq, fun k' hk => harr k' (by simp [exitTo, hk])⟩
      | goto l' =>
        obtain ⟨hJ', hlt⟩ := hq
        obtain ⟨rest2, e2, a2, w2, hf2, hq2, harr2⟩ := ih _ (by omega) l' a1 w1 rfl hJ'
        exact ⟨e2, a2, w2, hf, hq2, .of_steps (harr _ (hg _ _ hf2)) harr2⟩
      | ret => exact ⟨_, a1, w1, hf, hq, harr⟩
      | panic ch => exact ⟨_, a1, w1, hf, hq, harr⟩
      | outgrown => exact ⟨_, a1, w1, hf, hq, harr⟩
  obtain ⟨e, a1, w1, hq, harr⟩ := first b (.inScope c :: k) cs
  cases e with
  | normal => exact ⟨.normal, a1, w1, hq, .head step_scope (Steps.trans harr (.one step_inScope))⟩
  | exit id => exact ⟨.exit id, a1, w1, hq, fun k' hk => .head step_scope (harr k' (by simp [exitTo, hk]))⟩
  | goto l' =>
    obtain ⟨hJ', hlt⟩ := hq
    obtain ⟨rest2, e2, a2, w2, hf2, hq2, harr2⟩ := key _ l' a1 w1 rfl hJ'
    exact ⟨e2, a2, w2, hq2, .of_steps (.head step_scope (harr _ (hg _ _ hf2))) harr2⟩
  | ret => exact ⟨_, a1, w1, hq, .of_steps (.one step_scope) harr⟩
  | panic ch => exact ⟨_, a1, w1, hq, .of_steps (.one step_scope) harr⟩
  | outgrown => exact ⟨_, a1, w1, hq, .of_steps (.one step_scope) harr⟩
theorem run_yes {p : Nat → Bool} (h0 : p 0 = false) {L : List UInt8} {k c : Nat} (hc : nx L k = c) (h : p c = true) : runN p L k = runN p L (k + 1) + 1 := by rw [run_step h0, hc, if_pos h]
theorem run_no {p : Nat → Bool} (h0 : p 0 = false) {L : List UInt8} {k c : Nat} (hc : nx L k = c) (h : p c = false) : runN p L k = 0 := by rw [run_step h0, hc, if_neg (by simp [h])]
def NumR (L : List UInt8) (n1 r : Nat) : Prop := (nx L n1 ≠ 46 ∧ r = n1) ∨ (nx L n1 = 46 ∧ dgB (nx L (n1 + 1)) = false ∧ r = 0) ∨ (nx L n1 = 46 ∧ dgB (nx L (n1 + 1)) = true ∧ r = n1 + 1 + runN dgB L (n1 + 1))
set_option maxRecDepth 100000 in
set_option maxHeartbeats 2000000 in
theorem number_core (s : ByteArray) (i n1 r : Nat) (hs : s.size ≤ 100000) (hi : i ≤ 100000) (hn : i + runN dgB s.data.toList i = n1) (hr : NumR s.data.toList n1 r) (w : World) :
    Calls Tryz.prog 99 #[.string s, .int .i64 i] w fun e w' => e = .returned (.int .i64 r) ∧ w = w' := by
  have HN := Lib.hid hn
  have HR := Lib.hid hr
  have hn1 : n1 ≤ 200000 := by have := run_le dgB s.data.toList i; rw [← Lib.size_eq] at this; omega
  clear hn hr
  go_enter Tryz.func99, Tryz.ntmps99
  go_wp2_with fail
  refine wp_scope_many (fun l a' w' => w = w' ∧ ∃ k : Nat, k ≤ 500000 ∧ (∃ u2 u3 u5 u6 u7 u8 u9 u10 u11 u12 u13 u14 u15 u16 u17 u18 u19 u20 u21 u22 u23 u24 u25 u26 u27 u28 u29 : Value, a' = { tmps := #[.string s, .int .i64 k, u2, u3, .int .i64 0, u5, u6, u7, u8, u9, u10, u11, u12, u13, u14, u15, u16, u17, u18, u19, u20, u21, u22, u23, u24, u25, u26, u27, u28, u29], defers := [] }) ∧ ((l = 0 ∧ k ≤ n1 ∧ k + runN dgB s.data.toList k = n1) ∨ (l = 1 ∧ dgB (nx s.data.toList k) = true ∧ k + runN dgB s.data.toList k = r))) (fun _ a' _ => 600000 - (intOf (a'.tmps.getD 1 undef)).toNat) 600000 ?first ?pass
  · go_wp2_with fail
    go_step3
    have hk : i ≤ n1 := by have := HN.out; omega
    obtain ⟨k, hki⟩ : ∃ k, i = k := ⟨_, rfl⟩
    subst hki
    have HK := Lib.hid HN.out
    have hk5 : i ≤ 500000 := by omega
    obtain ⟨k, hki⟩ : ∃ k, k = i := ⟨_, rfl⟩
    rw [← hki] at hk5 hk HK
    rw [← hki]
    clear hki
    have hMM : 600000 - k ≤ 600000 := by omega
    obtain ⟨c, hc⟩ : ∃ c, nx s.data.toList k = c := ⟨_, rfl⟩
    rcases hd : dgB c with _ | _
    · have hkn : k = n1 := by have := run_no (p := dgB) (by decide) hc hd; have := HK.out; omega
      have HD := Lib.hid hd
      have HC := Lib.hid hc
      have HKN := Lib.hid hkn
      clear hd hc hkn
      go_wp2_with fail
      refine (next_z s _ k c hs (by omega) HC.out _).mono ?_
      rintro e w1 ⟨rfl, rfl⟩
      go_wp2_with fail
      refine (digit_no c HD.out _).mono ?_
      rintro e w1 ⟨rfl, rfl⟩
      rcases HR.out with ⟨h1, h2⟩ | ⟨h1, h2, h3⟩ | ⟨h1, h2, h3⟩
      · rw [← HKN.out, HC.out] at h1
        have h46 : (((c : Nat) : Int) != 46) = true := by simp; omega
        have H2 := Lib.hid h2
        clear h1 h2
        go_wp2_with fail
        refine (next_z s _ k c hs (by omega) HC.out _).mono ?_
        rintro e w1 ⟨rfl, rfl⟩
        go_wp2_with fail
        simp only [jumps_ret]
        go_ret
        exact ⟨ret_i64 (by rw [H2.out, HKN.out]), rfl⟩
      · rw [← HKN.out, HC.out] at h1
        have h46 : (((c : Nat) : Int) != 46) = false := by simp; omega
        have H3 := Lib.hid h3
        obtain ⟨c2, hc2⟩ : ∃ c2, nx s.data.toList (k + 1) = c2 := ⟨_, rfl⟩
        rw [← HKN.out, hc2] at h2
        have H2 := Lib.hid h2
        have HC2 := Lib.hid hc2
        clear h1 h2 h3 hc2
        go_wp2_with fail
        refine (next_z s _ k c hs (by omega) HC.out _).mono ?_
        rintro e w1 ⟨rfl, rfl⟩
        go_wp2_with fail
        refine (next_z s _ (k + 1) c2 hs (by omega) HC2.out _).mono ?_
        rintro e w1 ⟨rfl, rfl⟩
        go_wp2_with fail
        refine (digit_no c2 H2.out _).mono ?_
        rintro e w1 ⟨rfl, rfl⟩
        go_wp2_with fail
        simp only [jumps_ret]
        go_ret
        exact ⟨ret_i64 (by rw [H3.out]; rfl), rfl⟩
      · rw [← HKN.out, HC.out] at h1
        have h46 : (((c : Nat) : Int) != 46) = false := by simp; omega
        rw [← HKN.out] at h3
        have H3 := Lib.hid h3
        obtain ⟨c2, hc2⟩ : ∃ c2, nx s.data.toList (k + 1) = c2 := ⟨_, rfl⟩
        rw [← HKN.out, hc2] at h2
        have H2 := Lib.hid h2
        have HC2 := Lib.hid hc2
        obtain ⟨c3, hc3⟩ : ∃ c3, nx s.data.toList (k + 1 + 1) = c3 := ⟨_, rfl⟩
        rcases hd3 : dgB c3 with _ | _
        · have H4 : Hid (r = k + 1 + 1) := by unfold Hid; rw [H3.out, run_yes (p := dgB) (by decide) hc2 h2, run_no (p := dgB) (by decide) hc3 hd3]
          have HD3 := Lib.hid hd3
          have HC3 := Lib.hid hc3
          clear h1 h2 h3 hc2 hc3 hd3
          go_wp2_with fail
          refine (next_z s _ k c hs (by omega) HC.out _).mono ?_
          rintro e w1 ⟨rfl, rfl⟩
          go_wp2_with fail
          refine (next_z s _ (k + 1) c2 hs (by omega) HC2.out _).mono ?_
          rintro e w1 ⟨rfl, rfl⟩
          go_wp2_with fail
          refine (digit_yes c2 H2.out _).mono ?_
          rintro e w1 ⟨rfl, rfl⟩
          go_wp2_with fail
          go_step3
          go_wp2_with fail
          refine (next_z s _ (k + 1 + 1) c3 hs (by omega) HC3.out _).mono ?_
          rintro e w1 ⟨rfl, rfl⟩
          go_wp2_with fail
          refine (digit_no c3 HD3.out _).mono ?_
          rintro e w1 ⟨rfl, rfl⟩
          go_wp2_with fail
          simp only [jumps_ret]
          go_ret
          exact ⟨ret_i64 (by rw [H4.out]; go_num), rfl⟩
        · have H4 : Hid (k + 1 + 1 + runN dgB s.data.toList (k + 1 + 1) = r) := by unfold Hid; rw [H3.out, run_yes (p := dgB) (by decide) hc2 h2]; omega
          have HD3 := Lib.hid hd3
          have HC3 := Lib.hid hc3
          clear h1 h2 h3 hc2 hc3 hd3
          go_wp2_with fail
          refine (next_z s _ k c hs (by omega) HC.out _).mono ?_
          rintro e w1 ⟨rfl, rfl⟩
          go_wp2_with fail
          refine (next_z s _ (k + 1) c2 hs (by omega) HC2.out _).mono ?_
          rintro e w1 ⟨rfl, rfl⟩
          go_wp2_with fail
          refine (digit_yes c2 H2.out _).mono ?_
          rintro e w1 ⟨rfl, rfl⟩
          go_wp2_with fail
          go_step3
          go_wp2_with fail
          refine (next_z s _ (k + 1 + 1) c3 hs (by omega) HC3.out _).mono ?_
          rintro e w1 ⟨rfl, rfl⟩
          go_wp2_with fail
          refine (digit_yes c3 HD3.out _).mono ?_
          rintro e w1 ⟨rfl, rfl⟩
          go_wp2_with fail
          go_step3
          refine ⟨⟨rfl, k + 1 + 1, by omega, ⟨_, _, _, _, _, _, _, _, _, _, _, _, _, _, _, _, _, _, _, _, _, _, _, _, _, _, _, by first | rfl | (congr 3; go_num) | go_num⟩, .inr ⟨rfl, by rw [HC3.out]; exact HD3.out, H4.out⟩⟩, by simp [intOf]; omega⟩
    · have hkn : k + 1 + runN dgB s.data.toList (k + 1) = n1 := by have := run_yes (p := dgB) (by decide) hc hd; have := HK.out; omega
      have HD := Lib.hid hd
      have HC := Lib.hid hc
      have HKN := Lib.hid hkn
      clear hd hc hkn
      go_wp2_with fail
      refine (next_z s _ k c hs (by omega) HC.out _).mono ?_
      rintro e w1 ⟨rfl, rfl⟩
      go_wp2_with fail
      refine (digit_yes c HD.out _).mono ?_
      rintro e w1 ⟨rfl, rfl⟩
      go_wp2_with fail
      go_step3
      have hk9 : k + 1 ≤ n1 := by have := HKN.out; omega
      refine ⟨⟨rfl, k + 1, by omega, ⟨_, _, _, _, _, _, _, _, _, _, _, _, _, _, _, _, _, _, _, _, _, _, _, _, _, _, _, by first | rfl | (congr 3; go_num) | go_num⟩, .inl ⟨rfl, hk9, HKN.out⟩⟩, by simp [intOf]; omega⟩
  · rintro l a' w' ⟨rfl, k, hk5, ⟨u2, u3, u5, u6, u7, u8, u9, u10, u11, u12, u13, u14, u15, u16, u17, u18, u19, u20, u21, u22, u23, u24, u25, u26, u27, u28, u29, rfl⟩, ⟨rfl, hk, hr1⟩ | ⟨rfl, hd, hr1⟩⟩
    · refine ⟨_, rfl, ?_⟩
      have HK := Lib.hid hr1
      clear hr1
      obtain ⟨c, hc⟩ : ∃ c, nx s.data.toList k = c := ⟨_, rfl⟩
      rcases hd : dgB c with _ | _
      · have hkn : k = n1 := by have := run_no (p := dgB) (by decide) hc hd; have := HK.out; omega
        have HD := Lib.hid hd
        have HC := Lib.hid hc
        have HKN := Lib.hid hkn
        clear hd hc hkn
        go_wp2_with fail
        refine (next_z s _ k c hs (by omega) HC.out _).mono ?_
        rintro e w1 ⟨rfl, rfl⟩
        go_wp2_with fail
        refine (digit_no c HD.out _).mono ?_
        rintro e w1 ⟨rfl, rfl⟩
        rcases HR.out with ⟨h1, h2⟩ | ⟨h1, h2, h3⟩ | ⟨h1, h2, h3⟩
        · rw [← HKN.out, HC.out] at h1
          have h46 : (((c : Nat) : Int) != 46) = true := by simp; omega
          have H2 := Lib.hid h2
          clear h1 h2
          go_wp2_with fail
          refine (next_z s _ k c hs (by omega) HC.out _).mono ?_
          rintro e w1 ⟨rfl, rfl⟩
          go_wp2_with fail
          simp only [jumps_ret]
          go_ret
          exact ⟨ret_i64 (by rw [H2.out, HKN.out]), rfl⟩
        · rw [← HKN.out, HC.out] at h1
          have h46 : (((c : Nat) : Int) != 46) = false := by simp; omega
          have H3 := Lib.hid h3
          obtain ⟨c2, hc2⟩ : ∃ c2, nx s.data.toList (k + 1) = c2 := ⟨_, rfl⟩
          rw [← HKN.out, hc2] at h2
          have H2 := Lib.hid h2
          have HC2 := Lib.hid hc2
          clear h1 h2 h3 hc2
          go_wp2_with fail
          refine (next_z s _ k c hs (by omega) HC.out _).mono ?_
          rintro e w1 ⟨rfl, rfl⟩
          go_wp2_with fail
          refine (next_z s _ (k + 1) c2 hs (by omega) HC2.out _).mono ?_
          rintro e w1 ⟨rfl, rfl⟩
          go_wp2_with fail
          refine (digit_no c2 H2.out _).mono ?_
          rintro e w1 ⟨rfl, rfl⟩
          go_wp2_with fail
          simp only [jumps_ret]
          go_ret
          exact ⟨ret_i64 (by rw [H3.out]; rfl), rfl⟩
        · rw [← HKN.out, HC.out] at h1
          have h46 : (((c : Nat) : Int) != 46) = false := by simp; omega
          rw [← HKN.out] at h3
          have H3 := Lib.hid h3
          obtain ⟨c2, hc2⟩ : ∃ c2, nx s.data.toList (k + 1) = c2 := ⟨_, rfl⟩
          rw [← HKN.out, hc2] at h2
          have H2 := Lib.hid h2
          have HC2 := Lib.hid hc2
          obtain ⟨c3, hc3⟩ : ∃ c3, nx s.data.toList (k + 1 + 1) = c3 := ⟨_, rfl⟩
          rcases hd3 : dgB c3 with _ | _
          · have H4 : Hid (r = k + 1 + 1) := by unfold Hid; rw [H3.out, run_yes (p := dgB) (by decide) hc2 h2, run_no (p := dgB) (by decide) hc3 hd3]
            have HD3 := Lib.hid hd3
            have HC3 := Lib.hid hc3
            clear h1 h2 h3 hc2 hc3 hd3
            go_wp2_with fail
            refine (next_z s _ k c hs (by omega) HC.out _).mono ?_
            rintro e w1 ⟨rfl, rfl⟩
            go_wp2_with fail
            refine (next_z s _ (k + 1) c2 hs (by omega) HC2.out _).mono ?_
            rintro e w1 ⟨rfl, rfl⟩
            go_wp2_with fail
            refine (digit_yes c2 H2.out _).mono ?_
            rintro e w1 ⟨rfl, rfl⟩
            go_wp2_with fail
            go_step3
            go_wp2_with fail
            refine (next_z s _ (k + 1 + 1) c3 hs (by omega) HC3.out _).mono ?_
            rintro e w1 ⟨rfl, rfl⟩
            go_wp2_with fail
            refine (digit_no c3 HD3.out _).mono ?_
            rintro e w1 ⟨rfl, rfl⟩
            go_wp2_with fail
            simp only [jumps_ret]
            go_ret
            exact ⟨ret_i64 (by rw [H4.out]; go_num), rfl⟩
          · have H4 : Hid (k + 1 + 1 + runN dgB s.data.toList (k + 1 + 1) = r) := by unfold Hid; rw [H3.out, run_yes (p := dgB) (by decide) hc2 h2]; omega
            have HD3 := Lib.hid hd3
            have HC3 := Lib.hid hc3
            clear h1 h2 h3 hc2 hc3 hd3
            go_wp2_with fail
            refine (next_z s _ k c hs (by omega) HC.out _).mono ?_
            rintro e w1 ⟨rfl, rfl⟩
            go_wp2_with fail
            refine (next_z s _ (k + 1) c2 hs (by omega) HC2.out _).mono ?_
            rintro e w1 ⟨rfl, rfl⟩
            go_wp2_with fail
            refine (digit_yes c2 H2.out _).mono ?_
            rintro e w1 ⟨rfl, rfl⟩
            go_wp2_with fail
            go_step3
            go_wp2_with fail
            refine (next_z s _ (k + 1 + 1) c3 hs (by omega) HC3.out _).mono ?_
            rintro e w1 ⟨rfl, rfl⟩
            go_wp2_with fail
            refine (digit_yes c3 HD3.out _).mono ?_
            rintro e w1 ⟨rfl, rfl⟩
            go_wp2_with fail
            go_step3
            refine ⟨⟨rfl, k + 1 + 1, by omega, ⟨_, _, _, _, _, _, _, _, _, _, _, _, _, _, _, _, _, _, _, _, _, _, _, _, _, _, _, by first | rfl | (congr 3; go_num) | go_num⟩, .inr ⟨rfl, by rw [HC3.out]; exact HD3.out, H4.out⟩⟩, by simp [intOf]; omega⟩
      · have hkn : k + 1 + runN dgB s.data.toList (k + 1) = n1 := by have := run_yes (p := dgB) (by decide) hc hd; have := HK.out; omega
        have HD := Lib.hid hd
        have HC := Lib.hid hc
        have HKN := Lib.hid hkn
        clear hd hc hkn
        go_wp2_with fail
        refine (next_z s _ k c hs (by omega) HC.out _).mono ?_
        rintro e w1 ⟨rfl, rfl⟩
        go_wp2_with fail
        refine (digit_yes c HD.out _).mono ?_
        rintro e w1 ⟨rfl, rfl⟩
        go_wp2_with fail
        go_step3
        have hk9 : k + 1 ≤ n1 := by have := HKN.out; omega
        refine ⟨⟨rfl, k + 1, by omega, ⟨_, _, _, _, _, _, _, _, _, _, _, _, _, _, _, _, _, _, _, _, _, _, _, _, _, _, _, by first | rfl | (congr 3; go_num) | go_num⟩, .inl ⟨rfl, hk9, HKN.out⟩⟩, by simp [intOf]; omega⟩
    · refine ⟨_, rfl, ?_⟩
      obtain ⟨c0, hc0⟩ : ∃ c, nx s.data.toList k = c := ⟨_, rfl⟩
      rw [hc0] at hd
      obtain ⟨c, hc⟩ : ∃ c, nx s.data.toList (k + 1) = c := ⟨_, rfl⟩
      rcases hd2 : dgB c with _ | _
      · have H4 : Hid (r = k + 1) := by unfold Hid; rw [← hr1, run_yes (p := dgB) (by decide) hc0 hd, run_no (p := dgB) (by decide) hc hd2]
        have HD2 := Lib.hid hd2
        have HC := Lib.hid hc
        clear hd hc0 hr1 hc hd2
        go_wp2_with fail
        refine (next_z s _ (k + 1) c hs (by omega) HC.out _).mono ?_
        rintro e w1 ⟨rfl, rfl⟩
        go_wp2_with fail
        refine (digit_no c HD2.out _).mono ?_
        rintro e w1 ⟨rfl, rfl⟩
        go_wp2_with fail
        simp only [jumps_ret]
        go_ret
        exact ⟨ret_i64 (by rw [H4.out]; go_num), rfl⟩
      · have H4 : Hid (k + 1 + runN dgB s.data.toList (k + 1) = r) := by unfold Hid; rw [← hr1, run_yes (p := dgB) (by decide) hc0 hd]; omega
        have HD2 := Lib.hid hd2
        have HC := Lib.hid hc
        clear hd hc0 hr1
        have hk9 : k + 1 ≤ 500000 := by
          have := lt_of_nx (L := s.data.toList) (i := k + 1) (by rw [hc]; intro e; rw [e] at hd2; exact absurd hd2 (by decide))
          rw [← Lib.size_eq] at this
          omega
        clear hc hd2
        go_wp2_with fail
        refine (next_z s _ (k + 1) c hs (by omega) HC.out _).mono ?_
        rintro e w1 ⟨rfl, rfl⟩
        go_wp2_with fail
        refine (digit_yes c HD2.out _).mono ?_
        rintro e w1 ⟨rfl, rfl⟩
        go_wp2_with fail
        go_step3
        refine ⟨⟨rfl, k + 1, by omega, ⟨_, _, _, _, _, _, _, _, _, _, _, _, _, _, _, _, _, _, _, _, _, _, _, _, _, _, _, by first | rfl | (congr 3; go_num) | go_num⟩, .inr ⟨rfl, by rw [HC.out]; exact HD2.out, H4.out⟩⟩, by simp [intOf]; omega⟩
theorem numR_of (L : List UInt8) (i : Nat) (hd : dgB (nx L i) = true) : NumR L (i + runN dgB L i) (if numN L i = 0 then 0 else i + numN L i) := by
  have h0 := run_yes (p := dgB) (by decide) (L := L) (k := i) rfl hd
  unfold NumR
  by_cases h : nx L (i + runN dgB L i) = 46
  · by_cases h2 : dgB (nx L (i + runN dgB L i + 1)) = true
    · have h3 := run_yes (p := dgB) (by decide) (L := L) (k := i + runN dgB L i + 1) rfl h2
      have e : numN L i = runN dgB L i + 1 + runN dgB L (i + runN dgB L i + 1) := by unfold numN; rw [if_pos h, if_neg (by omega)]
      exact .inr (.inr ⟨h, h2, by rw [if_neg (by omega)]; omega⟩)
    · have h2 : dgB (nx L (i + runN dgB L i + 1)) = false := by simpa using h2
      have h3 := run_no (p := dgB) (by decide) (L := L) (k := i + runN dgB L i + 1) rfl h2
      have e : numN L i = 0 := by unfold numN; rw [if_pos h, if_pos h3]
      exact .inr (.inl ⟨h, h2, by rw [if_pos e]⟩)
  · have e : numN L i = runN dgB L i := by unfold numN; rw [if_neg h]
    exact .inl ⟨h, by rw [if_neg (by omega)]; omega⟩
theorem number_any (s : ByteArray) (i r : Nat) (hs : s.size ≤ 100000) (hi : i ≤ 100000) (hd : dgB (nx s.data.toList i) = true) (hr : (if numN s.data.toList i = 0 then 0 else i + numN s.data.toList i) = r) (w : World) :
    Calls Tryz.prog 99 #[.string s, .int .i64 i] w fun e w' => e = .returned (.int .i64 r) ∧ w = w' :=
  number_core s i _ r hs hi rfl (hr ▸ numR_of _ i hd) w
end Go.Proofs.YtbdgdhjhgcpidaaGreatDoor.Tks
namespace Go.Proofs.YtbdgdhjhgcpidaaGreatDoor.Tks
open Go.RowKit
abbrev tBd : TypeId := 143
theorem info_bd : (Tryz.prog.info? 143).map (fun i => i.size) = some 2 := by kernel_rfl
theorem lies_bd : liesAt Tryz.prog Tryz.prog.depth 143 (2 / Tryz.prog.cellsOf 143) 0 143 1 = true := by kernel_rfl
theorem info_u8b : (Tryz.prog.info? 5).map (fun i => (i.zero, i.size, i.bytes)) = some (some (.int .u8 0), 1, 1) := by kernel_rfl
set_option maxHeartbeats 1000000 in
set_option maxRecDepth 100000 in
theorem copyCheck_used (b : Nat) (w : World) (h0 : w.cell? ⟨b, 0, none⟩ = some (.pointer (some ⟨b, 0, none⟩))) :
    Calls Tryz.prog 117 #[.pointer (some ⟨b, 0, none⟩)] w fun e w' => e = .returned (.tuple #[]) ∧ w' = w := by
  obtain ⟨j, hj, _⟩ := Option.map_eq_some_iff.1 info_bd
  go_enter Tryz.func117, Tryz.ntmps117
  go_wp2
  rw [Lib.run_neq_ptr_same w _ Tryz.underlying141 hj]
  go_wp2
  go_end0
  exact ⟨rfl, rfl⟩
set_option maxHeartbeats 1000000 in
set_option maxRecDepth 100000 in
theorem copyCheck_fresh (b : Nat) (w : World) (h0 : w.cell? ⟨b, 0, none⟩ = some (.pointer none)) (hsh : w.shape? b = some (tBd, 2)) (hfz : w.frozen? ⟨b, 0, none⟩ = false) :
    Calls Tryz.prog 117 #[.pointer (some ⟨b, 0, none⟩)] w fun e w' => e = .returned (.tuple #[]) ∧ w' = w.setCell ⟨b, 0, none⟩ (.pointer (some ⟨b, 0, none⟩)) := by
  obtain ⟨j, hj, hjs⟩ := Option.map_eq_some_iff.1 info_bd
  go_enter Tryz.func117, Tryz.ntmps117
  go_wp2
  rw [Lib.run_to_unsafe w ⟨b, 0, none⟩ Tryz.underlying141 Tryz.underlying188 hj (by rw [hjs]; decide) hsh (Nat.zero_lt_succ 1)]
  simp only [Result.andThen]
  rw [Oper.upon_value]
  go_wp2
  rw [run_callFunc_extern Tryz.func134 (by kernel_rfl) (by kernel_rfl) (by kernel_rfl) (e := Extern.AbiNoEscape.same) (by kernel_rfl)]
  rw [Lib.run_noEscape]
  simp only [Result.andThen]
  rw [Oper.upon_value]
  go_wp2
  rw [Lib.run_from_unsafe w ⟨b, 0, none⟩ Tryz.underlying188 Tryz.underlying141 hj hsh lies_bd]
  simp only [Result.andThen]
  rw [Oper.upon_value]
  go_wp2
  go_end0
  exact ⟨rfl, rfl⟩
theorem copyCheck_any (B b : Nat) (bs : List Value) (w : World) (h : Lib.IsBuilder tBd 5 B b bs w) :
    Calls Tryz.prog 117 #[.pointer (some ⟨b, 0, none⟩)] w fun e w' => e = .returned (.tuple #[]) ∧ Lib.BuilderAt tBd 5 B b (.pointer (some ⟨b, 0, none⟩)) bs w' ∧ Below B w w' := by
  rcases h with h | h
  · refine (copyCheck_fresh b w h.cell0 h.shape h.frozen0).mono ?_
    rintro e w' ⟨rfl, rfl⟩
    exact ⟨rfl, h.used _, (Below.refl B w).setCell (p := ⟨b, 0, none⟩) h.1 _⟩
  · refine (copyCheck_used b w h.cell0).mono ?_
    rintro e w' ⟨rfl, rfl⟩
    exact ⟨rfl, h, Below.refl B _⟩
set_option maxHeartbeats 2000000 in
set_option maxRecDepth 100000 in
theorem writeByte_any (B b : Nat) (bs : List Value) (c : Int) (w : World) (h : Lib.IsBuilder tBd 5 B b bs w) (hlen : bs.length ≤ 1000000) (hBw : B ≤ w.heap.size) :
    Calls Tryz.prog 108 #[.pointer (some ⟨b, 0, none⟩), .int .u8 c] w fun e w' => e = .returned .nilIface ∧ Lib.BuilderAt tBd 5 B b (.pointer (some ⟨b, 0, none⟩)) (bs ++ [.int .u8 c]) w' ∧ Below B w w' := by
  obtain ⟨i0, hi, hz0, hz1, hz2⟩ := info_parts info_u8b
  go_enter Tryz.func108, Tryz.ntmps108
  go_wp2_with (go_at_call 117; refine (copyCheck_any B b bs _ h).mono ?_)
  rintro e w1 ⟨rfl, h1, hb1⟩
  obtain ⟨hB, v, hbk, hown, hne⟩ := h1
  have c0 : w1.cell? ⟨b, 0, none⟩ = some (.pointer (some ⟨b, 0, none⟩)) := by rw [Lib.cell_of_heap hbk]; rfl
  have c1 : w1.cell? ⟨b, 1, none⟩ = some v := by rw [Lib.cell_of_heap hbk]; rfl
  go_wp2_with (at_builtin; refine wpList_append_own _ rfl _ _ 125 rfl B 5 i0 (.int .u8 0) 1 1 Tryz.underlying125 hi hz0 hz1 hz2 rfl (by decide) _ _ _ rfl (hown.alloc _) ⟨w1.heap.size, 0, none⟩ 1 1 [.int .u8 c] rfl rfl ?c1 ?c2 ?c3 ?c4 ?c5 ?_)
  case c1 =>
    intro j u hj
    match j, hj with
    | 0, hj => simp at hj; subst hj; simp [Addr.add]
  case c2 => intro u hu; simp at hu; subst hu; rfl
  case c3 => unfold maxLen; omega
  case c4 => omega
  case c5 => have := hb1.size; simp; omega
  intro v' w2 hown' hgrow _
  have hlt : b < w1.heap.size := by
    rcases Nat.lt_or_ge b w1.heap.size with h' | h'
    · exact h'
    · simp [Array.getElem?_eq_none h'] at hbk
  have hb2 : w2.heap[b]? = some (.cells #[.pointer (some ⟨b, 0, none⟩), v] tBd (0, 0)) := by
    rw [hgrow.block b (by simp; omega) (fun e => hne e.symm), Lib.alloc_old w1 _ b hlt]
    exact hbk
  have d0 : w2.cell? ⟨b, 0, none⟩ = some (.pointer (some ⟨b, 0, none⟩)) := by rw [Lib.cell_of_heap hb2]; rfl
  have d1 : w2.cell? ⟨b, 1, none⟩ = some v := by rw [Lib.cell_of_heap hb2]; rfl
  have f1 : w2.frozen? ⟨b, 1, none⟩ = false := Lib.frozen_of_heap hb2 1
  obtain ⟨g, cap, rfl⟩ : ∃ g cap, v' = .slice (some ⟨g, 0, none⟩) (bs.length + 1) cap := by
    rcases hown'.2 with ⟨_, h0⟩ | ⟨g, cap, cur, hv, _⟩
    · omega
    · exact ⟨g, cap, hv⟩
  go_wp2
  go_ret
  refine ⟨rfl, ?_, ?_⟩
  · exact Lib.BuilderAt.put (T := tBd) (e := 5) hB hb2 (bs' := bs ++ [.int .u8 c]) (by simpa using hown') (by decide)
  · exact ((hb1.alloc (by have := hb1.size; omega) _).grown hgrow (by have := hb1.size; simp; omega) (fun k hk => (hown.lt k hk).1)).setCell (p := ⟨b, 1, none⟩) hB _
theorem bd_fresh (B : Nat) (w : World) (hB : B ≤ w.heap.size) : Lib.IsBuilder tBd 5 B w.heap.size [] (w.alloc (.cells #[.pointer none, .slice none 0 0] tBd)) :=
  .inl ⟨hB, .slice none 0 0, heap_alloc_new w _, World.ownsRow_nil _ _ _ _, by intro h; cases h⟩
theorem bd_string (B b : Nat) (l : List UInt8) (w : World) (h : Lib.IsBuilder tBd 5 B b (Lib.byteCells l) w) (hBw : B ≤ w.heap.size) :
    Calls Tryz.prog 81 #[.pointer (some ⟨b, 0, none⟩)] w fun e w' => e = .returned (.string ⟨l.toArray⟩) ∧ Below B w w' := Tryz.Builder_String_any B b l w h hBw
end Go.Proofs.YtbdgdhjhgcpidaaGreatDoor.Tks
namespace Go.Proofs.YtbdgdhjhgcpidaaGreatDoor.Tks
open Go.RowKit
def qm (p : List UInt8) (n : Nat) : Option (List UInt8 × Nat) → Option (List UInt8 × Nat)
  | none => none
  | some (t, m) => some (p ++ t, m + n)
theorem qm_qm (p q : List UInt8) (n m : Nat) (x : Option (List UInt8 × Nat)) : qm p n (qm q m x) = qm (p ++ q) (m + n) x := by
  cases x with
  | none => rfl
  | some x => obtain ⟨t, k⟩ := x; simp [qm]; omega
theorem qm_nil (x : Option (List UInt8 × Nat)) : qm [] 0 x = x := by
  cases x with
  | none => rfl
  | some x => rfl
theorem quo_end (L : List UInt8) (j : Nat) (h : L.length ≤ j) : quo (L.drop j) = none := by
  rw [List.drop_of_length_le h]
  rfl
theorem u8_eta (c : UInt8) : UInt8.ofNat c.toNat = c := by simp
theorem quo_other (L : List UInt8) (j : Nat) (h : j < L.length) (hc : nx L j ≠ 34) : quo (L.drop j) = qm [UInt8.ofNat (nx L j)] 1 (quo (L.drop (j + 1))) := by
  rw [nx_get h] at hc ⊢
  rw [u8_eta, List.drop_eq_getElem_cons h]
  cases hd : L.drop (j + 1) with
  | nil => simp [quo, hc, qm]
  | cons d r =>
    rw [quo]
    rw [if_neg hc]
    cases quo (d :: r) with
    | none => rfl
    | some x => obtain ⟨t, n⟩ := x; simp [qm]
theorem quo_close (L : List UInt8) (j : Nat) (hc : nx L j = 34) (h2 : nx L (j + 1) ≠ 34) : quo (L.drop j) = some ([], 1) := by
  have h := lt_of_nx (L := L) (i := j) (by omega)
  rw [nx_get h] at hc
  rw [List.drop_eq_getElem_cons h]
  rcases Nat.lt_or_ge (j + 1) L.length with h1 | h1
  · rw [nx_get h1] at h2
    rw [List.drop_eq_getElem_cons h1, quo]
    simp [hc, h2]
  · rw [List.drop_of_length_le h1, quo]
    simp [hc]
theorem quo_two (L : List UInt8) (j : Nat) (hc : nx L j = 34) (h2 : nx L (j + 1) = 34) : quo (L.drop j) = qm [UInt8.ofNat 34] 2 (quo (L.drop (j + 2))) := by
  have h := lt_of_nx (L := L) (i := j) (by omega)
  have h1 := lt_of_nx (L := L) (i := j + 1) (by omega)
  rw [nx_get h] at hc
  rw [nx_get h1] at h2
  rw [List.drop_eq_getElem_cons h, List.drop_eq_getElem_cons h1, quo]
  rw [if_pos hc, if_pos h2, ← u8_eta L[j], hc]
  cases quo (L.drop (j + 1 + 1)) with
  | none => rfl
  | some x => obtain ⟨t, n⟩ := x; simp [qm]
theorem bc_snoc (l : List UInt8) (c : Nat) (h : c < 256) : Lib.byteCells l ++ [.int .u8 (c : Int)] = Lib.byteCells (l ++ [UInt8.ofNat c]) := by
  simp [Lib.byteCells]
  omega
theorem bc_len (l : List UInt8) : (Lib.byteCells l).length = l.length := by simp [Lib.byteCells]
def RetQ (i : Nat) (R : Option (List UInt8 × Nat)) (W : World) (e : Ending) (w' : World) : Prop := Below W.heap.size W w' ∧ match R with
  | none => e = .returned (.tuple #[.string ⟨#[]⟩, .int .i64 0])
  | some (t, m) => e = .returned (.tuple #[.string ⟨t.toArray⟩, .int .i64 ((i + 1 + m : Nat) : Int)])
theorem retq_none {i : Nat} {R : Option (List UInt8 × Nat)} {W w' : World} (h : R = none) (hb : Below W.heap.size W w') : RetQ i R W (.returned (.tuple #[.string ⟨#[]⟩, .int .i64 0])) w' := by subst h; exact ⟨hb, rfl⟩
theorem retq_some {i m : Nat} {z : Int} {t : List UInt8} {R : Option (List UInt8 × Nat)} {W w' : World} (h : R = some (t, m)) (hz : z = ((i + 1 + m : Nat) : Int)) (hb : Below W.heap.size W w') : RetQ i R W (.returned (.tuple #[.string ⟨t.toArray⟩, .int .i64 z])) w' := by subst h hz; exact ⟨hb, rfl⟩
end Go.Proofs.YtbdgdhjhgcpidaaGreatDoor.Tks
