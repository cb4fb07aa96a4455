/- Tokens of a text, in plain lists of bytes: what the program and the document's answer both compute. Contracts of the small functions of both texts: a byte, a digit, a letter, a run, a beginning. Contracts of number and run. Contracts of strings.Builder's WriteByte and String at a builder of the call's own. Contracts of quoted, in both texts. -/
import Derived.Test.YtjklbbmgjjdalaaGreatDoorBase
import Derived.Test.YtjklbbmgjjdalaaGreatDoorBbA
import Derived.Deep.DeepCutAuto
import Derived.Deep.LoopGhost
import Derived.WalkMore
import Derived.ScopeJumps
import Derived.Lib.Builder
import Derived.OwnWalk
import Derived.Laws.AppendOwnNone
import Derived.Laws.OwnMore
import Derived.LoopTactic
set_option linter.unusedSimpArgs false
set_option linter.unusedVariables false
namespace Go.Proofs.YtjklbbmgjjdalaaGreatDoor.Tks
open Go.RowKit
def nx (L : List UInt8) (i : Nat) : Nat := (L.getD i 0).toNat
def dgB (c : Nat) : Bool := decide (48 ≤ c) && decide (c ≤ 57)
def upB (c : Nat) : Bool := decide (65 ≤ c) && decide (c ≤ 90)
def nmB (c : Nat) : Bool := upB c || dgB c
def runN (p : Nat → Bool) (L : List UInt8) (i : Nat) : Nat := ((L.drop i).takeWhile fun c => p c.toNat).length
theorem nx_get {L : List UInt8} {i : Nat} (h : i < L.length) : nx L i = L[i].toNat := by simp [nx, List.getD, h]
theorem nx_end {L : List UInt8} {i : Nat} (h : L.length ≤ i) : nx L i = 0 := by simp [nx, List.getD, List.getElem?_eq_none h]
theorem lt_of_nx {L : List UInt8} {i : Nat} (h : nx L i ≠ 0) : i < L.length := by
  rcases Nat.lt_or_ge i L.length with h' | h'
  · exact h'
  · exact absurd (nx_end h') h
theorem run_step {p : Nat → Bool} (h0 : p 0 = false) (L : List UInt8) (i : Nat) : runN p L i = if p (nx L i) then runN p L (i + 1) + 1 else 0 := by
  unfold runN
  rcases Nat.lt_or_ge i L.length with h | h
  · rw [List.drop_eq_getElem_cons h, List.takeWhile_cons, nx_get h]
    split <;> simp
  · rw [List.drop_of_length_le h, nx_end h, h0]
    simp
theorem run_le (p : Nat → Bool) (L : List UInt8) (i : Nat) : runN p L i ≤ L.length - i := by
  have := (List.takeWhile_sublist (fun c : UInt8 => p c.toNat) (l := L.drop i)).length_le
  simpa [runN] using this
def numN (L : List UInt8) (i : Nat) : Nat := if nx L (i + runN dgB L i) = 46 then (if runN dgB L (i + runN dgB L i + 1) = 0 then 0 else runN dgB L i + 1 + runN dgB L (i + runN dgB L i + 1)) else runN dgB L i
def quo : List UInt8 → Option (List UInt8 × Nat)
  | [] => none
  | [c] => if c.toNat = 34 then some ([], 1) else none
  | c :: d :: r => if c.toNat = 34 then (if d.toNat = 34 then (match quo r with | some (t, n) => some (c :: t, n + 2) | none => none) else some ([], 1)) else (match quo (d :: r) with | some (t, n) => some (c :: t, n + 1) | none => none)
def sREF : List UInt8 := [35, 82, 69, 70, 33]
def sgs : List (List UInt8) := [[60, 62], [60, 61], [62, 61], [60], [62], [61], [43], [45], [42], [47], [38], [40], [41], [44], [58]]
def sgn (l : List UInt8) : List UInt8 := (sgs.find? fun x => Lib.hasPrefix l x).getD []
abbrev Tk := Int × List UInt8 × Nat
def tok (L : List UInt8) (i : Nat) : Option (Int × List UInt8 × Nat) :=
  if dgB (nx L i) then (if numN L i = 0 then none else some (1, (L.drop i).take (numN L i), numN L i))
  else if upB (nx L i) then some (3, (L.drop i).take (runN nmB L i), runN nmB L i)
  else if nx L i = 34 then (match quo (L.drop (i + 1)) with | some (t, n) => some (2, t, n + 1) | none => none)
  else if Lib.hasPrefix (L.drop i) sREF then some (5, sREF, 5)
  else if sgn (L.drop i) = [] then none else some (4, sgn (L.drop i), (sgn (L.drop i)).length)
def splF (L : List UInt8) : Nat → Nat → Option (List Tk) × Nat
  | 0, _ => (some [], 0)
  | f + 1, i =>
    if L.length ≤ i then (some [], 0)
    else if nx L i = 32 then splF L f (i + 1)
    else match tok L i with
      | none => (none, i)
      | some (k, t, n) => match splF L f (i + n) with
        | (some r, x) => (some ((k, t, i) :: r), x)
        | (none, x) => (none, x)
def spl (L : List UInt8) (i : Nat) : Option (List Tk) × Nat := splF L (L.length + 1 - i) i
theorem quo_pos : ∀ (l : List UInt8) (t : List UInt8) (n : Nat), quo l = some (t, n) → 1 ≤ n ∧ n ≤ l.length ∧ t.length + 1 ≤ n
  | [], t, n, h => by simp [quo] at h
  | [c], t, n, h => by
    simp only [quo] at h
    split at h
    · cases h; simp
    · cases h
  | c :: d :: r, t, n, h => by
    have i1 := quo_pos r
    have i2 := quo_pos (d :: r)
    simp only [quo] at h
    split at h
    · split at h
      · split at h
        · rename_i t' n' e
          cases h
          have := i1 t' n' e
          simp
          omega
        · cases h
      · cases h
        simp
    · split at h
      · rename_i t' n' e
        cases h
        have := i2 t' n' e
        simp at this ⊢
        omega
      · cases h
theorem hasPrefix_len {l p : List UInt8} (h : Lib.hasPrefix l p = true) : p.length ≤ l.length := by
  unfold Lib.hasPrefix at h
  exact (List.isPrefixOf_iff_prefix.1 h).length_le
theorem sgn_prefix (l : List UInt8) (h : sgn l ≠ []) : Lib.hasPrefix l (sgn l) = true := by
  unfold sgn at h ⊢
  cases e : sgs.find? fun x => Lib.hasPrefix l x with
  | none => rw [e] at h; exact absurd rfl h
  | some x => have := List.find?_some e; simpa using this
theorem tok_pos {L : List UInt8} {i : Nat} (hi : i < L.length) {k : Int} {t : List UInt8} {n : Nat} (h : tok L i = some (k, t, n)) : 1 ≤ n ∧ i + n ≤ L.length ∧ t.length ≤ n := by
  unfold tok at h
  split at h
  · split at h
    · cases h
    · rename_i h0
      cases h
      refine ⟨by omega, ?_, by simp; omega⟩
      unfold numN at h0 ⊢
      have r1 := run_le dgB L i
      have r2 := run_le dgB L (i + runN dgB L i + 1)
      split
      · rename_i e
        have := lt_of_nx (L := L) (i := i + runN dgB L i) (by omega)
        split <;> omega
      · omega
  · split at h
    · rename_i h0
      cases h
      have r1 := run_le nmB L i
      have r2 := run_step (p := nmB) (by decide) L i
      rw [if_pos (by simp [nmB, h0])] at r2
      exact ⟨by omega, by omega, by simp; omega⟩
    · split at h
      · split at h
        · rename_i t' n' e
          cases h
          have := quo_pos _ _ _ e
          simp at this
          omega
        · cases h
      · split at h
        · rename_i h0
          cases h
          have := hasPrefix_len h0
          simp [sREF] at this ⊢
          omega
        · split at h
          · cases h
          · rename_i h0
            cases h
            have := hasPrefix_len (sgn_prefix _ h0)
            have h1 : 1 ≤ (sgn (L.drop i)).length := by
              cases hs : sgn (L.drop i) with
              | nil => exact absurd hs h0
              | cons => simp
            simp at this
            omega
theorem splF_more (L : List UInt8) : ∀ (f g i : Nat), L.length + 1 - i ≤ f → L.length + 1 - i ≤ g → splF L f i = splF L g i := by
  intro f
  induction f with
  | zero =>
    intro g i hf hg
    cases g with
    | zero => rfl
    | succ g => rw [splF, splF, if_pos (by omega)]
  | succ f ih =>
    intro g i hf hg
    cases g with
    | zero => rw [splF, splF, if_pos (by omega)]
    | succ g =>
      rw [splF, splF]
      split
      · rfl
      · rename_i hl
        rw [ih g (i + 1) (by omega) (by omega)]
        split
        · rfl
        · cases ht : tok L i with
          | none => rfl
          | some x =>
            obtain ⟨k, t, n⟩ := x
            have := (tok_pos (by omega) ht).1
            simp only []
            rw [ih g (i + n) (by omega) (by omega)]
theorem spl_step (L : List UInt8) (i : Nat) (h : i < L.length) : spl L i = if nx L i = 32 then spl L (i + 1)
    else match tok L i with
      | none => (none, i)
      | some (k, t, n) => match spl L (i + n) with
        | (some r, x) => (some ((k, t, i) :: r), x)
        | (none, x) => (none, x) := by
  conv => lhs; unfold spl
  rw [show L.length + 1 - i = (L.length - i) + 1 by omega, splF, if_neg (by omega)]
  unfold spl
  rw [splF_more L (L.length - i) (L.length + 1 - (i + 1)) (i + 1) (by omega) (by omega)]
  split
  · rfl
  · cases ht : tok L i with
    | none => rfl
    | some x =>
      obtain ⟨k, t, n⟩ := x
      have := (tok_pos h ht).1
      simp only []
      rw [splF_more L (L.length - i) (L.length + 1 - (i + n)) (i + n) (by omega) (by omega)]
theorem spl_end (L : List UInt8) (i : Nat) (h : L.length ≤ i) : spl L i = (some [], 0) := by
  unfold spl
  cases e : L.length + 1 - i with
  | zero => rfl
  | succ f => rw [splF, if_pos h]
end Go.Proofs.YtjklbbmgjjdalaaGreatDoor.Tks
namespace Go.Proofs.YtjklbbmgjjdalaaGreatDoor.Tks
open Go.RowKit
theorem nx_str (s : ByteArray) (i : Nat) (h : i < s.size) : ((s[i].toNat : Nat) : Int) = (nx s.data.toList i : Int) := by
  have hl : i < s.data.toList.length := by rw [← Lib.size_eq]; exact h
  rw [nx_get hl]
  simp [ByteArray.getElem_eq_getElem_data]
theorem ret_i64 {a b : Int} (h : a = b) : Ending.returned (.int .i64 a) = .returned (.int .i64 b) := by rw [h]
theorem ret_b {a b : Bool} (h : a = b) : Ending.returned (.bool a) = .returned (.bool b) := by rw [h]
end Go.Proofs.YtjklbbmgjjdalaaGreatDoor.Tks
namespace Go.Proofs.YtjklbbmgjjdalaaGreatDoor.Tks
open Go.RowKit
theorem run_yes {p : Nat → Bool} (h0 : p 0 = false) {L : List UInt8} {k c : Nat} (hc : nx L k = c) (h : p c = true) : runN p L k = runN p L (k + 1) + 1 := by rw [run_step h0, hc, if_pos h]
theorem run_no {p : Nat → Bool} (h0 : p 0 = false) {L : List UInt8} {k c : Nat} (hc : nx L k = c) (h : p c = false) : runN p L k = 0 := by rw [run_step h0, hc, if_neg (by simp [h])]
end Go.Proofs.YtjklbbmgjjdalaaGreatDoor.Tks
namespace Go.Proofs.YtjklbbmgjjdalaaGreatDoor.Tks
open Go.RowKit
abbrev tBd : TypeId := 145
theorem info_bd : (Tryz.prog.info? 145).map (fun i => i.size) = some 2 := by kernel_rfl
theorem lies_bd : liesAt Tryz.prog Tryz.prog.depth 145 (2 / Tryz.prog.cellsOf 145) 0 145 1 = true := by kernel_rfl
theorem info_u8b : (Tryz.prog.info? 5).map (fun i => (i.zero, i.size, i.bytes)) = some (some (.int .u8 0), 1, 1) := by kernel_rfl
set_option maxHeartbeats 1000000 in
set_option maxRecDepth 100000 in
theorem copyCheck_used (b : Nat) (w : World) (h0 : w.cell? ⟨b, 0, none⟩ = some (.pointer (some ⟨b, 0, none⟩))) :
    Calls Tryz.prog 115 #[.pointer (some ⟨b, 0, none⟩)] w fun e w' => e = .returned (.tuple #[]) ∧ w' = w := by
  obtain ⟨j, hj, _⟩ := Option.map_eq_some_iff.1 info_bd
  go_enter Tryz.func115, Tryz.ntmps115
  go_wp2
  rw [Lib.run_neq_ptr_same w _ Tryz.underlying143 hj]
  go_wp2
  go_end0
  exact ⟨rfl, rfl⟩
set_option maxHeartbeats 1000000 in
set_option maxRecDepth 100000 in
theorem copyCheck_fresh (b : Nat) (w : World) (h0 : w.cell? ⟨b, 0, none⟩ = some (.pointer none)) (hsh : w.shape? b = some (tBd, 2)) (hfz : w.frozen? ⟨b, 0, none⟩ = false) :
    Calls Tryz.prog 115 #[.pointer (some ⟨b, 0, none⟩)] w fun e w' => e = .returned (.tuple #[]) ∧ w' = w.setCell ⟨b, 0, none⟩ (.pointer (some ⟨b, 0, none⟩)) := by
  obtain ⟨j, hj, hjs⟩ := Option.map_eq_some_iff.1 info_bd
  go_enter Tryz.func115, Tryz.ntmps115
  go_wp2
  rw [Lib.run_to_unsafe w ⟨b, 0, none⟩ Tryz.underlying143 Tryz.underlying192 hj (by rw [hjs]; decide) hsh (Nat.zero_lt_succ 1)]
  simp only [Result.andThen]
  rw [Oper.upon_value]
  go_wp2
  rw [run_callFunc_extern Tryz.func125 (by kernel_rfl) (by kernel_rfl) (by kernel_rfl) (e := Extern.AbiNoEscape.same) (by kernel_rfl)]
  rw [Lib.run_noEscape]
  simp only [Result.andThen]
  rw [Oper.upon_value]
  go_wp2
  rw [Lib.run_from_unsafe w ⟨b, 0, none⟩ Tryz.underlying192 Tryz.underlying143 hj hsh lies_bd]
  simp only [Result.andThen]
  rw [Oper.upon_value]
  go_wp2
  go_end0
  exact ⟨rfl, rfl⟩
theorem copyCheck_any (B b : Nat) (bs : List Value) (w : World) (h : Lib.IsBuilder tBd 5 B b bs w) :
    Calls Tryz.prog 115 #[.pointer (some ⟨b, 0, none⟩)] w fun e w' => e = .returned (.tuple #[]) ∧ Lib.BuilderAt tBd 5 B b (.pointer (some ⟨b, 0, none⟩)) bs w' ∧ Below B w w' := by
  rcases h with h | h
  · refine (copyCheck_fresh b w h.cell0 h.shape h.frozen0).mono ?_
    rintro e w' ⟨rfl, rfl⟩
    exact ⟨rfl, h.used _, (Below.refl B w).setCell (p := ⟨b, 0, none⟩) h.1 _⟩
  · refine (copyCheck_used b w h.cell0).mono ?_
    rintro e w' ⟨rfl, rfl⟩
    exact ⟨rfl, h, Below.refl B _⟩
theorem bd_fresh (B : Nat) (w : World) (hB : B ≤ w.heap.size) : Lib.IsBuilder tBd 5 B w.heap.size [] (w.alloc (.cells #[.pointer none, .slice none 0 0] tBd)) :=
  .inl ⟨hB, .slice none 0 0, heap_alloc_new w _, World.ownsRow_nil _ _ _ _, by intro h; cases h⟩
theorem bd_string (B b : Nat) (l : List UInt8) (w : World) (h : Lib.IsBuilder tBd 5 B b (Lib.byteCells l) w) (hBw : B ≤ w.heap.size) :
    Calls Tryz.prog 74 #[.pointer (some ⟨b, 0, none⟩)] w fun e w' => e = .returned (.string ⟨l.toArray⟩) ∧ Below B w w' := Tryz.Builder_String_any B b l w h hBw
end Go.Proofs.YtjklbbmgjjdalaaGreatDoor.Tks
namespace Go.Proofs.YtjklbbmgjjdalaaGreatDoor.Tks
open Go.RowKit
def qm (p : List UInt8) (n : Nat) : Option (List UInt8 × Nat) → Option (List UInt8 × Nat)
  | none => none
  | some (t, m) => some (p ++ t, m + n)
theorem qm_qm (p q : List UInt8) (n m : Nat) (x : Option (List UInt8 × Nat)) : qm p n (qm q m x) = qm (p ++ q) (m + n) x := by
  cases x with
  | none => rfl
  | some x => obtain ⟨t, k⟩ := x; simp [qm]; omega
theorem qm_nil (x : Option (List UInt8 × Nat)) : qm [] 0 x = x := by
  cases x with
  | none => rfl
  | some x => rfl
theorem quo_end (L : List UInt8) (j : Nat) (h : L.length ≤ j) : quo (L.drop j) = none := by
  rw [List.drop_of_length_le h]
  rfl
theorem u8_eta (c : UInt8) : UInt8.ofNat c.toNat = c := by simp
theorem quo_other (L : List UInt8) (j : Nat) (h : j < L.length) (hc : nx L j ≠ 34) : quo (L.drop j) = qm [UInt8.ofNat (nx L j)] 1 (quo (L.drop (j + 1))) := by
  rw [nx_get h] at hc ⊢
  rw [u8_eta, List.drop_eq_getElem_cons h]
  cases hd : L.drop (j + 1) with
  | nil => simp [quo, hc, qm]
  | cons d r =>
    rw [quo]
    rw [if_neg hc]
    cases quo (d :: r) with
    | none => rfl
    | some x => obtain ⟨t, n⟩ := x; simp [qm]
theorem quo_close (L : List UInt8) (j : Nat) (hc : nx L j = 34) (h2 : nx L (j + 1) ≠ 34) : quo (L.drop j) = some ([], 1) := by
  have h := lt_of_nx (L := L) (i := j) (by omega)
  rw [nx_get h] at hc
  rw [List.drop_eq_getElem_cons h]
  rcases Nat.lt_or_ge (j + 1) L.length with h1 | h1
  · rw [nx_get h1] at h2
    rw [List.drop_eq_getElem_cons h1, quo]
    simp [hc, h2]
  · rw [List.drop_of_length_le h1, quo]
    simp [hc]
theorem quo_two (L : List UInt8) (j : Nat) (hc : nx L j = 34) (h2 : nx L (j + 1) = 34) : quo (L.drop j) = qm [UInt8.ofNat 34] 2 (quo (L.drop (j + 2))) := by
  have h := lt_of_nx (L := L) (i := j) (by omega)
  have h1 := lt_of_nx (L := L) (i := j + 1) (by omega)
  rw [nx_get h] at hc
  rw [nx_get h1] at h2
  rw [List.drop_eq_getElem_cons h, List.drop_eq_getElem_cons h1, quo]
  rw [if_pos hc, if_pos h2, ← u8_eta L[j], hc]
  cases quo (L.drop (j + 1 + 1)) with
  | none => rfl
  | some x => obtain ⟨t, n⟩ := x; simp [qm]
end Go.Proofs.YtjklbbmgjjdalaaGreatDoor.Tks
