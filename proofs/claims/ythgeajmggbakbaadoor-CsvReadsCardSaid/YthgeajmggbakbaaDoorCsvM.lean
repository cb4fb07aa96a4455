/- CSV: the program's reader: newline, ends. -/
import Derived.Test.YthgeajmggbakbaaDoorCsvK
import Derived.Test.YthgeajmggbakbaaDoorCsvW
import Derived.Lib.QuietBelow
import Derived.Lib.SmallJoins
set_option linter.unusedSimpArgs false
set_option linter.unusedVariables false
namespace Go.Proofs.YthgeajmggbakbaaDoor
open Go.RowKit Go.Joins

/-- The reader in memory: the text, where it stands, how many cells were begun. -/
def Rdr (w : World) (b : Nat) (s : ByteArray) (i c : Nat) : Prop := w.heap[b]? = some (.cells #[.string s, .int .i64 i, .int .i64 c] 42 (0, 0))
theorem lt_of_some {w : World} {b : Nat} {o : Obj} (h : w.heap[b]? = some o) : b < w.heap.size := by
  rcases Nat.lt_or_ge b w.heap.size with h' | h'
  · exact h'
  · rw [Array.getElem?_eq_none h'] at h; cases h
theorem Rdr.lt {w : World} {b : Nat} {s : ByteArray} {i c : Nat} (h : Rdr w b s i c) : b < w.heap.size := lt_of_some h
theorem Rdr.cells {w : World} {b : Nat} {s : ByteArray} {i c : Nat} (h : Rdr w b s i c) : w.cell? ⟨b, 0, none⟩ = some (.string s) ∧ w.cell? ⟨b, 1, none⟩ = some (.int .i64 i) ∧ w.cell? ⟨b, 2, none⟩ = some (.int .i64 c) ∧ w.frozen? ⟨b, 1, none⟩ = false ∧ w.frozen? ⟨b, 2, none⟩ = false := by
  refine ⟨?_, ?_, ?_, unfrozen_of_block h 1, unfrozen_of_block h 2⟩
  all_goals
    rw [cell_of_block h]
    rfl
theorem Rdr.below {w w' : World} {b : Nat} {s : ByteArray} {i c : Nat} (h : Rdr w b s i c) (hb : Below w.heap.size w w') : Rdr w' b s i c := (hb.block b h.lt).trans h
theorem Rdr.set1 {w : World} {b : Nat} {s : ByteArray} {i c : Nat} (h : Rdr w b s i c) (j : Nat) : Rdr (w.setCell ⟨b, 1, none⟩ (.int .i64 j)) b s j c := block_setCell h _
theorem Rdr.setz {w : World} {b : Nat} {s : ByteArray} {i c : Nat} (h : Rdr w b s i c) (z : Int) (j : Nat) (e : z = (j : Int)) : Rdr (w.setCell ⟨b, 1, none⟩ (.int .i64 z)) b s j c := by rw [e]; exact h.set1 j
theorem Rdr.set2 {w : World} {b : Nat} {s : ByteArray} {i c : Nat} (h : Rdr w b s i c) (j : Nat) : Rdr (w.setCell ⟨b, 2, none⟩ (.int .i64 j)) b s i j := block_setCell h _
/-- Block b alone, and new ones, may change. -/
structure Off (b : Nat) (w w' : World) : Prop where
  os : w'.os = w.os
  tape : w'.tape = w.tape
  output : w'.output = w.output
  size : w.heap.size ≤ w'.heap.size
  block : ∀ k, k < w.heap.size → k ≠ b → w'.heap[k]? = w.heap[k]?
theorem Off.refl (b : Nat) (w : World) : Off b w w := ⟨rfl, rfl, rfl, Nat.le_refl _, fun _ _ _ => rfl⟩
theorem Off.trans {b : Nat} {w w1 w2 : World} (h : Off b w w1) (h' : Off b w1 w2) : Off b w w2 :=
  ⟨h'.os.trans h.os, h'.tape.trans h.tape, h'.output.trans h.output, Nat.le_trans h.size h'.size, fun k hk hn => (h'.block k (Nat.lt_of_lt_of_le hk h.size) hn).trans (h.block k hk hn)⟩
theorem Off.of_below {b : Nat} {w w' : World} (h : Below w.heap.size w w') : Off b w w' := ⟨h.os, h.tape, h.output, h.size, fun k hk _ => h.block k hk⟩
theorem Off.call {b : Nat} {w w1 w2 : World} (h : Off b w w1) (h' : Below w1.heap.size w1 w2) : Off b w w2 := h.trans (Off.of_below h')
theorem Off.set {b : Nat} {w w' : World} (h : Off b w w') (j : Nat) (u : Value) : Off b w (w'.setCell ⟨b, j, none⟩ u) :=
  h.trans ⟨rfl, rfl, rfl, by simp [World.setCell], fun k _ hn => Below.heap_setCell w' _ u k (fun e => hn e)⟩
theorem Off.below {b : Nat} {w w' : World} (h : Off b w w') {B : Nat} (hb : B ≤ b) (hB : B ≤ w.heap.size) : Below B w w' :=
  ⟨h.os, h.tape, h.output, h.size, fun k hk => h.block k (by omega) (by omega)⟩
theorem Off.row {b : Nat} {w w' : World} (h : Off b w w') {s : ByteArray} {i c : Nat} (hR : Rdr w b s i c) {base size n : Nat} {e : TypeId} {v : Value} {xs : List Value} (ho : w.ownsRow base e size v n xs) (he : e ≠ 42) : w'.ownsRow base e size v n xs := by
  obtain ⟨h1, h2⟩ := ho
  refine ⟨h1, ?_⟩
  rcases h2 with h2 | ⟨g, cap, cur, hv, hg, hh, r⟩
  · exact .inl h2
  · refine .inr ⟨g, cap, cur, hv, hg, ?_, r⟩
    rw [h.block g (lt_of_some hh) (by
      rintro rfl
      rw [hR] at hh
      simp only [Option.some.injEq, Obj.cells.injEq] at hh
      exact he hh.2.1.symm)]
    exact hh
theorem Off.rdg {α : Type} {enc : α → List Value} {sz : Nat} {b : Nat} {w w' : World} (h : Off b w w') {p : Option Addr} {n : Nat} {L : List α} (hr : RdG enc sz w p n L) (hp : n = 0 ∨ ∃ a, p = some a ∧ a.block ≠ b) : RdG enc sz w' p n L := by
  refine ⟨hr.1, ?_⟩
  rcases hr.2 with h0 | ⟨g, off, rfl, hg, hc⟩
  · exact .inl h0
  · rcases hp with h0 | ⟨a, e, hne⟩
    · exact .inl h0
    · cases e
      refine .inr ⟨g, off, rfl, Nat.lt_of_lt_of_le hg h.size, fun j x hx k u hu => ?_⟩
      rw [← hc j x hx k u hu]
      exact World.cell?_of_block (h.block g hg hne)

theorem nl_2 {M : Bs} (h : Lib.hasPrefix M [13, 10] = true) : nlN M = 2 := by
  match M, h with
  | [], h => simp [Lib.hasPrefix] at h
  | [a], h => simp [Lib.hasPrefix, List.isPrefixOf] at h
  | a :: b :: r, h =>
    simp [Lib.hasPrefix, List.isPrefixOf] at h
    obtain ⟨rfl, rfl⟩ := h
    rfl
theorem nl_1 {M : Bs} (h : Lib.hasPrefix M [10] = true) : nlN M = 1 := by
  match M, h with
  | [], h => simp [Lib.hasPrefix] at h
  | a :: r, h =>
    simp [Lib.hasPrefix, List.isPrefixOf] at h
    subst h
    rfl
theorem nl_0 {M : Bs} (h2 : Lib.hasPrefix M [13, 10] = false) (h1 : Lib.hasPrefix M [10] = false) : nlN M = 0 := by
  unfold nlN
  split
  · simp [Lib.hasPrefix, List.isPrefixOf] at h2
  · simp [Lib.hasPrefix, List.isPrefixOf] at h1
  · rfl
theorem ext_to (s : ByteArray) (i : Nat) : (s.extract i s.size).data.toList = s.data.toList.drop i := by
  rw [Lib.extract_data, List.take_of_length_le]
  rw [List.length_drop, Lib.size_eq]
  omega

set_option maxRecDepth 100000 in
set_option maxHeartbeats 2000000 in
theorem newline_any (s : ByteArray) (hs : s.size ≤ 10000000) (b i c : Nat) (hi : i ≤ s.size) (w : World) (hr : Rdr w b s i c) :
    Calls Tryd.prog 30 #[.pointer (some ⟨b, 0, none⟩)] w fun e w' => e = .returned (.int .i64 (nlN (s.data.toList.drop i) : Nat)) ∧ Below w.heap.size w w' := by
  obtain ⟨q0, q1, q2, qf, _⟩ := hr.cells
  have hii : (i : Int) ≤ (s.size : Int) := by omega
  have hi0 : (0 : Int) ≤ (i : Int) := by omega
  have HX := Lib.hid (ext_to s i)
  have HP : Hid (∀ p W, Calls Tryd.prog 39 #[.string (s.extract i s.size), .string p] W fun e w' => e = .returned (.bool (Lib.hasPrefix (s.data.toList.drop i) p.data.toList)) ∧ Below W.heap.size W w') := fun p W => by
    have := Tryd.strings_HasPrefix (s.extract i s.size) p W
    rw [HX.out] at this
    exact this.mono fun e w' h => ⟨h.1, by rw [h.2]; exact Below.refl _ _⟩
  obtain ⟨M, hM⟩ : ∃ M, s.data.toList.drop i = M := ⟨_, rfl⟩
  rw [hM] at HP ⊢
  have N2 := Lib.hid (@nl_2 M)
  have N1 := Lib.hid (@nl_1 M)
  have N0 := Lib.hid (@nl_0 M)
  obtain ⟨n, hn⟩ : ∃ n, nlN M = n := ⟨_, rfl⟩
  rw [hn] at N2 N1 N0 ⊢
  have r0 := cell_regrown q0
  have r1 := cell_regrown q1
  have c2 : ∀ dd os, Calls Tryd.prog 39 #[.string (s.extract i s.size), .string ⟨#[13, 10]⟩] (Go.Sort.grow (redrawn w dd) os) fun e w'' => e = .returned (.bool (Lib.hasPrefix M [13, 10])) ∧ ∃ p : Regrown, w'' = Go.Sort.grow (redrawn w p.d) p.os := fun dd os => Calls.regrown_of (HP.out ⟨#[13, 10]⟩ _)
  generalize Lib.hasPrefix M [13, 10] = b2 at N2 N0 c2
  clear hM hn HX hr
  go_enter Tryd.func30, Tryd.ntmps30
  go_wp2_with fail
  refine wp_region_quiet_below (by kernel_rfl) (by kernel_rfl) ?_
  repeat (go_big_quiet_step ((first | with_reducible exact c2 _ _)))
  refine wpQuiet_nil ?_
  intro _ hw'
  obtain ⟨⟨dq, osq⟩, hw''⟩ := hw'
  subst hw''
  have hbx := below_regrown w dq osq
  have q0' := r0 dq osq
  have q1' := r1 dq osq
  generalize Go.Sort.grow (redrawn w dq) osq = wx at hbx q0' q1' ⊢
  clear r0 r1 c2
  cases b2
  · have r0 := cell_regrown q0'
    have r1 := cell_regrown q1'
    have c1 : ∀ dd os, Calls Tryd.prog 39 #[.string (s.extract i s.size), .string ⟨#[10]⟩] (Go.Sort.grow (redrawn wx dd) os) fun e w'' => e = .returned (.bool (Lib.hasPrefix M [10])) ∧ ∃ p : Regrown, w'' = Go.Sort.grow (redrawn wx p.d) p.os := fun dd os => Calls.regrown_of (HP.out ⟨#[10]⟩ _)
    generalize Lib.hasPrefix M [10] = b1 at N1 N0 c1
    go_wp2_with fail
    refine wp_region_quiet_below (by kernel_rfl) (by kernel_rfl) ?_
    repeat (go_big_quiet_step ((first | with_reducible exact c1 _ _)))
    refine wpQuiet_nil ?_
    intro _ hw'
    obtain ⟨⟨dq2, osq2⟩, hw''⟩ := hw'
    subst hw''
    have hby : Below w.heap.size w (Go.Sort.grow (redrawn wx dq2) osq2) := bel_call (below_regrown wx dq2 osq2) hbx hbx.size
    clear r0 r1 c1
    cases b1
    · have hn := Lib.hid (N0.out (by first | trivial | rfl) (by first | trivial | rfl))
      go_wp2_with fail
      go_ret
      exact ⟨by rw [hn.out]; rfl, hby⟩
    · have hn := Lib.hid (N1.out (by first | trivial | rfl))
      go_wp2_with fail
      go_ret
      exact ⟨by rw [hn.out]; rfl, hby⟩
  · have hn := Lib.hid (N2.out (by first | trivial | rfl))
    go_wp2_with fail
    go_ret
    exact ⟨by rw [hn.out]; rfl, hbx⟩

theorem ends_at (L : Bs) (i : Nat) (hi : i < L.length) : endsB (L.drop i) = (decide (btN L i = 44) || decide (0 < nlN (L.drop i))) := by
  unfold endsB
  rw [btN_get hi, List.drop_eq_getElem_cons hi]
  simp only [List.isEmpty_cons, Bool.false_or, List.head?_cons]
  congr 1
  by_cases h : L[i] = 44
  · rw [h]; rfl
  · rw [decide_eq_false (fun e => h (by rw [← UInt8.toNat_inj]; exact e))]
    simp [h]
theorem ends_end (L : Bs) (i : Nat) (hi : L.length ≤ i) : endsB (L.drop i) = true := by
  rw [List.drop_eq_nil_of_le hi]
  rfl
theorem ends_44 (L : Bs) (i : Nat) (hi : i < L.length) (h : btN L i = 44) : endsB (L.drop i) = true := by
  rw [ends_at L i hi, decide_eq_true h, Bool.true_or]
theorem ends_nl (L : Bs) (i : Nat) (hi : i < L.length) (h : btN L i ≠ 44) : endsB (L.drop i) = decide (0 < nlN (L.drop i)) := by
  rw [ends_at L i hi, decide_eq_false h, Bool.false_or]

set_option maxRecDepth 100000 in
set_option maxHeartbeats 4000000 in
theorem ends_any (s : ByteArray) (hs : s.size ≤ 10000000) (b i c : Nat) (hi : i ≤ s.size) (w : World) (hr : Rdr w b s i c) :
    Calls Tryd.prog 38 #[.pointer (some ⟨b, 0, none⟩)] w fun e w' => e = .returned (.bool (endsB (s.data.toList.drop i))) ∧ Below w.heap.size w w' := by
  obtain ⟨q0, q1, q2, qf, _⟩ := hr.cells
  have hi0 : (0 : Int) ≤ (i : Int) := by omega
  have HSZ : Hid (s.data.toList.length = s.size) := (Lib.size_eq s).symm
  have HN : Hid (∀ W, Below w.heap.size w W → Calls Tryd.prog 30 #[.pointer (some ⟨b, 0, none⟩)] W fun e w' => e = .returned (.int .i64 (nlN (s.data.toList.drop i) : Nat)) ∧ Below W.heap.size W w') := fun W hW => newline_any s hs b i c hi W (hr.below hW)
  have r0 := cell_regrown q0
  have r1 := cell_regrown q1
  by_cases hlt : i < s.size
  · have hne : ((i : Int) == (s.size : Int)) = false := by simp; omega
    have hli : (i : Int) < (s.size : Int) := by omega
    have hb := btN_str s i hlt
    by_cases h44 : btN s.data.toList i = 44
    · have HV := Lib.hid (ends_44 _ i (by rw [HSZ.out]; exact hlt) h44)
      rw [h44] at hb
      clear hr HN h44
      generalize endsB (s.data.toList.drop i) = V at HV ⊢
      have h4 : (((s[i]'hlt).toNat : Int) == 44) = true := by rw [show (((s[i]'hlt).toNat : Nat) : Int) = ((44 : Nat) : Int) from by rw [hb]]; rfl
      go_enter Tryd.func38, Tryd.ntmps38
      go_wp2_with fail
      refine wp_region_quiet_below (by kernel_rfl) (by kernel_rfl) ?_
      repeat (go_big_quiet_step (fail))
      refine wpQuiet_nil ?_
      intro _ hw'
      obtain ⟨⟨dq, osq⟩, hw''⟩ := hw'
      subst hw''
      have hbx := below_regrown w dq osq
      clear r0 r1
      go_wp2_with fail
      go_ret
      exact ⟨by rw [HV.out]; rfl, hbx⟩
    · have HV := Lib.hid (ends_nl _ i (by rw [HSZ.out]; exact hlt) h44)
      have h4 : (((s[i]'hlt).toNat : Int) == 44) = false := by
        have : (((s[i]'hlt).toNat : Nat) : Int) ≠ 44 := fun e => h44 (by rw [← hb]; omega)
        simpa using this
      have cN : ∀ dd os, Calls Tryd.prog 30 #[.pointer (some ⟨b, 0, none⟩)] (Go.Sort.grow (redrawn w dd) os) fun e w'' => e = .returned (.int .i64 (nlN (s.data.toList.drop i) : Nat)) ∧ ∃ p : Regrown, w'' = Go.Sort.grow (redrawn w p.d) p.os := fun dd os => Calls.regrown_of (HN.out _ (below_regrown w dd os))
      clear hr HN h44 hb
      generalize endsB (s.data.toList.drop i) = V at HV ⊢
      have hn2 : nlN (s.data.toList.drop i) ≤ 2 := by unfold nlN; split <;> omega
      generalize nlN (s.data.toList.drop i) = n at HV cN hn2
      by_cases hn : 0 < n
      · have hni : (0 : Int) < (n : Int) := by omega
        rw [decide_eq_true hn] at HV
        go_enter Tryd.func38, Tryd.ntmps38
        go_wp2_with fail
        refine wp_region_quiet_below (by kernel_rfl) (by kernel_rfl) ?_
        repeat (go_big_quiet_step ((first | with_reducible exact cN _ _)))
        refine wpQuiet_nil ?_
        intro _ hw'
        obtain ⟨⟨dq, osq⟩, hw''⟩ := hw'
        subst hw''
        have hbx := below_regrown w dq osq
        clear r0 r1
        go_wp2_with fail
        go_ret
        exact ⟨by rw [HV.out]; rfl, hbx⟩
      · obtain rfl : n = 0 := by omega
        rw [decide_eq_false hn] at HV
        go_enter Tryd.func38, Tryd.ntmps38
        go_wp2_with fail
        refine wp_region_quiet_below (by kernel_rfl) (by kernel_rfl) ?_
        repeat (go_big_quiet_step ((first | with_reducible exact cN _ _)))
        refine wpQuiet_nil ?_
        intro _ hw'
        obtain ⟨⟨dq, osq⟩, hw''⟩ := hw'
        subst hw''
        have hbx := below_regrown w dq osq
        clear r0 r1
        go_wp2_with fail
        go_ret
        exact ⟨by rw [HV.out]; rfl, hbx⟩
  · have hne : ((i : Int) == (s.size : Int)) = true := by simp; omega
    have HV := Lib.hid (ends_end s.data.toList i (by rw [HSZ.out]; omega))
    clear hr HN
    generalize endsB (s.data.toList.drop i) = V at HV ⊢
    go_enter Tryd.func38, Tryd.ntmps38
    go_wp2_with fail
    refine wp_region_quiet_below (by kernel_rfl) (by kernel_rfl) ?_
    repeat (go_big_quiet_step (fail))
    refine wpQuiet_nil ?_
    intro _ hw'
    obtain ⟨⟨dq, osq⟩, hw''⟩ := hw'
    subst hw''
    have hbx := below_regrown w dq osq
    clear r0 r1
    go_wp2_with fail
    go_ret
    exact ⟨by rw [HV.out]; rfl, hbx⟩
end Go.Proofs.YthgeajmggbakbaaDoor
