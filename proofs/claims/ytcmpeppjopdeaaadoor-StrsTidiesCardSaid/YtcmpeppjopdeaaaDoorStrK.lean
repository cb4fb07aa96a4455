/- Tidying: Trim in both texts, the plain law of Trim. -/
import Derived.Test.YtcmpeppjopdeaaaDoorStrJ
import Derived.Lib.SplitLaws
import Derived.Lib.Join
set_option linter.unusedSimpArgs false
set_option linter.unusedVariables false
namespace Go.Proofs.YtcmpeppjopdeaaaDoor
open Go.RowKit

/-- The pieces between blanks. -/
def consH (c : UInt8) : List (List UInt8) → List (List UInt8)
  | [] => [[c]]
  | h :: t => (c :: h) :: t
def sp32 : List UInt8 → List (List UInt8)
  | [] => [[]]
  | c :: r => if c = 32 then [] :: sp32 r else consH c (sp32 r)
theorem sp32_ne : ∀ L : List UInt8, ∃ h t, sp32 L = h :: t
  | [] => ⟨[], [], rfl⟩
  | c :: r => by
    obtain ⟨h, t, e⟩ := sp32_ne r
    unfold sp32
    split
    · exact ⟨[], _, rfl⟩
    · rw [e]; exact ⟨c :: h, t, rfl⟩
def wds (P : List (List UInt8)) : List (List UInt8) := P.filter fun x => !x.isEmpty
/-- What is made of the bytes to come; b: a blank, or nothing, stands ahead. -/
def trG : List UInt8 → Bool → List UInt8 → List UInt8
  | out, _, [] => out
  | out, b, c :: r => if c = 32 then trG out true r else trG ((if b && !out.isEmpty then out ++ [32] else out) ++ [c]) false r
theorem join_cons (x : List UInt8) (ws : List (List UInt8)) : Lib.join (x :: ws) [32] = x ++ (if ws = [] then [] else 32 :: Lib.join ws [32]) := by
  cases ws with
  | nil => simp [Lib.join, List.intercalate]
  | cons y ys => simp [Lib.join, List.intercalate]
theorem trG_law : ∀ (L : List UInt8),
    (∀ out, trG out true L = if out = [] then Lib.join (wds (sp32 L)) [32] else (if wds (sp32 L) = [] then out else out ++ 32 :: Lib.join (wds (sp32 L)) [32])) ∧
    (∀ out h t, out ≠ [] → sp32 L = h :: t → trG out false L = out ++ h ++ (if wds t = [] then [] else 32 :: Lib.join (wds t) [32])) := by
  intro L
  induction L with
  | nil =>
    refine ⟨fun out => ?_, fun out h t ho e => ?_⟩
    · have e : wds (sp32 []) = [] := rfl
      rw [e]
      cases out with
      | nil => rfl
      | cons => rfl
    · simp only [sp32, List.cons.injEq] at e
      obtain ⟨rfl, rfl⟩ := e
      simp [trG, wds]
  | cons c r ih =>
    obtain ⟨iA, iB⟩ := ih
    by_cases hc : c = 32
    · subst hc
      have e : sp32 (32 :: r) = [] :: sp32 r := by simp [sp32]
      have ew : wds (sp32 (32 :: r)) = wds (sp32 r) := by rw [e]; rfl
      refine ⟨fun out => ?_, fun out h t ho e2 => ?_⟩
      · rw [ew]
        show (if (32 : UInt8) = 32 then trG out true r else _) = _
        rw [if_pos rfl]
        exact iA out
      · rw [e] at e2
        simp only [List.cons.injEq] at e2
        obtain ⟨rfl, rfl⟩ := e2
        show (if (32 : UInt8) = 32 then trG out true r else _) = _
        rw [if_pos rfl, iA out, if_neg ho]
        split <;> simp
    · obtain ⟨h, t, e⟩ := sp32_ne r
      have e2 : sp32 (c :: r) = (c :: h) :: t := by
        show (if c = 32 then _ else consH c (sp32 r)) = _
        rw [if_neg hc, e]
        rfl
      have ew : wds (sp32 (c :: r)) = (c :: h) :: wds t := by rw [e2]; rfl
      refine ⟨fun out => ?_, fun out h' t' ho e3 => ?_⟩
      · rw [ew]
        show (if c = 32 then _ else trG ((if true && !out.isEmpty then out ++ [32] else out) ++ [c]) false r) = _
        rw [if_neg hc, iB _ h t (by simp) e, join_cons]
        cases out with
        | nil => simp
        | cons x xs => simp
      · rw [e2] at e3
        simp only [List.cons.injEq] at e3
        obtain ⟨rfl, rfl⟩ := e3
        show (if c = 32 then _ else trG ((if false && !out.isEmpty then out ++ [32] else out) ++ [c]) false r) = _
        rw [if_neg hc, iB _ h t (by simp) e]
        simp
def trimL (L : List UInt8) : List UInt8 := trG [] true L
theorem trim_join (L : List UInt8) : Lib.join (wds (sp32 L)) [32] = trimL L := by
  have := (trG_law L).1 []
  rw [if_pos rfl] at this
  exact this.symm
theorem trG_len : ∀ (L out : List UInt8) (b : Bool), (trG out b L).length ≤ out.length + 2 * L.length
  | [], out, b => by simp [trG]
  | c :: r, out, b => by
    unfold trG
    split
    · have := trG_len r out true; rw [List.length_cons]; omega
    · have := trG_len r ((if b && !out.isEmpty then out ++ [32] else out) ++ [c]) false
      have h2 : ((if b && !out.isEmpty then out ++ [32] else out) ++ [c]).length ≤ out.length + 2 := by split <;> simp
      rw [List.length_cons]
      omega

theorem sk_other (b : UInt8) (hb : b ≠ 32) (l : List UInt8) : ∀ k, Lib.splitK [32] 0 k (b :: l) = consH b (Lib.splitK [32] 0 k l) := by
  intro k
  cases k with
  | zero => rfl
  | succ k =>
    have hp : List.isPrefixOf [(32 : UInt8)] (b :: l) = false := by
      simp [List.isPrefixOf]
      intro e
      exact hb e.symm
    have hi : Lib.index (b :: l) [32] = if Lib.index l [32] == -1 then -1 else Lib.index l [32] + 1 := by
      conv => lhs; unfold Lib.index
      rw [hp]
      rfl
    have hge := Lib.index_ge l [32]
    by_cases h : (Lib.index l [32] == -1) = true
    · rw [Lib.splitK, Lib.splitK, hi, if_pos h, if_pos h]
      rfl
    · have h2 : ¬ ((Lib.index l [32] + 1) == -1) = true := by
        intro e
        have := beq_iff_eq.1 e
        omega
      rw [Lib.splitK, Lib.splitK, hi, if_neg h, if_neg h2, if_neg h]
      obtain ⟨n, hn⟩ : ∃ n : Nat, Lib.index l [32] = (n : Int) := by
        have : Lib.index l [32] ≠ -1 := fun e => h (by rw [e]; rfl)
        exact ⟨(Lib.index l [32]).toNat, by omega⟩
      rw [hn, show ((n : Int) + 1).toNat = n + 1 by omega, show ((n : Int)).toNat = n by omega]
      simp [consH]
theorem sk_hit (l : List UInt8) (k : Nat) : Lib.splitK [32] 0 (k + 1) (32 :: l) = [] :: Lib.splitK [32] 0 k l := by
  have hi : Lib.index (32 :: l) [32] = 0 := by unfold Lib.index; simp [List.isPrefixOf]
  rw [Lib.splitK, hi]
  simp
theorem sk_sp : ∀ l : List UInt8, Lib.splitK [32] 0 (l.count 32) l = sp32 l
  | [] => rfl
  | c :: r => by
    by_cases h : c = 32
    · subst h
      rw [List.count_cons_self, sk_hit, sk_sp r]
      simp [sp32]
    · rw [List.count_cons_of_ne h, sk_other c h, sk_sp r]
      simp [sp32, h]
theorem split_sp (s : ByteArray) : (Lib.splitB ⟨#[32]⟩ 0 (Lib.countB s ⟨#[32]⟩) s).map (·.data.toList) = sp32 s.data.toList := by
  rw [Lib.splitB_data]
  have e : (⟨#[32]⟩ : ByteArray).data.toList = [32] := rfl
  show Lib.splitK (⟨#[32]⟩ : ByteArray).data.toList 0 (Lib.count s.data.toList (⟨#[32]⟩ : ByteArray).data.toList) s.data.toList = _
  rw [e, Lib.count_one]
  exact sk_sp _

theorem info_st : (Tryd.prog.info? 9).map (fun i => (i.zero, i.size, i.bytes)) = some (some (.string ⟨#[]⟩), 1, 16) := by kernel_rfl
theorem st_one (x : ByteArray) : ∀ u ∈ [Value.string x], u.oneCell' = true := by
  intro u hu
  simp at hu
  subst hu
  rfl
/-- The words among the first pieces. -/
def wdB (P : List ByteArray) : List ByteArray := P.filter fun x => !x.toList.isEmpty
theorem wdB_data (P : List ByteArray) : (wdB P).map (·.data.toList) = wds (P.map (·.data.toList)) := by
  unfold wdB wds
  rw [List.filter_map]
  congr 1
  apply List.filter_congr
  intro x _
  simp [ByteArray.toList_eq]
theorem wdB_snoc (P : List ByteArray) (k : Nat) (x : ByteArray) (h : P[k]? = some x) : wdB (P.take (k + 1)) = wdB (P.take k) ++ if x.toList.isEmpty then [] else [x] := by
  have hk := (List.getElem?_eq_some_iff.1 h).1
  have hx : P[k] = x := (List.getElem?_eq_some_iff.1 h).2
  rw [List.take_succ_eq_append_getElem hk, hx]
  unfold wdB
  rw [List.filter_append]
  cases hb : x.toList.isEmpty <;> simp [List.filter, hb]
theorem wdB_len (P : List ByteArray) (k : Nat) : (wdB (P.take k)).length ≤ k := by
  have h1 := List.length_filter_le (fun x : ByteArray => !x.toList.isEmpty) (P.take k)
  have h2 : (P.take k).length ≤ k := List.length_take_le _ _
  unfold wdB
  omega
theorem own_st {w : World} {base : Nat} {v : Value} {xs : List ByteArray} (h : w.ownsRow base 9 1 v xs.length (xs.map Value.string)) : (xs = [] ∧ ∃ a c, v = .slice a 0 c) ∨ ∃ g cap, v = .slice (some ⟨g, 0, none⟩) xs.length cap ∧ xs.length ≤ cap ∧ g < w.heap.size ∧ ∀ (j : Nat) x, xs[j]? = some x → w.cell? ⟨g, 0 + j, none⟩ = some (.string x) := by
  obtain ⟨hl, ⟨hv, h0⟩ | ⟨g, cap, cur, rfl, hg, hh, hn', hm, hs, ht⟩⟩ := h
  · left
    have : xs = [] := List.eq_nil_of_length_eq_zero h0
    exact ⟨this, none, 0, hv⟩
  · right
    refine ⟨g, cap, rfl, hn', ?_, fun j x hx => ?_⟩
    · rcases Nat.lt_or_ge g w.heap.size with h' | h'
      · exact h'
      · rw [Array.getElem?_eq_none h'] at hh; cases hh
    · have hj := (List.getElem?_eq_some_iff.1 hx).1
      have e1 : (xs.map Value.string)[j]? = some (.string x) := by rw [List.getElem?_map, hx]; rfl
      rw [← ht, List.getElem?_take, if_pos (by omega)] at e1
      rw [Nat.zero_add]
      simp only [World.cell?, hh]
      simpa using e1

set_option maxRecDepth 100000 in
set_option maxHeartbeats 2000000 in
theorem trim_any (s : ByteArray) (hs : s.size ≤ 10000) (w : World) (hsh : w.ShapedOpen Tryd.prog) :
    Calls Tryd.prog 5 #[.string s] w fun e w' => e = .returned (.string ⟨(trimL s.data.toList).toArray⟩) ∧ Below w.heap.size w w' := by
  obtain ⟨i0, hi, hz0, hz1, hz2⟩ := info_parts info_st
  have HSP := Lib.hid (Tryd.strings_Split_shaped s ⟨#[32]⟩ w hsh (by omega) (by decide))
  have hPl := Lib.splitB_all ⟨#[32]⟩ (by decide) 0 _ s rfl
  have hPd := split_sp s
  have hcn : Lib.countB s ⟨#[32]⟩ ≤ 10000 := by
    have := Lib.countB_mul_le ⟨#[32]⟩ (by decide) s.size s (Nat.le_refl _)
    have e : (⟨#[32]⟩ : ByteArray).size = 1 := rfl
    rw [e, Nat.mul_one] at this
    omega
  obtain ⟨P, hP⟩ : ∃ P, Lib.splitB ⟨#[32]⟩ 0 (Lib.countB s ⟨#[32]⟩) s = P := ⟨_, rfl⟩
  obtain ⟨n, hn⟩ : ∃ n, Lib.countB s ⟨#[32]⟩ + 1 = n := ⟨_, rfl⟩
  rw [hP] at HSP hPl hPd
  rw [hn] at HSP hPl
  have hn2 : n ≤ 10001 := by omega
  have HPL := Lib.hid hPl
  have HTR : Hid (Lib.join ((wdB P).map (·.data.toList)) [32] = trimL s.data.toList) := by unfold Hid; rw [wdB_data, hPd, trim_join]
  have htl : (trimL s.data.toList).length ≤ 20000 := by have := trG_len s.data.toList [] true; rw [← Lib.size_eq] at this; unfold trimL; simp at this; omega
  clear hsh hPl hPd hcn hP hn
  go_enter Tryd.func5, Tryd.ntmps5
  go_wp2_with fail
  refine HSP.out.mono ?_
  rintro e w1 ⟨rfl, hw1⟩
  have hb1 : Below w.heap.size w w1 := by rw [hw1]; exact (Below.refl _ _).alloc (Nat.le_refl _) _
  have hcell : ∀ (j : Nat) x, P[j]? = some x → w1.cell? ⟨w.heap.size, j, none⟩ = some (.string x) := fun j x hx => by
    rw [hw1]
    simp only [World.cell?, heap_alloc_new]
    simp [hx]
  have hzz1 : w.heap.size < w1.heap.size := by rw [hw1]; simp
  have HB1 := Lib.hid hb1
  have HCL := Lib.hid hcell
  clear hw1 hb1 hcell
  go_wp2_with fail
  go_loopw [3, 9] (fun b v wr => ∃ (k : Nat) (acc : List ByteArray), v = .int .i64 k ∧ k ≤ n ∧ acc = wdB (P.take k) ∧ acc.length ≤ k ∧ wr.ownsRow w1.heap.size 9 1 b acc.length (acc.map Value.string) ∧ Below w1.heap.size w1 wr) (fun _ v _ => n - (intOf v).toNat)
  case atStart => exact ⟨0, [], rfl, by omega, rfl, by simp, World.ownsRow_nil _ _ _ _, Below.refl _ _⟩
  case round =>
    obtain ⟨k, acc, rfl, hk, hacc, hal, hown, hbel⟩ := hrel
    have HACC := Lib.hid hacc
    have HOWN := Lib.hid hown
    have HBEL := Lib.hid hbel
    have hzz := hbel.size
    obtain ⟨v, hv⟩ : ∃ v, v = u3 := ⟨_, rfl⟩
    subst hv
    rcases Nat.lt_or_ge k n with hlt | hge
    · have hki : (k : Int) < (n : Int) := by omega
      obtain ⟨x, hx⟩ : ∃ x, P[k]? = some x := ⟨P[k]'(by rw [HPL.out]; exact hlt), List.getElem?_eq_getElem _⟩
      have c1 := (hbel.cell (p := ⟨w.heap.size, k, none⟩) hzz1).trans (HCL.out k x hx)
      have hsn := wdB_snoc P k x hx
      clear hown hbel hacc hx
      cases he : x.toList.isEmpty with
      | true =>
        have he2 : (!x.toList.isEmpty) = false := by rw [he]; rfl
        have he3 : x.toList = [] := List.isEmpty_iff.1 he
        have HN : Hid (acc = wdB (P.take (k + 1))) := by
          unfold Hid
          rw [hsn, ← HACC.out, he]
          simp
        clear hsn
        go_wp2_with fail
        go_roundw
        case rel => exact ⟨k + 1, acc, by go_num, by omega, HN.out, by omega, HOWN.out, HBEL.out⟩
        case measure => simp [intOf]; omega
      | false =>
        have he2 : (!x.toList.isEmpty) = true := by rw [he]; rfl
        have HN : Hid (acc ++ [x] = wdB (P.take (k + 1))) := by
          unfold Hid
          rw [hsn, ← HACC.out, he]
          simp
        clear hsn
        go_wp2_with (at_builtin; refine wpList_append_own _ rfl _ _ _ rfl w1.heap.size 9 i0 (.string ⟨#[]⟩) 1 16 Tryd.underlying29 hi hz0 hz1 hz2 rfl (by decide) _ acc.length (acc.map Value.string) rfl (HOWN.out.alloc _) ⟨wr.heap.size, 0, none⟩ 1 1 [.string x] rfl rfl ?c1 ?c2 ?c3 ?c4 ?c5 ?_)
        case c1 => exact news1 wr _ _
        case c2 => exact st_one x
        case c3 => unfold maxLen; omega
        case c4 => omega
        case c5 => simp; omega
        intro v' w2 hown2 hgrow2 _
        have HO2 : Hid (w2.ownsRow w1.heap.size 9 1 v' (acc ++ [x]).length ((acc ++ [x]).map Value.string)) := by
          unfold Hid
          rw [List.map_append, List.length_append]
          exact hown2
        have HB2 : Hid (Below w1.heap.size w1 w2) := (HBEL.out.alloc hzz _).grown hgrow2 (by simp; omega) (fun k hk => (HOWN.out.lt k hk).1)
        clear hown2 hgrow2
        go_wp2_with fail
        go_roundw
        case rel => exact ⟨k + 1, acc ++ [x], by go_num, by omega, HN.out, by simp; omega, HO2.out, HB2.out⟩
        case measure => simp [intOf]; omega
    · have hki : (n : Int) ≤ (k : Int) := by omega
      have hfin : acc = wdB P := by rw [HACC.out, List.take_of_length_le (by rw [HPL.out]; exact hge)]
      have HJ : Hid (Lib.join (acc.map (·.data.toList)) [32] = trimL s.data.toList) := by unfold Hid; rw [hfin]; exact HTR.out
      have hbw : Below w.heap.size w wr := HB1.out.trans (hbel.mono (by omega))
      have HBW := Lib.hid hbw
      rcases own_st hown with ⟨rfl, a0, c0, hv⟩ | ⟨g, cap, hv, h2, h3, h4⟩
      · subst hv
        have HJ2 : Hid (trimL s.data.toList = []) := by rw [← HJ.out]; rfl
        clear hown hbel hacc hfin hbw
        go_wp2_with fail
        refine (Tryd.strings_Join_none a0 c0 ⟨#[32]⟩ _).mono ?_
        rintro e w2 ⟨rfl, rfl⟩
        go_wp2_with fail
        go_ret
        exact ⟨ret_s (by rw [HJ2.out]), HBW.out⟩
      · subst hv
        have HH4 := Lib.hid h4
        clear hown hbel hacc hfin hbw h4
        go_wp2_with fail
        refine (Tryd.strings_Join g 0 cap acc ⟨#[32]⟩ _ HH4.out h3 (by omega) h2 (by show (Lib.join (acc.map (·.data.toList)) [32]).length ≤ _; rw [HJ.out]; omega)).mono ?_
        rintro e w2 ⟨rfl, hb2⟩
        have HB2 : Hid (Below w.heap.size w w2) := HBW.out.trans (hb2.mono HBW.out.size)
        clear hb2
        go_wp2_with fail
        go_ret
        exact ⟨ret_s (by rw [← HJ.out]), HB2.out⟩
end Go.Proofs.YtcmpeppjopdeaaaDoor
