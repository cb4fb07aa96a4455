/- Script: a text's numbers, just so many. -/
import Derived.Test.YtddoghjopihkpaaDoorScrC
set_option linter.unusedSimpArgs false
set_option linter.unusedVariables false
namespace Go.Proofs.YtddoghjopihkpaaDoor
open Go.RowKit

def inE (n : Nat) : List Value := [.int .i64 (n : Int)]
theorem inE_len (x : Nat) : (inE x).length = 1 := rfl
theorem inE_one (x : Nat) : ∀ u ∈ inE x, u.oneCell' = true := by
  intro u hu
  simp only [inE, List.mem_singleton] at hu
  subst hu
  rfl
theorem info_int : (Tryd.prog.info? 3).map (fun i => (i.zero, i.size, i.bytes)) = some (some (.int .i64 0), 1, 8) := by kernel_rfl
def nbs (k : Nat) (L : Bs) : Option (List Nat) := if (sp32 L).length = k then nums (sp32 L) else none
theorem nums_cons {P : List Bs} {i : Nat} (h : i < P.length) : nums (P.drop i) = match nmb (P.getD i []), nums (P.drop (i + 1)) with
    | some n, some l => some (n :: l)
    | _, _ => none := by
  rw [List.drop_eq_getElem_cons h, nums, List.getD_eq_getElem?_getD, List.getElem?_eq_getElem h]
  rfl
theorem nums_no {P : List Bs} {i : Nat} (h : i < P.length) (hn : nmb (P.getD i []) = none) : nums (P.drop i) = none := by
  rw [nums_cons h, hn]
theorem nums_yes {P : List Bs} {i n : Nat} (h : i < P.length) (hn : nmb (P.getD i []) = some n) : nums (P.drop i) = (nums (P.drop (i + 1))).map (n :: ·) := by
  rw [nums_cons h, hn]
  cases nums (P.drop (i + 1)) <;> rfl
theorem cell_st {w : World} {p : Option Addr} {n : Nat} {R : List Bs} (h : RdG stE 1 w p n R) {j : Nat} (hj : j < n) : ∃ b off, p = some ⟨b, off, none⟩ ∧ b < w.heap.size ∧ w.cell? ⟨b, off + j, none⟩ = some (.string ⟨(R.getD j []).toArray⟩) := by
  obtain ⟨b, off, h1, h2, h3⟩ := h.some hj
  refine ⟨b, off, h1, h2, RdG.at1 (n := n) (p := p) h3 (x := R.getD j []) ?_ rfl⟩
  have hl : j < R.length := by rw [h.1]; exact hj
  rw [List.getD_eq_getElem?_getD, List.getElem?_eq_getElem hl]
  rfl
/-- What 'numbers' leaves. -/
def NumsR (B : Nat) (o : Option (List Nat)) (e : Ending) (w' : World) : Prop := match o with
  | none => e = .returned (.tuple #[.slice none 0 0, .bool false])
  | some l => ∃ p cap, e = .returned (.tuple #[.slice p l.length cap, .bool true]) ∧ RdG inE 1 w' p l.length l ∧ ∀ a, p = some a → B ≤ a.block

set_option maxRecDepth 100000 in
set_option maxHeartbeats 4000000 in
theorem numbers_any (k : Nat) (hk : k ≤ 10) (L : Bs) (hL : L.length ≤ 100000) (w : World) (hsh : w.ShapedOpen Tryd.prog) :
    Calls Tryd.prog 22 #[.string ⟨L.toArray⟩, .int .i64 (k : Int)] w fun e w' => NumsR w.heap.size (nbs k L) e w' ∧ Below w.heap.size w w' := by
  obtain ⟨i0, hi, hz0, hz1, hz2⟩ := info_of info_int
  have HS := Lib.hid (split_any L hL w hsh)
  have hpl := sp32_len L
  have HEACH : Hid (∀ i W, Calls Tryd.prog 32 #[.string ⟨((sp32 L).getD i []).toArray⟩, .int .i64 1048576] W fun e w' => e = .returned (.tuple #[.int .i64 (((nmb ((sp32 L).getD i [])).getD 0 : Nat) : Int), .bool (nmb ((sp32 L).getD i [])).isSome]) ∧ Below W.heap.size W w') := fun i W => by
    refine number_any _ ?_ W
    rw [List.getD_eq_getElem?_getD]
    cases h : (sp32 L)[i]? with
    | none => exact Nat.zero_le _
    | some x =>
      have := sp32_each L x (List.mem_of_getElem? h)
      simp only [Option.getD_some]
      omega
  obtain ⟨O, hO⟩ : ∃ O, nbs k L = O := ⟨_, rfl⟩
  have HO : Hid (O = if (sp32 L).length = k then nums (sp32 L) else none) := by rw [← hO]; rfl
  rw [hO]
  clear hO hsh
  generalize sp32 L = P at HS HEACH HO hpl
  obtain ⟨n, hn⟩ : ∃ n, P.length = n := ⟨_, rfl⟩
  rw [hn] at HS HO hpl
  have HN := Lib.hid hn
  clear hn
  by_cases hnk : n = k
  · have HO2 : Hid (O = nums (P.drop 0)) := by unfold Hid; rw [HO.out, if_pos hnk]; rfl
    subst hnk
    clear HO
    have heq : ((n : Int) != (n : Int)) = false := by simp
    go_enter Tryd.func22, Tryd.ntmps22
    go_wp2_with fail
    refine HS.out.mono ?_
    rintro e w1 ⟨⟨p, cap, rfl, hrd⟩, hb1⟩
    have HRD := Lib.hid hrd
    have HB1 := Lib.hid hb1
    have hz1' := hb1.size
    clear hrd hb1 HS
    go_wp2_with fail
    go_loopg [7, 20] n (fun g v7 v20 wr => ∃ (i : Nat) (acc : List Nat), i + g = n ∧ v20 = .int .i64 i ∧ acc.length = i ∧ O = (nums (P.drop i)).map (acc ++ ·) ∧ wr.ownsRow w1.heap.size 3 1 v7 acc.length (acc.flatMap inE) ∧ Below w1.heap.size w1 wr)
    case atStart => exact ⟨0, [], by omega, rfl, rfl, by rw [HO2.out]; cases nums (P.drop 0) <;> simp, World.ownsRow_nil _ _ _ _, Below.refl _ _⟩
    case round =>
      obtain ⟨i, acc, hig, rfl, hal, hO, hown, hbel⟩ := hrel
      have HOA := Lib.hid hO
      have HOW := Lib.hid hown
      have HBL := Lib.hid hbel
      have hzr := hbel.size
      have HAL := Lib.hid hal
      have hal10 : acc.length ≤ 10 := by omega
      clear hO hown hbel HO2 hal
      by_cases hlt : i < n
      · have hli : (i : Int) < (n : Int) := by omega
        obtain ⟨b, off, rfl, hb, hc⟩ := cell_st (HRD.out.below HBL.out) hlt
        have HNB := Lib.hid (HEACH.out i wr)
        have hno := nums_no (P := P) (i := i) (by rw [HN.out]; exact hlt)
        have hyes := fun m => nums_yes (n := m) (P := P) (i := i) (by rw [HN.out]; exact hlt)
        generalize P.getD i [] = x at hc HNB hno hyes
        cases hx : nmb x with
        | none =>
          rw [hx] at HNB
          have HON : Hid (O = none) := by unfold Hid; rw [HOA.out, hno hx]; rfl
          clear hno hyes hx
          go_wp2_with fail
          refine HNB.out.mono ?_
          rintro e w2 ⟨rfl, hb2⟩
          have hbw : Below w.heap.size w w2 := bel_call hb2 (HB1.out.trans (HBL.out.mono hz1')) (by omega)
          go_wp2_with fail
          go_ret2
          refine ⟨?_, hbw⟩
          rw [HON.out]
          exact rfl
        | some m =>
          rw [hx] at HNB
          have HON : Hid (O = (nums (P.drop (i + 1))).map ((acc ++ [m]) ++ ·)) := by
            unfold Hid
            rw [HOA.out, hyes m hx]
            cases nums (P.drop (i + 1)) <;> simp
          clear hno hyes hx
          go_wp2_with fail
          refine HNB.out.mono ?_
          rintro e w2 ⟨rfl, hb2⟩
          have hz2' := hb2.size
          have HOW2 := Lib.hid (row_below HOW.out hb2)
          have HB2 : Hid (Below w1.heap.size w1 w2) := bel_call hb2 HBL.out hzr
          clear hb2
          simp only [Option.getD_some, Option.isSome_some]
          go_wp2_with (at_builtin; refine wpList_append_own _ rfl _ _ _ rfl w1.heap.size 3 i0 (.int .i64 0) 1 8 Tryd.underlying53 hi hz0 hz1 hz2 rfl (by decide) _ _ _ rfl (HOW2.out.alloc _) ⟨w2.heap.size, 0, none⟩ 1 1 (inE m) rfl rfl ?c1 ?c2 ?c3 ?c4 ?c5 ?_)
          case c1 => exact new1 w2 _ _
          case c2 => exact inE_one _
          case c3 => unfold maxLen; omega
          case c4 => omega
          case c5 => first | omega | (simp; omega)
          intro v' w4 hown4 hgrow4 _
          have HOW4 : Hid (w4.ownsRow w1.heap.size 3 1 v' (acc ++ [m]).length ((acc ++ [m]).flatMap inE)) := by
            unfold Hid
            rw [flat_snoc, List.length_append]
            exact hown4
          have HB4 : Hid (Below w1.heap.size w1 w4) := (HB2.out.alloc (by omega) _).grown hgrow4 (by simp; omega) (fun k' hk' => (HOW2.out.lt k' hk').1)
          clear hown4 hgrow4
          go_wp2_with fail
          go_roundg (gk - 1)
          case measure => omega
          case rel => exact ⟨i + 1, acc ++ [m], by omega, by go_num, by rw [List.length_append, List.length_singleton, HAL.out], HON.out, HOW4.out, HB4.out⟩
      · obtain rfl : i = n := by omega
        have hli : ¬ (i : Int) < (i : Int) := by omega
        have HON : Hid (O = some acc) := by
          unfold Hid
          rw [HOA.out, List.drop_eq_nil_of_le (by rw [HN.out]; exact Nat.le_refl _)]
          simp [nums]
        obtain ⟨q, cp, rfl, _, _, hrd, hbl⟩ := RdG.of_own (sz := 1) (L := acc) inE_len rfl HOW.out
        have hbl2 : ∀ a, q = some a → w.heap.size ≤ a.block := fun a ha => by
          rcases hbl with e | ⟨r, e, h1, h2⟩
          · injection e with e; rw [e] at ha; cases ha
          · rw [e] at ha; cases ha; exact Nat.le_trans hz1' h1
        clear hbl
        have hbw : Below w.heap.size w wr := HB1.out.trans (HBL.out.mono hz1')
        go_wp2_with fail
        go_ret2
        refine ⟨?_, hbw⟩
        rw [HON.out]
        exact ⟨q, cp, rfl, hrd, hbl2⟩
  · have HO2 : Hid (O = none) := by unfold Hid; rw [HO.out, if_neg hnk]
    have hne : ((n : Int) != (k : Int)) = true := by simp; omega
    clear HO
    go_enter Tryd.func22, Tryd.ntmps22
    go_wp2_with fail
    refine HS.out.mono ?_
    rintro e w1 ⟨⟨p, cap, rfl, hrd⟩, hb1⟩
    clear hrd
    go_wp2_with fail
    go_ret2
    refine ⟨?_, hb1⟩
    rw [HO2.out]
    exact rfl
end Go.Proofs.YtddoghjopihkpaaDoor
