/- CSV: texts, rows and rows of rows in memory; are rows light? -/
import Derived.Test.YthgeajmggbakbaaDoorCsvB
import Derived.Lib.Join
import Derived.Deep.LoopGhost
set_option linter.unusedSimpArgs false
set_option linter.unusedVariables false
namespace Go.Proofs.YthgeajmggbakbaaDoor
open Go.RowKit

theorem size_l (l : Bs) : (⟨l.toArray⟩ : ByteArray).size = l.length := by rw [Lib.size_eq]
theorem cat_l (a b : Bs) : (⟨a.toArray⟩ : ByteArray) ++ ⟨b.toArray⟩ = ⟨(a ++ b).toArray⟩ := by
  apply ByteArray.ext
  simp
def bsE (L : Bs) : List Value := [.string ⟨L.toArray⟩]
theorem bsE_len (x : Bs) : (bsE x).length = 1 := rfl
theorem bsE_one (x : Bs) : ∀ u ∈ bsE x, u.oneCell' = true := by
  intro u hu
  simp only [bsE, List.mem_singleton] at hu
  subst hu
  rfl
theorem join_com : ∀ R : List Bs, Lib.join R [44] = comL R
  | [] => rfl
  | [c] => Lib.join_one _ _
  | c :: d :: r => by
    have h := join_com (d :: r)
    rw [Lib.join_cons] at h ⊢
    rw [comL, ← h]
    · simp [Lib.joinTail]
    · simp
theorem info_str : (Tryd.prog.info? 9).map (fun i => (i.zero, i.size, i.bytes)) = some (some (.string ⟨#[]⟩), 1, 16) := by kernel_rfl
theorem cell_str {w : World} {p : Option Addr} {n : Nat} {R : List Bs} (h : RdG bsE 1 w p n R) {j : Nat} (hj : j < n) : ∃ b off, p = some ⟨b, off, none⟩ ∧ b < w.heap.size ∧ w.cell? ⟨b, off + j, none⟩ = some (.string ⟨(R.getD j []).toArray⟩) := by
  obtain ⟨b, off, h1, h2, h3⟩ := h.some hj
  refine ⟨b, off, h1, h2, RdG.at1 (n := n) (p := p) h3 (x := R.getD j []) ?_ rfl⟩
  have hl : j < R.length := by rw [h.1]; exact hj
  rw [List.getD_eq_getElem?_getD, List.getElem?_eq_getElem hl]
  rfl

theorem szR_mem {R : List Bs} {x : Bs} (h : x ∈ R) : x.length ≤ szR R := by
  induction R with
  | nil => cases h
  | cons c R ih =>
    simp only [szR, List.map_cons, List.sum_cons] at ih ⊢
    rcases List.mem_cons.1 h with rfl | h
    · omega
    · have := ih h
      omega
theorem szR_at (R : List Bs) (i : Nat) : (R.getD i []).length ≤ szR R := by
  rw [List.getD_eq_getElem?_getD]
  cases h : R[i]? with
  | none => exact Nat.zero_le _
  | some x => exact szR_mem (List.mem_of_getElem? h)
theorem take_cell (R : List Bs) (i : Nat) (h : i < R.length) : (R.take (i + 1)).map cellL = (R.take i).map cellL ++ [cellL (R.getD i [])] := by
  rw [List.take_succ_eq_append_getElem h, List.map_append, List.getD_eq_getElem?_getD, List.getElem?_eq_getElem h]
  rfl
/-- The text of the cells ahead, each with its comma before it but the first. -/
theorem comL_snoc (P : List Bs) (c : Bs) : comL (P ++ [c]) = if P = [] then c else comL P ++ 44 :: c := by
  induction P with
  | nil => rfl
  | cons a P ih =>
    rw [if_neg (by simp)]
    cases P with
    | nil => rfl
    | cons d P =>
      rw [if_neg (by simp)] at ih
      rw [List.cons_append, comL]
      · rw [show comL (a :: d :: P) = a ++ 44 :: comL (d :: P) from by rw [comL]; simp]
        rw [ih]
        simp
      · simp
theorem cells_snoc (R : List Bs) (i : Nat) (h : i < R.length) : comL ((R.take (i + 1)).map cellL) = (if i = 0 then cellL (R.getD i []) else comL ((R.take i).map cellL) ++ 44 :: cellL (R.getD i [])) := by
  rw [take_cell R i h, comL_snoc]
  by_cases h0 : i = 0
  · subst h0; rfl
  · rw [if_neg h0, if_neg]
    intro e
    have := congrArg List.length e
    rw [List.length_map, List.length_take, List.length_nil] at this
    omega
theorem szR_take (R : List Bs) (i : Nat) : szR (R.take i) ≤ szR R := by
  induction R generalizing i with
  | nil => simp
  | cons c R ih =>
    cases i with
    | zero => simp [szR]
    | succ i =>
      have := ih i
      simp only [szR, List.take_succ_cons, List.map_cons, List.sum_cons] at this ⊢
      omega
theorem com_up (R : List Bs) (i n : Nat) (hl : R.length = n) (hn : n ≤ 1000) (hsz : szR R ≤ 1100000) : (comL ((R.take i).map cellL)).length ≤ 3300000 := by
  have h1 := comL_up ((R.take i).map cellL)
  have h2 := szR_cells (R.take i)
  have h3 := szR_take R i
  rw [List.length_map] at h1
  rw [List.length_take] at h1 h2
  omega

/-- A row as a slice in memory. -/
structure Rw where
  p : Option Addr
  n : Nat
  cap : Nat
  R : List Bs
def rwE (r : Rw) : List Value := [.slice r.p r.n r.cap]
def RdRs (w : World) (p : Option Addr) (n : Nat) (Ls : List Rw) : Prop := RdG rwE 1 w p n Ls ∧ ∀ r ∈ Ls, RdG bsE 1 w r.p r.n r.R ∧ r.n ≤ r.cap ∧ r.n ≤ 9223372036854775807
theorem RdRs.below {w w' : World} {p : Option Addr} {n : Nat} {Ls : List Rw} (h : RdRs w p n Ls) (hb : Below w.heap.size w w') : RdRs w' p n Ls :=
  ⟨h.1.below hb, fun r hr => ⟨(h.2 r hr).1.below hb, (h.2 r hr).2⟩⟩
/-- The first bytes of a row's cells, and of the rows. -/
def cwk (R : List Bs) (k : Nat) : Nat := ((R.take k).map fun x => min x.length 3000).sum
def lts (Ls : List Rw) (i : Nat) : Nat := ((Ls.take i).map fun r => cwk r.R 20).sum
def lightB (Ls : List Rw) : Bool := ((Ls.take 20).all fun r => decide (r.n ≤ 20)) && (decide (Ls.length ≤ 20) && decide (lts Ls 20 ≤ 3000))
theorem cwk_succ (R : List Bs) (k : Nat) (h : k < R.length) : cwk R (k + 1) = cwk R k + min (R.getD k []).length 3000 := by
  unfold cwk
  rw [List.take_succ_eq_append_getElem h, List.map_append, List.sum_append, List.getD_eq_getElem?_getD, List.getElem?_eq_getElem h]
  simp
theorem cwk_all (R : List Bs) (k : Nat) (h : R.length ≤ k) : cwk R k = cwk R R.length := by
  unfold cwk
  rw [List.take_of_length_le h, List.take_of_length_le (Nat.le_refl _)]
theorem cwk_le (R : List Bs) (k : Nat) : cwk R k ≤ k * 3000 := by
  unfold cwk
  induction R generalizing k with
  | nil => simp
  | cons c R ih =>
    cases k with
    | zero => simp
    | succ k =>
      have := ih k
      simp only [List.take_succ_cons, List.map_cons, List.sum_cons]
      omega
theorem lts_succ (Ls : List Rw) (i : Nat) (h : i < Ls.length) : lts Ls (i + 1) = lts Ls i + cwk (Ls.getD i ⟨none, 0, 0, []⟩).R 20 := by
  unfold lts
  rw [List.take_succ_eq_append_getElem h, List.map_append, List.sum_append, List.getD_eq_getElem?_getD, List.getElem?_eq_getElem h]
  simp
theorem lts_all (Ls : List Rw) (k : Nat) (h : Ls.length ≤ k) : lts Ls k = lts Ls Ls.length := by
  unfold lts
  rw [List.take_of_length_le h, List.take_of_length_le (Nat.le_refl _)]
theorem lts_le (Ls : List Rw) (k : Nat) : lts Ls k ≤ k * 60000 := by
  unfold lts
  induction Ls generalizing k with
  | nil => simp
  | cons c R ih =>
    cases k with
    | zero => simp
    | succ k =>
      have := ih k
      have h2 := cwk_le c.R 20
      simp only [List.take_succ_cons, List.map_cons, List.sum_cons]
      omega
theorem getD_get {Ls : List Rw} {i : Nat} (h : i < Ls.length) : Ls.getD i ⟨none, 0, 0, []⟩ = Ls[i] := by simp [List.getD, h]
theorem light_no (Ls : List Rw) (i : Nat) (h : i < Ls.length) (h20 : i < 20) (hb : 20 < (Ls.getD i ⟨none, 0, 0, []⟩).n) : lightB Ls = false := by
  unfold lightB
  have : ((Ls.take 20).all fun r => decide (r.n ≤ 20)) = false := by
    rw [List.all_eq_false]
    refine ⟨Ls[i], ?_, ?_⟩
    · rw [List.mem_take_iff_getElem]
      exact ⟨i, by omega, rfl⟩
    · rw [getD_get h] at hb
      simp
      omega
  rw [this, Bool.false_and]
theorem light_end (Ls : List Rw) (i : Nat) (hi : i ≤ Ls.length) (h20 : i ≤ 20) (he : i = Ls.length ∨ i = 20) (hall : ∀ j, j < i → (Ls.getD j ⟨none, 0, 0, []⟩).n ≤ 20) : lightB Ls = (decide (Ls.length ≤ 20) && decide (lts Ls i ≤ 3000)) := by
  unfold lightB
  have : ((Ls.take 20).all fun r => decide (r.n ≤ 20)) = true := by
    rw [List.all_eq_true]
    intro r hr
    rw [List.mem_take_iff_getElem] at hr
    obtain ⟨j, hj, rfl⟩ := hr
    have := hall j (by omega)
    rw [getD_get (by omega)] at this
    simpa using this
  rw [this, Bool.true_and]
  rcases he with rfl | rfl
  · rw [lts_all Ls 20 h20]
  · rfl
theorem light_yes {Ls : List Rw} (h : lightB Ls = true) : Ls.length ≤ 20 ∧ ∀ r ∈ Ls, r.n ≤ 20 := by
  unfold lightB at h
  simp only [Bool.and_eq_true, decide_eq_true_eq, List.all_eq_true] at h
  refine ⟨h.2.1, fun r hr => h.1 r ?_⟩
  rw [List.take_of_length_le h.2.1]
  exact hr
theorem row_at {w : World} {p : Option Addr} {n : Nat} {Ls : List Rw} (h : RdRs w p n Ls) {j : Nat} (hj : j < n) : ∃ b off, p = some ⟨b, off, none⟩ ∧ b < w.heap.size ∧ w.cell? ⟨b, off + j, none⟩ = some (.slice (Ls.getD j ⟨none, 0, 0, []⟩).p (Ls.getD j ⟨none, 0, 0, []⟩).n (Ls.getD j ⟨none, 0, 0, []⟩).cap) ∧ RdG bsE 1 w (Ls.getD j ⟨none, 0, 0, []⟩).p (Ls.getD j ⟨none, 0, 0, []⟩).n (Ls.getD j ⟨none, 0, 0, []⟩).R ∧ (Ls.getD j ⟨none, 0, 0, []⟩).n ≤ (Ls.getD j ⟨none, 0, 0, []⟩).cap ∧ (Ls.getD j ⟨none, 0, 0, []⟩).n ≤ 9223372036854775807 := by
  have hl : j < Ls.length := by rw [h.1.1]; exact hj
  have hg : Ls[j]? = some (Ls.getD j ⟨none, 0, 0, []⟩) := by
    rw [List.getD_eq_getElem?_getD, List.getElem?_eq_getElem hl]
    rfl
  obtain ⟨b, off, h1, h2, h3⟩ := h.1.some hj
  exact ⟨b, off, h1, h2, RdG.at1 (n := n) (p := p) h3 hg rfl, h.2 _ (List.mem_of_getElem? hg)⟩

set_option maxRecDepth 100000 in
set_option maxHeartbeats 2000000 in
theorem light_any (p : Option Addr) (n cap : Nat) (Ls : List Rw) (w : World) (hr : RdRs w p n Ls) (hn : n ≤ 9223372036854775807) :
    Calls Tryd.prog 6 #[.slice p n cap] w fun e w' => e = .returned (.bool (lightB Ls)) ∧ w = w' := by
  have HLEN : Hid (Ls.length = n) := hr.1.1
  have HAT := Lib.hid (fun j (hj : j < n) => row_at hr hj)
  have HLE := Lib.hid (lts_le Ls)
  have HSUC := Lib.hid (lts_succ Ls)
  have HNO := Lib.hid (light_no Ls)
  have HEND := Lib.hid (light_end Ls)
  obtain ⟨L, hL⟩ : ∃ L, lightB Ls = L := ⟨_, rfl⟩
  rw [hL] at HNO HEND ⊢
  clear hr hL
  go_enter Tryd.func6, Tryd.ntmps6
  go_wp2_with fail
  go_loopg [3, 4] 20 (fun g v3 v4 wr => ∃ i : Nat, i ≤ n ∧ i + g = 20 ∧ v4 = .int .i64 i ∧ v3 = .int .i64 ((lts Ls i : Nat) : Int) ∧ (∀ j, j < i → (Ls.getD j ⟨none, 0, 0, []⟩).n ≤ 20) ∧ wr = w)
  case atStart => exact ⟨0, by omega, by omega, rfl, rfl, fun j hj => by omega, rfl⟩
  case round =>
    obtain ⟨G, rfl⟩ : ∃ G, G = gk := ⟨_, rfl⟩
    obtain ⟨i, hin, hig, rfl, rfl, hall, rfl⟩ := hrel
    have hSl := HLE.out i
    have HALL := Lib.hid hall
    clear hall
    by_cases hlt : i < n
    · have hli : (i : Int) < (n : Int) := by omega
      by_cases h20 : i < 20
      · have h20i : (i : Int) < 20 := by omega
        obtain ⟨b, off, rfl, hb, hc, hrd, hrc, hrn⟩ := HAT.out i hlt
        have hsuc := HSUC.out i (by rw [HLEN.out]; exact hlt)
        have hno := HNO.out i (by rw [HLEN.out]; exact hlt) h20
        have HAL2 : (Ls.getD i ⟨none, 0, 0, []⟩).n ≤ 20 → Hid (∀ j, j < i + 1 → (Ls.getD j ⟨none, 0, 0, []⟩).n ≤ 20) := fun h j hj => by
          by_cases h' : j < i
          · exact HALL.out j h'
          · obtain rfl : j = i := by omega
            exact h
        obtain ⟨rp, rn, rc, R, hRw⟩ : ∃ rp rn rc R, Ls.getD i ⟨none, 0, 0, []⟩ = ⟨rp, rn, rc, R⟩ := ⟨_, _, _, _, rfl⟩
        rw [hRw] at hc hrd hrc hrn hsuc hno HAL2
        simp only at hc hrd hrc hrn hsuc hno HAL2
        have HSU := Lib.hid hsuc
        have HNO2 := Lib.hid hno
        obtain ⟨S, hS⟩ : ∃ S, lts Ls i = S := ⟨_, rfl⟩
        rw [hS] at HSU hSl ⊢
        have HCK := Lib.hid (cwk_le R)
        have HCS := Lib.hid (cwk_succ R)
        have HCA := Lib.hid (cwk_all R)
        have HRL : Hid (R.length = rn) := hrd.1
        have HST := Lib.hid (fun j (hj : j < rn) => cell_str hrd hj)
        clear hRw hsuc hno hrd hS
        obtain ⟨W0, rfl⟩ : ∃ W0, W0 = wr := ⟨_, rfl⟩
        go_wp2_with fail
        go_loopg [3, 5] 20 (fun g v3 v5 wx => ∃ k : Nat, k ≤ rn ∧ k + g = 20 ∧ v5 = .int .i64 k ∧ v3 = .int .i64 (((S + cwk R k : Nat)) : Int) ∧ wx = W0)
        case atStart => exact ⟨0, by omega, by omega, rfl, rfl, rfl⟩
        case round =>
          obtain ⟨k, hkn, hkg, rfl, rfl, rfl⟩ := hrel
          have hKl := HCK.out k
          by_cases hkt : k < rn
          · have hkti : (k : Int) < (rn : Int) := by omega
            by_cases hk20 : k < 20
            · have hk20i : (k : Int) < 20 := by omega
              obtain ⟨b2, off2, rfl, hb2, hc2⟩ := HST.out k hkt
              have hcs := HCS.out k (by rw [HRL.out]; exact hkt)
              have hX : (⟨(R.getD k []).toArray⟩ : ByteArray).size = (R.getD k []).length := size_l _
              rw [← hX] at hcs
              generalize (⟨(R.getD k []).toArray⟩ : ByteArray) = X at hc2 hX hcs
              have HCX := Lib.hid hcs
              have hKl2 := HCK.out (k + 1)
              clear hcs hX
              by_cases hx3 : X.size ≤ 3000
              · have hx3i : (X.size : Int) ≤ 3000 := by omega
                go_wp2_with fail
                go_roundg (gk - 1)
                case measure => omega
                case rel => exact ⟨k + 1, by omega, by omega, by go_num, by have h := HCX.out; rw [Nat.min_eq_left hx3] at h; rw [h]; go_num, rfl⟩
              · have hx3i : ¬ (X.size : Int) ≤ 3000 := by omega
                go_wp2_with fail
                go_roundg (gk - 1)
                case measure => omega
                case rel => exact ⟨k + 1, by omega, by omega, by go_num, by have h := HCX.out; rw [Nat.min_eq_right (by omega)] at h; rw [h]; go_num, rfl⟩
            · obtain rfl : k = 20 := by omega
              have hk20i : ¬ ((20 : Nat) : Int) < 20 := by omega
              by_cases hr20 : 20 < rn
              · have hr20i : (20 : Int) < (rn : Int) := by omega
                have HL := Lib.hid (HNO2.out hr20)
                clear hkn
                go_wp2_with fail
                go_ret
                exact ⟨by rw [HL.out]; rfl, rfl⟩
              · obtain rfl : rn = 20 := by omega
                omega
          · obtain rfl : k = rn := by omega
            have hkti : ¬ (k : Int) < (k : Int) := by omega
            have hr20 : k ≤ 20 := by omega
            have hr20i : ¬ (20 : Int) < (k : Int) := by omega
            have HA2 := Lib.hid (HAL2 hr20).out
            have HSV : Hid (lts Ls (i + 1) = S + cwk R k) := by
              have h1 := HSU.out
              have h2 := HCA.out 20 (by rw [HRL.out]; omega)
              rw [HRL.out] at h2
              rw [← h2]
              exact h1
            clear hkt
            go_wp2_with fail
            go_roundg (G - 1)
            case measure => omega
            case rel => exact ⟨i + 1, by omega, by omega, by go_num, by rw [HSV.out]; go_num, HA2.out, rfl⟩
      · obtain rfl : i = 20 := by omega
        have h20i : ¬ ((20 : Nat) : Int) < 20 := by omega
        have hn20 : ¬ (n : Int) ≤ 20 := by omega
        have HL : Hid (L = false) := by
          have h := HEND.out 20 (by rw [HLEN.out]; omega) (Nat.le_refl _) (.inr rfl) HALL.out
          rw [HLEN.out, decide_eq_false (by omega), Bool.false_and] at h
          exact h
        clear h20
        go_wp2_with fail
        go_ret
        exact ⟨by rw [HL.out]; rfl, rfl⟩
    · obtain rfl : i = n := by omega
      have hli : ¬ (i : Int) < (i : Int) := by omega
      have hn20 : (i : Int) ≤ 20 := by omega
      have HL : Hid (L = decide (lts Ls i ≤ 3000)) := by
        have h := HEND.out i (by rw [HLEN.out]; omega) (by omega) (.inl HLEN.out.symm) HALL.out
        rw [HLEN.out, decide_eq_true (by omega), Bool.true_and] at h
        exact h
      generalize lts Ls i = S at HL hSl
      clear hlt hin
      by_cases hS : S ≤ 3000
      · have hSi : (S : Int) ≤ 3000 := by omega
        have HL2 : Hid (L = true) := by unfold Hid; rw [HL.out, decide_eq_true hS]
        go_wp2_with fail
        go_ret
        exact ⟨by rw [HL2.out]; rfl, rfl⟩
      · have hSi : ¬ (S : Int) ≤ 3000 := by omega
        have HL2 : Hid (L = false) := by unfold Hid; rw [HL.out, decide_eq_false hS]
        go_wp2_with fail
        go_ret
        exact ⟨by rw [HL2.out]; rfl, rfl⟩
end Go.Proofs.YthgeajmggbakbaaDoor
