/- Functions of formulas: how many arguments they take: the program's Takes, the document's Names and Takes. Printed by gen_cal.py. -/
import Derived.Test.YtilajcibjlcffaaGreatDoorTreB
import Derived.Great.BuildSlice
set_option linter.unusedSimpArgs false
set_option linter.unusedVariables false

namespace Go.Proofs.YtilajcibjlcffaaGreatDoor
open Go.RowKit Go.Joins

def fn0 : List Bs := [[83, 85, 77], [77, 73, 78], [77, 65, 88], [67, 79, 85, 78, 84], [67, 79, 85, 78, 84, 65], [65, 86, 69, 82, 65, 71, 69], [80, 82, 79, 68, 85, 67, 84], [67, 79, 78, 67, 65, 84], [73, 77, 83, 85, 77], [73, 77, 80, 82, 79, 68, 85, 67, 84]]
def fn1 : List Bs := [[65, 66, 83], [73, 78, 84], [83, 73, 71, 78], [76, 69, 78], [85, 80, 80, 69, 82], [76, 79, 87, 69, 82], [73, 83, 69, 82, 82, 79, 82], [73, 83, 66, 76, 65, 78, 75], [73, 77, 82, 69, 65, 76], [73, 77, 65, 71, 73, 78, 65, 82, 89], [73, 77, 67, 79, 78, 74, 85, 71, 65, 84, 69]]
def fn2 : List Bs := [[77, 79, 68], [82, 79, 85, 78, 68], [73, 70, 69, 82, 82, 79, 82]]
def fn3 : List Bs := [[73, 70]]
def fnL (k : Nat) : List Bs := if k = 0 then fn0 else if k = 1 then fn1 else if k = 2 then fn2 else fn3
/-- How many arguments a function takes. -/
def tkC (s : Bs) : Int × Int × Bool := if s ∈ fn0 then (1, 16, true) else if s ∈ fn1 then (1, 1, true) else if s ∈ fn2 then (2, 2, true) else if s ∈ fn3 then (3, 3, true) else (0, 0, false)
def TkcP (s : Bs) (w : World) (e : Ending) (w' : World) : Prop := e = .returned (.tuple #[.int .i64 (tkC s).1, .int .i64 (tkC s).2.1, .bool (tkC s).2.2]) ∧ Below w.heap.size w w'
theorem ba_toList {s : ByteArray} {l : Bs} (h : s.toList = l) : s = ⟨l.toArray⟩ := by
  rw [Lib.toList_data] at h
  obtain ⟨d⟩ := s
  obtain ⟨x⟩ := d
  cases h
  rfl
set_option maxRecDepth 100000 in
set_option maxHeartbeats 1000000 in
theorem tk_0 (w : World) : Calls Tryz.prog 32 #[.string ⟨#[83, 85, 77]⟩] w (TkcP [83, 85, 77] w) := by
  go_enter Tryz.func32, Tryz.ntmps32
  go_wp2_with fail
  go_ret3
  exact ⟨rfl, Below.refl _ _⟩
set_option maxRecDepth 100000 in
set_option maxHeartbeats 1000000 in
theorem tk_1 (w : World) : Calls Tryz.prog 32 #[.string ⟨#[77, 73, 78]⟩] w (TkcP [77, 73, 78] w) := by
  go_enter Tryz.func32, Tryz.ntmps32
  go_wp2_with fail
  go_ret3
  exact ⟨rfl, Below.refl _ _⟩
set_option maxRecDepth 100000 in
set_option maxHeartbeats 1000000 in
theorem tk_2 (w : World) : Calls Tryz.prog 32 #[.string ⟨#[77, 65, 88]⟩] w (TkcP [77, 65, 88] w) := by
  go_enter Tryz.func32, Tryz.ntmps32
  go_wp2_with fail
  go_ret3
  exact ⟨rfl, Below.refl _ _⟩
set_option maxRecDepth 100000 in
set_option maxHeartbeats 1000000 in
theorem tk_3 (w : World) : Calls Tryz.prog 32 #[.string ⟨#[67, 79, 85, 78, 84]⟩] w (TkcP [67, 79, 85, 78, 84] w) := by
  go_enter Tryz.func32, Tryz.ntmps32
  go_wp2_with fail
  go_ret3
  exact ⟨rfl, Below.refl _ _⟩
set_option maxRecDepth 100000 in
set_option maxHeartbeats 1000000 in
theorem tk_4 (w : World) : Calls Tryz.prog 32 #[.string ⟨#[67, 79, 85, 78, 84, 65]⟩] w (TkcP [67, 79, 85, 78, 84, 65] w) := by
  go_enter Tryz.func32, Tryz.ntmps32
  go_wp2_with fail
  go_ret3
  exact ⟨rfl, Below.refl _ _⟩
set_option maxRecDepth 100000 in
set_option maxHeartbeats 1000000 in
theorem tk_5 (w : World) : Calls Tryz.prog 32 #[.string ⟨#[65, 86, 69, 82, 65, 71, 69]⟩] w (TkcP [65, 86, 69, 82, 65, 71, 69] w) := by
  go_enter Tryz.func32, Tryz.ntmps32
  go_wp2_with fail
  go_ret3
  exact ⟨rfl, Below.refl _ _⟩
set_option maxRecDepth 100000 in
set_option maxHeartbeats 1000000 in
theorem tk_6 (w : World) : Calls Tryz.prog 32 #[.string ⟨#[80, 82, 79, 68, 85, 67, 84]⟩] w (TkcP [80, 82, 79, 68, 85, 67, 84] w) := by
  go_enter Tryz.func32, Tryz.ntmps32
  go_wp2_with fail
  go_ret3
  exact ⟨rfl, Below.refl _ _⟩
set_option maxRecDepth 100000 in
set_option maxHeartbeats 1000000 in
theorem tk_7 (w : World) : Calls Tryz.prog 32 #[.string ⟨#[67, 79, 78, 67, 65, 84]⟩] w (TkcP [67, 79, 78, 67, 65, 84] w) := by
  go_enter Tryz.func32, Tryz.ntmps32
  go_wp2_with fail
  go_ret3
  exact ⟨rfl, Below.refl _ _⟩
set_option maxRecDepth 100000 in
set_option maxHeartbeats 1000000 in
theorem tk_8 (w : World) : Calls Tryz.prog 32 #[.string ⟨#[73, 77, 83, 85, 77]⟩] w (TkcP [73, 77, 83, 85, 77] w) := by
  go_enter Tryz.func32, Tryz.ntmps32
  go_wp2_with fail
  go_ret3
  exact ⟨rfl, Below.refl _ _⟩
set_option maxRecDepth 100000 in
set_option maxHeartbeats 1000000 in
theorem tk_9 (w : World) : Calls Tryz.prog 32 #[.string ⟨#[73, 77, 80, 82, 79, 68, 85, 67, 84]⟩] w (TkcP [73, 77, 80, 82, 79, 68, 85, 67, 84] w) := by
  go_enter Tryz.func32, Tryz.ntmps32
  go_wp2_with fail
  go_ret3
  exact ⟨rfl, Below.refl _ _⟩
set_option maxRecDepth 100000 in
set_option maxHeartbeats 1000000 in
theorem tk_10 (w : World) : Calls Tryz.prog 32 #[.string ⟨#[65, 66, 83]⟩] w (TkcP [65, 66, 83] w) := by
  go_enter Tryz.func32, Tryz.ntmps32
  go_wp2_with fail
  go_ret3
  exact ⟨rfl, Below.refl _ _⟩
set_option maxRecDepth 100000 in
set_option maxHeartbeats 1000000 in
theorem tk_11 (w : World) : Calls Tryz.prog 32 #[.string ⟨#[73, 78, 84]⟩] w (TkcP [73, 78, 84] w) := by
  go_enter Tryz.func32, Tryz.ntmps32
  go_wp2_with fail
  go_ret3
  exact ⟨rfl, Below.refl _ _⟩
set_option maxRecDepth 100000 in
set_option maxHeartbeats 1000000 in
theorem tk_12 (w : World) : Calls Tryz.prog 32 #[.string ⟨#[83, 73, 71, 78]⟩] w (TkcP [83, 73, 71, 78] w) := by
  go_enter Tryz.func32, Tryz.ntmps32
  go_wp2_with fail
  go_ret3
  exact ⟨rfl, Below.refl _ _⟩
set_option maxRecDepth 100000 in
set_option maxHeartbeats 1000000 in
theorem tk_13 (w : World) : Calls Tryz.prog 32 #[.string ⟨#[76, 69, 78]⟩] w (TkcP [76, 69, 78] w) := by
  go_enter Tryz.func32, Tryz.ntmps32
  go_wp2_with fail
  go_ret3
  exact ⟨rfl, Below.refl _ _⟩
set_option maxRecDepth 100000 in
set_option maxHeartbeats 1000000 in
theorem tk_14 (w : World) : Calls Tryz.prog 32 #[.string ⟨#[85, 80, 80, 69, 82]⟩] w (TkcP [85, 80, 80, 69, 82] w) := by
  go_enter Tryz.func32, Tryz.ntmps32
  go_wp2_with fail
  go_ret3
  exact ⟨rfl, Below.refl _ _⟩
set_option maxRecDepth 100000 in
set_option maxHeartbeats 1000000 in
theorem tk_15 (w : World) : Calls Tryz.prog 32 #[.string ⟨#[76, 79, 87, 69, 82]⟩] w (TkcP [76, 79, 87, 69, 82] w) := by
  go_enter Tryz.func32, Tryz.ntmps32
  go_wp2_with fail
  go_ret3
  exact ⟨rfl, Below.refl _ _⟩
set_option maxRecDepth 100000 in
set_option maxHeartbeats 1000000 in
theorem tk_16 (w : World) : Calls Tryz.prog 32 #[.string ⟨#[73, 83, 69, 82, 82, 79, 82]⟩] w (TkcP [73, 83, 69, 82, 82, 79, 82] w) := by
  go_enter Tryz.func32, Tryz.ntmps32
  go_wp2_with fail
  go_ret3
  exact ⟨rfl, Below.refl _ _⟩
set_option maxRecDepth 100000 in
set_option maxHeartbeats 1000000 in
theorem tk_17 (w : World) : Calls Tryz.prog 32 #[.string ⟨#[73, 83, 66, 76, 65, 78, 75]⟩] w (TkcP [73, 83, 66, 76, 65, 78, 75] w) := by
  go_enter Tryz.func32, Tryz.ntmps32
  go_wp2_with fail
  go_ret3
  exact ⟨rfl, Below.refl _ _⟩
set_option maxRecDepth 100000 in
set_option maxHeartbeats 1000000 in
theorem tk_18 (w : World) : Calls Tryz.prog 32 #[.string ⟨#[73, 77, 82, 69, 65, 76]⟩] w (TkcP [73, 77, 82, 69, 65, 76] w) := by
  go_enter Tryz.func32, Tryz.ntmps32
  go_wp2_with fail
  go_ret3
  exact ⟨rfl, Below.refl _ _⟩
set_option maxRecDepth 100000 in
set_option maxHeartbeats 1000000 in
theorem tk_19 (w : World) : Calls Tryz.prog 32 #[.string ⟨#[73, 77, 65, 71, 73, 78, 65, 82, 89]⟩] w (TkcP [73, 77, 65, 71, 73, 78, 65, 82, 89] w) := by
  go_enter Tryz.func32, Tryz.ntmps32
  go_wp2_with fail
  go_ret3
  exact ⟨rfl, Below.refl _ _⟩
set_option maxRecDepth 100000 in
set_option maxHeartbeats 1000000 in
theorem tk_20 (w : World) : Calls Tryz.prog 32 #[.string ⟨#[73, 77, 67, 79, 78, 74, 85, 71, 65, 84, 69]⟩] w (TkcP [73, 77, 67, 79, 78, 74, 85, 71, 65, 84, 69] w) := by
  go_enter Tryz.func32, Tryz.ntmps32
  go_wp2_with fail
  go_ret3
  exact ⟨rfl, Below.refl _ _⟩
set_option maxRecDepth 100000 in
set_option maxHeartbeats 1000000 in
theorem tk_21 (w : World) : Calls Tryz.prog 32 #[.string ⟨#[77, 79, 68]⟩] w (TkcP [77, 79, 68] w) := by
  go_enter Tryz.func32, Tryz.ntmps32
  go_wp2_with fail
  go_ret3
  exact ⟨rfl, Below.refl _ _⟩
set_option maxRecDepth 100000 in
set_option maxHeartbeats 1000000 in
theorem tk_22 (w : World) : Calls Tryz.prog 32 #[.string ⟨#[82, 79, 85, 78, 68]⟩] w (TkcP [82, 79, 85, 78, 68] w) := by
  go_enter Tryz.func32, Tryz.ntmps32
  go_wp2_with fail
  go_ret3
  exact ⟨rfl, Below.refl _ _⟩
set_option maxRecDepth 100000 in
set_option maxHeartbeats 1000000 in
theorem tk_23 (w : World) : Calls Tryz.prog 32 #[.string ⟨#[73, 70, 69, 82, 82, 79, 82]⟩] w (TkcP [73, 70, 69, 82, 82, 79, 82] w) := by
  go_enter Tryz.func32, Tryz.ntmps32
  go_wp2_with fail
  go_ret3
  exact ⟨rfl, Below.refl _ _⟩
set_option maxRecDepth 100000 in
set_option maxHeartbeats 1000000 in
theorem tk_24 (w : World) : Calls Tryz.prog 32 #[.string ⟨#[73, 70]⟩] w (TkcP [73, 70] w) := by
  go_enter Tryz.func32, Tryz.ntmps32
  go_wp2_with fail
  go_ret3
  exact ⟨rfl, Below.refl _ _⟩
set_option maxRecDepth 100000 in
set_option maxHeartbeats 4000000 in
theorem tk_no (s : ByteArray) (h0 : (s.toList == [83, 85, 77]) = false) (h1 : (s.toList == [77, 73, 78]) = false) (h2 : (s.toList == [77, 65, 88]) = false) (h3 : (s.toList == [67, 79, 85, 78, 84]) = false) (h4 : (s.toList == [67, 79, 85, 78, 84, 65]) = false) (h5 : (s.toList == [65, 86, 69, 82, 65, 71, 69]) = false) (h6 : (s.toList == [80, 82, 79, 68, 85, 67, 84]) = false) (h7 : (s.toList == [67, 79, 78, 67, 65, 84]) = false) (h8 : (s.toList == [73, 77, 83, 85, 77]) = false) (h9 : (s.toList == [73, 77, 80, 82, 79, 68, 85, 67, 84]) = false) (h10 : (s.toList == [65, 66, 83]) = false) (h11 : (s.toList == [73, 78, 84]) = false) (h12 : (s.toList == [83, 73, 71, 78]) = false) (h13 : (s.toList == [76, 69, 78]) = false) (h14 : (s.toList == [85, 80, 80, 69, 82]) = false) (h15 : (s.toList == [76, 79, 87, 69, 82]) = false) (h16 : (s.toList == [73, 83, 69, 82, 82, 79, 82]) = false) (h17 : (s.toList == [73, 83, 66, 76, 65, 78, 75]) = false) (h18 : (s.toList == [73, 77, 82, 69, 65, 76]) = false) (h19 : (s.toList == [73, 77, 65, 71, 73, 78, 65, 82, 89]) = false) (h20 : (s.toList == [73, 77, 67, 79, 78, 74, 85, 71, 65, 84, 69]) = false) (h21 : (s.toList == [77, 79, 68]) = false) (h22 : (s.toList == [82, 79, 85, 78, 68]) = false) (h23 : (s.toList == [73, 70, 69, 82, 82, 79, 82]) = false) (h24 : (s.toList == [73, 70]) = false) (hn : tkC s.toList = (0, 0, false)) (w : World) : Calls Tryz.prog 32 #[.string s] w (TkcP s.toList w) := by
  have HN := Lib.hid hn
  clear hn
  go_enter Tryz.func32, Tryz.ntmps32
  go_wp2_with fail
  go_ret3
  unfold TkcP
  rw [HN.out]
  exact ⟨rfl, Below.refl _ _⟩
theorem takes_any (s : ByteArray) (w : World) : Calls Tryz.prog 32 #[.string s] w (TkcP s.toList w) := by
  by_cases h0 : s.toList = [83, 85, 77]
  · have e : s = ⟨#[83, 85, 77]⟩ := ba_toList h0
    rw [h0, e]
    exact tk_0 w
  by_cases h1 : s.toList = [77, 73, 78]
  · have e : s = ⟨#[77, 73, 78]⟩ := ba_toList h1
    rw [h1, e]
    exact tk_1 w
  by_cases h2 : s.toList = [77, 65, 88]
  · have e : s = ⟨#[77, 65, 88]⟩ := ba_toList h2
    rw [h2, e]
    exact tk_2 w
  by_cases h3 : s.toList = [67, 79, 85, 78, 84]
  · have e : s = ⟨#[67, 79, 85, 78, 84]⟩ := ba_toList h3
    rw [h3, e]
    exact tk_3 w
  by_cases h4 : s.toList = [67, 79, 85, 78, 84, 65]
  · have e : s = ⟨#[67, 79, 85, 78, 84, 65]⟩ := ba_toList h4
    rw [h4, e]
    exact tk_4 w
  by_cases h5 : s.toList = [65, 86, 69, 82, 65, 71, 69]
  · have e : s = ⟨#[65, 86, 69, 82, 65, 71, 69]⟩ := ba_toList h5
    rw [h5, e]
    exact tk_5 w
  by_cases h6 : s.toList = [80, 82, 79, 68, 85, 67, 84]
  · have e : s = ⟨#[80, 82, 79, 68, 85, 67, 84]⟩ := ba_toList h6
    rw [h6, e]
    exact tk_6 w
  by_cases h7 : s.toList = [67, 79, 78, 67, 65, 84]
  · have e : s = ⟨#[67, 79, 78, 67, 65, 84]⟩ := ba_toList h7
    rw [h7, e]
    exact tk_7 w
  by_cases h8 : s.toList = [73, 77, 83, 85, 77]
  · have e : s = ⟨#[73, 77, 83, 85, 77]⟩ := ba_toList h8
    rw [h8, e]
    exact tk_8 w
  by_cases h9 : s.toList = [73, 77, 80, 82, 79, 68, 85, 67, 84]
  · have e : s = ⟨#[73, 77, 80, 82, 79, 68, 85, 67, 84]⟩ := ba_toList h9
    rw [h9, e]
    exact tk_9 w
  by_cases h10 : s.toList = [65, 66, 83]
  · have e : s = ⟨#[65, 66, 83]⟩ := ba_toList h10
    rw [h10, e]
    exact tk_10 w
  by_cases h11 : s.toList = [73, 78, 84]
  · have e : s = ⟨#[73, 78, 84]⟩ := ba_toList h11
    rw [h11, e]
    exact tk_11 w
  by_cases h12 : s.toList = [83, 73, 71, 78]
  · have e : s = ⟨#[83, 73, 71, 78]⟩ := ba_toList h12
    rw [h12, e]
    exact tk_12 w
  by_cases h13 : s.toList = [76, 69, 78]
  · have e : s = ⟨#[76, 69, 78]⟩ := ba_toList h13
    rw [h13, e]
    exact tk_13 w
  by_cases h14 : s.toList = [85, 80, 80, 69, 82]
  · have e : s = ⟨#[85, 80, 80, 69, 82]⟩ := ba_toList h14
    rw [h14, e]
    exact tk_14 w
  by_cases h15 : s.toList = [76, 79, 87, 69, 82]
  · have e : s = ⟨#[76, 79, 87, 69, 82]⟩ := ba_toList h15
    rw [h15, e]
    exact tk_15 w
  by_cases h16 : s.toList = [73, 83, 69, 82, 82, 79, 82]
  · have e : s = ⟨#[73, 83, 69, 82, 82, 79, 82]⟩ := ba_toList h16
    rw [h16, e]
    exact tk_16 w
  by_cases h17 : s.toList = [73, 83, 66, 76, 65, 78, 75]
  · have e : s = ⟨#[73, 83, 66, 76, 65, 78, 75]⟩ := ba_toList h17
    rw [h17, e]
    exact tk_17 w
  by_cases h18 : s.toList = [73, 77, 82, 69, 65, 76]
  · have e : s = ⟨#[73, 77, 82, 69, 65, 76]⟩ := ba_toList h18
    rw [h18, e]
    exact tk_18 w
  by_cases h19 : s.toList = [73, 77, 65, 71, 73, 78, 65, 82, 89]
  · have e : s = ⟨#[73, 77, 65, 71, 73, 78, 65, 82, 89]⟩ := ba_toList h19
    rw [h19, e]
    exact tk_19 w
  by_cases h20 : s.toList = [73, 77, 67, 79, 78, 74, 85, 71, 65, 84, 69]
  · have e : s = ⟨#[73, 77, 67, 79, 78, 74, 85, 71, 65, 84, 69]⟩ := ba_toList h20
    rw [h20, e]
    exact tk_20 w
  by_cases h21 : s.toList = [77, 79, 68]
  · have e : s = ⟨#[77, 79, 68]⟩ := ba_toList h21
    rw [h21, e]
    exact tk_21 w
  by_cases h22 : s.toList = [82, 79, 85, 78, 68]
  · have e : s = ⟨#[82, 79, 85, 78, 68]⟩ := ba_toList h22
    rw [h22, e]
    exact tk_22 w
  by_cases h23 : s.toList = [73, 70, 69, 82, 82, 79, 82]
  · have e : s = ⟨#[73, 70, 69, 82, 82, 79, 82]⟩ := ba_toList h23
    rw [h23, e]
    exact tk_23 w
  by_cases h24 : s.toList = [73, 70]
  · have e : s = ⟨#[73, 70]⟩ := ba_toList h24
    rw [h24, e]
    exact tk_24 w
  · exact tk_no s (beq_eq_false_iff_ne.2 h0) (beq_eq_false_iff_ne.2 h1) (beq_eq_false_iff_ne.2 h2) (beq_eq_false_iff_ne.2 h3) (beq_eq_false_iff_ne.2 h4) (beq_eq_false_iff_ne.2 h5) (beq_eq_false_iff_ne.2 h6) (beq_eq_false_iff_ne.2 h7) (beq_eq_false_iff_ne.2 h8) (beq_eq_false_iff_ne.2 h9) (beq_eq_false_iff_ne.2 h10) (beq_eq_false_iff_ne.2 h11) (beq_eq_false_iff_ne.2 h12) (beq_eq_false_iff_ne.2 h13) (beq_eq_false_iff_ne.2 h14) (beq_eq_false_iff_ne.2 h15) (beq_eq_false_iff_ne.2 h16) (beq_eq_false_iff_ne.2 h17) (beq_eq_false_iff_ne.2 h18) (beq_eq_false_iff_ne.2 h19) (beq_eq_false_iff_ne.2 h20) (beq_eq_false_iff_ne.2 h21) (beq_eq_false_iff_ne.2 h22) (beq_eq_false_iff_ne.2 h23) (beq_eq_false_iff_ne.2 h24) (by unfold tkC fn0 fn1 fn2 fn3; simp only [List.mem_cons, List.not_mem_nil, or_false, h0, h1, h2, h3, h4, h5, h6, h7, h8, h9, h10, h11, h12, h13, h14, h15, h16, h17, h18, h19, h20, h21, h22, h23, h24, if_false]) w
end Go.Proofs.YtilajcibjlcffaaGreatDoor
