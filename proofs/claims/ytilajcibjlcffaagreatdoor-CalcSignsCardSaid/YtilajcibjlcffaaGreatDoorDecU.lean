/- The law DecTexts: the walk. -/
import Derived.Test.YtilajcibjlcffaaGreatDoorDecT
import Derived.Test.YtilajcibjlcffaaGreatDoorDecR
import Derived.Test.YtilajcibjlcffaaGreatDoorDecF
set_option linter.unusedSimpArgs false
set_option linter.unusedVariables false

namespace Go.Proofs.YtilajcibjlcffaaGreatDoor
open Go.RowKit

theorem txt_len (d : Int) (hlo : -9223372036854775808 ≤ d) (hhi : d ≤ 9223372036854775807) : (txt d).length ≤ 300 := by
  have hq : d.natAbs / 1000000 ≤ 9223372036854775808 := Nat.le_trans (Nat.div_le_self _ _) (by omega)
  have hr : d.natAbs % 1000000 < 1000000 := Nat.mod_lt _ (by omega)
  have h1 := dgText_len (d.natAbs / 1000000) 1 (by omega) (by omega)
  have h2 := dgText_len (d.natAbs % 1000000) 6 (by omega) (by omega)
  have h3 := trimRightB_len (dgText (d.natAbs % 1000000) 6) 48
  unfold txt
  simp only [List.length_append]
  have h4 : (if d < 0 then [(45 : UInt8)] else []).length ≤ 1 := by split <;> simp
  have h5 : (if 0 < d.natAbs % 1000000 then (46 : UInt8) :: Lib.trimRightB (dgText (d.natAbs % 1000000) 6) 48 else []).length ≤ 121 := by
    split
    · simp; omega
    · simp
  omega

theorem refParse_as (s : ByteArray) (hs : s.size ≤ 900) (w : World) :
    Calls Tryz.prog 55 #[.string s] w fun e w' => e = .returned (.tuple #[.int .i64 (prsV s.data.toList), .bool (prsOk s.data.toList)]) ∧ Below w.heap.size w w' := by
  have h := refParse_any s hs w
  rw [prs_v, prs_ok] at h
  exact h
theorem parse_txt (d : Int) (hlo : -9223372036854775808 ≤ d) (hhi : d ≤ 9223372036854775807) (T : List UInt8) (hT : txt d = T) (w : World) (hsh : w.ShapedOpen Tryz.prog) :
    Calls Tryz.prog 45 #[.string ⟨T.toArray⟩] w fun e w' => e = .returned (.tuple #[.int .i64 d, .bool true]) ∧ Below w.heap.size w w' := by
  have hl := txt_len d hlo hhi
  have h := parse_any ⟨T.toArray⟩ (by rw [Lib.size_eq]; simp; rw [← hT]; omega) w hsh
  have e : (⟨T.toArray⟩ : ByteArray).data.toList = txt d := by simp [hT]
  rw [e, (txt_prs d hlo hhi).1, (txt_prs d hlo hhi).2] at h
  exact h

end Go.Proofs.YtilajcibjlcffaaGreatDoor
