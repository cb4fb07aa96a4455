/- Trees: write at any tree. Trees: write at numbers and texts. Printed by gen_trev.py. Trees: write at numbers and names. Printed by gen_trex.py. -/
import Derived.Test.YtigmcoelkkihkaaGreatDoorPmS
set_option linter.unusedSimpArgs false
set_option linter.unusedVariables false
namespace Go.Proofs.YtigmcoelkkihkaaGreatDoor
open Go.RowKit Go.Joins

end Go.Proofs.YtigmcoelkkihkaaGreatDoor
namespace Go.Proofs.YtigmcoelkkihkaaGreatDoor
open Go.RowKit Go.Joins

end Go.Proofs.YtigmcoelkkihkaaGreatDoor
namespace Go.Proofs.YtigmcoelkkihkaaGreatDoor
open Go.RowKit Go.Joins

theorem txt_lenT (d : Int) (hlo : -9223372036854775808 ≤ d) (hhi : d ≤ 9223372036854775807) : (txt d).length ≤ 300 := by
  have hq : d.natAbs / 1000000 ≤ 9223372036854775808 := Nat.le_trans (Nat.div_le_self _ _) (by omega)
  have hr : d.natAbs % 1000000 < 1000000 := Nat.mod_lt _ (by omega)
  have h1 := dgText_len (d.natAbs / 1000000) 1 (by omega) (by omega)
  have h2 := dgText_len (d.natAbs % 1000000) 6 (by omega) (by omega)
  have h3 := trimRightB_len (dgText (d.natAbs % 1000000) 6) 48
  unfold txt
  simp only [List.length_append]
  have h4 : (if d < 0 then [(45 : UInt8)] else []).length ≤ 1 := by split <;> simp
  have h5 : (if 0 < d.natAbs % 1000000 then (46 : UInt8) :: Lib.trimRightB (dgText (d.natAbs % 1000000) 6) 48 else []).length ≤ 121 := by
    split
    · simp; omega
    · simp
  omega

end Go.Proofs.YtigmcoelkkihkaaGreatDoor
