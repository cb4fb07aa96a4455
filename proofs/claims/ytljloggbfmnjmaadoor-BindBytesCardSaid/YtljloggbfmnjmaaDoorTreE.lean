/- Trees: which trees may be: the program's right, Right. -/
import Derived.Test.YtljloggbfmnjmaaDoorTreD
import Derived.Test.YtljloggbfmnjmaaDoorTnB
set_option linter.unusedSimpArgs false
set_option linter.unusedVariables false

namespace Go.Proofs.YtljloggbfmnjmaaDoor
open Go.RowKit Go.Joins

def tagB (n : Nd) : Bool := if n.kind = 1 then decide (0 ≤ n.num) else if n.kind = 6 then decide (lvS n.text ≠ 0) else if n.kind = 7 then nameB n.text else true
/-- May a node be, its parts aside? -/
def headB (n : Nd) (lv : Int) : Bool := decide (1 ≤ lv) && (decide (1 ≤ n.kind) && (decide (n.kind ≤ 8) && arB n.kind n.args.length))
mutual
def rtN : Nd → Int → Bool
  | .mk k u t f o a, lv => (headB (.mk k u t f o a) lv && tagB (.mk k u t f o a)) && rtL a (lv - 1)
def rtL : List Nd → Int → Bool
  | [], _ => true
  | c :: r, lv => rtN c lv && rtL r lv
end
theorem rtN_eq (n : Nd) (lv : Int) : rtN n lv = ((headB n lv && tagB n) && rtL n.args (lv - 1)) := by cases n; rw [rtN]; rfl
theorem rtL_at {a : List Nd} {i : Nat} {c : Nd} {lv : Int} (h : a[i]? = some c) : rtL (a.drop i) lv = (rtN c lv && rtL (a.drop (i + 1)) lv) := by
  obtain ⟨hi, e⟩ := List.getElem?_eq_some_iff.1 h
  rw [List.drop_eq_getElem_cons hi, rtL, e]

end Go.Proofs.YtljloggbfmnjmaaDoor
