/- Conditions: the document's Is: patterns that are ordered. -/
import Derived.Test.YtpggidkcifnhjaaDoorMatN
set_option linter.unusedSimpArgs false
set_option linter.unusedVariables false

namespace Go.Proofs.YtpggidkcifnhjaaDoor
open Go.RowKit

def rplC (x : Sg) : Nat := if x.1 = 1 then 63 else if x.1 = 2 then 42 else x.2
def rplL (L : List Sg) : List UInt8 := L.map fun x => UInt8.ofNat (rplC x)
theorem rplL_low (L : List Sg) : rplL (L.map low) = plL L := by
  unfold rplL plL
  rw [List.map_map]
  rfl
theorem cat_one (X : List UInt8) (c : UInt8) : (⟨X.toArray⟩ : ByteArray) ++ ⟨#[c]⟩ = ⟨(X ++ [c]).toArray⟩ := by
  apply ByteArray.ext
  simp
theorem one_conv (c b : Nat) (W : World) (h : W.cell? ⟨b, 0, none⟩ = some (.int .u8 (c : Int))) : (convert 77 9 (.slice (some ⟨b, 0, none⟩) 1 1)).run Tryd.prog W = .ok (.string ⟨#[UInt8.ofNat c]⟩) W := by
  have hcv := run_convert_bytes_arg (P := Tryd.prog) W 77 5 Tryd.underlying77 Tryd.underlying5 b 0 1 1 [(c : Int)] rfl (fun i hi => by
    obtain rfl : i = 0 := by omega
    exact h) 9 Tryd.underlying9
  rw [show strOfNums [(c : Int)] = ⟨#[UInt8.ofNat c]⟩ from by unfold strOfNums; simp] at hcv
  exact hcv

end Go.Proofs.YtpggidkcifnhjaaDoor
