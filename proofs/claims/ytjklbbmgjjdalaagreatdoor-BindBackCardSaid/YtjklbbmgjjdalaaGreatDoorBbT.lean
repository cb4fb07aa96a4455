/- Trees: the document's Quote and holds. Printed by gen_trexc.py. Trees: the law's 'named'. Printed by gen_trexf.py. -/
import Derived.Test.YtjklbbmgjjdalaaGreatDoorBbJ
import Derived.Lib.Replace
import Derived.Lib.ReplaceLaws
import Derived.Test.YtjklbbmgjjdalaaGreatDoorBbI
import Derived.Deep.CutBlock
import Derived.Test.YtjklbbmgjjdalaaGreatDoorBbF
set_option linter.unusedSimpArgs false
set_option linter.unusedVariables false
namespace Go.Proofs.YtjklbbmgjjdalaaGreatDoor
open Go.RowKit Go.Joins
def nx (L : List UInt8) (i : Nat) : Nat := (L.getD i 0).toNat
theorem nx_get {L : List UInt8} {i : Nat} (h : i < L.length) : nx L i = L[i].toNat := by simp [nx, List.getD, h]
theorem nx_str (s : ByteArray) (i : Nat) (h : i < s.size) : ((s[i].toNat : Nat) : Int) = (nx s.data.toList i : Int) := by
  have hl : i < s.data.toList.length := by rw [← Lib.size_eq]; exact h
  rw [nx_get hl]
  simp [ByteArray.getElem_eq_getElem_data]
theorem u8_eta (c : UInt8) : UInt8.ofNat c.toNat = c := by simp
theorem ext_one (s : ByteArray) (j : Nat) (h : j < s.size) : s.extract j (j + 1) = ⟨[UInt8.ofNat (nx s.data.toList j)].toArray⟩ := by
  have hl : j < s.data.toList.length := by rw [← Lib.size_eq]; exact h
  rw [nx_get hl, u8_eta]
  apply ByteArray.ext
  apply Array.ext'
  rw [ByteArray.data_extract, Array.toList_extract, List.extract_eq_take_drop, List.drop_eq_getElem_cons hl, show j + 1 - j = 1 by omega]
  rfl
theorem size_of (X : List UInt8) : (⟨X.toArray⟩ : ByteArray).size = X.length := by rw [Lib.size_eq]
end Go.Proofs.YtjklbbmgjjdalaaGreatDoor
namespace Go.Proofs.YtjklbbmgjjdalaaGreatDoor
open Go.RowKit Go.Joins
theorem info_rn : (Tryz.prog.info? tRn).map (fun i => (i.zero, i.size, i.bytes)) = some (some (.agg #[.int .i64 0, .int .i64 0, .string ⟨#[]⟩, .int .i64 0, .int .i64 0, .slice none 0 0]), 6, 72) := by kernel_rfl
theorem newRn (w : World) (c : Nd) (p2 : Option Addr) (l' c2 : Nat) : ∀ j u, (ndC c p2 l' c2)[j]? = some u → (w.alloc (.cells (ndA c p2 l' c2) tRn)).cell? ((⟨w.heap.size, 0, none⟩ : Addr).add j) = some u := by
  intro j u hj
  have hb : NdB tRn (w.alloc (.cells (ndA c p2 l' c2) tRn)) w.heap.size c p2 l' c2 := heap_alloc_new w _
  obtain ⟨c0, c1, c2', c3, c4, c5⟩ := hb.cells
  have hj6 : j < 6 := (List.getElem?_eq_some_iff.1 hj).1
  simp only [Addr.add, Nat.zero_add]
  match j, hj6, hj with
  | 0, _, hj => cases hj; exact c0
  | 1, _, hj => cases hj; exact c1
  | 2, _, hj => cases hj; exact c2'
  | 3, _, hj => cases hj; exact c3
  | 4, _, hj => cases hj; exact c4
  | 5, _, hj => cases hj; exact c5
end Go.Proofs.YtjklbbmgjjdalaaGreatDoor
