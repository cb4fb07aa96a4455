/- strings.ContainsAny of csv's four signs, at every string; does a text need quotes? -/
import Derived.Test.YthgeajmggbakbaaDoorCsvC
import Derived.Lib.IndexAny
import Derived.Lib.FieldsU
import Derived.Lib.SpaceUEq
import Derived.Deep.LoopGhost
set_option linter.unusedSimpArgs false
set_option linter.unusedVariables false
namespace Go.Proofs.YthgeajmggbakbaaDoor
open Go.RowKit

def isQ (c : Nat) : Bool := decide (c = 44) || decide (c = 34) || decide (c = 13) || decide (c = 10)
theorem isQ_u8 (c : UInt8) : (c == 44 || c == 34 || c == 13 || c == 10) = isQ c.toNat := by
  unfold isQ
  rw [Bool.eq_iff_iff]
  simp [← UInt8.toNat_inj]
theorem hasQ_any (L : Bs) : hasQ L = L.any fun c => isQ c.toNat := by
  unfold hasQ
  congr 1
  funext c
  exact isQ_u8 c
theorem csR_pos (r : Nat) : decide (0 ≤ csR (r : Int)) = isQ r := by
  unfold csR isQ
  by_cases h1 : r = 44
  · subst h1; rfl
  · by_cases h2 : r = 34
    · subst h2; rfl
    · by_cases h3 : r = 13
      · subst h3; rfl
      · by_cases h4 : r = 10
        · subst h4; rfl
        · have e1 : ¬ (r : Int) = 44 := by omega
          have e2 : ¬ (r : Int) = 34 := by omega
          have e3 : ¬ (r : Int) = 13 := by omega
          have e4 : ¬ (r : Int) = 10 := by omega
          simp [h1, h2, h3, h4, e1, e2, e3, e4]
theorem isQ_high {c : Nat} (h : 128 ≤ c) : isQ c = false := by
  unfold isQ
  simp
  omega
theorem indexAny_cs (L : Bs) : decide (0 ≤ Lib.indexAny L [44, 34, 13, 10]) = hasQ L := by
  induction L with
  | nil => rfl
  | cons b L ih =>
    have hge := Lib.indexAny_ge [44, 34, 13, 10] L
    unfold Lib.indexAny
    rw [hasQ, List.any_cons, ← hasQ, ← ih]
    by_cases h : ([44, 34, 13, 10] : List UInt8).contains b = true
    · rw [if_pos h]
      have : (b == 44 || b == 34 || b == 13 || b == 10) = true := by simpa [or_assoc] using h
      rw [this]
      rfl
    · rw [if_neg h]
      have : (b == 44 || b == 34 || b == 13 || b == 10) = false := by
        cases hb : (b == 44 || b == 34 || b == 13 || b == 10)
        · rfl
        · exact absurd (by simpa [or_assoc] using hb) h
      rw [this, Bool.false_or]
      by_cases h2 : Lib.indexAny L [44, 34, 13, 10] = -1
      · rw [h2]; rfl
      · rw [if_neg (by simpa using h2), Bool.eq_iff_iff]
        simp
        omega

/-- A string's iterator, wherever it lies. -/
def putIter (w : World) (b : Nat) (s : ByteArray) (pos : Nat) : World := { w with heap := w.heap.setIfInBounds b (.stringIter s pos) }
theorem putIter_at {w : World} {b : Nat} {s : ByteArray} {p pos : Nat} (h : w.heap[b]? = some (.stringIter s p)) : (putIter w b s pos).heap[b]? = some (.stringIter s pos) := by
  have hb : b < w.heap.size := by
    rcases Nat.lt_or_ge b w.heap.size with h' | h'
    · exact h'
    · rw [Array.getElem?_eq_none h'] at h; cases h
  unfold putIter
  simp [hb]
theorem putIter_below {w0 w : World} {b : Nat} {s : ByteArray} {pos B : Nat} (h : Below B w0 w) (hb : B ≤ b) : Below B w0 (putIter w b s pos) :=
  ⟨h.os, h.tape, h.output, by unfold putIter; simpa using h.size, fun k hk => by
    unfold putIter
    rw [Array.getElem?_setIfInBounds, if_neg (by omega)]
    exact h.block k hk⟩
theorem next_at {P : Program} (w : World) (b : Nat) (s : ByteArray) (pos : Nat) (hb : w.heap[b]? = some (.stringIter s pos)) (h : pos < s.size) (ty : TypeId) :
    (Instr.next (.pointer (some ⟨b, 0, none⟩)) true ty).run P w = .ok (.tuple #[.bool true, .int .i64 pos, .int .i32 (Utf8.decode s pos).1]) (putIter w b s (pos + (Utf8.decode s pos).2)) := by
  simp only [Instr.next, getObj, setObj, Sem.run_bind, Sem.run, hb, Result.andThen, h, if_true]
  simp [goInt, putIter]
theorem next_end {P : Program} (w : World) (b : Nat) (s : ByteArray) (pos : Nat) (hb : w.heap[b]? = some (.stringIter s pos)) (h : ¬ pos < s.size) (ty : TypeId) :
    (Instr.next (.pointer (some ⟨b, 0, none⟩)) true ty).run P w = .ok (.tuple #[.bool false]) w := by
  simp [Instr.next, getObj, Sem.run, hb, h]
/-- A rune's bytes: one below 128, or all from 128 on. -/
theorem rune_bytes (s : ByteArray) (pos : Nat) (h : pos < s.size) :
    1 ≤ (Utf8.decode s pos).2 ∧ pos + (Utf8.decode s pos).2 ≤ s.size ∧ (Utf8.decode s pos).1 ≤ 2147483647 ∧
    (((s[pos]'h).toNat < 128 ∧ (Utf8.decode s pos).1 = (s[pos]'h).toNat ∧ (Utf8.decode s pos).2 = 1) ∨ (128 ≤ (Utf8.decode s pos).1 ∧ ∀ j (hj : j < s.size), pos ≤ j → j < pos + (Utf8.decode s pos).2 → 128 ≤ (s[j]'hj).toNat)) := by
  by_cases ha : (s[pos]'h).toNat < 128
  · rw [decode_ascii s pos h ha]
    exact ⟨Nat.le_refl _, by show pos + 1 ≤ _; omega, by show (s[pos]'h).toNat ≤ _; omega, .inl ⟨ha, rfl, rfl⟩⟩
  · obtain ⟨h1, h2⟩ := decode_high s pos h (by omega)
    have hg : ∀ k (hk : pos + k < s.size), (s.get! (pos + k)).toNat = (s[pos + k]'hk).toNat := fun k hk => by
      rw [show s.get! (pos + k) = s[pos + k]'hk from by simp [ByteArray.get!, getElem!_pos, hk]; rfl]
    have hc := Lib.decodeN_conts (s.size - pos) (s.get! pos).toNat (s.get! (pos + 1)).toNat (s.get! (pos + 2)).toNat (s.get! (pos + 3)).toNat
    rw [← Lib.decode_at] at hc
    obtain ⟨c2, c3, c4, c5⟩ := hc
    obtain ⟨n, hn⟩ : ∃ n, (Utf8.decode s pos).2 = n := ⟨_, rfl⟩
    rw [hn] at h2 c2 c3 c4 c5 ⊢
    refine ⟨h2, by omega, decode_le s pos, .inr ⟨h1, fun j hj hp hlt => ?_⟩⟩
    obtain rfl | rfl | rfl | rfl : j = pos ∨ j = pos + 1 ∨ j = pos + 2 ∨ j = pos + 3 := by omega
    · omega
    · have := hg 1 hj; have := c2 (by omega); omega
    · have := hg 2 hj; have := c3 (by omega); omega
    · have := hg 3 hj; have := c4 (by omega); omega
end Go.Proofs.YthgeajmggbakbaaDoor
