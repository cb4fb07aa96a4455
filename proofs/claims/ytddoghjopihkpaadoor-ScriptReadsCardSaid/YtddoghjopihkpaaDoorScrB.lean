/- Script: small functions: Decimal, packets, asks, word. -/
import Derived.Test.YtddoghjopihkpaaDoorScrA
set_option linter.unusedSimpArgs false
set_option linter.unusedVariables false
namespace Go.Proofs.YtddoghjopihkpaaDoor
open Go.RowKit

abbrev Bs := List UInt8
set_option maxRecDepth 100000 in
set_option maxHeartbeats 1000000 in
theorem decN_any (n : Nat) (h : n ≤ 10000000) (w : World) : Calls Tryd.prog 15 #[.int .i64 n] w fun e w' => e = .returned (.string ⟨(dcL n).toArray⟩) ∧ Below w.heap.size w w' := by
  have HD := Lib.hid (fun W => decimal_any n (by omega) W)
  have h1 : IntKind.u64.wrap (n : Int) = (n : Int) := IntWalk.u64_in _ (by omega)
  have h0 : ¬ (n : Int) < 0 := by omega
  generalize dcL n = D at HD ⊢
  go_enter Tryd.func15, Tryd.ntmps15
  go_wp2_with fail
  refine (HD.out _).mono ?_
  rintro e w1 ⟨rfl, hb⟩
  go_wp2_with fail
  go_ret
  exact ⟨rfl, hb⟩
abbrev wDeliver : Bs := [100, 101, 108, 105, 118, 101, 114]
abbrev wDrop : Bs := [100, 114, 111, 112]
abbrev wTwice : Bs := [116, 119, 105, 99, 101]
abbrev wView : Bs := [118, 105, 101, 119]
abbrev wKnown : Bs := [107, 110, 111, 119, 110]
abbrev wCounts : Bs := [99, 111, 117, 110, 116, 115]
abbrev wSet : Bs := [115, 101, 116]
abbrev wInsert : Bs := [105, 110, 115, 101, 114, 116]
abbrev wDelete : Bs := [100, 101, 108, 101, 116, 101]
abbrev wSweep : Bs := [115, 119, 101, 101, 112]
abbrev wDigest : Bs := [100, 105, 103, 101, 115, 116]
abbrev wAck : Bs := [97, 99, 107]
abbrev wPull : Bs := [112, 117, 108, 108]
abbrev wSettle : Bs := [115, 101, 116, 116, 108, 101]
abbrev wNet : Bs := [110, 101, 116]
abbrev wSpoil : Bs := [115, 112, 111, 105, 108]
abbrev wCell : Bs := [99, 101, 108, 108]
abbrev wTyped : Bs := [116, 121, 112, 101, 100]
abbrev wRow : Bs := [114, 111, 119]
abbrev wCol : Bs := [99, 111, 108]
theorem seq_no (L C : Bs) (h : L ≠ C) : ((⟨L.toArray⟩ : ByteArray).toList == C) = false := by
  rw [Lib.toList_data]
  simpa using h
def pkN (L : Bs) : Int := if L = wDeliver then 3 else if L = wDrop then 4 else if L = wTwice then 5 else -1
set_option maxRecDepth 100000 in
set_option maxHeartbeats 1000000 in
theorem pkN_any (L : Bs) (w : World) : Calls Tryd.prog 33 #[.string ⟨L.toArray⟩] w fun e w' => e = .returned (.int .i64 (pkN L)) ∧ w = w' := by
  unfold pkN
  by_cases h0 : L = wDeliver
  · subst h0
    go_enter Tryd.func33, Tryd.ntmps33
    go_wp2_with fail
    go_ret
    exact ⟨rfl, rfl⟩
  · rw [if_neg h0]
    have e0 : ((⟨L.toArray⟩ : ByteArray).toList == [100, 101, 108, 105, 118, 101, 114]) = false := seq_no L _ h0
    by_cases h1 : L = wDrop
    · subst h1
      go_enter Tryd.func33, Tryd.ntmps33
      go_wp2_with fail
      go_ret
      exact ⟨rfl, rfl⟩
    · rw [if_neg h1]
      have e1 : ((⟨L.toArray⟩ : ByteArray).toList == [100, 114, 111, 112]) = false := seq_no L _ h1
      by_cases h2 : L = wTwice
      · subst h2
        go_enter Tryd.func33, Tryd.ntmps33
        go_wp2_with fail
        go_ret
        exact ⟨rfl, rfl⟩
      · rw [if_neg h2]
        have e2 : ((⟨L.toArray⟩ : ByteArray).toList == [116, 119, 105, 99, 101]) = false := seq_no L _ h2
        generalize (⟨L.toArray⟩ : ByteArray) = X at e0 e1 e2 ⊢
        clear h0 h1 h2
        go_enter Tryd.func33, Tryd.ntmps33
        go_wp2_with fail
        go_ret
        exact ⟨rfl, rfl⟩
def askN (L : Bs) : Int := if L = wView then 4 else if L = wKnown then 7 else if L = wCounts then 8 else 0
set_option maxRecDepth 100000 in
set_option maxHeartbeats 1000000 in
theorem askN_any (L : Bs) (w : World) : Calls Tryd.prog 34 #[.string ⟨L.toArray⟩] w fun e w' => e = .returned (.int .i64 (askN L)) ∧ w = w' := by
  unfold askN
  by_cases h0 : L = wView
  · subst h0
    go_enter Tryd.func34, Tryd.ntmps34
    go_wp2_with fail
    go_ret
    exact ⟨rfl, rfl⟩
  · rw [if_neg h0]
    have e0 : ((⟨L.toArray⟩ : ByteArray).toList == [118, 105, 101, 119]) = false := seq_no L _ h0
    by_cases h1 : L = wKnown
    · subst h1
      go_enter Tryd.func34, Tryd.ntmps34
      go_wp2_with fail
      go_ret
      exact ⟨rfl, rfl⟩
    · rw [if_neg h1]
      have e1 : ((⟨L.toArray⟩ : ByteArray).toList == [107, 110, 111, 119, 110]) = false := seq_no L _ h1
      by_cases h2 : L = wCounts
      · subst h2
        go_enter Tryd.func34, Tryd.ntmps34
        go_wp2_with fail
        go_ret
        exact ⟨rfl, rfl⟩
      · rw [if_neg h2]
        have e2 : ((⟨L.toArray⟩ : ByteArray).toList == [99, 111, 117, 110, 116, 115]) = false := seq_no L _ h2
        generalize (⟨L.toArray⟩ : ByteArray) = X at e0 e1 e2 ⊢
        clear h0 h1 h2
        go_enter Tryd.func34, Tryd.ntmps34
        go_wp2_with fail
        go_ret
        exact ⟨rfl, rfl⟩

/-- A line's first word, and what stands behind the blank. -/
def wd : Bs → Bs
  | [] => []
  | c :: r => if c = 32 then [] else c :: wd r
def rs : Bs → Bs
  | [] => []
  | c :: r => if c = 32 then r else rs r
theorem ix_miss (b : UInt8) (hb : b ≠ 32) (l : Bs) : Lib.index (b :: l) [32] = if Lib.index l [32] == -1 then -1 else Lib.index l [32] + 1 := by
  conv => lhs; unfold Lib.index
  rw [if_neg]
  simp [List.isPrefixOf, hb.symm]
theorem cut_law (L : Bs) : (Lib.cut L [32]).1 = wd L ∧ (Lib.cut L [32]).2.1 = rs L := by
  induction L with
  | nil => exact ⟨rfl, rfl⟩
  | cons c r ih =>
    by_cases hc : c = 32
    · subst hc
      have hi : Lib.index (32 :: r) [32] = 0 := by unfold Lib.index; simp [List.isPrefixOf]
      unfold Lib.cut wd rs
      rw [hi]
      simp
    · have hi := ix_miss c hc r
      have hge := Lib.index_ge r [32]
      unfold Lib.cut at ih ⊢
      rw [wd, rs, if_neg hc, if_neg hc]
      by_cases hm : Lib.index r [32] = -1
      · rw [hm] at hi ih
        rw [hi]
        simp only [BEq.rfl, ↓reduceIte] at ih ⊢
        exact ⟨by rw [← ih.1]; rfl, by rw [← ih.2]; rfl⟩
      · rw [if_neg (by simpa using hm)] at hi
        rw [hi, if_pos (by omega)]
        rw [if_pos (by omega)] at ih
        rw [show (Lib.index r [32] + 1).toNat = (Lib.index r [32]).toNat + 1 by omega]
        refine ⟨?_, ?_⟩
        · rw [← ih.1]; rfl
        · rw [← ih.2]
          show List.drop ((Lib.index r [32]).toNat + 1 + 1) (c :: r) = List.drop ((Lib.index r [32]).toNat + 1) r
          rfl
theorem wd_len (L : Bs) : (wd L).length ≤ L.length := by
  induction L with
  | nil => exact Nat.le_refl _
  | cons c r ih => unfold wd; split <;> simp <;> omega
theorem rs_len (L : Bs) : (rs L).length ≤ L.length := by
  induction L with
  | nil => exact Nat.le_refl _
  | cons c r ih => unfold rs; split <;> simp <;> omega
theorem sizeL (l : Bs) : (⟨l.toArray⟩ : ByteArray).size = l.length := by rw [Lib.size_eq]
theorem cut_any (L : Bs) (hL : L.length ≤ 100000) (w : World) (hsh : w.ShapedOpen Tryd.prog) : Calls Tryd.prog 30 #[.string ⟨L.toArray⟩, .string ⟨#[32]⟩] w fun e w' => (∃ b, e = .returned (.tuple #[.string ⟨(wd L).toArray⟩, .string ⟨(rs L).toArray⟩, .bool b])) ∧ Below w.heap.size w w' := by
  refine (Tryd.strings_Cut_shaped ⟨L.toArray⟩ ⟨#[32]⟩ w hsh (by rw [sizeL]; omega)).mono fun e w' h => ?_
  obtain ⟨h1, n, rfl⟩ := h
  have hc := cut_law L
  rw [show (⟨#[32]⟩ : ByteArray).data.toList = [32] from rfl, show (⟨L.toArray⟩ : ByteArray).data.toList = L from rfl, hc.1, hc.2] at h1
  exact ⟨⟨_, h1⟩, bel_drewN (Below.refl _ _) n⟩
set_option maxRecDepth 100000 in
set_option maxHeartbeats 1000000 in
theorem word_any (L : Bs) (hL : L.length ≤ 100000) (w : World) (hsh : w.ShapedOpen Tryd.prog) : Calls Tryd.prog 21 #[.string ⟨L.toArray⟩] w fun e w' => e = .returned (.tuple #[.string ⟨(wd L).toArray⟩, .string ⟨(rs L).toArray⟩]) ∧ Below w.heap.size w w' := by
  have HC := Lib.hid (cut_any L hL w hsh)
  go_enter Tryd.func21, Tryd.ntmps21
  go_wp2_with fail
  refine HC.out.mono ?_
  rintro e w1 ⟨⟨b, rfl⟩, hb⟩
  go_wp2_with fail
  go_ret2
  exact ⟨rfl, hb⟩
theorem shaped_bel {P : Program} {w w' : World} (h : w.ShapedOpen P) (hb : Below w.heap.size w w') : w'.ShapedOpen P := h.keptBut (hb.frame (fun _ => False)) (fun _ h => h.elim)
end Go.Proofs.YtddoghjopihkpaaDoor
