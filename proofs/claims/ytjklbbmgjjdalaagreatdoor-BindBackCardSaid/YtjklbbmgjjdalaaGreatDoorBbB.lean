/- Trees: formulas over numbers, as plain trees and as they lie in memory. Trees: the signs of a level, the level of a sign. Trees: the document's Level; names of functions. Trees: Depth, and the document's Depth and Size. Trees: which trees may be: the program's right, Right. -/
import Derived.Test.YtjklbbmgjjdalaaGreatDoorBbA
import Derived.Laws.BytesArg
import Derived.Deep.DeepCutAuto
import Derived.Deep.LoopGhost
import Derived.Lib.Hide
import Derived.Test.YtjklbbmgjjdalaaGreatDoorBbC
import Derived.Lib.SmallJoins
set_option linter.unusedSimpArgs false
set_option linter.unusedVariables false
namespace Go.Proofs.YtjklbbmgjjdalaaGreatDoor
open Go.RowKit
abbrev Bs := List UInt8
inductive Nd where
  | mk (kind num : Int) (text : Bs) (frm tor : Int) (args : List Nd)
def Nd.kind : Nd → Int | .mk k _ _ _ _ _ => k
def Nd.num : Nd → Int | .mk _ m _ _ _ _ => m
def Nd.text : Nd → Bs | .mk _ _ t _ _ _ => t
def Nd.frm : Nd → Int | .mk _ _ _ f _ _ => f
def Nd.tor : Nd → Int | .mk _ _ _ _ o _ => o
def Nd.args : Nd → List Nd | .mk _ _ _ _ _ a => a
mutual
def szN : Nd → Int → Int
  | .mk _ _ _ _ _ a, most => szL a 1 most
def szL : List Nd → Int → Int → Int
  | [], k, _ => k
  | c :: r, k, most => if k ≤ most then szL r (k + szN c (most - k)) most else k
end
mutual
def dpN : Nd → Nat
  | .mk _ _ _ _ _ a => dpL a 0 + 1
def dpL : List Nd → Nat → Nat
  | [], d => d
  | c :: r, d => dpL r (max d (dpN c))
end
theorem szN_eq (n : Nd) (m : Int) : szN n m = szL n.args 1 m := by cases n; rw [szN]; rfl
theorem dpN_eq (n : Nd) : dpN n = dpL n.args 0 + 1 := by cases n; rw [dpN]; rfl
def ndC (n : Nd) (p : Option Addr) (len cap : Nat) : List Value := [.int .i64 n.kind, .int .i64 n.num, .string ⟨n.text.toArray⟩, .int .i64 n.frm, .int .i64 n.tor, .slice p len cap]
def RdT (w : World) (N : Nat) : Nat → Nd → Option Addr → Nat → Prop
  | 0, n, p, len => n.args = [] ∧ len = 0
  | d + 1, n, p, len => n.args.length = len ∧ (len = 0 ∨ ∃ b off, p = some ⟨b, off, none⟩ ∧ b < N ∧ ∀ j c, n.args[j]? = some c → ∃ p' l' c', (∀ k u, (ndC c p' l' c')[k]? = some u → w.cell? ⟨b, off + j * 6 + k, none⟩ = some u) ∧ RdT w N d c p' l')
theorem RdT.below {w w' : World} {N : Nat} (hb : Below N w w') : ∀ {d : Nat} {n : Nd} {p : Option Addr} {len : Nat}, RdT w N d n p len → RdT w' N d n p len
  | 0, _, _, _, h => h
  | d + 1, n, p, len, h => by
    obtain ⟨h1, h2⟩ := h
    refine ⟨h1, ?_⟩
    rcases h2 with h2 | ⟨b, off, h3, h4, h5⟩
    · exact .inl h2
    · refine .inr ⟨b, off, h3, h4, fun j c hc => ?_⟩
      obtain ⟨p', l', c', h6, h7⟩ := h5 j c hc
      exact ⟨p', l', c', fun k u hu => (hb.cell (p := ⟨b, off + j * 6 + k, none⟩) h4).trans (h6 k u hu), RdT.below hb h7⟩
theorem RdT.mono {w : World} {N N' : Nat} (hN : N ≤ N') : ∀ {d : Nat} {n : Nd} {p : Option Addr} {len : Nat}, RdT w N d n p len → RdT w N' d n p len
  | 0, _, _, _, h => h
  | d + 1, n, p, len, h => by
    obtain ⟨h1, h2⟩ := h
    refine ⟨h1, ?_⟩
    rcases h2 with h2 | ⟨b, off, h3, h4, h5⟩
    · exact .inl h2
    · refine .inr ⟨b, off, h3, Nat.lt_of_lt_of_le h4 hN, fun j c hc => ?_⟩
      obtain ⟨p', l', c', h6, h7⟩ := h5 j c hc
      exact ⟨p', l', c', h6, RdT.mono hN h7⟩
theorem RdT.len {w : World} {N d : Nat} {n : Nd} {p : Option Addr} {len : Nat} (h : RdT w N d n p len) : n.args.length = len := by
  cases d with
  | zero => rw [h.1, h.2]; rfl
  | succ d => exact h.1
theorem RdT.at {w : World} {N d : Nat} {n : Nd} {p : Option Addr} {len : Nat} (h : RdT w N d n p len) {j : Nat} (hj : j < len) : ∃ d' b off c p' l' c', d = d' + 1 ∧ p = some ⟨b, off, none⟩ ∧ b < N ∧ n.args[j]? = some c ∧ RdT w N d' c p' l' ∧ w.cell? ⟨b, off + j * 6, none⟩ = some (.int .i64 c.kind) ∧ w.cell? ⟨b, off + j * 6 + 1, none⟩ = some (.int .i64 c.num) ∧ w.cell? ⟨b, off + j * 6 + 2, none⟩ = some (.string ⟨c.text.toArray⟩) ∧ w.cell? ⟨b, off + j * 6 + 3, none⟩ = some (.int .i64 c.frm) ∧ w.cell? ⟨b, off + j * 6 + 4, none⟩ = some (.int .i64 c.tor) ∧ w.cell? ⟨b, off + j * 6 + 5, none⟩ = some (.slice p' l' c') := by
  cases d with
  | zero => rw [h.2] at hj; omega
  | succ d =>
    obtain ⟨h1, h2⟩ := h
    rcases h2 with h2 | ⟨b, off, h3, h4, h5⟩
    · omega
    · obtain ⟨c, hc⟩ : ∃ c, n.args[j]? = some c := ⟨_, List.getElem?_eq_getElem (by omega)⟩
      obtain ⟨p', l', c', h6, h7⟩ := h5 j c hc
      exact ⟨d, b, off, c, p', l', c', rfl, h3, h4, hc, h7, h6 0 _ rfl, h6 1 _ rfl, h6 2 _ rfl, h6 3 _ rfl, h6 4 _ rfl, h6 5 _ rfl⟩
mutual
theorem szN_le (n : Nd) (m : Int) : 1 ≤ szN n m ∧ szN n m ≤ max m 0 + 1 := by
  cases n with
  | mk k u t f o a =>
    rw [szN]
    have h := szL_le a 1 m (by omega) (by omega)
    exact h
theorem szL_le (a : List Nd) (k m : Int) (h1 : 1 ≤ k) (h2 : k ≤ max m 0 + 1) : 1 ≤ szL a k m ∧ szL a k m ≤ max m 0 + 1 := by
  cases a with
  | nil => rw [szL]; exact ⟨h1, h2⟩
  | cons c r =>
    rw [szL]
    split
    · have hc := szN_le c (m - k)
      exact szL_le r _ m (by omega) (by omega)
    · exact ⟨h1, h2⟩
end
end Go.Proofs.YtjklbbmgjjdalaaGreatDoor
namespace Go.Proofs.YtjklbbmgjjdalaaGreatDoor
open Go.RowKit Go.Joins
def stE (L : Bs) : List Value := [.string ⟨L.toArray⟩]
abbrev tSt : TypeId := 9
def strs (L : List Bs) : Array Value := ⟨L.map fun x => .string ⟨x.toArray⟩⟩
theorem lt_some {w : World} {b : Nat} {o : Obj} (h : w.heap[b]? = some o) : b < w.heap.size := by
  rcases Nat.lt_or_ge b w.heap.size with h' | h'
  · exact h'
  · rw [Array.getElem?_eq_none h'] at h; cases h
def SsB (w : World) (b : Nat) (L : List Bs) : Prop := w.heap[b]? = some (.cells (strs L) tSt (0, 0))
theorem SsB.below {w w' : World} {b : Nat} {L : List Bs} (h : SsB w b L) (hb : Below w.heap.size w w') : SsB w' b L := (hb.block b (lt_some h)).trans h
theorem SsB.at {w : World} {b : Nat} {L : List Bs} (h : SsB w b L) (j : Nat) (x : Bs) (hx : L[j]? = some x) : w.cell? ⟨b, j, none⟩ = some (.string ⟨x.toArray⟩) := by
  rw [cell_of_block h]
  unfold strs
  simp [hx]
theorem rd_blk {w : World} {b : Nat} {L : List Bs} (h : SsB w b L) : RdG stE 1 w (some ⟨b, 0, none⟩) L.length L := by
  refine ⟨rfl, .inr ⟨b, 0, rfl, lt_some h, fun j x hx k u hu => ?_⟩⟩
  match k, hu with
  | 0, hu =>
    simp only [stE, List.getElem?_cons_zero, Option.some.injEq] at hu
    subst hu
    have := h.at j x hx
    rw [show 0 + j * 1 + 0 = j from by omega]
    exact this
  | k + 1, hu => simp [stE] at hu
def StrsR (L : List Bs) (e : Ending) (w' : World) : Prop := ∃ p cap, e = .returned (.slice p L.length cap) ∧ RdG stE 1 w' p L.length L
theorem strs_new (w : World) (L : List Bs) (n : Nat) (hn : L.length = n) : StrsR L (.returned (.slice (some ⟨w.heap.size, 0, none⟩) n n)) (w.alloc (.cells (strs L) tSt)) := by
  subst hn
  exact ⟨_, _, rfl, rd_blk (heap_alloc_new w _)⟩
theorem strs_nil (w : World) : StrsR [] (.returned (.slice none 0 0)) w := ⟨none, 0, rfl, RdG.nil _ _ _ _⟩
def sg1 : List Bs := [[61], [60, 62], [60], [60, 61], [62], [62, 61]]
def sg2 : List Bs := [[38]]
def sg3 : List Bs := [[43], [45]]
def sg4 : List Bs := [[42], [47]]
def sgS (l : Int) : List Bs := if l = 1 then sg1 else if l = 2 then sg2 else if l = 3 then sg3 else if l = 4 then sg4 else []
set_option maxRecDepth 100000 in
set_option maxHeartbeats 4000000 in
theorem signs_any (l : Int) (w : World) : Calls Tryz.prog 111 #[.int .i64 l] w fun e w' => StrsR (sgS l) e w' ∧ Below w.heap.size w w' := by
  by_cases h1 : l = 1
  · subst h1
    go_enter Tryz.func111, Tryz.ntmps111
    go_wp2_with fail
    go_ret
    exact ⟨strs_new _ sg1 _ rfl, by (repeat' (first | (with_reducible exact Below.refl _ _) | (with_reducible assumption) | (with_reducible refine Below.alloc ?_ ?_ _) | (with_reducible refine bel_drewN ?_ _) | (with_reducible refine Below.drew ?_) | (with_reducible refine Below.setCell ?_ ?_ _) | (with_reducible refine bel_call ‹_› ?_ ?_) | go_size))⟩
  · by_cases h2 : l = 2
    · subst h2
      go_enter Tryz.func111, Tryz.ntmps111
      go_wp2_with fail
      go_ret
      exact ⟨strs_new _ sg2 _ rfl, by (repeat' (first | (with_reducible exact Below.refl _ _) | (with_reducible assumption) | (with_reducible refine Below.alloc ?_ ?_ _) | (with_reducible refine bel_drewN ?_ _) | (with_reducible refine Below.drew ?_) | (with_reducible refine Below.setCell ?_ ?_ _) | (with_reducible refine bel_call ‹_› ?_ ?_) | go_size))⟩
    · by_cases h3 : l = 3
      · subst h3
        go_enter Tryz.func111, Tryz.ntmps111
        go_wp2_with fail
        go_ret
        exact ⟨strs_new _ sg3 _ rfl, by (repeat' (first | (with_reducible exact Below.refl _ _) | (with_reducible assumption) | (with_reducible refine Below.alloc ?_ ?_ _) | (with_reducible refine bel_drewN ?_ _) | (with_reducible refine Below.drew ?_) | (with_reducible refine Below.setCell ?_ ?_ _) | (with_reducible refine bel_call ‹_› ?_ ?_) | go_size))⟩
      · by_cases h4 : l = 4
        · subst h4
          go_enter Tryz.func111, Tryz.ntmps111
          go_wp2_with fail
          go_ret
          exact ⟨strs_new _ sg4 _ rfl, by (repeat' (first | (with_reducible exact Below.refl _ _) | (with_reducible assumption) | (with_reducible refine Below.alloc ?_ ?_ _) | (with_reducible refine bel_drewN ?_ _) | (with_reducible refine Below.drew ?_) | (with_reducible refine Below.setCell ?_ ?_ _) | (with_reducible refine bel_call ‹_› ?_ ?_) | go_size))⟩
        · have hs : sgS l = [] := by unfold sgS; rw [if_neg h1, if_neg h2, if_neg h3, if_neg h4]
          rw [hs]
          clear hs
          have e1 : (l == 1) = false := by simpa using h1
          have e2 : (l == 2) = false := by simpa using h2
          have e3 : (l == 3) = false := by simpa using h3
          have e4 : (l == 4) = false := by simpa using h4
          clear h1 h2 h3 h4
          go_enter Tryz.func111, Tryz.ntmps111
          go_wp2_with fail
          go_ret
          exact ⟨strs_nil _, by (repeat' (first | (with_reducible exact Below.refl _ _) | (with_reducible assumption) | (with_reducible refine Below.alloc ?_ ?_ _) | (with_reducible refine bel_drewN ?_ _) | (with_reducible refine Below.drew ?_) | (with_reducible refine Below.setCell ?_ ?_ _) | (with_reducible refine bel_call ‹_› ?_ ?_) | go_size))⟩
theorem contains_any (L : List Bs) (p : Option Addr) (cap : Nat) (s : ByteArray) (hL : L.length ≤ 100) (w : World) (h : RdG stE 1 w p L.length L) : Calls Tryz.prog 110 #[.slice p L.length cap, .string s] w fun e w' => e = .returned (.bool (decide (s.data.toList ∈ L))) ∧ w' = w := by
  by_cases h0 : L.length = 0
  · rw [h0]
    have : L = [] := List.eq_nil_of_length_eq_zero h0
    subst this
    exact (Tryz.slices_Contains_string_empty p cap s w).mono fun e w' h => ⟨by rw [h.1]; rfl, h.2⟩
  · obtain ⟨b, off, rfl, _, hc⟩ := h.some (j := 0) (by omega)
    refine (Tryz.slices_Contains_string b off L.length cap (L.map fun x => ⟨x.toArray⟩) s w (by simp) (by omega) (fun j hj => ?_)).mono fun e w' h => ⟨?_, h.2⟩
    · rw [List.length_map] at hj
      have := RdG.at1 (p := some ⟨b, off, none⟩) (n := L.length) hc (j := j) (x := L[j]) (List.getElem?_eq_getElem hj) rfl
      rw [this, List.getD_eq_getElem?_getD, List.getElem?_map, List.getElem?_eq_getElem hj]
      rfl
    · rw [h.1, List.take_of_length_le (by simp)]
      congr 2
      have hm : (s ∈ L.map fun x => (⟨x.toArray⟩ : ByteArray)) ↔ s.data.toList ∈ L := by
        rw [List.mem_map]
        constructor
        · rintro ⟨x, hx, rfl⟩
          simpa using hx
        · intro hx
          exact ⟨_, hx, by simp⟩
      rw [Bool.eq_iff_iff, Lib.containsS_iff, hm, decide_eq_true_eq]
def lvS (s : Bs) : Int := if s ∈ sgS 1 then 1 else if s ∈ sgS 2 then 2 else if s ∈ sgS 3 then 3 else if s ∈ sgS 4 then 4 else 0
theorem lvS_at {s : Bs} {k : Nat} (h1 : 1 ≤ k) (h4 : k ≤ 4) (hno : ∀ j : Nat, 1 ≤ j → j < k → s ∉ sgS (j : Int)) (h : s ∈ sgS (k : Int)) : lvS s = (k : Int) := by
  have hk : k = 1 ∨ k = 2 ∨ k = 3 ∨ k = 4 := by omega
  unfold lvS
  rcases hk with rfl | rfl | rfl | rfl
  · have h : s ∈ sgS 1 := h
    rw [if_pos h]; rfl
  · have h : s ∈ sgS 2 := h
    have n1 : s ∉ sgS 1 := hno 1 (by omega) (by omega)
    rw [if_neg n1, if_pos h]; rfl
  · have h : s ∈ sgS 3 := h
    have n1 : s ∉ sgS 1 := hno 1 (by omega) (by omega)
    have n2 : s ∉ sgS 2 := hno 2 (by omega) (by omega)
    rw [if_neg n1, if_neg n2, if_pos h]; rfl
  · have h : s ∈ sgS 4 := h
    have n1 : s ∉ sgS 1 := hno 1 (by omega) (by omega)
    have n2 : s ∉ sgS 2 := hno 2 (by omega) (by omega)
    have n3 : s ∉ sgS 3 := hno 3 (by omega) (by omega)
    rw [if_neg n1, if_neg n2, if_neg n3, if_pos h]; rfl
theorem lvS_no {s : Bs} (hno : ∀ j : Nat, 1 ≤ j → j < 5 → s ∉ sgS (j : Int)) : lvS s = 0 := by
  unfold lvS
  have n1 : s ∉ sgS 1 := hno 1 (by omega) (by omega)
  have n2 : s ∉ sgS 2 := hno 2 (by omega) (by omega)
  have n3 : s ∉ sgS 3 := hno 3 (by omega) (by omega)
  have n4 : s ∉ sgS 4 := hno 4 (by omega) (by omega)
  rw [if_neg n1, if_neg n2, if_neg n3, if_neg n4]
theorem sgS_len (l : Int) : (sgS l).length ≤ 6 := by
  unfold sgS
  split
  · decide
  · split
    · decide
    · split
      · decide
      · split <;> decide
set_option maxRecDepth 100000 in
set_option maxHeartbeats 4000000 in
theorem level_any (s : ByteArray) (w : World) : Calls Tryz.prog 86 #[.string s] w fun e w' => e = .returned (.int .i64 (lvS s.data.toList)) ∧ Below w.heap.size w w' := by
  have HSG := Lib.hid (fun k W => signs_any k W)
  have HCO := Lib.hid (fun L p cap h W hW => contains_any L p cap s h W hW)
  have HLE := Lib.hid sgS_len
  generalize s.data.toList = L at HCO ⊢
  obtain ⟨O, hO⟩ : ∃ O, lvS L = O := ⟨_, rfl⟩
  have HO := Lib.hid hO
  rw [hO]
  clear hO
  go_enter Tryz.func86, Tryz.ntmps86
  go_wp2_with fail
  go_loopg [3] 4 (fun g v3 wr => ∃ k : Nat, k + g = 5 ∧ 1 ≤ k ∧ v3 = .int .i64 (k : Int) ∧ (∀ j : Nat, 1 ≤ j → j < k → L ∉ sgS (j : Int)) ∧ Below w.heap.size w wr)
  case atStart => exact ⟨1, by omega, by omega, rfl, fun j h1 h2 => by omega, Below.refl _ _⟩
  case round =>
    obtain ⟨k, hkg, hk1, rfl, hno, hbel⟩ := hrel
    have HNO := Lib.hid hno
    have HBL := Lib.hid hbel
    clear hno hbel
    by_cases hk : k ≤ 4
    · have hki : (k : Int) ≤ 4 := by omega
      go_wp2_with fail
      refine (HSG.out _ _).mono ?_
      rintro e w1 ⟨⟨p, cap, rfl, hrd⟩, hb1⟩
      have HB1 : Hid (Below w.heap.size w w1) := bel_call hb1 HBL.out HBL.out.size
      have HC := Lib.hid (HCO.out _ p cap (by have := HLE.out (k : Int); omega) w1 hrd)
      by_cases hm : L ∈ sgS (k : Int)
      · have HON : Hid (O = (k : Int)) := by unfold Hid; rw [← HO.out]; exact lvS_at hk1 hk HNO.out hm
        rw [decide_eq_true hm] at HC
        clear hm hrd hb1
        generalize (sgS (k : Int)).length = n at HC ⊢
        go_wp2_with fail
        refine HC.out.mono ?_
        rintro e wx ⟨rfl, hwx⟩
        rw [hwx]
        clear hwx wx
        go_wp2_with fail
        go_ret
        exact ⟨by rw [HON.out]; rfl, HB1.out⟩
      · have HN2 : Hid (∀ j : Nat, 1 ≤ j → j < k + 1 → L ∉ sgS (j : Int)) := fun j h1 h2 => by
          by_cases h : j < k
          · exact HNO.out j h1 h
          · obtain rfl : j = k := by omega
            exact hm
        rw [decide_eq_false hm] at HC
        clear hm hrd hb1
        generalize (sgS (k : Int)).length = n at HC ⊢
        go_wp2_with fail
        refine HC.out.mono ?_
        rintro e wx ⟨rfl, hwx⟩
        rw [hwx]
        clear hwx wx
        go_wp2_with fail
        go_roundg (gk - 1)
        case measure => omega
        case rel => exact ⟨k + 1, by omega, by omega, by go_num, HN2.out, HB1.out⟩
    · have hki : ¬ (k : Int) ≤ 4 := by omega
      have HON : Hid (O = 0) := by unfold Hid; rw [← HO.out]; exact lvS_no (fun j h1 h2 => HNO.out j h1 (by omega))
      go_wp2_with fail
      go_ret
      exact ⟨by rw [HON.out]; rfl, HBL.out⟩
end Go.Proofs.YtjklbbmgjjdalaaGreatDoor
namespace Go.Proofs.YtjklbbmgjjdalaaGreatDoor
open Go.RowKit Go.Joins
def btN (L : Bs) (j : Nat) : Nat := (L.getD j 0).toNat
theorem btN_lt (L : Bs) (j : Nat) : btN L j < 256 := by unfold btN; exact (L.getD j 0).toNat_lt
theorem btN_str (s : ByteArray) (i : Nat) (h : i < s.size) : (s[i].toNat : Nat) = btN s.data.toList i := by
  have hl : i < s.data.toList.length := by rw [Lib.size_eq] at h; exact h
  unfold btN
  rw [List.getD_eq_getElem?_getD, List.getElem?_eq_getElem hl]
  rfl
theorem bytes_cell (W : World) (s : ByteArray) : ∀ j, j < s.size → (Lib.bytesWorld W 5 s).cell? ⟨W.heap.size, j, none⟩ = some (.int .u8 (btN s.data.toList j : Int)) := fun j hj => Lib.bytesWorld_cell W _ s j hj
theorem bytes_below (W : World) (s : ByteArray) : Below W.heap.size W (Lib.bytesWorld W 5 s) := ⟨rfl, rfl, rfl, by rw [Lib.bytesWorld_size]; omega, fun k hk => Lib.bytesWorld_at_old W _ s k hk⟩
def okB (i c : Nat) : Bool := (decide (65 ≤ c) && decide (c ≤ 90)) || (decide (0 < i) && (decide (48 ≤ c) && decide (c ≤ 57)))
def nameB (L : Bs) : Bool := decide (∀ i, i < L.length → okB i (btN L i) = true) && (decide (L ≠ []) && decide (L.length ≤ 32))
theorem nameB_no {L : Bs} {i : Nat} (h : i < L.length) (h2 : okB i (btN L i) = false) : nameB L = false := by
  unfold nameB
  rw [decide_eq_false (fun hh => by rw [hh i h] at h2; cases h2)]
  rfl
theorem nameB_all {L : Bs} (h : ∀ i, i < L.length → okB i (btN L i) = true) : nameB L = (decide (0 < L.length) && decide (L.length ≤ 32)) := by
  unfold nameB
  rw [decide_eq_true h, Bool.true_and]
  congr 1
  cases L <;> simp
set_option maxRecDepth 100000 in
set_option maxHeartbeats 8000000 in
theorem name_any (s : ByteArray) (hs : s.size ≤ maxLen) (w : World) : Calls Tryz.prog 87 #[.string s] w fun e w' => e = .returned (.bool (nameB s.data.toList)) ∧ Below w.heap.size w w' := by
  have hs2 : s.size ≤ 9223372036854775807 := by unfold maxLen at hs; omega
  clear hs
  have HSZ : Hid (s.data.toList.length = s.size) := (Lib.size_eq s).symm
  have HBC := Lib.hid (fun W => bytes_cell W s)
  have HTO : Hid (s.toList = s.data.toList) := by
    unfold Hid
    conv => lhs; rw [show s = ⟨(s.data.toList).toArray⟩ from by simp]
    rw [Lib.toList_data]
  have HNO := Lib.hid (fun i => @nameB_no s.data.toList i)
  have HAL := Lib.hid (@nameB_all s.data.toList)
  generalize s.data.toList = L at HSZ HBC HTO HNO HAL ⊢
  obtain ⟨O, hO⟩ : ∃ O, nameB L = O := ⟨_, rfl⟩
  have HO := Lib.hid hO
  rw [hO]
  clear hO
  have hconv := fun (W : World) => Lib.run_convert_string_bytes (P := Tryz.prog) W 9 65 5 s Tryz.underlying9 Tryz.underlying65 Tryz.underlying5
  go_enter Tryz.func87, Tryz.ntmps87
  go_wp2_with fail
  have hbw := Lib.hid (bytes_below w s)
  have hbc := Lib.hid (HBC.out w)
  generalize Lib.bytesWorld w 5 s = W1 at hbw hbc ⊢
  clear hconv HBC
  go_loopg [8] s.size (fun g v8 wr => ∃ i : Nat, i + g = s.size ∧ v8 = .int .i64 i ∧ (∀ j, j < i → okB j (btN L j) = true) ∧ wr = W1)
  case atStart => exact ⟨0, by omega, rfl, fun j h => by omega, rfl⟩
  case round =>
    obtain ⟨i, hig, rfl, hall, rfl⟩ := hrel
    have HALL := Lib.hid hall
    clear hall
    by_cases hlt : i < s.size
    · have hli : (i : Int) < (s.size : Int) := by omega
      have hc := hbc.out i hlt
      have hd := btN_lt L i
      have HNB : Hid (okB i (btN L i) = false → O = false) := by
        have h1 := HNO.out i (by rw [HSZ.out]; exact hlt)
        rw [HO.out] at h1
        exact h1
      have HYB : Hid (okB i (btN L i) = true → ∀ j, j < i + 1 → okB j (btN L j) = true) := fun h j hj => by
        by_cases h2 : j < i
        · exact HALL.out j h2
        · obtain rfl : j = i := by omega
          exact h
      generalize btN L i = c at hc hd HNB HYB
      go_upto_region 4 with fail
      obtain ⟨ok, hok⟩ : ∃ ok, okB i c = ok := ⟨_, rfl⟩
      have HOK := Lib.hid hok
      rw [hok] at HNB HYB
      clear hok
      go_cut [30] (fun v wx => v = .bool (!ok) ∧ wx = wr)
      case first =>
        clear HNB HYB HALL HNO HAL HO HTO
        by_cases ha : c < 65
        · by_cases hi0 : i = 0
          · have HK : Hid (ok = false) := by unfold Hid; rw [← HOK.out]; unfold okB; simp; omega
            subst hi0
            go_wp2_with fail
            go_meet
            exact ⟨by rw [HK.out]; first | rfl | (simp; done) | (simp; omega), rfl⟩
          · have hi1 : ¬ (i : Int) = 0 := by omega
            by_cases hb : c < 48
            · have HK : Hid (ok = false) := by unfold Hid; rw [← HOK.out]; unfold okB; simp; omega
              go_wp2_with fail
              go_meet
              exact ⟨by rw [HK.out]; first | rfl | (simp; done) | (simp; omega), rfl⟩
            · by_cases he : 57 < c
              · have HK : Hid (ok = false) := by unfold Hid; rw [← HOK.out]; unfold okB; simp; omega
                go_wp2_with fail
                go_meet
                exact ⟨by rw [HK.out]; first | rfl | (simp; done) | (simp; omega), rfl⟩
              · have HK : Hid (ok = true) := by unfold Hid; rw [← HOK.out]; unfold okB; simp; omega
                go_wp2_with fail
                go_meet
                exact ⟨by rw [HK.out]; first | rfl | (simp; done) | (simp; omega), rfl⟩
        · by_cases he : 90 < c
          · by_cases hi0 : i = 0
            · have HK : Hid (ok = false) := by unfold Hid; rw [← HOK.out]; unfold okB; simp; omega
              subst hi0
              go_wp2_with fail
              go_meet
              exact ⟨by rw [HK.out]; first | rfl | (simp; done) | (simp; omega), rfl⟩
            · have hi1 : ¬ (i : Int) = 0 := by omega
              have HK : Hid (ok = false) := by unfold Hid; rw [← HOK.out]; unfold okB; simp; omega
              go_wp2_with fail
              go_meet
              exact ⟨by rw [HK.out]; first | rfl | (simp; done) | (simp; omega), rfl⟩
          · have HK : Hid (ok = true) := by unfold Hid; rw [← HOK.out]; unfold okB; simp; omega
            go_wp2_with fail
            go_meet
            exact ⟨by rw [HK.out]; first | rfl | (simp; done) | (simp; omega), rfl⟩
      case rest =>
        obtain ⟨rfl, rfl⟩ := hcut
        cases ok
        · have HF : Hid (O = false) := HNB.out rfl
          go_wp2_with fail
          go_ret
          exact ⟨by rw [HF.out]; rfl, hbw.out⟩
        · have HY : Hid (∀ j, j < i + 1 → okB j (btN L j) = true) := HYB.out rfl
          go_wp2_with fail
          go_roundg (gk - 1)
          case measure => omega
          case rel => exact ⟨i + 1, by omega, by go_num, HY.out, rfl⟩
    · obtain rfl : i = s.size := by omega
      have hli : ¬ (s.size : Int) < (s.size : Int) := by omega
      have HON : Hid (O = (decide (0 < s.size) && decide (s.size ≤ 32))) := by
        unfold Hid
        rw [← HO.out, HAL.out (fun j hj => HALL.out j (by rw [HSZ.out] at hj; exact hj)), HSZ.out]
      have HEM : Hid (0 < s.size ∨ s = ⟨#[]⟩) := by
        unfold Hid
        by_cases h : 0 < s.size
        · exact .inl h
        · refine .inr (ByteArray.ext (Array.eq_empty_of_size_eq_zero ?_))
          have : s.data.size = s.size := rfl
          omega
      clear HO HAL HNO HALL
      rcases HEM.out with h0 | h0
      · have hne : s.toList.isEmpty = false := by
          rw [HTO.out]
          have := HSZ.out
          cases L with
          | nil => simp at this; omega
          | cons c r => rfl
        by_cases h32 : s.size ≤ 32
        · have h3 : (s.size : Int) ≤ 32 := by omega
          have HON2 : Hid (O = true) := by unfold Hid; rw [HON.out, decide_eq_true h0, decide_eq_true h32]; rfl
          go_wp2_with fail
          go_ret
          exact ⟨by rw [HON2.out]; rfl, hbw.out⟩
        · have h3 : ¬ (s.size : Int) ≤ 32 := by omega
          have HON2 : Hid (O = false) := by unfold Hid; rw [HON.out, decide_eq_false h32, Bool.and_false]
          go_wp2_with fail
          go_ret
          exact ⟨by rw [HON2.out]; rfl, hbw.out⟩
      · subst h0
        have HON2 : Hid (O = false) := by unfold Hid; rw [HON.out]; rfl
        go_wp2_with fail
        go_ret
        exact ⟨by rw [HON2.out]; rfl, hbw.out⟩
set_option maxRecDepth 100000 in
set_option maxHeartbeats 8000000 in
theorem rname_any (s : ByteArray) (hs : s.size ≤ maxLen) (w : World) : Calls Tryz.prog 122 #[.string s] w fun e w' => e = .returned (.bool (nameB s.data.toList)) ∧ Below w.heap.size w w' := by
  have hs2 : s.size ≤ 9223372036854775807 := by unfold maxLen at hs; omega
  clear hs
  have HSZ : Hid (s.data.toList.length = s.size) := (Lib.size_eq s).symm
  have HBT := Lib.hid (btN_str s)
  have HNO := Lib.hid (fun i => @nameB_no s.data.toList i)
  have HAL := Lib.hid (@nameB_all s.data.toList)
  generalize s.data.toList = L at HSZ HBT HNO HAL ⊢
  obtain ⟨O, hO⟩ : ∃ O, nameB L = O := ⟨_, rfl⟩
  have HO := Lib.hid hO
  rw [hO]
  clear hO
  go_enter Tryz.func122, Tryz.ntmps122
  go_wp2_with fail
  go_loopg [3] s.size (fun g v3 wr => ∃ i : Nat, i + g = s.size ∧ v3 = .int .i64 i ∧ (∀ j, j < i → okB j (btN L j) = true) ∧ wr = w)
  case atStart => exact ⟨0, by omega, rfl, fun j h => by omega, rfl⟩
  case round =>
    obtain ⟨i, hig, rfl, hall, rfl⟩ := hrel
    have HALL := Lib.hid hall
    clear hall
    by_cases hlt : i < s.size
    · have hli : (i : Int) < (s.size : Int) := by omega
      have hi0 : (0 : Int) ≤ (i : Int) := by omega
      have hb := HBT.out i hlt
      have hd := btN_lt L i
      have HNB : Hid (okB i (btN L i) = false → O = false) := by
        have h1 := HNO.out i (by rw [HSZ.out]; exact hlt)
        rw [HO.out] at h1
        exact h1
      have HYB : Hid (okB i (btN L i) = true → ∀ j, j < i + 1 → okB j (btN L j) = true) := fun h j hj => by
        by_cases h2 : j < i
        · exact HALL.out j h2
        · obtain rfl : j = i := by omega
          exact h
      generalize btN L i = c at hb hd HNB HYB
      have hbi : (((s[i]'hlt).toNat : Nat) : Int) = (c : Int) := by rw [hb]
      clear hb
      go_upto_region 4 with fail
      obtain ⟨ok, hok⟩ : ∃ ok, okB i c = ok := ⟨_, rfl⟩
      have HOK := Lib.hid hok
      rw [hok] at HNB HYB
      clear hok
      go_cut [37] (fun v wx => v = .bool (!ok) ∧ wx = wr)
      case first =>
        clear HNB HYB HALL HNO HAL HO HBT
        by_cases ha : c < 65
        · have ha2 : ¬ 65 ≤ (c : Int) := by omega
          by_cases hb : c < 48
          · have hb2 : ¬ 48 ≤ (c : Int) := by omega
            have HK : Hid (ok = false) := by unfold Hid; rw [← HOK.out]; unfold okB; simp; omega
            go_wp2_with fail
            go_meet
            exact ⟨by rw [HK.out]; first | rfl | (simp; done) | (simp; omega), rfl⟩
          · have hb2 : 48 ≤ (c : Int) := by omega
            by_cases he : 57 < c
            · have he2 : ¬ (c : Int) ≤ 57 := by omega
              have HK : Hid (ok = false) := by unfold Hid; rw [← HOK.out]; unfold okB; simp; omega
              go_wp2_with fail
              go_meet
              exact ⟨by rw [HK.out]; first | rfl | (simp; done) | (simp; omega), rfl⟩
            · have he2 : (c : Int) ≤ 57 := by omega
              by_cases hi1 : i = 0
              · have HK : Hid (ok = false) := by unfold Hid; rw [← HOK.out]; unfold okB; simp; omega
                subst hi1
                go_wp2_with fail
                go_meet
                exact ⟨by rw [HK.out]; first | rfl | (simp; done) | (simp; omega), rfl⟩
              · have hi2 : 0 < (i : Int) := by omega
                have HK : Hid (ok = true) := by unfold Hid; rw [← HOK.out]; unfold okB; simp; omega
                go_wp2_with fail
                go_meet
                exact ⟨by rw [HK.out]; first | rfl | (simp; done) | (simp; omega), rfl⟩
        · have ha2 : 65 ≤ (c : Int) := by omega
          by_cases he : 90 < c
          · have he2 : ¬ (c : Int) ≤ 90 := by omega
            have he3 : 48 ≤ (c : Int) := by omega
            have he4 : ¬ (c : Int) ≤ 57 := by omega
            have HK : Hid (ok = false) := by unfold Hid; rw [← HOK.out]; unfold okB; simp; omega
            go_wp2_with fail
            go_meet
            exact ⟨by rw [HK.out]; first | rfl | (simp; done) | (simp; omega), rfl⟩
          · have he2 : (c : Int) ≤ 90 := by omega
            have HK : Hid (ok = true) := by unfold Hid; rw [← HOK.out]; unfold okB; simp; omega
            go_wp2_with fail
            go_meet
            exact ⟨by rw [HK.out]; first | rfl | (simp; done) | (simp; omega), rfl⟩
      case rest =>
        obtain ⟨rfl, rfl⟩ := hcut
        cases ok
        · have HF : Hid (O = false) := HNB.out rfl
          go_wp2_with fail
          go_ret
          exact ⟨by rw [HF.out]; rfl, Below.refl _ _⟩
        · have HY : Hid (∀ j, j < i + 1 → okB j (btN L j) = true) := HYB.out rfl
          go_wp2_with fail
          go_roundg (gk - 1)
          case measure => omega
          case rel => exact ⟨i + 1, by omega, by go_num, HY.out, rfl⟩
    · obtain rfl : i = s.size := by omega
      have hli : ¬ (s.size : Int) < (s.size : Int) := by omega
      have HON : Hid (O = (decide (0 < s.size) && decide (s.size ≤ 32))) := by
        unfold Hid
        rw [← HO.out, HAL.out (fun j hj => HALL.out j (by rw [HSZ.out] at hj; exact hj)), HSZ.out]
      clear HO HAL HNO HALL
      by_cases h0 : 0 < s.size
      · have h1 : 1 ≤ (s.size : Int) := by omega
        by_cases h32 : s.size ≤ 32
        · have h3 : (s.size : Int) ≤ 32 := by omega
          have HON2 : Hid (O = true) := by unfold Hid; rw [HON.out, decide_eq_true h0, decide_eq_true h32]; rfl
          go_wp2_with fail
          go_ret
          exact ⟨by rw [HON2.out]; rfl, Below.refl _ _⟩
        · have h3 : ¬ (s.size : Int) ≤ 32 := by omega
          have HON2 : Hid (O = false) := by unfold Hid; rw [HON.out, decide_eq_false h32, Bool.and_false]
          go_wp2_with fail
          go_ret
          exact ⟨by rw [HON2.out]; rfl, Below.refl _ _⟩
      · have h1 : ¬ 1 ≤ (s.size : Int) := by omega
        have HON2 : Hid (O = false) := by unfold Hid; rw [HON.out, decide_eq_false h0]; rfl
        go_wp2_with fail
        go_ret
        exact ⟨by rw [HON2.out]; rfl, Below.refl _ _⟩
end Go.Proofs.YtjklbbmgjjdalaaGreatDoor
namespace Go.Proofs.YtjklbbmgjjdalaaGreatDoor
open Go.RowKit Go.Joins
inductive OkN : Nd → Prop
  | mk (k u : Int) (t : Bs) (f o : Int) (a : List Nd) (h1 : t.length ≤ 9223372036854775807) (h2 : a.length ≤ 9223372036854775807) (h3 : -9223372036854775808 ≤ u ∧ u ≤ 9223372036854775807) (h4 : -9223372036854775808 ≤ f ∧ f ≤ 9223372036854775807) (h5 : -9223372036854775808 ≤ o ∧ o ≤ 9223372036854775807) (h6 : ∀ c ∈ a, OkN c) : OkN (.mk k u t f o a)
theorem OkN.child {n c : Nd} (h : OkN n) (hc : c ∈ n.args) : OkN c := by cases h with | mk k u t f o a h1 h2 h3 h4 h5 h6 => exact h6 c hc
theorem OkN.text {n : Nd} (h : OkN n) : n.text.length ≤ 9223372036854775807 := by cases h with | mk k u t f o a h1 h2 h3 h4 h5 h6 => exact h1
theorem OkN.len {n : Nd} (h : OkN n) : n.args.length ≤ 9223372036854775807 := by cases h with | mk k u t f o a h1 h2 h3 h4 h5 h6 => exact h2
theorem OkN.num {n : Nd} (h : OkN n) : -9223372036854775808 ≤ n.num ∧ n.num ≤ 9223372036854775807 := by cases h with | mk k u t f o a h1 h2 h3 h4 h5 h6 => exact h3
theorem OkN.frm {n : Nd} (h : OkN n) : -9223372036854775808 ≤ n.frm ∧ n.frm ≤ 9223372036854775807 := by cases h with | mk k u t f o a h1 h2 h3 h4 h5 h6 => exact h4
theorem OkN.tor {n : Nd} (h : OkN n) : -9223372036854775808 ≤ n.tor ∧ n.tor ≤ 9223372036854775807 := by cases h with | mk k u t f o a h1 h2 h3 h4 h5 h6 => exact h5
abbrev tRn : TypeId := 25
def ndA (n : Nd) (p : Option Addr) (len cap : Nat) : Array Value := #[.int .i64 n.kind, .int .i64 n.num, .string ⟨n.text.toArray⟩, .int .i64 n.frm, .int .i64 n.tor, .slice p len cap]
theorem ndA_eq (n : Nd) (p : Option Addr) (len cap : Nat) : Value.agg (ndA n p len cap) = .agg #[.int .i64 n.kind, .int .i64 n.num, .string ⟨n.text.toArray⟩, .int .i64 n.frm, .int .i64 n.tor, .slice p len cap] := rfl
def NdB (t : TypeId) (w : World) (b : Nat) (n : Nd) (p : Option Addr) (len cap : Nat) : Prop := w.heap[b]? = some (.cells (ndA n p len cap) t (0, 0))
theorem NdB.below {t : TypeId} {w w' : World} {b : Nat} {n : Nd} {p : Option Addr} {len cap : Nat} (h : NdB t w b n p len cap) (hb : Below w.heap.size w w') : NdB t w' b n p len cap := (hb.block b (lt_some h)).trans h
theorem NdB.cells {t : TypeId} {w : World} {b : Nat} {n : Nd} {p : Option Addr} {len cap : Nat} (h : NdB t w b n p len cap) : w.cell? ⟨b, 0, none⟩ = some (.int .i64 n.kind) ∧ w.cell? ⟨b, 1, none⟩ = some (.int .i64 n.num) ∧ w.cell? ⟨b, 2, none⟩ = some (.string ⟨n.text.toArray⟩) ∧ w.cell? ⟨b, 3, none⟩ = some (.int .i64 n.frm) ∧ w.cell? ⟨b, 4, none⟩ = some (.int .i64 n.tor) ∧ w.cell? ⟨b, 5, none⟩ = some (.slice p len cap) := by
  refine ⟨?_, ?_, ?_, ?_, ?_, ?_⟩
  all_goals
    rw [cell_of_block h]
    rfl
theorem dpL_ge : ∀ (a : List Nd) (m : Nat), m ≤ dpL a m
  | [], m => by rw [dpL]; exact Nat.le_refl _
  | c :: r, m => by
    rw [dpL]
    exact Nat.le_trans (Nat.le_max_left _ _) (dpL_ge r _)
theorem dpL_at {a : List Nd} {i m : Nat} {c : Nd} (h : a[i]? = some c) : dpL (a.drop i) m = dpL (a.drop (i + 1)) (max m (dpN c)) := by
  obtain ⟨hi, e⟩ := List.getElem?_eq_some_iff.1 h
  rw [List.drop_eq_getElem_cons hi, dpL, e]
theorem mem_at {a : List Nd} {i : Nat} {c : Nd} (h : a[i]? = some c) : c ∈ a := List.mem_of_getElem? h
def RDepthC (d : Nat) : Prop := ∀ (n : Nd) (p : Option Addr) (len cap : Nat) (w : World), RdT w w.heap.size d n p len → OkN n → dpN n ≤ 1000000 → Calls Tryz.prog 52 #[.agg (ndA n p len cap)] w fun e w' => e = .returned (.int .i64 (dpN n : Nat)) ∧ Below w.heap.size w w'
set_option maxRecDepth 100000 in
set_option maxHeartbeats 4000000 in
theorem rdepth_s (d : Nat) (IH : ∀ d', d = d' + 1 → RDepthC d') : RDepthC d := by
  intro n p len cap w hrd hok hdp
  have hA0 : Hid (NdB tRn (w.alloc (.cells (ndA n p len cap) tRn)) w.heap.size n p len cap) := heap_alloc_new w _
  have hAB : Hid (Below w.heap.size w (w.alloc (.cells (ndA n p len cap) tRn))) := by unfold Hid; (repeat' (first | (with_reducible exact Below.refl _ _) | (with_reducible assumption) | (with_reducible refine Below.alloc ?_ ?_ _) | (with_reducible refine bel_drewN ?_ _) | (with_reducible refine Below.drew ?_) | (with_reducible refine Below.setCell ?_ ?_ _) | (with_reducible refine bel_call ‹_› ?_ ?_) | go_size))
  have HRD := Lib.hid hrd
  have HIH := Lib.hid IH
  have HDP : Hid (dpN n = dpL (n.args.drop 0) 0 + 1) := by unfold Hid; rw [dpN_eq]; rfl
  have hlen := hok.len
  rw [hrd.len] at hlen
  have HAL := Lib.hid hrd.len
  have HOK := Lib.hid (fun c hc => OkN.child (c := c) hok hc)
  generalize dpN n = D at HDP hdp ⊢
  rw [ndA_eq]
  clear hrd IH hok
  go_enter Tryz.func52, Tryz.ntmps52
  go_upto_region 1 with fail
  have e0 : w.alloc (.cells #[.int .i64 n.kind, .int .i64 n.num, .string ⟨n.text.toArray⟩, .int .i64 n.frm, .int .i64 n.tor, .slice p len cap] tRn) = w.alloc (.cells (ndA n p len cap) tRn) := rfl
  rw [e0]
  clear e0
  generalize w.alloc (.cells (ndA n p len cap) tRn) = w0 at hA0 hAB ⊢
  obtain ⟨c0, c1, c2, c3, c4, c5⟩ := hA0.out.cells
  clear c0 c1 c2 c3 c4 c5
  go_wp2_with fail
  go_loopg [3, 4] len (fun g v3 v4 wr => ∃ i m : Nat, i + g = len ∧ v4 = .int .i64 i ∧ v3 = .int .i64 (m : Int) ∧ D = dpL (n.args.drop i) m + 1 ∧ NdB tRn wr w.heap.size n p len cap ∧ Below w.heap.size w wr)
  case atStart => exact ⟨0, 0, by omega, rfl, rfl, HDP.out, hA0.out, hAB.out⟩
  case round =>
    obtain ⟨i, m, hig, rfl, rfl, hD, hnb, hbel⟩ := hrel
    have HD := Lib.hid hD
    have HBL := Lib.hid hbel
    have HNB := Lib.hid hnb
    have hzr := hbel.size
    have hm : m ≤ 1000000 := by have := dpL_ge (n.args.drop i) m; omega
    clear hD hbel HDP hnb hA0 hAB
    obtain ⟨c0, c1, c2, c3, c4, c5⟩ := HNB.out.cells
    by_cases hlt : i < len
    · have hli : (i : Int) < (len : Int) := by omega
      obtain ⟨d', b, off, c, p', l', c', hd, rfl, hbN, hc, hrc, q0, q1, q2, q3, q4, q5⟩ := (HRD.out.below HBL.out).at hlt
      have HC : Hid (RDepthC d') := HIH.out d' hd
      have HCO := Lib.hid (HOK.out c (mem_at hc))
      have HD2 : Hid (D = dpL (n.args.drop (i + 1)) (max m (dpN c)) + 1) := by unfold Hid; rw [HD.out, dpL_at hc]
      have hcd : dpN c ≤ 1000000 := by
        have := dpL_ge (n.args.drop (i + 1)) (max m (dpN c))
        have := HD2.out
        omega
      have HCC := Lib.hid (HC.out c p' l' c' wr (hrc.mono HBL.out.size) HCO.out hcd)
      rw [ndA_eq] at HCC
      generalize dpN c = k at HCC HD2 hcd
      clear HC hc hrc HD hd
      go_wp2_with fail
      refine HCC.out.mono ?_
      rintro e w3 ⟨rfl, hb3⟩
      have hB3 : Hid (Below w.heap.size w w3) := bel_call hb3 HBL.out hzr
      have hN3 := Lib.hid (HNB.out.below hb3)
      clear hb3 c0 c1 c2 c3 c4 c5 q0 q1 q2 q3 q4 q5 HNB HBL HCC
      by_cases hkm : m < k
      · have hki : (m : Int) < (k : Int) := by omega
        go_wp2_with fail
        go_roundg (gk - 1)
        case measure => omega
        case rel => exact ⟨i + 1, k, by omega, by go_num, rfl, by rw [HD2.out, Nat.max_eq_right (by omega)], hN3.out, hB3.out⟩
      · have hki : ¬ (m : Int) < (k : Int) := by omega
        go_wp2_with fail
        go_roundg (gk - 1)
        case measure => omega
        case rel => exact ⟨i + 1, m, by omega, by go_num, rfl, by rw [HD2.out, Nat.max_eq_left (by omega)], hN3.out, hB3.out⟩
    · obtain rfl : i = len := by omega
      have hli : ¬ (i : Int) < (i : Int) := by omega
      have HDE : Hid (D = m + 1) := by
        unfold Hid
        rw [HD.out, List.drop_eq_nil_of_le (by rw [HAL.out]; exact Nat.le_refl _), dpL]
      go_wp2_with fail
      go_ret
      exact ⟨by rw [HDE.out]; first | rfl | (simp; done), HBL.out⟩
theorem rdepth_any : ∀ d, RDepthC d
  | 0 => rdepth_s 0 (fun d' h => by omega)
  | d + 1 => rdepth_s (d + 1) (fun d' h => (show d = d' from by omega) ▸ rdepth_any d)
end Go.Proofs.YtjklbbmgjjdalaaGreatDoor
namespace Go.Proofs.YtjklbbmgjjdalaaGreatDoor
open Go.RowKit Go.Joins
def loK (k : Int) : Nat := if k = 5 then 1 else if k = 6 then 2 else 0
def hiK (k : Int) : Nat := if k = 5 then 1 else if k = 6 then 2 else if k = 7 then 16 else 0
def arB (k : Int) (len : Nat) : Bool := decide (loK k ≤ len) && decide (len ≤ hiK k)
def tagB (n : Nd) : Bool := if n.kind = 1 then decide (0 ≤ n.num) else if n.kind = 6 then decide (lvS n.text ≠ 0) else if n.kind = 7 then nameB n.text else true
def headB (n : Nd) (lv : Int) : Bool := decide (1 ≤ lv) && (decide (1 ≤ n.kind) && (decide (n.kind ≤ 8) && arB n.kind n.args.length))
mutual
def rtN : Nd → Int → Bool
  | .mk k u t f o a, lv => (headB (.mk k u t f o a) lv && tagB (.mk k u t f o a)) && rtL a (lv - 1)
def rtL : List Nd → Int → Bool
  | [], _ => true
  | c :: r, lv => rtN c lv && rtL r lv
end
set_option maxRecDepth 100000 in
set_option maxHeartbeats 1000000 in
theorem parts_any (k : Int) (w : World) : Calls Tryz.prog 85 #[.int .i64 k] w fun e w' => e = .returned (.tuple #[.int .i64 (loK k : Nat), .int .i64 (hiK k : Nat)]) ∧ w' = w := by
  unfold loK hiK
  by_cases h5 : k = 5
  · subst h5
    go_enter Tryz.func85, Tryz.ntmps85
    go_wp2_with fail
    go_ret2
    exact ⟨rfl, rfl⟩
  · by_cases h6 : k = 6
    · subst h6
      go_enter Tryz.func85, Tryz.ntmps85
      go_wp2_with fail
      go_ret2
      exact ⟨rfl, rfl⟩
    · by_cases h7 : k = 7
      · subst h7
        go_enter Tryz.func85, Tryz.ntmps85
        go_wp2_with fail
        go_ret2
        exact ⟨rfl, rfl⟩
      · rw [if_neg h5, if_neg h6, if_neg h5, if_neg h6, if_neg h7]
        go_enter Tryz.func85, Tryz.ntmps85
        go_wp2_with fail
        go_ret2
        exact ⟨rfl, rfl⟩
end Go.Proofs.YtjklbbmgjjdalaaGreatDoor
