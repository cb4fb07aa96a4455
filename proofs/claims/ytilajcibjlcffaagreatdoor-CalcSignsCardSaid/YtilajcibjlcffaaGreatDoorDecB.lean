/- Contracts of package dec: unit, read. -/
import Derived.Test.YtilajcibjlcffaaGreatDoorDecA
import Derived.Test.YtilajcibjlcffaaGreatDoorShelf
import Derived.Lib.ConvBytes
set_option linter.unusedSimpArgs false
set_option linter.unusedVariables false

namespace Go.Proofs.YtilajcibjlcffaaGreatDoor
open Go.RowKit

def U64 : Nat := 18446744073709551616
/-- One digit more of a number that is read. -/
def rdStep (o : Option Nat) (c : UInt8) : Option Nat :=
  match o with
  | none => none
  | some n => if 48 ≤ c.toNat ∧ c.toNat ≤ 57 ∧ n * 10 + (c.toNat - 48) < U64 then some (n * 10 + (c.toNat - 48)) else none
def rdFrom (o : Option Nat) (L : List UInt8) : Option Nat := L.foldl rdStep o
def rdV (L : List UInt8) : Nat := (rdFrom (some 0) L).getD 0
def rdOk (L : List UInt8) : Bool := (rdFrom (some 0) L).isSome && !L.isEmpty

theorem rdFrom_none (L : List UInt8) : rdFrom none L = none := by
  induction L with
  | nil => rfl
  | cons c L ih => simpa [rdFrom, rdStep] using ih

/-- A byte as a number. -/
def byt (L : List UInt8) (j : Nat) : Nat := (L.getD j 0).toNat
theorem byt_lt (L : List UInt8) (j : Nat) : byt L j < 256 := by unfold byt; exact (L.getD j 0).toNat_lt
theorem drop_byte (L : List UInt8) (j : Nat) (h : j < L.length) : L.drop j = UInt8.ofNat (byt L j) :: L.drop (j + 1) := by
  rw [List.drop_eq_getElem_cons h]
  congr 1
  simp [byt, List.getD, h]
theorem rd_yes (n c : Nat) (L : List UInt8) (hc : c < 256) (h1 : 48 ≤ c) (h2 : c ≤ 57) (h3 : n * 10 + (c - 48) < U64) : rdFrom (some n) (UInt8.ofNat c :: L) = rdFrom (some (n * 10 + (c - 48))) L := by
  have e : (UInt8.ofNat c).toNat = c := by simp; omega
  show rdFrom (rdStep (some n) _) L = _
  simp only [rdStep, e]
  rw [if_pos ⟨h1, h2, h3⟩]
theorem rd_no (n c : Nat) (L : List UInt8) (hc : c < 256) (h : ¬ (48 ≤ c ∧ c ≤ 57 ∧ n * 10 + (c - 48) < U64)) : rdFrom (some n) (UInt8.ofNat c :: L) = none := by
  have e : (UInt8.ofNat c).toNat = c := by simp; omega
  show rdFrom (rdStep (some n) _) L = _
  simp only [rdStep, e]
  rw [if_neg h, rdFrom_none]

theorem mul64_any (x y hi lo : Nat) (yi : Int) (hyi : yi = (y : Int)) (hx : x < U64) (hy : y < U64) (h : x * y = hi * U64 + lo) (hlo : lo < U64) (w : World) :
    Calls Tryz.prog 80 #[.int .u64 x, .int .u64 yi] w fun e w' => e = .returned (.tuple #[.int .u64 (hi : Int), .int .u64 (lo : Int)]) ∧ w = w' := by
  subst hyi
  unfold U64 at hx hy h hlo
  have e1 : x * y / 18446744073709551616 = hi := by rw [h, Nat.add_comm, Nat.add_mul_div_right _ _ (by omega), Nat.div_eq_of_lt hlo]; omega
  have e2 : x * y % 18446744073709551616 = lo := by rw [h, Nat.add_comm, Nat.add_mul_mod_self_right, Nat.mod_eq_of_lt hlo]
  have := Tryz.bits_Mul64 x y hx hy w
  rw [e1, e2] at this
  exact this.mono fun e w' ⟨h1, h2⟩ => ⟨h1, h2.symm⟩

set_option maxRecDepth 100000 in
set_option maxHeartbeats 1000000 in
theorem unit_any (k : Int) (w : World) : Calls Tryz.prog 79 #[.int .i64 k] w fun e w' => e = .returned (.int .u64 ((10 ^ (6 - (min (max k 0) 6)).toNat : Nat) : Int)) ∧ w = w' := by
  obtain ⟨m, hm, hm6⟩ : ∃ m : Nat, (6 - (min (max k 0) 6)).toNat = m ∧ m ≤ 6 := ⟨_, rfl, by omega⟩
  rw [hm]
  have hk : (6 : Int) - min (max k 0) 6 = (m : Int) := by omega
  clear hm
  go_enter Tryz.func79, Tryz.ntmps79
  go_wp2_with fail
  go_loopg [3, 8] m (fun g v3 v8 wr => wr = w ∧ ∃ i u : Nat, i + g = m ∧ v8 = .int .i64 i ∧ v3 = .int .u64 u ∧ u = 10 ^ i)
  case atStart => exact ⟨rfl, 0, 1, by omega, rfl, rfl, rfl⟩
  case round =>
    obtain ⟨rfl, i, u, hi, rfl, rfl, hu⟩ := hrel
    have HU := Lib.hid hu
    have hub : i < 6 → u ≤ 100000 := fun h => by
      rw [hu]
      exact Nat.le_trans (Nat.pow_le_pow_right (by omega) (by omega : i ≤ 5)) (by decide)
    clear hu
    by_cases hgo : i < m
    · have hub' := hub (by omega)
      clear hub
      go_wp2
      go_roundg (gk - 1)
      case measure => omega
      case rel => exact ⟨rfl, i + 1, u * 10, by omega, by go_num, by go_num, by rw [HU.out, Nat.pow_succ]⟩
    · have e : i = m := by omega
      subst e
      clear hub
      go_wp2
      go_ret
      exact ⟨by rw [← HU.out]; rfl, rfl⟩

set_option maxRecDepth 100000 in
set_option maxHeartbeats 2000000 in
theorem read_any (s : ByteArray) (hs : s.size ≤ 1000000) (w : World) :
    Calls Tryz.prog 78 #[.string s] w fun e w' => e = .returned (.tuple #[.int .u64 (rdV s.data.toList : Int), .bool (rdOk s.data.toList)]) ∧ Below w.heap.size w w' := by
  have hconv := Lib.run_convert_string_bytes (P := Tryz.prog) w 9 90 5 s Tryz.underlying9 Tryz.underlying90 Tryz.underlying5
  obtain ⟨W0, hW0⟩ : ∃ W0, Lib.bytesWorld w 5 s = W0 := ⟨_, rfl⟩
  have hcell : ∀ j, j < s.size → W0.cell? ⟨w.heap.size, 0 + j, none⟩ = some (.int .u8 (byt s.data.toList j : Int)) := fun j hj => by
    rw [← hW0, Nat.zero_add]
    exact Lib.bytesWorld_cell w _ s j hj
  have hbel : Below w.heap.size w W0 := by
    rw [← hW0]
    exact ⟨rfl, rfl, rfl, by rw [Lib.bytesWorld_size]; omega, fun k hk => Lib.bytesWorld_at_old w _ s k hk⟩
  rw [hW0] at hconv
  clear hW0
  have HC := Lib.hid hcell
  clear hcell
  have hsl : s.size = s.data.toList.length := by simp
  have HSL := Lib.hid hsl
  clear hsl
  obtain ⟨L, hL⟩ : ∃ L, s.data.toList = L := ⟨_, rfl⟩
  have HL := Lib.hid hL
  rw [hL] at HC HSL ⊢
  clear hL
  go_enter Tryz.func78, Tryz.ntmps78
  go_wp2_with fail
  clear hconv
  go_loopg [4, 13] s.size (fun g v4 v13 wr => wr = W0 ∧ ∃ i n : Nat, i + g = s.size ∧ v13 = .int .i64 i ∧ v4 = .int .u64 n ∧ n < U64 ∧ rdFrom (some 0) L = rdFrom (some n) (L.drop i))
  case atStart => exact ⟨rfl, 0, 0, by omega, rfl, rfl, by unfold U64; omega, rfl⟩
  case round =>
    obtain ⟨rfl, i, n, hi, rfl, rfl, hn, hrd⟩ := hrel
    have HN := Lib.hid hn
    have HR := Lib.hid hrd
    clear hn hrd
    by_cases hgo : i < s.size
    · obtain ⟨c, hc⟩ : ∃ c, byt L i = c := ⟨_, rfl⟩
      have hc256 : c < 256 := by rw [← hc]; exact byt_lt L i
      have c1 : wr.cell? ⟨w.heap.size, i, none⟩ = some (.int .u8 (c : Int)) := by
        have := HC.out i hgo
        rw [Nat.zero_add, hc] at this
        exact this
      have hdrop := drop_byte L i (by rw [← HSL.out]; exact hgo)
      rw [hc] at hdrop
      have HD := Lib.hid hdrop
      clear hc hdrop
      obtain ⟨hi64, lo, hlo, hlt⟩ : ∃ hi64 lo, n * 10 = hi64 * U64 + lo ∧ lo < U64 := ⟨n * 10 / U64, n * 10 % U64, by rw [Nat.mul_comm (_ / _)]; exact (Nat.div_add_mod _ _).symm, Nat.mod_lt _ (by unfold U64; omega)⟩
      have HLO := Lib.hid hlo
      have HLT := Lib.hid hlt
      obtain ⟨d, hd⟩ : ∃ d : Int, IntKind.u64.wrap ((c : Int) - 48) = d := ⟨_, rfl⟩
      obtain ⟨m, hm⟩ : ∃ m : Int, IntKind.u64.wrap ((lo : Int) + d) = m := ⟨_, rfl⟩
      by_cases hok : 48 ≤ c ∧ c ≤ 57 ∧ n * 10 + (c - 48) < U64
      · have h0 : hi64 = 0 := by
          rcases Nat.eq_zero_or_pos hi64 with h | h
          · exact h
          · have : U64 ≤ hi64 * U64 := Nat.le_mul_of_pos_left _ h
            omega
        subst h0
        have hd2 : d = ((c - 48 : Nat) : Int) := by rw [← hd, IntKind.wrap_u64]; omega
        have hm2 : m = ((n * 10 + (c - 48) : Nat) : Int) := by
          rw [← hm, hd2, IntKind.wrap_u64]
          unfold U64 at hok hlo
          omega
        have hm3 : ¬ m < (lo : Int) := by omega
        have g1 : ¬ c < 48 := by omega
        have g2 : ¬ 57 < c := by omega
        have HM2 := Lib.hid hm2
        have HR2 : Hid (rdFrom (some 0) L = rdFrom (some (n * 10 + (c - 48))) (L.drop (i + 1))) := by
          unfold Hid
          rw [HR.out, HD.out]
          exact rd_yes n c _ hc256 hok.1 hok.2.1 hok.2.2
        have HOK := Lib.hid hok
        clear hok hlo hlt hd2 hm2
        go_wp2_with fail
        refine (mul64_any n 10 0 lo 10 rfl HN.out (by unfold U64; omega) HLO.out HLT.out _).mono ?_
        rintro e w1 ⟨rfl, rfl⟩
        go_wp2_with fail
        go_roundg (gk - 1)
        case measure => omega
        case rel => exact ⟨rfl, i + 1, n * 10 + (c - 48), by omega, by go_num, by rw [← HM2.out], HOK.out.2.2, HR2.out⟩
      · have HR2 : Hid (rdFrom (some 0) L = none) := by
          unfold Hid
          rw [HR.out, HD.out]
          exact rd_no n c _ hc256 hok
        have ev : Hid (rdV L = 0) := by unfold Hid rdV; rw [HR2.out]; rfl
        have eo : Hid (rdOk L = false) := by unfold Hid rdOk; rw [HR2.out]; rfl
        have hbad : c < 48 ∨ 57 < c ∨ 0 < hi64 ∨ m < (lo : Int) := by
          rcases Nat.lt_or_ge c 48 with h1 | h1
          · exact .inl h1
          · rcases Nat.lt_or_ge 57 c with h2 | h2
            · exact .inr (.inl h2)
            · rcases Nat.eq_zero_or_pos hi64 with h3 | h3
              · right; right; right
                subst h3
                rw [← hm, ← hd, IntKind.wrap_u64, IntKind.wrap_u64]
                unfold U64 at hok hlo hlt
                omega
              · exact .inr (.inr (.inl h3))
        clear hok hlo hlt
        have fin : ∀ W : World, Below w.heap.size w W → (Ending.returned (.tuple #[.int .u64 0, .bool false]) = .returned (.tuple #[.int .u64 (rdV L : Int), .bool (rdOk L)]) ∧ Below w.heap.size w W) := fun W h => ⟨by rw [ev.out, eo.out]; rfl, h⟩
        by_cases g1 : c < 48
        · clear hbad
          go_wp2_with fail
          refine (mul64_any n 10 hi64 lo 10 rfl HN.out (by unfold U64; omega) HLO.out HLT.out _).mono ?_
          rintro e w1 ⟨rfl, rfl⟩
          go_wp2_with fail
          go_ret2
          exact fin _ hbel
        · by_cases g2 : 57 < c
          · clear hbad
            go_wp2_with fail
            refine (mul64_any n 10 hi64 lo 10 rfl HN.out (by unfold U64; omega) HLO.out HLT.out _).mono ?_
            rintro e w1 ⟨rfl, rfl⟩
            go_wp2_with fail
            go_ret2
            exact fin _ hbel
          · by_cases g3 : 0 < hi64
            · clear hbad
              go_wp2_with fail
              refine (mul64_any n 10 hi64 lo 10 rfl HN.out (by unfold U64; omega) HLO.out HLT.out _).mono ?_
              rintro e w1 ⟨rfl, rfl⟩
              go_wp2_with fail
              go_ret2
              exact fin _ hbel
            · have g4 : m < (lo : Int) := by omega
              clear hbad
              go_wp2_with fail
              refine (mul64_any n 10 hi64 lo 10 rfl HN.out (by unfold U64; omega) HLO.out HLT.out _).mono ?_
              rintro e w1 ⟨rfl, rfl⟩
              go_wp2_with fail
              go_ret2
              exact fin _ hbel
    · have hend : Hid (rdFrom (some 0) L = some n) := by
        unfold Hid
        rw [HR.out, List.drop_of_length_le (by rw [← HSL.out]; omega)]
        rfl
      have ev : Hid (rdV L = n) := by unfold Hid rdV; rw [hend.out]; rfl
      have eo : Hid (rdOk L = !s.toList.isEmpty) := by
        unfold Hid rdOk
        rw [hend.out, ← HL.out, Lib.toList_data]
        simp
      go_wp2
      go_ret2
      exact ⟨by rw [ev.out, eo.out]; rfl, hbel⟩
end Go.Proofs.YtilajcibjlcffaaGreatDoor
