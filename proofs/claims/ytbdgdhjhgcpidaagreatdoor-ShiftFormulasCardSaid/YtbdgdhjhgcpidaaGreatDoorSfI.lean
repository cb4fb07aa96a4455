/- Contracts of package dec: part, sign, Add, Sub, Neg. Contracts of package dec: unit, read. Contract of dec.Parse. Contract of dec.digits. Contracts of dec.Text, and of Div where the number of two words has one; the law's helper awake. -/
import Derived.Test.YtbdgdhjhgcpidaaGreatDoorSfH
import Derived.Test.YtbdgdhjhgcpidaaGreatDoorSfA
import Derived.Lib.ConvBytes
import Derived.Deep.DeepCutAuto
import Derived.Laws.BytesArg
import Derived.Lib.TrimByte
set_option linter.unusedSimpArgs false
set_option linter.unusedVariables false
namespace Go.Proofs.YtbdgdhjhgcpidaaGreatDoor
open Go.RowKit
def sv (mi : Bool) (x : Nat) : Int := if mi then -(x : Int) else (x : Int)
def inR (z : Int) : Bool := decide (-9223372036854775808 ≤ z) && decide (z ≤ 9223372036854775807)
def okV (z : Int) : Int := if inR z then z else 0
def okE (z : Int) : Int := if inR z then 0 else 31
theorem inR_yes {z : Int} (h1 : -9223372036854775808 ≤ z) (h2 : z ≤ 9223372036854775807) : inR z = true := by simp [inR, h1, h2]
theorem inR_no {z : Int} (h : z < -9223372036854775808 ∨ 9223372036854775807 < z) : inR z = false := by
  unfold inR
  rcases h with h | h
  · rw [decide_eq_false (by omega)]; rfl
  · rw [decide_eq_false (by omega : ¬ z ≤ 9223372036854775807)]; simp
theorem okV_yes {z : Int} (h1 : -9223372036854775808 ≤ z) (h2 : z ≤ 9223372036854775807) : okV z = z := by simp [okV, inR_yes h1 h2]
theorem okE_yes {z : Int} (h1 : -9223372036854775808 ≤ z) (h2 : z ≤ 9223372036854775807) : okE z = 0 := by simp [okE, inR_yes h1 h2]
theorem okV_no {z : Int} (h : z < -9223372036854775808 ∨ 9223372036854775807 < z) : okV z = 0 := by simp [okV, inR_no h]
theorem okE_no {z : Int} (h : z < -9223372036854775808 ∨ 9223372036854775807 < z) : okE z = 31 := by simp [okE, inR_no h]
theorem toBad_is (mi : Bool) (x : Nat) : toBad mi x = !inR (sv mi x) := by
  unfold toBad inR sv M63
  cases mi
  · simp only [Bool.not_false, Bool.true_and, Bool.false_eq_true, if_false]
    rw [Bool.eq_iff_iff]
    simp
    omega
  · simp only [Bool.not_true, Bool.false_and, Bool.or_false, if_true]
    rw [Bool.eq_iff_iff]
    simp
    omega
theorem toV_is (mi : Bool) (x : Nat) : toV mi x = okV (sv mi x) := by
  unfold toV okV
  rw [toBad_is]
  cases inR (sv mi x) <;> simp [sv]
theorem toE_is (mi : Bool) (x : Nat) : toE mi x = okE (sv mi x) := by
  unfold toE okE
  rw [toBad_is]
  cases inR (sv mi x) <;> simp
set_option maxRecDepth 100000 in
set_option maxHeartbeats 1000000 in
theorem part_any (d : Int) (hlo : -9223372036854775808 ≤ d) (hhi : d ≤ 9223372036854775807) (w : World) :
    Calls Tryz.prog 65 #[.int .i64 d] w fun e w' => e = .returned (.int .u64 (d.natAbs : Int)) ∧ w = w' := by
  by_cases h0 : d < 0
  · obtain ⟨u, hu⟩ : ∃ u, IntKind.u64.wrap d = u := ⟨_, rfl⟩
    have e2 : IntKind.u64.wrap (-u) = (d.natAbs : Int) := by
      rw [← hu, IntKind.wrap_u64, IntKind.wrap_u64]
      omega
    clear hlo hhi
    go_enter Tryz.func65, Tryz.ntmps65
    go_wp2
    go_ret
    exact ⟨rfl, rfl⟩
  · have e1 : IntKind.u64.wrap d = (d.natAbs : Int) := by
      rw [IntKind.wrap_u64]
      omega
    clear hlo hhi
    go_enter Tryz.func65, Tryz.ntmps65
    go_wp2
    go_ret
    exact ⟨rfl, rfl⟩
set_option maxRecDepth 100000 in
set_option maxHeartbeats 1000000 in
theorem sign_any (n : Nat) (hn : n ≤ 18446744073709551615) (mi : Bool) (w : World) :
    Calls Tryz.prog 57 #[.int .u64 n, .bool mi] w fun e w' => e = .returned (.tuple #[.int .i64 (okV (sv mi n)), .int .i64 (okE (sv mi n))]) ∧ w = w' := by
  cases mi
  · have hs : sv false n = (n : Int) := rfl
    rw [hs]
    clear hs
    by_cases h : n < 9223372036854775808
    · have ev := Lib.hid (okV_yes (z := (n : Int)) (by omega) (by omega))
      have ee := Lib.hid (okE_yes (z := (n : Int)) (by omega) (by omega))
      have e1 : IntKind.i64.wrap (n : Int) = (n : Int) := IntWalk.i64_in _ (by omega)
      have t1 : decide ((n : Int) < 9223372036854775808) = true := by simp; omega
      clear h hn
      go_enter Tryz.func57, Tryz.ntmps57
      go_wp2
      go_ret2
      exact ⟨by rw [ev.out, ee.out]; rfl, rfl⟩
    · have ev := Lib.hid (okV_no (z := (n : Int)) (by omega))
      have ee := Lib.hid (okE_no (z := (n : Int)) (by omega))
      have t1 : decide ((n : Int) < 9223372036854775808) = false := by simp; omega
      clear h hn
      go_enter Tryz.func57, Tryz.ntmps57
      go_wp2
      go_ret2
      exact ⟨by rw [ev.out, ee.out]; rfl, rfl⟩
  · have hs : sv true n = -(n : Int) := rfl
    rw [hs]
    clear hs
    by_cases h : n ≤ 9223372036854775808
    · have ev := Lib.hid (okV_yes (z := -(n : Int)) (by omega) (by omega))
      have ee := Lib.hid (okE_yes (z := -(n : Int)) (by omega) (by omega))
      obtain ⟨u, hu⟩ : ∃ u, IntKind.u64.wrap (-(n : Int)) = u := ⟨_, rfl⟩
      have e2 : IntKind.i64.wrap u = -(n : Int) := by
        rw [← hu, IntKind.wrap_u64, IntKind.wrap_i64]
        omega
      have t1 : decide ((n : Int) ≤ 9223372036854775808) = true := by simp; omega
      clear h hn
      go_enter Tryz.func57, Tryz.ntmps57
      go_wp2
      go_ret2
      exact ⟨by rw [ev.out, ee.out]; rfl, rfl⟩
    · have ev := Lib.hid (okV_no (z := -(n : Int)) (by omega))
      have ee := Lib.hid (okE_no (z := -(n : Int)) (by omega))
      have t1 : decide ((n : Int) ≤ 9223372036854775808) = false := by simp; omega
      clear h hn
      go_enter Tryz.func57, Tryz.ntmps57
      go_wp2
      go_ret2
      exact ⟨by rw [ev.out, ee.out]; rfl, rfl⟩
set_option maxRecDepth 100000 in
set_option maxHeartbeats 2000000 in
theorem add_any (a b : Int) (ha1 : -9223372036854775808 ≤ a) (ha2 : a ≤ 9223372036854775807) (hb1 : -9223372036854775808 ≤ b) (hb2 : b ≤ 9223372036854775807) (w : World) :
    Calls Tryz.prog 42 #[.int .i64 a, .int .i64 b] w fun e w' => e = .returned (.tuple #[.int .i64 (okV (a + b)), .int .i64 (okE (a + b))]) ∧ w = w' := by
  obtain ⟨c, hc⟩ : ∃ c, IntKind.i64.wrap (a + b) = c := ⟨_, rfl⟩
  have hc' := hc
  rw [IntKind.wrap_i64] at hc'
  by_cases hin : -9223372036854775808 ≤ a + b ∧ a + b ≤ 9223372036854775807
  · have e1 : a + b = c := by omega
    have ev := Lib.hid (okV_yes hin.1 hin.2)
    have ee := Lib.hid (okE_yes hin.1 hin.2)
    have E1 := Lib.hid e1
    by_cases g1 : a < 0
    all_goals by_cases g2 : b < 0
    all_goals by_cases g3 : c < 0
    all_goals try omega
    all_goals clear hc' hin e1 ha1 ha2 hb1 hb2
    all_goals go_enter Tryz.func42, Tryz.ntmps42
    all_goals go_wp2
    all_goals go_ret2
    all_goals exact ⟨by rw [ev.out, ee.out, E1.out]; rfl, rfl⟩
  · have ev := Lib.hid (okV_no (z := a + b) (by omega))
    have ee := Lib.hid (okE_no (z := a + b) (by omega))
    by_cases g1 : a < 0
    all_goals by_cases g2 : b < 0
    all_goals by_cases g3 : c < 0
    all_goals try omega
    all_goals clear hc' hin ha1 ha2 hb1 hb2
    all_goals go_enter Tryz.func42, Tryz.ntmps42
    all_goals go_wp2
    all_goals go_ret2
    all_goals exact ⟨by rw [ev.out, ee.out]; rfl, rfl⟩
set_option maxRecDepth 100000 in
set_option maxHeartbeats 2000000 in
theorem sub_any (a b : Int) (ha1 : -9223372036854775808 ≤ a) (ha2 : a ≤ 9223372036854775807) (hb1 : -9223372036854775808 ≤ b) (hb2 : b ≤ 9223372036854775807) (w : World) :
    Calls Tryz.prog 35 #[.int .i64 a, .int .i64 b] w fun e w' => e = .returned (.tuple #[.int .i64 (okV (a - b)), .int .i64 (okE (a - b))]) ∧ w = w' := by
  obtain ⟨c, hc⟩ : ∃ c, IntKind.i64.wrap (a - b) = c := ⟨_, rfl⟩
  have hc' := hc
  rw [IntKind.wrap_i64] at hc'
  by_cases hin : -9223372036854775808 ≤ a - b ∧ a - b ≤ 9223372036854775807
  · have e1 : a - b = c := by omega
    have ev := Lib.hid (okV_yes hin.1 hin.2)
    have ee := Lib.hid (okE_yes hin.1 hin.2)
    have E1 := Lib.hid e1
    by_cases g1 : a < 0
    all_goals by_cases g2 : b < 0
    all_goals by_cases g3 : c < 0
    all_goals try omega
    all_goals clear hc' hin e1 ha1 ha2 hb1 hb2
    all_goals go_enter Tryz.func35, Tryz.ntmps35
    all_goals go_wp2
    all_goals go_ret2
    all_goals exact ⟨by rw [ev.out, ee.out, E1.out]; rfl, rfl⟩
  · have ev := Lib.hid (okV_no (z := a - b) (by omega))
    have ee := Lib.hid (okE_no (z := a - b) (by omega))
    by_cases g1 : a < 0
    all_goals by_cases g2 : b < 0
    all_goals by_cases g3 : c < 0
    all_goals try omega
    all_goals clear hc' hin ha1 ha2 hb1 hb2
    all_goals go_enter Tryz.func35, Tryz.ntmps35
    all_goals go_wp2
    all_goals go_ret2
    all_goals exact ⟨by rw [ev.out, ee.out]; rfl, rfl⟩
end Go.Proofs.YtbdgdhjhgcpidaaGreatDoor
namespace Go.Proofs.YtbdgdhjhgcpidaaGreatDoor
open Go.RowKit
def U64 : Nat := 18446744073709551616
def rdStep (o : Option Nat) (c : UInt8) : Option Nat :=
  match o with
  | none => none
  | some n => if 48 ≤ c.toNat ∧ c.toNat ≤ 57 ∧ n * 10 + (c.toNat - 48) < U64 then some (n * 10 + (c.toNat - 48)) else none
def rdFrom (o : Option Nat) (L : List UInt8) : Option Nat := L.foldl rdStep o
def rdV (L : List UInt8) : Nat := (rdFrom (some 0) L).getD 0
def rdOk (L : List UInt8) : Bool := (rdFrom (some 0) L).isSome && !L.isEmpty
theorem rdFrom_none (L : List UInt8) : rdFrom none L = none := by
  induction L with
  | nil => rfl
  | cons c L ih => simpa [rdFrom, rdStep] using ih
def byt (L : List UInt8) (j : Nat) : Nat := (L.getD j 0).toNat
theorem byt_lt (L : List UInt8) (j : Nat) : byt L j < 256 := by unfold byt; exact (L.getD j 0).toNat_lt
theorem drop_byte (L : List UInt8) (j : Nat) (h : j < L.length) : L.drop j = UInt8.ofNat (byt L j) :: L.drop (j + 1) := by
  rw [List.drop_eq_getElem_cons h]
  congr 1
  simp [byt, List.getD, h]
theorem rd_yes (n c : Nat) (L : List UInt8) (hc : c < 256) (h1 : 48 ≤ c) (h2 : c ≤ 57) (h3 : n * 10 + (c - 48) < U64) : rdFrom (some n) (UInt8.ofNat c :: L) = rdFrom (some (n * 10 + (c - 48))) L := by
  have e : (UInt8.ofNat c).toNat = c := by simp; omega
  show rdFrom (rdStep (some n) _) L = _
  simp only [rdStep, e]
  rw [if_pos ⟨h1, h2, h3⟩]
theorem rd_no (n c : Nat) (L : List UInt8) (hc : c < 256) (h : ¬ (48 ≤ c ∧ c ≤ 57 ∧ n * 10 + (c - 48) < U64)) : rdFrom (some n) (UInt8.ofNat c :: L) = none := by
  have e : (UInt8.ofNat c).toNat = c := by simp; omega
  show rdFrom (rdStep (some n) _) L = _
  simp only [rdStep, e]
  rw [if_neg h, rdFrom_none]
theorem mul64_any (x y hi lo : Nat) (yi : Int) (hyi : yi = (y : Int)) (hx : x < U64) (hy : y < U64) (h : x * y = hi * U64 + lo) (hlo : lo < U64) (w : World) :
    Calls Tryz.prog 56 #[.int .u64 x, .int .u64 yi] w fun e w' => e = .returned (.tuple #[.int .u64 (hi : Int), .int .u64 (lo : Int)]) ∧ w = w' := by
  subst hyi
  unfold U64 at hx hy h hlo
  have e1 : x * y / 18446744073709551616 = hi := by rw [h, Nat.add_comm, Nat.add_mul_div_right _ _ (by omega), Nat.div_eq_of_lt hlo]; omega
  have e2 : x * y % 18446744073709551616 = lo := by rw [h, Nat.add_comm, Nat.add_mul_mod_self_right, Nat.mod_eq_of_lt hlo]
  have := Tryz.bits_Mul64 x y hx hy w
  rw [e1, e2] at this
  exact this.mono fun e w' ⟨h1, h2⟩ => ⟨h1, h2.symm⟩
set_option maxRecDepth 100000 in
set_option maxHeartbeats 1000000 in
theorem unit_any (k : Int) (w : World) : Calls Tryz.prog 55 #[.int .i64 k] w fun e w' => e = .returned (.int .u64 ((10 ^ (6 - (min (max k 0) 6)).toNat : Nat) : Int)) ∧ w = w' := by
  obtain ⟨m, hm, hm6⟩ : ∃ m : Nat, (6 - (min (max k 0) 6)).toNat = m ∧ m ≤ 6 := ⟨_, rfl, by omega⟩
  rw [hm]
  have hk : (6 : Int) - min (max k 0) 6 = (m : Int) := by omega
  clear hm
  go_enter Tryz.func55, Tryz.ntmps55
  go_wp2_with fail
  go_loopg [3, 8] m (fun g v3 v8 wr => wr = w ∧ ∃ i u : Nat, i + g = m ∧ v8 = .int .i64 i ∧ v3 = .int .u64 u ∧ u = 10 ^ i)
  case atStart => exact ⟨rfl, 0, 1, by omega, rfl, rfl, rfl⟩
  case round =>
    obtain ⟨rfl, i, u, hi, rfl, rfl, hu⟩ := hrel
    have HU := Lib.hid hu
    have hub : i < 6 → u ≤ 100000 := fun h => by
      rw [hu]
      exact Nat.le_trans (Nat.pow_le_pow_right (by omega) (by omega : i ≤ 5)) (by decide)
    clear hu
    by_cases hgo : i < m
    · have hub' := hub (by omega)
      clear hub
      go_wp2
      go_roundg (gk - 1)
      case measure => omega
      case rel => exact ⟨rfl, i + 1, u * 10, by omega, by go_num, by go_num, by rw [HU.out, Nat.pow_succ]⟩
    · have e : i = m := by omega
      subst e
      clear hub
      go_wp2
      go_ret
      exact ⟨by rw [← HU.out]; rfl, rfl⟩
set_option maxRecDepth 100000 in
set_option maxHeartbeats 2000000 in
theorem read_any (s : ByteArray) (hs : s.size ≤ 1000000) (w : World) :
    Calls Tryz.prog 54 #[.string s] w fun e w' => e = .returned (.tuple #[.int .u64 (rdV s.data.toList : Int), .bool (rdOk s.data.toList)]) ∧ Below w.heap.size w w' := by
  have hconv := Lib.run_convert_string_bytes (P := Tryz.prog) w 9 125 5 s Tryz.underlying9 Tryz.underlying125 Tryz.underlying5
  obtain ⟨W0, hW0⟩ : ∃ W0, Lib.bytesWorld w 5 s = W0 := ⟨_, rfl⟩
  have hcell : ∀ j, j < s.size → W0.cell? ⟨w.heap.size, 0 + j, none⟩ = some (.int .u8 (byt s.data.toList j : Int)) := fun j hj => by
    rw [← hW0, Nat.zero_add]
    exact Lib.bytesWorld_cell w _ s j hj
  have hbel : Below w.heap.size w W0 := by
    rw [← hW0]
    exact ⟨rfl, rfl, rfl, by rw [Lib.bytesWorld_size]; omega, fun k hk => Lib.bytesWorld_at_old w _ s k hk⟩
  rw [hW0] at hconv
  clear hW0
  have HC := Lib.hid hcell
  clear hcell
  have hsl : s.size = s.data.toList.length := by simp
  have HSL := Lib.hid hsl
  clear hsl
  obtain ⟨L, hL⟩ : ∃ L, s.data.toList = L := ⟨_, rfl⟩
  have HL := Lib.hid hL
  rw [hL] at HC HSL ⊢
  clear hL
  go_enter Tryz.func54, Tryz.ntmps54
  go_wp2_with fail
  clear hconv
  go_loopg [4, 13] s.size (fun g v4 v13 wr => wr = W0 ∧ ∃ i n : Nat, i + g = s.size ∧ v13 = .int .i64 i ∧ v4 = .int .u64 n ∧ n < U64 ∧ rdFrom (some 0) L = rdFrom (some n) (L.drop i))
  case atStart => exact ⟨rfl, 0, 0, by omega, rfl, rfl, by unfold U64; omega, rfl⟩
  case round =>
    obtain ⟨rfl, i, n, hi, rfl, rfl, hn, hrd⟩ := hrel
    have HN := Lib.hid hn
    have HR := Lib.hid hrd
    clear hn hrd
    by_cases hgo : i < s.size
    · obtain ⟨c, hc⟩ : ∃ c, byt L i = c := ⟨_, rfl⟩
      have hc256 : c < 256 := by rw [← hc]; exact byt_lt L i
      have c1 : wr.cell? ⟨w.heap.size, i, none⟩ = some (.int .u8 (c : Int)) := by
        have := HC.out i hgo
        rw [Nat.zero_add, hc] at this
        exact this
      have hdrop := drop_byte L i (by rw [← HSL.out]; exact hgo)
      rw [hc] at hdrop
      have HD := Lib.hid hdrop
      clear hc hdrop
      obtain ⟨hi64, lo, hlo, hlt⟩ : ∃ hi64 lo, n * 10 = hi64 * U64 + lo ∧ lo < U64 := ⟨n * 10 / U64, n * 10 % U64, by rw [Nat.mul_comm (_ / _)]; exact (Nat.div_add_mod _ _).symm, Nat.mod_lt _ (by unfold U64; omega)⟩
      have HLO := Lib.hid hlo
      have HLT := Lib.hid hlt
      obtain ⟨d, hd⟩ : ∃ d : Int, IntKind.u64.wrap ((c : Int) - 48) = d := ⟨_, rfl⟩
      obtain ⟨m, hm⟩ : ∃ m : Int, IntKind.u64.wrap ((lo : Int) + d) = m := ⟨_, rfl⟩
      by_cases hok : 48 ≤ c ∧ c ≤ 57 ∧ n * 10 + (c - 48) < U64
      · have h0 : hi64 = 0 := by
          rcases Nat.eq_zero_or_pos hi64 with h | h
          · exact h
          · have : U64 ≤ hi64 * U64 := Nat.le_mul_of_pos_left _ h
            omega
        subst h0
        have hd2 : d = ((c - 48 : Nat) : Int) := by rw [← hd, IntKind.wrap_u64]; omega
        have hm2 : m = ((n * 10 + (c - 48) : Nat) : Int) := by
          rw [← hm, hd2, IntKind.wrap_u64]
          unfold U64 at hok hlo
          omega
        have hm3 : ¬ m < (lo : Int) := by omega
        have g1 : ¬ c < 48 := by omega
        have g2 : ¬ 57 < c := by omega
        have HM2 := Lib.hid hm2
        have HR2 : Hid (rdFrom (some 0) L = rdFrom (some (n * 10 + (c - 48))) (L.drop (i + 1))) := by
          unfold Hid
          rw [HR.out, HD.out]
          exact rd_yes n c _ hc256 hok.1 hok.2.1 hok.2.2
        have HOK := Lib.hid hok
        clear hok hlo hlt hd2 hm2
        go_wp2_with fail
        refine (mul64_any n 10 0 lo 10 rfl HN.out (by unfold U64; omega) HLO.out HLT.out _).mono ?_
        rintro e w1 ⟨rfl, rfl⟩
        go_wp2_with fail
        go_roundg (gk - 1)
        case measure => omega
        case rel => exact ⟨rfl, i + 1, n * 10 + (c - 48), by omega, by go_num, by rw [← HM2.out], HOK.out.2.2, HR2.out⟩
      · have HR2 : Hid (rdFrom (some 0) L = none) := by
          unfold Hid
          rw [HR.out, HD.out]
          exact rd_no n c _ hc256 hok
        have ev : Hid (rdV L = 0) := by unfold Hid rdV; rw [HR2.out]; rfl
        have eo : Hid (rdOk L = false) := by unfold Hid rdOk; rw [HR2.out]; rfl
        have hbad : c < 48 ∨ 57 < c ∨ 0 < hi64 ∨ m < (lo : Int) := by
          rcases Nat.lt_or_ge c 48 with h1 | h1
          · exact .inl h1
          · rcases Nat.lt_or_ge 57 c with h2 | h2
            · exact .inr (.inl h2)
            · rcases Nat.eq_zero_or_pos hi64 with h3 | h3
              · right; right; right
                subst h3
                rw [← hm, ← hd, IntKind.wrap_u64, IntKind.wrap_u64]
                unfold U64 at hok hlo hlt
                omega
              · exact .inr (.inr (.inl h3))
        clear hok hlo hlt
        have fin : ∀ W : World, Below w.heap.size w W → (Ending.returned (.tuple #[.int .u64 0, .bool false]) = .returned (.tuple #[.int .u64 (rdV L : Int), .bool (rdOk L)]) ∧ Below w.heap.size w W) := fun W h => ⟨by rw [ev.out, eo.out]; rfl, h⟩
        by_cases g1 : c < 48
        · clear hbad
          go_wp2_with fail
          refine (mul64_any n 10 hi64 lo 10 rfl HN.out (by unfold U64; omega) HLO.out HLT.out _).mono ?_
          rintro e w1 ⟨rfl, rfl⟩
          go_wp2_with fail
          go_ret2
          exact fin _ hbel
        · by_cases g2 : 57 < c
          · clear hbad
            go_wp2_with fail
            refine (mul64_any n 10 hi64 lo 10 rfl HN.out (by unfold U64; omega) HLO.out HLT.out _).mono ?_
            rintro e w1 ⟨rfl, rfl⟩
            go_wp2_with fail
            go_ret2
            exact fin _ hbel
          · by_cases g3 : 0 < hi64
            · clear hbad
              go_wp2_with fail
              refine (mul64_any n 10 hi64 lo 10 rfl HN.out (by unfold U64; omega) HLO.out HLT.out _).mono ?_
              rintro e w1 ⟨rfl, rfl⟩
              go_wp2_with fail
              go_ret2
              exact fin _ hbel
            · have g4 : m < (lo : Int) := by omega
              clear hbad
              go_wp2_with fail
              refine (mul64_any n 10 hi64 lo 10 rfl HN.out (by unfold U64; omega) HLO.out HLT.out _).mono ?_
              rintro e w1 ⟨rfl, rfl⟩
              go_wp2_with fail
              go_ret2
              exact fin _ hbel
    · have hend : Hid (rdFrom (some 0) L = some n) := by
        unfold Hid
        rw [HR.out, List.drop_of_length_le (by rw [← HSL.out]; omega)]
        rfl
      have ev : Hid (rdV L = n) := by unfold Hid rdV; rw [hend.out]; rfl
      have eo : Hid (rdOk L = !s.toList.isEmpty) := by
        unfold Hid rdOk
        rw [hend.out, ← HL.out, Lib.toList_data]
        simp
      go_wp2
      go_ret2
      exact ⟨by rw [ev.out, eo.out]; rfl, hbel⟩
end Go.Proofs.YtbdgdhjhgcpidaaGreatDoor
namespace Go.Proofs.YtbdgdhjhgcpidaaGreatDoor
open Go.RowKit
theorem shaped_below {P : Program} {w w' : World} (h : w.ShapedOpen P) (hb : Below w.heap.size w w') : w'.ShapedOpen P := h.keptBut (hb.frame (fun _ => False)) (fun _ h => h.elim)
def prsMi (L : List UInt8) : Bool := Lib.hasPrefix L [45]
def prsA (L : List UInt8) : List UInt8 := (Lib.cut (Lib.trimPrefix L [45]) [46]).1
def prsB (L : List UInt8) : List UInt8 := if (Lib.cut (Lib.trimPrefix L [45]) [46]).2.2 then (Lib.cut (Lib.trimPrefix L [45]) [46]).2.1 else [48]
def prsN (L : List UInt8) : Nat := rdV (prsA L) * 1000000 + rdV (prsB L) * 10 ^ (6 - (prsB L).length)
def prsOk (L : List UInt8) : Bool := rdOk (prsA L) && (rdOk (prsB L) && (decide ((prsB L).length ≤ 6) && (decide (prsN L < U64) && inR (sv (prsMi L) (prsN L)))))
def prsV (L : List UInt8) : Int := if prsOk L then sv (prsMi L) (prsN L) else 0
theorem rd_lt : ∀ (L : List UInt8) (n v : Nat), rdFrom (some n) L = some v → v < (n + 1) * 10 ^ L.length
  | [], n, v, h => by
    have : some n = some v := h
    cases this
    simp
  | c :: L, n, v, h => by
    have h1 : rdFrom (rdStep (some n) c) L = some v := h
    simp only [rdStep] at h1
    split at h1
    · rename_i hc
      have ih := rd_lt L _ v h1
      refine Nat.lt_of_lt_of_le ih ?_
      rw [List.length_cons, Nat.pow_succ, Nat.mul_comm (10 ^ L.length), ← Nat.mul_assoc]
      exact Nat.mul_le_mul_right _ (by omega)
    · rw [rdFrom_none] at h1
      cases h1
theorem rdV_lt (L : List UInt8) : rdV L < 10 ^ L.length := by
  unfold rdV
  cases h : rdFrom (some 0) L with
  | none => exact Nat.pow_pos (by omega)
  | some v => simpa using rd_lt L 0 v h
theorem rdV_u64 (L : List UInt8) : rdV L < U64 := by
  have key : ∀ (L : List UInt8) (n v : Nat), n < U64 → rdFrom (some n) L = some v → v < U64 := by
    intro L
    induction L with
    | nil =>
      intro n v hn h
      have : some n = some v := h
      cases this
      exact hn
    | cons c L ih =>
      intro n v hn h
      have h1 : rdFrom (rdStep (some n) c) L = some v := h
      simp only [rdStep] at h1
      split at h1
      · rename_i hc
        exact ih _ v hc.2.2 h1
      · rw [rdFrom_none] at h1
        cases h1
  unfold rdV
  cases h : rdFrom (some 0) L with
  | none => unfold U64; simp
  | some v => exact key L 0 v (by unfold U64; omega) h
theorem cut_len1 (s sep : List UInt8) : (Lib.cut s sep).1.length ≤ s.length := by
  unfold Lib.cut
  split
  · simp; omega
  · exact Nat.le_refl _
theorem cut_len2 (s sep : List UInt8) : (Lib.cut s sep).2.1.length ≤ s.length := by
  unfold Lib.cut
  split
  · simp
  · simp
theorem trimPrefix_len (s p : List UInt8) : (Lib.trimPrefix s p).length ≤ s.length := by
  unfold Lib.trimPrefix
  split <;> simp
theorem unit_at (l u : Nat) (hl : l ≤ 6) (hu : u = 10 ^ (6 - l)) (w : World) : Calls Tryz.prog 55 #[.int .i64 l] w fun e w' => e = .returned (.int .u64 (u : Int)) ∧ w = w' := by
  have := unit_any (l : Int) w
  rw [show (6 - min (max (l : Int) 0) 6).toNat = 6 - l from by omega, ← hu] at this
  exact this
theorem read_list (A : List UInt8) (hA : A.length ≤ 1000000) (w : World) :
    Calls Tryz.prog 54 #[.string ⟨A.toArray⟩] w fun e w' => e = .returned (.tuple #[.int .u64 (rdV A : Int), .bool (rdOk A)]) ∧ Below w.heap.size w w' := by
  have e1 : (⟨A.toArray⟩ : ByteArray).data.toList = A := by simp
  have := read_any ⟨A.toArray⟩ (by rw [Lib.size_eq]; simpa using hA) w
  rw [e1] at this
  exact this
theorem cutPrefix_any (s : ByteArray) (mi : Bool) (R : List UInt8) (h1 : Lib.hasPrefix s.data.toList [45] = mi) (h2 : Lib.trimPrefix s.data.toList [45] = R) (w : World) :
    Calls Tryz.prog 36 #[.string s, .string ⟨#[45]⟩] w fun e w' => e = .returned (.tuple #[.string ⟨R.toArray⟩, .bool mi]) ∧ w = w' := by
  subst h1 h2
  exact (Tryz.strings_CutPrefix s ⟨#[45]⟩ w).mono fun e w' ⟨h1, h2⟩ => ⟨h1, h2.symm⟩
theorem cut_point (R A B : List UInt8) (pt : Bool) (h : Lib.cut R [46] = (A, B, pt)) (hlen : R.length ≤ 1000000) (w : World) (hsh : w.ShapedOpen Tryz.prog) :
    Calls Tryz.prog 53 #[.string ⟨R.toArray⟩, .string ⟨#[46]⟩] w fun e w' => e = .returned (.tuple #[.string ⟨A.toArray⟩, .string ⟨B.toArray⟩, .bool pt]) ∧ Below w.heap.size w w' := by
  refine (Tryz.strings_Cut_shaped ⟨R.toArray⟩ ⟨#[46]⟩ w hsh (by rw [Lib.size_eq]; simp; omega)).mono fun e w' ⟨h1, n, h2⟩ => ?_
  have e1 : (⟨R.toArray⟩ : ByteArray).data.toList = R := by simp
  have e2 : (⟨#[46]⟩ : ByteArray).data.toList = [46] := rfl
  rw [e1, e2, h] at h1
  subst h2
  exact ⟨h1, bel_drewN (Below.refl _ _) _⟩
set_option maxRecDepth 100000 in
set_option maxHeartbeats 2000000 in
theorem parse_any (s : ByteArray) (hs : s.size ≤ 100000) (w : World) (hsh : w.ShapedOpen Tryz.prog) :
    Calls Tryz.prog 34 #[.string s] w fun e w' => e = .returned (.tuple #[.int .i64 (prsV s.data.toList), .bool (prsOk s.data.toList)]) ∧ Below w.heap.size w w' := by
  have hl : s.data.toList.length ≤ 100000 := by rw [← Lib.size_eq]; exact hs
  obtain ⟨L, hL⟩ : ∃ L, s.data.toList = L := ⟨_, rfl⟩
  obtain ⟨mi, hmi⟩ : ∃ mi, Lib.hasPrefix s.data.toList [45] = mi := ⟨_, rfl⟩
  obtain ⟨R, hR⟩ : ∃ R, Lib.trimPrefix s.data.toList [45] = R := ⟨_, rfl⟩
  obtain ⟨⟨A, B0, pt⟩, hcut⟩ : ∃ x, Lib.cut R [46] = x := ⟨_, rfl⟩
  obtain ⟨B, hB⟩ : ∃ B, (if pt then B0 else [48]) = B := ⟨_, rfl⟩
  have hRl : R.length ≤ 100000 := by rw [← hR]; exact Nat.le_trans (trimPrefix_len _ _) hl
  have hAl : A.length ≤ 100000 := by have := cut_len1 R [46]; rw [hcut] at this; exact Nat.le_trans this hRl
  have hB0l : B0.length ≤ 100000 := by have := cut_len2 R [46]; rw [hcut] at this; exact Nat.le_trans this hRl
  have hBl : B.length ≤ 100000 := by rw [← hB]; split; exact hB0l; simp
  have eMi : prsMi L = mi := by rw [← hL]; exact hmi
  have eA : prsA L = A := by unfold prsA; rw [← hL, hR, hcut]
  have eB : prsB L = B := by unfold prsB; rw [← hL, hR, hcut]; exact hB
  rw [hL]
  have H1 := Lib.hid hmi
  have H2 := Lib.hid hR
  have H3 := Lib.hid hcut
  have H4 := Lib.hid hB
  have H5 := Lib.hid (And.intro eMi (And.intro eA eB))
  have HSH := Lib.hid hsh
  clear hL hmi hR hcut hB eMi eA eB hsh hl
  go_enter Tryz.func34, Tryz.ntmps34
  go_wp2_with fail
  refine (cutPrefix_any s mi R H1.out H2.out _).mono ?_
  rintro e w1 ⟨rfl, rfl⟩
  go_wp2_with fail
  refine (cut_point R A B0 pt H3.out (by omega) _ HSH.out).mono ?_
  rintro e w1 ⟨rfl, hb1⟩
  have hs1 := hb1.size
  go_upto_if 29 with fail
  go_cut [7] (fun v7 wx => wx = w1 ∧ v7 = .string ⟨B.toArray⟩)
  case first =>
    cases pt
    · have hB := H4.out
      simp at hB
      subst hB
      go_wp2_with fail
      go_meet
      exact ⟨rfl, rfl⟩
    · have hB := H4.out
      simp at hB
      subst hB
      go_wp2_with fail
      go_meet
      exact ⟨rfl, rfl⟩
  case rest =>
    obtain ⟨rfl, rfl⟩ := hcut
    go_wp2_with fail
    refine (read_list A (by omega) _).mono ?_
    rintro e w2 ⟨rfl, hb2⟩
    have hs2 := hb2.size
    go_wp2_with fail
    refine (read_list B (by omega) _).mono ?_
    rintro e w3 ⟨rfl, hb3⟩
    have hs3 := hb3.size
    have hbw : Below w.heap.size w w3 := bel_call hb3 (bel_call hb2 hb1 (by omega)) (by omega)
    clear hb1 hb2 hb3
    obtain ⟨n, hn⟩ : ∃ n, rdV A = n := ⟨_, rfl⟩
    obtain ⟨m, hm⟩ : ∃ m, rdV B = m := ⟨_, rfl⟩
    have fin0 : Hid (prsOk L = false) → ∀ W : World, Below w.heap.size w W → (Ending.returned (.tuple #[.int .i64 0, .bool false]) = .returned (.tuple #[.int .i64 (prsV L), .bool (prsOk L)]) ∧ Below w.heap.size w W) := fun h W hW => ⟨by unfold prsV; rw [h.out]; rfl, hW⟩
    have hnU : n < U64 := by rw [← hn]; exact rdV_u64 A
    have hmB : m < 10 ^ B.length := by rw [← hm]; exact rdV_lt B
    cases oA : rdOk A
    · have hbad : Hid (prsOk L = false) := by unfold Hid prsOk; rw [H5.out.2.1, oA]; rfl
      have HF := Lib.hid fin0
      clear fin0 hnU hmB
      go_wp2_with fail
      go_ret2
      exact HF.out hbad _ hbw
    cases oB : rdOk B
    · have hbad : Hid (prsOk L = false) := by unfold Hid prsOk; rw [H5.out.2.1, H5.out.2.2, oA, oB]; rfl
      have HF := Lib.hid fin0
      clear fin0 hnU hmB
      go_wp2_with fail
      go_ret2
      exact HF.out hbad _ hbw
    by_cases hlen : B.length ≤ 6
    · obtain ⟨u, hu⟩ : ∃ u, u = 10 ^ (6 - B.length) := ⟨_, rfl⟩
      have hmu : m * u < 1000000 := by
        rw [hu]
        have h1 : m * 10 ^ (6 - B.length) < 10 ^ B.length * 10 ^ (6 - B.length) := Nat.mul_lt_mul_of_pos_right hmB (Nat.pow_pos (by omega))
        rw [← Nat.pow_add, show B.length + (6 - B.length) = 6 from by omega] at h1
        exact h1
      obtain ⟨t, ht⟩ : ∃ t, m * u = t := ⟨_, rfl⟩
      rw [ht] at hmu
      have htz : IntKind.u64.wrap ((m : Int) * (u : Int)) = (t : Int) := by
        rw [← Int.natCast_mul, ht]
        exact IntWalk.u64_in _ (by omega)
      have hP : prsN L = n * 1000000 + t := by
        unfold prsN
        rw [H5.out.2.1, H5.out.2.2, hn, hm, ← hu, ht]
      obtain ⟨hi64, lo, hlo, hlt⟩ : ∃ hi64 lo, n * 1000000 = hi64 * U64 + lo ∧ lo < U64 := ⟨n * 1000000 / U64, n * 1000000 % U64, by rw [Nat.mul_comm (_ / _)]; exact (Nat.div_add_mod _ _).symm, Nat.mod_lt _ (by unfold U64; omega)⟩
      obtain ⟨q, hq⟩ : ∃ q, IntKind.u64.wrap ((lo : Int) + (t : Int)) = q := ⟨_, rfl⟩
      have HN := Lib.hid hnU
      have HLO := Lib.hid hlo
      have HLT := Lib.hid hlt
      have HU := Lib.hid hu
      have HLEN := Lib.hid hlen
      have hok0 : prsOk L = (decide (n * 1000000 + t < U64) && inR (sv mi (n * 1000000 + t))) := by
        unfold prsOk
        rw [H5.out.1, H5.out.2.1, H5.out.2.2, oA, oB, hP]
        simp [hlen]
      by_cases hsum : n * 1000000 + t < U64
      · have h0 : hi64 = 0 := by
          rcases Nat.eq_zero_or_pos hi64 with h | h
          · exact h
          · have : U64 ≤ hi64 * U64 := Nat.le_mul_of_pos_left _ h
            omega
        subst h0
        obtain ⟨S, hS⟩ : ∃ S, n * 1000000 + t = S := ⟨_, rfl⟩
        have hq2 : q = (S : Int) := by
          rw [← hq, IntKind.wrap_u64]
          unfold U64 at hsum hlo
          omega
        have hq3 : ¬ q < (lo : Int) := by omega
        have hS64 : S ≤ 18446744073709551615 := by unfold U64 at hsum; omega
        rw [hq2] at hq hq3
        have HS64 := Lib.hid hS64
        rw [hS] at hP
        have hok1 : prsOk L = inR (sv mi S) := by rw [hok0, hS, decide_eq_true (by rw [← hS]; exact hsum)]; rfl
        have hokE : (okE (sv mi S) == 0) = inR (sv mi S) := by unfold okE; cases inR (sv mi S) <;> rfl
        have hval : prsV L = okV (sv mi S) := by
          unfold prsV okV
          rw [hok1, H5.out.1, hP]
        have HV := Lib.hid (And.intro hval hok1)
        clear fin0 hnU hmB hsum hlo hlt hu hok0 hok1 hval hP hS hS64 hq2 ht hmu
        go_wp2_with fail
        refine (unit_at B.length u HLEN.out HU.out _).mono ?_
        rintro e w4 ⟨rfl, rfl⟩
        go_wp2_with fail
        refine (mul64_any n 1000000 0 lo 1000000 rfl HN.out (by unfold U64; omega) HLO.out HLT.out _).mono ?_
        rintro e w5 ⟨rfl, rfl⟩
        go_wp2_with fail
        refine (sign_any S HS64.out mi _).mono ?_
        rintro e w6 ⟨rfl, rfl⟩
        go_wp2_with fail
        go_ret2
        exact ⟨by rw [HV.out.1, HV.out.2, ← hokE]; rfl, hbw⟩
      · have hbad : Hid (prsOk L = false) := by
          unfold Hid
          rw [hok0, decide_eq_false hsum]
          rfl
        have hcase : 0 < hi64 ∨ (hi64 = 0 ∧ q < (lo : Int)) := by
          rcases Nat.eq_zero_or_pos hi64 with h | h
          · right
            refine ⟨h, ?_⟩
            subst h
            rw [← hq, IntKind.wrap_u64]
            unfold U64 at hsum hlo hlt
            omega
          · exact .inl h
        have HF := Lib.hid fin0
        clear fin0 hnU hmB hsum hlo hlt hu hok0 hP ht hmu
        rcases hcase with h | ⟨rfl, h⟩
        · go_wp2_with fail
          refine (unit_at B.length u HLEN.out HU.out _).mono ?_
          rintro e w4 ⟨rfl, rfl⟩
          go_wp2_with fail
          refine (mul64_any n 1000000 hi64 lo 1000000 rfl HN.out (by unfold U64; omega) HLO.out HLT.out _).mono ?_
          rintro e w5 ⟨rfl, rfl⟩
          go_wp2_with fail
          go_ret2
          exact HF.out hbad _ hbw
        · go_wp2_with fail
          refine (unit_at B.length u HLEN.out HU.out _).mono ?_
          rintro e w4 ⟨rfl, rfl⟩
          go_wp2_with fail
          refine (mul64_any n 1000000 0 lo 1000000 rfl HN.out (by unfold U64; omega) HLO.out HLT.out _).mono ?_
          rintro e w5 ⟨rfl, rfl⟩
          go_wp2_with fail
          go_ret2
          exact HF.out hbad _ hbw
    · have hbad : Hid (prsOk L = false) := by unfold Hid prsOk; rw [H5.out.2.1, H5.out.2.2, oA, oB]; simp; omega
      have HF := Lib.hid fin0
      clear fin0 hnU hmB
      go_wp2_with fail
      go_ret2
      exact HF.out hbad _ hbw
end Go.Proofs.YtbdgdhjhgcpidaaGreatDoor
namespace Go.Proofs.YtbdgdhjhgcpidaaGreatDoor
open Go.RowKit
def C8 (d : Nat) : Value := .int .u8 ((48 + d : Nat) : Int)
def padL (n least : Nat) : List Nat := digs n ++ List.replicate (least - (digs n).length) 0
theorem padL_step {m k least : Nat} (h : m ≠ 0 ∨ k < least) (hk : True) : digs m ++ List.replicate (least - k - (digs m).length) 0 = m % 10 :: (digs (m / 10) ++ List.replicate (least - (k + 1) - (digs (m / 10)).length) 0) := by
  by_cases hm : m = 0
  · subst hm
    have hk : k < least := by omega
    simp only [digs_zero, List.nil_append, List.length_nil, Nat.sub_zero, Nat.zero_mod, Nat.zero_div]
    rw [show least - k = (least - (k + 1)) + 1 from by omega, List.replicate_succ]
  · rw [digs_pos hm]
    simp only [List.cons_append, List.length_cons]
    rw [show least - k - ((digs (m / 10)).length + 1) = least - (k + 1) - (digs (m / 10)).length from by omega]
def lettersOf (L : List Nat) : List UInt8 := L.map fun d => UInt8.ofNat (48 + d)
def dgText (n least : Nat) : List UInt8 := lettersOf (padL n least).reverse
theorem one8 (d : Nat) : ∀ u ∈ [C8 d], u.oneCell' = true := by
  intro u hu
  simp at hu
  subst hu
  rfl
def mir (T : List Nat) (i : Nat) : List Nat := (List.range T.length).map fun j => if j < i ∨ T.length - 1 - j < i then nth T (T.length - 1 - j) else nth T j
theorem mir_len (T : List Nat) (i : Nat) : (mir T i).length = T.length := by simp [mir]
theorem mir_nth {T : List Nat} {i j : Nat} (hj : j < T.length) : nth (mir T i) j = if j < i ∨ T.length - 1 - j < i then nth T (T.length - 1 - j) else nth T j := by
  simp [nth, mir, List.getD, hj]
theorem nth_get {T : List Nat} {j : Nat} (h : j < T.length) : nth T j = T[j] := by simp [nth, List.getD, h]
theorem mir_zero (T : List Nat) : mir T 0 = T := by
  apply List.ext_getElem
  · exact mir_len T 0
  · intro j h1 h2
    rw [← nth_get h1, mir_nth h2, if_neg (by omega), nth_get h2]
theorem mir_end {T : List Nat} {i k : Nat} (hik : i + k + 1 = T.length) (h : k ≤ i) : mir T i = T.reverse := by
  apply List.ext_getElem
  · simp [mir_len]
  · intro j h1 h2
    have hj : j < T.length := by simpa [mir_len] using h1
    rw [← nth_get h1, mir_nth hj]
    rw [List.getElem_reverse]
    by_cases hc : j < i ∨ T.length - 1 - j < i
    · rw [if_pos hc, nth_get (by omega)]
    · rw [if_neg hc, nth_get hj]
      congr 1
      omega
theorem mir_empty {T : List Nat} (h : T.length = 0) : mir T 0 = T.reverse := by
  have : T = [] := List.eq_nil_of_length_eq_zero h
  subst this
  rfl
theorem mir_step {T : List Nat} {i k : Nat} (hik : i + k + 1 = T.length) (h : i < k) : ((mir T i).set i (nth T k)).set k (nth T i) = mir T (i + 1) := by
  apply List.ext_getElem
  · simp [mir_len]
  · intro j h1 h2
    have hj : j < T.length := by simpa [mir_len] using h2
    rw [← nth_get h2, mir_nth hj, List.getElem_set]
    by_cases hk : k = j
    · subst hk
      rw [if_pos rfl, if_pos (by omega)]
      congr 1
      omega
    · rw [if_neg hk, List.getElem_set]
      by_cases hi : i = j
      · subst hi
        rw [if_pos rfl, if_pos (by omega)]
        congr 1
        omega
      · rw [if_neg hi, ← nth_get (by simpa [mir_len] using hj), mir_nth hj]
        by_cases hc : j < i ∨ T.length - 1 - j < i
        · rw [if_pos hc, if_pos (by omega)]
        · rw [if_neg hc, if_neg (by omega)]
theorem mapc_getD {A : List Nat} {j : Nat} (h : j < A.length) : (A.map fun d => ((48 + d : Nat) : Int)).getD j 0 = ((48 + nth A j : Nat) : Int) := by simp [nth, List.getD, h]
theorem c8_cell {L : List Nat} {j : Nat} (h : j < L.length) : (L.map C8)[j]? = some (.int .u8 ((48 + nth L j : Nat) : Int)) := by simp [nth, List.getD, h, C8]
theorem own_form {w : World} {base e size n : Nat} {v : Value} {xs : List Value} (h : w.ownsRow base e size v n xs) : ∃ p cap, v = .slice p n cap ∧ n ≤ cap ∧ cap ≤ 9223372036854775807 ∧ (0 < n → ∃ g, p = some ⟨g, 0, none⟩ ∧ base ≤ g ∧ g < w.heap.size) := by
  rcases h.2 with ⟨rfl, rfl⟩ | ⟨g, cap, cur, rfl, hg, hh, hn, hm, r⟩
  · exact ⟨none, 0, rfl, Nat.le_refl _, by omega, fun h => by omega⟩
  · refine ⟨_, cap, rfl, hn, hm, fun _ => ⟨g, rfl, hg, ?_⟩⟩
    rcases Nat.lt_or_ge g w.heap.size with h' | h'
    · exact h'
    · rw [Array.getElem?_eq_none h'] at hh; cases hh
set_option maxRecDepth 100000 in
set_option maxHeartbeats 2000000 in
theorem digits_any (n least : Nat) (hn : n ≤ 18446744073709551615) (hl : least ≤ 100) (w : World) :
    Calls Tryz.prog 67 #[.int .u64 n, .int .i64 least] w fun e w' => e = .returned (.string ⟨(dgText n least).toArray⟩) ∧ Below w.heap.size w w' := by
  obtain ⟨i0, hi, hz0, hz1, hz2⟩ := info_parts info_u8
  obtain ⟨T, hT⟩ : ∃ T, padL n least = T := ⟨_, rfl⟩
  have hTl : T.length ≤ 120 := by
    rw [← hT]
    have h2 := digs_length_le (n := n) (k := 20) (by omega)
    simp [padL]
    omega
  have HT := Lib.hid hT
  have HN := Lib.hid hn
  clear hT hn
  go_enter Tryz.func67, Tryz.ntmps67
  go_wp2_with fail
  go_loopg [0, 5] T.length (fun g v0 v5 wr => ∃ (m : Nat) (L : List Nat), L.length + g = T.length ∧ m ≤ 18446744073709551615 ∧ v0 = .int .u64 m ∧ wr.ownsRow w.heap.size 5 1 v5 L.length (L.map C8) ∧ Below w.heap.size w wr ∧ L ++ (digs m ++ List.replicate (least - L.length - (digs m).length) 0) = T)
  case atStart => exact ⟨n, [], by simp, HN.out, rfl, World.ownsRow_nil _ _ _ _, Below.refl _ _, by rw [← HT.out]; simp [padL]⟩
  case round =>
    obtain ⟨m, L, hg, hm, rfl, hown, hb, hL⟩ := hrel
    have HL := Lib.hid hL
    have HM := Lib.hid hm
    clear hL hm
    have hsz := hb.size
    obtain ⟨k, hk⟩ : ∃ k, L.length = k := ⟨_, rfl⟩
    have HK := Lib.hid hk
    rw [hk] at hg hown
    clear hk
    obtain ⟨p5, cap5, rfl, hk5, hm5, hf5⟩ := own_form hown
    have HF5 := Lib.hid hf5
    clear hf5
    by_cases hgo : m ≠ 0 ∨ k < least
    · have hstep : Hid (L ++ [m % 10] ++ (digs (m / 10) ++ List.replicate (least - (k + 1) - (digs (m / 10)).length) 0) = T) := by
        unfold Hid
        have h1 := HL.out
        rw [HK.out, padL_step hgo trivial] at h1
        rw [← h1]
        simp
      have hg1 : 0 < gk := by
        have := congrArg List.length hstep.out
        simp [HK.out] at this
        omega
      have hq : IntKind.u64.wrap ((m : Int) / 10) = (m : Int) / 10 := IntWalk.u64_in _ (by have := HM.out; omega)
      by_cases g1 : 0 < m
      · by_cases g2 : k < least
        all_goals clear hgo
        all_goals go_wp2_with (at_builtin; refine wpList_append_own _ rfl (.tmp 16) (.tmp 21) _ rfl w.heap.size 5 i0 (.int .u8 0) 1 1 Tryz.underlying125 hi hz0 hz1 hz2 rfl (by decide) _ k (L.map C8) rfl (hown.alloc _) ⟨wr.heap.size, 0, none⟩ 1 1 [C8 (m % 10)] rfl rfl (news1 wr (C8 (m % 10)) _) (one8 _) (by unfold maxLen; omega) (by omega) (by simp; omega) ?_; intro v' w1 hown1 hgrow1 _)
        all_goals
          go_roundg (gk - 1)
          case measure => omega
          case rel => exact ⟨m / 10, L ++ [m % 10], by simp [HK.out]; omega, by have := HM.out; omega, by go_num, by rw [List.length_append, HK.out]; simpa using hown1, (hb.alloc hsz _).grown hgrow1 (by simp; omega) (fun k hk => (hown.lt k hk).1), by rw [List.length_append, HK.out]; exact hstep.out⟩
      · obtain rfl : m = 0 := by omega
        have g2 : k < least := by omega
        clear hgo hq g1
        go_wp2_with (at_builtin; refine wpList_append_own _ rfl (.tmp 16) (.tmp 21) _ rfl w.heap.size 5 i0 (.int .u8 0) 1 1 Tryz.underlying125 hi hz0 hz1 hz2 rfl (by decide) _ k (L.map C8) rfl (hown.alloc _) ⟨wr.heap.size, 0, none⟩ 1 1 [C8 (0 % 10)] rfl rfl (news1 wr (C8 (0 % 10)) _) (one8 _) (by unfold maxLen; omega) (by omega) (by simp; omega) ?_; intro v' w1 hown1 hgrow1 _)
        go_roundg (gk - 1)
        case measure => omega
        case rel => exact ⟨0 / 10, L ++ [0 % 10], by simp [HK.out]; omega, by have := HM.out; omega, rfl, by rw [List.length_append, HK.out]; simpa using hown1, (hb.alloc hsz _).grown hgrow1 (by simp; omega) (fun k hk => (hown.lt k hk).1), by rw [List.length_append, HK.out]; exact hstep.out⟩
    · have hm0 : m = 0 := by omega
      subst hm0
      have hLT : L = T := by
        have h1 := HL.out
        rw [HK.out, show least - k - (digs 0).length = 0 from by omega] at h1
        simpa [digs_zero] using h1
      subst hLT
      have g2 : ¬ k < least := by omega
      clear HL hg hgo
      go_wp2_with fail
      go_loopg [6, 7] k (fun g v6 v7 wx => ∃ (i : Nat) (z : Int), i + g = k ∧ v6 = .int .i64 i ∧ v7 = .int .i64 z ∧ z = (k : Int) - 1 - (i : Int) ∧ (i : Int) ≤ z + 1 ∧ wx.ownsRow w.heap.size 5 1 (.slice p5 k cap5) k ((mir L i).map C8) ∧ Below w.heap.size w wx)
      case atStart => exact ⟨0, (k : Int) - 1, by omega, rfl, rfl, by omega, by omega, by rw [mir_zero]; exact hown, hb⟩
      case round =>
        clear hown hb hsz
        obtain ⟨i, z, hig, rfl, rfl, hz, hiz, hown, hb⟩ := hrel
        have hsz := hb.size
        by_cases hlt : (i : Int) < z
        · obtain ⟨j, rfl⟩ : ∃ j : Nat, z = (j : Int) := ⟨z.toNat, by omega⟩
          obtain ⟨g, rfl, hg1, hg2⟩ := HF5.out (by omega)
          have hij : i < j := by omega
          have hik : i + j + 1 = k := by omega
          have hml : (mir L i).length = k := by rw [mir_len, HK.out]
          obtain ⟨x, hx⟩ : ∃ x, 48 + nth (mir L i) i = x := ⟨_, rfl⟩
          obtain ⟨y, hy⟩ : ∃ y, 48 + nth (mir L i) j = y := ⟨_, rfl⟩
          have ci : wr.cell? ⟨g, i, none⟩ = some (.int .u8 (x : Int)) := by rw [hown.cellAt i (by omega), c8_cell (by omega), hx]
          have cj : wr.cell? ⟨g, j, none⟩ = some (.int .u8 (y : Int)) := by rw [hown.cellAt j (by omega), c8_cell (by omega), hy]
          have fi : wr.frozen? ⟨g, i, none⟩ = false := hown.frozenAt i
          have fj : wr.frozen? ⟨g, j, none⟩ = false := hown.frozenAt j
          have hi1 : (i : Int) < (k : Int) := by omega
          have hj1 : (j : Int) < (k : Int) := by omega
          have hi0 : (0 : Int) ≤ (i : Int) := by omega
          have hj0 : (0 : Int) ≤ (j : Int) := by omega
          have hst := ((hown.stored i (C8 (nth (mir L i) j))).1.stored j (C8 (nth (mir L i) i))).1
          have hset : (((mir L i).map C8).set i (C8 (nth (mir L i) j))).set j (C8 (nth (mir L i) i)) = (mir L (i + 1)).map C8 := by
            rw [← List.map_set, ← List.map_set, mir_nth (by rw [HK.out]; omega), mir_nth (by rw [HK.out]; omega), if_neg (by rw [HK.out]; omega), if_neg (by rw [HK.out]; omega), mir_step (by rw [HK.out]; omega) hij]
          rw [hset] at hst
          have HST := Lib.hid hst
          have HXY := Lib.hid (And.intro hx hy)
          have HIK := Lib.hid hik
          have hkle : (i : Int) + 1 ≤ (k : Int) := by omega
          clear hst hset hx hy hown hz hik
          go_wp2_with fail
          go_region
          all_goals go_wp2_with fail
          all_goals
            go_roundg (gk - 1)
            case measure => omega
            case rel => exact ⟨i + 1, (j : Int) - 1, by omega, by go_num, rfl, by have := HIK.out; omega, by have := HIK.out; omega, by have h1 := HST.out; unfold C8 at h1; rw [HXY.out.1, HXY.out.2] at h1; exact h1, (hb.drew.setCell (by simp; omega) _).setCell (by simp; omega) _⟩
        · have hrev : mir L i = L.reverse := by
            by_cases h0 : k = 0
            · have : i = 0 := by omega
              subst this
              exact mir_empty (by rw [HK.out]; exact h0)
            · exact mir_end (k := z.toNat) (by rw [HK.out]; omega) (by omega)
          rw [hrev] at hown
          have hres : ∀ xs : List Int, xs = L.reverse.map (fun d => ((48 + d : Nat) : Int)) → strOfNums xs = ⟨(dgText n least).toArray⟩ := by
            intro xs hxs
            subst hxs
            unfold strOfNums dgText lettersOf
            rw [HT.out, List.map_map]
            rfl
          have hrl : L.reverse.length = k := by simp [HK.out]
          rcases hown.2 with ⟨hv, hk0⟩ | ⟨g, cap', cur, hv, hg1, hh, _⟩
          · obtain ⟨rfl, rfl, rfl⟩ : p5 = none ∧ k = 0 ∧ cap5 = 0 := by simpa using hv
            obtain rfl : L = [] := List.eq_nil_of_length_eq_zero HK.out
            have hcv := run_convert_bytes_nil (P := Tryz.prog) wr 125 5 Tryz.underlying125 Tryz.underlying5 0 0 9 Tryz.underlying9
            have hr0 : ByteArray.empty = ⟨(dgText n least).toArray⟩ := by rw [← hres [] (by simp)]; rfl
            rw [hr0] at hcv
            clear hown hres hr0 hz hrev
            go_wp2_with fail
            go_ret
            exact ⟨rfl, hb⟩
          · obtain ⟨rfl, rfl⟩ : p5 = some ⟨g, 0, none⟩ ∧ cap5 = cap' := by simpa using hv
            have hcv := run_convert_bytes_arg (P := Tryz.prog) wr 125 5 Tryz.underlying125 Tryz.underlying5 g 0 k cap5 (L.reverse.map (fun d => ((48 + d : Nat) : Int))) (by simp [HK.out]) (fun j hj => by
              rw [Nat.zero_add, hown.cellAt j (by omega), c8_cell (by omega), mapc_getD (by omega)]) 9 Tryz.underlying9
            rw [hres _ rfl] at hcv
            clear hown hres hz hrev hrl
            go_wp2_with fail
            go_ret
            exact ⟨rfl, hb⟩
end Go.Proofs.YtbdgdhjhgcpidaaGreatDoor
namespace Go.Proofs.YtbdgdhjhgcpidaaGreatDoor
open Go.RowKit
def txt (d : Int) : List UInt8 :=
  (if d < 0 then [45] else []) ++ dgText (d.natAbs / 1000000) 1 ++ (if 0 < d.natAbs % 1000000 then 46 :: Lib.trimRightB (dgText (d.natAbs % 1000000) 6) 48 else [])
theorem trimRight_zero (L : List UInt8) (hL : L.length ≤ 1000000) (w : World) :
    Calls Tryz.prog 68 #[.string ⟨L.toArray⟩, .string ⟨#[48]⟩] w fun e w' => e = .returned (.string ⟨(Lib.trimRightB L 48).toArray⟩) ∧ w = w' := by
  have e1 : (⟨L.toArray⟩ : ByteArray).data.toList = L := by simp
  have := Tryz.strings_TrimRight_one ⟨L.toArray⟩ 48 (by decide) w (by rw [Lib.size_eq]; simp; omega)
  rw [e1] at this
  exact this.mono fun e w' ⟨h1, h2⟩ => ⟨h1, h2.symm⟩
theorem trimRightB_len (L : List UInt8) (c : UInt8) : (Lib.trimRightB L c).length ≤ L.length := by
  unfold Lib.trimRightB
  rw [List.length_reverse]
  have := (List.dropWhile_sublist (· == c) (l := L.reverse)).length_le
  simpa using this
theorem cat2 (X Y : List UInt8) : (⟨X.toArray⟩ : ByteArray) ++ ⟨Y.toArray⟩ = ⟨(X ++ Y).toArray⟩ := by
  apply ByteArray.ext
  simp
theorem dgText_len (n least : Nat) (hn : n ≤ 18446744073709551615) (hl : least ≤ 100) : (dgText n least).length ≤ 120 := by
  have h2 := digs_length_le (n := n) (k := 20) (by omega)
  simp [dgText, lettersOf, padL]
  omega
theorem digits_1 (q : Nat) (hq : q ≤ 18446744073709551615) (w : World) : Calls Tryz.prog 67 #[.int .u64 q, .int .i64 1] w fun e w' => e = .returned (.string ⟨(dgText q 1).toArray⟩) ∧ Below w.heap.size w w' := digits_any q 1 hq (by omega) w
theorem digits_6 (q : Nat) (hq : q ≤ 18446744073709551615) (w : World) : Calls Tryz.prog 67 #[.int .u64 q, .int .i64 6] w fun e w' => e = .returned (.string ⟨(dgText q 6).toArray⟩) ∧ Below w.heap.size w w' := digits_any q 6 hq (by omega) w
set_option maxRecDepth 100000 in
set_option maxHeartbeats 2000000 in
theorem text_any (d : Int) (hlo : -9223372036854775808 ≤ d) (hhi : d ≤ 9223372036854775807) (w : World) :
    Calls Tryz.prog 43 #[.int .i64 d] w fun e w' => e = .returned (.string ⟨(txt d).toArray⟩) ∧ Below w.heap.size w w' := by
  have HP := Lib.hid (fun W => part_any d hlo hhi W)
  obtain ⟨a, ha⟩ : ∃ a, d.natAbs = a := ⟨_, rfl⟩
  have ha2 : a ≤ 9223372036854775808 := by omega
  obtain ⟨q, hq⟩ : ∃ q, a / 1000000 = q := ⟨_, rfl⟩
  obtain ⟨r, hr⟩ : ∃ r, a % 1000000 = r := ⟨_, rfl⟩
  have hr6 : r < 1000000 := by omega
  have hqz : IntKind.u64.wrap (q : Int) = (q : Int) := IntWalk.u64_in _ (by omega)
  have hrw : IntKind.u64.wrap (r : Int) = (r : Int) := IntWalk.u64_in _ (by omega)
  have hqz' : (a : Int) / 1000000 = (q : Int) := by omega
  have hrz : (a : Int) % 1000000 = (r : Int) := by omega
  have hq2 : q ≤ 18446744073709551615 := by omega
  have HQ := Lib.hid hq2
  have hda := dgText_len q 1 hq2 (by omega)
  have hdr := dgText_len r 6 (by omega) (by omega)
  have HT : Hid (txt d = (if d < 0 then [45] else []) ++ dgText q 1 ++ (if 0 < r then 46 :: Lib.trimRightB (dgText r 6) 48 else [])) := by
    unfold Hid txt
    rw [ha, hq, hr]
  obtain ⟨A, hA⟩ : ∃ A, dgText q 1 = A := ⟨_, rfl⟩
  obtain ⟨B, hB⟩ : ∃ B, dgText r 6 = B := ⟨_, rfl⟩
  obtain ⟨C, hC⟩ : ∃ C, Lib.trimRightB B 48 = C := ⟨_, rfl⟩
  have HA := Lib.hid hA
  have HB := Lib.hid hB
  have hCl : C.length ≤ 120 := by rw [← hC, ← hB]; exact Nat.le_trans (trimRightB_len _ _) hdr
  have HC := Lib.hid hC
  have HAA := Lib.hid ha
  rw [hA] at hda
  rw [hB] at hdr
  clear hlo hhi ha hq hr hq2 hA hB hC ha2
  by_cases h0 : d < 0
  all_goals by_cases h1 : 0 < r
  · have hfin : Hid (txt d = 45 :: (A ++ 46 :: C)) := by
      unfold Hid
      rw [HT.out, if_pos h0, if_pos h1, HA.out, HB.out, HC.out]
      simp
    go_enter Tryz.func43, Tryz.ntmps43
    go_wp2_with fail
    refine (HP.out _).mono ?_
    rintro e w1 ⟨rfl, rfl⟩
    rw [HAA.out]
    go_wp2_with fail
    refine (digits_1 q HQ.out _).mono ?_
    rintro e w2 ⟨rfl, hb2⟩
    rw [HA.out]
    have hs2 := hb2.size
    go_wp2_with fail
    refine (HP.out _).mono ?_
    rintro e w3 ⟨rfl, rfl⟩
    rw [HAA.out]
    go_wp2_with fail
    refine (digits_6 r (by omega) _).mono ?_
    rintro e w4 ⟨rfl, hb4⟩
    rw [HB.out]
    have hs4 := hb4.size
    go_wp2_with fail
    refine (trimRight_zero B (by omega) _).mono ?_
    rintro e w5 ⟨rfl, rfl⟩
    rw [HC.out]
    go_wp2_with fail
    go_ret
    refine ⟨?_, bel_call hb4 hb2 (by omega)⟩
    rw [hfin.out]
    exact congrArg (fun s => Ending.returned (Value.string s)) (show (⟨[45].toArray⟩ : ByteArray) ++ ⟨A.toArray⟩ ++ (⟨[46].toArray⟩ ++ ⟨C.toArray⟩) = _ by rw [cat2, cat2, cat2]; simp)
  · have hfin : Hid (txt d = 45 :: A) := by
      unfold Hid
      rw [HT.out, if_pos h0, if_neg h1, HA.out]
      simp
    go_enter Tryz.func43, Tryz.ntmps43
    go_wp2_with fail
    refine (HP.out _).mono ?_
    rintro e w1 ⟨rfl, rfl⟩
    rw [HAA.out]
    go_wp2_with fail
    refine (digits_1 q HQ.out _).mono ?_
    rintro e w2 ⟨rfl, hb2⟩
    rw [HA.out]
    have hs2 := hb2.size
    go_wp2_with fail
    refine (HP.out _).mono ?_
    rintro e w3 ⟨rfl, rfl⟩
    rw [HAA.out]
    go_wp2_with fail
    go_ret
    refine ⟨?_, hb2⟩
    rw [hfin.out]
    exact congrArg (fun s => Ending.returned (Value.string s)) (show (⟨[45].toArray⟩ : ByteArray) ++ ⟨A.toArray⟩ = _ by rw [cat2]; simp)
  · have hfin : Hid (txt d = A ++ 46 :: C) := by
      unfold Hid
      rw [HT.out, if_neg h0, if_pos h1, HA.out, HB.out, HC.out]
      simp
    go_enter Tryz.func43, Tryz.ntmps43
    go_wp2_with fail
    refine (HP.out _).mono ?_
    rintro e w1 ⟨rfl, rfl⟩
    rw [HAA.out]
    go_wp2_with fail
    refine (digits_1 q HQ.out _).mono ?_
    rintro e w2 ⟨rfl, hb2⟩
    rw [HA.out]
    have hs2 := hb2.size
    go_wp2_with fail
    refine (HP.out _).mono ?_
    rintro e w3 ⟨rfl, rfl⟩
    rw [HAA.out]
    go_wp2_with fail
    refine (digits_6 r (by omega) _).mono ?_
    rintro e w4 ⟨rfl, hb4⟩
    rw [HB.out]
    have hs4 := hb4.size
    go_wp2_with fail
    refine (trimRight_zero B (by omega) _).mono ?_
    rintro e w5 ⟨rfl, rfl⟩
    rw [HC.out]
    go_wp2_with fail
    go_ret
    refine ⟨?_, bel_call hb4 hb2 (by omega)⟩
    rw [hfin.out]
    exact congrArg (fun s => Ending.returned (Value.string s)) (show (⟨A.toArray⟩ : ByteArray) ++ (⟨[46].toArray⟩ ++ ⟨C.toArray⟩) = _ by rw [cat2, cat2]; simp)
  · have hfin : Hid (txt d = A) := by
      unfold Hid
      rw [HT.out, if_neg h0, if_neg h1, HA.out]
      simp
    go_enter Tryz.func43, Tryz.ntmps43
    go_wp2_with fail
    refine (HP.out _).mono ?_
    rintro e w1 ⟨rfl, rfl⟩
    rw [HAA.out]
    go_wp2_with fail
    refine (digits_1 q HQ.out _).mono ?_
    rintro e w2 ⟨rfl, hb2⟩
    rw [HA.out]
    have hs2 := hb2.size
    go_wp2_with fail
    refine (HP.out _).mono ?_
    rintro e w3 ⟨rfl, rfl⟩
    rw [HAA.out]
    go_wp2_with fail
    go_ret
    refine ⟨?_, hb2⟩
    rw [hfin.out]
    rfl
end Go.Proofs.YtbdgdhjhgcpidaaGreatDoor
