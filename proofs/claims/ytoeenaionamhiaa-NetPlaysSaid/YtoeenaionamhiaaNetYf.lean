/- The law's 'does', whatever the act. -/
import Derived.Test.YtoeenaionamhiaaNetYa
import Derived.Test.YtoeenaionamhiaaNetYb
import Derived.Test.YtoeenaionamhiaaNetYc
import Derived.Test.YtoeenaionamhiaaNetYd
import Derived.Test.YtoeenaionamhiaaNetYe
set_option linter.unusedSimpArgs false
set_option linter.unusedVariables false
namespace Go.Proofs.Ytoeenaionamhiaa
open Go.RowKit

theorem at_both {Ps Qs : List Pk} (hK : Ps.map Pk.key = Qs.map Pk.key) {i : Int} (h : ¬ (i < 0 ∨ (Ps.length : Int) ≤ i)) : ∃ (k : Nat) (p q : Pk), i = (k : Int) ∧ Ps[k]? = some p ∧ Qs[k]? = some q := by
  obtain ⟨k, p, rfl, hp⟩ := at_int h
  have hl : Ps.length = Qs.length := by simpa using congrArg List.length hK
  have hk := (List.getElem?_eq_some_iff.1 hp).1
  exact ⟨k, p, Qs[k], rfl, hp, List.getElem?_eq_getElem (by omega)⟩

theorem does_any (B0 g : Nat) (M s l c : Int) (v : Value) (Ps Qs : List Pk) (RA : Option Addr) (RC : Nat) (f t ii aa : Int) (A : Option Addr) (n cp : Nat) (L : List UInt8) (bt : UInt8) (hM : M ≤ 1000) (hPM : (Ps.length : Int) ≤ M) (hs0 : 0 ≤ s) (hs1 : s ≤ 100000) (hl0 : 0 ≤ l) (hl1 : l ≤ 100000) (hc0 : 0 ≤ c) (hc1 : c ≤ 100000) (hn : n ≤ 300) (w : World) (hB : B0 ≤ w.heap.size) (hN : NetW B0 w g M s l c v Ps) (hR : RefW B0 w (.slice RA Qs.length RC) Qs) (hK : Ps.map Pk.key = Qs.map Pk.key) (hL : RdB B0 w A n cp L) (kd : Int) (ha1 : aa ≤ 9223372036854775807) :
    Calls Try.prog 15 #[.pointer (some ⟨g, 0, none⟩), .agg #[.int .i64 M, .slice RA Qs.length RC, .int .i64 s, .int .i64 c, .int .i64 l], .agg #[.int .i64 kd, .int .i64 f, .int .i64 t, .slice A n cp, .int .i64 ii, .int .i64 aa, .int .u8 (bt.toNat : Int)]] w (RetD B0 g M s c l w) := by
  by_cases k1 : kd = 1
  · subst k1
    by_cases h : ii < 0 ∨ (Ps.length : Int) ≤ ii
    · exact does_take_miss B0 g M s l c v Ps Qs RA RC f t ii aa A n cp L bt hM hPM hs0 hs1 hl0 hl1 hc0 hc1 hn w hB hN hR hK hL h
    · obtain ⟨k, p, q, rfl, hp, hq⟩ := at_both hK h
      exact does_take_hit B0 g M s l c v Ps Qs RA RC f t 0 aa A n cp L bt hM hPM hs0 hs1 hl0 hl1 hc0 hc1 hn w hB hN hR hK hL k p q hp hq
  by_cases k2 : kd = 2
  · subst k2
    by_cases h : ii < 0 ∨ (Ps.length : Int) ≤ ii
    · exact does_drop_miss B0 g M s l c v Ps Qs RA RC f t ii aa A n cp L bt hM hPM hs0 hs1 hl0 hl1 hc0 hc1 hn w hB hN hR hK hL h
    · obtain ⟨k, p, q, rfl, hp, hq⟩ := at_both hK h
      exact does_drop_hit B0 g M s l c v Ps Qs RA RC f t 0 aa A n cp L bt hM hPM hs0 hs1 hl0 hl1 hc0 hc1 hn w hB hN hR hK hL k p q hp hq
  by_cases k3 : kd = 3
  · subst k3
    by_cases h : ii < 0 ∨ (Ps.length : Int) ≤ ii
    · exact does_twice_miss B0 g M s l c v Ps Qs RA RC f t ii aa A n cp L bt hM hPM hs0 hs1 hl0 hl1 hc0 hc1 hn w hB hN hR hK hL h
    · obtain ⟨k, p, q, rfl, hp, hq⟩ := at_both hK h
      by_cases hf : M ≤ (Ps.length : Int)
      · exact does_twice_full B0 g M s l c v Ps Qs RA RC f t 0 aa A n cp L bt hM hPM hs0 hs1 hl0 hl1 hc0 hc1 hn w hB hN hR hK hL k p q hp hq hf
      · exact does_twice_ok B0 g M s l c v Ps Qs RA RC f t 0 aa A n cp L bt hM hPM hs0 hs1 hl0 hl1 hc0 hc1 hn w hB hN hR hK hL k p q hp hq (by omega)
  by_cases k4 : kd = 4
  · subst k4
    by_cases hneg : aa < 0
    · by_cases h : ii < 0 ∨ (Ps.length : Int) ≤ ii
      · exact does_spoil_miss_neg B0 g M s l c v Ps Qs RA RC f t ii aa A n cp L bt hM hPM hs0 hs1 hl0 hl1 hc0 hc1 hn w hB hN hR hK hL h hneg
      · obtain ⟨k, p, q, rfl, hp, hq⟩ := at_both hK h
        by_cases hz : p.n = 0
        · exact does_spoil_empty_neg B0 g M s l c v Ps Qs RA RC f t 0 aa A n cp L bt hM hPM hs0 hs1 hl0 hl1 hc0 hc1 hn w hB hN hR hK hL k p q hp hq hz hneg
        · exact does_spoil_ok_neg B0 g M s l c v Ps Qs RA RC f t 0 aa A n cp L bt hM hPM hs0 hs1 hl0 hl1 hc0 hc1 hn w hB hN hR hK hL k p q hp hq (by omega) hneg
    · obtain ⟨a, rfl⟩ : ∃ a : Nat, aa = (a : Int) := ⟨aa.toNat, by omega⟩
      by_cases h : ii < 0 ∨ (Ps.length : Int) ≤ ii
      · exact does_spoil_miss_pos B0 g M s l c v Ps Qs RA RC f t ii 0 A n cp L bt hM hPM hs0 hs1 hl0 hl1 hc0 hc1 hn w hB hN hR hK hL h a (by omega)
      · obtain ⟨k, p, q, rfl, hp, hq⟩ := at_both hK h
        by_cases hz : p.n = 0
        · exact does_spoil_empty_pos B0 g M s l c v Ps Qs RA RC f t 0 0 A n cp L bt hM hPM hs0 hs1 hl0 hl1 hc0 hc1 hn w hB hN hR hK hL k p q hp hq hz a (by omega)
        · exact does_spoil_ok_pos B0 g M s l c v Ps Qs RA RC f t 0 0 A n cp L bt hM hPM hs0 hs1 hl0 hl1 hc0 hc1 hn w hB hN hR hK hL k p q hp hq (by omega) a (by omega)
  by_cases hf : M ≤ (Ps.length : Int)
  · exact does_send_full B0 g M s l c v Ps Qs RA RC f t ii aa A n cp L bt hM hPM hs0 hs1 hl0 hl1 hc0 hc1 hn w hB hN hR hK hL kd k1 k2 k3 k4 hf
  · exact does_send_ok B0 g M s l c v Ps Qs RA RC f t ii aa A n cp L bt hM hPM hs0 hs1 hl0 hl1 hc0 hc1 hn w hB hN hR hK hL kd k1 k2 k3 k4 (by omega)
end Go.Proofs.Ytoeenaionamhiaa
