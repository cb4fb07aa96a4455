/- Conditions: a pattern as a plain text. -/
import Derived.Test.YtpggidkcifnhjaaDoorMatH
set_option linter.unusedSimpArgs false
set_option linter.unusedVariables false

namespace Go.Proofs.YtpggidkcifnhjaaDoor
open Go.RowKit

def plC (x : Sg) : Nat := if x.1 = 1 then 63 else if x.1 = 2 then 42 else lowN x.2
/-- A pattern's plain text, in small letters. -/
def plL (L : List Sg) : List UInt8 := L.map fun x => UInt8.ofNat (plC x)
theorem info_byte1 : (Tryd.prog.info? 5).map (fun i => (i.zero, i.size, i.bytes)) = some (some (.int .u8 0), 1, 1) := by kernel_rfl
def u8E (x : Nat) : List Value := [.int .u8 (x : Int)]

set_option maxRecDepth 100000 in
set_option maxHeartbeats 4000000 in
theorem plain_any (L : List Sg) (sg : ByteArray) (nb : Bool) (num : Int) (p : Option Addr) (cap : Nat) (hlen : L.length ≤ 1000) (hok : ∀ x ∈ L, x.1 ≤ 2 ∧ x.2 < 256) (w : World) (hL : RdG sgE 2 w p L.length L) :
    Calls Tryd.prog 21 #[.agg #[.string sg, .bool nb, .int .i64 num, .slice p L.length cap]] w fun e w' => e = .returned (.string ⟨(plL L).toArray⟩) ∧ Below w.heap.size w w' := by
  obtain ⟨i0, hi, hz0, hz1, hz2⟩ := info_of info_byte1
  obtain ⟨n, hn⟩ : ∃ n, L.length = n := ⟨_, rfl⟩
  rw [hn] at hL hlen ⊢
  have HN := Lib.hid hn
  have HL := Lib.hid hL
  have HOK := Lib.hid hok
  have HB : Hid (∀ (W : World) (v : Value), W.ownsRow w.heap.size 5 1 v L.length ((L.map plC).flatMap u8E) → (convert 77 9 v).run Tryd.prog W = .ok (.string ⟨(plL L).toArray⟩) W) := fun W v hown => by
    obtain ⟨pp, cc, rfl, _, _, hrd, hor⟩ := RdG.of_own (enc := u8E) (sz := 1) (fun _ => rfl) (by simp) hown
    rcases hor with hnil | ⟨r, rfl, _, _⟩
    · have h0 : L.length = 0 := by injection hnil
      have hLn : L = [] := List.eq_nil_of_length_eq_zero h0
      subst hLn
      rw [hnil]
      rw [run_convert_bytes_string W _ _ 5 _ 0 0 Tryd.underlying77 Tryd.underlying5 Tryd.underlying9]
      rfl
    · have := run_convert_bytes_arg (P := Tryd.prog) W 77 5 Tryd.underlying77 Tryd.underlying5 r 0 L.length cc ((List.range L.length).map fun j => ((plC (sgAt L j) : Nat) : Int)) (by simp) (fun i hi => by
        rw [range_getD _ (fun j => plC (sgAt L j)) hi]
        rcases hrd.2 with h0 | ⟨b, off, he, _, hc⟩
        · omega
        · cases he
          have := hc i (plC (sgAt L i)) (by rw [List.getElem?_map, sgAt_get hi]; rfl) 0 _ rfl
          rw [Nat.mul_one, Nat.add_zero] at this
          exact this) 9 Tryd.underlying9
      rw [nums_of L.length (fun j => plC (sgAt L j)) (plL L) (by simp [plL]) (fun j hj => by
        have := sgAt_get hj
        rw [List.getElem?_eq_getElem hj] at this
        injection this with this
        simp [plL, this])] at this
      exact this
  clear hn hL hok
  go_enter Tryd.func21, Tryd.ntmps21
  go_wp2_with fail
  go_loopg [3, 9] n (fun g v3 v9 wr => ∃ k : Nat, k + g = n ∧ v9 = .int .i64 k ∧ wr.ownsRow w.heap.size 5 1 v3 ((L.take k).map plC).length (((L.take k).map plC).flatMap u8E) ∧ Below w.heap.size w wr)
  case atStart => exact ⟨0, by omega, rfl, World.ownsRow_nil _ _ _ _, Below.alloc (Below.refl _ _) (Nat.le_refl _) _⟩
  case round =>
    obtain ⟨k, hkg, rfl, hown, hbel⟩ := hrel
    have HO := Lib.hid hown
    have hzr := hbel.size
    by_cases hlt : k < n
    · have hli : (k : Int) < (n : Int) := by omega
      have hkL : k < L.length := by rw [HN.out]; exact hlt
      have hx := sgAt_get hkL
      have hxo := HOK.out _ (lowAt_mem hkL)
      obtain ⟨kd, ch, hkc⟩ : ∃ kd ch, sgAt L k = (kd, ch) := ⟨_, _, rfl⟩
      rw [hkc] at hx hxo
      have htk : L.take (k + 1) = L.take k ++ [(kd, ch)] := by
        rw [List.take_succ_eq_append_getElem hkL]
        rw [List.getElem?_eq_getElem hkL] at hx
        injection hx with hx
        rw [hx]
      have hlk : ((L.take k).map plC).length ≤ 1000 := by rw [List.length_map, List.length_take]; omega
      obtain ⟨b, off, rfl, hb, hcs⟩ := HL.out.some hlt
      have q1 : wr.cell? ⟨b, off + k * 2, none⟩ = some (.int .i64 (kd : Int)) := (hbel.cell (p := ⟨b, off + k * 2, none⟩) hb).trans (hcs k _ hx 0 _ rfl)
      have q2 : wr.cell? ⟨b, off + k * 2 + 1, none⟩ = some (.int .u8 (ch : Int)) := (hbel.cell (p := ⟨b, off + k * 2 + 1, none⟩) hb).trans (hcs k _ hx 1 _ rfl)
      have fin : ∀ (wx : World) (v' : Value) (y : Nat), plC (kd, ch) = y → wx.ownsRow w.heap.size 5 1 v' (((L.take k).map plC).length + 1) (((L.take k).map plC).flatMap u8E ++ u8E y) → wx.ownsRow w.heap.size 5 1 v' ((L.take (k + 1)).map plC).length (((L.take (k + 1)).map plC).flatMap u8E) := fun wx v' y h1 h2 => by
        rw [htk, List.map_append, List.length_append, List.flatMap_append]
        simpa [h1] using h2
      have FIN := Lib.hid fin
      have HLO := Lib.hid (fun W => lower_any ch hxo.2 W)
      have hkd := hxo.1
      clear hown hx hxo hkc htk hcs fin
      obtain ⟨Y, hY⟩ : ∃ Y, (L.take k).map plC = Y := ⟨_, rfl⟩
      rw [hY] at HO FIN hlk
      clear hY
      obtain rfl | rfl | rfl : kd = 0 ∨ kd = 1 ∨ kd = 2 := by omega
      · go_wp2_with fail
        refine (HLO.out _).mono ?_
        rintro e wa ⟨rfl, rfl⟩
        go_wp2_with (at_builtin; refine wpList_append_own _ rfl _ _ _ rfl w.heap.size 5 i0 (.int .u8 0) 1 1 Tryd.underlying77 hi hz0 hz1 hz2 rfl (by decide) _ _ _ rfl ((HO.out.alloc _).alloc _) ⟨wr.heap.size + 1, 0, none⟩ 1 1 (u8E (lowN ch)) rfl rfl ?c1 ?c2 ?c3 ?c4 ?c5 ?_)
        case c1 => first | exact fun j u h => h | (have := new1 (wr.alloc (.cells #[.int .i64 (0 : Int), .int .u8 ((ch : Nat) : Int)] 75)) (.int .u8 (((lowN ch) : Nat) : Int)) 5; rw [World.size_alloc] at this; exact this)
        case c2 => intro u hu; simp [u8E] at hu; subst hu; rfl
        case c3 => unfold maxLen; omega
        case c4 => omega
        case c5 => first | omega | (simp; omega)
        intro v' w4 hown4 hgrow4 _
        have hb4 : Below w.heap.size w w4 := ((hbel.alloc (by omega) _).alloc (by rw [World.size_alloc]; omega) _).grown hgrow4 (by simp; omega) (fun k hk => (HO.out.lt k hk).1)
        have HF := Lib.hid (FIN.out w4 v' (lowN ch) (by rfl) hown4)
        clear hown4 hgrow4
        go_wp2_with fail
        go_roundg (gk - 1)
        case measure => omega
        case rel => exact ⟨k + 1, by omega, by go_num, HF.out, hb4⟩
      · go_wp2_with (at_builtin; refine wpList_append_own _ rfl _ _ _ rfl w.heap.size 5 i0 (.int .u8 0) 1 1 Tryd.underlying77 hi hz0 hz1 hz2 rfl (by decide) _ _ _ rfl ((HO.out.alloc _).alloc _) ⟨wr.heap.size + 1, 0, none⟩ 1 1 (u8E (63)) rfl rfl ?c1 ?c2 ?c3 ?c4 ?c5 ?_)
        case c1 => first | exact fun j u h => h | (have := new1 (wr.alloc (.cells #[.int .i64 (0 : Int), .int .u8 ((ch : Nat) : Int)] 75)) (.int .u8 (((63) : Nat) : Int)) 5; rw [World.size_alloc] at this; exact this)
        case c2 => intro u hu; simp [u8E] at hu; subst hu; rfl
        case c3 => unfold maxLen; omega
        case c4 => omega
        case c5 => first | omega | (simp; omega)
        intro v' w4 hown4 hgrow4 _
        have hb4 : Below w.heap.size w w4 := ((hbel.alloc (by omega) _).alloc (by rw [World.size_alloc]; omega) _).grown hgrow4 (by simp; omega) (fun k hk => (HO.out.lt k hk).1)
        have HF := Lib.hid (FIN.out w4 v' (63) (by rfl) hown4)
        clear hown4 hgrow4
        go_wp2_with fail
        go_roundg (gk - 1)
        case measure => omega
        case rel => exact ⟨k + 1, by omega, by go_num, HF.out, hb4⟩
      · go_wp2_with (at_builtin; refine wpList_append_own _ rfl _ _ _ rfl w.heap.size 5 i0 (.int .u8 0) 1 1 Tryd.underlying77 hi hz0 hz1 hz2 rfl (by decide) _ _ _ rfl ((HO.out.alloc _).alloc _) ⟨wr.heap.size + 1, 0, none⟩ 1 1 (u8E (42)) rfl rfl ?c1 ?c2 ?c3 ?c4 ?c5 ?_)
        case c1 => first | exact fun j u h => h | (have := new1 (wr.alloc (.cells #[.int .i64 (0 : Int), .int .u8 ((ch : Nat) : Int)] 75)) (.int .u8 (((42) : Nat) : Int)) 5; rw [World.size_alloc] at this; exact this)
        case c2 => intro u hu; simp [u8E] at hu; subst hu; rfl
        case c3 => unfold maxLen; omega
        case c4 => omega
        case c5 => first | omega | (simp; omega)
        intro v' w4 hown4 hgrow4 _
        have hb4 : Below w.heap.size w w4 := ((hbel.alloc (by omega) _).alloc (by rw [World.size_alloc]; omega) _).grown hgrow4 (by simp; omega) (fun k hk => (HO.out.lt k hk).1)
        have HF := Lib.hid (FIN.out w4 v' (42) (by rfl) hown4)
        clear hown4 hgrow4
        go_wp2_with fail
        go_roundg (gk - 1)
        case measure => omega
        case rel => exact ⟨k + 1, by omega, by go_num, HF.out, hb4⟩
    · have hkn : k = n := by omega
      have htk : L.take k = L := List.take_of_length_le (by rw [HN.out]; omega)
      rw [htk] at hown
      have hlm : (L.map plC).length = L.length := by simp
      rw [hlm] at hown
      have hb := HB.out wr _ hown
      have hli : ¬ (k : Int) < (n : Int) := by omega
      clear hown HO htk hlm
      go_wp2_with fail
      go_ret
      exact ⟨rfl, hbel⟩
end Go.Proofs.YtpggidkcifnhjaaDoor
