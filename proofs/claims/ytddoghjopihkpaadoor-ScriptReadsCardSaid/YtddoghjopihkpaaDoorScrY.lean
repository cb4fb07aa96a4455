/- Script: the document's word, cut, num. -/
import Derived.Test.YtddoghjopihkpaaDoorScrX
import Derived.Test.YtddoghjopihkpaaDoorQuick
set_option linter.unusedSimpArgs false
set_option linter.unusedVariables false
namespace Go.Proofs.YtddoghjopihkpaaDoor
open Go.RowKit Go.Joins

set_option maxRecDepth 100000 in
set_option maxHeartbeats 1000000 in
theorem rword_any (p : Option Addr) (n cap : Nat) (F : List Bs) (i : Nat) (w : World) (h : RdG stE 1 w p n F) : Calls Tryd.prog 20 #[.slice p n cap, .int .i64 i] w fun e w' => e = .returned (.string ⟨(F.getD i []).toArray⟩) ∧ w' = w := by
  by_cases hi : i < n
  · obtain ⟨b, off, rfl, _, hc⟩ := cell_st h hi
    have hi2 : (i : Int) < (n : Int) := by omega
    clear h
    generalize F.getD i [] = x at hc ⊢
    go_enter Tryd.func20, Tryd.ntmps20
    go_wp2_with fail
    go_ret
    exact ⟨rfl, rfl⟩
  · have hi2 : ¬ (i : Int) < (n : Int) := by omega
    have hx : F.getD i [] = [] := by
      rw [List.getD_eq_getElem?_getD, List.getElem?_eq_none (by rw [h.1]; omega)]
      rfl
    rw [hx]
    clear h hx
    go_enter Tryd.func20, Tryd.ntmps20
    go_wp2_with fail
    go_ret
    exact ⟨rfl, rfl⟩

theorem ext_data (s : ByteArray) (L : Bs) (h : s.data.toList = L) : s = ⟨L.toArray⟩ := by
  subst h
  simp
theorem ext_at (s : ByteArray) (i j : Nat) (hij : i ≤ j) (hj : j ≤ s.size) : s.extract i j = ⟨((s.data.toList.drop i).take (j - i)).toArray⟩ := ext_data _ _ (by rw [Lib.extract_data])
theorem stE_len (x : Bs) : (stE x).length = 1 := rfl
theorem stE_one (x : Bs) : ∀ u ∈ stE x, u.oneCell' = true := by
  intro u hu
  simp only [stE, List.mem_singleton] at hu
  subst hu
  rfl
theorem info_str : (Tryd.prog.info? 9).map (fun i => (i.zero, i.size, i.bytes)) = some (some (.string ⟨#[]⟩), 1, 16) := by kernel_rfl
theorem split_at (L : Bs) (fr i : Nat) (hfi : fr ≤ i) (hi : i < L.length) (h32 : btN L i = 32) (hno : ∀ j, fr ≤ j → j < i → btN L j ≠ 32) : plainW ((L.drop fr).take (i - fr)) ∧ L.drop fr = (L.drop fr).take (i - fr) ++ 32 :: L.drop (i + 1) := by
  refine ⟨?_, ?_⟩
  · intro c hc
    obtain ⟨j, hj, rfl⟩ := List.mem_iff_getElem.1 hc
    rw [List.length_take, List.length_drop] at hj
    have := hno (fr + j) (by omega) (by omega)
    rw [btN_get (by omega)] at this
    intro e
    apply this
    rw [List.getElem_take, List.getElem_drop] at e
    rw [e]
    rfl
  · have e : L[i] = 32 := by
      rw [btN_get hi] at h32
      exact UInt8.toNat_inj.1 h32
    have e2 : L.drop i = 32 :: L.drop (i + 1) := by rw [List.drop_eq_getElem_cons hi, e]
    have e3 : (L.drop fr).drop (i - fr) = L.drop i := by
      rw [List.drop_drop]
      congr 1
      omega
    rw [← e2, ← e3, List.take_append_drop]
theorem plain_end (L : Bs) (fr : Nat) (hno : ∀ j, fr ≤ j → j < L.length → btN L j ≠ 32) : plainW (L.drop fr) := by
  intro c hc
  obtain ⟨j, hj, rfl⟩ := List.mem_iff_getElem.1 hc
  rw [List.length_drop] at hj
  have := hno (fr + j) (by omega) (by omega)
  rw [btN_get (by omega)] at this
  intro e
  apply this
  rw [List.getElem_drop] at e
  rw [e]
  rfl
/-- What 'cut' leaves. -/
def CutR (B : Nat) (F : List Bs) (e : Ending) (w' : World) : Prop := ∃ p cap, e = .returned (.slice p F.length cap) ∧ RdG stE 1 w' p F.length F

set_option maxRecDepth 100000 in
set_option maxHeartbeats 8000000 in
theorem rcut_any (m : Nat) (hm : m ≤ 5) (s : ByteArray) (hL : s.size ≤ 100000) (w : World) :
    Calls Tryd.prog 18 #[.string s, .int .i64 ((m + 1 : Nat) : Int)] w fun e w' => CutR w.heap.size (cutW m s.data.toList) e w' ∧ Below w.heap.size w w' := by
  obtain ⟨i0, hi, hz0, hz1, hz2⟩ := info_of info_str
  have HSZ : Hid (s.data.toList.length = s.size) := (Lib.size_eq s).symm
  have HBT := Lib.hid (btN_str s)
  have HEX := Lib.hid (ext_at s)
  have HSA := Lib.hid (split_at s.data.toList)
  have HPE := Lib.hid (plain_end s.data.toList)
  obtain ⟨O, hO⟩ : ∃ O, cutW m s.data.toList = O := ⟨_, rfl⟩
  rw [hO]
  have HO := Lib.hid hO
  clear hO
  generalize s.data.toList = L at HSZ HBT HEX HSA HPE HO
  have hm1 : IntKind.i64.wrap (((m + 1 : Nat) : Int) - 1) = (m : Int) := by rw [show ((m + 1 : Nat) : Int) - 1 = (m : Int) from by omega]; exact IntWalk.i64_in _ (by omega)
  obtain ⟨M, hM⟩ : ∃ M : Int, ((m + 1 : Nat) : Int) = M := ⟨_, rfl⟩
  rw [hM] at hm1 ⊢
  clear hM
  go_enter Tryd.func18, Tryd.ntmps18
  go_wp2_with fail
  go_loopg [5, 6, 7] s.size (fun g v5 v6 v7 wr => ∃ (i fr : Nat) (acc : List Bs), i + g = s.size ∧ fr ≤ i ∧ i ≤ s.size ∧ v7 = .int .i64 i ∧ v6 = .int .i64 fr ∧ acc.length ≤ m ∧ O = acc ++ cutW (m - acc.length) (L.drop fr) ∧ (∀ j, fr ≤ j → j < i → btN L j ≠ 32) ∧ wr.ownsRow w.heap.size 9 1 v5 acc.length (acc.flatMap stE) ∧ Below w.heap.size w wr)
  case atStart => exact ⟨0, 0, [], by omega, by omega, by omega, rfl, rfl, by simp, by rw [← HO.out]; rfl, fun j _ h => by omega, World.ownsRow_nil _ _ _ _, Below.refl _ _⟩
  case round =>
    obtain ⟨i, fr, acc, hig, hfi, hin, rfl, rfl, hacc, hO, hno, hown, hbel⟩ := hrel
    have HOA := Lib.hid hO
    have HOW := Lib.hid hown
    have HBL := Lib.hid hbel
    have HNO := Lib.hid hno
    have hzr := hbel.size
    clear hO hown hbel hno
    obtain ⟨q0, cp0, hv, _, _, _, _⟩ := RdG.of_own (sz := 1) (L := acc) stE_len rfl HOW.out
    subst hv
    -- the end of the function, from any such state
    by_cases hgo : i < s.size ∧ acc.length < m
    · obtain ⟨hlt, hlm⟩ := hgo
      have hli : (i : Int) < (s.size : Int) := by omega
      have hla : (acc.length : Int) < (m : Int) := by omega
      have hi0 : (0 : Int) ≤ (i : Int) := by omega
      have hb := HBT.out i hlt
      by_cases h32 : btN L i = 32
      · have hbi : (((s[i]'hlt).toNat : Nat) : Int) = 32 := by rw [hb, h32]; rfl
        have hex := HEX.out fr i hfi hin
        obtain ⟨hpl, hdr⟩ := HSA.out fr i hfi (by rw [HSZ.out]; exact hlt) h32 HNO.out
        have HON : Hid (O = (acc ++ [(L.drop fr).take (i - fr)]) ++ cutW (m - (acc ++ [(L.drop fr).take (i - fr)]).length) (L.drop (i + 1))) := by
          have e1 : cutW (m - acc.length) (L.drop fr) = (L.drop fr).take (i - fr) :: cutW (m - acc.length - 1) (L.drop (i + 1)) := by
            rw [show m - acc.length = (m - acc.length - 1) + 1 from by omega]
            conv => lhs; rw [hdr]
            rw [cutW_cons _ _ _ hpl]
            rfl
          unfold Hid
          rw [HOA.out, e1, List.length_append, List.length_singleton, show m - (acc.length + 1) = m - acc.length - 1 from by omega]
          simp
        clear hb h32 hpl hdr HEX
        generalize (L.drop fr).take (i - fr) = y at hex HON
        have hfr2 : (fr : Int) ≤ (i : Int) := by omega
        have hfr0 : (0 : Int) ≤ (fr : Int) := by omega
        have hin2 : (i : Int) ≤ (s.size : Int) := by omega
        go_wp2_with (at_builtin; refine wpList_append_own _ rfl _ _ _ rfl w.heap.size 9 i0 (.string ⟨#[]⟩) 1 16 Tryd.underlying46 hi hz0 hz1 hz2 rfl (by decide) _ _ _ rfl (HOW.out.alloc _) ⟨wr.heap.size, 0, none⟩ 1 1 (stE y) rfl rfl ?c1 ?c2 ?c3 ?c4 ?c5 ?_)
        case c1 => first | exact new1 wr _ _ | exact fun j u h => h
        case c2 => exact stE_one _
        case c3 => unfold maxLen; omega
        case c4 => omega
        case c5 => first | omega | (simp; omega)
        intro v' w4 hown4 hgrow4 _
        have HOW4 : Hid (w4.ownsRow w.heap.size 9 1 v' (acc ++ [y]).length ((acc ++ [y]).flatMap stE)) := by
          unfold Hid
          rw [flat_snoc, List.length_append]
          exact hown4
        have HB4 : Hid (Below w.heap.size w w4) := (HBL.out.alloc (by omega) _).grown hgrow4 (by simp; omega) (fun k' hk' => (HOW.out.lt k' hk').1)
        clear hown4 hgrow4
        go_wp2_with fail
        go_roundg (gk - 1)
        case measure => omega
        case rel => exact ⟨i + 1, i + 1, acc ++ [y], by omega, by omega, by omega, by go_num, by go_num, by rw [List.length_append, List.length_singleton]; omega, HON.out, fun j h1 h2 => by omega, HOW4.out, HB4.out⟩
      · have hbi : ((((s[i]'hlt).toNat : Nat) : Int) == 32) = false := by rw [hb]; simp; omega
        have HN2 : Hid (∀ j, fr ≤ j → j < i + 1 → btN L j ≠ 32) := fun j hj1 hj2 => by
          by_cases h : j < i
          · exact HNO.out j hj1 h
          · obtain rfl : j = i := by omega
            exact h32
        clear hb h32
        go_wp2_with fail
        go_roundg (gk - 1)
        case measure => omega
        case rel => exact ⟨i + 1, fr, acc, by omega, by omega, by omega, by go_num, rfl, hacc, HOA.out, HN2.out, HOW.out, HBL.out⟩
    · have HON : Hid (O = acc ++ [L.drop fr]) := by
        unfold Hid
        rw [HOA.out]
        congr 1
        by_cases hl : i < s.size
        · rw [show m - acc.length = 0 from by omega]
          rfl
        · exact cutW_last _ _ (HPE.out fr (fun j h1 h2 => HNO.out j h1 (by have := HSZ.out; omega)))
      have hex := HEX.out fr s.size (by omega) (Nat.le_refl _)
      have hty : (L.drop fr).take (s.size - fr) = L.drop fr := List.take_of_length_le (by rw [List.length_drop, HSZ.out]; exact Nat.le_refl _)
      rw [hty] at hex
      clear hty HEX HSA HPE HBT
      generalize L.drop fr = y at hex HON
      have hfr2 : (fr : Int) ≤ (s.size : Int) := by omega
      have hfr0 : (0 : Int) ≤ (fr : Int) := by omega
      by_cases hl : i < s.size
      · have hli : (i : Int) < (s.size : Int) := by omega
        have hla : ¬ (acc.length : Int) < (m : Int) := by omega
        go_wp2_with (at_builtin; refine wpList_append_own _ rfl _ _ _ rfl w.heap.size 9 i0 (.string ⟨#[]⟩) 1 16 Tryd.underlying46 hi hz0 hz1 hz2 rfl (by decide) _ _ _ rfl (HOW.out.alloc _) ⟨wr.heap.size, 0, none⟩ 1 1 (stE y) rfl rfl ?c1 ?c2 ?c3 ?c4 ?c5 ?_)
        case c1 => first | exact new1 wr _ _ | exact fun j u h => h
        case c2 => exact stE_one _
        case c3 => unfold maxLen; omega
        case c4 => omega
        case c5 => first | omega | (simp; omega)
        intro v' w4 hown4 hgrow4 _
        have HB4 : Hid (Below w.heap.size w w4) := (HBL.out.alloc (by omega) _).grown hgrow4 (by simp; omega) (fun k' hk' => (HOW.out.lt k' hk').1)
        have HOW4 : Hid (w4.ownsRow w.heap.size 9 1 v' (acc ++ [y]).length ((acc ++ [y]).flatMap stE)) := by
          unfold Hid
          rw [flat_snoc, List.length_append]
          exact hown4
        clear hown4 hgrow4
        obtain ⟨q, cp, rfl, _, _, hrd, hbl⟩ := RdG.of_own (sz := 1) (L := acc ++ [y]) stE_len rfl HOW4.out
        clear hbl
        go_wp2_with fail
        go_ret
        refine ⟨?_, HB4.out⟩
        rw [HON.out]
        exact ⟨q, cp, rfl, hrd⟩
      · obtain rfl : i = s.size := by omega
        have hli : ¬ (s.size : Int) < (s.size : Int) := by omega
        go_wp2_with (at_builtin; refine wpList_append_own _ rfl _ _ _ rfl w.heap.size 9 i0 (.string ⟨#[]⟩) 1 16 Tryd.underlying46 hi hz0 hz1 hz2 rfl (by decide) _ _ _ rfl (HOW.out.alloc _) ⟨wr.heap.size, 0, none⟩ 1 1 (stE y) rfl rfl ?c1 ?c2 ?c3 ?c4 ?c5 ?_)
        case c1 => first | exact new1 wr _ _ | exact fun j u h => h
        case c2 => exact stE_one _
        case c3 => unfold maxLen; omega
        case c4 => omega
        case c5 => first | omega | (simp; omega)
        intro v' w4 hown4 hgrow4 _
        have HB4 : Hid (Below w.heap.size w w4) := (HBL.out.alloc (by omega) _).grown hgrow4 (by simp; omega) (fun k' hk' => (HOW.out.lt k' hk').1)
        have HOW4 : Hid (w4.ownsRow w.heap.size 9 1 v' (acc ++ [y]).length ((acc ++ [y]).flatMap stE)) := by
          unfold Hid
          rw [flat_snoc, List.length_append]
          exact hown4
        clear hown4 hgrow4
        obtain ⟨q, cp, rfl, _, _, hrd, hbl⟩ := RdG.of_own (sz := 1) (L := acc ++ [y]) stE_len rfl HOW4.out
        clear hbl
        go_wp2_with fail
        go_ret
        refine ⟨?_, HB4.out⟩
        rw [HON.out]
        exact ⟨q, cp, rfl, hrd⟩
end Go.Proofs.YtddoghjopihkpaaDoor
