/- Trees: the document's Quote and holds. Printed by gen_trexc.py. Trees: the document's Print: leaves. Printed by gen_trexc.py. Trees: the document's Print. Printed by gen_trexc.py. Trees: 'To': the walk. -/
import Derived.Test.YtigmcoelkkihkaaGreatDoorPwP
import Derived.Deep.CutBlock
import Derived.Test.YtigmcoelkkihkaaGreatDoorPwD
import Derived.Test.YtigmcoelkkihkaaGreatDoorPwI
set_option linter.unusedSimpArgs false
set_option linter.unusedVariables false
namespace Go.Proofs.YtigmcoelkkihkaaGreatDoor
open Go.RowKit Go.Joins

def nx (L : List UInt8) (i : Nat) : Nat := (L.getD i 0).toNat
theorem nx_lt (L : List UInt8) (i : Nat) : nx L i < 256 := (L.getD i 0).toNat_lt
theorem nx_get {L : List UInt8} {i : Nat} (h : i < L.length) : nx L i = L[i].toNat := by simp [nx, List.getD, h]
theorem nx_str (s : ByteArray) (i : Nat) (h : i < s.size) : ((s[i].toNat : Nat) : Int) = (nx s.data.toList i : Int) := by
  have hl : i < s.data.toList.length := by rw [← Lib.size_eq]; exact h
  rw [nx_get hl]
  simp [ByteArray.getElem_eq_getElem_data]
theorem u8_eta (c : UInt8) : UInt8.ofNat c.toNat = c := by simp
theorem ext_one (s : ByteArray) (j : Nat) (h : j < s.size) : s.extract j (j + 1) = ⟨[UInt8.ofNat (nx s.data.toList j)].toArray⟩ := by
  have hl : j < s.data.toList.length := by rw [← Lib.size_eq]; exact h
  rw [nx_get hl, u8_eta]
  apply ByteArray.ext
  apply Array.ext'
  rw [ByteArray.data_extract, Array.toList_extract, List.extract_eq_take_drop, List.drop_eq_getElem_cons hl, show j + 1 - j = 1 by omega]
  rfl
theorem size_of (X : List UInt8) : (⟨X.toArray⟩ : ByteArray).size = X.length := by rw [Lib.size_eq]
theorem dblT_snoc : ∀ (l : List UInt8) (c : UInt8), dblT (l ++ [c]) = dblT l ++ (if c = 34 then [34, 34] else [c])
  | [], c => by
    show dblT [c] = _
    unfold dblT
    split <;> rfl
  | d :: r, c => by
    show dblT (d :: (r ++ [c])) = _
    unfold dblT
    rw [dblT_snoc r c]
    split <;> rfl

set_option maxRecDepth 100000 in
set_option maxHeartbeats 2000000 in
theorem refQuote_any (s : ByteArray) (hs : s.size ≤ 1100000) (w : World) :
    Calls Tryz.prog 49 #[.string s] w fun e w' => e = .returned (.string ⟨(quoT s.data.toList).toArray⟩) ∧ w = w' := by
  go_enter Tryz.func49, Tryz.ntmps49
  go_wp2_with fail
  go_loop [3, 4] (fun t v => ∃ (k : Nat) (x : ByteArray), v = .int .i64 k ∧ t = .string x ∧ k ≤ s.size ∧ x = ⟨(34 :: dblT (s.data.toList.take k)).toArray⟩) (fun _ v => s.size - (intOf v).toNat)
  case atStart => exact ⟨0, _, rfl, rfl, by omega, rfl⟩
  case round =>
    obtain ⟨k, x, rfl, rfl, hk, hx⟩ := hrel
    have hxs : x.size ≤ 3300000 := by
      rw [hx, size_of]
      have h1 := dblT_len (s.data.toList.take k)
      have h2 : (s.data.toList.take k).length ≤ k := List.length_take_le _ _
      simp
      omega
    have HX := Lib.hid hx
    clear hx
    have hz2 : (⟨#[34]⟩ : ByteArray).size = 1 := rfl
    rcases Nat.lt_or_ge k s.size with hlt | hge
    · have hlt' : k < s.data.toList.length := by rw [← Lib.size_eq]; exact hlt
      obtain ⟨c, hc⟩ : ∃ c, nx s.data.toList k = c := ⟨_, rfl⟩
      have hb1 := nx_str s k hlt
      rw [hc] at hb1
      have hx1 := ext_one s k hlt
      rw [hc] at hx1
      have hz3 : (s.extract k (k + 1)).size = 1 := by rw [hx1]; rfl
      have hts : s.data.toList.take (k + 1) = s.data.toList.take k ++ [UInt8.ofNat c] := by
        rw [List.take_succ_eq_append_getElem hlt', ← hc, nx_get hlt', u8_eta]
      by_cases h34 : c = 34
      · have e1 : (((s[k].toNat : Nat) : Int) == 34) = true := by rw [hb1, h34]; rfl
        have HN : Hid (x ++ ⟨#[34]⟩ ++ s.extract k (k + 1) = ⟨(34 :: dblT (s.data.toList.take (k + 1))).toArray⟩) := by
          unfold Hid
          rw [HX.out, hx1, show (⟨#[34]⟩ : ByteArray) = ⟨[34].toArray⟩ from rfl, cat2, cat2, hts, dblT_snoc, h34]
          rw [if_pos (by decide)]
          simp
          try decide
        have hz4 : (x ++ ⟨#[34]⟩).size ≤ 3300001 := by rw [HX.out, show (⟨#[34]⟩ : ByteArray) = ⟨[34].toArray⟩ from rfl, cat2, size_of]; have h := hxs; rw [HX.out, size_of] at h; simp at h ⊢; omega
        clear hc hb1 h34 hx1 hts
        go_wp2_with fail
        go_round
        case rel => exact ⟨k + 1, _, by go_num, rfl, by omega, HN.out⟩
        case measure => simp [intOf]; omega
      · have e1 : (((s[k].toNat : Nat) : Int) == 34) = false := by rw [hb1]; simp; omega
        have hc256 : c < 256 := by rw [← hc]; exact nx_lt _ _
        have HN : Hid (x ++ s.extract k (k + 1) = ⟨(34 :: dblT (s.data.toList.take (k + 1))).toArray⟩) := by
          unfold Hid
          rw [HX.out, hx1, cat2, hts, dblT_snoc, if_neg]
          · simp
          · intro e
            have := congrArg UInt8.toNat e
            simp at this
            omega
        clear hc hb1 h34 hx1 hts
        go_wp2_with fail
        go_round
        case rel => exact ⟨k + 1, _, by go_num, rfl, by omega, HN.out⟩
        case measure => simp [intOf]; omega
    · have HN : Hid (x ++ ⟨#[34]⟩ = ⟨(quoT s.data.toList).toArray⟩) := by
        unfold Hid quoT
        rw [HX.out, List.take_of_length_le (by rw [← Lib.size_eq]; exact hge), show (⟨#[34]⟩ : ByteArray) = ⟨[34].toArray⟩ from rfl, cat2]
        simp
      go_wp2_with fail
      go_ret
      exact ⟨by rw [← HN.out]; rfl, rfl⟩


set_option maxRecDepth 100000 in
set_option maxHeartbeats 2000000 in
theorem holds_any (n : Nd) (p : Option Addr) (len cap : Nat) (w : World) : Calls Tryz.prog 50 #[.agg (ndA n p len cap)] w fun e w' => e = .returned (.int .i64 (hdS n.kind n.text)) ∧ Below w.heap.size w w' := by
  have hA0 : Hid (NdB tRn (w.alloc (.cells (ndA n p len cap) tRn)) w.heap.size n p len cap) := heap_alloc_new w _
  have hAB : Hid (Below w.heap.size w (w.alloc (.cells (ndA n p len cap) tRn))) := by unfold Hid; (repeat' (first | (with_reducible exact Below.refl _ _) | (with_reducible assumption) | (with_reducible refine Below.alloc ?_ ?_ _) | (with_reducible refine bel_drewN ?_ _) | (with_reducible refine Below.drew ?_) | (with_reducible refine Below.setCell ?_ ?_ _) | (with_reducible refine bel_call ‹_› ?_ ?_) | go_size))
  have HLV := Lib.hid (fun W => rlevel_any ⟨n.text.toArray⟩ W)
  rw [show (⟨n.text.toArray⟩ : ByteArray).data.toList = n.text from rfl] at HLV
  obtain ⟨O, hO⟩ : ∃ O, hdS n.kind n.text = O := ⟨_, rfl⟩
  have HO : Hid (O = if n.kind = 6 then lvS n.text else if n.kind = 5 then 5 else 6) := by unfold Hid; rw [← hO]; rfl
  rw [hO]
  clear hO
  generalize lvS n.text = lv at HLV HO
  rw [ndA_eq]
  go_enter Tryz.func50, Tryz.ntmps50
  go_upto_region 1 with fail
  have e0 : w.alloc (.cells #[.int .i64 n.kind, .int .i64 n.num, .string ⟨n.text.toArray⟩, .int .i64 n.frm, .int .i64 n.tor, .slice p len cap] tRn) = w.alloc (.cells (ndA n p len cap) tRn) := rfl
  rw [e0]
  clear e0
  generalize w.alloc (.cells (ndA n p len cap) tRn) = w0 at hA0 hAB ⊢
  obtain ⟨c0, c1, c2, c3, c4, c5⟩ := hA0.out.cells
  by_cases h6 : n.kind = 6
  · rw [h6] at c0
    go_wp2_with fail
    refine (HLV.out _).mono ?_
    rintro e w3 ⟨rfl, hb3⟩
    have hB3 := bel_call hb3 hAB.out hAB.out.size
    go_wp2_with fail
    go_ret
    exact ⟨by rw [HO.out, if_pos h6]; rfl, hB3⟩
  · by_cases h5 : n.kind = 5
    · rw [h5] at c0
      go_wp2_with fail
      go_ret
      exact ⟨by rw [HO.out, if_neg h6, if_pos h5]; rfl, hAB.out⟩
    · go_wp2_with fail
      go_ret
      exact ⟨by rw [HO.out, if_neg h6, if_neg h5]; rfl, hAB.out⟩
end Go.Proofs.YtigmcoelkkihkaaGreatDoor
namespace Go.Proofs.YtigmcoelkkihkaaGreatDoor
open Go.RowKit Go.Joins

/-- What stands within a node's brackets. -/
def bdN (n : Nd) : Bs := prB nmS n.kind n.num n.text n.frm n.tor (prAt nmS n.args 0 5) (prAt nmS n.args 0 (lvS n.text)) (prAt nmS n.args 1 (lvS n.text + 1)) (prT nmS n.args)
theorem prN_bd (n : Nd) (least : Int) : prN nmS n least = if hdS n.kind n.text < least then 40 :: (bdN n ++ [41]) else bdN n := by cases n; rw [prN]; rfl
theorem bdN_len (n : Nd) (hok : OkN n) : (bdN n).length ≤ wtN n := by
  have h := prN_len nmS_len txt_lenT n hok 0
  have h0 : ¬ hdS n.kind n.text < 0 := by
    have := lvS_lo n.text
    unfold hdS
    split
    · omega
    · split <;> omega
  rw [prN_bd, if_neg h0] at h
  exact h
theorem nmN_kind (n : Nd) : (nmN nmS n).kind = n.kind := by cases n; rw [nmN]; rfl
theorem nmN_num (n : Nd) : (nmN nmS n).num = n.num := by cases n; rw [nmN]; rfl
theorem nmN_args (n : Nd) : (nmN nmS n).args = nmL nmS n.args := by cases n; rw [nmN]; rfl
theorem nmN_text (n : Nd) : (nmN nmS n).text = if n.kind = 3 then nmS n.frm else if n.kind = 4 then nmS n.frm ++ 58 :: nmS n.tor else n.text := by cases n; rw [nmN]; rfl
theorem nmN_holds (n : Nd) : hdS (nmN nmS n).kind (nmN nmS n).text = hdS n.kind n.text := by
  rw [nmN_kind, nmN_text]
  unfold hdS
  split
  · rw [if_neg (by omega), if_neg (by omega)]
  · rfl
theorem nmL_get : ∀ (a : List Nd) (i : Nat), (nmL nmS a)[i]? = a[i]?.map (nmN nmS)
  | [], i => by rw [nmL]; simp
  | c :: r, 0 => by rw [nmL]; simp
  | c :: r, i + 1 => by rw [nmL]; simpa using nmL_get r i
theorem nmL_len : ∀ a : List Nd, (nmL nmS a).length = a.length
  | [] => by rw [nmL]
  | c :: r => by rw [nmL, List.length_cons, List.length_cons, nmL_len r]
def RPrintC (q : Nd → Prop) (d : Nat) : Prop := ∀ (n : Nd) (p : Option Addr) (len cap : Nat) (least lv : Int) (w : World), q n → RdT w w.heap.size d (nmN nmS n) p len → OkN n → rtN n lv = true → 0 ≤ least → least ≤ 5 → wtN n ≤ 2200000 →
    Calls Tryz.prog 27 #[.agg (ndA (nmN nmS n) p len cap), .int .i64 least] w fun e w' => e = .returned (.string ⟨(prN nmS n least).toArray⟩) ∧ Below w.heap.size w w'

set_option maxRecDepth 100000 in
set_option maxHeartbeats 8000000 in
theorem rprint_1 (d : Nat) : RPrintC (fun n => n.kind = 1) d := by
  intro n p len cap least lv w hq hrd hok hrt hl0 hl1 hwt
  have hk : n.kind = 1 := hq
  have hA0 : Hid (NdB tRn (w.alloc (.cells (ndA (nmN nmS n) p len cap) tRn)) w.heap.size (nmN nmS n) p len cap) := heap_alloc_new w _
  have hAB : Hid (Below w.heap.size w (w.alloc (.cells (ndA (nmN nmS n) p len cap) tRn))) := by unfold Hid; (repeat' (first | (with_reducible exact Below.refl _ _) | (with_reducible assumption) | (with_reducible refine Below.alloc ?_ ?_ _) | (with_reducible refine bel_drewN ?_ _) | (with_reducible refine Below.drew ?_) | (with_reducible refine Below.setCell ?_ ?_ _) | (with_reducible refine bel_call ‹_› ?_ ?_) | go_size))
  have HHO := Lib.hid (fun W => holds_any (nmN nmS n) p len cap W)
  rw [nmN_holds] at HHO
  rw [prN_bd]
  have hbl := bdN_len n hok
  have HKM : Hid ((nmN nmS n).kind = n.kind) := nmN_kind n
  rw [hk] at HKM
  have HBD : Hid (bdN n = txt (nmN nmS n).num) := by unfold Hid bdN prB; rw [nmN_num]; rw [hk]; simp
  have HT := Lib.hid (fun W => refText_any n.num hok.num.1 hok.num.2 W)
  rw [← nmN_num] at HT
  obtain ⟨X, hX⟩ : ∃ X, bdN n = X := ⟨_, rfl⟩
  have HX := Lib.hid hX
  rw [hX] at hbl ⊢
  clear hX
  obtain ⟨h, hh⟩ : ∃ h, hdS n.kind n.text = h := ⟨_, rfl⟩
  rw [hh] at HHO ⊢
  clear hh
  generalize nmN nmS n = m at *
  rw [ndA_eq] at HHO ⊢
  go_enter Tryz.func27, Tryz.ntmps27
  go_upto_region 1 with fail
  have e0 : w.alloc (.cells #[.int .i64 m.kind, .int .i64 m.num, .string ⟨m.text.toArray⟩, .int .i64 m.frm, .int .i64 m.tor, .slice p len cap] tRn) = w.alloc (.cells (ndA m p len cap) tRn) := rfl
  rw [e0]
  clear e0
  generalize w.alloc (.cells (ndA m p len cap) tRn) = w0 at hA0 hAB ⊢
  have hXs : (⟨X.toArray⟩ : ByteArray).size ≤ 2200000 := by rw [Lib.size_eq]; exact Nat.le_trans hbl hwt
  obtain ⟨c0, c1, c2, c3, c4, c5⟩ := hA0.out.cells
  rw [HKM.out] at c0
  go_upto_block 0 with fail
  go_cut [5] (fun v wx => v = .string ⟨X.toArray⟩ ∧ Below w.heap.size w wx ∧ NdB tRn wx w.heap.size m p len cap)
  case first =>
    go_wp2_with fail
    refine (HT.out _).mono ?_
    rintro e w1 ⟨rfl, hb⟩
    have hB1 : Hid (Below w.heap.size w w1) := bel_call hb hAB.out hAB.out.size
    have hN1 := Lib.hid (hA0.out.below hb)
    clear hb c0 c1 c2 c3 c4 c5 hA0 hAB HT HHO
    go_wp2_with fail
    go_meet
    exact ⟨by rw [← HX.out, HBD.out], hB1.out, hN1.out⟩
  case rest =>
    obtain ⟨hv, hB, hN⟩ := hcut
    subst hv
    have hBw := Lib.hid hB
    have hNw := Lib.hid hN
    clear hB hN hA0 hAB HX HKM c0 c1 c2 c3 c4 c5
    obtain ⟨c0, c1, c2, c3, c4, c5⟩ := hNw.out.cells
    have z1 : (⟨#[40]⟩ : ByteArray).size = 1 := rfl
    have z2 : (⟨#[41]⟩ : ByteArray).size = 1 := rfl
    have h1 : (⟨#[40]⟩ : ByteArray) ++ ⟨X.toArray⟩ = ⟨(40 :: X).toArray⟩ := cat2 [40] X
    have h2 : (⟨(40 :: X).toArray⟩ : ByteArray) ++ ⟨#[41]⟩ = ⟨(40 :: (X ++ [41])).toArray⟩ := cat2 (40 :: X) [41]
    have z3 : (⟨(40 :: X).toArray⟩ : ByteArray).size ≤ 2200001 := by rw [Lib.size_eq]; have := hXs; rw [Lib.size_eq] at this; simpa using this
    by_cases hl : h < least
    · go_wp2_with fail
      refine (HHO.out _).mono ?_
      rintro e w1 ⟨rfl, hb⟩
      have hB1 := bel_call hb hBw.out hBw.out.size
      clear hb hBw hNw c0 c1 c2 c3 c4 c5 HHO
      go_wp2_with fail
      go_ret
      exact ⟨by first | rfl | (rw [if_pos hl]; done) | (rw [if_pos hl]; rfl) | (rw [if_pos hl, ← h2, ← h1]; rfl), hB1⟩
    · go_wp2_with fail
      refine (HHO.out _).mono ?_
      rintro e w1 ⟨rfl, hb⟩
      have hB1 := bel_call hb hBw.out hBw.out.size
      clear hb hBw hNw c0 c1 c2 c3 c4 c5 HHO
      go_wp2_with fail
      go_ret
      exact ⟨by first | rfl | (rw [if_neg hl]; done) | (rw [if_neg hl]; rfl), hB1⟩

set_option maxRecDepth 100000 in
set_option maxHeartbeats 8000000 in
theorem rprint_2 (d : Nat) : RPrintC (fun n => n.kind = 2) d := by
  intro n p len cap least lv w hq hrd hok hrt hl0 hl1 hwt
  have hk : n.kind = 2 := hq
  have hA0 : Hid (NdB tRn (w.alloc (.cells (ndA (nmN nmS n) p len cap) tRn)) w.heap.size (nmN nmS n) p len cap) := heap_alloc_new w _
  have hAB : Hid (Below w.heap.size w (w.alloc (.cells (ndA (nmN nmS n) p len cap) tRn))) := by unfold Hid; (repeat' (first | (with_reducible exact Below.refl _ _) | (with_reducible assumption) | (with_reducible refine Below.alloc ?_ ?_ _) | (with_reducible refine bel_drewN ?_ _) | (with_reducible refine Below.drew ?_) | (with_reducible refine Below.setCell ?_ ?_ _) | (with_reducible refine bel_call ‹_› ?_ ?_) | go_size))
  have HHO := Lib.hid (fun W => holds_any (nmN nmS n) p len cap W)
  rw [nmN_holds] at HHO
  rw [prN_bd]
  have hbl := bdN_len n hok
  have HKM : Hid ((nmN nmS n).kind = n.kind) := nmN_kind n
  rw [hk] at HKM
  have HBD : Hid (bdN n = quoT (nmN nmS n).text) := by unfold Hid bdN prB; rw [show (nmN nmS n).text = n.text from by rw [nmN_text, if_neg (by omega), if_neg (by omega)]]; rw [hk]; simp
  have hts : (⟨n.text.toArray⟩ : ByteArray).size ≤ 1100000 := by rw [Lib.size_eq]; rw [wtN_eq] at hwt; simp; omega
  have HT := Lib.hid (fun W => refQuote_any ⟨n.text.toArray⟩ hts W)
  rw [show (⟨n.text.toArray⟩ : ByteArray).data.toList = n.text from rfl] at HT
  have htx : (nmN nmS n).text = n.text := by rw [nmN_text, if_neg (by omega), if_neg (by omega)]
  rw [← htx] at HT
  clear htx hts
  obtain ⟨X, hX⟩ : ∃ X, bdN n = X := ⟨_, rfl⟩
  have HX := Lib.hid hX
  rw [hX] at hbl ⊢
  clear hX
  obtain ⟨h, hh⟩ : ∃ h, hdS n.kind n.text = h := ⟨_, rfl⟩
  rw [hh] at HHO ⊢
  clear hh
  generalize nmN nmS n = m at *
  rw [ndA_eq] at HHO ⊢
  go_enter Tryz.func27, Tryz.ntmps27
  go_upto_region 1 with fail
  have e0 : w.alloc (.cells #[.int .i64 m.kind, .int .i64 m.num, .string ⟨m.text.toArray⟩, .int .i64 m.frm, .int .i64 m.tor, .slice p len cap] tRn) = w.alloc (.cells (ndA m p len cap) tRn) := rfl
  rw [e0]
  clear e0
  generalize w.alloc (.cells (ndA m p len cap) tRn) = w0 at hA0 hAB ⊢
  have hXs : (⟨X.toArray⟩ : ByteArray).size ≤ 2200000 := by rw [Lib.size_eq]; exact Nat.le_trans hbl hwt
  obtain ⟨c0, c1, c2, c3, c4, c5⟩ := hA0.out.cells
  rw [HKM.out] at c0
  go_upto_block 0 with fail
  go_cut [5] (fun v wx => v = .string ⟨X.toArray⟩ ∧ Below w.heap.size w wx ∧ NdB tRn wx w.heap.size m p len cap)
  case first =>
    go_wp2_with fail
    refine (HT.out _).mono ?_
    rintro e w1 ⟨rfl, hw⟩
    have hb : Below w0.heap.size w0 w1 := by rw [← hw]; exact Below.refl _ _
    clear hw
    have hB1 : Hid (Below w.heap.size w w1) := bel_call hb hAB.out hAB.out.size
    have hN1 := Lib.hid (hA0.out.below hb)
    clear hb c0 c1 c2 c3 c4 c5 hA0 hAB HT HHO
    go_wp2_with fail
    go_meet
    exact ⟨by rw [← HX.out, HBD.out], hB1.out, hN1.out⟩
  case rest =>
    obtain ⟨hv, hB, hN⟩ := hcut
    subst hv
    have hBw := Lib.hid hB
    have hNw := Lib.hid hN
    clear hB hN hA0 hAB HX HKM c0 c1 c2 c3 c4 c5
    obtain ⟨c0, c1, c2, c3, c4, c5⟩ := hNw.out.cells
    have z1 : (⟨#[40]⟩ : ByteArray).size = 1 := rfl
    have z2 : (⟨#[41]⟩ : ByteArray).size = 1 := rfl
    have h1 : (⟨#[40]⟩ : ByteArray) ++ ⟨X.toArray⟩ = ⟨(40 :: X).toArray⟩ := cat2 [40] X
    have h2 : (⟨(40 :: X).toArray⟩ : ByteArray) ++ ⟨#[41]⟩ = ⟨(40 :: (X ++ [41])).toArray⟩ := cat2 (40 :: X) [41]
    have z3 : (⟨(40 :: X).toArray⟩ : ByteArray).size ≤ 2200001 := by rw [Lib.size_eq]; have := hXs; rw [Lib.size_eq] at this; simpa using this
    by_cases hl : h < least
    · go_wp2_with fail
      refine (HHO.out _).mono ?_
      rintro e w1 ⟨rfl, hb⟩
      have hB1 := bel_call hb hBw.out hBw.out.size
      clear hb hBw hNw c0 c1 c2 c3 c4 c5 HHO
      go_wp2_with fail
      go_ret
      exact ⟨by first | rfl | (rw [if_pos hl]; done) | (rw [if_pos hl]; rfl) | (rw [if_pos hl, ← h2, ← h1]; rfl), hB1⟩
    · go_wp2_with fail
      refine (HHO.out _).mono ?_
      rintro e w1 ⟨rfl, hb⟩
      have hB1 := bel_call hb hBw.out hBw.out.size
      clear hb hBw hNw c0 c1 c2 c3 c4 c5 HHO
      go_wp2_with fail
      go_ret
      exact ⟨by first | rfl | (rw [if_neg hl]; done) | (rw [if_neg hl]; rfl), hB1⟩

set_option maxRecDepth 100000 in
set_option maxHeartbeats 8000000 in
theorem rprint_3 (d : Nat) : RPrintC (fun n => n.kind = 3) d := by
  intro n p len cap least lv w hq hrd hok hrt hl0 hl1 hwt
  have hk : n.kind = 3 := hq
  have hA0 : Hid (NdB tRn (w.alloc (.cells (ndA (nmN nmS n) p len cap) tRn)) w.heap.size (nmN nmS n) p len cap) := heap_alloc_new w _
  have hAB : Hid (Below w.heap.size w (w.alloc (.cells (ndA (nmN nmS n) p len cap) tRn))) := by unfold Hid; (repeat' (first | (with_reducible exact Below.refl _ _) | (with_reducible assumption) | (with_reducible refine Below.alloc ?_ ?_ _) | (with_reducible refine bel_drewN ?_ _) | (with_reducible refine Below.drew ?_) | (with_reducible refine Below.setCell ?_ ?_ _) | (with_reducible refine bel_call ‹_› ?_ ?_) | go_size))
  have HHO := Lib.hid (fun W => holds_any (nmN nmS n) p len cap W)
  rw [nmN_holds] at HHO
  rw [prN_bd]
  have hbl := bdN_len n hok
  have HKM : Hid ((nmN nmS n).kind = n.kind) := nmN_kind n
  rw [hk] at HKM
  have HBD : Hid (bdN n = nmS n.frm) := by unfold Hid bdN prB; rw [hk]; simp
  have HTX : Hid ((nmN nmS n).text = nmS n.frm) := by unfold Hid; rw [nmN_text, if_pos hk]
  obtain ⟨X, hX⟩ : ∃ X, bdN n = X := ⟨_, rfl⟩
  have HX := Lib.hid hX
  rw [hX] at hbl ⊢
  clear hX
  obtain ⟨h, hh⟩ : ∃ h, hdS n.kind n.text = h := ⟨_, rfl⟩
  rw [hh] at HHO ⊢
  clear hh
  generalize nmN nmS n = m at *
  rw [ndA_eq] at HHO ⊢
  go_enter Tryz.func27, Tryz.ntmps27
  go_upto_region 1 with fail
  have e0 : w.alloc (.cells #[.int .i64 m.kind, .int .i64 m.num, .string ⟨m.text.toArray⟩, .int .i64 m.frm, .int .i64 m.tor, .slice p len cap] tRn) = w.alloc (.cells (ndA m p len cap) tRn) := rfl
  rw [e0]
  clear e0
  generalize w.alloc (.cells (ndA m p len cap) tRn) = w0 at hA0 hAB ⊢
  have hXs : (⟨X.toArray⟩ : ByteArray).size ≤ 2200000 := by rw [Lib.size_eq]; exact Nat.le_trans hbl hwt
  obtain ⟨c0, c1, c2, c3, c4, c5⟩ := hA0.out.cells
  rw [HKM.out] at c0
  go_upto_block 0 with fail
  go_cut [5] (fun v wx => v = .string ⟨X.toArray⟩ ∧ Below w.heap.size w wx ∧ NdB tRn wx w.heap.size m p len cap)
  case first =>
    go_wp2_with fail
    go_meet
    exact ⟨by rw [← HX.out, HBD.out, ← HTX.out], hAB.out, hA0.out⟩
  case rest =>
    obtain ⟨hv, hB, hN⟩ := hcut
    subst hv
    have hBw := Lib.hid hB
    have hNw := Lib.hid hN
    clear hB hN hA0 hAB HX HKM c0 c1 c2 c3 c4 c5
    obtain ⟨c0, c1, c2, c3, c4, c5⟩ := hNw.out.cells
    have z1 : (⟨#[40]⟩ : ByteArray).size = 1 := rfl
    have z2 : (⟨#[41]⟩ : ByteArray).size = 1 := rfl
    have h1 : (⟨#[40]⟩ : ByteArray) ++ ⟨X.toArray⟩ = ⟨(40 :: X).toArray⟩ := cat2 [40] X
    have h2 : (⟨(40 :: X).toArray⟩ : ByteArray) ++ ⟨#[41]⟩ = ⟨(40 :: (X ++ [41])).toArray⟩ := cat2 (40 :: X) [41]
    have z3 : (⟨(40 :: X).toArray⟩ : ByteArray).size ≤ 2200001 := by rw [Lib.size_eq]; have := hXs; rw [Lib.size_eq] at this; simpa using this
    by_cases hl : h < least
    · go_wp2_with fail
      refine (HHO.out _).mono ?_
      rintro e w1 ⟨rfl, hb⟩
      have hB1 := bel_call hb hBw.out hBw.out.size
      clear hb hBw hNw c0 c1 c2 c3 c4 c5 HHO
      go_wp2_with fail
      go_ret
      exact ⟨by first | rfl | (rw [if_pos hl]; done) | (rw [if_pos hl]; rfl) | (rw [if_pos hl, ← h2, ← h1]; rfl), hB1⟩
    · go_wp2_with fail
      refine (HHO.out _).mono ?_
      rintro e w1 ⟨rfl, hb⟩
      have hB1 := bel_call hb hBw.out hBw.out.size
      clear hb hBw hNw c0 c1 c2 c3 c4 c5 HHO
      go_wp2_with fail
      go_ret
      exact ⟨by first | rfl | (rw [if_neg hl]; done) | (rw [if_neg hl]; rfl), hB1⟩

set_option maxRecDepth 100000 in
set_option maxHeartbeats 8000000 in
theorem rprint_4 (d : Nat) : RPrintC (fun n => n.kind = 4) d := by
  intro n p len cap least lv w hq hrd hok hrt hl0 hl1 hwt
  have hk : n.kind = 4 := hq
  have hA0 : Hid (NdB tRn (w.alloc (.cells (ndA (nmN nmS n) p len cap) tRn)) w.heap.size (nmN nmS n) p len cap) := heap_alloc_new w _
  have hAB : Hid (Below w.heap.size w (w.alloc (.cells (ndA (nmN nmS n) p len cap) tRn))) := by unfold Hid; (repeat' (first | (with_reducible exact Below.refl _ _) | (with_reducible assumption) | (with_reducible refine Below.alloc ?_ ?_ _) | (with_reducible refine bel_drewN ?_ _) | (with_reducible refine Below.drew ?_) | (with_reducible refine Below.setCell ?_ ?_ _) | (with_reducible refine bel_call ‹_› ?_ ?_) | go_size))
  have HHO := Lib.hid (fun W => holds_any (nmN nmS n) p len cap W)
  rw [nmN_holds] at HHO
  rw [prN_bd]
  have hbl := bdN_len n hok
  have HKM : Hid ((nmN nmS n).kind = n.kind) := nmN_kind n
  rw [hk] at HKM
  have HBD : Hid (bdN n = nmS n.frm ++ 58 :: nmS n.tor) := by unfold Hid bdN prB; rw [hk]; simp
  have HTX : Hid ((nmN nmS n).text = nmS n.frm ++ 58 :: nmS n.tor) := by unfold Hid; rw [nmN_text, if_neg (by omega), if_pos hk]
  obtain ⟨X, hX⟩ : ∃ X, bdN n = X := ⟨_, rfl⟩
  have HX := Lib.hid hX
  rw [hX] at hbl ⊢
  clear hX
  obtain ⟨h, hh⟩ : ∃ h, hdS n.kind n.text = h := ⟨_, rfl⟩
  rw [hh] at HHO ⊢
  clear hh
  generalize nmN nmS n = m at *
  rw [ndA_eq] at HHO ⊢
  go_enter Tryz.func27, Tryz.ntmps27
  go_upto_region 1 with fail
  have e0 : w.alloc (.cells #[.int .i64 m.kind, .int .i64 m.num, .string ⟨m.text.toArray⟩, .int .i64 m.frm, .int .i64 m.tor, .slice p len cap] tRn) = w.alloc (.cells (ndA m p len cap) tRn) := rfl
  rw [e0]
  clear e0
  generalize w.alloc (.cells (ndA m p len cap) tRn) = w0 at hA0 hAB ⊢
  have hXs : (⟨X.toArray⟩ : ByteArray).size ≤ 2200000 := by rw [Lib.size_eq]; exact Nat.le_trans hbl hwt
  obtain ⟨c0, c1, c2, c3, c4, c5⟩ := hA0.out.cells
  rw [HKM.out] at c0
  go_upto_block 0 with fail
  go_cut [5] (fun v wx => v = .string ⟨X.toArray⟩ ∧ Below w.heap.size w wx ∧ NdB tRn wx w.heap.size m p len cap)
  case first =>
    go_wp2_with fail
    go_meet
    exact ⟨by rw [← HX.out, HBD.out, ← HTX.out], hAB.out, hA0.out⟩
  case rest =>
    obtain ⟨hv, hB, hN⟩ := hcut
    subst hv
    have hBw := Lib.hid hB
    have hNw := Lib.hid hN
    clear hB hN hA0 hAB HX HKM c0 c1 c2 c3 c4 c5
    obtain ⟨c0, c1, c2, c3, c4, c5⟩ := hNw.out.cells
    have z1 : (⟨#[40]⟩ : ByteArray).size = 1 := rfl
    have z2 : (⟨#[41]⟩ : ByteArray).size = 1 := rfl
    have h1 : (⟨#[40]⟩ : ByteArray) ++ ⟨X.toArray⟩ = ⟨(40 :: X).toArray⟩ := cat2 [40] X
    have h2 : (⟨(40 :: X).toArray⟩ : ByteArray) ++ ⟨#[41]⟩ = ⟨(40 :: (X ++ [41])).toArray⟩ := cat2 (40 :: X) [41]
    have z3 : (⟨(40 :: X).toArray⟩ : ByteArray).size ≤ 2200001 := by rw [Lib.size_eq]; have := hXs; rw [Lib.size_eq] at this; simpa using this
    by_cases hl : h < least
    · go_wp2_with fail
      refine (HHO.out _).mono ?_
      rintro e w1 ⟨rfl, hb⟩
      have hB1 := bel_call hb hBw.out hBw.out.size
      clear hb hBw hNw c0 c1 c2 c3 c4 c5 HHO
      go_wp2_with fail
      go_ret
      exact ⟨by first | rfl | (rw [if_pos hl]; done) | (rw [if_pos hl]; rfl) | (rw [if_pos hl, ← h2, ← h1]; rfl), hB1⟩
    · go_wp2_with fail
      refine (HHO.out _).mono ?_
      rintro e w1 ⟨rfl, hb⟩
      have hB1 := bel_call hb hBw.out hBw.out.size
      clear hb hBw hNw c0 c1 c2 c3 c4 c5 HHO
      go_wp2_with fail
      go_ret
      exact ⟨by first | rfl | (rw [if_neg hl]; done) | (rw [if_neg hl]; rfl), hB1⟩

set_option maxRecDepth 100000 in
set_option maxHeartbeats 8000000 in
theorem rprint_8 (d : Nat) : RPrintC (fun n => n.kind = 8) d := by
  intro n p len cap least lv w hq hrd hok hrt hl0 hl1 hwt
  have hk : n.kind = 8 := hq
  have hA0 : Hid (NdB tRn (w.alloc (.cells (ndA (nmN nmS n) p len cap) tRn)) w.heap.size (nmN nmS n) p len cap) := heap_alloc_new w _
  have hAB : Hid (Below w.heap.size w (w.alloc (.cells (ndA (nmN nmS n) p len cap) tRn))) := by unfold Hid; (repeat' (first | (with_reducible exact Below.refl _ _) | (with_reducible assumption) | (with_reducible refine Below.alloc ?_ ?_ _) | (with_reducible refine bel_drewN ?_ _) | (with_reducible refine Below.drew ?_) | (with_reducible refine Below.setCell ?_ ?_ _) | (with_reducible refine bel_call ‹_› ?_ ?_) | go_size))
  have HHO := Lib.hid (fun W => holds_any (nmN nmS n) p len cap W)
  rw [nmN_holds] at HHO
  rw [prN_bd]
  have hbl := bdN_len n hok
  have HKM : Hid ((nmN nmS n).kind = n.kind) := nmN_kind n
  rw [hk] at HKM
  have HBD : Hid (bdN n = refBs) := by unfold Hid bdN prB; rw [hk]; simp
  obtain ⟨X, hX⟩ : ∃ X, bdN n = X := ⟨_, rfl⟩
  have HX := Lib.hid hX
  rw [hX] at hbl ⊢
  clear hX
  obtain ⟨h, hh⟩ : ∃ h, hdS n.kind n.text = h := ⟨_, rfl⟩
  rw [hh] at HHO ⊢
  clear hh
  generalize nmN nmS n = m at *
  rw [ndA_eq] at HHO ⊢
  go_enter Tryz.func27, Tryz.ntmps27
  go_upto_region 1 with fail
  have e0 : w.alloc (.cells #[.int .i64 m.kind, .int .i64 m.num, .string ⟨m.text.toArray⟩, .int .i64 m.frm, .int .i64 m.tor, .slice p len cap] tRn) = w.alloc (.cells (ndA m p len cap) tRn) := rfl
  rw [e0]
  clear e0
  generalize w.alloc (.cells (ndA m p len cap) tRn) = w0 at hA0 hAB ⊢
  have hXs : (⟨X.toArray⟩ : ByteArray).size ≤ 2200000 := by rw [Lib.size_eq]; exact Nat.le_trans hbl hwt
  obtain ⟨c0, c1, c2, c3, c4, c5⟩ := hA0.out.cells
  rw [HKM.out] at c0
  go_upto_block 0 with fail
  go_cut [5] (fun v wx => v = .string ⟨X.toArray⟩ ∧ Below w.heap.size w wx ∧ NdB tRn wx w.heap.size m p len cap)
  case first =>
    go_wp2_with fail
    go_meet
    exact ⟨by rw [← HX.out, HBD.out]; rfl, hAB.out, hA0.out⟩
  case rest =>
    obtain ⟨hv, hB, hN⟩ := hcut
    subst hv
    have hBw := Lib.hid hB
    have hNw := Lib.hid hN
    clear hB hN hA0 hAB HX HKM c0 c1 c2 c3 c4 c5
    obtain ⟨c0, c1, c2, c3, c4, c5⟩ := hNw.out.cells
    have z1 : (⟨#[40]⟩ : ByteArray).size = 1 := rfl
    have z2 : (⟨#[41]⟩ : ByteArray).size = 1 := rfl
    have h1 : (⟨#[40]⟩ : ByteArray) ++ ⟨X.toArray⟩ = ⟨(40 :: X).toArray⟩ := cat2 [40] X
    have h2 : (⟨(40 :: X).toArray⟩ : ByteArray) ++ ⟨#[41]⟩ = ⟨(40 :: (X ++ [41])).toArray⟩ := cat2 (40 :: X) [41]
    have z3 : (⟨(40 :: X).toArray⟩ : ByteArray).size ≤ 2200001 := by rw [Lib.size_eq]; have := hXs; rw [Lib.size_eq] at this; simpa using this
    by_cases hl : h < least
    · go_wp2_with fail
      refine (HHO.out _).mono ?_
      rintro e w1 ⟨rfl, hb⟩
      have hB1 := bel_call hb hBw.out hBw.out.size
      clear hb hBw hNw c0 c1 c2 c3 c4 c5 HHO
      go_wp2_with fail
      go_ret
      exact ⟨by first | rfl | (rw [if_pos hl]; done) | (rw [if_pos hl]; rfl) | (rw [if_pos hl, ← h2, ← h1]; rfl), hB1⟩
    · go_wp2_with fail
      refine (HHO.out _).mono ?_
      rintro e w1 ⟨rfl, hb⟩
      have hB1 := bel_call hb hBw.out hBw.out.size
      clear hb hBw hNw c0 c1 c2 c3 c4 c5 HHO
      go_wp2_with fail
      go_ret
      exact ⟨by first | rfl | (rw [if_neg hl]; done) | (rw [if_neg hl]; rfl), hB1⟩
end Go.Proofs.YtigmcoelkkihkaaGreatDoor
namespace Go.Proofs.YtigmcoelkkihkaaGreatDoor
open Go.RowKit Go.Joins

theorem lvS_hi (s : Bs) : lvS s ≤ 4 := by
  unfold lvS
  split
  · omega
  · split
    · omega
    · split
      · omega
      · split <;> omega

set_option maxRecDepth 100000 in
set_option maxHeartbeats 8000000 in
theorem rprint_5 (d : Nat) (IH : ∀ d', d = d' + 1 → RPrintC (fun _ => True) d') : RPrintC (fun n => n.kind = 5) d := by
  intro n p len cap least lv w hq hrd hok hrt hl0 hl1 hwt
  have hk : n.kind = 5 := hq
  obtain ⟨x, hxa⟩ : ∃ x, n.args = [x] := args_one hrt hk
  have hmx : x ∈ n.args := by rw [hxa]; simp
  have hma : (nmN nmS n).args = [nmN nmS x] := by rw [nmN_args, hxa, nmL, nmL]
  have hwx : wtN n = 400 + 2 * n.text.length + (wtN x + 1) := by rw [wtN_eq, hxa, wtL, wtL]
  obtain rfl : len = 1 := by rw [← hrd.len, hma]; rfl
  have HRX : Hid (∀ W, Below w.heap.size w W → ∃ d' bb off p' l' c', d = d' + 1 ∧ p = some ⟨bb, off, none⟩ ∧ bb < w.heap.size ∧ RdT W w.heap.size d' (nmN nmS x) p' l' ∧ W.cell? ⟨bb, off, none⟩ = some (.int .i64 (nmN nmS x).kind) ∧ W.cell? ⟨bb, off + 1, none⟩ = some (.int .i64 (nmN nmS x).num) ∧ W.cell? ⟨bb, off + 2, none⟩ = some (.string ⟨(nmN nmS x).text.toArray⟩) ∧ W.cell? ⟨bb, off + 3, none⟩ = some (.int .i64 (nmN nmS x).frm) ∧ W.cell? ⟨bb, off + 4, none⟩ = some (.int .i64 (nmN nmS x).tor) ∧ W.cell? ⟨bb, off + 5, none⟩ = some (.slice p' l' c')) := by
    intro W hW
    obtain ⟨d', bb, off, c, p', l', c', hd, hp, hbN, hc, hrc, q0, q1, q2, q3, q4, q5⟩ := (hrd.below hW).at (j := 0) (by omega)
    rw [hma] at hc
    cases hc
    exact ⟨d', bb, off, p', l', c', hd, hp, hbN, hrc, q0, q1, q2, q3, q4, q5⟩
  have HIX := Lib.hid (fun d' (hd : d = d' + 1) p' l' c' W (hrx : RdT W W.heap.size d' (nmN nmS x) p' l') => IH d' hd x p' l' c' 5 (lv - 1) W trivial hrx (hok.child hmx) (rtN_kids hrt _ hmx) (by omega) (by omega) (by omega))
  have hPl : (prN nmS x 5).length ≤ wtN x := prN_len nmS_len txt_lenT x (hok.child hmx) 5
  have hA0 : Hid (NdB tRn (w.alloc (.cells (ndA (nmN nmS n) p 1 cap) tRn)) w.heap.size (nmN nmS n) p 1 cap) := heap_alloc_new w _
  have hAB : Hid (Below w.heap.size w (w.alloc (.cells (ndA (nmN nmS n) p 1 cap) tRn))) := by unfold Hid; (repeat' (first | (with_reducible exact Below.refl _ _) | (with_reducible assumption) | (with_reducible refine Below.alloc ?_ ?_ _) | (with_reducible refine bel_drewN ?_ _) | (with_reducible refine Below.drew ?_) | (with_reducible refine Below.setCell ?_ ?_ _) | (with_reducible refine bel_call ‹_› ?_ ?_) | go_size))
  have HHO := Lib.hid (fun W => holds_any (nmN nmS n) p 1 cap W)
  rw [nmN_holds] at HHO
  rw [prN_bd]
  have hbl := bdN_len n hok
  have HKM : Hid ((nmN nmS n).kind = n.kind) := nmN_kind n
  rw [hk] at HKM
  have HBD : Hid (bdN n = 45 :: prN nmS x 5) := by unfold Hid bdN prB; rw [hk, hxa, prAt, if_pos rfl]; simp
  generalize prN nmS x 5 = P at HIX hPl HBD
  generalize nmN nmS x = mx at HIX HRX hma
  clear IH hrd hma
  obtain ⟨X, hX⟩ : ∃ X, bdN n = X := ⟨_, rfl⟩
  have HX := Lib.hid hX
  rw [hX] at hbl ⊢
  clear hX
  obtain ⟨h, hh⟩ : ∃ h, hdS n.kind n.text = h := ⟨_, rfl⟩
  rw [hh] at HHO ⊢
  clear hh
  generalize nmN nmS n = m at *
  rw [ndA_eq] at HHO ⊢
  go_enter Tryz.func27, Tryz.ntmps27
  go_upto_region 1 with fail
  have e0 : w.alloc (.cells #[.int .i64 m.kind, .int .i64 m.num, .string ⟨m.text.toArray⟩, .int .i64 m.frm, .int .i64 m.tor, .slice p 1 cap] tRn) = w.alloc (.cells (ndA m p 1 cap) tRn) := rfl
  rw [e0]
  clear e0
  generalize w.alloc (.cells (ndA m p 1 cap) tRn) = w0 at hA0 hAB ⊢
  have hXs : (⟨X.toArray⟩ : ByteArray).size ≤ 2200000 := by rw [Lib.size_eq]; exact Nat.le_trans hbl hwt
  obtain ⟨c0, c1, c2, c3, c4, c5⟩ := hA0.out.cells
  rw [HKM.out] at c0
  go_upto_block 0 with fail
  go_cut [5] (fun v wx => v = .string ⟨X.toArray⟩ ∧ Below w.heap.size w wx ∧ NdB tRn wx w.heap.size m p 1 cap)
  case first =>
    obtain ⟨d', bb, off, p', l', c', hd, rfl, hbb, hrx, q0, q1, q2, q3, q4, q5⟩ := HRX.out w0 hAB.out
    have HCX := Lib.hid (HIX.out d' hd p' l' c' w0 (hrx.mono hAB.out.size))
    rw [ndA_eq] at HCX
    have hPs : (⟨P.toArray⟩ : ByteArray).size ≤ 2200000 := by rw [Lib.size_eq]; simp; omega
    have hz1 : (⟨#[45]⟩ : ByteArray).size = 1 := rfl
    have hcat : (⟨#[45]⟩ : ByteArray) ++ ⟨P.toArray⟩ = ⟨(45 :: P).toArray⟩ := cat2 [45] P
    clear hrx HRX HIX hd
    go_wp2_with fail
    refine HCX.out.mono ?_
    rintro e w1 ⟨rfl, hb⟩
    have hB1 : Hid (Below w.heap.size w w1) := bel_call hb hAB.out hAB.out.size
    have hN1 := Lib.hid (hA0.out.below hb)
    clear hb c0 c1 c2 c3 c4 c5 q0 q1 q2 q3 q4 q5 hA0 hAB HCX HHO
    go_wp2_with fail
    go_meet
    exact ⟨by first | (rw [← HX.out, HBD.out]; done) | (rw [← HX.out, HBD.out, ← hcat]; rfl), hB1.out, hN1.out⟩
  case rest =>
    obtain ⟨hv, hB, hN⟩ := hcut
    subst hv
    have hBw := Lib.hid hB
    have hNw := Lib.hid hN
    clear hB hN hA0 hAB HX HKM c0 c1 c2 c3 c4 c5
    obtain ⟨c0, c1, c2, c3, c4, c5⟩ := hNw.out.cells
    have z1 : (⟨#[40]⟩ : ByteArray).size = 1 := rfl
    have z2 : (⟨#[41]⟩ : ByteArray).size = 1 := rfl
    have h1 : (⟨#[40]⟩ : ByteArray) ++ ⟨X.toArray⟩ = ⟨(40 :: X).toArray⟩ := cat2 [40] X
    have h2 : (⟨(40 :: X).toArray⟩ : ByteArray) ++ ⟨#[41]⟩ = ⟨(40 :: (X ++ [41])).toArray⟩ := cat2 (40 :: X) [41]
    have z3 : (⟨(40 :: X).toArray⟩ : ByteArray).size ≤ 2200001 := by rw [Lib.size_eq]; have := hXs; rw [Lib.size_eq] at this; simpa using this
    by_cases hl : h < least
    · go_wp2_with fail
      refine (HHO.out _).mono ?_
      rintro e w1 ⟨rfl, hb⟩
      have hB1 := bel_call hb hBw.out hBw.out.size
      clear hb hBw hNw c0 c1 c2 c3 c4 c5 HHO
      go_wp2_with fail
      go_ret
      exact ⟨by first | rfl | (rw [if_pos hl]; done) | (rw [if_pos hl]; rfl) | (rw [if_pos hl, ← h2, ← h1]; rfl), hB1⟩
    · go_wp2_with fail
      refine (HHO.out _).mono ?_
      rintro e w1 ⟨rfl, hb⟩
      have hB1 := bel_call hb hBw.out hBw.out.size
      clear hb hBw hNw c0 c1 c2 c3 c4 c5 HHO
      go_wp2_with fail
      go_ret
      exact ⟨by first | rfl | (rw [if_neg hl]; done) | (rw [if_neg hl]; rfl), hB1⟩

set_option maxRecDepth 100000 in
set_option maxHeartbeats 8000000 in
theorem rprint_6 (d : Nat) (IH : ∀ d', d = d' + 1 → RPrintC (fun _ => True) d') : RPrintC (fun n => n.kind = 6) d := by
  intro n p len cap least lv w hq hrd hok hrt hl0 hl1 hwt
  have hk : n.kind = 6 := hq
  have hk1 := rtN_tag6 hrt hk
  have hk4 := lvS_hi n.text
  obtain ⟨x, y, hxa⟩ : ∃ x y, n.args = [x, y] := args_two hrt hk
  have hmx : x ∈ n.args := by rw [hxa]; simp
  have hmy : y ∈ n.args := by rw [hxa]; simp
  have hma : (nmN nmS n).args = [nmN nmS x, nmN nmS y] := by rw [nmN_args, hxa, nmL, nmL, nmL]
  have hwx : wtN n = 400 + 2 * n.text.length + (wtN x + 1 + (wtN y + 1)) := by rw [wtN_eq, hxa, wtL, wtL, wtL]
  have HLV := Lib.hid (fun W => rlevel_any ⟨n.text.toArray⟩ W)
  rw [show (⟨n.text.toArray⟩ : ByteArray).data.toList = n.text from rfl] at HLV
  have HTX : Hid ((nmN nmS n).text = n.text) := by unfold Hid; rw [nmN_text, if_neg (by omega), if_neg (by omega)]
  obtain rfl : len = 2 := by rw [← hrd.len, hma]; rfl
  have HRX : Hid (∀ W, Below w.heap.size w W → ∃ d' bb off p' l' c', d = d' + 1 ∧ p = some ⟨bb, off, none⟩ ∧ bb < w.heap.size ∧ RdT W w.heap.size d' (nmN nmS x) p' l' ∧ W.cell? ⟨bb, off, none⟩ = some (.int .i64 (nmN nmS x).kind) ∧ W.cell? ⟨bb, off + 1, none⟩ = some (.int .i64 (nmN nmS x).num) ∧ W.cell? ⟨bb, off + 2, none⟩ = some (.string ⟨(nmN nmS x).text.toArray⟩) ∧ W.cell? ⟨bb, off + 3, none⟩ = some (.int .i64 (nmN nmS x).frm) ∧ W.cell? ⟨bb, off + 4, none⟩ = some (.int .i64 (nmN nmS x).tor) ∧ W.cell? ⟨bb, off + 5, none⟩ = some (.slice p' l' c')) := by
    intro W hW
    obtain ⟨d', bb, off, c, p', l', c', hd, hp, hbN, hc, hrc, q0, q1, q2, q3, q4, q5⟩ := (hrd.below hW).at (j := 0) (by omega)
    rw [hma] at hc
    cases hc
    exact ⟨d', bb, off, p', l', c', hd, hp, hbN, hrc, q0, q1, q2, q3, q4, q5⟩
  have HRY : Hid (∀ W, Below w.heap.size w W → ∃ d' bb off p' l' c', d = d' + 1 ∧ p = some ⟨bb, off, none⟩ ∧ bb < w.heap.size ∧ RdT W w.heap.size d' (nmN nmS y) p' l' ∧ W.cell? ⟨bb, off + 6, none⟩ = some (.int .i64 (nmN nmS y).kind) ∧ W.cell? ⟨bb, off + 7, none⟩ = some (.int .i64 (nmN nmS y).num) ∧ W.cell? ⟨bb, off + 8, none⟩ = some (.string ⟨(nmN nmS y).text.toArray⟩) ∧ W.cell? ⟨bb, off + 9, none⟩ = some (.int .i64 (nmN nmS y).frm) ∧ W.cell? ⟨bb, off + 10, none⟩ = some (.int .i64 (nmN nmS y).tor) ∧ W.cell? ⟨bb, off + 11, none⟩ = some (.slice p' l' c')) := by
    intro W hW
    obtain ⟨d', bb, off, c, p', l', c', hd, hp, hbN, hc, hrc, q0, q1, q2, q3, q4, q5⟩ := (hrd.below hW).at (j := 1) (by omega)
    rw [hma] at hc
    cases hc
    exact ⟨d', bb, off, p', l', c', hd, hp, hbN, hrc, q0, q1, q2, q3, q4, q5⟩
  have HIX := Lib.hid (fun d' (hd : d = d' + 1) p' l' c' W (hrx : RdT W W.heap.size d' (nmN nmS x) p' l') => IH d' hd x p' l' c' (lvS n.text) (lv - 1) W trivial hrx (hok.child hmx) (rtN_kids hrt _ hmx) (by omega) (by omega) (by omega))
  have HIY := Lib.hid (fun d' (hd : d = d' + 1) p' l' c' W (hrx : RdT W W.heap.size d' (nmN nmS y) p' l') => IH d' hd y p' l' c' (lvS n.text + 1) (lv - 1) W trivial hrx (hok.child hmy) (rtN_kids hrt _ hmy) (by omega) (by omega) (by omega))
  have hPl : (prN nmS x (lvS n.text)).length ≤ wtN x := prN_len nmS_len txt_lenT x (hok.child hmx) _
  have hQl : (prN nmS y (lvS n.text + 1)).length ≤ wtN y := prN_len nmS_len txt_lenT y (hok.child hmy) _
  have hA0 : Hid (NdB tRn (w.alloc (.cells (ndA (nmN nmS n) p 2 cap) tRn)) w.heap.size (nmN nmS n) p 2 cap) := heap_alloc_new w _
  have hAB : Hid (Below w.heap.size w (w.alloc (.cells (ndA (nmN nmS n) p 2 cap) tRn))) := by unfold Hid; (repeat' (first | (with_reducible exact Below.refl _ _) | (with_reducible assumption) | (with_reducible refine Below.alloc ?_ ?_ _) | (with_reducible refine bel_drewN ?_ _) | (with_reducible refine Below.drew ?_) | (with_reducible refine Below.setCell ?_ ?_ _) | (with_reducible refine bel_call ‹_› ?_ ?_) | go_size))
  have HHO := Lib.hid (fun W => holds_any (nmN nmS n) p 2 cap W)
  rw [nmN_holds] at HHO
  rw [prN_bd]
  have hbl := bdN_len n hok
  have HKM : Hid ((nmN nmS n).kind = n.kind) := nmN_kind n
  rw [hk] at HKM
  have HBD : Hid (bdN n = prN nmS x (lvS n.text) ++ n.text ++ prN nmS y (lvS n.text + 1)) := by unfold Hid bdN prB; rw [hk, hxa, show prAt nmS [x, y] 0 (lvS n.text) = prN nmS x (lvS n.text) from by rw [prAt, if_pos rfl], show prAt nmS [x, y] 1 (lvS n.text + 1) = prN nmS y (lvS n.text + 1) from by rw [prAt, if_neg (by omega), prAt, if_pos rfl]]; simp
  generalize prN nmS x (lvS n.text) = P at HIX hPl HBD
  generalize prN nmS y (lvS n.text + 1) = R at HIY hQl HBD
  generalize nmN nmS x = mx at HIX HRX hma
  generalize nmN nmS y = my at HIY HRY hma
  clear IH hrd hma
  have hTl : n.text.length ≤ 1100000 := by omega
  obtain ⟨X, hX⟩ : ∃ X, bdN n = X := ⟨_, rfl⟩
  have HX := Lib.hid hX
  rw [hX] at hbl ⊢
  clear hX
  obtain ⟨h, hh⟩ : ∃ h, hdS n.kind n.text = h := ⟨_, rfl⟩
  rw [hh] at HHO ⊢
  clear hh
  generalize nmN nmS n = m at *
  rw [ndA_eq] at HHO ⊢
  go_enter Tryz.func27, Tryz.ntmps27
  go_upto_region 1 with fail
  have e0 : w.alloc (.cells #[.int .i64 m.kind, .int .i64 m.num, .string ⟨m.text.toArray⟩, .int .i64 m.frm, .int .i64 m.tor, .slice p 2 cap] tRn) = w.alloc (.cells (ndA m p 2 cap) tRn) := rfl
  rw [e0]
  clear e0
  generalize w.alloc (.cells (ndA m p 2 cap) tRn) = w0 at hA0 hAB ⊢
  have hXs : (⟨X.toArray⟩ : ByteArray).size ≤ 2200000 := by rw [Lib.size_eq]; exact Nat.le_trans hbl hwt
  obtain ⟨c0, c1, c2, c3, c4, c5⟩ := hA0.out.cells
  rw [HKM.out] at c0
  go_upto_block 0 with fail
  go_cut [5] (fun v wx => v = .string ⟨X.toArray⟩ ∧ Below w.heap.size w wx ∧ NdB tRn wx w.heap.size m p 2 cap)
  case first =>
    rw [HTX.out] at c2
    generalize n.text = tx at *
    generalize lvS tx = k at *
    obtain ⟨d', bb, off, p', l', c', hd, rfl, hbb, hrx, q0, q1, q2, q3, q4, q5⟩ := HRX.out w0 hAB.out
    obtain ⟨d2, bb2, off2, p2, l2, c2y, hd2, hpe, hbb2, hry, s0, s1, s2, s3, s4, s5⟩ := HRY.out w0 hAB.out
    cases hpe
    have hkw : IntKind.i64.wrap (k + 1) = k + 1 := IntWalk.i64_in _ (by omega)
    go_upto_region 13 with fail
    have HRXb := Lib.hid (fun dd os => (hrx.below (N := w.heap.size) ((below_regrown w0 dd os).mono hAB.out.size)).mono (Nat.le_trans hAB.out.size (below_regrown w0 dd os).size))
    have HRYb := Lib.hid (fun dd os => (hry.below (N := w.heap.size) ((below_regrown w0 dd os).mono hAB.out.size)).mono (Nat.le_trans hAB.out.size (below_regrown w0 dd os).size))
    have r0 := cell_regrown c0
    have r2 := cell_regrown c2
    have r5 := cell_regrown c5
    have g0 := cell_regrown q0
    have g1 := cell_regrown q1
    have g2 := cell_regrown q2
    have g3 := cell_regrown q3
    have g4 := cell_regrown q4
    have g5 := cell_regrown q5
    have t0 := cell_regrown s0
    have t1 := cell_regrown s1
    have t2 := cell_regrown s2
    have t3 := cell_regrown s3
    have t4 := cell_regrown s4
    have t5 := cell_regrown s5
    have cL : ∀ dd os, Calls Tryz.prog 30 #[.string ⟨tx.toArray⟩] (Go.Sort.grow (redrawn w0 dd) os) fun e w'' => e = .returned (.int .i64 k) ∧ ∃ p : Regrown, w'' = Go.Sort.grow (redrawn w0 p.1) p.2 := fun dd os => Calls.regrown_of (HLV.out _)
    have cX : ∀ dd os, Calls Tryz.prog 27 #[.agg #[.int .i64 mx.kind, .int .i64 mx.num, .string ⟨mx.text.toArray⟩, .int .i64 mx.frm, .int .i64 mx.tor, .slice p' l' c'], .int .i64 k] (Go.Sort.grow (redrawn w0 dd) os) fun e w'' => e = .returned (.string ⟨P.toArray⟩) ∧ ∃ p : Regrown, w'' = Go.Sort.grow (redrawn w0 p.1) p.2 := fun dd os => Calls.regrown_of (HIX.out d' hd p' l' c' _ (HRXb.out dd os))
    have cY : ∀ dd os, Calls Tryz.prog 27 #[.agg #[.int .i64 my.kind, .int .i64 my.num, .string ⟨my.text.toArray⟩, .int .i64 my.frm, .int .i64 my.tor, .slice p2 l2 c2y], .int .i64 (k + 1)] (Go.Sort.grow (redrawn w0 dd) os) fun e w'' => e = .returned (.string ⟨R.toArray⟩) ∧ ∃ p : Regrown, w'' = Go.Sort.grow (redrawn w0 p.1) p.2 := fun dd os => Calls.regrown_of (HIY.out d2 hd2 p2 l2 c2y _ (HRYb.out dd os))
    have hPs : (⟨P.toArray⟩ : ByteArray).size = P.length := by rw [Lib.size_eq]
    have hTs : (⟨tx.toArray⟩ : ByteArray).size = tx.length := by rw [Lib.size_eq]
    have hRs : (⟨R.toArray⟩ : ByteArray).size = R.length := by rw [Lib.size_eq]
    have hPT : (⟨P.toArray⟩ : ByteArray) ++ ⟨tx.toArray⟩ = ⟨(P ++ tx).toArray⟩ := cat2 P tx
    have hPTs : (⟨(P ++ tx).toArray⟩ : ByteArray).size = P.length + tx.length := by rw [Lib.size_eq]; simp
    have hPTR : (⟨(P ++ tx).toArray⟩ : ByteArray) ++ ⟨R.toArray⟩ = ⟨(P ++ tx ++ R).toArray⟩ := cat2 (P ++ tx) R
    have hop1 : ∀ W, (Op.stringOp .add ⟨P.toArray⟩ ⟨tx.toArray⟩).run Tryz.prog W = .ok (.string ⟨(P ++ tx).toArray⟩) W := fun W => by rw [← hPT]; exact run_string_add_sum W _ _ (by rw [hPs, hTs]; omega)
    have hop2 : ∀ W, (Op.stringOp .add ⟨(P ++ tx).toArray⟩ ⟨R.toArray⟩).run Tryz.prog W = .ok (.string ⟨(P ++ tx ++ R).toArray⟩) W := fun W => by rw [← hPTR]; exact run_string_add_sum W _ _ (by rw [hPTs, hRs]; omega)
    have hBR : ∀ dd os, Below w.heap.size w (Go.Sort.grow (redrawn w0 dd) os) := fun dd os => bel_call (below_regrown w0 dd os) hAB.out hAB.out.size
    clear c0 c1 c2 c3 c4 c5 q0 q1 q2 q3 q4 q5 s0 s1 s2 s3 s4 s5 HRX HRY HIX HIY HLV hrx hry HRXb HRYb hPs hTs hRs hPTs HHO HTX hPT hPTR hPl hQl hTl
    refine wp_region_quiet_below (by kernel_rfl) (by kernel_rfl) ?_
    repeat (go_big_quiet_step ((first | with_reducible exact cL _ _ | with_reducible exact cX _ _ | with_reducible exact cY _ _)))
    refine wpQuiet_nil ?_
    intro _ hw'
    obtain ⟨⟨dz, osz⟩, hw''⟩ := hw'
    subst hw''
    have hBz : Below w.heap.size w (Go.Sort.grow (redrawn w0 dz) osz) := hBR dz osz
    have hNz := hA0.out.below (below_regrown w0 dz osz)
    go_wp2_with fail
    go_meet
    exact ⟨by first | (rw [← HX.out, HBD.out]; done) | (rw [← HX.out, HBD.out]; simp), hBz, hNz⟩
  case rest =>
    obtain ⟨hv, hB, hN⟩ := hcut
    subst hv
    have hBw := Lib.hid hB
    have hNw := Lib.hid hN
    clear hB hN hA0 hAB HX HKM c0 c1 c2 c3 c4 c5
    obtain ⟨c0, c1, c2, c3, c4, c5⟩ := hNw.out.cells
    have z1 : (⟨#[40]⟩ : ByteArray).size = 1 := rfl
    have z2 : (⟨#[41]⟩ : ByteArray).size = 1 := rfl
    have h1 : (⟨#[40]⟩ : ByteArray) ++ ⟨X.toArray⟩ = ⟨(40 :: X).toArray⟩ := cat2 [40] X
    have h2 : (⟨(40 :: X).toArray⟩ : ByteArray) ++ ⟨#[41]⟩ = ⟨(40 :: (X ++ [41])).toArray⟩ := cat2 (40 :: X) [41]
    have z3 : (⟨(40 :: X).toArray⟩ : ByteArray).size ≤ 2200001 := by rw [Lib.size_eq]; have := hXs; rw [Lib.size_eq] at this; simpa using this
    by_cases hl : h < least
    · go_wp2_with fail
      refine (HHO.out _).mono ?_
      rintro e w1 ⟨rfl, hb⟩
      have hB1 := bel_call hb hBw.out hBw.out.size
      clear hb hBw hNw c0 c1 c2 c3 c4 c5 HHO
      go_wp2_with fail
      go_ret
      exact ⟨by first | rfl | (rw [if_pos hl]; done) | (rw [if_pos hl]; rfl) | (rw [if_pos hl, ← h2, ← h1]; rfl), hB1⟩
    · go_wp2_with fail
      refine (HHO.out _).mono ?_
      rintro e w1 ⟨rfl, hb⟩
      have hB1 := bel_call hb hBw.out hBw.out.size
      clear hb hBw hNw c0 c1 c2 c3 c4 c5 HHO
      go_wp2_with fail
      go_ret
      exact ⟨by first | rfl | (rw [if_neg hl]; done) | (rw [if_neg hl]; rfl), hB1⟩

set_option maxRecDepth 100000 in
set_option maxHeartbeats 8000000 in
theorem rprint_7 (d : Nat) (IH : ∀ d', d = d' + 1 → RPrintC (fun _ => True) d') : RPrintC (fun n => n.kind = 7) d := by
  intro n p len cap least lv w hq hrd hok hrt hl0 hl1 hwt
  have hk : n.kind = 7 := hq
  have HRD := Lib.hid hrd
  have hln : n.args.length = len := by rw [← hrd.len, nmN_args, nmL_len]
  have HMA : Hid ((nmN nmS n).args = nmL nmS n.args) := nmN_args n
  have hoks : ∀ c ∈ n.args, OkN c := fun c hc => hok.child hc
  have HOK := Lib.hid hoks
  have HJL := Lib.hid (fun i => prJ_len hoks i)
  have hwx := wtN_eq n
  have hlen9 := hok.len
  rw [hln] at hlen9
  have HTX : Hid ((nmN nmS n).text = n.text) := by unfold Hid; rw [nmN_text, if_neg (by omega), if_neg (by omega)]
  have HIX := Lib.hid (fun d' (hd : d = d' + 1) c (hc : c ∈ n.args) (hcw : wtN c ≤ 2200000) p' l' c' W (hrx : RdT W W.heap.size d' (nmN nmS c) p' l') => IH d' hd c p' l' c' 1 (lv - 1) W trivial hrx (hok.child hc) (rtN_kids hrt _ hc) (by omega) (by omega) hcw)
  have hA0 : Hid (NdB tRn (w.alloc (.cells (ndA (nmN nmS n) p len cap) tRn)) w.heap.size (nmN nmS n) p len cap) := heap_alloc_new w _
  have hAB : Hid (Below w.heap.size w (w.alloc (.cells (ndA (nmN nmS n) p len cap) tRn))) := by unfold Hid; (repeat' (first | (with_reducible exact Below.refl _ _) | (with_reducible assumption) | (with_reducible refine Below.alloc ?_ ?_ _) | (with_reducible refine bel_drewN ?_ _) | (with_reducible refine Below.drew ?_) | (with_reducible refine Below.setCell ?_ ?_ _) | (with_reducible refine bel_call ‹_› ?_ ?_) | go_size))
  have HHO := Lib.hid (fun W => holds_any (nmN nmS n) p len cap W)
  rw [nmN_holds] at HHO
  rw [prN_bd]
  have hbl := bdN_len n hok
  have HKM : Hid ((nmN nmS n).kind = n.kind) := nmN_kind n
  rw [hk] at HKM
  have HBD : Hid (bdN n = n.text ++ 40 :: (prJ n.args len ++ [41])) := by unfold Hid bdN prB prJ; rw [hk, List.take_of_length_le (by omega)]; simp
  clear IH hrd hoks
  obtain ⟨X, hX⟩ : ∃ X, bdN n = X := ⟨_, rfl⟩
  have HX := Lib.hid hX
  rw [hX] at hbl ⊢
  clear hX
  obtain ⟨h, hh⟩ : ∃ h, hdS n.kind n.text = h := ⟨_, rfl⟩
  rw [hh] at HHO ⊢
  clear hh
  generalize nmN nmS n = m at *
  rw [ndA_eq] at HHO ⊢
  go_enter Tryz.func27, Tryz.ntmps27
  go_upto_region 1 with fail
  have e0 : w.alloc (.cells #[.int .i64 m.kind, .int .i64 m.num, .string ⟨m.text.toArray⟩, .int .i64 m.frm, .int .i64 m.tor, .slice p len cap] tRn) = w.alloc (.cells (ndA m p len cap) tRn) := rfl
  rw [e0]
  clear e0
  generalize w.alloc (.cells (ndA m p len cap) tRn) = w0 at hA0 hAB ⊢
  have hXs : (⟨X.toArray⟩ : ByteArray).size ≤ 2200000 := by rw [Lib.size_eq]; exact Nat.le_trans hbl hwt
  obtain ⟨c0, c1, c2, c3, c4, c5⟩ := hA0.out.cells
  rw [HKM.out] at c0
  go_upto_block 0 with fail
  go_cut [5] (fun v wx => v = .string ⟨X.toArray⟩ ∧ Below w.heap.size w wx ∧ NdB tRn wx w.heap.size m p len cap)
  case first =>
    rw [HTX.out] at c2
    have hts : (⟨n.text.toArray⟩ : ByteArray).size ≤ 2200000 := by rw [Lib.size_eq]; simp; omega
    have hts2 : (⟨#[40]⟩ : ByteArray).size = 1 := rfl
    have hts3 : (⟨#[44]⟩ : ByteArray).size = 1 := rfl
    have hts4 : (⟨#[41]⟩ : ByteArray).size = 1 := rfl
    have HC1 : Hid ((⟨n.text.toArray⟩ : ByteArray) ++ ⟨#[40]⟩ = ⟨(n.text ++ [40]).toArray⟩) := cat2 n.text [40]
    have hLl : (n.text ++ [40]).length = n.text.length + 1 := by simp
    have hBx : Hid (bdN n = (n.text ++ [40]) ++ prJ n.args len ++ [41]) := by unfold Hid; rw [HBD.out]; simp
    generalize n.text ++ [40] = L0 at HC1 hLl hBx
    go_wp2_with fail
    go_loopg [5, 6] len (fun g v5 v6 wr => ∃ (i : Nat) (A : ByteArray), i + g = len ∧ v6 = .int .i64 i ∧ v5 = .string A ∧ A = ⟨(L0 ++ prJ n.args i).toArray⟩ ∧ Below w.heap.size w wr ∧ NdB tRn wr w.heap.size m p len cap)
    case atStart => exact ⟨0, _, by omega, rfl, rfl, by rw [HC1.out, show prJ n.args 0 = [] from by unfold prJ; simp [prT], List.append_nil], hAB.out, hA0.out⟩
    case round =>
      obtain ⟨i, A, hig, rfl, rfl, hA, hbel, hnd⟩ := hrel
      have HA := Lib.hid hA
      have HBL := Lib.hid hbel
      have HND := Lib.hid hnd
      have hJl := HJL.out i
      have hzr := hbel.size
      clear hA hbel hnd hA0 hAB c0 c1 c2 c3 c4 c5
      obtain ⟨c0, c1, c2, c3, c4, c5⟩ := HND.out.cells
      by_cases hlt : i < len
      · have hli : (i : Int) < (len : Int) := by omega
        obtain ⟨d', bb, off, mc, p', l', c', hd, rfl, hbN, hc, hrc, q0, q1, q2, q3, q4, q5⟩ := (HRD.out.below HBL.out).at hlt
        obtain ⟨c, hcn, hcm⟩ : ∃ c, n.args[i]? = some c ∧ nmN nmS c = mc := by
          rw [HMA.out, nmL_get] at hc
          cases hx : n.args[i]? with
          | none => rw [hx] at hc; cases hc
          | some c => rw [hx] at hc; exact ⟨c, rfl, by simpa using hc⟩
        have hwc := wtL_at hcn
        have HCC := Lib.hid hcn
        have HIC := Lib.hid (HIX.out d' hd c (mem_at hcn) (by omega) p' l' c')
        have hPl : (prN nmS c 1).length ≤ wtN c := prN_len nmS_len txt_lenT c (HOK.out c (mem_at hcn)) 1
        rw [hcm, ndA_eq] at HIC
        have HRC := Lib.hid hrc
        have hAl : (L0 ++ prJ n.args i).length ≤ n.text.length + 1 + wtL (n.args.take i) := by rw [List.length_append, hLl]; omega
        have hAs : A.size ≤ n.text.length + 1 + wtL (n.args.take i) := by rw [HA.out, Lib.size_eq]; exact hAl
        clear hc hrc hd hcn hcm
        have HJ0 : Hid (i = 0 → prJ n.args (i + 1) = prN nmS c 1 ∧ prJ n.args i = []) := fun h0 => by subst h0; exact ⟨prJ_one HCC.out, by unfold prJ; simp [prT]⟩
        have HJ1 : Hid (0 < i → prJ n.args (i + 1) = prJ n.args i ++ 44 :: prN nmS c 1) := fun h0 => prJ_step HCC.out h0
        generalize prN nmS c 1 = P at HIC hPl HJ0 HJ1
        have hPs : (⟨P.toArray⟩ : ByteArray).size = P.length := by rw [Lib.size_eq]
        have HCL := Lib.hid (HIC.out wr (HRC.out.mono hzr))
        by_cases hi0 : i = 0
        · subst hi0
          have HJa : Hid (prJ n.args 1 = P) := (HJ0.out rfl).1
          have HJb : Hid (prJ n.args 0 = []) := (HJ0.out rfl).2
          clear HJ0 HJ1
          simp only [Nat.zero_mul, Nat.add_zero] at q0 q1 q2 q3 q4 q5
          go_wp2_with fail
          refine HCL.out.mono ?_
          rintro e w1 ⟨rfl, hb⟩
          have hB1 : Hid (Below w.heap.size w w1) := bel_call hb HBL.out hzr
          have hN1 := Lib.hid (HND.out.below hb)
          clear hb c0 c1 c2 c3 c4 c5 q0 q1 q2 q3 q4 q5 HBL HND HCL HIC HRC
          go_wp2_with fail
          go_roundg (gk - 1)
          case measure => omega
          case rel =>
            refine ⟨1, _, by omega, by go_num, rfl, ?_, hB1.out, hN1.out⟩
            rw [HA.out, cat2, HJa.out, HJb.out, List.append_nil]
        · have hi1 : 0 < (i : Int) := by omega
          have hA2s : (A ++ ⟨#[44]⟩).size ≤ n.text.length + 2 + wtL (n.args.take i) := by
            rw [HA.out, show (⟨#[44]⟩ : ByteArray) = ⟨[44].toArray⟩ from rfl, cat2, Lib.size_eq]
            simp only [List.length_append, List.length_singleton] at hAl ⊢
            omega
          go_wp2_with fail
          refine HCL.out.mono ?_
          rintro e w1 ⟨rfl, hb⟩
          have hB1 : Hid (Below w.heap.size w w1) := bel_call hb HBL.out hzr
          have hN1 := Lib.hid (HND.out.below hb)
          clear hb c0 c1 c2 c3 c4 c5 q0 q1 q2 q3 q4 q5 HBL HND HCL HIC HRC
          go_wp2_with fail
          go_roundg (gk - 1)
          case measure => omega
          case rel =>
            refine ⟨i + 1, _, by omega, by go_num, rfl, ?_, hB1.out, hN1.out⟩
            rw [HA.out, show (⟨#[44]⟩ : ByteArray) = ⟨[44].toArray⟩ from rfl, cat2, cat2, HJ1.out (by omega)]
            simp
      · obtain rfl : i = len := by omega
        have hli : ¬ (i : Int) < (i : Int) := by omega
        have hwl := wtL_take n.args i
        have hAs : A.size ≤ 2200000 := by rw [HA.out, Lib.size_eq]; simp; omega
        go_wp2_with fail
        go_meet
        exact ⟨by rw [← HX.out, hBx.out, HA.out, show (⟨#[41]⟩ : ByteArray) = ⟨[41].toArray⟩ from rfl, cat2], HBL.out, HND.out⟩
  case rest =>
    obtain ⟨hv, hB, hN⟩ := hcut
    subst hv
    have hBw := Lib.hid hB
    have hNw := Lib.hid hN
    clear hB hN hA0 hAB HX HKM c0 c1 c2 c3 c4 c5
    obtain ⟨c0, c1, c2, c3, c4, c5⟩ := hNw.out.cells
    have z1 : (⟨#[40]⟩ : ByteArray).size = 1 := rfl
    have z2 : (⟨#[41]⟩ : ByteArray).size = 1 := rfl
    have h1 : (⟨#[40]⟩ : ByteArray) ++ ⟨X.toArray⟩ = ⟨(40 :: X).toArray⟩ := cat2 [40] X
    have h2 : (⟨(40 :: X).toArray⟩ : ByteArray) ++ ⟨#[41]⟩ = ⟨(40 :: (X ++ [41])).toArray⟩ := cat2 (40 :: X) [41]
    have z3 : (⟨(40 :: X).toArray⟩ : ByteArray).size ≤ 2200001 := by rw [Lib.size_eq]; have := hXs; rw [Lib.size_eq] at this; simpa using this
    by_cases hl : h < least
    · go_wp2_with fail
      refine (HHO.out _).mono ?_
      rintro e w1 ⟨rfl, hb⟩
      have hB1 := bel_call hb hBw.out hBw.out.size
      clear hb hBw hNw c0 c1 c2 c3 c4 c5 HHO
      go_wp2_with fail
      go_ret
      exact ⟨by first | rfl | (rw [if_pos hl]; done) | (rw [if_pos hl]; rfl) | (rw [if_pos hl, ← h2, ← h1]; rfl), hB1⟩
    · go_wp2_with fail
      refine (HHO.out _).mono ?_
      rintro e w1 ⟨rfl, hb⟩
      have hB1 := bel_call hb hBw.out hBw.out.size
      clear hb hBw hNw c0 c1 c2 c3 c4 c5 HHO
      go_wp2_with fail
      go_ret
      exact ⟨by first | rfl | (rw [if_neg hl]; done) | (rw [if_neg hl]; rfl), hB1⟩

theorem rprint_s (d : Nat) (IH : ∀ d', d = d' + 1 → RPrintC (fun _ => True) d') : RPrintC (fun _ => True) d := by
  intro n p len cap least lv w _ hrd hok hrt
  obtain ⟨h1, h8, _⟩ := rtN_arity hrt
  have : n.kind = 1 ∨ n.kind = 2 ∨ n.kind = 3 ∨ n.kind = 4 ∨ n.kind = 5 ∨ n.kind = 6 ∨ n.kind = 7 ∨ n.kind = 8 := by omega
  rcases this with h | h | h | h | h | h | h | h
  · exact rprint_1 d n p len cap least lv w h hrd hok hrt
  · exact rprint_2 d n p len cap least lv w h hrd hok hrt
  · exact rprint_3 d n p len cap least lv w h hrd hok hrt
  · exact rprint_4 d n p len cap least lv w h hrd hok hrt
  · exact rprint_5 d IH n p len cap least lv w h hrd hok hrt
  · exact rprint_6 d IH n p len cap least lv w h hrd hok hrt
  · exact rprint_7 d IH n p len cap least lv w h hrd hok hrt
  · exact rprint_8 d n p len cap least lv w h hrd hok hrt
theorem rprint_any : ∀ d, RPrintC (fun _ => True) d
  | 0 => rprint_s 0 (fun d' h => by omega)
  | d + 1 => rprint_s (d + 1) (fun d' h => (show d = d' from by omega) ▸ rprint_any d)
end Go.Proofs.YtigmcoelkkihkaaGreatDoor
namespace Go.Proofs.YtigmcoelkkihkaaGreatDoor
open Go.RowKit Go.Joins

abbrev nodeZ : Nd := .mk 0 0 [] 0 0 []
theorem three_heap (w : World) (a b c : Obj) : (((w.alloc a).alloc b).alloc c).heap[w.heap.size]? = some a ∧ (((w.alloc a).alloc b).alloc c).heap[w.heap.size + 1]? = some b ∧ (((w.alloc a).alloc b).alloc c).heap[w.heap.size + 2]? = some c := by
  refine ⟨?_, ?_, ?_⟩ <;> simp only [World.alloc, Array.getElem?_push, Array.size_push] <;> (repeat (first | rfl | (rw [if_neg (by omega)]) | (rw [if_pos (by omega)])))
theorem three_below {w : World} (a b c : Obj) : Below w.heap.size w (((w.alloc a).alloc b).alloc c) := by
  (repeat' (first | (with_reducible exact Below.refl _ _) | (with_reducible assumption) | (with_reducible refine Below.alloc ?_ ?_ _) | (with_reducible refine bel_drewN ?_ _) | (with_reducible refine Below.drew ?_) | (with_reducible refine Below.setCell ?_ ?_ _) | (with_reducible refine bel_call ‹_› ?_ ?_) | go_size))
theorem row_carry {w w' : World} {base size n : Nat} {e : TypeId} {v : Value} {xs : List Value} (h : w.ownsRow base e size v n xs) (hb : ∀ b, v.ownBlock = some b → w'.heap[b]? = w.heap[b]?) : w'.ownsRow base e size v n xs := by
  obtain ⟨h1, h2⟩ := h
  refine ⟨h1, ?_⟩
  rcases h2 with h2 | ⟨g, cap, cur, hv, hg, hh, r⟩
  · exact .inl h2
  · refine .inr ⟨g, cap, cur, hv, hg, ?_, r⟩
    rw [hb g (by rw [hv]; rfl)]
    exact hh
/-- The parts behind one more append, and behind the store of the row. -/
theorem kids_on {H d' l' c2 : Nat} {wr w3 w5 : World} {o : Obj} {v v' u : Value} {acc : List Kid} {c : Nd} {p2 : Option Addr} (hH : H + 3 ≤ wr.heap.size) (hb : Below wr.heap.size wr w3) (hg : (w3.alloc o).grownBy w5 v.ownBlock)
    (hat : v'.ownBlock = v.ownBlock ∨ v'.ownBlock = some (w3.alloc o).heap.size) (hlt : ∀ b, v.ownBlock = some b → b < wr.heap.size) (hk : ∀ x ∈ acc, RdP wr (okK (H + 3) wr v) d' x.1 x.2.1 x.2.2.1)
    (hn : RdP w3 (fun b => wr.heap.size ≤ b ∧ b < w3.heap.size) d' c p2 l') :
    ∀ x ∈ acc ++ [(c, p2, l', c2)], RdP (w5.setCell ⟨H + 2, 5, none⟩ u) (okK (H + 3) (w5.setCell ⟨H + 2, 5, none⟩ u) v') d' x.1 x.2.1 x.2.2.1 := by
  have hs := hb.size
  have hs2 := hg.size
  rw [World.size_alloc] at hs2 hat
  have hblk : ∀ b, H + 2 ≠ b → b < w3.heap.size → v.ownBlock ≠ some b → (w5.setCell ⟨H + 2, 5, none⟩ u).heap[b]? = w3.heap[b]? := fun b h1 h2 h3 => by
    rw [heap_setCell_other _ _ _ _ (fun e => h1 e.symm), hg.block b (by rw [World.size_alloc]; omega) (fun e => h3 e.symm), heap_alloc_old _ _ h2]
  intro x hx
  rcases List.mem_append.1 hx with hx | hx
  · refine RdP.carry (fun b hb' => ?_) (hk x hx)
    obtain ⟨h1, h2, h3⟩ := hb'
    refine ⟨⟨h1, by rw [World.size_setCell]; omega, ?_⟩, ?_⟩
    · rcases hat with e | e
      · rw [e]; exact h3
      · rw [e]; intro e'; have := Option.some.inj e'; omega
    · rw [hblk b (by omega) (by omega) h3, hb.block b h2]
  · obtain rfl := List.mem_singleton.1 hx
    refine RdP.carry (fun b hb' => ?_) hn
    obtain ⟨h1, h2⟩ := hb'
    have h3 : v.ownBlock ≠ some b := fun e => by have := hlt b e; omega
    refine ⟨⟨by omega, by rw [World.size_setCell]; omega, ?_⟩, ?_⟩
    · rcases hat with e | e
      · rw [e]; exact h3
      · rw [e]; intro e'; have := Option.some.inj e'; omega
    · exact hblk b (by omega) h2 h3
end Go.Proofs.YtigmcoelkkihkaaGreatDoor
