/- Trees: write at numbers and names. Printed by gen_trex.py. Trees: write at a sign ahead and at sums. Printed by gen_trex.py. Trees: the document's Quote and holds. Printed by gen_trexc.py. Trees: the document's Print: leaves. Printed by gen_trexc.py. -/
import Derived.Test.YtjklbbmgjjdalaaGreatDoorBqS
import Derived.Test.YtjklbbmgjjdalaaGreatDoorBqU
import Derived.Deep.CutBlock
set_option linter.unusedSimpArgs false
set_option linter.unusedVariables false
namespace Go.Proofs.YtjklbbmgjjdalaaGreatDoor
open Go.RowKit Go.Joins
theorem txt_lenT (d : Int) (hlo : -9223372036854775808 ≤ d) (hhi : d ≤ 9223372036854775807) : (txt d).length ≤ 300 := by
  have hq : d.natAbs / 1000000 ≤ 9223372036854775808 := Nat.le_trans (Nat.div_le_self _ _) (by omega)
  have hr : d.natAbs % 1000000 < 1000000 := Nat.mod_lt _ (by omega)
  have h1 := dgText_len (d.natAbs / 1000000) 1 (by omega) (by omega)
  have h2 := dgText_len (d.natAbs % 1000000) 6 (by omega) (by omega)
  have h3 := trimRightB_len (dgText (d.natAbs % 1000000) 6) 48
  unfold txt
  simp only [List.length_append]
  have h4 : (if d < 0 then [(45 : UInt8)] else []).length ≤ 1 := by split <;> simp
  have h5 : (if 0 < d.natAbs % 1000000 then (46 : UInt8) :: Lib.trimRightB (dgText (d.natAbs % 1000000) 6) 48 else []).length ≤ 121 := by
    split
    · simp; omega
    · simp
  omega
end Go.Proofs.YtjklbbmgjjdalaaGreatDoor
namespace Go.Proofs.YtjklbbmgjjdalaaGreatDoor
open Go.RowKit Go.Joins
theorem lvS_lo (s : Bs) : 0 ≤ lvS s := by
  unfold lvS
  split
  · omega
  · split
    · omega
    · split
      · omega
      · split <;> omega
theorem rtL_all : ∀ {a : List Nd} {lv : Int}, rtL a lv = true → ∀ c ∈ a, rtN c lv = true
  | [], _, _, c, hc => by cases hc
  | x :: r, lv, h, c, hc => by
    rw [rtL, Bool.and_eq_true] at h
    rcases List.mem_cons.1 hc with rfl | hc
    · exact h.1
    · exact rtL_all h.2 c hc
theorem rtN_kids {n : Nd} {lv : Int} (h : rtN n lv = true) : ∀ c ∈ n.args, rtN c (lv - 1) = true := by
  rw [rtN_eq, Bool.and_eq_true] at h
  exact rtL_all h.2
theorem rtN_arity {n : Nd} {lv : Int} (h : rtN n lv = true) : 1 ≤ n.kind ∧ n.kind ≤ 8 ∧ loK n.kind ≤ n.args.length ∧ n.args.length ≤ hiK n.kind := by
  rw [rtN_eq, Bool.and_eq_true, Bool.and_eq_true] at h
  have h1 := h.1.1
  unfold headB arB at h1
  simp only [Bool.and_eq_true, decide_eq_true_eq] at h1
  exact ⟨h1.2.1, h1.2.2.1, h1.2.2.2⟩
theorem rtN_tag6 {n : Nd} {lv : Int} (h : rtN n lv = true) (hk : n.kind = 6) : 1 ≤ lvS n.text := by
  rw [rtN_eq, Bool.and_eq_true, Bool.and_eq_true] at h
  have h1 := h.1.2
  unfold tagB at h1
  rw [if_neg (by omega), if_pos hk] at h1
  have h2 : lvS n.text ≠ 0 := by simpa using h1
  have h3 := lvS_lo n.text
  omega
theorem args_one {n : Nd} {lv : Int} (h : rtN n lv = true) (hk : n.kind = 5) : ∃ x, n.args = [x] := by
  obtain ⟨_, _, h1, h2⟩ := rtN_arity h
  rw [hk] at h1 h2
  have h1 : 1 ≤ n.args.length := h1
  have h2 : n.args.length ≤ 1 := h2
  match h3 : n.args, h1, h2 with
  | [x], _, _ => exact ⟨x, rfl⟩
theorem args_two {n : Nd} {lv : Int} (h : rtN n lv = true) (hk : n.kind = 6) : ∃ x y, n.args = [x, y] := by
  obtain ⟨_, _, h1, h2⟩ := rtN_arity h
  rw [hk] at h1 h2
  have h1 : 2 ≤ n.args.length := h1
  have h2 : n.args.length ≤ 2 := h2
  match h3 : n.args, h1, h2 with
  | [x, y], _, _ => exact ⟨x, y, rfl⟩
theorem wtN_eq (n : Nd) : wtN n = 400 + 2 * n.text.length + wtL n.args := by cases n; rw [wtN]; rfl
def prJ (a : List Nd) (i : Nat) : Bs := (prT nmS (a.take i)).drop 1
theorem prT_cat (nm : Int → Bs) : ∀ a b : List Nd, prT nm (a ++ b) = prT nm a ++ prT nm b
  | [], b => by rw [prT]; rfl
  | c :: r, b => by rw [List.cons_append, prT, prT, prT_cat nm r b]; simp
theorem prT_snoc {a : List Nd} {i : Nat} {c : Nd} (h : a[i]? = some c) : prT nmS (a.take (i + 1)) = prT nmS (a.take i) ++ 44 :: prN nmS c 1 := by
  rw [List.take_add_one, h, prT_cat]
  show _ ++ prT nmS [c] = _
  rw [prT, prT]
  simp
theorem prJ_one {a : List Nd} {c : Nd} (h : a[0]? = some c) : prJ a 1 = prN nmS c 1 := by
  unfold prJ
  rw [prT_snoc h]
  simp [prT]
theorem prJ_step {a : List Nd} {i : Nat} {c : Nd} (h : a[i]? = some c) (hi : 0 < i) : prJ a (i + 1) = prJ a i ++ 44 :: prN nmS c 1 := by
  unfold prJ
  rw [prT_snoc h]
  have h1 : 1 ≤ (prT nmS (a.take i)).length := by
    cases a with
    | nil => simp at h
    | cons x r =>
      obtain ⟨j, rfl⟩ : ∃ j, i = j + 1 := ⟨i - 1, by omega⟩
      rw [List.take_succ_cons, prT]
      simp
  rw [List.drop_append_of_le_length h1]
theorem wtL_cat : ∀ a b : List Nd, wtL (a ++ b) = wtL a + wtL b
  | [], b => by rw [List.nil_append, wtL, Nat.zero_add]
  | c :: r, b => by rw [List.cons_append, wtL, wtL, wtL_cat r b]; omega
theorem wtL_take (a : List Nd) (i : Nat) : wtL (a.take i) ≤ wtL a := by
  have h := wtL_cat (a.take i) (a.drop i)
  rw [List.take_append_drop] at h
  omega
theorem wtL_at {a : List Nd} {i : Nat} {c : Nd} (h : a[i]? = some c) : wtL (a.take i) + wtN c + 1 ≤ wtL a := by
  have h1 := wtL_take a (i + 1)
  rw [List.take_add_one, h, wtL_cat] at h1
  have h2 : wtL (some c).toList = wtN c + 1 := by
    show wtL [c] = _
    rw [wtL, wtL]
  omega
theorem prJ_len {a : List Nd} (hok : ∀ c ∈ a, OkN c) (i : Nat) : (prJ a i).length ≤ wtL (a.take i) := by
  have h := prT_len nmS_len txt_lenT (a.take i) (fun c hc => hok c (List.mem_of_mem_take hc))
  unfold prJ
  rw [List.length_drop]
  omega
end Go.Proofs.YtjklbbmgjjdalaaGreatDoor
namespace Go.Proofs.YtjklbbmgjjdalaaGreatDoor
open Go.RowKit Go.Joins
def nx (L : List UInt8) (i : Nat) : Nat := (L.getD i 0).toNat
theorem nx_lt (L : List UInt8) (i : Nat) : nx L i < 256 := (L.getD i 0).toNat_lt
theorem nx_get {L : List UInt8} {i : Nat} (h : i < L.length) : nx L i = L[i].toNat := by simp [nx, List.getD, h]
theorem nx_str (s : ByteArray) (i : Nat) (h : i < s.size) : ((s[i].toNat : Nat) : Int) = (nx s.data.toList i : Int) := by
  have hl : i < s.data.toList.length := by rw [← Lib.size_eq]; exact h
  rw [nx_get hl]
  simp [ByteArray.getElem_eq_getElem_data]
theorem u8_eta (c : UInt8) : UInt8.ofNat c.toNat = c := by simp
theorem ext_one (s : ByteArray) (j : Nat) (h : j < s.size) : s.extract j (j + 1) = ⟨[UInt8.ofNat (nx s.data.toList j)].toArray⟩ := by
  have hl : j < s.data.toList.length := by rw [← Lib.size_eq]; exact h
  rw [nx_get hl, u8_eta]
  apply ByteArray.ext
  apply Array.ext'
  rw [ByteArray.data_extract, Array.toList_extract, List.extract_eq_take_drop, List.drop_eq_getElem_cons hl, show j + 1 - j = 1 by omega]
  rfl
theorem size_of (X : List UInt8) : (⟨X.toArray⟩ : ByteArray).size = X.length := by rw [Lib.size_eq]
theorem dblT_snoc : ∀ (l : List UInt8) (c : UInt8), dblT (l ++ [c]) = dblT l ++ (if c = 34 then [34, 34] else [c])
  | [], c => by
    show dblT [c] = _
    unfold dblT
    split <;> rfl
  | d :: r, c => by
    show dblT (d :: (r ++ [c])) = _
    unfold dblT
    rw [dblT_snoc r c]
    split <;> rfl
set_option maxRecDepth 100000 in
set_option maxHeartbeats 2000000 in
theorem refQuote_any (s : ByteArray) (hs : s.size ≤ 1100000) (w : World) :
    Calls Tryz.prog 57 #[.string s] w fun e w' => e = .returned (.string ⟨(quoT s.data.toList).toArray⟩) ∧ w = w' := by
  go_enter Tryz.func57, Tryz.ntmps57
  go_wp2_with fail
  go_loop [3, 4] (fun t v => ∃ (k : Nat) (x : ByteArray), v = .int .i64 k ∧ t = .string x ∧ k ≤ s.size ∧ x = ⟨(34 :: dblT (s.data.toList.take k)).toArray⟩) (fun _ v => s.size - (intOf v).toNat)
  case atStart => exact ⟨0, _, rfl, rfl, by omega, rfl⟩
  case round =>
    obtain ⟨k, x, rfl, rfl, hk, hx⟩ := hrel
    have hxs : x.size ≤ 3300000 := by
      rw [hx, size_of]
      have h1 := dblT_len (s.data.toList.take k)
      have h2 : (s.data.toList.take k).length ≤ k := List.length_take_le _ _
      simp
      omega
    have HX := Lib.hid hx
    clear hx
    have hz2 : (⟨#[34]⟩ : ByteArray).size = 1 := rfl
    rcases Nat.lt_or_ge k s.size with hlt | hge
    · have hlt' : k < s.data.toList.length := by rw [← Lib.size_eq]; exact hlt
      obtain ⟨c, hc⟩ : ∃ c, nx s.data.toList k = c := ⟨_, rfl⟩
      have hb1 := nx_str s k hlt
      rw [hc] at hb1
      have hx1 := ext_one s k hlt
      rw [hc] at hx1
      have hz3 : (s.extract k (k + 1)).size = 1 := by rw [hx1]; rfl
      have hts : s.data.toList.take (k + 1) = s.data.toList.take k ++ [UInt8.ofNat c] := by
        rw [List.take_succ_eq_append_getElem hlt', ← hc, nx_get hlt', u8_eta]
      by_cases h34 : c = 34
      · have e1 : (((s[k].toNat : Nat) : Int) == 34) = true := by rw [hb1, h34]; rfl
        have HN : Hid (x ++ ⟨#[34]⟩ ++ s.extract k (k + 1) = ⟨(34 :: dblT (s.data.toList.take (k + 1))).toArray⟩) := by
          unfold Hid
          rw [HX.out, hx1, show (⟨#[34]⟩ : ByteArray) = ⟨[34].toArray⟩ from rfl, cat2, cat2, hts, dblT_snoc, h34]
          rw [if_pos (by decide)]
          simp
          try decide
        have hz4 : (x ++ ⟨#[34]⟩).size ≤ 3300001 := by rw [HX.out, show (⟨#[34]⟩ : ByteArray) = ⟨[34].toArray⟩ from rfl, cat2, size_of]; have h := hxs; rw [HX.out, size_of] at h; simp at h ⊢; omega
        clear hc hb1 h34 hx1 hts
        go_wp2_with fail
        go_round
        case rel => exact ⟨k + 1, _, by go_num, rfl, by omega, HN.out⟩
        case measure => simp [intOf]; omega
      · have e1 : (((s[k].toNat : Nat) : Int) == 34) = false := by rw [hb1]; simp; omega
        have hc256 : c < 256 := by rw [← hc]; exact nx_lt _ _
        have HN : Hid (x ++ s.extract k (k + 1) = ⟨(34 :: dblT (s.data.toList.take (k + 1))).toArray⟩) := by
          unfold Hid
          rw [HX.out, hx1, cat2, hts, dblT_snoc, if_neg]
          · simp
          · intro e
            have := congrArg UInt8.toNat e
            simp at this
            omega
        clear hc hb1 h34 hx1 hts
        go_wp2_with fail
        go_round
        case rel => exact ⟨k + 1, _, by go_num, rfl, by omega, HN.out⟩
        case measure => simp [intOf]; omega
    · have HN : Hid (x ++ ⟨#[34]⟩ = ⟨(quoT s.data.toList).toArray⟩) := by
        unfold Hid quoT
        rw [HX.out, List.take_of_length_le (by rw [← Lib.size_eq]; exact hge), show (⟨#[34]⟩ : ByteArray) = ⟨[34].toArray⟩ from rfl, cat2]
        simp
      go_wp2_with fail
      go_ret
      exact ⟨by rw [← HN.out]; rfl, rfl⟩
set_option maxRecDepth 100000 in
set_option maxHeartbeats 2000000 in
theorem holds_any (n : Nd) (p : Option Addr) (len cap : Nat) (w : World) : Calls Tryz.prog 59 #[.agg (ndA n p len cap)] w fun e w' => e = .returned (.int .i64 (hdS n.kind n.text)) ∧ Below w.heap.size w w' := by
  have hA0 : Hid (NdB tRn (w.alloc (.cells (ndA n p len cap) tRn)) w.heap.size n p len cap) := heap_alloc_new w _
  have hAB : Hid (Below w.heap.size w (w.alloc (.cells (ndA n p len cap) tRn))) := by unfold Hid; (repeat' (first | (with_reducible exact Below.refl _ _) | (with_reducible assumption) | (with_reducible refine Below.alloc ?_ ?_ _) | (with_reducible refine bel_drewN ?_ _) | (with_reducible refine Below.drew ?_) | (with_reducible refine Below.setCell ?_ ?_ _) | (with_reducible refine bel_call ‹_› ?_ ?_) | go_size))
  have HLV := Lib.hid (fun W => rlevel_any ⟨n.text.toArray⟩ W)
  rw [show (⟨n.text.toArray⟩ : ByteArray).data.toList = n.text from rfl] at HLV
  obtain ⟨O, hO⟩ : ∃ O, hdS n.kind n.text = O := ⟨_, rfl⟩
  have HO : Hid (O = if n.kind = 6 then lvS n.text else if n.kind = 5 then 5 else 6) := by unfold Hid; rw [← hO]; rfl
  rw [hO]
  clear hO
  generalize lvS n.text = lv at HLV HO
  rw [ndA_eq]
  go_enter Tryz.func59, Tryz.ntmps59
  go_upto_region 1 with fail
  have e0 : w.alloc (.cells #[.int .i64 n.kind, .int .i64 n.num, .string ⟨n.text.toArray⟩, .int .i64 n.frm, .int .i64 n.tor, .slice p len cap] tRn) = w.alloc (.cells (ndA n p len cap) tRn) := rfl
  rw [e0]
  clear e0
  generalize w.alloc (.cells (ndA n p len cap) tRn) = w0 at hA0 hAB ⊢
  obtain ⟨c0, c1, c2, c3, c4, c5⟩ := hA0.out.cells
  by_cases h6 : n.kind = 6
  · rw [h6] at c0
    go_wp2_with fail
    refine (HLV.out _).mono ?_
    rintro e w3 ⟨rfl, hb3⟩
    have hB3 := bel_call hb3 hAB.out hAB.out.size
    go_wp2_with fail
    go_ret
    exact ⟨by rw [HO.out, if_pos h6]; rfl, hB3⟩
  · by_cases h5 : n.kind = 5
    · rw [h5] at c0
      go_wp2_with fail
      go_ret
      exact ⟨by rw [HO.out, if_neg h6, if_pos h5]; rfl, hAB.out⟩
    · go_wp2_with fail
      go_ret
      exact ⟨by rw [HO.out, if_neg h6, if_neg h5]; rfl, hAB.out⟩
end Go.Proofs.YtjklbbmgjjdalaaGreatDoor
namespace Go.Proofs.YtjklbbmgjjdalaaGreatDoor
open Go.RowKit Go.Joins
def bdN (n : Nd) : Bs := prB nmS n.kind n.num n.text n.frm n.tor (prAt nmS n.args 0 5) (prAt nmS n.args 0 (lvS n.text)) (prAt nmS n.args 1 (lvS n.text + 1)) (prT nmS n.args)
theorem prN_bd (n : Nd) (least : Int) : prN nmS n least = if hdS n.kind n.text < least then 40 :: (bdN n ++ [41]) else bdN n := by cases n; rw [prN]; rfl
theorem bdN_len (n : Nd) (hok : OkN n) : (bdN n).length ≤ wtN n := by
  have h := prN_len nmS_len txt_lenT n hok 0
  have h0 : ¬ hdS n.kind n.text < 0 := by
    have := lvS_lo n.text
    unfold hdS
    split
    · omega
    · split <;> omega
  rw [prN_bd, if_neg h0] at h
  exact h
theorem nmN_kind (n : Nd) : (nmN nmS n).kind = n.kind := by cases n; rw [nmN]; rfl
theorem nmN_num (n : Nd) : (nmN nmS n).num = n.num := by cases n; rw [nmN]; rfl
theorem nmN_args (n : Nd) : (nmN nmS n).args = nmL nmS n.args := by cases n; rw [nmN]; rfl
theorem nmN_text (n : Nd) : (nmN nmS n).text = if n.kind = 3 then nmS n.frm else if n.kind = 4 then nmS n.frm ++ 58 :: nmS n.tor else n.text := by cases n; rw [nmN]; rfl
theorem nmN_holds (n : Nd) : hdS (nmN nmS n).kind (nmN nmS n).text = hdS n.kind n.text := by
  rw [nmN_kind, nmN_text]
  unfold hdS
  split
  · rw [if_neg (by omega), if_neg (by omega)]
  · rfl
theorem nmL_get : ∀ (a : List Nd) (i : Nat), (nmL nmS a)[i]? = a[i]?.map (nmN nmS)
  | [], i => by rw [nmL]; simp
  | c :: r, 0 => by rw [nmL]; simp
  | c :: r, i + 1 => by rw [nmL]; simpa using nmL_get r i
theorem nmL_len : ∀ a : List Nd, (nmL nmS a).length = a.length
  | [] => by rw [nmL]
  | c :: r => by rw [nmL, List.length_cons, List.length_cons, nmL_len r]
def RPrintC (q : Nd → Prop) (d : Nat) : Prop := ∀ (n : Nd) (p : Option Addr) (len cap : Nat) (least lv : Int) (w : World), q n → RdT w w.heap.size d (nmN nmS n) p len → OkN n → rtN n lv = true → 0 ≤ least → least ≤ 5 → wtN n ≤ 2200000 →
    Calls Tryz.prog 37 #[.agg (ndA (nmN nmS n) p len cap), .int .i64 least] w fun e w' => e = .returned (.string ⟨(prN nmS n least).toArray⟩) ∧ Below w.heap.size w w'
set_option maxRecDepth 100000 in
set_option maxHeartbeats 8000000 in
theorem rprint_1 (d : Nat) : RPrintC (fun n => n.kind = 1) d := by
  intro n p len cap least lv w hq hrd hok hrt hl0 hl1 hwt
  have hk : n.kind = 1 := hq
  have hA0 : Hid (NdB tRn (w.alloc (.cells (ndA (nmN nmS n) p len cap) tRn)) w.heap.size (nmN nmS n) p len cap) := heap_alloc_new w _
  have hAB : Hid (Below w.heap.size w (w.alloc (.cells (ndA (nmN nmS n) p len cap) tRn))) := by unfold Hid; (repeat' (first | (with_reducible exact Below.refl _ _) | (with_reducible assumption) | (with_reducible refine Below.alloc ?_ ?_ _) | (with_reducible refine bel_drewN ?_ _) | (with_reducible refine Below.drew ?_) | (with_reducible refine Below.setCell ?_ ?_ _) | (with_reducible refine bel_call ‹_› ?_ ?_) | go_size))
  have HHO := Lib.hid (fun W => holds_any (nmN nmS n) p len cap W)
  rw [nmN_holds] at HHO
  rw [prN_bd]
  have hbl := bdN_len n hok
  have HKM : Hid ((nmN nmS n).kind = n.kind) := nmN_kind n
  rw [hk] at HKM
  have HBD : Hid (bdN n = txt (nmN nmS n).num) := by unfold Hid bdN prB; rw [nmN_num]; rw [hk]; simp
  have HT := Lib.hid (fun W => refText_any n.num hok.num.1 hok.num.2 W)
  rw [← nmN_num] at HT
  obtain ⟨X, hX⟩ : ∃ X, bdN n = X := ⟨_, rfl⟩
  have HX := Lib.hid hX
  rw [hX] at hbl ⊢
  clear hX
  obtain ⟨h, hh⟩ : ∃ h, hdS n.kind n.text = h := ⟨_, rfl⟩
  rw [hh] at HHO ⊢
  clear hh
  generalize nmN nmS n = m at *
  rw [ndA_eq] at HHO ⊢
  go_enter Tryz.func37, Tryz.ntmps37
  go_upto_region 1 with fail
  have e0 : w.alloc (.cells #[.int .i64 m.kind, .int .i64 m.num, .string ⟨m.text.toArray⟩, .int .i64 m.frm, .int .i64 m.tor, .slice p len cap] tRn) = w.alloc (.cells (ndA m p len cap) tRn) := rfl
  rw [e0]
  clear e0
  generalize w.alloc (.cells (ndA m p len cap) tRn) = w0 at hA0 hAB ⊢
  have hXs : (⟨X.toArray⟩ : ByteArray).size ≤ 2200000 := by rw [Lib.size_eq]; exact Nat.le_trans hbl hwt
  obtain ⟨c0, c1, c2, c3, c4, c5⟩ := hA0.out.cells
  rw [HKM.out] at c0
  go_upto_block 0 with fail
  go_cut [5] (fun v wx => v = .string ⟨X.toArray⟩ ∧ Below w.heap.size w wx ∧ NdB tRn wx w.heap.size m p len cap)
  case first =>
    go_wp2_with fail
    refine (HT.out _).mono ?_
    rintro e w1 ⟨rfl, hb⟩
    have hB1 : Hid (Below w.heap.size w w1) := bel_call hb hAB.out hAB.out.size
    have hN1 := Lib.hid (hA0.out.below hb)
    clear hb c0 c1 c2 c3 c4 c5 hA0 hAB HT HHO
    go_wp2_with fail
    go_meet
    exact ⟨by rw [← HX.out, HBD.out], hB1.out, hN1.out⟩
  case rest =>
    obtain ⟨hv, hB, hN⟩ := hcut
    subst hv
    have hBw := Lib.hid hB
    have hNw := Lib.hid hN
    clear hB hN hA0 hAB HX HKM c0 c1 c2 c3 c4 c5
    obtain ⟨c0, c1, c2, c3, c4, c5⟩ := hNw.out.cells
    have z1 : (⟨#[40]⟩ : ByteArray).size = 1 := rfl
    have z2 : (⟨#[41]⟩ : ByteArray).size = 1 := rfl
    have h1 : (⟨#[40]⟩ : ByteArray) ++ ⟨X.toArray⟩ = ⟨(40 :: X).toArray⟩ := cat2 [40] X
    have h2 : (⟨(40 :: X).toArray⟩ : ByteArray) ++ ⟨#[41]⟩ = ⟨(40 :: (X ++ [41])).toArray⟩ := cat2 (40 :: X) [41]
    have z3 : (⟨(40 :: X).toArray⟩ : ByteArray).size ≤ 2200001 := by rw [Lib.size_eq]; have := hXs; rw [Lib.size_eq] at this; simpa using this
    by_cases hl : h < least
    · go_wp2_with fail
      refine (HHO.out _).mono ?_
      rintro e w1 ⟨rfl, hb⟩
      have hB1 := bel_call hb hBw.out hBw.out.size
      clear hb hBw hNw c0 c1 c2 c3 c4 c5 HHO
      go_wp2_with fail
      go_ret
      exact ⟨by first | rfl | (rw [if_pos hl]; done) | (rw [if_pos hl]; rfl) | (rw [if_pos hl, ← h2, ← h1]; rfl), hB1⟩
    · go_wp2_with fail
      refine (HHO.out _).mono ?_
      rintro e w1 ⟨rfl, hb⟩
      have hB1 := bel_call hb hBw.out hBw.out.size
      clear hb hBw hNw c0 c1 c2 c3 c4 c5 HHO
      go_wp2_with fail
      go_ret
      exact ⟨by first | rfl | (rw [if_neg hl]; done) | (rw [if_neg hl]; rfl), hB1⟩
set_option maxRecDepth 100000 in
set_option maxHeartbeats 8000000 in
theorem rprint_2 (d : Nat) : RPrintC (fun n => n.kind = 2) d := by
  intro n p len cap least lv w hq hrd hok hrt hl0 hl1 hwt
  have hk : n.kind = 2 := hq
  have hA0 : Hid (NdB tRn (w.alloc (.cells (ndA (nmN nmS n) p len cap) tRn)) w.heap.size (nmN nmS n) p len cap) := heap_alloc_new w _
  have hAB : Hid (Below w.heap.size w (w.alloc (.cells (ndA (nmN nmS n) p len cap) tRn))) := by unfold Hid; (repeat' (first | (with_reducible exact Below.refl _ _) | (with_reducible assumption) | (with_reducible refine Below.alloc ?_ ?_ _) | (with_reducible refine bel_drewN ?_ _) | (with_reducible refine Below.drew ?_) | (with_reducible refine Below.setCell ?_ ?_ _) | (with_reducible refine bel_call ‹_› ?_ ?_) | go_size))
  have HHO := Lib.hid (fun W => holds_any (nmN nmS n) p len cap W)
  rw [nmN_holds] at HHO
  rw [prN_bd]
  have hbl := bdN_len n hok
  have HKM : Hid ((nmN nmS n).kind = n.kind) := nmN_kind n
  rw [hk] at HKM
  have HBD : Hid (bdN n = quoT (nmN nmS n).text) := by unfold Hid bdN prB; rw [show (nmN nmS n).text = n.text from by rw [nmN_text, if_neg (by omega), if_neg (by omega)]]; rw [hk]; simp
  have hts : (⟨n.text.toArray⟩ : ByteArray).size ≤ 1100000 := by rw [Lib.size_eq]; rw [wtN_eq] at hwt; simp; omega
  have HT := Lib.hid (fun W => refQuote_any ⟨n.text.toArray⟩ hts W)
  rw [show (⟨n.text.toArray⟩ : ByteArray).data.toList = n.text from rfl] at HT
  have htx : (nmN nmS n).text = n.text := by rw [nmN_text, if_neg (by omega), if_neg (by omega)]
  rw [← htx] at HT
  clear htx hts
  obtain ⟨X, hX⟩ : ∃ X, bdN n = X := ⟨_, rfl⟩
  have HX := Lib.hid hX
  rw [hX] at hbl ⊢
  clear hX
  obtain ⟨h, hh⟩ : ∃ h, hdS n.kind n.text = h := ⟨_, rfl⟩
  rw [hh] at HHO ⊢
  clear hh
  generalize nmN nmS n = m at *
  rw [ndA_eq] at HHO ⊢
  go_enter Tryz.func37, Tryz.ntmps37
  go_upto_region 1 with fail
  have e0 : w.alloc (.cells #[.int .i64 m.kind, .int .i64 m.num, .string ⟨m.text.toArray⟩, .int .i64 m.frm, .int .i64 m.tor, .slice p len cap] tRn) = w.alloc (.cells (ndA m p len cap) tRn) := rfl
  rw [e0]
  clear e0
  generalize w.alloc (.cells (ndA m p len cap) tRn) = w0 at hA0 hAB ⊢
  have hXs : (⟨X.toArray⟩ : ByteArray).size ≤ 2200000 := by rw [Lib.size_eq]; exact Nat.le_trans hbl hwt
  obtain ⟨c0, c1, c2, c3, c4, c5⟩ := hA0.out.cells
  rw [HKM.out] at c0
  go_upto_block 0 with fail
  go_cut [5] (fun v wx => v = .string ⟨X.toArray⟩ ∧ Below w.heap.size w wx ∧ NdB tRn wx w.heap.size m p len cap)
  case first =>
    go_wp2_with fail
    refine (HT.out _).mono ?_
    rintro e w1 ⟨rfl, hw⟩
    have hb : Below w0.heap.size w0 w1 := by rw [← hw]; exact Below.refl _ _
    clear hw
    have hB1 : Hid (Below w.heap.size w w1) := bel_call hb hAB.out hAB.out.size
    have hN1 := Lib.hid (hA0.out.below hb)
    clear hb c0 c1 c2 c3 c4 c5 hA0 hAB HT HHO
    go_wp2_with fail
    go_meet
    exact ⟨by rw [← HX.out, HBD.out], hB1.out, hN1.out⟩
  case rest =>
    obtain ⟨hv, hB, hN⟩ := hcut
    subst hv
    have hBw := Lib.hid hB
    have hNw := Lib.hid hN
    clear hB hN hA0 hAB HX HKM c0 c1 c2 c3 c4 c5
    obtain ⟨c0, c1, c2, c3, c4, c5⟩ := hNw.out.cells
    have z1 : (⟨#[40]⟩ : ByteArray).size = 1 := rfl
    have z2 : (⟨#[41]⟩ : ByteArray).size = 1 := rfl
    have h1 : (⟨#[40]⟩ : ByteArray) ++ ⟨X.toArray⟩ = ⟨(40 :: X).toArray⟩ := cat2 [40] X
    have h2 : (⟨(40 :: X).toArray⟩ : ByteArray) ++ ⟨#[41]⟩ = ⟨(40 :: (X ++ [41])).toArray⟩ := cat2 (40 :: X) [41]
    have z3 : (⟨(40 :: X).toArray⟩ : ByteArray).size ≤ 2200001 := by rw [Lib.size_eq]; have := hXs; rw [Lib.size_eq] at this; simpa using this
    by_cases hl : h < least
    · go_wp2_with fail
      refine (HHO.out _).mono ?_
      rintro e w1 ⟨rfl, hb⟩
      have hB1 := bel_call hb hBw.out hBw.out.size
      clear hb hBw hNw c0 c1 c2 c3 c4 c5 HHO
      go_wp2_with fail
      go_ret
      exact ⟨by first | rfl | (rw [if_pos hl]; done) | (rw [if_pos hl]; rfl) | (rw [if_pos hl, ← h2, ← h1]; rfl), hB1⟩
    · go_wp2_with fail
      refine (HHO.out _).mono ?_
      rintro e w1 ⟨rfl, hb⟩
      have hB1 := bel_call hb hBw.out hBw.out.size
      clear hb hBw hNw c0 c1 c2 c3 c4 c5 HHO
      go_wp2_with fail
      go_ret
      exact ⟨by first | rfl | (rw [if_neg hl]; done) | (rw [if_neg hl]; rfl), hB1⟩
set_option maxRecDepth 100000 in
set_option maxHeartbeats 8000000 in
theorem rprint_3 (d : Nat) : RPrintC (fun n => n.kind = 3) d := by
  intro n p len cap least lv w hq hrd hok hrt hl0 hl1 hwt
  have hk : n.kind = 3 := hq
  have hA0 : Hid (NdB tRn (w.alloc (.cells (ndA (nmN nmS n) p len cap) tRn)) w.heap.size (nmN nmS n) p len cap) := heap_alloc_new w _
  have hAB : Hid (Below w.heap.size w (w.alloc (.cells (ndA (nmN nmS n) p len cap) tRn))) := by unfold Hid; (repeat' (first | (with_reducible exact Below.refl _ _) | (with_reducible assumption) | (with_reducible refine Below.alloc ?_ ?_ _) | (with_reducible refine bel_drewN ?_ _) | (with_reducible refine Below.drew ?_) | (with_reducible refine Below.setCell ?_ ?_ _) | (with_reducible refine bel_call ‹_› ?_ ?_) | go_size))
  have HHO := Lib.hid (fun W => holds_any (nmN nmS n) p len cap W)
  rw [nmN_holds] at HHO
  rw [prN_bd]
  have hbl := bdN_len n hok
  have HKM : Hid ((nmN nmS n).kind = n.kind) := nmN_kind n
  rw [hk] at HKM
  have HBD : Hid (bdN n = nmS n.frm) := by unfold Hid bdN prB; rw [hk]; simp
  have HTX : Hid ((nmN nmS n).text = nmS n.frm) := by unfold Hid; rw [nmN_text, if_pos hk]
  obtain ⟨X, hX⟩ : ∃ X, bdN n = X := ⟨_, rfl⟩
  have HX := Lib.hid hX
  rw [hX] at hbl ⊢
  clear hX
  obtain ⟨h, hh⟩ : ∃ h, hdS n.kind n.text = h := ⟨_, rfl⟩
  rw [hh] at HHO ⊢
  clear hh
  generalize nmN nmS n = m at *
  rw [ndA_eq] at HHO ⊢
  go_enter Tryz.func37, Tryz.ntmps37
  go_upto_region 1 with fail
  have e0 : w.alloc (.cells #[.int .i64 m.kind, .int .i64 m.num, .string ⟨m.text.toArray⟩, .int .i64 m.frm, .int .i64 m.tor, .slice p len cap] tRn) = w.alloc (.cells (ndA m p len cap) tRn) := rfl
  rw [e0]
  clear e0
  generalize w.alloc (.cells (ndA m p len cap) tRn) = w0 at hA0 hAB ⊢
  have hXs : (⟨X.toArray⟩ : ByteArray).size ≤ 2200000 := by rw [Lib.size_eq]; exact Nat.le_trans hbl hwt
  obtain ⟨c0, c1, c2, c3, c4, c5⟩ := hA0.out.cells
  rw [HKM.out] at c0
  go_upto_block 0 with fail
  go_cut [5] (fun v wx => v = .string ⟨X.toArray⟩ ∧ Below w.heap.size w wx ∧ NdB tRn wx w.heap.size m p len cap)
  case first =>
    go_wp2_with fail
    go_meet
    exact ⟨by rw [← HX.out, HBD.out, ← HTX.out], hAB.out, hA0.out⟩
  case rest =>
    obtain ⟨hv, hB, hN⟩ := hcut
    subst hv
    have hBw := Lib.hid hB
    have hNw := Lib.hid hN
    clear hB hN hA0 hAB HX HKM c0 c1 c2 c3 c4 c5
    obtain ⟨c0, c1, c2, c3, c4, c5⟩ := hNw.out.cells
    have z1 : (⟨#[40]⟩ : ByteArray).size = 1 := rfl
    have z2 : (⟨#[41]⟩ : ByteArray).size = 1 := rfl
    have h1 : (⟨#[40]⟩ : ByteArray) ++ ⟨X.toArray⟩ = ⟨(40 :: X).toArray⟩ := cat2 [40] X
    have h2 : (⟨(40 :: X).toArray⟩ : ByteArray) ++ ⟨#[41]⟩ = ⟨(40 :: (X ++ [41])).toArray⟩ := cat2 (40 :: X) [41]
    have z3 : (⟨(40 :: X).toArray⟩ : ByteArray).size ≤ 2200001 := by rw [Lib.size_eq]; have := hXs; rw [Lib.size_eq] at this; simpa using this
    by_cases hl : h < least
    · go_wp2_with fail
      refine (HHO.out _).mono ?_
      rintro e w1 ⟨rfl, hb⟩
      have hB1 := bel_call hb hBw.out hBw.out.size
      clear hb hBw hNw c0 c1 c2 c3 c4 c5 HHO
      go_wp2_with fail
      go_ret
      exact ⟨by first | rfl | (rw [if_pos hl]; done) | (rw [if_pos hl]; rfl) | (rw [if_pos hl, ← h2, ← h1]; rfl), hB1⟩
    · go_wp2_with fail
      refine (HHO.out _).mono ?_
      rintro e w1 ⟨rfl, hb⟩
      have hB1 := bel_call hb hBw.out hBw.out.size
      clear hb hBw hNw c0 c1 c2 c3 c4 c5 HHO
      go_wp2_with fail
      go_ret
      exact ⟨by first | rfl | (rw [if_neg hl]; done) | (rw [if_neg hl]; rfl), hB1⟩
set_option maxRecDepth 100000 in
set_option maxHeartbeats 8000000 in
theorem rprint_4 (d : Nat) : RPrintC (fun n => n.kind = 4) d := by
  intro n p len cap least lv w hq hrd hok hrt hl0 hl1 hwt
  have hk : n.kind = 4 := hq
  have hA0 : Hid (NdB tRn (w.alloc (.cells (ndA (nmN nmS n) p len cap) tRn)) w.heap.size (nmN nmS n) p len cap) := heap_alloc_new w _
  have hAB : Hid (Below w.heap.size w (w.alloc (.cells (ndA (nmN nmS n) p len cap) tRn))) := by unfold Hid; (repeat' (first | (with_reducible exact Below.refl _ _) | (with_reducible assumption) | (with_reducible refine Below.alloc ?_ ?_ _) | (with_reducible refine bel_drewN ?_ _) | (with_reducible refine Below.drew ?_) | (with_reducible refine Below.setCell ?_ ?_ _) | (with_reducible refine bel_call ‹_› ?_ ?_) | go_size))
  have HHO := Lib.hid (fun W => holds_any (nmN nmS n) p len cap W)
  rw [nmN_holds] at HHO
  rw [prN_bd]
  have hbl := bdN_len n hok
  have HKM : Hid ((nmN nmS n).kind = n.kind) := nmN_kind n
  rw [hk] at HKM
  have HBD : Hid (bdN n = nmS n.frm ++ 58 :: nmS n.tor) := by unfold Hid bdN prB; rw [hk]; simp
  have HTX : Hid ((nmN nmS n).text = nmS n.frm ++ 58 :: nmS n.tor) := by unfold Hid; rw [nmN_text, if_neg (by omega), if_pos hk]
  obtain ⟨X, hX⟩ : ∃ X, bdN n = X := ⟨_, rfl⟩
  have HX := Lib.hid hX
  rw [hX] at hbl ⊢
  clear hX
  obtain ⟨h, hh⟩ : ∃ h, hdS n.kind n.text = h := ⟨_, rfl⟩
  rw [hh] at HHO ⊢
  clear hh
  generalize nmN nmS n = m at *
  rw [ndA_eq] at HHO ⊢
  go_enter Tryz.func37, Tryz.ntmps37
  go_upto_region 1 with fail
  have e0 : w.alloc (.cells #[.int .i64 m.kind, .int .i64 m.num, .string ⟨m.text.toArray⟩, .int .i64 m.frm, .int .i64 m.tor, .slice p len cap] tRn) = w.alloc (.cells (ndA m p len cap) tRn) := rfl
  rw [e0]
  clear e0
  generalize w.alloc (.cells (ndA m p len cap) tRn) = w0 at hA0 hAB ⊢
  have hXs : (⟨X.toArray⟩ : ByteArray).size ≤ 2200000 := by rw [Lib.size_eq]; exact Nat.le_trans hbl hwt
  obtain ⟨c0, c1, c2, c3, c4, c5⟩ := hA0.out.cells
  rw [HKM.out] at c0
  go_upto_block 0 with fail
  go_cut [5] (fun v wx => v = .string ⟨X.toArray⟩ ∧ Below w.heap.size w wx ∧ NdB tRn wx w.heap.size m p len cap)
  case first =>
    go_wp2_with fail
    go_meet
    exact ⟨by rw [← HX.out, HBD.out, ← HTX.out], hAB.out, hA0.out⟩
  case rest =>
    obtain ⟨hv, hB, hN⟩ := hcut
    subst hv
    have hBw := Lib.hid hB
    have hNw := Lib.hid hN
    clear hB hN hA0 hAB HX HKM c0 c1 c2 c3 c4 c5
    obtain ⟨c0, c1, c2, c3, c4, c5⟩ := hNw.out.cells
    have z1 : (⟨#[40]⟩ : ByteArray).size = 1 := rfl
    have z2 : (⟨#[41]⟩ : ByteArray).size = 1 := rfl
    have h1 : (⟨#[40]⟩ : ByteArray) ++ ⟨X.toArray⟩ = ⟨(40 :: X).toArray⟩ := cat2 [40] X
    have h2 : (⟨(40 :: X).toArray⟩ : ByteArray) ++ ⟨#[41]⟩ = ⟨(40 :: (X ++ [41])).toArray⟩ := cat2 (40 :: X) [41]
    have z3 : (⟨(40 :: X).toArray⟩ : ByteArray).size ≤ 2200001 := by rw [Lib.size_eq]; have := hXs; rw [Lib.size_eq] at this; simpa using this
    by_cases hl : h < least
    · go_wp2_with fail
      refine (HHO.out _).mono ?_
      rintro e w1 ⟨rfl, hb⟩
      have hB1 := bel_call hb hBw.out hBw.out.size
      clear hb hBw hNw c0 c1 c2 c3 c4 c5 HHO
      go_wp2_with fail
      go_ret
      exact ⟨by first | rfl | (rw [if_pos hl]; done) | (rw [if_pos hl]; rfl) | (rw [if_pos hl, ← h2, ← h1]; rfl), hB1⟩
    · go_wp2_with fail
      refine (HHO.out _).mono ?_
      rintro e w1 ⟨rfl, hb⟩
      have hB1 := bel_call hb hBw.out hBw.out.size
      clear hb hBw hNw c0 c1 c2 c3 c4 c5 HHO
      go_wp2_with fail
      go_ret
      exact ⟨by first | rfl | (rw [if_neg hl]; done) | (rw [if_neg hl]; rfl), hB1⟩
set_option maxRecDepth 100000 in
set_option maxHeartbeats 8000000 in
theorem rprint_8 (d : Nat) : RPrintC (fun n => n.kind = 8) d := by
  intro n p len cap least lv w hq hrd hok hrt hl0 hl1 hwt
  have hk : n.kind = 8 := hq
  have hA0 : Hid (NdB tRn (w.alloc (.cells (ndA (nmN nmS n) p len cap) tRn)) w.heap.size (nmN nmS n) p len cap) := heap_alloc_new w _
  have hAB : Hid (Below w.heap.size w (w.alloc (.cells (ndA (nmN nmS n) p len cap) tRn))) := by unfold Hid; (repeat' (first | (with_reducible exact Below.refl _ _) | (with_reducible assumption) | (with_reducible refine Below.alloc ?_ ?_ _) | (with_reducible refine bel_drewN ?_ _) | (with_reducible refine Below.drew ?_) | (with_reducible refine Below.setCell ?_ ?_ _) | (with_reducible refine bel_call ‹_› ?_ ?_) | go_size))
  have HHO := Lib.hid (fun W => holds_any (nmN nmS n) p len cap W)
  rw [nmN_holds] at HHO
  rw [prN_bd]
  have hbl := bdN_len n hok
  have HKM : Hid ((nmN nmS n).kind = n.kind) := nmN_kind n
  rw [hk] at HKM
  have HBD : Hid (bdN n = refBs) := by unfold Hid bdN prB; rw [hk]; simp
  obtain ⟨X, hX⟩ : ∃ X, bdN n = X := ⟨_, rfl⟩
  have HX := Lib.hid hX
  rw [hX] at hbl ⊢
  clear hX
  obtain ⟨h, hh⟩ : ∃ h, hdS n.kind n.text = h := ⟨_, rfl⟩
  rw [hh] at HHO ⊢
  clear hh
  generalize nmN nmS n = m at *
  rw [ndA_eq] at HHO ⊢
  go_enter Tryz.func37, Tryz.ntmps37
  go_upto_region 1 with fail
  have e0 : w.alloc (.cells #[.int .i64 m.kind, .int .i64 m.num, .string ⟨m.text.toArray⟩, .int .i64 m.frm, .int .i64 m.tor, .slice p len cap] tRn) = w.alloc (.cells (ndA m p len cap) tRn) := rfl
  rw [e0]
  clear e0
  generalize w.alloc (.cells (ndA m p len cap) tRn) = w0 at hA0 hAB ⊢
  have hXs : (⟨X.toArray⟩ : ByteArray).size ≤ 2200000 := by rw [Lib.size_eq]; exact Nat.le_trans hbl hwt
  obtain ⟨c0, c1, c2, c3, c4, c5⟩ := hA0.out.cells
  rw [HKM.out] at c0
  go_upto_block 0 with fail
  go_cut [5] (fun v wx => v = .string ⟨X.toArray⟩ ∧ Below w.heap.size w wx ∧ NdB tRn wx w.heap.size m p len cap)
  case first =>
    go_wp2_with fail
    go_meet
    exact ⟨by rw [← HX.out, HBD.out]; rfl, hAB.out, hA0.out⟩
  case rest =>
    obtain ⟨hv, hB, hN⟩ := hcut
    subst hv
    have hBw := Lib.hid hB
    have hNw := Lib.hid hN
    clear hB hN hA0 hAB HX HKM c0 c1 c2 c3 c4 c5
    obtain ⟨c0, c1, c2, c3, c4, c5⟩ := hNw.out.cells
    have z1 : (⟨#[40]⟩ : ByteArray).size = 1 := rfl
    have z2 : (⟨#[41]⟩ : ByteArray).size = 1 := rfl
    have h1 : (⟨#[40]⟩ : ByteArray) ++ ⟨X.toArray⟩ = ⟨(40 :: X).toArray⟩ := cat2 [40] X
    have h2 : (⟨(40 :: X).toArray⟩ : ByteArray) ++ ⟨#[41]⟩ = ⟨(40 :: (X ++ [41])).toArray⟩ := cat2 (40 :: X) [41]
    have z3 : (⟨(40 :: X).toArray⟩ : ByteArray).size ≤ 2200001 := by rw [Lib.size_eq]; have := hXs; rw [Lib.size_eq] at this; simpa using this
    by_cases hl : h < least
    · go_wp2_with fail
      refine (HHO.out _).mono ?_
      rintro e w1 ⟨rfl, hb⟩
      have hB1 := bel_call hb hBw.out hBw.out.size
      clear hb hBw hNw c0 c1 c2 c3 c4 c5 HHO
      go_wp2_with fail
      go_ret
      exact ⟨by first | rfl | (rw [if_pos hl]; done) | (rw [if_pos hl]; rfl) | (rw [if_pos hl, ← h2, ← h1]; rfl), hB1⟩
    · go_wp2_with fail
      refine (HHO.out _).mono ?_
      rintro e w1 ⟨rfl, hb⟩
      have hB1 := bel_call hb hBw.out hBw.out.size
      clear hb hBw hNw c0 c1 c2 c3 c4 c5 HHO
      go_wp2_with fail
      go_ret
      exact ⟨by first | rfl | (rw [if_neg hl]; done) | (rw [if_neg hl]; rfl), hB1⟩
end Go.Proofs.YtjklbbmgjjdalaaGreatDoor
