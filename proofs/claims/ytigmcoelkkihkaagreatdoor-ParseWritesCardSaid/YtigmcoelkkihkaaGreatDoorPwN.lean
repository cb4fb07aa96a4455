/- The parser in memory: its block, its tokens; 'is'. The parser: 'sign'. Trees over cells: rows, blocks, Depth. Turned by gen_cel.py out of the texts on trees over numbers. Trees over cells: rows of parts. Turned by gen_cel.py out of the texts on trees over numbers. -/
import Derived.Test.YtigmcoelkkihkaaGreatDoorPwK
import Derived.Test.YtigmcoelkkihkaaGreatDoorPwJ
import Derived.Test.YtigmcoelkkihkaaGreatDoorPwM
import Derived.Test.YtigmcoelkkihkaaGreatDoorPwB
import Derived.Test.YtigmcoelkkihkaaGreatDoorPwD
set_option linter.unusedSimpArgs false
set_option linter.unusedVariables false
namespace Go.Proofs.YtigmcoelkkihkaaGreatDoor
open Go.RowKit Go.Joins

abbrev tPs : TypeId := 63
/-- The parser stands at a token, and has found no fault. -/
def Psr (w : World) (b : Nat) (q : Option Addr) (nT cT i : Nat) : Prop := BlkC w b #[.slice q nT cT, .int .i64 i, .int .i64 0] tPs
/-- The tokens in memory, in a block that is not the parser's. -/
def TkR (w : World) (b : Nat) (q : Option Addr) (Ts : List Tks.Tk) : Prop := Ts = [] ∨ ∃ g, q = some ⟨g, 0, none⟩ ∧ g ≠ b ∧ g < w.heap.size ∧ ∀ (j : Nat) (x : Tks.Tk), Ts[j]? = some x → w.cell? ⟨g, j * 3, none⟩ = some (.int .i64 x.1) ∧ w.cell? ⟨g, j * 3 + 1, none⟩ = some (.string ⟨x.2.1.toArray⟩) ∧ w.cell? ⟨g, j * 3 + 2, none⟩ = some (.int .i64 (x.2.2 : Int))
theorem TkR.off {w w' : World} {b : Nat} {q : Option Addr} {Ts : List Tks.Tk} (h : TkR w b q Ts) (ho : Off b w w') : TkR w' b q Ts := by
  rcases h with h | ⟨g, h1, h2, h3, h4⟩
  · exact .inl h
  · refine .inr ⟨g, h1, h2, Nat.lt_of_lt_of_le h3 ho.size, fun j x hx => ?_⟩
    obtain ⟨k1, k2, k3⟩ := h4 j x hx
    exact ⟨ho.cell h2 k1, ho.cell h2 k2, ho.cell h2 k3⟩
theorem TkR.at {w : World} {b : Nat} {q : Option Addr} {Ts : List Tks.Tk} (h : TkR w b q Ts) {j : Nat} {x : Tks.Tk} (hx : Ts[j]? = some x) : ∃ g, q = some ⟨g, 0, none⟩ ∧ g ≠ b ∧ g < w.heap.size ∧ w.cell? ⟨g, j * 3, none⟩ = some (.int .i64 x.1) ∧ w.cell? ⟨g, j * 3 + 1, none⟩ = some (.string ⟨x.2.1.toArray⟩) ∧ w.cell? ⟨g, j * 3 + 2, none⟩ = some (.int .i64 (x.2.2 : Int)) := by
  rcases h with h | ⟨g, h1, h2, h3, h4⟩
  · rw [h] at hx; cases hx
  · exact ⟨g, h1, h2, h3, h4 j x hx⟩
theorem Psr.set {w : World} {b : Nat} {q : Option Addr} {nT cT i : Nat} (h : Psr w b q nT cT i) (j : Nat) : Psr (w.setCell ⟨b, 1, none⟩ (.int .i64 j)) b q nT cT j := block_setCell h _
theorem Psr.setz {w : World} {b : Nat} {q : Option Addr} {nT cT i : Nat} (h : Psr w b q nT cT i) (z : Int) (j : Nat) (e : z = (j : Int)) : Psr (w.setCell ⟨b, 1, none⟩ (.int .i64 z)) b q nT cT j := by rw [e]; exact h.set j
theorem Psr.below {w w' : World} {b : Nat} {q : Option Addr} {nT cT i : Nat} (h : Psr w b q nT cT i) (hb : Below w.heap.size w w') : Psr w' b q nT cT i := BlkC.below h hb
theorem Psr.cells {w : World} {b : Nat} {q : Option Addr} {nT cT i : Nat} (h : Psr w b q nT cT i) : w.cell? ⟨b, 0, none⟩ = some (.slice q nT cT) ∧ w.cell? ⟨b, 1, none⟩ = some (.int .i64 i) ∧ w.cell? ⟨b, 2, none⟩ = some (.int .i64 0) ∧ w.frozen? ⟨b, 1, none⟩ = false := ⟨BlkC.cell h 0 _ rfl, BlkC.cell h 1 _ rfl, BlkC.cell h 2 _ rfl, BlkC.fz h 1⟩
/-- Does this sign stand at a place? -/
def isB (Ts : List Tks.Tk) (i : Nat) (s : Bs) : Bool := match Ts[i]? with
  | some x => decide (x.1 = 4) && decide (x.2.1 = s)
  | none => false
/-- What 'is' answers. -/
def IsP (b : Nat) (q : Option Addr) (nT cT i : Nat) (R : Bool) (w : World) (e : Ending) (w' : World) : Prop := e = .returned (.bool R) ∧ Psr w' b q nT cT (if R = true then i + 1 else i) ∧ Off b w w'
set_option maxRecDepth 100000 in
set_option maxHeartbeats 4000000 in
theorem is_any (b : Nat) (q : Option Addr) (cT i : Nat) (Ts : List Tks.Tk) (s : Bs) (w : World) (hp : Psr w b q Ts.length cT i) (ht : TkR w b q Ts) (hl : Ts.length ≤ 1000) :
    Calls Tryz.prog 75 #[.pointer (some ⟨b, 0, none⟩), .string ⟨s.toArray⟩] w (IsP b q Ts.length cT i (isB Ts i s) w) := by
  obtain ⟨p0, p1, p2, pf⟩ := hp.cells
  have HP := Lib.hid hp
  have r0 := cell_regrown p0
  have r1 := cell_regrown p1
  have hBR : ∀ dd os, Below w.heap.size w (Go.Sort.grow (redrawn w dd) os) := fun dd os => below_regrown w dd os
  obtain ⟨n, hn⟩ : ∃ n, Ts.length = n := ⟨_, rfl⟩
  cases hx : Ts[i]? with
  | none =>
    have hi : ¬ (i : Int) < (n : Int) := by
      have := List.getElem?_eq_none_iff.1 hx
      omega
    rw [show isB Ts i s = false from by unfold isB; rw [hx]]
    rw [hn] at r0 HP ⊢
    clear hp ht p0 p1 p2 pf hx hn
    go_enter Tryz.func75, Tryz.ntmps75
    go_upto_region 1 with fail
    refine wp_region_quiet_below (by kernel_rfl) (by kernel_rfl) ?_
    repeat (go_big_quiet_step (fail))
    refine wpQuiet_nil ?_
    intro _ hw'
    obtain ⟨⟨dz, osz⟩, hw''⟩ := hw'
    subst hw''
    have HPz := Lib.hid (HP.out.below (hBR dz osz))
    have hbz := hBR dz osz
    clear r0 r1 hBR
    go_wp2_with fail
    go_ret
    exact ⟨rfl, HPz.out, Off.of_below hbz⟩
  | some x =>
    have hi : (i : Int) < (n : Int) := by
      have := (List.getElem?_eq_some_iff.1 hx).1
      omega
    have hi2 : i < n := by omega
    obtain ⟨g, rfl, hgb, _, k0, k1, _⟩ := ht.at hx
    have r2 := cell_regrown k0
    have r3 := cell_regrown k1
    obtain ⟨kx, tx, ax⟩ := x
    simp only at r2 r3
    have hib : isB Ts i s = (decide (kx = 4) && decide (tx = s)) := by unfold isB; rw [hx]
    rw [hib]
    rw [hn] at r0 HP hl ⊢
    clear hp ht p0 p1 p2 pf hx hib k0 k1
    by_cases hk : kx = 4
    · subst hk
      by_cases hs : tx = s
      · subst hs
        rw [decide_eq_true rfl, decide_eq_true rfl]
        go_enter Tryz.func75, Tryz.ntmps75
        go_upto_region 1 with fail
        refine wp_region_quiet_below (by kernel_rfl) (by kernel_rfl) ?_
        repeat (go_big_quiet_step (fail))
        refine wpQuiet_nil ?_
        intro _ hw'
        obtain ⟨⟨dz, osz⟩, hw''⟩ := hw'
        subst hw''
        have HPz := Lib.hid (HP.out.below (hBR dz osz))
        have HOz := Lib.hid (Off.of_below (b := b) (hBR dz osz))
        clear r0 r1 r2 r3 hBR
        generalize Go.Sort.grow (redrawn w dz) osz = wz at HPz HOz ⊢
        obtain ⟨_, c1, _, cf⟩ := HPz.out.cells
        have f1 : IntKind.i64.wrap ((i : Int) + 1) = (i : Int) + 1 := IntWalk.i64_in _ (by omega)
        go_wp2_with fail
        go_ret
        exact ⟨rfl, HPz.out.setz ((i : Int) + 1) (i + 1) (by omega), HOz.out.set _ _⟩
      · rw [decide_eq_false hs]
        have hse : (tx == s) = false := by simpa using hs
        go_enter Tryz.func75, Tryz.ntmps75
        go_upto_region 1 with fail
        refine wp_region_quiet_below (by kernel_rfl) (by kernel_rfl) ?_
        repeat (go_big_quiet_step (fail))
        refine wpQuiet_nil ?_
        intro _ hw'
        obtain ⟨⟨dz, osz⟩, hw''⟩ := hw'
        subst hw''
        have HPz := Lib.hid (HP.out.below (hBR dz osz))
        have HOz := Lib.hid (Off.of_below (b := b) (hBR dz osz))
        clear r0 r1 r2 r3 hBR
        go_wp2_with fail
        go_ret
        exact ⟨rfl, HPz.out, HOz.out⟩
    · rw [decide_eq_false hk]
      have hke : (kx == 4) = false := by simpa using hk
      go_enter Tryz.func75, Tryz.ntmps75
      go_upto_region 1 with fail
      refine wp_region_quiet_below (by kernel_rfl) (by kernel_rfl) ?_
      repeat (go_big_quiet_step (fail))
      refine wpQuiet_nil ?_
      intro _ hw'
      obtain ⟨⟨dz, osz⟩, hw''⟩ := hw'
      subst hw''
      have HPz := Lib.hid (HP.out.below (hBR dz osz))
      have HOz := Lib.hid (Off.of_below (b := b) (hBR dz osz))
      clear r0 r1 r2 r3 hBR
      go_wp2_with fail
      go_ret
      exact ⟨rfl, HPz.out, HOz.out⟩
end Go.Proofs.YtigmcoelkkihkaaGreatDoor
namespace Go.Proofs.YtigmcoelkkihkaaGreatDoor
open Go.RowKit Go.Joins

/-- The sign of a level that stands at a place; empty: none. -/
def sgO (Ts : List Tks.Tk) (i : Nat) (lv : Int) : Bs := match Ts[i]? with
  | some x => if x.1 = 4 ∧ x.2.1 ∈ sgS lv then x.2.1 else []
  | none => []
theorem sgO_yes {Ts : List Tks.Tk} {i : Nat} {lv : Int} {s : Bs} (h : isB Ts i s = true) (hs : s ∈ sgS lv) : sgO Ts i lv = s := by
  unfold isB at h
  unfold sgO
  cases hx : Ts[i]? with
  | none => rw [hx] at h; cases h
  | some x =>
    rw [hx] at h
    simp only [Bool.and_eq_true, decide_eq_true_eq] at h
    obtain ⟨h1, rfl⟩ := h
    simp only [h1, hs, and_self, if_true]
theorem sgO_no {Ts : List Tks.Tk} {i : Nat} {lv : Int} (h : ∀ s ∈ sgS lv, isB Ts i s = false) : sgO Ts i lv = [] := by
  unfold sgO
  cases hx : Ts[i]? with
  | none => rfl
  | some x =>
    simp only []
    split
    · rename_i hh
      have := h _ hh.2
      unfold isB at this
      rw [hx] at this
      simp [hh.1] at this
    · rfl
theorem sgS_ne (lv : Int) : ∀ s ∈ sgS lv, s ≠ [] := by
  intro s hs
  unfold sgS at hs
  repeat' split at hs
  all_goals simp [sg1, sg2, sg3, sg4] at hs
  all_goals (rcases hs with rfl | rfl | rfl | rfl | rfl | rfl) <;> simp
theorem sgS_l10 (lv : Int) : (sgS lv).length ≤ 10 := by
  unfold sgS
  repeat' split
  all_goals simp [sg1, sg2, sg3, sg4]
/-- A row of strings is not the parser's block. -/
theorem psr_ne {w : World} {b : Nat} {q : Option Addr} {nT cT i : Nat} (h : Psr w b q nT cT i) {g o : Nat} {x : ByteArray} (hc : w.cell? ⟨g, o, none⟩ = some (.string x)) : g ≠ b := by
  rintro rfl
  have hb : w.heap[g]? = some (.cells #[.slice q nT cT, .int .i64 i, .int .i64 0] tPs (0, 0)) := h
  rw [cell_of_block hb] at hc
  match o, hc with
  | 0, hc => cases hc
  | 1, hc => cases hc
  | 2, hc => cases hc
  | o + 3, hc => simp at hc
/-- What 'sign' answers. -/
def SgP (b : Nat) (q : Option Addr) (nT cT i : Nat) (O : Bs) (w : World) (e : Ending) (w' : World) : Prop := e = .returned (.string ⟨O.toArray⟩) ∧ Psr w' b q nT cT (if O = [] then i else i + 1) ∧ Off b w w'
set_option maxRecDepth 100000 in
set_option maxHeartbeats 4000000 in
theorem psign_any (b : Nat) (q : Option Addr) (cT i : Nat) (Ts : List Tks.Tk) (lv : Int) (w : World) (hp : Psr w b q Ts.length cT i) (ht : TkR w b q Ts) (hl : Ts.length ≤ 1000) :
    Calls Tryz.prog 47 #[.pointer (some ⟨b, 0, none⟩), .int .i64 lv] w (SgP b q Ts.length cT i (sgO Ts i lv) w) := by
  have HSG := Lib.hid (fun W => signs_any lv W)
  have HIS := Lib.hid (fun s W hp' ht' => is_any b q cT i Ts s W hp' ht' hl)
  have HP := Lib.hid hp
  have HT := Lib.hid ht
  obtain ⟨O, hO⟩ : ∃ O, sgO Ts i lv = O := ⟨_, rfl⟩
  have HY : Hid (∀ s ∈ sgS lv, isB Ts i s = true → O = s) := fun s hs h => by rw [← hO]; exact sgO_yes h hs
  have HN : Hid ((∀ s ∈ sgS lv, isB Ts i s = false) → O = []) := fun h => by rw [← hO]; exact sgO_no h
  have HNE := Lib.hid (sgS_ne lv)
  have h10 := sgS_l10 lv
  obtain ⟨n, hn⟩ : ∃ n, Ts.length = n := ⟨_, rfl⟩
  rw [hO]
  clear hO hp ht
  obtain ⟨L, hL⟩ : ∃ L, sgS lv = L := ⟨_, rfl⟩
  rw [hL] at HSG HY HN HNE h10
  rw [hn] at HP HIS ⊢
  clear hL hn hl
  go_enter Tryz.func47, Tryz.ntmps47
  go_wp2_with fail
  refine (HSG.out _).mono ?_
  rintro e w1 ⟨⟨p, cap, rfl, hrd⟩, hb1⟩
  have HRD := Lib.hid hrd
  have HP1 := Lib.hid (HP.out.below hb1)
  have HO1 := Lib.hid (Off.of_below (b := b) hb1)
  have HT1 := Lib.hid (HT.out.off HO1.out)
  obtain ⟨m, hm⟩ : ∃ m, L.length = m := ⟨_, rfl⟩
  have HLM := Lib.hid hm
  rw [hm] at HRD h10 ⊢
  clear hrd hb1 hm HSG HP HT
  go_wp2_with fail
  go_loopg [10] m (fun g v10 wr => ∃ j : Nat, j + g = m ∧ v10 = .int .i64 j ∧ Psr wr b q n cT i ∧ Off b w1 wr ∧ ∀ k : Nat, k < j → isB Ts i (L.getD k []) = false)
  case atStart => exact ⟨0, by omega, rfl, HP1.out, Off.refl _ _, fun k hk => by omega⟩
  case round =>
    obtain ⟨j, hjg, rfl, hpr, hor, hno⟩ := hrel
    have HPR := Lib.hid hpr
    have HOR := Lib.hid hor
    have HNO := Lib.hid hno
    clear hpr hor hno
    by_cases hj : j < m
    · have hjj : (j : Int) < (m : Int) := by omega
      obtain ⟨g, off, rfl, _, hc1⟩ := cell_st HRD.out hj
      have hgb := psr_ne HP1.out hc1
      have hc := HOR.out.cell hgb hc1
      have HME : Hid (L.getD j [] ∈ L) := by
        unfold Hid
        rw [List.getD_eq_getElem?_getD, List.getElem?_eq_getElem (by rw [HLM.out]; exact hj)]
        exact List.getElem_mem _
      have HN2 : Hid (isB Ts i (L.getD j []) = false → ∀ k : Nat, k < j + 1 → isB Ts i (L.getD k []) = false) := fun h k hk => by
        by_cases hkj : k < j
        · exact HNO.out k hkj
        · obtain rfl : k = j := by omega
          exact h
      have HCI := Lib.hid (HIS.out (L.getD j []) wr HPR.out (HT1.out.off HOR.out))
      have HYJ := Lib.hid (HY.out (L.getD j []) HME.out)
      have HNJ := Lib.hid (HNE.out (L.getD j []) HME.out)
      generalize L.getD j [] = x at hc HCI HYJ HNJ HN2
      clear hc1 HME
      go_wp2_with fail
      refine HCI.out.mono ?_
      rintro e w2 ⟨rfl, hp2, ho2⟩
      cases hib : isB Ts i x with
      | true =>
        rw [hib, if_pos rfl] at hp2
        have HPE : Hid (Psr w2 b q n cT (if O = [] then i else i + 1)) := by
          unfold Hid
          rw [HYJ.out hib, if_neg HNJ.out]
          exact hp2
        have HOE : Hid (Off b w w2) := HO1.out.trans (HOR.out.trans ho2)
        have HOX : Hid (O = x) := HYJ.out hib
        clear hib hp2 ho2 hc
        go_wp2_with fail
        go_ret
        exact ⟨by rw [HOX.out]; rfl, HPE.out, HOE.out⟩
      | false =>
        rw [hib, if_neg (by simp)] at hp2
        have HPE := Lib.hid hp2
        have HOE : Hid (Off b w1 w2) := HOR.out.trans ho2
        have HNX := Lib.hid (HN2.out hib)
        clear hib hp2 ho2 hc
        go_wp2_with fail
        go_roundg (gk - 1)
        case measure => omega
        case rel => exact ⟨j + 1, by omega, by go_num, HPE.out, HOE.out, HNX.out⟩
    · obtain rfl : j = m := by omega
      have hjj : ¬ (j : Int) < (j : Int) := by omega
      have HON : Hid (O = []) := HN.out (fun s hs => by
        obtain ⟨k, hk, e⟩ := List.mem_iff_getElem.1 hs
        have := HNO.out k (by rw [HLM.out] at hk; exact hk)
        rw [List.getD_eq_getElem?_getD, List.getElem?_eq_getElem hk] at this
        rw [← e]
        exact this)
      have HPE : Hid (Psr wr b q n cT (if O = [] then i else i + 1)) := by
        unfold Hid
        rw [HON.out, if_pos rfl]
        exact HPR.out
      have HOE : Hid (Off b w wr) := HO1.out.trans HOR.out
      go_wp2_with fail
      go_ret
      exact ⟨by rw [HON.out]; rfl, HPE.out, HOE.out⟩
end Go.Proofs.YtigmcoelkkihkaaGreatDoor
namespace Go.Proofs.YtigmcoelkkihkaaGreatDoor.Cel
open Go.RowKit Go.Joins

/-- A node's cells. -/
def ndC (n : Nd) (p : Option Addr) (len cap : Nat) : List Value := [.int .i64 n.kind, .int .i64 n.num, .string ⟨n.text.toArray⟩, .int .i64 (cC n.frm), .int .i64 (cR n.frm), .int .i64 (cC n.tor), .int .i64 (cR n.tor), .slice p len cap]
/-- A node whose parts lie in blocks below N, as far as so deep. -/
def RdT (w : World) (N : Nat) : Nat → Nd → Option Addr → Nat → Prop
  | 0, n, p, len => n.args = [] ∧ len = 0
  | d + 1, n, p, len => n.args.length = len ∧ (len = 0 ∨ ∃ b off, p = some ⟨b, off, none⟩ ∧ b < N ∧ ∀ j c, n.args[j]? = some c → ∃ p' l' c', (∀ k u, (ndC c p' l' c')[k]? = some u → w.cell? ⟨b, off + j * 8 + k, none⟩ = some u) ∧ RdT w N d c p' l')
theorem RdT.below {w w' : World} {N : Nat} (hb : Below N w w') : ∀ {d : Nat} {n : Nd} {p : Option Addr} {len : Nat}, RdT w N d n p len → RdT w' N d n p len
  | 0, _, _, _, h => h
  | d + 1, n, p, len, h => by
    obtain ⟨h1, h2⟩ := h
    refine ⟨h1, ?_⟩
    rcases h2 with h2 | ⟨b, off, h3, h4, h5⟩
    · exact .inl h2
    · refine .inr ⟨b, off, h3, h4, fun j c hc => ?_⟩
      obtain ⟨p', l', c', h6, h7⟩ := h5 j c hc
      exact ⟨p', l', c', fun k u hu => (hb.cell (p := ⟨b, off + j * 8 + k, none⟩) h4).trans (h6 k u hu), RdT.below hb h7⟩
theorem RdT.mono {w : World} {N N' : Nat} (hN : N ≤ N') : ∀ {d : Nat} {n : Nd} {p : Option Addr} {len : Nat}, RdT w N d n p len → RdT w N' d n p len
  | 0, _, _, _, h => h
  | d + 1, n, p, len, h => by
    obtain ⟨h1, h2⟩ := h
    refine ⟨h1, ?_⟩
    rcases h2 with h2 | ⟨b, off, h3, h4, h5⟩
    · exact .inl h2
    · refine .inr ⟨b, off, h3, Nat.lt_of_lt_of_le h4 hN, fun j c hc => ?_⟩
      obtain ⟨p', l', c', h6, h7⟩ := h5 j c hc
      exact ⟨p', l', c', h6, RdT.mono hN h7⟩
theorem RdT.len {w : World} {N d : Nat} {n : Nd} {p : Option Addr} {len : Nat} (h : RdT w N d n p len) : n.args.length = len := by
  cases d with
  | zero => rw [h.1, h.2]; rfl
  | succ d => exact h.1
/-- A part's cells. -/
theorem RdT.at {w : World} {N d : Nat} {n : Nd} {p : Option Addr} {len : Nat} (h : RdT w N d n p len) {j : Nat} (hj : j < len) : ∃ d' b off c p' l' c', d = d' + 1 ∧ p = some ⟨b, off, none⟩ ∧ b < N ∧ n.args[j]? = some c ∧ RdT w N d' c p' l' ∧ w.cell? ⟨b, off + j * 8, none⟩ = some (.int .i64 c.kind) ∧ w.cell? ⟨b, off + j * 8 + 1, none⟩ = some (.int .i64 c.num) ∧ w.cell? ⟨b, off + j * 8 + 2, none⟩ = some (.string ⟨c.text.toArray⟩) ∧ w.cell? ⟨b, off + j * 8 + 3, none⟩ = some (.int .i64 (cC c.frm)) ∧ w.cell? ⟨b, off + j * 8 + 4, none⟩ = some (.int .i64 (cR c.frm)) ∧ w.cell? ⟨b, off + j * 8 + 5, none⟩ = some (.int .i64 (cC c.tor)) ∧ w.cell? ⟨b, off + j * 8 + 6, none⟩ = some (.int .i64 (cR c.tor)) ∧ w.cell? ⟨b, off + j * 8 + 7, none⟩ = some (.slice p' l' c') := by
  cases d with
  | zero => rw [h.2] at hj; omega
  | succ d =>
    obtain ⟨h1, h2⟩ := h
    rcases h2 with h2 | ⟨b, off, h3, h4, h5⟩
    · omega
    · obtain ⟨c, hc⟩ : ∃ c, n.args[j]? = some c := ⟨_, List.getElem?_eq_getElem (by omega)⟩
      obtain ⟨p', l', c', h6, h7⟩ := h5 j c hc
      exact ⟨d, b, off, c, p', l', c', rfl, h3, h4, hc, h7, h6 0 _ rfl, h6 1 _ rfl, h6 2 _ rfl, h6 3 _ rfl, h6 4 _ rfl, h6 5 _ rfl, h6 6 _ rfl, h6 7 _ rfl⟩
abbrev tPn : TypeId := 34
def ndA (n : Nd) (p : Option Addr) (len cap : Nat) : Array Value := #[.int .i64 n.kind, .int .i64 n.num, .string ⟨n.text.toArray⟩, .int .i64 (cC n.frm), .int .i64 (cR n.frm), .int .i64 (cC n.tor), .int .i64 (cR n.tor), .slice p len cap]
theorem ndA_eq (n : Nd) (p : Option Addr) (len cap : Nat) : Value.agg (ndA n p len cap) = .agg #[.int .i64 n.kind, .int .i64 n.num, .string ⟨n.text.toArray⟩, .int .i64 (cC n.frm), .int .i64 (cR n.frm), .int .i64 (cC n.tor), .int .i64 (cR n.tor), .slice p len cap] := rfl
/-- A node in a block of its own. -/
def NdB (t : TypeId) (w : World) (b : Nat) (n : Nd) (p : Option Addr) (len cap : Nat) : Prop := w.heap[b]? = some (.cells (ndA n p len cap) t (0, 0))
theorem NdB.below {t : TypeId} {w w' : World} {b : Nat} {n : Nd} {p : Option Addr} {len cap : Nat} (h : NdB t w b n p len cap) (hb : Below w.heap.size w w') : NdB t w' b n p len cap := (hb.block b (lt_some h)).trans h
theorem NdB.cells {t : TypeId} {w : World} {b : Nat} {n : Nd} {p : Option Addr} {len cap : Nat} (h : NdB t w b n p len cap) : w.cell? ⟨b, 0, none⟩ = some (.int .i64 n.kind) ∧ w.cell? ⟨b, 1, none⟩ = some (.int .i64 n.num) ∧ w.cell? ⟨b, 2, none⟩ = some (.string ⟨n.text.toArray⟩) ∧ w.cell? ⟨b, 3, none⟩ = some (.int .i64 (cC n.frm)) ∧ w.cell? ⟨b, 4, none⟩ = some (.int .i64 (cR n.frm)) ∧ w.cell? ⟨b, 5, none⟩ = some (.int .i64 (cC n.tor)) ∧ w.cell? ⟨b, 6, none⟩ = some (.int .i64 (cR n.tor)) ∧ w.cell? ⟨b, 7, none⟩ = some (.slice p len cap) := by
  refine ⟨?_, ?_, ?_, ?_, ?_, ?_, ?_, ?_⟩
  all_goals
    rw [cell_of_block h]
    rfl
def DepthC (d : Nat) : Prop := ∀ (n : Nd) (p : Option Addr) (len cap : Nat) (w : World), RdT w w.heap.size d n p len → OkN n → dpN n ≤ 1000000 → Calls Tryz.prog 26 #[.agg (ndA n p len cap)] w fun e w' => e = .returned (.int .i64 (dpN n : Nat)) ∧ Below w.heap.size w w'
set_option maxRecDepth 100000 in
set_option maxHeartbeats 4000000 in
theorem depth_s (d : Nat) (IH : ∀ d', d = d' + 1 → DepthC d') : DepthC d := by
  intro n p len cap w hrd hok hdp
  have hA0 : Hid (NdB tPn (w.alloc (.cells (ndA n p len cap) tPn)) w.heap.size n p len cap) := heap_alloc_new w _
  have hAB : Hid (Below w.heap.size w (w.alloc (.cells (ndA n p len cap) tPn))) := by unfold Hid; (repeat' (first | (with_reducible exact Below.refl _ _) | (with_reducible assumption) | (with_reducible refine Below.alloc ?_ ?_ _) | (with_reducible refine bel_drewN ?_ _) | (with_reducible refine Below.drew ?_) | (with_reducible refine Below.setCell ?_ ?_ _) | (with_reducible refine bel_call ‹_› ?_ ?_) | go_size))
  have HRD := Lib.hid hrd
  have HIH := Lib.hid IH
  have HDP : Hid (dpN n = dpL (n.args.drop 0) 0 + 1) := by unfold Hid; rw [dpN_eq]; rfl
  have hlen := hok.len
  rw [hrd.len] at hlen
  have HAL := Lib.hid hrd.len
  have HOK := Lib.hid (fun c hc => OkN.child (c := c) hok hc)
  generalize dpN n = D at HDP hdp ⊢
  rw [ndA_eq]
  clear hrd IH hok
  go_enter Tryz.func26, Tryz.ntmps26
  go_upto_region 1 with fail
  have e0 : w.alloc (.cells #[.int .i64 n.kind, .int .i64 n.num, .string ⟨n.text.toArray⟩, .int .i64 (cC n.frm), .int .i64 (cR n.frm), .int .i64 (cC n.tor), .int .i64 (cR n.tor), .slice p len cap] tPn) = w.alloc (.cells (ndA n p len cap) tPn) := rfl
  rw [e0]
  clear e0
  generalize w.alloc (.cells (ndA n p len cap) tPn) = w0 at hA0 hAB ⊢
  obtain ⟨c0, c1, c2, c3, cd3, c4, cd4, c5⟩ := hA0.out.cells
  go_wp2_with fail
  clear c0 c1 c2 c3 cd3 c4 cd4 c5 hA0
  go_loopg [3, 9] len (fun g v3 v9 wr => ∃ i m : Nat, i + g = len ∧ v9 = .int .i64 i ∧ v3 = .int .i64 (m : Int) ∧ D = dpL (n.args.drop i) m + 1 ∧ Below w.heap.size w wr)
  case atStart => exact ⟨0, 0, by omega, rfl, rfl, HDP.out, hAB.out⟩
  case round =>
    obtain ⟨i, m, hig, rfl, rfl, hD, hbel⟩ := hrel
    have HD := Lib.hid hD
    have HBL := Lib.hid hbel
    have hzr := hbel.size
    have hm : m ≤ 1000000 := by have := dpL_ge (n.args.drop i) m; omega
    clear hD hbel HDP
    by_cases hlt : i < len
    · have hli : (i : Int) < (len : Int) := by omega
      obtain ⟨d', b, off, c, p', l', c', hd, rfl, hbN, hc, hrc, q0, q1, q2, q3, qd3, q4, qd4, q5⟩ := (HRD.out.below HBL.out).at hlt
      have HC : Hid (DepthC d') := HIH.out d' hd
      have HCO := Lib.hid (HOK.out c (mem_at hc))
      have HD2 : Hid (D = dpL (n.args.drop (i + 1)) (max m (dpN c)) + 1) := by unfold Hid; rw [HD.out, dpL_at hc]
      have hcd : dpN c ≤ 1000000 := by
        have := dpL_ge (n.args.drop (i + 1)) (max m (dpN c))
        have := HD2.out
        omega
      have HRC := Lib.hid hrc
      clear hc hrc HD hd
      go_upto_region 5 with fail
      have hA1 : Hid (NdB tPn (wr.alloc (.cells (ndA c p' l' c') tPn)) wr.heap.size c p' l' c') := heap_alloc_new wr _
      have hB1 : Hid (Below w.heap.size w (wr.alloc (.cells (ndA c p' l' c') tPn))) := HBL.out.alloc hzr _
      have HR1 : Hid (RdT (wr.alloc (.cells (ndA c p' l' c') tPn)) w.heap.size d' c p' l') := HRC.out.below (by (repeat' (first | (with_reducible exact Below.refl _ _) | (with_reducible assumption) | (with_reducible refine Below.alloc ?_ ?_ _) | (with_reducible refine bel_drewN ?_ _) | (with_reducible refine Below.drew ?_) | (with_reducible refine Below.setCell ?_ ?_ _) | (with_reducible refine bel_call ‹_› ?_ ?_) | go_size)))
      have e1 : wr.alloc (.cells #[.int .i64 c.kind, .int .i64 c.num, .string ⟨c.text.toArray⟩, .int .i64 (cC c.frm), .int .i64 (cR c.frm), .int .i64 (cC c.tor), .int .i64 (cR c.tor), .slice p' l' c'] tPn) = wr.alloc (.cells (ndA c p' l' c') tPn) := rfl
      rw [e1]
      clear e1 HRC HBL q0 q1 q2 q3 qd3 q4 qd4 q5
      generalize wr.alloc (.cells (ndA c p' l' c') tPn) = w2 at hA1 hB1 HR1 ⊢
      generalize wr.heap.size = b2 at hA1 hzr ⊢
      obtain ⟨c0, c1, c2, c3, cd3, c4, cd4, c5⟩ := hA1.out.cells
      have HCC := Lib.hid (HC.out c p' l' c' w2 (HR1.out.mono hB1.out.size) HCO.out hcd)
      rw [ndA_eq] at HCC
      generalize dpN c = k at HCC HD2 hcd
      clear HC
      go_wp2_with fail
      refine HCC.out.mono ?_
      rintro e w3 ⟨rfl, hb3⟩
      have hB3 : Hid (Below w.heap.size w w3) := bel_call hb3 hB1.out hB1.out.size
      clear hb3 hB1 c0 c1 c2 c3 cd3 c4 cd4 c5 hA1 HR1
      go_wp2_with fail
      go_roundg (gk - 1)
      case measure => omega
      case rel => exact ⟨i + 1, max m k, by omega, by go_num, by first | rfl | (congr 1; omega) | (simp; omega), HD2.out, hB3.out⟩
    · obtain rfl : i = len := by omega
      have hli : ¬ (i : Int) < (i : Int) := by omega
      have HDE : Hid (D = m + 1) := by
        unfold Hid
        rw [HD.out, List.drop_eq_nil_of_le (by rw [HAL.out]; exact Nat.le_refl _), dpL]
      go_wp2_with fail
      go_ret
      exact ⟨by rw [HDE.out]; first | rfl | (simp; done), HBL.out⟩
theorem depth_any : ∀ d, DepthC d
  | 0 => depth_s 0 (fun d' h => by omega)
  | d + 1 => depth_s (d + 1) (fun d' h => (show d = d' from by omega) ▸ depth_any d)
end Go.Proofs.YtigmcoelkkihkaaGreatDoor.Cel
namespace Go.Proofs.YtigmcoelkkihkaaGreatDoor.Cel
open Go.RowKit Go.Joins

/-- As RdT; the blocks that are read meet 'ok'. -/
def RdP (w : World) (ok : Nat → Prop) : Nat → Nd → Option Addr → Nat → Prop
  | 0, n, p, len => n.args = [] ∧ len = 0
  | d + 1, n, p, len => n.args.length = len ∧ (len = 0 ∨ ∃ b off, p = some ⟨b, off, none⟩ ∧ ok b ∧ ∀ j c, n.args[j]? = some c → ∃ p' l' c', (∀ k u, (ndC c p' l' c')[k]? = some u → w.cell? ⟨b, off + j * 8 + k, none⟩ = some u) ∧ RdP w ok d c p' l')
theorem RdP.carry {w w' : World} {ok ok' : Nat → Prop} (hb : ∀ b, ok b → ok' b ∧ w'.heap[b]? = w.heap[b]?) : ∀ {d : Nat} {n : Nd} {p : Option Addr} {len : Nat}, RdP w ok d n p len → RdP w' ok' d n p len
  | 0, _, _, _, h => h
  | d + 1, n, p, len, h => by
    obtain ⟨h1, h2⟩ := h
    refine ⟨h1, ?_⟩
    rcases h2 with h2 | ⟨b, off, h3, h4, h5⟩
    · exact .inl h2
    · refine .inr ⟨b, off, h3, (hb b h4).1, fun j c hc => ?_⟩
      obtain ⟨p', l', c', h6, h7⟩ := h5 j c hc
      refine ⟨p', l', c', fun k u hu => ?_, RdP.carry hb h7⟩
      have := h6 k u hu
      simp only [World.cell?, (hb b h4).2] at this ⊢
      exact this
theorem RdP.rdT {w : World} {ok : Nat → Prop} {N : Nat} (hb : ∀ b, ok b → b < N) : ∀ {d : Nat} {n : Nd} {p : Option Addr} {len : Nat}, RdP w ok d n p len → RdT w N d n p len
  | 0, _, _, _, h => h
  | d + 1, n, p, len, h => by
    obtain ⟨h1, h2⟩ := h
    refine ⟨h1, ?_⟩
    rcases h2 with h2 | ⟨b, off, h3, h4, h5⟩
    · exact .inl h2
    · refine .inr ⟨b, off, h3, hb b h4, fun j c hc => ?_⟩
      obtain ⟨p', l', c', h6, h7⟩ := h5 j c hc
      exact ⟨p', l', c', h6, RdP.rdT hb h7⟩
/-- A part that is built, and where its parts lie. -/
abbrev Kid := Nd × Option Addr × Nat × Nat
def kidC (q : Kid) : List Value := ndC q.1 q.2.1 q.2.2.1 q.2.2.2
theorem kidC_len (q : Kid) : (kidC q).length = 8 := rfl
theorem kidC_one (q : Kid) : ∀ u ∈ kidC q, u.oneCell' = true := by
  intro u hu
  simp only [kidC, ndC, List.mem_cons, List.not_mem_nil, or_false] at hu
  rcases hu with rfl | rfl | rfl | rfl | rfl | rfl | rfl | rfl <;> rfl
theorem RdP.of_row {w : World} {base d : Nat} {v : Value} {L : List Kid} {n : Nd} {ok : Nat → Prop} (h : w.ownsRow base tPn 8 v L.length (L.flatMap kidC)) (hL : L.map Prod.fst = n.args) (hq : ∀ q ∈ L, RdP w ok d q.1 q.2.1 q.2.2.1) (hown : ∀ b, v.ownBlock = some b → ok b) :
    ∃ p cap, v = .slice p L.length cap ∧ RdP w ok (d + 1) n p L.length := by
  obtain ⟨p, cap, hv, _, _, ⟨_, hr⟩, _⟩ := RdG.of_own kidC_len rfl h
  refine ⟨p, cap, hv, by rw [← hL, List.length_map], ?_⟩
  rcases hr with hr | ⟨b, off, h1, h2, h3⟩
  · exact .inl hr
  · refine .inr ⟨b, off, h1, hown b (by rw [hv, h1]; rfl), fun j c hc => ?_⟩
    rw [← hL, List.getElem?_map] at hc
    cases hj : L[j]? with
    | none => rw [hj] at hc; cases hc
    | some q =>
      rw [hj] at hc
      obtain rfl : q.1 = c := by simpa using hc
      exact ⟨q.2.1, q.2.2.1, q.2.2.2, fun k u hu => h3 j q hj k u hu, hq q (List.mem_of_getElem? hj)⟩
theorem info_nd : (Tryz.prog.info? tPn).map (fun i => (i.zero, i.size, i.bytes)) = some (some (.agg #[.int .i64 0, .int .i64 0, .string ⟨#[]⟩, .int .i64 0, .int .i64 0, .int .i64 0, .int .i64 0, .slice none 0 0]), 8, 88) := by kernel_rfl
theorem newNd (w : World) (c : Nd) (p2 : Option Addr) (l' c2 : Nat) : ∀ j u, (ndC c p2 l' c2)[j]? = some u → (w.alloc (.cells (ndA c p2 l' c2) tPn)).cell? ((⟨w.heap.size, 0, none⟩ : Addr).add j) = some u := by
  intro j u hj
  have hb : NdB tPn (w.alloc (.cells (ndA c p2 l' c2) tPn)) w.heap.size c p2 l' c2 := heap_alloc_new w _
  obtain ⟨c0, c1, c2', c3, cd3, c4, cd4, c5⟩ := hb.cells
  have hj6 : j < 8 := (List.getElem?_eq_some_iff.1 hj).1
  simp only [Addr.add, Nat.zero_add]
  match j, hj6, hj with
  | 0, _, hj => cases hj; exact c0
  | 1, _, hj => cases hj; exact c1
  | 2, _, hj => cases hj; exact c2'
  | 3, _, hj => cases hj; exact c3
  | 4, _, hj => cases hj; exact cd3
  | 5, _, hj => cases hj; exact c4
  | 6, _, hj => cases hj; exact cd4
  | 7, _, hj => cases hj; exact c5
end Go.Proofs.YtigmcoelkkihkaaGreatDoor.Cel
