/- Parse of the document's answer: the walk. -/
import Derived.Test.YtjklbbmgjjdalaaGreatDoorBbI
set_option linter.unusedSimpArgs false
set_option linter.unusedVariables false
namespace Go.Proofs.YtjklbbmgjjdalaaGreatDoor
open Go.RowKit
def PrW (B0 : Nat) (mi : Bool) (n : Nat) (k : Nat) (w0 w : World) : Prop :=
  ∃ p m cap, w.cell? ⟨B0, 0, none⟩ = some (.bool mi) ∧ w.cell? ⟨B0, 1, none⟩ = some (.slice p m cap) ∧ w.frozen? ⟨B0, 0, none⟩ = false ∧ w.frozen? ⟨B0, 1, none⟩ = false ∧
    RdN w p m cap (digs n) ∧ (∀ x, p = some x → B0 + 1 ≤ x.block) ∧ m ≤ k ∧ Below B0 w0 w ∧ B0 + 1 ≤ w.heap.size
theorem step_append_dig {P : Program} {ops : Array Oper} (w : World) {o : Oper} {a : Act} {K : Act → World → Prop} {Q : Exit → Act → World → Prop} {E : Prop} (hgd : o.guard = none) (s x : Operand) (t : TypeId)
    (ho : o.op = .call { callee := .builtin .append, args := #[s, x], argTypes := #[t, t] })
    (base : Nat) (e : TypeId) (i : TypeInfo) (ht : P.underlying t = some (.slice e)) (hi : P.info? e = some i) (hz : i.zero = some (.int .u8 0))
    (hsize : i.size = 1) (hby : i.bytes = 1) (v : Value) (n : Nat) (L : List Nat) (hs : a.eval s = v) (hown : w.ownsRow base e 1 v n (L.map U8))
    (q : Option Addr) (m cap : Nat) (B : List Nat) (hx : a.eval x = .slice q m cap) (hB : RdN w q m cap B) (h63 : n + m ≤ 1000000) (hbase : base ≤ w.heap.size)
    (h : ∀ v' w', w'.ownsRow base e 1 v' (n + m) ((L ++ B).map U8) → w.grownBy w' v.ownBlock → K (a.put o.dst v') w') :
    if Region.wanted o (yielded ops a.tmps) = true then Oper.wp P o a w K Q else E := by
  have hw : Region.wanted o (yielded ops a.tmps) = true := by simp [Region.wanted, hgd]
  rw [if_pos hw]
  obtain ⟨h1, h2, h3, h4, h5⟩ := hB
  rcases h5 with ⟨rfl, rfl, rfl⟩ | ⟨b, off, rfl, h7, h8⟩
  · have : B = [] := List.eq_nil_of_length_eq_zero h1
    subst this
    have hrun := run_append_owned_none (P := P) (w := w) base t o.type e i 1 ht hi v n (L.map U8) hown
    unfold Oper.wp
    simp [execOp, ho, resolve, invoke, builtin, hs, hx, hrun, Result.andThen]
    exact h v w (by simpa using hown) ⟨rfl, rfl, rfl, Nat.le_refl _, fun _ _ _ => rfl⟩
  · refine wp_append_own w s x t ho base e i (.int .u8 0) 1 1 ht hi hz hsize hby rfl (by decide) v n (L.map U8) hs hown ⟨b, off, none⟩ m cap (B.map U8) hx (by simp [h1]) ?_ ?_ (by unfold maxLen; omega) (by omega) hbase (fun v' w' r1 r2 _ => h v' w' (by simpa using r1) r2)
    · intro j u hj
      have hjl : j < B.length := by
        rcases Nat.lt_or_ge j B.length with h' | h'
        · exact h'
        · simp [h'] at hj
      have hj2 : some (Value.int .u8 (nth B j : Int)) = some u := by rw [← hj, nth_cell hjl]
      rw [← hj2]
      have e : (⟨b, off, none⟩ : Addr).add j = ⟨b, off + j, none⟩ := by
        unfold Addr.add
        split
        · rename_i h0; subst h0; rfl
        · rfl
      rw [e]
      exact h8 j (by omega)
    · intro u hu
      simp only [List.mem_map] at hu
      obtain ⟨d, _, rfl⟩ := hu
      rfl
theorem cons_len {d n m k : Nat} (hd : d < 10) (hm : (digs n).length = m) (h : m ≤ k) : (digs (d + 10 * n)).length ≤ k + 1 := by
  refine digs_length_le ?_
  have h1 := dval_lt (digs n) (digs_lt n)
  rw [dval_digs, hm] at h1
  have h2 : 10 ^ m ≤ 10 ^ k := Nat.pow_le_pow_right (by omega) h
  rw [Nat.pow_succ]
  omega
theorem PrW.next {B0 : Nat} {mi : Bool} {n k m d : Nat} {w0 wr w2 : World} {p p3 : Option Addr} {cap cap3 n4 : Nat} (hd : d < 10) (c0 : wr.cell? ⟨B0, 0, none⟩ = some (.bool mi)) (c1 : wr.cell? ⟨B0, 1, none⟩ = some (.slice p m cap)) (f0 : wr.frozen? ⟨B0, 0, none⟩ = false) (f1 : wr.frozen? ⟨B0, 1, none⟩ = false)
    (hrd : RdN wr p m cap (digs n)) (hm : m ≤ k) (hbel : Below B0 w0 wr) (hsz : B0 + 1 ≤ wr.heap.size) (hb2 : Below wr.heap.size wr w2) (hr4 : RdN w2 p3 n4 cap3 (digs (dval ([d] ++ digs n)))) (hf3 : ∀ x, p3 = some x → wr.heap.size ≤ x.block) :
    PrW B0 mi (d + 10 * n) (k + 1) w0 (w2.setCell ⟨B0, 1, none⟩ (.slice p3 n4 cap3)) := by
  have e : dval ([d] ++ digs n) = d + 10 * n := by simp [dval, dval_digs]
  rw [e] at hr4
  have hs2 := hb2.size
  have x0 : w2.cell? ⟨B0, 0, none⟩ = some (.bool mi) := (hb2.cell (p := ⟨B0, 0, none⟩) (by show B0 < _; omega)).trans c0
  have x1 : w2.cell? ⟨B0, 1, none⟩ = some (.slice p m cap) := (hb2.cell (p := ⟨B0, 1, none⟩) (by show B0 < _; omega)).trans c1
  have y0 : w2.frozen? ⟨B0, 0, none⟩ = false := (hb2.frozen (p := ⟨B0, 0, none⟩) (by show B0 < _; omega)).trans f0
  have y1 : w2.frozen? ⟨B0, 1, none⟩ = false := (hb2.frozen (p := ⟨B0, 1, none⟩) (by show B0 < _; omega)).trans f1
  refine ⟨p3, n4, cap3, by go_simp, by go_simp, by go_simp, by go_simp, hr4.stored _ _ (fun x hx => ?_), fun x hx => ?_, ?_, ?_, ?_⟩
  · have := hf3 x hx
    show x.block ≠ B0
    omega
  · have := hf3 x hx
    omega
  · rw [← hr4.len]
    exact cons_len hd hrd.len hm
  · exact (hbel.trans (hb2.mono (by omega))).setCell (Nat.le_refl _) _
  · simp only [World.size_setCell]
    omega
theorem rp_point {c : UInt8} {r : List UInt8} {n : Nat} {p : Int} {k : Nat} (h : c.toNat = 46) (hp : p < 0) : rp (c :: r) n p k = rp r n 0 k := by rw [rp, if_pos ⟨h, hp⟩]
theorem rp_bad {c : UInt8} {r : List UInt8} {n : Nat} {p : Int} {k : Nat} (h : ¬ (c.toNat = 46 ∧ p < 0)) (h2 : ¬ (48 ≤ c.toNat ∧ c.toNat ≤ 57)) : rp (c :: r) n p k = none := by rw [rp, if_neg h, if_neg h2]
theorem rp_ah {c : UInt8} {r : List UInt8} {n : Nat} {p : Int} {k d : Nat} (h : c.toNat = 48 + d) (h2 : d < 10) (hp : p < 0) : rp (c :: r) n p k = rp r (d + 10 * n) p (k + 1) := by
  rw [rp, if_neg (by omega), if_pos (by omega), if_pos hp, h, show 48 + d - 48 = d from by omega]
theorem rp_be {c : UInt8} {r : List UInt8} {n : Nat} {p : Int} {k d : Nat} (h : c.toNat = 48 + d) (h2 : d < 10) (hp : ¬ p < 0) : rp (c :: r) n p k = rp r (d + 10 * n) (p + 1) k := by
  rw [rp, if_neg (by omega), if_pos (by omega), if_neg hp, h, show 48 + d - 48 = d from by omega]
set_option maxRecDepth 100000 in
set_option maxHeartbeats 1000000 in
theorem refParse_any (s : ByteArray) (hs : s.size ≤ 900) (w : World) :
    Calls Tryz.prog 93 #[.string s] w fun e w' => e = .returned (.tuple #[.int .i64 (rprsV s.data.toList), .bool (rprsOk s.data.toList)]) ∧ Below w.heap.size w w' := by
  obtain ⟨i0, hi, hz0, hz1, hz2⟩ := info_parts info_u8
  have hl : s.data.toList.length = s.size := by rw [← Lib.size_eq]
  obtain ⟨mi, hmi⟩ : ∃ mi, prsMi s.data.toList = mi := ⟨_, rfl⟩
  obtain ⟨R, hR⟩ : ∃ R, Lib.trimPrefix s.data.toList [45] = R := ⟨_, rfl⟩
  have hRl : R.length ≤ 900 := by rw [← hR]; exact Nat.le_trans (trimPrefix_len _ _) (by omega)
  have HV : Hid (rprsOk s.data.toList = (rpOk (rp R 0 (-1) 0) && inR (sv mi (rpN (rp R 0 (-1) 0)))) ∧ rprsV s.data.toList = if (rpOk (rp R 0 (-1) 0) && inR (sv mi (rpN (rp R 0 (-1) 0)))) then sv mi (rpN (rp R 0 (-1) 0)) else 0) := by
    unfold Hid rprsV rprsOk
    rw [hR, hmi]
    exact ⟨rfl, rfl⟩
  obtain ⟨vV, hvV⟩ : ∃ x, rprsV s.data.toList = x := ⟨_, rfl⟩
  obtain ⟨vO, hvO⟩ : ∃ x, rprsOk s.data.toList = x := ⟨_, rfl⟩
  rw [hvV, hvO] at HV ⊢
  clear hvV hvO
  have HNO : Hid (rpOk (rp R 0 (-1) 0) = false → vO = false ∧ vV = 0) := by
    unfold Hid
    intro h
    have h2 := HV.out
    rw [h] at h2
    exact ⟨h2.1, by rw [h2.2]; rfl⟩
  have hcase : (s.size = 0 ∧ mi = false ∧ R = s.data.toList) ∨ (∃ h : 0 < s.size, (((s[0]'h).toNat : Int) == 45) = true ∧ mi = true ∧ s.extract 1 s.size = ⟨R.toArray⟩) ∨ (∃ h : 0 < s.size, (((s[0]'h).toNat : Int) == 45) = false ∧ mi = false ∧ R = s.data.toList) := by
    cases hL : s.data.toList with
    | nil =>
      rw [hL] at hmi hR hl
      exact .inl ⟨hl.symm, hmi.symm, hR.symm⟩
    | cons c r =>
      rw [hL] at hmi hR hl
      have hsz : 0 < s.size := by rw [← hl]; simp
      have h0 : (s[0]'hsz) = c := by
        have h1 : s.data.toList[0]? = some c := by rw [hL]; rfl
        rw [ByteArray.getElem_eq_getElem_data]
        have h2 : s.data[0]? = some c := by simpa using h1
        have h3 : 0 < s.data.size := hsz
        rw [Array.getElem?_eq_getElem h3] at h2
        exact Option.some.inj h2
      have hd : ∀ b : Bool, (c == 45) = b → (((c.toNat : Nat) : Int) == 45) = b := by
        intro b hb
        rw [← hb, Bool.eq_iff_iff, beq_iff_eq, beq_iff_eq]
        constructor
        · intro h
          exact UInt8.toNat_inj.1 (by simpa using (by omega : c.toNat = 45))
        · intro h
          subst h
          rfl
      have hp : Lib.hasPrefix (c :: r) [45] = (c == 45) := by
        unfold Lib.hasPrefix
        by_cases h : c = 45
        · subst h; simp [List.isPrefixOf]
        · have h2 : ((45 : UInt8) == c) = false := by rw [beq_eq_false_iff_ne]; exact Ne.symm h
          have h3 : (c == (45 : UInt8)) = false := by rw [beq_eq_false_iff_ne]; exact h
          simp only [List.isPrefixOf, h2, h3, Bool.false_and]
      unfold prsMi at hmi
      unfold Lib.trimPrefix at hR
      rw [hp] at hmi hR
      cases hc : (c == 45)
      · rw [hc] at hmi hR
        exact .inr (.inr ⟨hsz, by rw [h0]; exact hd _ hc, hmi.symm, hR.symm⟩)
      · rw [hc] at hmi hR
        refine .inr (.inl ⟨hsz, by rw [h0]; exact hd _ hc, hmi.symm, ?_⟩)
        rw [← hR]
        apply ByteArray.ext
        apply Array.ext'
        rw [ByteArray.data_extract, Array.toList_extract, List.extract_eq_take_drop, hL, ← hl]
        simp
  have HR := Lib.hid hR
  clear hmi hR hl
  obtain ⟨t, ht⟩ : ∃ t : ByteArray, t = ⟨R.toArray⟩ := ⟨_, rfl⟩
  have HT := Lib.hid ht
  have htl : t.size = R.length := by rw [ht, Lib.size_eq]
  have hst : R = s.data.toList → s = t := fun h => by rw [ht, h]
  have HST := Lib.hid hst
  clear ht hst
  go_enter Tryz.func93, Tryz.ntmps93
  have hcon : (mi = true ∧ 1 ≤ s.size ∧ s.extract 1 s.size = t) ∨ (mi = false ∧ s = t) := by
    rcases hcase with ⟨h0, h1, hRs⟩ | ⟨h0, hb, h1, hRs⟩ | ⟨h0, hb, h1, hRs⟩
    · exact .inr ⟨h1, HST.out hRs⟩
    · exact .inl ⟨h1, by omega, by rw [hRs, HT.out]⟩
    · exact .inr ⟨h1, HST.out hRs⟩
  have HCON := Lib.hid hcon
  clear hcon
  go_upto_region 2 with fail
  go_cut [0, 19] (fun v0 v19 wx => v0 = .string s ∧ v19 = .bool mi ∧ wx = w.alloc (.cells #[.bool false, .slice none 0 0] 149))
  case first =>
    rcases hcase with ⟨h0, rfl, hRs⟩ | ⟨h0, hb, rfl, hRs⟩ | ⟨h0, hb, rfl, hRs⟩
    · go_wp2_with fail
      go_meet
      exact ⟨rfl, rfl, rfl⟩
    · have g0 : (0 : Int) < (s.size : Int) := by omega
      go_wp2_with fail
      go_meet
      exact ⟨rfl, rfl, rfl⟩
    · have g0 : (0 : Int) < (s.size : Int) := by omega
      go_wp2_with fail
      go_meet
      exact ⟨rfl, rfl, rfl⟩
  case rest =>
    obtain ⟨rfl, rfl, rfl⟩ := hcut
    clear hcase
    go_upto_if 19 with fail
    go_cut [0] (fun v0 wx => v0 = .string t ∧ PrW w.heap.size mi 0 0 w wx)
    case first =>
      rcases HCON.out with ⟨rfl, h1, h2⟩ | ⟨rfl, rfl⟩
      · have g0 : (1 : Int) ≤ (s.size : Int) := by omega
        have H2 := Lib.hid h2
        clear h2
        go_wp2_with fail
        go_meet
        exact ⟨by rw [H2.out], none, 0, 0, by go_simp, by go_simp, by go_simp, by go_simp, by rw [digs_zero]; exact RdN.nil _, (fun x hx => nomatch hx), Nat.le_refl _, Below.alloc (Below.refl _ _) (Nat.le_refl _) _, by rw [World.size_alloc]; exact Nat.le_refl _⟩
      · go_wp2_with fail
        go_meet
        exact ⟨rfl, none, 0, 0, by go_simp, by go_simp, by go_simp, by go_simp, by rw [digs_zero]; exact RdN.nil _, (fun x hx => nomatch hx), Nat.le_refl _, Below.alloc (Below.refl _ _) (Nat.le_refl _) _, by rw [World.size_alloc]; exact Nat.le_refl _⟩
    case rest =>
      obtain ⟨rfl, p0, m0, cap0, c0, c1, f0, f1, hrd, hfr, hm0, hbel, hsz⟩ := hcut
      have HRD := Lib.hid hrd
      have HFR := Lib.hid hfr
      clear hrd hfr
      go_upto_region 6 with fail
      go_wp2_with fail
      go_loopg [5, 6, 7] R.length (fun g v5 v6 v7 wr => ∃ (i n k : Nat) (p : Int), i + g = R.length ∧ v7 = .int .i64 i ∧ v5 = .int .i64 p ∧ v6 = .int .i64 k ∧ -1 ≤ p ∧ p ≤ i ∧ k ≤ i ∧ rp R 0 (-1) 0 = rp (R.drop i) n p k ∧ PrW w.heap.size mi n i w wr)
      case atStart => exact ⟨0, 0, 0, -1, by omega, rfl, rfl, rfl, by omega, by omega, by omega, rfl, p0, m0, cap0, c0, c1, f0, f1, HRD.out, HFR.out, hm0, hbel, hsz⟩
      case round =>
        clear c0 c1 f0 f1 HRD HFR hm0 hbel hsz
        obtain ⟨i, n, k, q, hig, rfl, rfl, rfl, hq1, hq2, hk, hrp, p, m, cap, c0, c1, f0, f1, hrd, hfr, hm, hbel, hsz⟩ := hrel
        have HRP := Lib.hid hrp
        have HRD := Lib.hid hrd
        have HFR := Lib.hid hfr
        clear hrp hrd hfr
        by_cases hgo : i < R.length
        · obtain ⟨c, hc⟩ : ∃ c, R[i] = c := ⟨_, rfl⟩
          have hdr : R.drop i = c :: R.drop (i + 1) := by rw [List.drop_eq_getElem_cons hgo, hc]
          have hit : i < t.size := by omega
          obtain ⟨b, hb⟩ : ∃ b : Nat, c.toNat = b := ⟨_, rfl⟩
          have hby : ((t[i]'hit).toNat : Int) = (b : Int) := by
            have h1 := HT.out
            subst h1
            rw [← hb, ← hc]
            simp [ByteArray.getElem_eq_getElem_data]
          have hgo' : (i : Int) < (t.size : Int) := by omega
          have HB := Lib.hid hb
          have HDR := Lib.hid hdr
          clear hb hdr hc
          rcases Nat.lt_or_ge b 48 with h48 | h48
          ·
            have g48 : ((t[i]'hit).toNat : Int) < 48 := by omega
            by_cases h46 : b = 46
            · have e46 : (((t[i]'hit).toNat : Int) == 46) = true := by rw [hby, h46]; first | done | rfl
              by_cases hq0 : q < 0
              · have hnx : Hid (rp R 0 (-1) 0 = rp (R.drop (i + 1)) n 0 k) := by unfold Hid; rw [HRP.out, HDR.out]; exact rp_point (by rw [HB.out, h46]) hq0
                clear hby h46 h48
                go_wp2
                go_roundg (gk - 1)
                case measure => omega
                case rel => exact ⟨i + 1, n, k, 0, by omega, by go_num, rfl, rfl, by omega, by omega, by omega, hnx.out, p, m, cap, c0, c1, f0, f1, HRD.out, HFR.out, by omega, hbel, hsz⟩
              · have hnx := HNO.out (by rw [HRP.out, HDR.out, rp_bad (by omega) (by rw [HB.out]; omega)]; rfl)
                have HNX := Lib.hid hnx
                clear hby h46 h48 hnx
                go_wp2
                go_ret2
                exact ⟨by rw [HNX.out.1, HNX.out.2]; rfl, hbel⟩
            · have e46 : (((t[i]'hit).toNat : Int) == 46) = false := by rw [hby]; simp; omega
              have hnx := HNO.out (by rw [HRP.out, HDR.out, rp_bad (by rw [HB.out]; omega) (by rw [HB.out]; omega)]; rfl)
              have HNX := Lib.hid hnx
              clear hby h46 h48 hnx
              go_wp2
              go_ret2
              exact ⟨by rw [HNX.out.1, HNX.out.2]; rfl, hbel⟩
          · have e46 : (((t[i]'hit).toNat : Int) == 46) = false := by rw [hby]; simp; omega
            have g48 : ¬ ((t[i]'hit).toNat : Int) < 48 := by omega
            rcases Nat.lt_or_ge 57 b with h57 | h57
            · have g57 : (57 : Int) < ((t[i]'hit).toNat : Int) := by omega
              have hnx := HNO.out (by rw [HRP.out, HDR.out, rp_bad (by rw [HB.out]; omega) (by rw [HB.out]; omega)]; rfl)
              have HNX := Lib.hid hnx
              clear hby h57 h48 hnx
              go_wp2
              go_ret2
              exact ⟨by rw [HNX.out.1, HNX.out.2]; rfl, hbel⟩
            · have g57 : ¬ (57 : Int) < ((t[i]'hit).toNat : Int) := by omega
              obtain ⟨d, rfl⟩ : ∃ d, b = 48 + d := ⟨b - 48, by omega⟩
              have hd10 : d < 10 := by omega
              have hwr : IntKind.u8.wrap (((t[i]'hit).toNat : Int) - 48) = (d : Int) := by
                rw [hby, IntWalk.u8_in _ (by omega)]
                omega
              clear hby h57 h48
              by_cases hq0 : q < 0
              · have hnx : Hid (rp R 0 (-1) 0 = rp (R.drop (i + 1)) (d + 10 * n) q (k + 1)) := by unfold Hid; rw [HRP.out, HDR.out]; exact rp_ah HB.out hd10 hq0
                go_wp2_with fail
                go_region_law (first
                  | (go_simp
                     go_at_call 103
                     refine (cut_any _ _ _ _ (by omega) _ HR3.out).mono ?_
                     rintro e' w3 ⟨n4, rfl, hr4, rfl⟩
                     have HR4 := Lib.hid hr4
                     clear hr4
                     go_simp)
                  | (refine step_append_dig _ (by rfl) _ _ _ (by rfl) wr.heap.size 5 i0 Tryz.underlying147 hi hz0 hz1 hz2 _ 1 [d] (by rfl) (own_new wr.drew d _) p m cap (digs n) (by rfl) ((HRD.out.below (Below.drew (Below.refl _ _))).alloc _) (by omega) (by simp) ?_
                     intro v' w2 hown2 hgrow2
                     obtain ⟨p3, cap3, rfl, hr3, hf3⟩ := own_cells (L := [d] ++ digs n) hown2 (fun z hz => by rcases List.mem_append.1 hz with h | h; simp at h; omega; exact digs_lt n z h)
                     have hb2 : Below wr.heap.size wr w2 := (((Below.refl _ _).drew).alloc (Nat.le_refl _) _).grown hgrow2 (by simp) (fun k h => by cases h; exact Nat.le_refl _)
                     have HR3 := Lib.hid hr3
                     have HF3 := Lib.hid hf3
                     obtain ⟨hc2, hfz2, hs2⟩ := bcell hb2 rfl
                     clear hr3 hf3 hown2 hgrow2))
                all_goals
                  go_wp2_with fail
                  go_roundg (gk - 1)
                  case measure => omega
                  case rel => exact ⟨i + 1, d + 10 * n, k + 1, q, by omega, by go_num, rfl, by go_num, by omega, by omega, by omega, hnx.out, PrW.next hd10 c0 c1 f0 f1 HRD.out hm hbel hsz hb2 HR4.out HF3.out⟩
              · have hnx : Hid (rp R 0 (-1) 0 = rp (R.drop (i + 1)) (d + 10 * n) (q + 1) k) := by unfold Hid; rw [HRP.out, HDR.out]; exact rp_be HB.out hd10 hq0
                go_wp2_with fail
                go_region_law (first
                  | (go_simp
                     go_at_call 103
                     refine (cut_any _ _ _ _ (by omega) _ HR3.out).mono ?_
                     rintro e' w3 ⟨n4, rfl, hr4, rfl⟩
                     have HR4 := Lib.hid hr4
                     clear hr4
                     go_simp)
                  | (refine step_append_dig _ (by rfl) _ _ _ (by rfl) wr.heap.size 5 i0 Tryz.underlying147 hi hz0 hz1 hz2 _ 1 [d] (by rfl) (own_new wr.drew d _) p m cap (digs n) (by rfl) ((HRD.out.below (Below.drew (Below.refl _ _))).alloc _) (by omega) (by simp) ?_
                     intro v' w2 hown2 hgrow2
                     obtain ⟨p3, cap3, rfl, hr3, hf3⟩ := own_cells (L := [d] ++ digs n) hown2 (fun z hz => by rcases List.mem_append.1 hz with h | h; simp at h; omega; exact digs_lt n z h)
                     have hb2 : Below wr.heap.size wr w2 := (((Below.refl _ _).drew).alloc (Nat.le_refl _) _).grown hgrow2 (by simp) (fun k h => by cases h; exact Nat.le_refl _)
                     have HR3 := Lib.hid hr3
                     have HF3 := Lib.hid hf3
                     obtain ⟨hc2, hfz2, hs2⟩ := bcell hb2 rfl
                     clear hr3 hf3 hown2 hgrow2))
                all_goals
                  go_wp2_with fail
                  go_roundg (gk - 1)
                  case measure => omega
                  case rel => exact ⟨i + 1, d + 10 * n, k, q + 1, by omega, by go_num, by go_num, rfl, by omega, by omega, by omega, hnx.out, PrW.next hd10 c0 c1 f0 f1 HRD.out hm hbel hsz hb2 HR4.out HF3.out⟩
        · have hiR : i = R.length := by omega
          have hend : rp R 0 (-1) 0 = some (n, q, k) := by rw [HRP.out, List.drop_of_length_le (by omega)]; rfl
          have hgo' : ¬ (i : Int) < (t.size : Int) := by omega
          by_cases hbad : k = 0 ∨ q = 0 ∨ 6 < q
          · have hnx := HNO.out (by
              rw [hend]
              unfold rpOk
              rcases hbad with h | h | h
              · simp [h]
              · simp [h]
              · simp; omega)
            have HNX := Lib.hid hnx
            clear hnx hend
            by_cases hk0 : k = 0
            · have ek : ((k : Int) == 0) = true := by simp [hk0]
              clear hbad hk0
              go_wp2
              go_ret2
              exact ⟨by rw [HNX.out.1, HNX.out.2]; rfl, hbel⟩
            · have ek : ((k : Int) == 0) = false := by simp; omega
              by_cases hq0 : q = 0
              · have eq0 : (q == 0) = true := by simp [hq0]
                clear hbad
                go_wp2
                go_ret2
                exact ⟨by rw [HNX.out.1, HNX.out.2]; rfl, hbel⟩
              · have eq0 : (q == 0) = false := by simp [hq0]
                have hq6 : 6 < q := by omega
                clear hbad
                go_wp2
                go_ret2
                exact ⟨by rw [HNX.out.1, HNX.out.2]; rfl, hbel⟩
          · obtain ⟨G, hG⟩ : ∃ G : Nat, 6 - (max q 0).toNat = G := ⟨_, rfl⟩
            obtain ⟨a0, ha0⟩ : ∃ a0 : Nat, (max q 0).toNat = a0 := ⟨_, rfl⟩
            have hmax : max q 0 = (a0 : Int) := by omega
            have haG : a0 + G = 6 := by omega
            have ek : ((k : Int) == 0) = false := by simp; omega
            have eq0 : (q == 0) = false := by simp; omega
            have hq6 : ¬ 6 < q := by omega
            have hfin : toV mi (n * 10 ^ G) = vV ∧ (toE mi (n * 10 ^ G) == 0) = vO := by
              have h := HV.out
              rw [hend] at h
              have h1 : rpOk (some (n, q, k)) = true := by
                unfold rpOk
                simp only [Bool.and_eq_true, Bool.not_eq_true', decide_eq_false_iff_not, decide_eq_true_eq]
                omega
              have h2 : rpN (some (n, q, k)) = n * 10 ^ G := by unfold rpN; rw [← hG]
              rw [h1, h2, Bool.true_and] at h
              obtain ⟨h3, h4⟩ := h
              rw [toV_is, toE_is, h3, h4]
              unfold okV okE
              exact ⟨rfl, by cases inR (sv mi (n * 10 ^ G)) <;> rfl⟩
            have HFIN := Lib.hid hfin
            have HG := Lib.hid hG
            obtain ⟨n0, hn0⟩ : ∃ n0, n0 = n := ⟨_, rfl⟩
            have HN0 := Lib.hid hn0
            rw [← hn0] at HFIN
            have hq66 : q ≤ 6 := by omega
            clear hbad hend hfin hG ha0
            go_wp2_with fail
            go_loopg [8] G (fun g v8 wr => ∃ (z n2 : Nat), z + g = 6 ∧ g ≤ G ∧ v8 = .int .i64 z ∧ n2 = n0 * 10 ^ (G - g) ∧ PrW w.heap.size mi n2 (R.length + (G - g)) w wr)
            case atStart => exact ⟨a0, n, by omega, Nat.le_refl _, rfl, by rw [Nat.sub_self, HN0.out]; simp, p, m, cap, c0, c1, f0, f1, HRD.out, HFR.out, by omega, hbel, hsz⟩
            case round =>
              clear c0 c1 f0 f1 HRD HFR hm hbel hsz HRP HN0
              obtain ⟨z, n, hzg, hgG, rfl, hn2, p, m, cap, c0, c1, f0, f1, hrd, hfr, hm, hbel, hsz⟩ := hrel
              have HRD := Lib.hid hrd
              have HFR := Lib.hid hfr
              have HN2 := Lib.hid hn2
              clear hrd hfr hn2
              by_cases hk0 : gk = 0
              · subst hk0
                have hz6 : z = 6 := by omega
                subst hz6
                have hN : Hid (n = n0 * 10 ^ G) := by unfold Hid; rw [HN2.out, Nat.sub_zero]
                go_wp2_with fail
                refine (to_wide mi p m cap n (by omega) _ HRD.out).mono ?_
                rintro e w3 ⟨rfl, hb3⟩
                rw [hN.out, HFIN.out.1]
                obtain ⟨vE, hvE⟩ : ∃ x, toE mi (n0 * 10 ^ G) = x := ⟨_, rfl⟩
                have hO := HFIN.out.2
                rw [hvE] at hO ⊢
                have HO := Lib.hid hO
                clear hO hvE
                go_wp2_with fail
                go_ret2
                exact ⟨by rw [← HO.out]; rfl, bel_call hb3 hbel (by omega)⟩
              · have hz6 : (z : Int) < 6 := by omega
                go_wp2_with (at_builtin; refine wpList_append_dig _ rfl (.tmp 79) (.tmp 81) _ rfl wr.heap.size 5 i0 Tryz.underlying147 hi hz0 hz1 hz2 _ 1 [0] rfl (own_new wr 0 _) p m cap (digs n) rfl (HRD.out.alloc _) (by omega) (by simp) ?_; intro v' w2 hown2 hgrow2)
                obtain ⟨p3, cap3, rfl, hr3, hf3⟩ := own_cells (L := [0] ++ digs n) hown2 (fun z hz => by rcases List.mem_append.1 hz with h | h; simp at h; omega; exact digs_lt n z h)
                have hb2 : Below wr.heap.size wr w2 := ((Below.refl _ _).alloc (Nat.le_refl _) _).grown hgrow2 (by simp) (fun k h => by cases h; exact Nat.le_refl _)
                have HR3 := Lib.hid hr3
                have HF3 := Lib.hid hf3
                obtain ⟨hc2, hfz2, hs2⟩ := bcell hb2 rfl
                clear hr3 hf3 hown2 hgrow2
                refine (cut_any _ _ _ _ (by omega) _ HR3.out).mono ?_
                rintro e' w3 ⟨n4, rfl, hr4, rfl⟩
                have HR4 := Lib.hid hr4
                clear hr4
                all_goals
                  go_wp2_with fail
                  go_roundg (gk - 1)
                  case measure => omega
                  case rel => exact ⟨z + 1, 0 + 10 * n, by omega, by omega, by go_num, by rw [HN2.out, show G - (gk - 1) = G - gk + 1 from by omega, Nat.pow_succ, Nat.zero_add, Nat.mul_comm 10, Nat.mul_assoc], by
                    have h := PrW.next (d := 0) (by omega) c0 c1 f0 f1 HRD.out hm hbel hsz hb2 HR4.out HF3.out
                    rw [show R.length + (G - gk) + 1 = R.length + (G - (gk - 1)) from by omega] at h
                    exact h⟩
end Go.Proofs.YtjklbbmgjjdalaaGreatDoor
