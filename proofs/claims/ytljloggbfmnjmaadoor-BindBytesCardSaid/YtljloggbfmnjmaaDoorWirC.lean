/- Wire: slices.Clone of bytes; a reader's Bytes, Text. -/
import Derived.Test.YtljloggbfmnjmaaDoorWirB
import Derived.WalkSpells
import Derived.Lib.ConvBytes
import Derived.Laws.BytesArg
import Derived.Laws.IdiomStrings
set_option linter.unusedSimpArgs false
set_option linter.unusedVariables false
namespace Go.Proofs.YtljloggbfmnjmaaDoor
open Go.RowKit Go.Joins

theorem infou8 : (Tryd.prog.info? 5).map (fun i => (i.zero, i.size, i.bytes)) = some (some (.int .u8 0), 1, 1) := by kernel_rfl
/-- What Clone hands back: a row of the call's own. -/
def RetU (L : List UInt8) (W : World) (e : Ending) (w' : World) : Prop := ∃ p cap, e = .returned (.slice p L.length cap) ∧ RdU w' w'.heap.size p L.length cap L ∧ Below W.heap.size W w' ∧ ∀ x, p = some x → W.heap.size ≤ x.block
theorem u8_flat (L : List UInt8) : L.flatMap u8E = L.map fun c => Value.int .u8 (c.toNat : Nat) := by
  induction L with
  | nil => rfl
  | cons c L ih => rw [List.flatMap_cons, ih]; rfl
theorem RdU.of_own {w : World} {base : Nat} {e : TypeId} {v : Value} {n : Nat} {L : List UInt8} (hn : L.length = n) (h : w.ownsRow base e 1 v n (L.map fun c => Value.int .u8 (c.toNat : Nat))) : ∃ p cap, v = .slice p n cap ∧ RdU w w.heap.size p n cap L ∧ ∀ x, p = some x → base ≤ x.block := by
  rw [← u8_flat] at h
  obtain ⟨p, cap, hv, h1, h2, h3, h4⟩ := RdG.of_own (enc := u8E) (sz := 1) (fun _ => rfl) hn h
  rcases h4 with h4 | ⟨r, h4, h5, h6⟩
  · rw [hv] at h4
    injection h4 with h4 h5 h6
    subst h4
    subst h5
    subst h6
    exact ⟨none, 0, hv, ⟨hn, Nat.le_refl _, Nat.zero_le _, .inl ⟨rfl, rfl, rfl⟩⟩, fun x hx => by cases hx⟩
  · subst h4
    refine ⟨_, cap, hv, ⟨hn, h1, h2, .inr ⟨r, 0, rfl, h6, h6, fun j hj => ?_⟩⟩, fun x hx => by cases hx; exact h5⟩
    rcases h3.2 with h7 | ⟨b, off, h7, h8, h9⟩
    · omega
    · cases h7
      have hx : L[j]? = some (L.getD j 0) := by simp [List.getD, List.getElem?_eq_getElem (show j < L.length by omega)]
      have := h9 j _ hx 0 _ rfl
      rw [Nat.mul_one, Nat.add_zero] at this
      exact this
/-- append(v, src...), v the call's own bytes, src whatever reads as bytes. -/
theorem wpList_append_u {P : Program} (w : World) {ops : Array Oper} {rest : List Oper} {o : Oper} {a : Act} {Q : Exit → Act → World → Prop} (hgd : o.guard = none) (s x : Operand) (t : TypeId)
    (ho : o.op = .call { callee := .builtin .append, args := #[s, x], argTypes := #[t, t] })
    (base Bd : Nat) (e : TypeId) (i : TypeInfo) (ht : P.underlying t = some (.slice e)) (hi : P.info? e = some i) (hz : i.zero = some (.int .u8 0))
    (hsize : i.size = 1) (hby : i.bytes = 1) (v : Value) (n : Nat) (L : List UInt8) (hs : a.eval s = v) (hown : w.ownsRow base e 1 v n (L.map fun c => Value.int .u8 (c.toNat : Nat)))
    (q : Option Addr) (m cap : Nat) (B : List UInt8) (hx : a.eval x = .slice q m cap) (hB : RdU w Bd q m cap B) (h63 : n + m ≤ 1000000) (hbase : base ≤ w.heap.size)
    (h : ∀ v' w', w'.ownsRow base e 1 v' (n + m) ((L ++ B).map fun c => Value.int .u8 (c.toNat : Nat)) → w.grownBy w' v.ownBlock → wpList P ops Q rest (a.put o.dst v') w') : wpList P ops Q (o :: rest) a w := by
  obtain ⟨h1, h2, h3, h5⟩ := hB
  rcases h5 with ⟨rfl, rfl, rfl⟩ | ⟨b, off, rfl, h6, h7, h8⟩
  · have : B = [] := List.eq_nil_of_length_eq_zero h1
    subst this
    exact wpList_append_own_none hgd s x t ho base e i 1 ht hi v n _ hs hown hx (h v w (by simpa using hown) ⟨rfl, rfl, rfl, Nat.le_refl _, fun _ _ _ => rfl⟩)
  · refine wpList_append_own w hgd s x t ho base e i (.int .u8 0) 1 1 ht hi hz hsize hby rfl (by decide) v n _ hs hown ⟨b, off, none⟩ m cap (B.map fun c => Value.int .u8 (c.toNat : Nat)) hx (by simp [h1]) ?_ ?_ (by unfold maxLen; omega) (by omega) hbase (fun v' w' r1 r2 _ => h v' w' (by simpa using r1) r2)
    · intro j u hj
      have hjl : j < B.length := by
        rcases Nat.lt_or_ge j B.length with h' | h'
        · exact h'
        · simp [h'] at hj
      have hj2 : some (Value.int .u8 ((B.getD j 0).toNat : Nat)) = some u := by rw [← hj]; simp [List.getD, hjl]
      rw [← hj2, Addr.add_mid]
      exact h8 j (by omega)
    · intro u hu
      simp only [List.mem_map] at hu
      obtain ⟨d, _, rfl⟩ := hu
      rfl
set_option maxRecDepth 100000 in
set_option maxHeartbeats 1000000 in
theorem clone_u (p : Option Addr) (n cap B : Nat) (L : List UInt8) (hn : n ≤ 100000) (w : World) (hL : RdU w B p n cap L) :
    Calls Tryd.prog 54 #[.slice p n cap] w (RetU L w) := by
  obtain ⟨i0, hi, hz0, hz1, hz2⟩ := info_parts infou8
  have hq := fun (w : World) (a : Option Addr) (n c : Nat) => Lib.run_eql_slice_nil (P := Tryd.prog) w 42 5 a n c 0 0 Tryd.underlying42
  have HL := Lib.hid hL
  obtain ⟨hl, hnc, hcm, hcs⟩ := hL
  unfold maxLen at hcm
  have HLL := Lib.hid hl
  clear hl
  rcases hcs with ⟨rfl, rfl, rfl⟩ | ⟨b, off, rfl, h6, h7, h8⟩
  · have hnil : L = [] := List.eq_nil_of_length_eq_zero HLL.out
    subst hnil
    clear hnc hcm
    go_enter Tryd.func54, Tryd.ntmps54
    go_wp2_with fail
    go_ret
    exact ⟨none, 0, rfl, ⟨rfl, Nat.le_refl _, Nat.zero_le _, .inl ⟨rfl, rfl, rfl⟩⟩, Below.refl _ _, fun x hx => by cases hx⟩
  · clear h8
    go_enter Tryd.func54, Tryd.ntmps54
    go_wp2_with (at_builtin; refine wpList_append_u _ rfl (.tmp 5) (.tmp 6) 42 rfl w.heap.size B 5 i0 Tryd.underlying42 hi hz0 hz1 hz2 _ 0 [] rfl (World.ownsRow_made w #[] 0 (Nat.le_refl _) (by unfold maxLen; omega) rfl) _ n cap L rfl (HL.out.below ((Below.refl _ _).alloc (Nat.le_refl _) _)) (by omega) (by simp) ?_; intro v' w' hown hgr)
    go_ret
    obtain ⟨p', c', rfl, hr, hfz⟩ := RdU.of_own (n := L.length) rfl (by rw [HLL.out]; simpa using hown)
    exact ⟨p', c', by simp [HLL.out], hr, ((Below.refl _ _).alloc (Nat.le_refl _) _).grown hgr (by simp) (fun k hk => by cases hk; exact Nat.le_refl _), hfz⟩
theorem RdU.off_ne {w w' : World} {B : Nat} {p : Option Addr} {n cap : Nat} {L : List UInt8} (h : RdU w B p n cap L) {b : Nat} (ho : Off b w w') (hb : ∀ x, p = some x → x.block ≠ b) : RdU w' B p n cap L := by
  obtain ⟨h1, h2, h3, h4⟩ := h
  refine ⟨h1, h2, h3, ?_⟩
  rcases h4 with h4 | ⟨c, off, h5, h6, h7, h8⟩
  · exact .inl h4
  · refine .inr ⟨c, off, h5, h6, Nat.lt_of_lt_of_le h7 ho.size, fun j hj => ?_⟩
    rw [← h8 j hj]
    unfold World.cell?
    rw [ho.block c h7 (hb _ h5)]
theorem RdU.mono {w : World} {B B' : Nat} {p : Option Addr} {n cap : Nat} {L : List UInt8} (h : RdU w B p n cap L) (hB : B ≤ B') : RdU w B' p n cap L := by
  obtain ⟨h1, h2, h3, h4⟩ := h
  refine ⟨h1, h2, h3, ?_⟩
  rcases h4 with h4 | ⟨c, off, h5, h6, h7, h8⟩
  · exact .inl h4
  · exact .inr ⟨c, off, h5, by omega, h7, h8⟩
theorem RdU.conv {B : Nat} {w : World} {p : Option Addr} {n c : Nat} {L : List UInt8} (h : RdU w B p n c L) : (convert 42 9 (.slice p n c)).run Tryd.prog w = .ok (.string ⟨L.toArray⟩) w := by
  obtain ⟨hl, h2, h3, ⟨rfl, rfl, rfl⟩ | ⟨b, off, rfl, h6, h7, h8⟩⟩ := h
  · have : L = [] := List.eq_nil_of_length_eq_zero hl
    subst this
    exact run_convert_bytes_nil w 42 5 Tryd.underlying42 Tryd.underlying5 0 0 9 Tryd.underlying9
  · subst hl
    exact run_convert_bytes_back w 42 9 5 ⟨b, off, none⟩ c L Tryd.underlying42 Tryd.underlying5 Tryd.underlying9 (fun j hj => by
      rw [Addr.add_mid, h8 j hj]
      simp [List.getD, hj])
def bytR (S : Option (List UInt8)) : List UInt8 × Option (List UInt8) := match S with
  | none => ([], none)
  | some L => match bytD L with
    | none => ([], none)
    | some (x, r) => (x, some r)
def BytP (b : Nat) (R : List UInt8 × Option (List UInt8)) (w : World) (e : Ending) (w' : World) : Prop := ∃ p cap, e = .returned (.slice p R.1.length cap) ∧ RdU w' w'.heap.size p R.1.length cap R.1 ∧ Rdr w' b R.2 ∧ Off b w w'
theorem bytR_is (S : Option (List UInt8)) : bytR S = match intR 65536 S with
    | (n, none) => ([], none)
    | (n, some r) => if r.length < n then ([], none) else (r.take n, some (r.drop n)) := by
  cases S with
  | none => rfl
  | some L =>
    show (match bytD L with | none => ([], none) | some (x, r) => (x, some r) : List UInt8 × Option (List UInt8)) = match (match intD 65536 L with | none => (0, none) | some (v, r) => (v, some r) : Nat × Option (List UInt8)) with | (n, none) => ([], none) | (n, some r) => if r.length < n then ([], none) else (r.take n, some (r.drop n))
    unfold bytD
    cases intD 65536 L with
    | none => rfl
    | some x =>
      obtain ⟨v, r⟩ := x
      by_cases h : r.length < v
      · simp [h]
      · simp [h]
theorem intR_le (most : Nat) (S : Option (List UInt8)) : (intR most S).1 ≤ most := by
  rw [intR_is]
  split
  · exact Nat.zero_le _
  · omega
theorem intR_bad (most : Nat) (S : Option (List UInt8)) (h : (intR most S).2 = none) : (intR most S).1 = 0 := by
  cases S with
  | none => rfl
  | some L =>
    unfold intR at h ⊢
    simp only [] at h ⊢
    cases hi : intD most L with
    | none => rfl
    | some x =>
      obtain ⟨v, r⟩ := x
      rw [hi] at h
      cases h
set_option maxRecDepth 100000 in
set_option maxHeartbeats 4000000 in
theorem bytes_any (b : Nat) (S : Option (List UInt8)) (w : World) (h : Rdr w b S) (R : List UInt8 × Option (List UInt8)) (hR : bytR S = R) :
    Calls Tryd.prog 42 #[.pointer (some ⟨b, 0, none⟩)] w (BytP b R w) := by
  have HN := Lib.hid (int_any b S 65536 (by omega) w h (intR 65536 S) rfl)
  have hle := intR_le 65536 S
  have hbd := intR_bad 65536 S
  have HR : Hid ((match intR 65536 S with | (n, none) => ([], none) | (n, some r) => if r.length < n then ([], none) else (r.take n, some (r.drop n)) : List UInt8 × Option (List UInt8)) = R) := by unfold Hid; rw [← hR, bytR_is]
  clear hR h
  obtain ⟨⟨v, T⟩, hv⟩ : ∃ x, intR 65536 S = x := ⟨_, rfl⟩
  rw [hv] at HN HR hle hbd
  have hvl : v ≤ 65536 := hle
  clear hle hv
  go_enter Tryd.func42, Tryd.ntmps42
  go_wp2_with fail
  refine HN.out.mono ?_
  rintro e w1 ⟨rfl, hrd, hoff⟩
  have HOF := Lib.hid hoff
  obtain ⟨p, n, cap, bad, hbl, hrd⟩ := hrd
  have HBL := Lib.hid hbl
  have c0 : w1.cell? ⟨b, 0, none⟩ = some (.slice p n cap) := hbl.cell 0 _ rfl
  have f0 := hbl.fz 0
  clear hbl hoff HN
  cases T with
  | none =>
    obtain rfl : v = 0 := hbd rfl
    obtain ⟨rfl, rfl, rfl, rfl⟩ := hrd
    have HR2 : Hid ((([], none) : List UInt8 × Option (List UInt8)) = R) := HR.out
    have HRU : Hid (RdU w1 b none 0 0 []) := ⟨rfl, Nat.le_refl _, Nat.zero_le _, .inl ⟨rfl, rfl, rfl⟩⟩
    clear HR hbd
    go_wp2_with fail
    refine (clone_u none 0 0 b [] (by omega) _ HRU.out).mono ?_
    rintro e w2 ⟨p2, cap2, rfl, hru, hb2, hnew⟩
    have HR3 := Lib.hid hru
    have HBL2 := Lib.hid (HBL.out.below hb2)
    have HO2 : Hid (Off b w w2) := HOF.out.call hb2
    have hbw : b < w1.heap.size := lt_some HBL.out
    have hne := Lib.hid (fun x hx => Nat.ne_of_gt (Nat.lt_of_lt_of_le hbw (hnew x hx)))
    have c0 : w2.cell? ⟨b, 0, none⟩ = some (.slice none 0 0) := HBL2.out.cell 0 _ rfl
    have f0 := HBL2.out.fz 0
    clear hru hb2 hnew hbw HRU
    go_wp2_with fail
    go_ret
    rw [← HR2.out]
    exact ⟨p2, cap2, rfl, (HR3.out.off_ne ((Off.refl b w2).set 0 _) hne.out).mono (by simp [World.setCell]), ⟨none, 0, 0, true, block_setCell HBL2.out _, rfl, rfl, rfl, rfl⟩, HO2.out.set _ _⟩
  | some r =>
    obtain ⟨rfl, hL, hru⟩ := hrd
    have HRU := Lib.hid hru
    have hrl : r.length = n := hru.1
    have hnc : n ≤ cap := hru.2.1
    have hcm : cap ≤ maxLen := hru.2.2.1
    unfold maxLen at hcm
    rw [hrl] at hL
    have HRL := Lib.hid hrl
    clear hru hrl hbd
    by_cases hvn : n < v
    · have hvi : (n : Int) < (v : Int) := by omega
      have HR2 : Hid ((([], none) : List UInt8 × Option (List UInt8)) = R) := by
        unfold Hid
        rw [← HR.out]
        exact (if_pos (by rw [HRL.out]; exact hvn)).symm
      clear HR hvn
      go_wp2_with fail
      refine (spoil_any b _ false _ HBL.out).mono ?_
      rintro e w2 ⟨rfl, hrd, hoff⟩
      have HRD := Lib.hid hrd
      have HO2 : Hid (Off b w w2) := HOF.out.trans hoff
      clear hrd hoff
      go_wp2_with fail
      go_ret
      rw [← HR2.out]
      exact ⟨none, 0, rfl, ⟨rfl, Nat.le_refl _, Nat.zero_le _, .inl ⟨rfl, rfl, rfl⟩⟩, HRD.out, HO2.out⟩
    · have hvi : ¬ (n : Int) < (v : Int) := by omega
      have HR2 : Hid (((r.take v, some (r.drop v)) : List UInt8 × Option (List UInt8)) = R) := by
        unfold Hid
        rw [← HR.out]
        exact (if_neg (by rw [HRL.out]; exact hvn)).symm
      have hvc : (v : Int) ≤ (cap : Int) := by omega
      have hvn2 : (v : Int) ≤ (n : Int) := by omega
      have HTK := Lib.hid (HRU.out.take v (by omega))
      have htl : (r.take v).length = v := by rw [List.length_take, HRL.out]; omega
      have HTL := Lib.hid htl
      have hdl : (r.drop v).length ≤ 100000 := by rw [List.length_drop, HRL.out]; omega
      have HDL := Lib.hid hdl
      clear HR hvn htl hdl
      go_wp2_with fail
      refine (clone_u p v cap b (r.take v) (by omega) _ HTK.out).mono ?_
      rintro e w2 ⟨p2, cap2, rfl, hru, hb2, hnew⟩
      rw [HTL.out] at hru ⊢
      have HR3 := Lib.hid hru
      have HBL2 := Lib.hid (HBL.out.below hb2)
      have HO2 : Hid (Off b w w2) := HOF.out.call hb2
      have HRU2 := Lib.hid (HRU.out.below hb2)
      have hbw : b < w1.heap.size := lt_some HBL.out
      have hne := Lib.hid (fun x hx => Nat.ne_of_gt (Nat.lt_of_lt_of_le hbw (hnew x hx)))
      have c0 : w2.cell? ⟨b, 0, none⟩ = some (.slice p n cap) := HBL2.out.cell 0 _ rfl
      have f0 := HBL2.out.fz 0
      clear hru hb2 hnew hbw HRU HTK
      have hcases := HRU2.out.2.2.2
      rcases hcases with ⟨rfl, rfl, rfl⟩ | ⟨b', off, rfl, _, _, _⟩
      · obtain rfl : v = 0 := by omega
        go_wp2_with fail
        go_ret
        rw [← HR2.out]
        refine ⟨p2, cap2, by rw [HTL.out]; rfl, by rw [HTL.out]; exact (HR3.out.off_ne ((Off.refl b w2).set 0 _) hne.out).mono (by simp [World.setCell]), ⟨none, 0, 0, false, block_setCell HBL2.out _, rfl, HDL.out, ?_⟩, HO2.out.set _ _⟩
        exact ⟨by rw [List.length_drop, HRL.out], Nat.le_refl _, Nat.zero_le _, .inl ⟨rfl, rfl, rfl⟩⟩
      · by_cases hce : cap = v
        · subst hce
          have hnv : n = cap := by omega
          subst hnv
          have HDR : Hid (RdU w2 b (some ⟨b', off, none⟩) 0 0 (r.drop n)) := by
            have := HRU2.out.drop n (Nat.le_refl _) off (.inr rfl)
            rw [Nat.sub_self] at this
            exact this
          go_wp2_with fail
          go_ret
          rw [← HR2.out]
          exact ⟨p2, cap2, by rw [HTL.out]; rfl, by rw [HTL.out]; exact (HR3.out.off_ne ((Off.refl b w2).set 0 _) hne.out).mono (by simp [World.setCell]), ⟨_, 0, 0, false, block_setCell HBL2.out _, rfl, HDL.out, HDR.out.off ((Off.refl b w2).set 0 _) (Nat.le_refl _)⟩, HO2.out.set _ _⟩
        · have hvl2 : (v : Int) < (cap : Int) := by omega
          have HDR := Lib.hid (HRU2.out.drop v (by omega) (off + v) (.inl rfl))
          clear hce
          go_wp2_with fail
          go_ret
          rw [← HR2.out]
          exact ⟨p2, cap2, by rw [HTL.out]; rfl, by rw [HTL.out]; exact (HR3.out.off_ne ((Off.refl b w2).set 0 _) hne.out).mono (by simp [World.setCell]), ⟨_, _, _, false, block_setCell HBL2.out _, rfl, HDL.out, HDR.out.off ((Off.refl b w2).set 0 _) (Nat.le_refl _)⟩, HO2.out.set _ _⟩
def TxtP (b : Nat) (R : List UInt8 × Option (List UInt8)) (w : World) (e : Ending) (w' : World) : Prop := e = .returned (.string ⟨R.1.toArray⟩) ∧ Rdr w' b R.2 ∧ Off b w w'
theorem rtext_any (b : Nat) (S : Option (List UInt8)) (w : World) (h : Rdr w b S) (R : List UInt8 × Option (List UInt8)) (hR : bytR S = R) :
    Calls Tryd.prog 27 #[.pointer (some ⟨b, 0, none⟩)] w (TxtP b R w) := by
  have HN := Lib.hid (bytes_any b S w h R hR)
  clear h hR
  go_enter Tryd.func27, Tryd.ntmps27
  go_wp2_with fail
  refine HN.out.mono ?_
  rintro e w1 ⟨p, cap, rfl, hru, hrd, hoff⟩
  have hcv := hru.conv
  have HRD := Lib.hid hrd
  have HOF := Lib.hid hoff
  clear hru hrd hoff HN
  go_wp2_with fail
  go_ret
  exact ⟨rfl, HRD.out, HOF.out⟩
end Go.Proofs.YtljloggbfmnjmaaDoor
