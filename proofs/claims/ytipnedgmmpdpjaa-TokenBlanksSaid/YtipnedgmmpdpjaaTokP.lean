/- The walk of TokenBlanks. -/
import Derived.Test.YtipnedgmmpdpjaaTokO
import Derived.StillTailTactics
import Derived.Deep.RegionLaw
import Derived.OpenShut
import Derived.ChangeSlices
import Derived.Deep.Slices
import Derived.ChangeSame
import Derived.Deep.AppendLies
set_option linter.unusedSimpArgs false
set_option linter.unusedVariables false
namespace Go.Proofs.Ytipnedgmmpdpjaa
open Go.RowKit Go.ChangeShapes Go.WideShapes

theorem u8_wf {n : Int} (h : (Lit.int .u8 n).wf = true) : 0 ≤ n ∧ n ≤ 255 := by
  have h1 : IntKind.u8.min ≤ n ∧ n ≤ IntKind.u8.max := by simpa only [Lit.wf, Bool.and_eq_true, decide_eq_true_eq] using h
  have e1 : IntKind.u8.min = 0 := by decide
  have e2 : IntKind.u8.max = 255 := by decide
  rw [e1, e2] at h1
  exact h1

/-- The slice's parts read as the bytes. -/
def RdM (w : World) (A : Option Addr) (n cap : Nat) (B : List UInt8) : Prop := B.length = n ∧ n ≤ cap ∧ cap ≤ maxLen ∧ (n = 0 ∨ ∃ b o, A = some ⟨b, o, none⟩ ∧ b < w.heap.size ∧ ∀ j, j < n → w.cell? ⟨b, o + j, none⟩ = some (.int .u8 (nx B j : Int)))
theorem RdM.below {w w' : World} {A : Option Addr} {n cap : Nat} {B : List UInt8} (h : RdM w A n cap B) (hb : Below w.heap.size w w') : RdM w' A n cap B := by
  obtain ⟨h1, h2, h3, h4⟩ := h
  refine ⟨h1, h2, h3, ?_⟩
  rcases h4 with h4 | ⟨b, o, h5, h6, h7⟩
  · exact .inl h4
  · exact .inr ⟨b, o, h5, Nat.lt_of_lt_of_le h6 hb.size, fun j hj => (hb.cell (p := ⟨b, o + j, none⟩) h6).trans (h7 j hj)⟩

/-- The places of the tokens rise. -/
def Srt (N : Nat) : Nat → List Tk → Prop
  | a, [] => a ≤ N
  | a, (_, _, b) :: r => a ≤ b ∧ b ≤ N ∧ Srt N b r
theorem srt_of (L : List UInt8) : ∀ (Ts : List Tk) (i : Nat), i ≤ L.length → spl L i = (some Ts, 0) → Srt L.length i Ts := by
  intro Ts
  induction Ts with
  | nil => intro i hi _; exact hi
  | cons T r ih =>
    intro i hi h
    obtain ⟨k, t, b⟩ := T
    obtain ⟨h1, h2, _, n, ht, hs⟩ := spl_head L _ i rfl _ _ h
    have hp := tok_pos h2 ht
    have := ih (b + n) hp.2.1 hs
    refine ⟨h1, by omega, ?_⟩
    cases r with
    | nil => show b ≤ L.length; omega
    | cons T2 r2 =>
      obtain ⟨k2, t2, b2⟩ := T2
      obtain ⟨g1, g2, g3⟩ := this
      exact ⟨by omega, g2, g3⟩
theorem out_len (L B : List UInt8) : ∀ (Ts : List Tk) (a i : Nat), Srt L.length a Ts → (outR L B a Ts i).length ≤ L.length - a + 4 * (Ts.length + 1) := by
  intro Ts
  induction Ts with
  | nil => intro a i h; have : blk B i < 4 := Nat.mod_lt _ (by omega); simp [outR]; omega
  | cons T r ih =>
    intro a i h
    obtain ⟨k, t, b⟩ := T
    obtain ⟨h1, h2, h3⟩ := h
    have := ih b (i + 1) h3
    have : blk B i < 4 := Nat.mod_lt _ (by omega)
    simp [outR]
    omega

/-- Where the loop stands ahead of round i. -/
def St (L B : List UInt8) (Ts : List Tk) (FT : List UInt8) (FW : List Tk) (i a : Nat) (T : List UInt8) (acc : List Tk) : Prop :=
  T.length ≤ FT.length ∧ acc.length ≤ FW.length ∧ a ≤ L.length ∧ ((i ≤ Ts.length ∧ T ++ outR L B a (Ts.drop i) i = FT ∧ acc ++ wantR B T.length a (Ts.drop i) i = FW ∧ Srt L.length a (Ts.drop i)) ∨ (Ts.length < i ∧ T = FT ∧ acc = FW))
theorem st_mid {L B : List UInt8} {Ts : List Tk} {FT : List UInt8} {FW : List Tk} {i a : Nat} {T : List UInt8} {acc : List Tk} (h : St L B Ts FT FW i a T acc) {k : Int} {t : List UInt8} {b : Nat} (hx : Ts[i]? = some (k, t, b)) :
    a ≤ b ∧ b ≤ L.length ∧ St L B Ts FT FW (i + 1) b (T ++ (L.drop a).take (b - a) ++ List.replicate (blk B i) 32) (acc ++ [(k, t, (T ++ (L.drop a).take (b - a) ++ List.replicate (blk B i) 32).length)]) := by
  have hi := (List.getElem?_eq_some_iff.1 hx).1
  have hd : Ts.drop i = (k, t, b) :: Ts.drop (i + 1) := by
    rw [List.drop_eq_getElem_cons hi]
    congr 1
    rw [List.getElem?_eq_getElem hi] at hx
    exact Option.some.inj hx
  obtain ⟨_, _, h0, ⟨_, h1, h2, h3⟩ | ⟨h1, _⟩⟩ := h
  · rw [hd] at h1 h2 h3
    obtain ⟨g1, g2, g3⟩ := h3
    have e1 : T ++ (L.drop a).take (b - a) ++ List.replicate (blk B i) 32 ++ outR L B b (Ts.drop (i + 1)) (i + 1) = FT := by rw [← h1]; simp [outR]
    have hl : (T ++ (L.drop a).take (b - a) ++ List.replicate (blk B i) (32 : UInt8)).length = T.length + (b - a) + blk B i := by simp; omega
    have e2 : acc ++ [(k, t, (T ++ (L.drop a).take (b - a) ++ List.replicate (blk B i) (32 : UInt8)).length)] ++ wantR B (T ++ (L.drop a).take (b - a) ++ List.replicate (blk B i) (32 : UInt8)).length b (Ts.drop (i + 1)) (i + 1) = FW := by
      rw [hl, ← h2, wantR_cons]
      simp
    exact ⟨g1, g2, by rw [← e1]; simp, by rw [← e2]; simp, g2, .inl ⟨hi, e1, e2, g3⟩⟩
  · omega
theorem st_last {L B : List UInt8} {Ts : List Tk} {FT : List UInt8} {FW : List Tk} {a : Nat} {T : List UInt8} {acc : List Tk} (h : St L B Ts FT FW Ts.length a T acc) :
    a ≤ L.length ∧ St L B Ts FT FW (Ts.length + 1) L.length (T ++ (L.drop a).take (L.length - a) ++ List.replicate (blk B Ts.length) 32) acc := by
  obtain ⟨_, _, h0, ⟨_, h1, h2, h3⟩ | ⟨h1, _⟩⟩ := h
  · rw [List.drop_length] at h1 h2 h3
    have e1 : T ++ (L.drop a).take (L.length - a) ++ List.replicate (blk B Ts.length) 32 = FT := by
      rw [← h1]
      unfold outR
      rw [List.take_of_length_le (by simp), List.append_assoc]
    have e2 : acc = FW := by rw [← h2]; simp [wantR]
    exact ⟨h0, by rw [e1]; exact Nat.le_refl _, by rw [e2]; exact Nat.le_refl _, Nat.le_refl _, .inr ⟨by omega, e1, e2⟩⟩
  · omega
theorem st_first (L B : List UInt8) (Ts : List Tk) (hs : Srt L.length 0 Ts) : St L B Ts (outR L B 0 Ts 0) (wantR B 0 0 Ts 0) 0 0 [] [] :=
  ⟨by simp, by simp, by omega, .inl ⟨by omega, by simp, by simp, by simpa using hs⟩⟩
theorem st_done {L B : List UInt8} {Ts : List Tk} {FT : List UInt8} {FW : List Tk} {a : Nat} {T : List UInt8} {acc : List Tk} (h : St L B Ts FT FW (Ts.length + 1) a T acc) : T = FT ∧ acc = FW := by
  obtain ⟨_, _, _, ⟨h1, _⟩ | ⟨_, h1, h2⟩⟩ := h
  · omega
  · exact ⟨h1, h2⟩
theorem rep_snoc (T : List UInt8) (k : Nat) : (⟨(T ++ List.replicate k 32).toArray⟩ : ByteArray) ++ ⟨#[32]⟩ = ⟨(T ++ List.replicate (k + 1) 32).toArray⟩ := by
  rw [show (⟨#[32]⟩ : ByteArray) = ⟨[32].toArray⟩ from rfl, cat2, List.append_assoc, List.replicate_succ']
set_option maxRecDepth 100000 in
set_option maxHeartbeats 4000000 in
/-- The loop, and what stands behind it. -/
theorem blanks_core (s : ByteArray) (A : Option Addr) (ml mc : Nat) (B : List UInt8) (hs : s.size ≤ 300) (hml : ml ≤ 300) (Ts : List Tk) (w : World) (hB : RdM w A ml mc B) (hR : spl s.data.toList 0 = (some Ts, 0)) :
    Calls Try.prog 4 #[.string s, .slice A ml mc] w fun e w' => e = .returned (.bool true) ∧ Below w.heap.size w w' := by
  obtain ⟨i0, hi, hz0, hz1', hz2⟩ := info_parts info_rk
  obtain ⟨L, hL⟩ : ∃ L, s.data.toList = L := ⟨_, rfl⟩
  have hLs : s.size = L.length := by rw [Lib.size_eq, hL]
  have HSEG := Lib.hid (fun a b n (h : b = a + n) => ext_list s a b n h)
  rw [hL] at hR HSEG
  have HSPL := Lib.hid (spl_more L B Ts 0 hR)
  have hsrt := srt_of L Ts 0 (by omega) hR
  have hnT : Ts.length ≤ 300 := by have := spl_len L 0 Ts 0 hR; omega
  obtain ⟨FT, hFT⟩ : ∃ FT, outR L B 0 Ts 0 = FT := ⟨_, rfl⟩
  obtain ⟨FW, hFW⟩ : ∃ FW, wantR B 0 0 Ts 0 = FW := ⟨_, rfl⟩
  have hFTl : FT.length ≤ 2000 := by have := out_len L B Ts 0 0 hsrt; rw [hFT] at this; omega
  have hSt := st_first L B Ts hsrt
  rw [hFT, hFW] at hSt HSPL
  have hFWl : FW.length ≤ 2000 := by have := spl_len FT 0 FW 0 HSPL.out; omega
  have HST := Lib.hid hSt
  have HRS := Lib.hid (show spl s.data.toList 0 = (some Ts, 0) by rw [hL]; exact hR)
  obtain ⟨n, hn⟩ : ∃ n, Ts.length = n := ⟨_, rfl⟩
  have HLS := Lib.hid hLs
  have HLN := Lib.hid hn
  have HB := Lib.hid hB
  have HBL0 := Lib.hid hB.1
  have hmc1 := hB.2.1
  have hmc2 := hB.2.2.1
  unfold maxLen at hmc2
  have hs' : (s.size : Int) ≤ 300 := by omega
  have hml' : (ml : Int) ≤ 300 := by omega
  clear hL hR hsrt hFT hFW hSt hB hLs
  rw [hn] at hnT
  clear hn
  go_enter Try.func4, Try.ntmps4
  go_wp2_with fail
  refine (refSplit_any s _ (by omega) HRS.out _).mono ?_
  rintro e w1 ⟨hb1, p, cap, rfl, hr⟩
  rw [HLN.out] at hr ⊢
  have HR1 := Lib.hid hr
  have hz1 := hb1.size
  have HB1 := Lib.hid hb1
  have hr2 := hr.2.1
  have hr3 := hr.2.2.1
  unfold maxLen at hr3
  clear hr hb1
  go_wp2_with fail
  go_loopw [8, 9, 10, 11, 12, 13] (fun tx av v iv _ _ wr => ∃ (i a : Nat) (T : List UInt8) (acc : List Tk), iv = .int .i64 i ∧ i ≤ n + 1 ∧ av = .int .i64 a ∧ tx = .string ⟨T.toArray⟩ ∧ St L B Ts FT FW i a T acc ∧ wr.ownsRow w1.heap.size tRk 3 v acc.length (acc.flatMap tkc) ∧ Below w1.heap.size w1 wr) (fun _ _ _ iv _ _ _ => n + 1 - (intOf iv).toNat)
  case atStart => exact ⟨0, 0, [], [], rfl, by omega, rfl, rfl, HST.out, World.ownsRow_nil _ _ _ _, Below.refl _ _⟩
  case round =>
    rename_i wr
    obtain ⟨i, a, T, acc, rfl, hin, rfl, rfl, hst, hown, hbel⟩ := hrel
    obtain ⟨wo, hwo⟩ : ∃ wo : World, wo = wr := ⟨_, rfl⟩
    subst hwo
    have HOWN := Lib.hid hown
    have HBEL := Lib.hid hbel
    have hzo := hbel.size
    have hTl := hst.1
    have hal := hst.2.1
    have haL := hst.2.2.1
    have HST1 := Lib.hid hst
    clear hst hown hbel HST
    obtain ⟨y, hy⟩ : ∃ y, nx B i = y := ⟨_, rfl⟩
    have hy256 : y < 256 := by rw [← hy]; exact nx_lt _ _
    obtain ⟨c, hc⟩ : ∃ c, blk B i = c := ⟨_, rfl⟩
    have hcy : c = y % 4 := by rw [← hc, ← hy]; rfl
    have hc4 : c < 4 := by omega
    have HCY := Lib.hid hcy
    have HCC := Lib.hid hc
    have HY := Lib.hid hy
    clear hcy hc hy
    have HBo := Lib.hid (HB.out.below (HB1.out.trans (HBEL.out.mono hz1)))
    have HRo := Lib.hid (HR1.out.below HBEL.out)
    rcases Nat.lt_or_ge i n with hiN | hiN
    · rcases Nat.lt_or_ge i ml with hm | hm
      · have hiT : i < Ts.length := by rw [HLN.out]; exact hiN
        obtain ⟨⟨kd, tx, b⟩, hT⟩ : ∃ T, Ts[i]? = some T := ⟨Ts[i], List.getElem?_eq_getElem hiT⟩
        have HST2 := Lib.hid (st_mid HST1.out hT)
        have hab := HST2.out.1
        have hbL := HST2.out.2.1
        obtain ⟨lb, hlp, hlb, f1, f2, f3⟩ : ∃ lb, p = some ⟨lb, 0, none⟩ ∧ lb < wo.heap.size ∧ wo.cell? ⟨lb, i * 3, none⟩ = some (.int .i64 kd) ∧ wo.cell? ⟨lb, i * 3 + 1, none⟩ = some (.string ⟨tx.toArray⟩) ∧ wo.cell? ⟨lb, i * 3 + 2, none⟩ = some (.int .i64 (b : Int)) := by
          rcases HRo.out.2.2.2 with ⟨_, h0, _⟩ | ⟨lb, h1, h2, h3⟩
          · omega
          · obtain ⟨g1, g2, g3⟩ := h3 i _ hT
            exact ⟨lb, h1, h2, g1, g2, g3⟩
        subst hlp
        have hiN' : (i : Int) < (n : Int) := by omega
        have hiN2 : (i : Int) ≤ (n : Int) := by omega
        have hbs : b ≤ s.size := by have := HLS.out; omega
        obtain ⟨T1, hT1⟩ : ∃ T1, T ++ (L.drop a).take (b - a) = T1 := ⟨_, rfl⟩
        rw [hT1] at HST2
        have HTX : Hid ((⟨T.toArray⟩ : ByteArray) ++ s.extract a b = ⟨T1.toArray⟩) := by unfold Hid; rw [HSEG.out a b (b - a) (by omega), cat2, hT1]
        have HT1 : Hid (T1.length ≤ 3000) := by unfold Hid; rw [← hT1]; simp; omega
        have hzT : (⟨T.toArray⟩ : ByteArray).size ≤ 100000 := by rw [size_of]; omega
        have hzE : (s.extract a b).size ≤ 100000 := by rw [ByteArray.size_extract]; omega
        clear hT hT1 hiT
        have hmi : (i : Int) < (ml : Int) := by omega
        obtain ⟨mb, mo, hmA, hmb, hmcell⟩ : ∃ b o, A = some ⟨b, o, none⟩ ∧ b < wo.heap.size ∧ wo.cell? ⟨b, o + i, none⟩ = some (.int .u8 (y : Int)) := by
          rcases HBo.out.2.2.2 with h0 | ⟨b, o, h1, h2, h3⟩
          · omega
          · exact ⟨b, o, h1, h2, by rw [← HY.out]; exact h3 i hm⟩
        subst hmA
        go_wp2_with fail
        go_loopw [8, 13] (fun tx kk wx => ∃ k : Nat, kk = .int .i64 k ∧ k ≤ c ∧ tx = .string ⟨(T1 ++ List.replicate k 32).toArray⟩ ∧ wx = wo) (fun _ kk _ => 4 - (intOf kk).toNat)
        case atStart => exact ⟨0, rfl, by omega, by rw [HTX.out]; simp, rfl⟩
        case round =>
          obtain ⟨k, rfl, hkc, rfl, hwx⟩ := hrel
          have hwx2 := hwx.symm
          subst hwx2
          rcases Nat.lt_or_ge k c with hlt | hge
          · have hk4 : (k : Int) < (y : Int) % 4 := by have := HCY.out; omega
            have hzs : (⟨(T1 ++ List.replicate k 32).toArray⟩ : ByteArray).size ≤ 100000 := by have := HT1.out; rw [size_of]; simp; omega
            have hz1 : (⟨#[32]⟩ : ByteArray).size = 1 := rfl
            have HRP := Lib.hid (rep_snoc T1 k)
            go_wp2_with fail
            go_roundw
            case rel => exact ⟨k + 1, by go_num, by omega, by rw [← HRP.out], by first | rfl | trivial⟩
            case measure => simp [intOf]; omega
          · have hkc2 : k = c := by omega
            subst hkc2
            have hk4 : (y : Int) % 4 ≤ (k : Int) := by have := HCY.out; omega
            generalize hXX : (⟨(T1 ++ List.replicate k 32).toArray⟩ : ByteArray) = X
            have hXs : X.size = T1.length + k := by rw [← hXX, size_of]; simp
            have hX3 : X.size ≤ 100000 := by have := HT1.out; omega
            have HXX := Lib.hid hXX
            have HXS := Lib.hid hXs
            clear hXX hXs
            go_wp2_with fail
            go_region_law (refine step_append_lies _ (by rfl) _ _ _ (by rfl) w1.heap.size tRk i0 (.agg #[.int .i64 0, .string ⟨#[]⟩, .int .i64 0]) 3 32 Try.underlying27 hi hz0 hz1' hz2 rfl (by decide) _ acc.length (acc.flatMap tkc) (by rfl) (own_below HOWN.out (by (repeat' (first | (with_reducible exact Below.refl _ _) | (with_reducible assumption) | (with_reducible refine Below.alloc ?_ ?_ _) | (with_reducible refine bel_drewN ?_ _) | (with_reducible refine Below.drew ?_) | (with_reducible refine Below.setCell ?_ ?_ _) | (with_reducible refine bel_call ‹_› ?_ ?_) | go_size)))) _ 1 1 _ (by rfl) (by rfl) (news3 wo _ _ _ _) ?_ (by decide) ?_ ?_ ?_ _ (by rfl) ?_
                           · exact one3 (kd, tx, X.size)
                           · unfold maxLen; omega
                           · omega
                           · go_size
                           intro gg cap' w3 hown3 hgr3 hlies hlt3
                           have HO4 : Hid (w3.ownsRow w1.heap.size tRk 3 (.slice (some ⟨gg, 0, none⟩) (acc.length + 1) cap') (acc ++ [(kd, tx, X.size)]).length ((acc ++ [(kd, tx, X.size)]).flatMap tkc)) := (by unfold Hid; rw [tk_snoc, List.length_append]; exact hown3)
                           have hq9 : Below w1.heap.size w1 wo := HBEL.out
                           have hbl4 : Below w1.heap.size w1 w3 := (by refine Below.grown ?_ hgr3 ?_ (fun k hk => (HOWN.out.lt k hk).1); (· (repeat' (first | (with_reducible exact Below.refl _ _) | (with_reducible assumption) | (with_reducible refine Below.alloc ?_ ?_ _) | (with_reducible refine bel_drewN ?_ _) | (with_reducible refine Below.drew ?_) | (with_reducible refine Below.setCell ?_ ?_ _) | (with_reducible refine bel_call ‹_› ?_ ?_) | go_size))); (· go_size))
                           have HBL4 := Lib.hid hbl4
                           clear hq9 hbl4
                           clear hown3 hgr3 hlies)
            all_goals
              go_wp2_with fail
              go_roundw
              case rel => exact ⟨i + 1, b, T1 ++ List.replicate k 32, acc ++ [(kd, tx, X.size)], by go_num, by omega, rfl, by rw [HXX.out], by have := HST2.out.2.2; rw [HCC.out, List.length_append, List.length_replicate, ← HXS.out] at this; exact this, HO4.out, HBL4.out⟩
              case measure => simp [intOf]; omega
      · have hiT : i < Ts.length := by rw [HLN.out]; exact hiN
        obtain ⟨⟨kd, tx, b⟩, hT⟩ : ∃ T, Ts[i]? = some T := ⟨Ts[i], List.getElem?_eq_getElem hiT⟩
        have HST2 := Lib.hid (st_mid HST1.out hT)
        have hab := HST2.out.1
        have hbL := HST2.out.2.1
        obtain ⟨lb, hlp, hlb, f1, f2, f3⟩ : ∃ lb, p = some ⟨lb, 0, none⟩ ∧ lb < wo.heap.size ∧ wo.cell? ⟨lb, i * 3, none⟩ = some (.int .i64 kd) ∧ wo.cell? ⟨lb, i * 3 + 1, none⟩ = some (.string ⟨tx.toArray⟩) ∧ wo.cell? ⟨lb, i * 3 + 2, none⟩ = some (.int .i64 (b : Int)) := by
          rcases HRo.out.2.2.2 with ⟨_, h0, _⟩ | ⟨lb, h1, h2, h3⟩
          · omega
          · obtain ⟨g1, g2, g3⟩ := h3 i _ hT
            exact ⟨lb, h1, h2, g1, g2, g3⟩
        subst hlp
        have hiN' : (i : Int) < (n : Int) := by omega
        have hiN2 : (i : Int) ≤ (n : Int) := by omega
        have hbs : b ≤ s.size := by have := HLS.out; omega
        obtain ⟨T1, hT1⟩ : ∃ T1, T ++ (L.drop a).take (b - a) = T1 := ⟨_, rfl⟩
        rw [hT1] at HST2
        have HTX : Hid ((⟨T.toArray⟩ : ByteArray) ++ s.extract a b = ⟨T1.toArray⟩) := by unfold Hid; rw [HSEG.out a b (b - a) (by omega), cat2, hT1]
        have HT1 : Hid (T1.length ≤ 3000) := by unfold Hid; rw [← hT1]; simp; omega
        have hzT : (⟨T.toArray⟩ : ByteArray).size ≤ 100000 := by rw [size_of]; omega
        have hzE : (s.extract a b).size ≤ 100000 := by rw [ByteArray.size_extract]; omega
        clear hT hT1 hiT
        have hmi : (ml : Int) ≤ (i : Int) := by omega
        have HC0 : Hid (c = 0) := by
          have h1 : y = 0 := by rw [← HY.out]; exact nx_end (by rw [HBL0.out]; exact hm)
          have h2 := HCY.out
          unfold Hid
          omega
        go_wp2_with fail
        go_loopw [8, 13] (fun tx kk wx => ∃ k : Nat, kk = .int .i64 k ∧ k ≤ c ∧ tx = .string ⟨(T1 ++ List.replicate k 32).toArray⟩ ∧ wx = wo) (fun _ kk _ => 4 - (intOf kk).toNat)
        case atStart => exact ⟨0, rfl, by omega, by rw [HTX.out]; simp, rfl⟩
        case round =>
          obtain ⟨k, rfl, hkc, rfl, hwx⟩ := hrel
          have hwx2 := hwx.symm
          subst hwx2
          rcases Nat.lt_or_ge k c with hlt | hge
          · have := HC0.out
            omega
          · have hkc2 : k = c := by omega
            subst hkc2
            generalize hXX : (⟨(T1 ++ List.replicate k 32).toArray⟩ : ByteArray) = X
            have hXs : X.size = T1.length + k := by rw [← hXX, size_of]; simp
            have hX3 : X.size ≤ 100000 := by have := HT1.out; omega
            have HXX := Lib.hid hXX
            have HXS := Lib.hid hXs
            clear hXX hXs
            go_wp2_with fail
            go_region_law (refine step_append_lies _ (by rfl) _ _ _ (by rfl) w1.heap.size tRk i0 (.agg #[.int .i64 0, .string ⟨#[]⟩, .int .i64 0]) 3 32 Try.underlying27 hi hz0 hz1' hz2 rfl (by decide) _ acc.length (acc.flatMap tkc) (by rfl) (own_below HOWN.out (by (repeat' (first | (with_reducible exact Below.refl _ _) | (with_reducible assumption) | (with_reducible refine Below.alloc ?_ ?_ _) | (with_reducible refine bel_drewN ?_ _) | (with_reducible refine Below.drew ?_) | (with_reducible refine Below.setCell ?_ ?_ _) | (with_reducible refine bel_call ‹_› ?_ ?_) | go_size)))) _ 1 1 _ (by rfl) (by rfl) (news3 wo _ _ _ _) ?_ (by decide) ?_ ?_ ?_ _ (by rfl) ?_
                           · exact one3 (kd, tx, X.size)
                           · unfold maxLen; omega
                           · omega
                           · go_size
                           intro gg cap' w3 hown3 hgr3 hlies hlt3
                           have HO4 : Hid (w3.ownsRow w1.heap.size tRk 3 (.slice (some ⟨gg, 0, none⟩) (acc.length + 1) cap') (acc ++ [(kd, tx, X.size)]).length ((acc ++ [(kd, tx, X.size)]).flatMap tkc)) := (by unfold Hid; rw [tk_snoc, List.length_append]; exact hown3)
                           have hq9 : Below w1.heap.size w1 wo := HBEL.out
                           have hbl4 : Below w1.heap.size w1 w3 := (by refine Below.grown ?_ hgr3 ?_ (fun k hk => (HOWN.out.lt k hk).1); (· (repeat' (first | (with_reducible exact Below.refl _ _) | (with_reducible assumption) | (with_reducible refine Below.alloc ?_ ?_ _) | (with_reducible refine bel_drewN ?_ _) | (with_reducible refine Below.drew ?_) | (with_reducible refine Below.setCell ?_ ?_ _) | (with_reducible refine bel_call ‹_› ?_ ?_) | go_size))); (· go_size))
                           have HBL4 := Lib.hid hbl4
                           clear hq9 hbl4
                           clear hown3 hgr3 hlies)
            all_goals
              go_wp2_with fail
              go_roundw
              case rel => exact ⟨i + 1, b, T1 ++ List.replicate k 32, acc ++ [(kd, tx, X.size)], by go_num, by omega, rfl, by rw [HXX.out], by have := HST2.out.2.2; rw [HCC.out, List.length_append, List.length_replicate, ← HXS.out] at this; exact this, HO4.out, HBL4.out⟩
              case measure => simp [intOf]; omega
    · rcases Nat.lt_or_ge i (n + 1) with hi1 | hi1
      · rcases Nat.lt_or_ge i ml with hm | hm
        · obtain rfl : i = n := by omega
          have hst3 := HST1.out
          rw [← HLN.out] at hst3
          have HST2 := Lib.hid (st_last hst3)
          rw [HLN.out] at HST2
          clear hst3
          have hiN' : (i : Int) ≤ (i : Int) := by omega
          have has : a ≤ s.size := by have := HLS.out; omega
          obtain ⟨T1, hT1⟩ : ∃ T1, T ++ (L.drop a).take (L.length - a) = T1 := ⟨_, rfl⟩
          rw [hT1] at HST2
          have HTX : Hid ((⟨T.toArray⟩ : ByteArray) ++ s.extract a s.size = ⟨T1.toArray⟩) := by unfold Hid; rw [HSEG.out a s.size (s.size - a) (by omega), HLS.out, cat2, hT1]
          have HT1 : Hid (T1.length ≤ 3000) := by unfold Hid; have := HLS.out; rw [← hT1]; simp; omega
          have hzT : (⟨T.toArray⟩ : ByteArray).size ≤ 100000 := by rw [size_of]; omega
          have hzE : (s.extract a s.size).size ≤ 100000 := by rw [ByteArray.size_extract]; omega
          clear hT1
          have hmi : (i : Int) < (ml : Int) := by omega
          obtain ⟨mb, mo, hmA, hmb, hmcell⟩ : ∃ b o, A = some ⟨b, o, none⟩ ∧ b < wo.heap.size ∧ wo.cell? ⟨b, o + i, none⟩ = some (.int .u8 (y : Int)) := by
            rcases HBo.out.2.2.2 with h0 | ⟨b, o, h1, h2, h3⟩
            · omega
            · exact ⟨b, o, h1, h2, by rw [← HY.out]; exact h3 i hm⟩
          subst hmA
          go_wp2_with fail
          go_loopw [8, 13] (fun tx kk wx => ∃ k : Nat, kk = .int .i64 k ∧ k ≤ c ∧ tx = .string ⟨(T1 ++ List.replicate k 32).toArray⟩ ∧ wx = wo) (fun _ kk _ => 4 - (intOf kk).toNat)
          case atStart => exact ⟨0, rfl, by omega, by rw [HTX.out]; simp, rfl⟩
          case round =>
            obtain ⟨k, rfl, hkc, rfl, hwx⟩ := hrel
            have hwx2 := hwx.symm
            subst hwx2
            rcases Nat.lt_or_ge k c with hlt | hge
            · have hk4 : (k : Int) < (y : Int) % 4 := by have := HCY.out; omega
              have hzs : (⟨(T1 ++ List.replicate k 32).toArray⟩ : ByteArray).size ≤ 100000 := by have := HT1.out; rw [size_of]; simp; omega
              have hz1 : (⟨#[32]⟩ : ByteArray).size = 1 := rfl
              have HRP := Lib.hid (rep_snoc T1 k)
              go_wp2_with fail
              go_roundw
              case rel => exact ⟨k + 1, by go_num, by omega, by rw [← HRP.out], by first | rfl | trivial⟩
              case measure => simp [intOf]; omega
            · have hkc2 : k = c := by omega
              subst hkc2
              have hk4 : (y : Int) % 4 ≤ (k : Int) := by have := HCY.out; omega
              generalize hXX : (⟨(T1 ++ List.replicate k 32).toArray⟩ : ByteArray) = X
              have hXs : X.size = T1.length + k := by rw [← hXX, size_of]; simp
              have hX3 : X.size ≤ 100000 := by have := HT1.out; omega
              have HXX := Lib.hid hXX
              have HXS := Lib.hid hXs
              clear hXX hXs
              go_wp2_with fail
              go_roundw
              case rel => exact ⟨i + 1, s.size, T1 ++ List.replicate k 32, acc, by go_num, by omega, rfl, by rw [HXX.out], by have := HST2.out.2; rw [HCC.out] at this; rw [HLS.out]; exact this, HOWN.out, HBEL.out⟩
              case measure => simp [intOf] <;> omega
        · obtain rfl : i = n := by omega
          have hst3 := HST1.out
          rw [← HLN.out] at hst3
          have HST2 := Lib.hid (st_last hst3)
          rw [HLN.out] at HST2
          clear hst3
          have hiN' : (i : Int) ≤ (i : Int) := by omega
          have has : a ≤ s.size := by have := HLS.out; omega
          obtain ⟨T1, hT1⟩ : ∃ T1, T ++ (L.drop a).take (L.length - a) = T1 := ⟨_, rfl⟩
          rw [hT1] at HST2
          have HTX : Hid ((⟨T.toArray⟩ : ByteArray) ++ s.extract a s.size = ⟨T1.toArray⟩) := by unfold Hid; rw [HSEG.out a s.size (s.size - a) (by omega), HLS.out, cat2, hT1]
          have HT1 : Hid (T1.length ≤ 3000) := by unfold Hid; have := HLS.out; rw [← hT1]; simp; omega
          have hzT : (⟨T.toArray⟩ : ByteArray).size ≤ 100000 := by rw [size_of]; omega
          have hzE : (s.extract a s.size).size ≤ 100000 := by rw [ByteArray.size_extract]; omega
          clear hT1
          have hmi : (ml : Int) ≤ (i : Int) := by omega
          have HC0 : Hid (c = 0) := by
            have h1 : y = 0 := by rw [← HY.out]; exact nx_end (by rw [HBL0.out]; exact hm)
            have h2 := HCY.out
            unfold Hid
            omega
          go_wp2_with fail
          go_loopw [8, 13] (fun tx kk wx => ∃ k : Nat, kk = .int .i64 k ∧ k ≤ c ∧ tx = .string ⟨(T1 ++ List.replicate k 32).toArray⟩ ∧ wx = wo) (fun _ kk _ => 4 - (intOf kk).toNat)
          case atStart => exact ⟨0, rfl, by omega, by rw [HTX.out]; simp, rfl⟩
          case round =>
            obtain ⟨k, rfl, hkc, rfl, hwx⟩ := hrel
            have hwx2 := hwx.symm
            subst hwx2
            rcases Nat.lt_or_ge k c with hlt | hge
            · have := HC0.out
              omega
            · have hkc2 : k = c := by omega
              subst hkc2
              generalize hXX : (⟨(T1 ++ List.replicate k 32).toArray⟩ : ByteArray) = X
              have hXs : X.size = T1.length + k := by rw [← hXX, size_of]; simp
              have hX3 : X.size ≤ 100000 := by have := HT1.out; omega
              have HXX := Lib.hid hXX
              have HXS := Lib.hid hXs
              clear hXX hXs
              go_wp2_with fail
              go_roundw
              case rel => exact ⟨i + 1, s.size, T1 ++ List.replicate k 32, acc, by go_num, by omega, rfl, by rw [HXX.out], by have := HST2.out.2; rw [HCC.out] at this; rw [HLS.out]; exact this, HOWN.out, HBEL.out⟩
              case measure => simp [intOf] <;> omega
      · obtain rfl : i = n + 1 := by omega
        have hst3 := HST1.out
        rw [← HLN.out] at hst3
        have hdone := st_done hst3
        obtain ⟨rfl, rfl⟩ := hdone
        obtain ⟨p2, cap2, hv, hr4⟩ := RdT.of_own HOWN.out
        have HBW : Hid (Below w.heap.size w wo) := HB1.out.trans (HBEL.out.mono hz1)
        have hnn : (n : Int) < ((n + 1 : Nat) : Int) := by omega
        have HR4 := Lib.hid hr4
        subst hv
        have HTS := Lib.hid (show spl (⟨T.toArray⟩ : ByteArray).data.toList 0 = (some acc, 0) from HSPL.out)
        clear hst3 hr4
        go_wp2_with fail
        refine (split_any ⟨T.toArray⟩ _ (by rw [size_of]; omega) HTS.out _).mono ?_
        rintro e w5 ⟨hb5, p5, cap5, rfl, hr5⟩
        have HR5 := Lib.hid hr5
        have HB5 := Lib.hid hb5
        have hz5 := hb5.size
        clear hr5 hb5
        go_wp2_with fail
        refine (same_yes p5 acc.length cap5 p2 cap2 acc (by omega) _ HR5.out (HR4.out.below HB5.out)).mono ?_
        rintro e w6 ⟨rfl, hb6⟩
        have HB6 : Hid (Below w.heap.size w w6) := (HBW.out.trans (HB5.out.mono HBW.out.size)).trans (hb6.mono (by have := HBW.out.size; omega))
        clear hb6
        go_wp2_with fail
        refine (awake_any _).mono ?_
        rintro e w7 ⟨rfl, hb7⟩
        have HB7 : Hid (Below w.heap.size w w7) := HB6.out.trans (hb7.mono HB6.out.size)
        clear hb7
        go_wp2_with fail
        go_ret
        exact ⟨rfl, HB7.out⟩

set_option maxRecDepth 100000 in
set_option maxHeartbeats 2000000 in
theorem blanks_walk (s : ByteArray) (A : Option Addr) (ml mc : Nat) (B : List UInt8) (w : World) (hB : RdM w A ml mc B) :
    Calls Try.prog 4 #[.string s, .slice A ml mc] w fun e w' => e = .returned (.bool true) ∧ Below w.heap.size w w' := by
  have hmc1 := hB.2.1
  have hmc2 := hB.2.2.1
  unfold maxLen at hmc2
  by_cases h3 : s.size ≤ 300
  · by_cases hm : ml ≤ 300
    · cases hR : spl s.data.toList 0 with
      | mk o x =>
        cases o with
        | some Ts =>
          have hx := spl_zero _ _ _ _ hR
          subst hx
          exact blanks_core s A ml mc B h3 hm Ts w hB hR
        | none =>
          have HRS := Lib.hid hR
          have h3' : (s.size : Int) ≤ 300 := by omega
          have hm' : (ml : Int) ≤ 300 := by omega
          clear hR hB
          go_enter Try.func4, Try.ntmps4
          go_wp2_with fail
          refine (refSplit_any s _ (by omega) HRS.out _).mono ?_
          rintro e w1 ⟨hb1, he⟩
          have he : e = .returned (.tuple #[.slice none 0 0, .int .i64 (x : Int), .bool false]) := he
          subst he
          have hz1 := hb1.size
          have HB1 := Lib.hid hb1
          clear hb1
          go_wp2_with fail
          refine (awake_any _).mono ?_
          rintro e w2 ⟨rfl, hb2⟩
          have HB2 : Hid (Below w.heap.size w w2) := HB1.out.trans (hb2.mono hz1)
          clear hb2
          go_wp2_with fail
          go_ret
          exact ⟨rfl, HB2.out⟩
    · have h3' : (s.size : Int) ≤ 300 := by omega
      have hm' : (300 : Int) < (ml : Int) := by omega
      clear hB
      go_enter Try.func4, Try.ntmps4
      go_wp2_with fail
      refine (awake_any _).mono ?_
      rintro e w2 ⟨rfl, hb2⟩
      go_wp2_with fail
      go_ret
      exact ⟨rfl, hb2⟩
  · have h3' : (300 : Int) < (s.size : Int) := by omega
    clear hB
    go_enter Try.func4, Try.ntmps4
    go_wp2_with fail
    refine (awake_any _).mono ?_
    rintro e w2 ⟨rfl, hb2⟩
    go_wp2_with fail
    go_ret
    exact ⟨rfl, hb2⟩

section
variable {H : Type} {enc : TypeId × Value → H} {w : World} {base : Nat} {spare : Nat → Bool} {held : Bool}
theorem open_more {fuel : Nat} {A : Option Addr} {n cap : Nat} {x : DataW H × List MemPlace} (h : DataW.trod enc Try.prog w base spare held fuel 32 [.slice A n cap] = some x) : ∃ B, RdM w A n cap B := by
  rcases open_ints Try.underlying32 Try.underlying5 (by kernel_rfl) h with ⟨hcs, _⟩ | ⟨a, l, c, zs, hcs, _, hl, hm, hz, _, hcell, hwz⟩
  · simp only [List.cons.injEq, Value.slice.injEq, and_true] at hcs
    obtain ⟨rfl, rfl, rfl⟩ := hcs
    exact ⟨[], rfl, Nat.le_refl _, Nat.zero_le _, .inl rfl⟩
  · simp only [List.cons.injEq, Value.slice.injEq, and_true] at hcs
    obtain ⟨rfl, rfl, rfl⟩ := hcs
    have hlz : n ≤ zs.length := by rw [hz]; split <;> omega
    refine ⟨(zs.take n).map (fun z => UInt8.ofNat z.toNat), by simp; omega, hl, hm, ?_⟩
    rcases Nat.eq_zero_or_pos n with h0 | h0
    · exact .inl h0
    · right
      obtain ⟨b, off, sp⟩ := a
      have c0 := hcell 0 (by omega)
      have hs : sp = none := by
        cases sp with
        | none => rfl
        | some k =>
          unfold Addr.add World.cell? at c0
          simp at c0
          split at c0 <;> cases c0
      subst hs
      have hx := World.block_lt_of_cell? w _ c0
      refine ⟨b, off, rfl, by simpa [Addr.add] using hx, fun j hj => ?_⟩
      have hc := hcell j (by omega)
      have e : (⟨b, off, none⟩ : Addr).add j = ⟨b, off + j, none⟩ := by
        unfold Addr.add
        split
        · rename_i h0; subst h0; rfl
        · rfl
      rw [e] at hc
      rw [hc]
      have hw := hwz (zs.getD j 0) (by rw [List.getD_eq_getElem?_getD, List.getElem?_eq_getElem (by omega)]; exact List.getElem_mem _)
      have hb := u8_wf hw
      congr 2
      simp only [nx, List.getD_eq_getElem?_getD, List.getElem?_map, List.getElem?_take, if_pos hj] at hb ⊢
      rw [List.getElem?_eq_getElem (by omega)] at hb ⊢
      simp at hb ⊢
      omega
end
end Go.Proofs.Ytipnedgmmpdpjaa
