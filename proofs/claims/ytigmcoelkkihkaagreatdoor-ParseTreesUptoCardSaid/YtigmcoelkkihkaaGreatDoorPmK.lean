/- Contracts of dec.Text, and of Div where the number of two words has one; the law's helper awake. Trees: as texts: plain part. Trees: how tightly a node holds. -/
import Derived.Test.YtigmcoelkkihkaaGreatDoorPmJ
import Derived.Lib.TrimByte
import Derived.Test.YtigmcoelkkihkaaGreatDoorPmD
import Derived.Test.YtigmcoelkkihkaaGreatDoorPmF
set_option linter.unusedSimpArgs false
set_option linter.unusedVariables false
namespace Go.Proofs.YtigmcoelkkihkaaGreatDoor
open Go.RowKit

/-- A number's text. -/
def txt (d : Int) : List UInt8 :=
  (if d < 0 then [45] else []) ++ dgText (d.natAbs / 1000000) 1 ++ (if 0 < d.natAbs % 1000000 then 46 :: Lib.trimRightB (dgText (d.natAbs % 1000000) 6) 48 else [])

theorem trimRight_zero (L : List UInt8) (hL : L.length ≤ 1000000) (w : World) :
    Calls Tryz.prog 90 #[.string ⟨L.toArray⟩, .string ⟨#[48]⟩] w fun e w' => e = .returned (.string ⟨(Lib.trimRightB L 48).toArray⟩) ∧ w = w' := by
  have e1 : (⟨L.toArray⟩ : ByteArray).data.toList = L := by simp
  have := Tryz.strings_TrimRight_one ⟨L.toArray⟩ 48 (by decide) w (by rw [Lib.size_eq]; simp; omega)
  rw [e1] at this
  exact this.mono fun e w' ⟨h1, h2⟩ => ⟨h1, h2.symm⟩

theorem trimRightB_len (L : List UInt8) (c : UInt8) : (Lib.trimRightB L c).length ≤ L.length := by
  unfold Lib.trimRightB
  rw [List.length_reverse]
  have := (List.dropWhile_sublist (· == c) (l := L.reverse)).length_le
  simpa using this
theorem cat2 (X Y : List UInt8) : (⟨X.toArray⟩ : ByteArray) ++ ⟨Y.toArray⟩ = ⟨(X ++ Y).toArray⟩ := by
  apply ByteArray.ext
  simp
theorem dgText_len (n least : Nat) (hn : n ≤ 18446744073709551615) (hl : least ≤ 100) : (dgText n least).length ≤ 120 := by
  have h2 := digs_length_le (n := n) (k := 20) (by omega)
  simp [dgText, lettersOf, padL]
  omega

theorem digits_1 (q : Nat) (hq : q ≤ 18446744073709551615) (w : World) : Calls Tryz.prog 88 #[.int .u64 q, .int .i64 1] w fun e w' => e = .returned (.string ⟨(dgText q 1).toArray⟩) ∧ Below w.heap.size w w' := digits_any q 1 hq (by omega) w
theorem digits_6 (q : Nat) (hq : q ≤ 18446744073709551615) (w : World) : Calls Tryz.prog 88 #[.int .u64 q, .int .i64 6] w fun e w' => e = .returned (.string ⟨(dgText q 6).toArray⟩) ∧ Below w.heap.size w w' := digits_any q 6 hq (by omega) w

set_option maxRecDepth 100000 in
set_option maxHeartbeats 2000000 in
theorem text_any (d : Int) (hlo : -9223372036854775808 ≤ d) (hhi : d ≤ 9223372036854775807) (w : World) :
    Calls Tryz.prog 65 #[.int .i64 d] w fun e w' => e = .returned (.string ⟨(txt d).toArray⟩) ∧ Below w.heap.size w w' := by
  have HP := Lib.hid (fun W => part_any d hlo hhi W)
  obtain ⟨a, ha⟩ : ∃ a, d.natAbs = a := ⟨_, rfl⟩
  have ha2 : a ≤ 9223372036854775808 := by omega
  obtain ⟨q, hq⟩ : ∃ q, a / 1000000 = q := ⟨_, rfl⟩
  obtain ⟨r, hr⟩ : ∃ r, a % 1000000 = r := ⟨_, rfl⟩
  have hr6 : r < 1000000 := by omega
  have hqz : IntKind.u64.wrap (q : Int) = (q : Int) := IntWalk.u64_in _ (by omega)
  have hrw : IntKind.u64.wrap (r : Int) = (r : Int) := IntWalk.u64_in _ (by omega)
  have hqz' : (a : Int) / 1000000 = (q : Int) := by omega
  have hrz : (a : Int) % 1000000 = (r : Int) := by omega
  have hq2 : q ≤ 18446744073709551615 := by omega
  have HQ := Lib.hid hq2
  have hda := dgText_len q 1 hq2 (by omega)
  have hdr := dgText_len r 6 (by omega) (by omega)
  have HT : Hid (txt d = (if d < 0 then [45] else []) ++ dgText q 1 ++ (if 0 < r then 46 :: Lib.trimRightB (dgText r 6) 48 else [])) := by
    unfold Hid txt
    rw [ha, hq, hr]
  obtain ⟨A, hA⟩ : ∃ A, dgText q 1 = A := ⟨_, rfl⟩
  obtain ⟨B, hB⟩ : ∃ B, dgText r 6 = B := ⟨_, rfl⟩
  obtain ⟨C, hC⟩ : ∃ C, Lib.trimRightB B 48 = C := ⟨_, rfl⟩
  have HA := Lib.hid hA
  have HB := Lib.hid hB
  have hCl : C.length ≤ 120 := by rw [← hC, ← hB]; exact Nat.le_trans (trimRightB_len _ _) hdr
  have HC := Lib.hid hC
  have HAA := Lib.hid ha
  rw [hA] at hda
  rw [hB] at hdr
  clear hlo hhi ha hq hr hq2 hA hB hC ha2
  by_cases h0 : d < 0
  all_goals by_cases h1 : 0 < r
  · have hfin : Hid (txt d = 45 :: (A ++ 46 :: C)) := by
      unfold Hid
      rw [HT.out, if_pos h0, if_pos h1, HA.out, HB.out, HC.out]
      simp
    go_enter Tryz.func65, Tryz.ntmps65
    go_wp2_with fail
    refine (HP.out _).mono ?_
    rintro e w1 ⟨rfl, rfl⟩
    rw [HAA.out]
    go_wp2_with fail
    refine (digits_1 q HQ.out _).mono ?_
    rintro e w2 ⟨rfl, hb2⟩
    rw [HA.out]
    have hs2 := hb2.size
    go_wp2_with fail
    refine (HP.out _).mono ?_
    rintro e w3 ⟨rfl, rfl⟩
    rw [HAA.out]
    go_wp2_with fail
    refine (digits_6 r (by omega) _).mono ?_
    rintro e w4 ⟨rfl, hb4⟩
    rw [HB.out]
    have hs4 := hb4.size
    go_wp2_with fail
    refine (trimRight_zero B (by omega) _).mono ?_
    rintro e w5 ⟨rfl, rfl⟩
    rw [HC.out]
    go_wp2_with fail
    go_ret
    refine ⟨?_, bel_call hb4 hb2 (by omega)⟩
    rw [hfin.out]
    exact congrArg (fun s => Ending.returned (Value.string s)) (show (⟨[45].toArray⟩ : ByteArray) ++ ⟨A.toArray⟩ ++ (⟨[46].toArray⟩ ++ ⟨C.toArray⟩) = _ by rw [cat2, cat2, cat2]; simp)
  · have hfin : Hid (txt d = 45 :: A) := by
      unfold Hid
      rw [HT.out, if_pos h0, if_neg h1, HA.out]
      simp
    go_enter Tryz.func65, Tryz.ntmps65
    go_wp2_with fail
    refine (HP.out _).mono ?_
    rintro e w1 ⟨rfl, rfl⟩
    rw [HAA.out]
    go_wp2_with fail
    refine (digits_1 q HQ.out _).mono ?_
    rintro e w2 ⟨rfl, hb2⟩
    rw [HA.out]
    have hs2 := hb2.size
    go_wp2_with fail
    refine (HP.out _).mono ?_
    rintro e w3 ⟨rfl, rfl⟩
    rw [HAA.out]
    go_wp2_with fail
    go_ret
    refine ⟨?_, hb2⟩
    rw [hfin.out]
    exact congrArg (fun s => Ending.returned (Value.string s)) (show (⟨[45].toArray⟩ : ByteArray) ++ ⟨A.toArray⟩ = _ by rw [cat2]; simp)
  · have hfin : Hid (txt d = A ++ 46 :: C) := by
      unfold Hid
      rw [HT.out, if_neg h0, if_pos h1, HA.out, HB.out, HC.out]
      simp
    go_enter Tryz.func65, Tryz.ntmps65
    go_wp2_with fail
    refine (HP.out _).mono ?_
    rintro e w1 ⟨rfl, rfl⟩
    rw [HAA.out]
    go_wp2_with fail
    refine (digits_1 q HQ.out _).mono ?_
    rintro e w2 ⟨rfl, hb2⟩
    rw [HA.out]
    have hs2 := hb2.size
    go_wp2_with fail
    refine (HP.out _).mono ?_
    rintro e w3 ⟨rfl, rfl⟩
    rw [HAA.out]
    go_wp2_with fail
    refine (digits_6 r (by omega) _).mono ?_
    rintro e w4 ⟨rfl, hb4⟩
    rw [HB.out]
    have hs4 := hb4.size
    go_wp2_with fail
    refine (trimRight_zero B (by omega) _).mono ?_
    rintro e w5 ⟨rfl, rfl⟩
    rw [HC.out]
    go_wp2_with fail
    go_ret
    refine ⟨?_, bel_call hb4 hb2 (by omega)⟩
    rw [hfin.out]
    exact congrArg (fun s => Ending.returned (Value.string s)) (show (⟨A.toArray⟩ : ByteArray) ++ (⟨[46].toArray⟩ ++ ⟨C.toArray⟩) = _ by rw [cat2, cat2]; simp)
  · have hfin : Hid (txt d = A) := by
      unfold Hid
      rw [HT.out, if_neg h0, if_neg h1, HA.out]
      simp
    go_enter Tryz.func65, Tryz.ntmps65
    go_wp2_with fail
    refine (HP.out _).mono ?_
    rintro e w1 ⟨rfl, rfl⟩
    rw [HAA.out]
    go_wp2_with fail
    refine (digits_1 q HQ.out _).mono ?_
    rintro e w2 ⟨rfl, hb2⟩
    rw [HA.out]
    have hs2 := hb2.size
    go_wp2_with fail
    refine (HP.out _).mono ?_
    rintro e w3 ⟨rfl, rfl⟩
    rw [HAA.out]
    go_wp2_with fail
    go_ret
    refine ⟨?_, hb2⟩
    rw [hfin.out]
    rfl
end Go.Proofs.YtigmcoelkkihkaaGreatDoor
namespace Go.Proofs.YtigmcoelkkihkaaGreatDoor
open Go.RowKit Go.Joins

def dblT : Bs → Bs
  | [] => []
  | c :: r => if c = 34 then 34 :: 34 :: dblT r else c :: dblT r
theorem dblT_len : ∀ l : Bs, (dblT l).length ≤ 2 * l.length
  | [] => by simp [dblT]
  | c :: r => by
    have := dblT_len r
    unfold dblT
    split <;> simp <;> omega
def quoT (l : Bs) : Bs := 34 :: (dblT l ++ [34])
/-- How tightly a node holds. -/
def hdS (k : Int) (t : Bs) : Int := if k = 6 then lvS t else if k = 5 then 5 else 6
def refBs : Bs := [35, 82, 69, 70, 33]
mutual
/-- A tree as a text: references by their names, with brackets where a part holds less tightly than must be. -/
def prN (nm : Int → Bs) : Nd → Int → Bs
  | .mk k u t f o a, least =>
    if hdS k t < least then 40 :: (prB nm k u t f o (prAt nm a 0 5) (prAt nm a 0 (lvS t)) (prAt nm a 1 (lvS t + 1)) (prT nm a) ++ [41])
    else prB nm k u t f o (prAt nm a 0 5) (prAt nm a 0 (lvS t)) (prAt nm a 1 (lvS t + 1)) (prT nm a)
def prAt (nm : Int → Bs) : List Nd → Nat → Int → Bs
  | [], _, _ => []
  | c :: r, i, l => if i = 0 then prN nm c l else prAt nm r (i - 1) l
def prT (nm : Int → Bs) : List Nd → Bs
  | [] => []
  | c :: r => 44 :: (prN nm c 1 ++ prT nm r)
/-- What stands within the brackets. -/
def prB (nm : Int → Bs) (k u : Int) (t : Bs) (f o : Int) (m5 l6 r6 al : Bs) : Bs :=
  if k = 1 then txt u else if k = 2 then quoT t else if k = 3 then nm f else if k = 4 then nm f ++ 58 :: nm o
  else if k = 5 then 45 :: m5 else if k = 6 then l6 ++ t ++ r6 else if k = 7 then t ++ 40 :: (al.drop 1 ++ [41]) else refBs
end
mutual
def wtN : Nd → Nat
  | .mk _ _ t _ _ a => 400 + 2 * t.length + wtL a
def wtL : List Nd → Nat
  | [] => 0
  | c :: r => wtN c + 1 + wtL r
end
theorem prB_len {nm : Int → Bs} (hn : ∀ k, (nm k).length ≤ 20) (k u : Int) (ht : (txt u).length ≤ 300) (t : Bs) (f o : Int) (m5 l6 r6 al : Bs) (W : Nat) (h5 : m5.length ≤ W) (h6 : l6.length + r6.length ≤ W) (h7 : al.length ≤ W) :
    (prB nm k u t f o m5 l6 r6 al).length ≤ 310 + 2 * t.length + W := by
  have h1 := hn f
  have h2 := hn o
  have h4 := dblT_len t
  unfold prB quoT refBs
  repeat' split
  all_goals first | (simp; omega) | (simp at *; omega)
theorem wtL_mem {a : List Nd} {c : Nd} (h : c ∈ a) : wtN c < wtL a := by
  induction a with
  | nil => cases h
  | cons x r ih =>
    rw [wtL]
    rcases List.mem_cons.1 h with rfl | h
    · omega
    · have := ih h
      omega
mutual
theorem prN_len {nm : Int → Bs} (hn : ∀ k, (nm k).length ≤ 20) (ht : ∀ u, -9223372036854775808 ≤ u → u ≤ 9223372036854775807 → (txt u).length ≤ 300) : ∀ (n : Nd), OkN n → ∀ least, (prN nm n least).length ≤ wtN n
  | .mk k u t f o a, h, least => by
    have ha : ∀ c ∈ a, OkN c := fun c hc => h.child hc
    have h0 := ht u h.num.1 h.num.2
    have hB := prB_len hn k u h0 t f o (prAt nm a 0 5) (prAt nm a 0 (lvS t)) (prAt nm a 1 (lvS t + 1)) (prT nm a) (wtL a) (prAt_len hn ht a ha 0 5) (prAt2_len hn ht a ha _ _) (prT_len hn ht a ha)
    rw [prN, wtN]
    split
    · simp; omega
    · omega
theorem prAt_len {nm : Int → Bs} (hn : ∀ k, (nm k).length ≤ 20) (ht : ∀ u, -9223372036854775808 ≤ u → u ≤ 9223372036854775807 → (txt u).length ≤ 300) : ∀ (a : List Nd), (∀ c ∈ a, OkN c) → ∀ i l, (prAt nm a i l).length ≤ wtL a
  | [], _, i, l => by rw [prAt]; simp
  | c :: r, h, i, l => by
    rw [prAt, wtL]
    split
    · have := prN_len hn ht c (h c (by simp)) l
      omega
    · have := prAt_len hn ht r (fun x hx => h x (by simp [hx])) (i - 1) l
      omega
theorem prAt2_len {nm : Int → Bs} (hn : ∀ k, (nm k).length ≤ 20) (ht : ∀ u, -9223372036854775808 ≤ u → u ≤ 9223372036854775807 → (txt u).length ≤ 300) : ∀ (a : List Nd), (∀ c ∈ a, OkN c) → ∀ l l', (prAt nm a 0 l).length + (prAt nm a 1 l').length ≤ wtL a
  | [], _, l, l' => by rw [prAt, prAt]; simp
  | c :: r, h, l, l' => by
    rw [prAt, prAt, wtL, if_pos rfl, if_neg (by omega)]
    have h1 := prN_len hn ht c (h c (by simp)) l
    have h2 := prAt_len hn ht r (fun x hx => h x (by simp [hx])) (1 - 1) l'
    omega
theorem prT_len {nm : Int → Bs} (hn : ∀ k, (nm k).length ≤ 20) (ht : ∀ u, -9223372036854775808 ≤ u → u ≤ 9223372036854775807 → (txt u).length ≤ 300) : ∀ (a : List Nd), (∀ c ∈ a, OkN c) → (prT nm a).length ≤ wtL a
  | [], _ => by rw [prT]; simp
  | c :: r, h => by
    rw [prT, wtL]
    have h1 := prN_len hn ht c (h c (by simp)) 1
    have h2 := prT_len hn ht r (fun x hx => h x (by simp [hx]))
    simp
    omega
end
mutual
/-- What 'named' makes of a tree. -/
def nmN (nm : Int → Bs) : Nd → Nd
  | .mk k u t f o a => .mk k u (if k = 3 then nm f else if k = 4 then nm f ++ 58 :: nm o else t) 0 0 (nmL nm a)
def nmL (nm : Int → Bs) : List Nd → List Nd
  | [] => []
  | c :: r => nmN nm c :: nmL nm r
end
end Go.Proofs.YtigmcoelkkihkaaGreatDoor
namespace Go.Proofs.YtigmcoelkkihkaaGreatDoor
open Go.RowKit Go.Joins

end Go.Proofs.YtigmcoelkkihkaaGreatDoor
