/- Script: stamp.Number; a text's numbers. -/
import Derived.Test.YtddoghjopihkpaaDoorScrB
import Derived.Lib.ConvBytes
import Derived.Lib.SplitLaws
set_option linter.unusedSimpArgs false
set_option linter.unusedVariables false
namespace Go.Proofs.YtddoghjopihkpaaDoor
open Go.RowKit

def btN (L : Bs) (j : Nat) : Nat := (L.getD j 0).toNat
theorem btN_lt (L : Bs) (j : Nat) : btN L j < 256 := by unfold btN; exact (L.getD j 0).toNat_lt
theorem btN_get {L : Bs} {i : Nat} (h : i < L.length) : btN L i = L[i].toNat := by simp [btN, List.getD, h]
theorem btN_str (s : ByteArray) (i : Nat) (h : i < s.size) : (s[i].toNat : Nat) = btN s.data.toList i := by
  have hl : i < s.data.toList.length := by rw [← Lib.size_eq]; exact h
  unfold btN
  rw [List.getD_eq_getElem?_getD, List.getElem?_eq_getElem hl]
  rfl
theorem bytes_cell (W : World) (s : ByteArray) : ∀ j, j < s.size → (Lib.bytesWorld W 5 s).cell? ⟨W.heap.size, j, none⟩ = some (.int .u8 (btN s.data.toList j : Int)) := fun j hj => Lib.bytesWorld_cell W _ s j hj
theorem bytes_below (W : World) (s : ByteArray) : Below W.heap.size W (Lib.bytesWorld W 5 s) := ⟨rfl, rfl, rfl, by rw [Lib.bytesWorld_size]; omega, fun k hk => Lib.bytesWorld_at_old W _ s k hk⟩
/-- What a number's letters say. -/
def nmF : Nat → Bs → Option Nat
  | n, [] => some n
  | n, c :: r => if 48 ≤ c.toNat ∧ c.toNat ≤ 57 ∧ 10 * n + (c.toNat - 48) ≤ 1048576 then nmF (10 * n + (c.toNat - 48)) r else none
def nmb (L : Bs) : Option Nat := if L = [] then none else if 1 < L.length ∧ btN L 0 = 48 then none else nmF 0 L
theorem nmF_at (n : Nat) (L : Bs) (i : Nat) (h : i < L.length) : nmF n (L.drop i) = if 48 ≤ btN L i ∧ btN L i ≤ 57 ∧ 10 * n + (btN L i - 48) ≤ 1048576 then nmF (10 * n + (btN L i - 48)) (L.drop (i + 1)) else none := by
  rw [List.drop_eq_getElem_cons h, nmF, btN_get h]

set_option maxRecDepth 100000 in
set_option maxHeartbeats 4000000 in
theorem number_s (s : ByteArray) (hs : s.size ≤ 100000) (w : World) : Calls Tryd.prog 32 #[.string s, .int .i64 1048576] w fun e w' => e = .returned (.tuple #[.int .i64 (((nmb s.data.toList).getD 0 : Nat) : Int), .bool (nmb s.data.toList).isSome]) ∧ Below w.heap.size w w' := by
  have HSZ : Hid (s.data.toList.length = s.size) := (Lib.size_eq s).symm
  have HBT := Lib.hid (btN_str s)
  have HBC := Lib.hid (fun W => bytes_cell W s)
  have hemp : s.data.toList ≠ [] → s.toList.isEmpty = false := fun h => by
    rw [Lib.toList_data]
    cases hd : s.data.toList with
    | nil => exact absurd hd h
    | cons c r => rfl
  have hnil : s.data.toList = [] → s = ⟨#[]⟩ := fun h => by
    apply ByteArray.ext
    exact Array.toList_inj.1 h
  obtain ⟨L, hL⟩ : ∃ L, s.data.toList = L := ⟨_, rfl⟩
  rw [hL] at HSZ HBT HBC hemp hnil ⊢
  obtain ⟨O, hO⟩ : ∃ O, nmb L = O := ⟨_, rfl⟩
  have HO0 : Hid (O = if L = [] then none else if 1 < L.length ∧ btN L 0 = 48 then none else nmF 0 L) := by rw [← hO]; rfl
  rw [hO]
  clear hO hL
  by_cases h0 : L = []
  · have HO := HO0.out
    rw [if_pos h0] at HO
    subst HO
    obtain rfl := hnil h0
    clear HBT HBC hemp hnil
    go_enter Tryd.func32, Tryd.ntmps32
    go_wp2_with fail
    go_ret2
    exact ⟨rfl, Below.refl _ _⟩
  · have hpos : 0 < s.size := by rw [← HSZ.out]; exact List.length_pos_iff.2 h0
    have hem := hemp h0
    have HO2 : Hid (O = if 1 < L.length ∧ btN L 0 = 48 then none else nmF 0 L) := by unfold Hid; rw [HO0.out, if_neg h0]
    clear HO0 hemp hnil h0
    have hconv := fun (W : World) => Lib.run_convert_string_bytes (P := Tryd.prog) W 9 69 5 s Tryd.underlying9 Tryd.underlying69 Tryd.underlying5
    have hb0 := HBT.out 0 hpos
    by_cases h1 : 1 < L.length ∧ btN L 0 = 48
    · have HO := HO2.out
      rw [if_pos h1] at HO
      subst HO
      obtain ⟨h1a, h1b⟩ := h1
      rw [HSZ.out] at h1a
      have h1i : (1 : Int) < (s.size : Int) := by omega
      have hx : (((s[0]'hpos).toNat : Nat) : Int) = 48 := by rw [hb0, h1b]; rfl
      clear hb0 h1b hconv HBC HBT HO2
      go_enter Tryd.func32, Tryd.ntmps32
      go_wp2_with fail
      go_ret2
      exact ⟨rfl, Below.refl _ _⟩
    · have HO : Hid (O = nmF 0 L) := by unfold Hid; rw [HO2.out, if_neg h1]
      have hcs : s.size = 1 ∨ (1 < s.size ∧ ((((s[0]'hpos).toNat : Nat) : Int) == 48) = false) := by
        rw [HSZ.out] at h1
        by_cases h : 1 < s.size
        · refine .inr ⟨h, ?_⟩
          rw [hb0]
          have : btN L 0 ≠ 48 := fun e => h1 ⟨h, e⟩
          simp
          omega
        · exact .inl (by omega)
      clear HO2 h1 hb0
      go_enter Tryd.func32, Tryd.ntmps32
      go_upto_region 1 with fail
      go_cut [25] (fun v wx => v = .bool false ∧ w = wx)
      case first =>
        rcases hcs with h | ⟨h, h2⟩
        · have h1i : ¬ (1 : Int) < (s.size : Int) := by omega
          go_wp2_with fail
          go_meet
          exact ⟨rfl, rfl⟩
        · have h1i : (1 : Int) < (s.size : Int) := by omega
          go_wp2_with fail
          go_meet
          exact ⟨rfl, rfl⟩
      case rest =>
        obtain ⟨rfl, rfl⟩ := hcut
        clear hcs hem
        go_wp2_with fail
        have hbw := Lib.hid (bytes_below w s)
        have hbc := Lib.hid (HBC.out w)
        generalize Lib.bytesWorld w 5 s = W1 at hbw hbc ⊢
        go_loopg [6, 29] s.size (fun g v6 v29 wr => ∃ (i n : Nat), i + g = s.size ∧ v29 = .int .i64 i ∧ v6 = .int .i64 n ∧ n ≤ 1048576 ∧ O = nmF n (L.drop i) ∧ wr = W1)
        case atStart => exact ⟨0, 0, by omega, rfl, rfl, by omega, HO.out, rfl⟩
        case round =>
          obtain ⟨i, n, hig, rfl, rfl, hn, hO, rfl⟩ := hrel
          have HO2 := Lib.hid hO
          clear hO HO
          by_cases hlt : i < s.size
          · have hli : (i : Int) < (s.size : Int) := by omega
            have hc := hbc.out i hlt
            have HAT := Lib.hid (nmF_at n L i (by rw [HSZ.out]; exact hlt))
            have hd := btN_lt L i
            obtain ⟨c, hcc⟩ : ∃ c, btN L i = c := ⟨_, rfl⟩
            rw [hcc] at hc hd HAT
            have f1 : IntKind.i64.wrap (c : Int) = (c : Int) := IntWalk.i64_in _ (by omega)
            have f2 : IntKind.i64.wrap ((c : Int) - 48) = (c : Int) - 48 := IntWalk.i64_in _ (by omega)
            clear hcc hconv
            by_cases hlo : c < 48
            · have hl0 : (c : Int) - 48 < 0 := by omega
              have HON : Hid (O = none) := by unfold Hid; rw [HO2.out, HAT.out, if_neg (by omega)]
              clear HAT HO2
              go_wp2_with fail
              go_ret2
              exact ⟨by rw [HON.out]; rfl, hbw.out⟩
            · have hl0 : ¬ (c : Int) - 48 < 0 := by omega
              by_cases hhi : 57 < c
              · have hh : (9 : Int) < (c : Int) - 48 := by omega
                have HON : Hid (O = none) := by unfold Hid; rw [HO2.out, HAT.out, if_neg (by omega)]
                clear HAT HO2
                go_wp2_with fail
                go_ret2
                exact ⟨by rw [HON.out]; rfl, hbw.out⟩
              · have hh : ¬ (9 : Int) < (c : Int) - 48 := by omega
                by_cases hA : 104857 < n
                · have hAi : (104857 : Int) < (n : Int) := by omega
                  have HON : Hid (O = none) := by unfold Hid; rw [HO2.out, HAT.out, if_neg (by omega)]
                  clear HAT HO2
                  go_wp2_with fail
                  go_ret2
                  exact ⟨by rw [HON.out]; rfl, hbw.out⟩
                · have hAi : ¬ (104857 : Int) < (n : Int) := by omega
                  by_cases hB : 10 * n + (c - 48) ≤ 1048576
                  · have hBi : ¬ (1048576 : Int) - ((c : Int) - 48) < 10 * (n : Int) := by omega
                    have HON : Hid (O = nmF (10 * n + (c - 48)) (L.drop (i + 1))) := by unfold Hid; rw [HO2.out, HAT.out, if_pos (by omega)]
                    clear HAT HO2
                    go_wp2_with fail
                    go_roundg (gk - 1)
                    case measure => omega
                    case rel => exact ⟨i + 1, 10 * n + (c - 48), by omega, by go_num, by congr 1; omega, hB, HON.out, rfl⟩
                  · have hBi : (1048576 : Int) - ((c : Int) - 48) < 10 * (n : Int) := by omega
                    have HON : Hid (O = none) := by unfold Hid; rw [HO2.out, HAT.out, if_neg (by omega)]
                    clear HAT HO2
                    go_wp2_with fail
                    go_ret2
                    exact ⟨by rw [HON.out]; rfl, hbw.out⟩
          · obtain rfl : i = s.size := by omega
            have hli : ¬ (s.size : Int) < (s.size : Int) := by omega
            have HON : Hid (O = some n) := by
              unfold Hid
              rw [HO2.out, List.drop_eq_nil_of_le (by rw [HSZ.out]; exact Nat.le_refl _)]
              rfl
            clear HO2 hconv
            go_wp2_with fail
            go_ret2
            exact ⟨by rw [HON.out]; rfl, hbw.out⟩
theorem number_any (L : Bs) (hL : L.length ≤ 100000) (w : World) : Calls Tryd.prog 32 #[.string ⟨L.toArray⟩, .int .i64 1048576] w fun e w' => e = .returned (.tuple #[.int .i64 (((nmb L).getD 0 : Nat) : Int), .bool (nmb L).isSome]) ∧ Below w.heap.size w w' := number_s ⟨L.toArray⟩ (by rw [sizeL]; exact hL) w

def consH (c : UInt8) : List (List UInt8) → List (List UInt8)
  | [] => [[c]]
  | h :: t => (c :: h) :: t
def sp32 : List UInt8 → List (List UInt8)
  | [] => [[]]
  | c :: r => if c = 32 then [] :: sp32 r else consH c (sp32 r)
theorem sk_other (b : UInt8) (hb : b ≠ 32) (l : List UInt8) : ∀ k, Lib.splitK [32] 0 k (b :: l) = consH b (Lib.splitK [32] 0 k l) := by
  intro k
  cases k with
  | zero => rfl
  | succ k =>
    have hp : List.isPrefixOf [(32 : UInt8)] (b :: l) = false := by
      simp [List.isPrefixOf]
      intro e
      exact hb e.symm
    have hi : Lib.index (b :: l) [32] = if Lib.index l [32] == -1 then -1 else Lib.index l [32] + 1 := by
      conv => lhs; unfold Lib.index
      rw [hp]
      rfl
    have hge := Lib.index_ge l [32]
    by_cases h : (Lib.index l [32] == -1) = true
    · rw [Lib.splitK, Lib.splitK, hi, if_pos h, if_pos h]
      rfl
    · have h2 : ¬ ((Lib.index l [32] + 1) == -1) = true := by
        intro e
        have := beq_iff_eq.1 e
        omega
      rw [Lib.splitK, Lib.splitK, hi, if_neg h, if_neg h2, if_neg h]
      obtain ⟨n, hn⟩ : ∃ n : Nat, Lib.index l [32] = (n : Int) := by
        have : Lib.index l [32] ≠ -1 := fun e => h (by rw [e]; rfl)
        exact ⟨(Lib.index l [32]).toNat, by omega⟩
      rw [hn, show ((n : Int) + 1).toNat = n + 1 by omega, show ((n : Int)).toNat = n by omega]
      simp [consH]
theorem sk_hit (l : List UInt8) (k : Nat) : Lib.splitK [32] 0 (k + 1) (32 :: l) = [] :: Lib.splitK [32] 0 k l := by
  have hi : Lib.index (32 :: l) [32] = 0 := by unfold Lib.index; simp [List.isPrefixOf]
  rw [Lib.splitK, hi]
  simp
theorem sk_sp : ∀ l : List UInt8, Lib.splitK [32] 0 (l.count 32) l = sp32 l
  | [] => rfl
  | c :: r => by
    by_cases h : c = 32
    · subst h
      rw [List.count_cons_self, sk_hit, sk_sp r]
      simp [sp32]
    · rw [List.count_cons_of_ne h, sk_other c h, sk_sp r]
      simp [sp32, h]
theorem split_sp (s : ByteArray) : (Lib.splitB ⟨#[32]⟩ 0 (Lib.countB s ⟨#[32]⟩) s).map (·.data.toList) = sp32 s.data.toList := by
  rw [Lib.splitB_data]
  have e : (⟨#[32]⟩ : ByteArray).data.toList = [32] := rfl
  show Lib.splitK (⟨#[32]⟩ : ByteArray).data.toList 0 (Lib.count s.data.toList (⟨#[32]⟩ : ByteArray).data.toList) s.data.toList = _
  rw [e, Lib.count_one]
  exact sk_sp _


def stE (L : Bs) : List Value := [.string ⟨L.toArray⟩]
/-- All pieces of a text as numbers. -/
def nums : List Bs → Option (List Nat)
  | [] => some []
  | x :: r => match nmb x, nums r with
    | some n, some l => some (n :: l)
    | _, _ => none
theorem sp32_len (L : Bs) : (sp32 L).length ≤ L.length + 1 := by
  induction L with
  | nil => exact Nat.le_refl _
  | cons c r ih =>
    unfold sp32
    split
    · simp; omega
    · cases h : sp32 r with
      | nil => simp [consH]
      | cons x t => rw [h] at ih; simp [consH] at ih ⊢; omega
theorem sp32_each (L : Bs) : ∀ x ∈ sp32 L, x.length ≤ L.length := by
  induction L with
  | nil => intro x hx; simp [sp32] at hx; subst hx; exact Nat.le_refl _
  | cons c r ih =>
    intro x hx
    unfold sp32 at hx
    split at hx
    · rcases List.mem_cons.1 hx with rfl | hx
      · simp
      · have := ih x hx; simp; omega
    · cases h : sp32 r with
      | nil => rw [h] at hx; simp [consH] at hx; subst hx; simp
      | cons y t =>
        rw [h] at hx ih
        simp only [consH] at hx
        rcases List.mem_cons.1 hx with rfl | hx
        · have := ih y (by simp); simp; omega
        · have := ih x (by simp [hx]); simp; omega
theorem split_any (L : Bs) (hL : L.length ≤ 100000) (w : World) (hsh : w.ShapedOpen Tryd.prog) : Calls Tryd.prog 31 #[.string ⟨L.toArray⟩, .string ⟨#[32]⟩] w fun e w' => (∃ p cap, e = .returned (.slice p (sp32 L).length cap) ∧ RdG stE 1 w' p (sp32 L).length (sp32 L)) ∧ Below w.heap.size w w' := by
  refine (Tryd.strings_Split_shaped ⟨L.toArray⟩ ⟨#[32]⟩ w hsh (by rw [sizeL]; omega) (by decide)).mono fun e w' h => ?_
  obtain ⟨h1, h2⟩ := h
  have hsp := split_sp ⟨L.toArray⟩
  rw [show (⟨L.toArray⟩ : ByteArray).data.toList = L from rfl] at hsp
  have hln := Lib.splitB_all ⟨#[32]⟩ (by decide) 0 _ ⟨L.toArray⟩ rfl
  generalize Lib.splitB ⟨#[32]⟩ 0 (Lib.countB ⟨L.toArray⟩ ⟨#[32]⟩) ⟨L.toArray⟩ = P at hsp hln h2
  generalize Lib.countB ⟨L.toArray⟩ ⟨#[32]⟩ + 1 = n at hln h1
  have hl : (sp32 L).length = n := by rw [← hsp, List.length_map]; exact hln
  subst h2
  refine ⟨⟨some ⟨w.heap.size, 0, none⟩, n, ?_, rfl, .inr ⟨w.heap.size, 0, rfl, by simp, ?_⟩⟩, by (repeat' (first | (with_reducible exact Below.refl _ _) | (with_reducible assumption) | (with_reducible refine Below.alloc ?_ ?_ _) | (with_reducible refine bel_drewN ?_ _) | (with_reducible refine Below.drew ?_) | (with_reducible refine Below.setCell ?_ ?_ _) | (with_reducible refine bel_call ‹_› ?_ ?_) | go_size))⟩
  · rw [hl]; exact h1
  · intro j x hx k u hu
    match k, hu with
    | 0, hu =>
      cases hu
      rw [← hsp, List.getElem?_map] at hx
      obtain ⟨y, hy, rfl⟩ := Option.map_eq_some_iff.1 hx
      simp [hy]
    | k + 1, hu => cases hu
end Go.Proofs.YtddoghjopihkpaaDoor
