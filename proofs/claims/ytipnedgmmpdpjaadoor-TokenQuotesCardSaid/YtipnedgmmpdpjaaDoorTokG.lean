/- Contracts of the document's quoted and of the program's sign. -/
import Derived.Test.YtipnedgmmpdpjaaDoorTokF
set_option linter.unusedSimpArgs false
set_option linter.unusedVariables false
namespace Go.Proofs.YtipnedgmmpdpjaaDoor
open Go.RowKit

theorem cat2 (X Y : List UInt8) : (⟨X.toArray⟩ : ByteArray) ++ ⟨Y.toArray⟩ = ⟨(X ++ Y).toArray⟩ := by
  apply ByteArray.ext
  simp
theorem ext_one (s : ByteArray) (j : Nat) (h : j < s.size) : s.extract j (j + 1) = ⟨[UInt8.ofNat (nx s.data.toList j)].toArray⟩ := by
  have hl : j < s.data.toList.length := by rw [← Lib.size_eq]; exact h
  rw [nx_get hl, u8_eta]
  apply ByteArray.ext
  apply Array.ext'
  rw [ByteArray.data_extract, Array.toList_extract, List.extract_eq_take_drop, List.drop_eq_getElem_cons hl, show j + 1 - j = 1 by omega]
  rfl
theorem size_of (X : List UInt8) : (⟨X.toArray⟩ : ByteArray).size = X.length := by rw [Lib.size_eq]

def RetQR (R : Option (List UInt8 × Nat)) (W : World) (e : Ending) (w' : World) : Prop := W = w' ∧ (match R with | none => e = .returned (.tuple #[.string ⟨#[]⟩, .int .i64 0]) | some (t, m) => e = .returned (.tuple #[.string ⟨t.toArray⟩, .int .i64 ((1 + m : Nat) : Int)]))
theorem retqr_none {R : Option (List UInt8 × Nat)} {W : World} (h : R = none) : RetQR R W (.returned (.tuple #[.string ⟨#[]⟩, .int .i64 0])) W := by subst h; exact ⟨rfl, rfl⟩
theorem retqr_some {m : Nat} {z : Int} {t : List UInt8} {R : Option (List UInt8 × Nat)} {W : World} (h : R = some (t, m)) (hz : z = ((1 + m : Nat) : Int)) : RetQR R W (.returned (.tuple #[.string ⟨t.toArray⟩, .int .i64 z])) W := by subst h hz; exact ⟨rfl, rfl⟩

def sgB (k : Nat) : ByteArray := ⟨(sgs.getD k []).toArray⟩
def sgArr : Array Value := #[.string ⟨#[60, 62]⟩, .string ⟨#[60, 61]⟩, .string ⟨#[62, 61]⟩, .string ⟨#[60]⟩, .string ⟨#[62]⟩, .string ⟨#[61]⟩, .string ⟨#[43]⟩, .string ⟨#[45]⟩, .string ⟨#[42]⟩, .string ⟨#[47]⟩, .string ⟨#[38]⟩, .string ⟨#[40]⟩, .string ⟨#[41]⟩, .string ⟨#[44]⟩, .string ⟨#[58]⟩]
theorem sg_index (k : Nat) (h : k < 15) : ∀ w, (Instr.index 58 (.agg #[.string ⟨#[60, 62]⟩, .string ⟨#[60, 61]⟩, .string ⟨#[62, 61]⟩, .string ⟨#[60]⟩, .string ⟨#[62]⟩, .string ⟨#[61]⟩, .string ⟨#[43]⟩, .string ⟨#[45]⟩, .string ⟨#[42]⟩, .string ⟨#[47]⟩, .string ⟨#[38]⟩, .string ⟨#[40]⟩, .string ⟨#[41]⟩, .string ⟨#[44]⟩, .string ⟨#[58]⟩]) (.int .i64 (k : Int))).run Tryd.prog w = .ok (.string (sgB k)) w := by
  match k, h with
  | 0, _ => intro w; kernel_rfl
  | 1, _ => intro w; kernel_rfl
  | 2, _ => intro w; kernel_rfl
  | 3, _ => intro w; kernel_rfl
  | 4, _ => intro w; kernel_rfl
  | 5, _ => intro w; kernel_rfl
  | 6, _ => intro w; kernel_rfl
  | 7, _ => intro w; kernel_rfl
  | 8, _ => intro w; kernel_rfl
  | 9, _ => intro w; kernel_rfl
  | 10, _ => intro w; kernel_rfl
  | 11, _ => intro w; kernel_rfl
  | 12, _ => intro w; kernel_rfl
  | 13, _ => intro w; kernel_rfl
  | 14, _ => intro w; kernel_rfl
theorem sg_at {k : Nat} (h : k < 15) : sgs.drop k = sgs.getD k [] :: sgs.drop (k + 1) := by
  have h' : k < sgs.length := h
  rw [List.drop_eq_getElem_cons h']
  simp [List.getD, h']
theorem sg_len (k : Nat) : (sgB k).size ≤ 2 := by
  unfold sgB
  rw [size_of]
  rcases Nat.lt_or_ge k 15 with h | h
  · match k, h with
    | 0, _ | 1, _ | 2, _ | 3, _ | 4, _ | 5, _ | 6, _ | 7, _ | 8, _ | 9, _ | 10, _ | 11, _ | 12, _ | 13, _ | 14, _ => decide
  · have : sgs[k]? = none := List.getElem?_eq_none h
    simp [List.getD, this]

set_option maxRecDepth 100000 in
set_option maxHeartbeats 2000000 in
theorem sign_any (s : ByteArray) (R : List UInt8) (hs : s.size ≤ 100000) (hR : sgn s.data.toList = R) (w : World) :
    Calls Tryd.prog 19 #[.string s] w fun e w' => e = .returned (.string ⟨R.toArray⟩) ∧ w = w' := by
  have HR := Lib.hid hR
  clear hR
  go_enter Tryd.func19, Tryd.ntmps19
  go_wp2_with fail
  go_loop [4, 6] (fun _ v => ∃ k : Nat, v = .int .i64 k ∧ k ≤ 15 ∧ ((sgs.drop k).find? fun x => Lib.hasPrefix s.data.toList x).getD [] = R) (fun _ v => 15 - (intOf v).toNat)
  case atStart => exact ⟨0, rfl, by omega, HR.out⟩
  case round =>
    obtain ⟨k, rfl, hk, hq⟩ := hrel
    have HQ := Lib.hid hq
    clear hq HR
    rcases Nat.lt_or_ge k 15 with hlt | hge
    · have hidx := sg_index k hlt
      obtain ⟨b, hb⟩ : ∃ b, Lib.hasPrefix s.data.toList (sgB k).data.toList = b := ⟨_, rfl⟩
      have hpre : ∀ W, Calls Tryd.prog 18 #[.string s, .string (sgB k)] W fun e w' => e = .returned (.bool b) ∧ W = w' := fun W => by
        refine (Tryd.strings_HasPrefix s (sgB k) W).mono fun e w' h => ?_
        rw [hb] at h
        exact ⟨h.1, h.2.symm⟩
      have HPRE := Lib.hid hpre
      clear hpre
      have hq2 := HQ.out
      have hbb : Lib.hasPrefix s.data.toList (sgs.getD k []) = b := hb
      rw [sg_at hlt, List.find?_cons, hbb] at hq2
      cases b with
      | true =>
        have HE : Hid (sgB k = ⟨R.toArray⟩) := by rw [← hq2]; rfl
        clear hq2 hb hbb
        go_wp2_with fail
        refine (HPRE.out _).mono ?_
        rintro e w1 ⟨rfl, rfl⟩
        go_wp2_with fail
        go_ret
        exact ⟨by rw [← HE.out]; rfl, rfl⟩
      | false =>
        have HE := Lib.hid hq2
        clear hq2 hb hbb
        go_wp2_with fail
        refine (HPRE.out _).mono ?_
        rintro e w1 ⟨rfl, rfl⟩
        go_wp2_with fail
        go_round
        case rel => exact ⟨k + 1, by go_num, by omega, HE.out⟩
        case measure => simp [intOf]; omega
    · have HE : Hid (R = []) := by
        have h := HQ.out
        rw [List.drop_of_length_le (show sgs.length ≤ k from hge)] at h
        exact h.symm
      go_wp2_with fail
      go_ret
      exact ⟨by rw [HE.out]; rfl, rfl⟩
end Go.Proofs.YtipnedgmmpdpjaaDoor
