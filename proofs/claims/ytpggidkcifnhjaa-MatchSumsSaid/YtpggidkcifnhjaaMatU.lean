/- Conditions: the law's helpers. -/
import Derived.Test.YtpggidkcifnhjaaMatT
set_option linter.unusedSimpArgs false
set_option linter.unusedVariables false
namespace Go.Proofs.Ytpggidkcifnhjaa
open Go.RowKit

theorem lto_any (k n : Int) (s : ByteArray) (w : World) :
    Calls Try.prog 11 #[.agg #[.int .i64 k, .int .i64 n, .string s]] w fun e w' => e = .returned (.agg #[.int .i64 k, .int .i64 n, .string s]) ∧ Below w.heap.size w w' := by
  go_enter Try.func11, Try.ntmps11
  go_wp2
  go_returns
  refine ⟨rfl, ?_⟩
  (repeat' (first | (with_reducible exact Below.refl _ _) | (with_reducible assumption) | (with_reducible refine Below.alloc ?_ ?_ _) | (with_reducible refine bel_drewN ?_ _) | (with_reducible refine Below.drew ?_) | (with_reducible refine Below.setCell ?_ ?_ _) | (with_reducible refine bel_call ‹_› ?_ ?_) | go_size))

/-- Is it a value, not too long? -/
def lrightB (k n : Int) (s : ByteArray) : Bool := decide (s.size ≤ 200) && ((k == 0 && n == 0 && s.toList.isEmpty) || (k == 1 && s.toList.isEmpty) || ((k == 2 || k == 3) && n == 0))
theorem lright_any (k n : Int) (s : ByteArray) (w : World) :
    Calls Try.prog 13 #[.agg #[.int .i64 k, .int .i64 n, .string s]] w fun e w' => e = .returned (.bool (lrightB k n s)) ∧ Below w.heap.size w w' := by
  go_enter Try.func13, Try.ntmps13
  go_wp2
  all_goals go_returns
  all_goals refine ⟨?_, by (repeat' (first | (with_reducible exact Below.refl _ _) | (with_reducible assumption) | (with_reducible refine Below.alloc ?_ ?_ _) | (with_reducible refine bel_drewN ?_ _) | (with_reducible refine Below.drew ?_) | (with_reducible refine Below.setCell ?_ ?_ _) | (with_reducible refine bel_call ‹_› ?_ ?_) | go_size))⟩
  all_goals simp_all [lrightB]
  all_goals omega
theorem lright_ok {v : Vl} (h : lrightB v.k v.n v.t = true) (hn : -9223372036854775808 ≤ v.n ∧ v.n ≤ 9223372036854775807) : vlOk v := by
  unfold lrightB at h
  simp only [Bool.and_eq_true, Bool.or_eq_true, beq_iff_eq, decide_eq_true_eq] at h
  obtain ⟨h1, h2⟩ := h
  refine ⟨?_, by omega, hn.1, hn.2⟩
  rcases h2 with (h2 | h2) | h2
  · exact .inl h2.1.1
  · exact .inr (.inl h2.1)
  · rcases h2.1 with h | h
    · exact .inr (.inr (.inl h))
    · exact .inr (.inr (.inr h))
theorem info_val : (Try.prog.info? 41).map (fun i => (i.zero, i.size, i.bytes)) = some (some (.agg #[.int .i64 0, .int .i64 0, .string ByteArray.empty]), 3, 32) := by kernel_rfl

/-- What few answers: if its second is true, all are values, not too many, and its first has them. -/
def FewR (n : Nat) (Vs : List Vl) (e : Ending) (w' : World) : Prop := ∃ v b, e = .returned (.tuple #[v, .bool b]) ∧ (b = true → (∀ x ∈ Vs, vlOk x) ∧ n ≤ 40 ∧ ∃ p' cap', v = .slice p' n cap' ∧ RdG vlE 3 w' p' n Vs)
set_option maxRecDepth 100000 in
set_option maxHeartbeats 2000000 in
theorem few_any (p : Option Addr) (n cap : Nat) (Vs : List Vl) (hn : n ≤ 9223372036854775807) (hR : ∀ v ∈ Vs, -9223372036854775808 ≤ v.n ∧ v.n ≤ 9223372036854775807) (w : World) (hV : RdG vlE 3 w p n Vs) :
    Calls Try.prog 4 #[.slice p n cap] w fun e w' => FewR n Vs e w' ∧ Below w.heap.size w w' := by
  obtain ⟨i0, hi, iz0, iz1, iz2⟩ := info_of info_val
  have HN := Lib.hid hV.1
  have HV := Lib.hid hV
  have HR := Lib.hid hR
  clear hV hR
  obtain ⟨M, hM⟩ : ∃ M, min n 40 = M := ⟨_, rfl⟩
  go_enter Try.func4, Try.ntmps4
  go_wp2_with fail
  go_loopg [4, 5] M (fun g v4 v5 wr => ∃ j : Nat, j + g = M ∧ v5 = .int .i64 j ∧ (∀ x ∈ Vs.take j, vlOk x) ∧ wr.ownsRow w.heap.size 41 3 v4 j ((Vs.take j).flatMap vlE) ∧ Below w.heap.size w wr)
  case atStart => exact ⟨0, by omega, rfl, fun x hx => by simp at hx, World.ownsRow_nil _ _ _ _, Below.refl _ _⟩
  case round =>
    obtain ⟨j, hj, rfl, hok, ho, hbel⟩ := hrel
    have hsz := hbel.size
    have HO := Lib.hid ho
    have HOK := Lib.hid hok
    have HBEL := Lib.hid hbel
    clear ho hok hbel
    by_cases hgo : j < M
    · have hjn : j < n := by omega
      have hj40 : (j : Int) < 40 := by omega
      have hjl : j < Vs.length := by rw [HN.out]; exact hjn
      obtain ⟨⟨k, x, t⟩, hx⟩ : ∃ x, Vs[j] = x := ⟨_, rfl⟩
      have hxr := HR.out _ (List.getElem_mem hjl)
      rw [hx] at hxr
      have hx' : Vs[j]? = some ⟨k, x, t⟩ := by rw [List.getElem?_eq_getElem hjl, hx]
      obtain ⟨b, off, rfl, hb, hcs⟩ := HV.out.some hjn
      have c0 : wr.cell? ⟨b, off + j * 3, none⟩ = some (.int .i64 k) := (HBEL.out.cell (p := ⟨b, off + j * 3, none⟩) hb).trans (hcs j _ hx' 0 _ rfl)
      have c1 : wr.cell? ⟨b, off + j * 3 + 1, none⟩ = some (.int .i64 x) := (HBEL.out.cell (p := ⟨b, off + j * 3 + 1, none⟩) hb).trans (hcs j _ hx' 1 _ rfl)
      have c2 : wr.cell? ⟨b, off + j * 3 + 2, none⟩ = some (.string t) := (HBEL.out.cell (p := ⟨b, off + j * 3 + 2, none⟩) hb).trans (hcs j _ hx' 2 _ rfl)
      have hbr : b < wr.heap.size := by omega
      have htk : Vs.take (j + 1) = Vs.take j ++ [⟨k, x, t⟩] := by rw [List.take_succ_eq_append_getElem hjl, hx]
      have HTK := Lib.hid htk
      have HRT := Lib.hid (fun W => lright_any k x t W)
      have HTO := Lib.hid (fun W => lto_any k x t W)
      have HVK := Lib.hid (fun h => lright_ok (v := ⟨k, x, t⟩) h hxr)
      simp only at HVK
      obtain ⟨o, hoo⟩ : ∃ o, lrightB k x t = o := ⟨_, rfl⟩
      rw [hoo] at HRT HVK
      have hjn' : (j : Int) < (n : Int) := by omega
      have hj0 : (0 : Int) ≤ (j : Int) := by omega
      clear hx hx' hcs htk hoo hxr
      cases o
      · go_wp2_with fail
        refine (HRT.out _).mono ?_
        rintro e w2 ⟨rfl, hb2⟩
        go_wp2_with fail
        go_ret2
        exact ⟨⟨_, _, rfl, fun h => by cases h⟩, bel_call hb2 HBEL.out (by omega)⟩
      · go_wp2_with fail
        refine (HRT.out _).mono ?_
        rintro e w2 ⟨rfl, hb2⟩
        obtain ⟨hc2, hf2, hz2⟩ := bcell hb2 (by first | (simp only [World.size_alloc, World.size_setCell, World.size_drew]; rfl) | rfl)
        go_wp2_with fail
        refine (HTO.out _).mono ?_
        rintro e w3 ⟨rfl, hb3⟩
        have hb23 : Below wr.heap.size wr w3 := by (repeat' (first | (with_reducible exact Below.refl _ _) | (with_reducible assumption) | (with_reducible refine Below.alloc ?_ ?_ _) | (with_reducible refine bel_drewN ?_ _) | (with_reducible refine Below.drew ?_) | (with_reducible refine Below.setCell ?_ ?_ _) | (with_reducible refine bel_call ‹_› ?_ ?_) | go_size))
        have HO3 := Lib.hid (row_below HO.out hb23)
        have hbw3 : Below w.heap.size w w3 := bel_call hb23 HBEL.out (by omega)
        clear hc2 hf2 hb2 hb3
        go_wp2_with (at_builtin; refine wpList_append_own _ rfl _ _ _ rfl w.heap.size 41 i0 (.agg #[.int .i64 0, .int .i64 0, .string ByteArray.empty]) 3 32 Try.underlying23 hi iz0 iz1 iz2 rfl (by decide) _ _ _ rfl (HO3.out.alloc _) ⟨w3.heap.size, 0, none⟩ 1 1 (vlE ⟨k, x, t⟩) rfl rfl ?c1 ?c2 ?c3 ?c4 ?c5 ?_)
        case c1 => exact new3 w3 _ _ _ _
        case c2 => intro u hu; simp [vlE] at hu; rcases hu with rfl | rfl | rfl <;> rfl
        case c3 => unfold maxLen; omega
        case c4 => omega
        case c5 => have := hbw3.size; first | omega | (simp; omega)
        intro v' w4 hown4 hgrow4 _
        have hb4 : Below w.heap.size w w4 := (hbw3.alloc (by have := hbw3.size; omega) _).grown hgrow4 (by have := hbw3.size; simp; omega) (fun k hk => (HO3.out.lt k hk).1)
        have HO4 := Lib.hid hown4
        clear hown4 hgrow4
        go_wp2_with fail
        go_roundg (gk - 1)
        case measure => omega
        case rel => exact ⟨j + 1, by omega, by go_num, by
          rw [HTK.out]
          intro y hy
          rcases List.mem_append.1 hy with hy | hy
          · exact HOK.out y hy
          · rw [List.mem_singleton.1 hy]; exact HVK.out (by first | trivial | rfl), by rw [HTK.out, flat_snoc]; exact HO4.out, hb4⟩
    · have hcase : (j : Int) < (n : Int) ∧ ¬ (j : Int) < 40 ∨ ¬ (j : Int) < (n : Int) := by omega
      have FIN : Hid ((decide ((n : Int) ≤ 40) = true) → (∀ x ∈ Vs, vlOk x) ∧ n ≤ 40 ∧ Vs.take j = Vs) := fun h => by
        have h : (n : Int) ≤ 40 := by simpa using h
        have ht : Vs.take j = Vs := List.take_of_length_le (by rw [HN.out]; omega)
        refine ⟨?_, by omega, ht⟩
        have := HOK.out
        rw [ht] at this
        exact this
      rcases hcase with ⟨h1, h2⟩ | h1
      all_goals
        go_wp2_with fail
        go_ret2
        refine ⟨⟨_, _, rfl, fun h => ?_⟩, HBEL.out⟩
        obtain ⟨f1, f2, f3⟩ := FIN.out h
        have hown := HO.out
        rw [f3] at hown
        have hjn : j = n := by have := congrArg List.length f3; rw [List.length_take, HN.out] at this; omega
        rw [hjn] at hown
        obtain ⟨p', cap', rfl, _, _, hrd, _⟩ := RdG.of_own vlE_len HN.out hown
        exact ⟨f1, f2, p', cap', rfl, hrd⟩
end Go.Proofs.Ytpggidkcifnhjaa
