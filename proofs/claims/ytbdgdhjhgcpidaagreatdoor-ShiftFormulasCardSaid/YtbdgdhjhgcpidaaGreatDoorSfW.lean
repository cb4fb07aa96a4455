/- Shift: cells as numbers, and trees over them, moved (plain part). The document's Cell of ref34. Printed by gen_shf.py. -/
import Derived.Test.YtbdgdhjhgcpidaaGreatDoorSfT
import Derived.Test.YtbdgdhjhgcpidaaGreatDoorSfV
import Derived.Test.YtbdgdhjhgcpidaaGreatDoorSfS
set_option linter.unusedSimpArgs false
set_option linter.unusedVariables false
namespace Go.Proofs.YtbdgdhjhgcpidaaGreatDoor
open Go.RowKit Go.Joins
def mvC (cols rows k : Int) : Int := if rtC (cC k + cols) (cR k + rows) = true then (cC k + cols) * 10000 + (cR k + rows) else 0
mutual
def mvN (cols rows : Int) : Nd → Nd
  | .mk k u t f o a => if ((k = 3 ∨ k = 4) ∧ mvC cols rows f = 0) ∨ (k = 4 ∧ mvC cols rows o = 0) then .mk 8 0 [] 0 0 [] else .mk k u t (if k = 3 ∨ k = 4 then mvC cols rows f else 0) (if k = 4 then mvC cols rows o else 0) (mvNL cols rows a)
def mvNL (cols rows : Int) : List Nd → List Nd
  | [] => []
  | c :: r => mvN cols rows c :: mvNL cols rows r
end
theorem mvNL_map (cols rows : Int) : ∀ a, mvNL cols rows a = a.map (mvN cols rows)
  | [] => rfl
  | c :: r => by rw [mvNL, mvNL_map cols rows r]; rfl
theorem okC_bnd {k : Int} (h : OkC k) : 1 ≤ cC k ∧ cC k ≤ 702 ∧ 1 ≤ cR k ∧ cR k ≤ 9999 := by
  unfold OkC rtC at h
  simp at h
  omega
theorem cCR_eq (k : Int) : cC k * 10000 + cR k = k := by
  have e := Int.mul_tdiv_add_tmod k 10000
  show Int.tdiv k 10000 * 10000 + Int.tmod k 10000 = k
  omega
theorem cCR_mk {c r : Int} (h : rtC c r = true) : cC (c * 10000 + r) = c ∧ cR (c * 10000 + r) = r := by
  unfold rtC at h
  simp at h
  refine ⟨?_, ?_⟩
  · unfold cC
    rw [Int.tdiv_eq_ediv_of_nonneg (by omega)]
    omega
  · unfold cR
    rw [Int.tmod_eq_emod_of_nonneg (by omega)]
    omega
theorem mvC_if (cols rows k : Int) : (rtC (cC k + cols) (cR k + rows) = true ∧ mvC cols rows k = (cC k + cols) * 10000 + (cR k + rows) ∧ mvC cols rows k ≠ 0) ∨ (rtC (cC k + cols) (cR k + rows) = false ∧ mvC cols rows k = 0) := by
  unfold mvC
  cases h : rtC (cC k + cols) (cR k + rows) with
  | true =>
    left
    rw [if_pos rfl]
    refine ⟨rfl, rfl, ?_⟩
    unfold rtC at h
    simp at h
    omega
  | false => right; exact ⟨rfl, if_neg (by simp)⟩
theorem mvC_ok {cols rows k : Int} (h : mvC cols rows k ≠ 0) : OkC (mvC cols rows k) ∧ cC (mvC cols rows k) = cC k + cols ∧ cR (mvC cols rows k) = cR k + rows ∧ 0 ≤ mvC cols rows k ∧ mvC cols rows k ≤ 10000000 := by
  rcases mvC_if cols rows k with ⟨h1, h2, _⟩ | ⟨_, h2⟩
  · rw [h2]
    obtain ⟨e1, e2⟩ := cCR_mk h1
    refine ⟨?_, e1, e2, ?_, ?_⟩
    · unfold OkC; rw [e1, e2]; exact h1
    · unfold rtC at h1; simp at h1; omega
    · unfold rtC at h1; simp at h1; omega
  · exact absurd h2 h
theorem mvC_back {cols rows k : Int} (hk : OkC k) (h : mvC cols rows k ≠ 0) : mvC (-cols) (-rows) (mvC cols rows k) = k := by
  obtain ⟨_, e1, e2, _, _⟩ := mvC_ok h
  unfold mvC at e1 e2 ⊢
  rw [e1, e2, show cC k + cols + -cols = cC k from by omega, show cR k + rows + -rows = cR k from by omega, if_pos (show rtC (cC k) (cR k) = true from hk), cCR_eq]
theorem okC_ne {k : Int} (h : OkC k) : k ≠ 0 := by
  have := okC_bnd h
  have := cCR_eq k
  omega
theorem fm_mv (cols rows : Int) {n : Nd} (h : Fm n) : Fm (mvN cols rows n) := by
  induction h with
  | num u h1 h2 => rw [mvN, if_neg (by omega), mvNL, if_neg (by omega), if_neg (by omega)]; exact .num u h1 h2
  | txt t => rw [mvN, if_neg (by omega), mvNL, if_neg (by omega), if_neg (by omega)]; exact .txt t
  | ref f h =>
    rw [mvN]
    split
    · exact .flt
    · rename_i h0
      rw [mvNL, if_pos (by omega), if_neg (by omega)]
      exact .ref _ (mvC_ok (fun e => h0 (.inl ⟨.inl rfl, e⟩))).1
  | rng f o h1 h2 =>
    rw [mvN]
    split
    · exact .flt
    · rename_i h0
      rw [mvNL, if_pos (by omega), if_pos rfl]
      exact .rng _ _ (mvC_ok (fun e => h0 (.inl ⟨.inr rfl, e⟩))).1 (mvC_ok (fun e => h0 (.inr ⟨rfl, e⟩))).1
  | neg a h ih => rw [mvN, if_neg (by omega), mvNL, mvNL, if_neg (by omega), if_neg (by omega)]; exact .neg _ ih
  | bin t a b ht h1 h2 ih1 ih2 => rw [mvN, if_neg (by omega), mvNL, mvNL, mvNL, if_neg (by omega), if_neg (by omega)]; exact .bin t _ _ ht ih1 ih2
  | cal t ar ht hl h ih =>
    rw [mvN, if_neg (by omega), mvNL_map, if_neg (by omega), if_neg (by omega)]
    refine .cal t _ ht (by rw [List.length_map]; exact hl) (fun c hc => ?_)
    obtain ⟨x, hx, rfl⟩ := List.mem_map.1 hc
    exact ih x hx
  | flt => rw [mvN, if_neg (by omega), mvNL, if_neg (by omega), if_neg (by omega)]; exact .flt
mutual
def lvK : Nd → List Int
  | .mk k _ _ _ _ a => if k = 3 ∨ k = 4 ∨ k = 8 then [k] else lvKL a
def lvKL : List Nd → List Int
  | [] => []
  | c :: r => lvK c ++ lvKL r
end
mutual
theorem lvK_len (cols rows : Int) : ∀ n : Nd, (lvK (mvN cols rows n)).length = (lvK n).length
  | .mk k u t f o a => by
    rw [mvN]
    split
    · rename_i h
      rw [lvK, if_pos (by omega), lvK, if_pos (by omega)]
      rfl
    · rw [lvK, lvK]
      split
      · rfl
      · exact lvKL_len cols rows a
theorem lvKL_len (cols rows : Int) : ∀ a : List Nd, (lvKL (mvNL cols rows a)).length = (lvKL a).length
  | [] => rfl
  | c :: r => by rw [mvNL, lvKL, lvKL, List.length_append, List.length_append, lvK_len cols rows c, lvKL_len cols rows r]
end
theorem lvKL_mem (cols rows : Int) : ∀ (a : List Nd), lvKL (a.map (mvN cols rows)) = lvKL a → ∀ c ∈ a, lvK (mvN cols rows c) = lvK c
  | [], _, c, hc => by cases hc
  | x :: r, h, c, hc => by
    rw [List.map_cons, lvKL, lvKL] at h
    obtain ⟨h1, h2⟩ := List.append_inj h (lvK_len cols rows x)
    rcases List.mem_cons.1 hc with rfl | hc
    · exact h1
    · exact lvKL_mem cols rows r h2 c hc
theorem mv_back (cols rows : Int) {n : Nd} (h : Fm n) : lvK (mvN cols rows n) = lvK n → mvN (-cols) (-rows) (mvN cols rows n) = n := by
  induction h with
  | num u h1 h2 => intro _; simp [mvN, mvNL]
  | txt t => intro _; simp [mvN, mvNL]
  | ref f h =>
    intro he
    rw [mvN] at he ⊢
    by_cases h0 : mvC cols rows f = 0
    · rw [if_pos (.inl ⟨.inl rfl, h0⟩)] at he
      simp [lvK] at he
    · rw [if_neg (by omega), mvNL, if_pos (by omega), if_neg (by omega), mvN, mvC_back h h0, if_neg (by have := okC_ne h; omega), if_pos (by omega), if_neg (by omega), mvNL]
  | rng f o h1 h2 =>
    intro he
    rw [mvN] at he ⊢
    by_cases h0 : mvC cols rows f = 0
    · rw [if_pos (.inl ⟨.inr rfl, h0⟩)] at he
      simp [lvK] at he
    · by_cases h3 : mvC cols rows o = 0
      · rw [if_pos (.inr ⟨rfl, h3⟩)] at he
        simp [lvK] at he
      · rw [if_neg (by omega), mvNL, if_pos (by omega), if_pos rfl, mvN, mvC_back h1 h0, mvC_back h2 h3, if_neg (by have := okC_ne h1; have := okC_ne h2; omega), if_pos (by omega), if_pos rfl, mvNL]
  | neg a h ih =>
    intro he
    have e : mvN cols rows (.mk 5 0 [] 0 0 [a]) = .mk 5 0 [] 0 0 [mvN cols rows a] := by simp [mvN, mvNL]
    rw [e] at he ⊢
    have := ih (by simpa [lvK, lvKL] using he)
    simp [mvN, mvNL, this]
  | bin t a b ht h1 h2 ih1 ih2 =>
    intro he
    have e : mvN cols rows (.mk 6 0 t 0 0 [a, b]) = .mk 6 0 t 0 0 [mvN cols rows a, mvN cols rows b] := by simp [mvN, mvNL]
    rw [e] at he ⊢
    have hk : lvKL ([a, b].map (mvN cols rows)) = lvKL [a, b] := by simpa [lvK] using he
    have e1 := ih1 (lvKL_mem cols rows [a, b] hk a (by simp))
    have e2 := ih2 (lvKL_mem cols rows [a, b] hk b (by simp))
    simp [mvN, mvNL, e1, e2]
  | cal t ar ht hl h ih =>
    intro he
    have e : mvN cols rows (.mk 7 0 t 0 0 ar) = .mk 7 0 t 0 0 (ar.map (mvN cols rows)) := by simp [mvN, mvNL_map]
    rw [e] at he ⊢
    have hk : lvKL (ar.map (mvN cols rows)) = lvKL ar := by simpa [lvK] using he
    have e2 : mvN (-cols) (-rows) (.mk 7 0 t 0 0 (ar.map (mvN cols rows))) = .mk 7 0 t 0 0 ((ar.map (mvN cols rows)).map (mvN (-cols) (-rows))) := by simp [mvN, mvNL_map]
    rw [e2, List.map_map]
    congr 1
    conv => rhs; rw [← List.map_id ar]
    refine List.map_congr_left (fun c hc => ?_)
    exact ih c hc (lvKL_mem cols rows ar hk c hc)
  | flt => intro _; simp [mvN, mvNL]
theorem fm_len {n : Nd} (h : Fm n) : n.args.length ≤ 16 := by
  cases h with
  | cal t ar ht hl h => exact hl
  | _ => simp [Nd.args]
theorem fm_child {n c : Nd} (h : Fm n) (hc : c ∈ n.args) : Fm c := by
  cases h with
  | cal t ar ht hl h => exact h c hc
  | neg a h => obtain rfl := List.mem_singleton.1 hc; exact h
  | bin t a b ht h1 h2 =>
    rcases List.mem_cons.1 hc with rfl | hc
    · exact h1
    · obtain rfl := List.mem_singleton.1 hc; exact h2
  | _ => cases hc
theorem fm_refs {n : Nd} (h : Fm n) : (n.kind = 3 ∨ n.kind = 4 → OkC n.frm) ∧ (n.kind = 4 → OkC n.tor) := by
  cases h with
  | ref f h => exact ⟨fun _ => h, fun e => by simp [Nd.kind] at e⟩
  | rng f o h1 h2 => exact ⟨fun _ => h1, fun _ => h2⟩
  | _ => exact ⟨fun e => by simp [Nd.kind] at e, fun e => by simp [Nd.kind] at e⟩
abbrev fltN : Nd := .mk 8 0 [] 0 0 []
theorem mvN_flt {cols rows : Int} {n : Nd} (h : ((n.kind = 3 ∨ n.kind = 4) ∧ mvC cols rows n.frm = 0) ∨ (n.kind = 4 ∧ mvC cols rows n.tor = 0)) : mvN cols rows n = fltN := by
  cases n
  rw [mvN]
  exact if_pos h
theorem mvN_go {cols rows : Int} {n : Nd} (h : ¬ (((n.kind = 3 ∨ n.kind = 4) ∧ mvC cols rows n.frm = 0) ∨ (n.kind = 4 ∧ mvC cols rows n.tor = 0))) : mvN cols rows n = .mk n.kind n.num n.text (if n.kind = 3 ∨ n.kind = 4 then mvC cols rows n.frm else 0) (if n.kind = 4 then mvC cols rows n.tor else 0) (n.args.map (mvN cols rows)) := by
  cases n
  rw [mvN, mvNL_map]
  exact if_neg h
mutual
theorem mv_cn (cols rows : Int) : ∀ n : Nd, cnN (mvN cols rows n) ≤ cnN n
  | .mk k u t f o a => by
    rw [mvN]
    split
    · rw [cnN, cnN, cnL]; omega
    · rw [cnN, cnN]; have := mv_cnL cols rows a; omega
theorem mv_cnL (cols rows : Int) : ∀ a : List Nd, cnL (mvNL cols rows a) ≤ cnL a
  | [] => by rw [mvNL]; exact Nat.le_refl _
  | c :: r => by
    rw [mvNL, cnL, cnL]
    have := mv_cn cols rows c
    have := mv_cnL cols rows r
    omega
end
theorem mv_okN (cols rows : Int) {n : Nd} (h : Fm n) : OkN n → OkN (mvN cols rows n) := by
  induction h with
  | num u h1 h2 => intro ho; simpa [mvN, mvNL] using ho
  | txt t => intro ho; simpa [mvN, mvNL] using ho
  | ref f h =>
    intro ho
    rw [mvN]
    split
    · exact gd_flt.ok
    · rename_i h0
      rw [mvNL, if_pos (by omega), if_neg (by omega)]
      obtain ⟨e1, _, _, e4, e5⟩ := mvC_ok (show mvC cols rows f ≠ 0 from fun e => h0 (.inl ⟨.inl rfl, e⟩))
      exact (gd_ref e1 e4 e5).ok
  | rng f o h1 h2 =>
    intro ho
    rw [mvN]
    split
    · exact gd_flt.ok
    · rename_i h0
      rw [mvNL, if_pos (by omega), if_pos rfl]
      obtain ⟨e1, _, _, e4, e5⟩ := mvC_ok (show mvC cols rows f ≠ 0 from fun e => h0 (.inl ⟨.inr rfl, e⟩))
      obtain ⟨d1, _, _, d4, d5⟩ := mvC_ok (show mvC cols rows o ≠ 0 from fun e => h0 (.inr ⟨rfl, e⟩))
      exact (gd_rng e1 e4 e5 d1 d4 d5).ok
  | neg a h ih =>
    intro ho
    have := ih (ho.child (by simp [Nd.args]))
    cases ho with
    | mk _ _ _ _ _ _ h1 h2 h3 h4 h5 h6 =>
      simp only [mvN, mvNL]
      rw [if_neg (by omega), if_neg (by omega), if_neg (by omega)]
      exact .mk _ _ _ _ _ _ h1 h2 h3 h4 h5 (fun c hc => by obtain rfl := List.mem_singleton.1 hc; exact this)
  | bin t a b ht h1 h2 ih1 ih2 =>
    intro ho
    have e1 := ih1 (ho.child (by simp [Nd.args]))
    have e2 := ih2 (ho.child (by simp [Nd.args]))
    cases ho with
    | mk _ _ _ _ _ _ h1 h2 h3 h4 h5 h6 =>
      simp only [mvN, mvNL]
      rw [if_neg (by omega), if_neg (by omega), if_neg (by omega)]
      exact .mk _ _ _ _ _ _ h1 h2 h3 h4 h5 (fun c hc => by
        rcases List.mem_cons.1 hc with rfl | hc
        · exact e1
        · obtain rfl := List.mem_singleton.1 hc; exact e2)
  | cal t ar ht hl h ih =>
    intro ho
    have e1 := fun c hc => ih c hc (ho.child (n := .mk 7 0 t 0 0 ar) (c := c) hc)
    cases ho with
    | mk _ _ _ _ _ _ h1 h2 h3 h4 h5 h6 =>
      rw [mvN, mvNL_map, if_neg (by omega), if_neg (by omega), if_neg (by omega)]
      exact .mk _ _ _ _ _ _ h1 (by rw [List.length_map]; exact h2) h3 h4 h5 (fun c hc => by
        obtain ⟨x, hx, rfl⟩ := List.mem_map.1 hc
        exact e1 x hx)
  | flt => intro ho; simpa [mvN, mvNL] using ho
end Go.Proofs.YtbdgdhjhgcpidaaGreatDoor
namespace Go.Proofs.YtbdgdhjhgcpidaaGreatDoor
open Go.RowKit Go.Joins
set_option maxRecDepth 100000 in
set_option maxHeartbeats 16000000 in
theorem r34cell_any (k cols rows : Int) (hk : OkC k) (hc1 : -9223372036854775808 ≤ cols) (hc2 : cols ≤ 9223372036854775807) (hr1 : -9223372036854775808 ≤ rows) (hr2 : rows ≤ 9223372036854775807) (w : World) :
    Calls Tryz.prog 8 #[.int .i64 k, .int .i64 cols, .int .i64 rows] w fun e w' => e = .returned (.int .i64 (mvC cols rows k)) ∧ Below w.heap.size w w' := by
  obtain ⟨b1, b2, b3, b4⟩ := okC_bnd hk
  have HNO := Lib.hid (fun (h : 1000 < cols ∨ cols < -1000 ∨ 20000 < rows ∨ rows < -20000) => (show mvC cols rows k = 0 from by
    rcases mvC_if cols rows k with ⟨h1, _, _⟩ | ⟨_, h2⟩
    · exfalso
      unfold rtC at h1
      simp at h1
      omega
    · exact h2))
  have HMV := Lib.hid (mvC_if cols rows k)
  have g1 : Int.tdiv k 10000 = cC k := rfl
  have g2 : Int.tmod k 10000 = cR k := rfl
  generalize mvC cols rows k = M at HNO HMV ⊢
  generalize cC k = c at *
  generalize cR k = r at *
  have g3 : IntKind.i64.wrap c = c := IntWalk.i64_in _ (by omega)
  have g4 : IntKind.i64.wrap r = r := IntWalk.i64_in _ (by omega)
  clear hk
  by_cases x1 : 1000 < cols
  · have HM := HNO.out (by omega)
    rw [HM]
    clear HNO HMV HM g1 g2 g3 g4
    go_enter Tryz.func8, Tryz.ntmps8
    go_wp2_with fail
    go_ret
    exact ⟨rfl, Below.refl _ _⟩
  · by_cases x2 : cols < -1000
    · have HM := HNO.out (by omega)
      rw [HM]
      clear HNO HMV HM g1 g2 g3 g4
      go_enter Tryz.func8, Tryz.ntmps8
      go_wp2_with fail
      go_ret
      exact ⟨rfl, Below.refl _ _⟩
    · by_cases x3 : 20000 < rows
      · have HM := HNO.out (by omega)
        rw [HM]
        clear HNO HMV HM g1 g2 g3 g4
        go_enter Tryz.func8, Tryz.ntmps8
        go_wp2_with fail
        go_ret
        exact ⟨rfl, Below.refl _ _⟩
      · by_cases x4 : rows < -20000
        · have HM := HNO.out (by omega)
          rw [HM]
          clear HNO HMV HM g1 g2 g3 g4
          go_enter Tryz.func8, Tryz.ntmps8
          go_wp2_with fail
          go_ret
          exact ⟨rfl, Below.refl _ _⟩
        · have g5 : IntKind.i64.wrap (c + cols) = c + cols := IntWalk.i64_in _ (by omega)
          have g6 : IntKind.i64.wrap (r + rows) = r + rows := IntWalk.i64_in _ (by omega)
          have HRT := Lib.hid (fun W => r7right_any (c + cols) (r + rows) W)
          clear HNO
          rcases HMV.out with ⟨h1, h2, _⟩ | ⟨h1, h2⟩
          · rw [h1] at HRT
            unfold rtC at h1
            simp at h1
            rw [h2]
            clear HMV h2
            go_enter Tryz.func8, Tryz.ntmps8
            go_wp2_with fail
            refine (HRT.out _).mono ?_
            rintro e w1 ⟨rfl, hb⟩
            go_wp2_with fail
            refine (rcell_num (c + cols) (r + rows) (by omega) (by omega) (by omega) (by omega) _).mono ?_
            rintro e w2 ⟨rfl, hw⟩
            rw [← hw]
            clear hw
            go_wp2_with fail
            go_ret
            exact ⟨rfl, hb⟩
          · rw [h1] at HRT
            rw [h2]
            clear HMV h2 h1
            go_enter Tryz.func8, Tryz.ntmps8
            go_wp2_with fail
            refine (HRT.out _).mono ?_
            rintro e w1 ⟨rfl, hb⟩
            go_wp2_with fail
            go_ret
            exact ⟨rfl, hb⟩
end Go.Proofs.YtbdgdhjhgcpidaaGreatDoor
