/- Trees over stamps: which may be, by the document: plain part, and its Right. -/
import Derived.Test.YtljloggbfmnjmaaDoorTnG
import Derived.Test.YtljloggbfmnjmaaDoorTreJ
set_option linter.unusedSimpArgs false
set_option linter.unusedVariables false
namespace Go.Proofs.YtljloggbfmnjmaaDoor
open Go.RowKit Go.Joins

/-- A tree of texts, rows and numbers that Go's types hold. -/
inductive Gd : Bn → Prop
  | mk (k u : Int) (t : List UInt8) (f o : Rfp) (a : List Bn) (h1 : t.length ≤ 100000) (h2 : a.length ≤ 100000) (h3 : -9223372036854775808 ≤ u ∧ u ≤ 9223372036854775807) (h4 : 0 ≤ f.1.1 ∧ 0 ≤ f.2.1 ∧ 0 ≤ o.1.1 ∧ 0 ≤ o.2.1) (h5 : ∀ c ∈ a, Gd c) : Gd (.mk k u t f o a)
theorem Gd.sm : ∀ {n : Bn}, Gd n → Sm n
  | _, .mk k u t f o a h1 h2 h3 h4 h5 => .mk k u t f o a h1 h2 (fun c hc => (h5 c hc).sm)
theorem Gd.child {n c : Bn} (h : Gd n) (hc : c ∈ n.args) : Gd c := by cases h with | mk k u t f o a h1 h2 h3 h4 h5 => exact h5 c hc
theorem Gd.stamps {n : Bn} (h : Gd n) : 0 ≤ n.frm.1.1 ∧ 0 ≤ n.frm.2.1 ∧ 0 ≤ n.tor.1.1 ∧ 0 ≤ n.tor.2.1 := by cases h with | mk k u t f o a h1 h2 h3 h4 h5 => exact h4
mutual
def toNd : Tn Int → Nd
  | .mk k u t f o a => .mk k u t f o (toNdL a)
def toNdL : List (Tn Int) → List Nd
  | [] => []
  | c :: r => toNd c :: toNdL r
end
theorem toNdL_map : ∀ a, toNdL a = a.map toNd
  | [] => rfl
  | c :: r => by rw [toNdL, toNdL_map r]; rfl
theorem toNd_args (n : Tn Int) : (toNd n).args = n.args.map toNd := by cases n; rw [toNd]; exact toNdL_map _
theorem toNd_cells (n : Tn Int) (p : Option Addr) (l c : Nat) : ndC (toNd n) p l c = tnC inE n p l c := by cases n; rw [toNd]; rfl
theorem toNd_arr (n : Tn Int) (p : Option Addr) (l c : Nat) : ndA (toNd n) p l c = inA n p l c := by cases n; rw [toNd]; rfl
theorem RdQ.toT {w : World} {ok : Nat → Prop} {N : Nat} (hN : w.heap.size ≤ N) : ∀ {d : Nat} {n : Tn Int} {p : Option Addr} {len : Nat}, RdQ inE 6 w ok d n p len → RdT w N d (toNd n) p len
  | 0, n, p, len, h => ⟨by rw [toNd_args, h.1]; rfl, h.2⟩
  | d + 1, n, p, len, h => by
    obtain ⟨h1, h2⟩ := h
    refine ⟨by rw [toNd_args, List.length_map]; exact h1, ?_⟩
    rcases h2 with h2 | ⟨b, off, h3, _, hl, h5⟩
    · exact .inl h2
    · refine .inr ⟨b, off, h3, by omega, fun j c hc => ?_⟩
      rw [toNd_args, List.getElem?_map] at hc
      cases hj : n.args[j]? with
      | none => rw [hj] at hc; cases hc
      | some q =>
        rw [hj] at hc
        obtain rfl : toNd q = c := by simpa using hc
        obtain ⟨p', l', c', h6, h7⟩ := h5 j q hj
        exact ⟨p', l', c', fun k u hu => h6 k u (by rw [← toNd_cells]; exact hu), RdQ.toT hN h7⟩
theorem sh_len : ∀ a : List Bn, (toNdL (shTL a)).length = a.length
  | [] => rfl
  | c :: r => by rw [shTL, toNdL, List.length_cons, sh_len r]; rfl
mutual
theorem rt_sh : ∀ (n : Bn) (lv : Int), rtN (toNd (shT n)) lv = rtT n lv
  | .mk k u t f o a, lv => by
    rw [shT, toNd, rtN, rtT, rt_shL a]
    have e1 : headB (.mk k u t 0 0 (toNdL (shTL a))) lv = headT (.mk k u t f o a) lv := by
      show (decide (1 ≤ lv) && (decide (1 ≤ k) && (decide (k ≤ 8) && arB k (toNdL (shTL a)).length))) = (decide (1 ≤ lv) && (decide (1 ≤ k) && (decide (k ≤ 8) && arB k a.length)))
      rw [sh_len]
    rw [e1]
    rfl
theorem rt_shL : ∀ (a : List Bn) (lv : Int), rtL (toNdL (shTL a)) lv = rtTL a lv
  | [], lv => by rw [shTL, toNdL, rtL, rtTL]
  | c :: r, lv => by rw [shTL, toNdL, rtL, rtTL, rt_sh c, rt_shL r]
end
theorem Gd.okN : ∀ {n : Bn}, Gd n → OkN (toNd (shT n))
  | _, .mk k u t f o a h1 h2 h3 h4 h5 => by
    rw [shT, toNd]
    refine .mk _ _ _ _ _ _ (by omega) (by rw [sh_len]; omega) h3 (by omega) (by omega) (fun c hc => ?_)
    rw [toNdL_map, shTL_map, List.map_map] at hc
    obtain ⟨x, hx, rfl⟩ := List.mem_map.1 hc
    exact (h5 x hx).okN
/-- May a tree be: its shape, and all its stamps? -/
def rgN : Bn → Bool
  | .mk k u t f o a => rtT (.mk k u t f o a) 64 && (stO k f o && rgL a)
where rgL : List Bn → Bool
  | [] => true
  | c :: r => rgN c && rgL r
theorem rgN_eq (n : Bn) : rgN n = (rtT n 64 && (stO n.kind n.frm n.tor && rgN.rgL n.args)) := by cases n; rw [rgN]; rfl
theorem rgL_at {a : List Bn} {i : Nat} {c : Bn} (h : a[i]? = some c) : rgN.rgL (a.drop i) = (rgN c && rgN.rgL (a.drop (i + 1))) := by
  obtain ⟨hi, e⟩ := List.getElem?_eq_some_iff.1 h
  rw [List.drop_eq_getElem_cons hi, rgN.rgL, e]
end Go.Proofs.YtljloggbfmnjmaaDoor
