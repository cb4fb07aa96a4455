/- Trees: write at numbers and names. Printed by gen_trex.py. Trees: write at a sign ahead and at sums. Printed by gen_trex.py. Trees: the document's Quote and holds. Printed by gen_trexc.py. Trees: the document's Print. Printed by gen_trexc.py. Trees: the law's 'named'. Printed by gen_trexf.py. -/
import Derived.Test.YtbdgdhjhgcpidaaGreatDoorSfP
import Derived.Test.YtbdgdhjhgcpidaaGreatDoorSfR
import Derived.Deep.CutBlock
set_option linter.unusedSimpArgs false
set_option linter.unusedVariables false
namespace Go.Proofs.YtbdgdhjhgcpidaaGreatDoor
open Go.RowKit Go.Joins
theorem txt_lenT (d : Int) (hlo : -9223372036854775808 ≤ d) (hhi : d ≤ 9223372036854775807) : (txt d).length ≤ 300 := by
  have hq : d.natAbs / 1000000 ≤ 9223372036854775808 := Nat.le_trans (Nat.div_le_self _ _) (by omega)
  have hr : d.natAbs % 1000000 < 1000000 := Nat.mod_lt _ (by omega)
  have h1 := dgText_len (d.natAbs / 1000000) 1 (by omega) (by omega)
  have h2 := dgText_len (d.natAbs % 1000000) 6 (by omega) (by omega)
  have h3 := trimRightB_len (dgText (d.natAbs % 1000000) 6) 48
  unfold txt
  simp only [List.length_append]
  have h4 : (if d < 0 then [(45 : UInt8)] else []).length ≤ 1 := by split <;> simp
  have h5 : (if 0 < d.natAbs % 1000000 then (46 : UInt8) :: Lib.trimRightB (dgText (d.natAbs % 1000000) 6) 48 else []).length ≤ 121 := by
    split
    · simp; omega
    · simp
  omega
end Go.Proofs.YtbdgdhjhgcpidaaGreatDoor
namespace Go.Proofs.YtbdgdhjhgcpidaaGreatDoor
open Go.RowKit Go.Joins
theorem lvS_lo (s : Bs) : 0 ≤ lvS s := by
  unfold lvS
  split
  · omega
  · split
    · omega
    · split
      · omega
      · split <;> omega
theorem rtL_all : ∀ {a : List Nd} {lv : Int}, rtL a lv = true → ∀ c ∈ a, rtN c lv = true
  | [], _, _, c, hc => by cases hc
  | x :: r, lv, h, c, hc => by
    rw [rtL, Bool.and_eq_true] at h
    rcases List.mem_cons.1 hc with rfl | hc
    · exact h.1
    · exact rtL_all h.2 c hc
theorem rtN_kids {n : Nd} {lv : Int} (h : rtN n lv = true) : ∀ c ∈ n.args, rtN c (lv - 1) = true := by
  rw [rtN_eq, Bool.and_eq_true] at h
  exact rtL_all h.2
theorem rtN_arity {n : Nd} {lv : Int} (h : rtN n lv = true) : 1 ≤ n.kind ∧ n.kind ≤ 8 ∧ loK n.kind ≤ n.args.length ∧ n.args.length ≤ hiK n.kind := by
  rw [rtN_eq, Bool.and_eq_true, Bool.and_eq_true] at h
  have h1 := h.1.1
  unfold headB arB at h1
  simp only [Bool.and_eq_true, decide_eq_true_eq] at h1
  exact ⟨h1.2.1, h1.2.2.1, h1.2.2.2⟩
theorem rtN_tag6 {n : Nd} {lv : Int} (h : rtN n lv = true) (hk : n.kind = 6) : 1 ≤ lvS n.text := by
  rw [rtN_eq, Bool.and_eq_true, Bool.and_eq_true] at h
  have h1 := h.1.2
  unfold tagB at h1
  rw [if_neg (by omega), if_pos hk] at h1
  have h2 : lvS n.text ≠ 0 := by simpa using h1
  have h3 := lvS_lo n.text
  omega
theorem args_one {n : Nd} {lv : Int} (h : rtN n lv = true) (hk : n.kind = 5) : ∃ x, n.args = [x] := by
  obtain ⟨_, _, h1, h2⟩ := rtN_arity h
  rw [hk] at h1 h2
  have h1 : 1 ≤ n.args.length := h1
  have h2 : n.args.length ≤ 1 := h2
  match h3 : n.args, h1, h2 with
  | [x], _, _ => exact ⟨x, rfl⟩
theorem args_two {n : Nd} {lv : Int} (h : rtN n lv = true) (hk : n.kind = 6) : ∃ x y, n.args = [x, y] := by
  obtain ⟨_, _, h1, h2⟩ := rtN_arity h
  rw [hk] at h1 h2
  have h1 : 2 ≤ n.args.length := h1
  have h2 : n.args.length ≤ 2 := h2
  match h3 : n.args, h1, h2 with
  | [x, y], _, _ => exact ⟨x, y, rfl⟩
theorem wtN_eq (n : Nd) : wtN n = 400 + 2 * n.text.length + wtL n.args := by cases n; rw [wtN]; rfl
def prJ (a : List Nd) (i : Nat) : Bs := (prT nmS (a.take i)).drop 1
theorem prT_cat (nm : Int → Bs) : ∀ a b : List Nd, prT nm (a ++ b) = prT nm a ++ prT nm b
  | [], b => by rw [prT]; rfl
  | c :: r, b => by rw [List.cons_append, prT, prT, prT_cat nm r b]; simp
theorem prT_snoc {a : List Nd} {i : Nat} {c : Nd} (h : a[i]? = some c) : prT nmS (a.take (i + 1)) = prT nmS (a.take i) ++ 44 :: prN nmS c 1 := by
  rw [List.take_add_one, h, prT_cat]
  show _ ++ prT nmS [c] = _
  rw [prT, prT]
  simp
theorem prJ_one {a : List Nd} {c : Nd} (h : a[0]? = some c) : prJ a 1 = prN nmS c 1 := by
  unfold prJ
  rw [prT_snoc h]
  simp [prT]
theorem prJ_step {a : List Nd} {i : Nat} {c : Nd} (h : a[i]? = some c) (hi : 0 < i) : prJ a (i + 1) = prJ a i ++ 44 :: prN nmS c 1 := by
  unfold prJ
  rw [prT_snoc h]
  have h1 : 1 ≤ (prT nmS (a.take i)).length := by
    cases a with
    | nil => simp at h
    | cons x r =>
      obtain ⟨j, rfl⟩ : ∃ j, i = j + 1 := ⟨i - 1, by omega⟩
      rw [List.take_succ_cons, prT]
      simp
  rw [List.drop_append_of_le_length h1]
theorem wtL_cat : ∀ a b : List Nd, wtL (a ++ b) = wtL a + wtL b
  | [], b => by rw [List.nil_append, wtL, Nat.zero_add]
  | c :: r, b => by rw [List.cons_append, wtL, wtL, wtL_cat r b]; omega
theorem wtL_take (a : List Nd) (i : Nat) : wtL (a.take i) ≤ wtL a := by
  have h := wtL_cat (a.take i) (a.drop i)
  rw [List.take_append_drop] at h
  omega
theorem wtL_at {a : List Nd} {i : Nat} {c : Nd} (h : a[i]? = some c) : wtL (a.take i) + wtN c + 1 ≤ wtL a := by
  have h1 := wtL_take a (i + 1)
  rw [List.take_add_one, h, wtL_cat] at h1
  have h2 : wtL (some c).toList = wtN c + 1 := by
    show wtL [c] = _
    rw [wtL, wtL]
  omega
theorem prJ_len {a : List Nd} (hok : ∀ c ∈ a, OkN c) (i : Nat) : (prJ a i).length ≤ wtL (a.take i) := by
  have h := prT_len nmS_len txt_lenT (a.take i) (fun c hc => hok c (List.mem_of_mem_take hc))
  unfold prJ
  rw [List.length_drop]
  omega
end Go.Proofs.YtbdgdhjhgcpidaaGreatDoor
namespace Go.Proofs.YtbdgdhjhgcpidaaGreatDoor
open Go.RowKit Go.Joins
def nx (L : List UInt8) (i : Nat) : Nat := (L.getD i 0).toNat
theorem nx_lt (L : List UInt8) (i : Nat) : nx L i < 256 := (L.getD i 0).toNat_lt
theorem nx_get {L : List UInt8} {i : Nat} (h : i < L.length) : nx L i = L[i].toNat := by simp [nx, List.getD, h]
theorem nx_str (s : ByteArray) (i : Nat) (h : i < s.size) : ((s[i].toNat : Nat) : Int) = (nx s.data.toList i : Int) := by
  have hl : i < s.data.toList.length := by rw [← Lib.size_eq]; exact h
  rw [nx_get hl]
  simp [ByteArray.getElem_eq_getElem_data]
theorem u8_eta (c : UInt8) : UInt8.ofNat c.toNat = c := by simp
theorem ext_one (s : ByteArray) (j : Nat) (h : j < s.size) : s.extract j (j + 1) = ⟨[UInt8.ofNat (nx s.data.toList j)].toArray⟩ := by
  have hl : j < s.data.toList.length := by rw [← Lib.size_eq]; exact h
  rw [nx_get hl, u8_eta]
  apply ByteArray.ext
  apply Array.ext'
  rw [ByteArray.data_extract, Array.toList_extract, List.extract_eq_take_drop, List.drop_eq_getElem_cons hl, show j + 1 - j = 1 by omega]
  rfl
theorem size_of (X : List UInt8) : (⟨X.toArray⟩ : ByteArray).size = X.length := by rw [Lib.size_eq]
end Go.Proofs.YtbdgdhjhgcpidaaGreatDoor
namespace Go.Proofs.YtbdgdhjhgcpidaaGreatDoor
open Go.RowKit Go.Joins
theorem lvS_hi (s : Bs) : lvS s ≤ 4 := by
  unfold lvS
  split
  · omega
  · split
    · omega
    · split
      · omega
      · split <;> omega
end Go.Proofs.YtbdgdhjhgcpidaaGreatDoor
namespace Go.Proofs.YtbdgdhjhgcpidaaGreatDoor
open Go.RowKit Go.Joins
theorem info_rn : (Tryz.prog.info? tRn).map (fun i => (i.zero, i.size, i.bytes)) = some (some (.agg #[.int .i64 0, .int .i64 0, .string ⟨#[]⟩, .int .i64 0, .int .i64 0, .slice none 0 0]), 6, 72) := by kernel_rfl
theorem newRn (w : World) (c : Nd) (p2 : Option Addr) (l' c2 : Nat) : ∀ j u, (ndC c p2 l' c2)[j]? = some u → (w.alloc (.cells (ndA c p2 l' c2) tRn)).cell? ((⟨w.heap.size, 0, none⟩ : Addr).add j) = some u := by
  intro j u hj
  have hb : NdB tRn (w.alloc (.cells (ndA c p2 l' c2) tRn)) w.heap.size c p2 l' c2 := heap_alloc_new w _
  obtain ⟨c0, c1, c2', c3, c4, c5⟩ := hb.cells
  have hj6 : j < 6 := (List.getElem?_eq_some_iff.1 hj).1
  simp only [Addr.add, Nat.zero_add]
  match j, hj6, hj with
  | 0, _, hj => cases hj; exact c0
  | 1, _, hj => cases hj; exact c1
  | 2, _, hj => cases hj; exact c2'
  | 3, _, hj => cases hj; exact c3
  | 4, _, hj => cases hj; exact c4
  | 5, _, hj => cases hj; exact c5
theorem RdP.of_rowR {w : World} {base d : Nat} {v : Value} {L : List Kid} {n : Nd} {ok : Nat → Prop} (h : w.ownsRow base tRn 6 v L.length (L.flatMap kidC)) (hL : L.map Prod.fst = n.args) (hq : ∀ q ∈ L, RdP w ok d q.1 q.2.1 q.2.2.1) (hown : ∀ b, v.ownBlock = some b → ok b) :
    ∃ p cap, v = .slice p L.length cap ∧ RdP w ok (d + 1) n p L.length := by
  obtain ⟨p, cap, hv, _, _, ⟨_, hr⟩, _⟩ := RdG.of_own kidC_len rfl h
  refine ⟨p, cap, hv, by rw [← hL, List.length_map], ?_⟩
  rcases hr with hr | ⟨b, off, h1, h2, h3⟩
  · exact .inl hr
  · refine .inr ⟨b, off, h1, hown b (by rw [hv, h1]; rfl), fun j c hc => ?_⟩
    rw [← hL, List.getElem?_map] at hc
    cases hj : L[j]? with
    | none => rw [hj] at hc; cases hc
    | some q =>
      rw [hj] at hc
      obtain rfl : q.1 = c := by simpa using hc
      exact ⟨q.2.1, q.2.2.1, q.2.2.2, fun k u hu => h3 j q hj k u hu, hq q (List.mem_of_getElem? hj)⟩
end Go.Proofs.YtbdgdhjhgcpidaaGreatDoor
