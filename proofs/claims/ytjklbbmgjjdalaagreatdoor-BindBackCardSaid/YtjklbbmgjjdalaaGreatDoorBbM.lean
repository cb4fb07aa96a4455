/- Trees over references of any kind: as plain trees, and as they lie in memory. No function of the program. Trees over cells by stamps: which may be: the program's right, Right. Printed by gen_tnb.py. Trees over cells by stamps, taken from bytes: plain part, and how parts that are built stay. -/
import Derived.Test.YtjklbbmgjjdalaaGreatDoorBbA
import Derived.Deep.MidRow
import Derived.Lib.SmallJoins
import Derived.Test.YtjklbbmgjjdalaaGreatDoorBbB
import Derived.Test.YtjklbbmgjjdalaaGreatDoorBbL
import Derived.Deep.CutBlock
import Derived.Test.YtjklbbmgjjdalaaGreatDoorBbF
import Derived.Test.YtjklbbmgjjdalaaGreatDoorBbO
import Derived.Maps.AppendAt
set_option linter.unusedSimpArgs false
set_option linter.unusedVariables false
namespace Go.Proofs.YtjklbbmgjjdalaaGreatDoor.Bd
open Go.RowKit Go.Joins
inductive Tn (R : Type) where
  | mk (kind num : Int) (text : List UInt8) (frm tor : R) (args : List (Tn R))
section
variable {R : Type}
def Tn.kind : Tn R → Int | .mk k _ _ _ _ _ => k
def Tn.num : Tn R → Int | .mk _ m _ _ _ _ => m
def Tn.text : Tn R → List UInt8 | .mk _ _ t _ _ _ => t
def Tn.frm : Tn R → R | .mk _ _ _ f _ _ => f
def Tn.tor : Tn R → R | .mk _ _ _ _ o _ => o
def Tn.args : Tn R → List (Tn R) | .mk _ _ _ _ _ a => a
def tnC (enc : R → List Value) (n : Tn R) (p : Option Addr) (len cap : Nat) : List Value := .int .i64 n.kind :: .int .i64 n.num :: .string ⟨n.text.toArray⟩ :: (enc n.frm ++ (enc n.tor ++ [.slice p len cap]))
theorem tnC_len {enc : R → List Value} {m : Nat} (hm : ∀ x, (enc x).length = m) (n : Tn R) (p : Option Addr) (len cap : Nat) : (tnC enc n p len cap).length = 4 + 2 * m := by
  unfold tnC
  simp [hm]
  omega
def RdQ (enc : R → List Value) (sz : Nat) (w : World) (ok : Nat → Prop) : Nat → Tn R → Option Addr → Nat → Prop
  | 0, n, p, len => n.args = [] ∧ len = 0
  | d + 1, n, p, len => n.args.length = len ∧ (len = 0 ∨ ∃ b off, p = some ⟨b, off, none⟩ ∧ ok b ∧ b < w.heap.size ∧ ∀ j c, n.args[j]? = some c → ∃ p' l' c', w.rangeAt b (off + j * sz) (tnC enc c p' l' c') ∧ RdQ enc sz w ok d c p' l')
theorem rangeAt_of_block' {w w' : World} {b o : Nat} {cs : List Value} (h : w.rangeAt b o cs) (hb : w'.heap[b]? = w.heap[b]?) : w'.rangeAt b o cs := fun j v hv => by
  have := h j v hv
  simp only [World.cell?, hb] at this ⊢
  exact this
theorem lt_of_block' {w w' : World} {b : Nat} (h : b < w.heap.size) (hb : w'.heap[b]? = w.heap[b]?) : b < w'.heap.size := by
  rcases Nat.lt_or_ge b w'.heap.size with h' | h'
  · exact h'
  · rw [Array.getElem?_eq_none h', Array.getElem?_eq_getElem h] at hb
    cases hb
theorem RdQ.carry {enc : R → List Value} {sz : Nat} {w w' : World} {ok ok' : Nat → Prop} (hb : ∀ b, ok b → b < w.heap.size → ok' b ∧ w'.heap[b]? = w.heap[b]?) : ∀ {d : Nat} {n : Tn R} {p : Option Addr} {len : Nat}, RdQ enc sz w ok d n p len → RdQ enc sz w' ok' d n p len
  | 0, _, _, _, h => h
  | d + 1, n, p, len, h => by
    obtain ⟨h1, h2⟩ := h
    refine ⟨h1, ?_⟩
    rcases h2 with h2 | ⟨b, off, h3, h4, hl, h5⟩
    · exact .inl h2
    · refine .inr ⟨b, off, h3, (hb b h4 hl).1, lt_of_block' hl (hb b h4 hl).2, fun j c hc => ?_⟩
      obtain ⟨p', l', c', h6, h7⟩ := h5 j c hc
      exact ⟨p', l', c', rangeAt_of_block' h6 (hb b h4 hl).2, RdQ.carry hb h7⟩
theorem RdQ.below {enc : R → List Value} {sz : Nat} {w w' : World} {ok : Nat → Prop} {d : Nat} {n : Tn R} {p : Option Addr} {len : Nat} (h : RdQ enc sz w ok d n p len) (hb : Below w.heap.size w w') : RdQ enc sz w' ok d n p len := h.carry fun b h1 h2 => ⟨h1, hb.block b h2⟩
theorem RdQ.low {enc : R → List Value} {sz : Nat} {w w' : World} {N : Nat} {d : Nat} {n : Tn R} {p : Option Addr} {len : Nat} (h : RdQ enc sz w (· < N) d n p len) (hb : Below N w w') : RdQ enc sz w' (· < N) d n p len := h.carry fun b h1 _ => ⟨h1, hb.block b h1⟩
theorem RdQ.weak {enc : R → List Value} {sz : Nat} {w : World} {ok ok' : Nat → Prop} {d : Nat} {n : Tn R} {p : Option Addr} {len : Nat} (h : RdQ enc sz w ok d n p len) (hw : ∀ b, ok b → ok' b) : RdQ enc sz w ok' d n p len := h.carry fun b h1 _ => ⟨hw b h1, rfl⟩
theorem RdQ.len {enc : R → List Value} {sz : Nat} {w : World} {ok : Nat → Prop} {d : Nat} {n : Tn R} {p : Option Addr} {len : Nat} (h : RdQ enc sz w ok d n p len) : n.args.length = len := by
  cases d with
  | zero => rw [h.1, h.2]; rfl
  | succ d => exact h.1
theorem RdQ.at {enc : R → List Value} {sz : Nat} {w : World} {ok : Nat → Prop} {d : Nat} {n : Tn R} {p : Option Addr} {len : Nat} (h : RdQ enc sz w ok d n p len) {j : Nat} (hj : j < len) : ∃ d' b off c p' l' c', d = d' + 1 ∧ p = some ⟨b, off, none⟩ ∧ ok b ∧ b < w.heap.size ∧ n.args[j]? = some c ∧ RdQ enc sz w ok d' c p' l' ∧ w.rangeAt b (off + j * sz) (tnC enc c p' l' c') := by
  cases d with
  | zero => rw [h.2] at hj; omega
  | succ d =>
    obtain ⟨h1, h2⟩ := h
    rcases h2 with h2 | ⟨b, off, h3, h4, hl, h5⟩
    · omega
    · obtain ⟨c, hc⟩ : ∃ c, n.args[j]? = some c := ⟨_, List.getElem?_eq_getElem (by omega)⟩
      obtain ⟨p', l', c', h6, h7⟩ := h5 j c hc
      exact ⟨d, b, off, c, p', l', c', rfl, h3, h4, hl, hc, h7, h6⟩
theorem RdQ.up {enc : R → List Value} {sz : Nat} {w : World} {ok : Nat → Prop} : ∀ {d d' : Nat} {n : Tn R} {p : Option Addr} {len : Nat}, d ≤ d' → RdQ enc sz w ok d n p len → RdQ enc sz w ok d' n p len
  | 0, 0, _, _, _, _, h => h
  | 0, d' + 1, _, _, _, _, h => ⟨by rw [h.1, h.2]; rfl, .inl h.2⟩
  | d + 1, 0, _, _, _, hd, _ => by omega
  | d + 1, d' + 1, n, p, len, hd, h => by
    obtain ⟨h1, h2⟩ := h
    refine ⟨h1, ?_⟩
    rcases h2 with h2 | ⟨b, off, h3, h4, hl, h5⟩
    · exact .inl h2
    · refine .inr ⟨b, off, h3, h4, hl, fun j c hc => ?_⟩
      obtain ⟨p', l', c', h6, h7⟩ := h5 j c hc
      exact ⟨p', l', c', h6, RdQ.up (by omega) h7⟩
abbrev KidQ (R : Type) := Tn R × Option Addr × Nat × Nat
def kidQ (enc : R → List Value) (q : KidQ R) : List Value := tnC enc q.1 q.2.1 q.2.2.1 q.2.2.2
theorem RdQ.of_row {enc : R → List Value} {sz : Nat} (hz : ∀ q, (kidQ enc q).length = sz) {w : World} {base d : Nat} {e : TypeId} {v : Value} {L : List (KidQ R)} {n : Tn R} {ok : Nat → Prop} (h : w.ownsRow base e sz v L.length (L.flatMap (kidQ enc))) (hL : L.map Prod.fst = n.args) (hq : ∀ q ∈ L, RdQ enc sz w ok d q.1 q.2.1 q.2.2.1) (hown : ∀ b, v.ownBlock = some b → ok b) :
    ∃ p cap, v = .slice p L.length cap ∧ RdQ enc sz w ok (d + 1) n p L.length := by
  obtain ⟨p, cap, hv, _, _, ⟨_, hr⟩, _⟩ := RdG.of_own hz rfl h
  refine ⟨p, cap, hv, by rw [← hL, List.length_map], ?_⟩
  rcases hr with hr | ⟨b, off, h1, h2, h3⟩
  · exact .inl hr
  · refine .inr ⟨b, off, h1, hown b (by rw [hv, h1]; rfl), h2, fun j c hc => ?_⟩
    rw [← hL, List.getElem?_map] at hc
    cases hj : L[j]? with
    | none => rw [hj] at hc; cases hc
    | some q =>
      rw [hj] at hc
      obtain rfl : q.1 = c := by simpa using hc
      exact ⟨q.2.1, q.2.2.1, q.2.2.2, fun k u hu => h3 j q hj k u hu, hq q (List.mem_of_getElem? hj)⟩
def okQ (lo : Nat) (w : World) (v : Value) (b : Nat) : Prop := lo ≤ b ∧ b < w.heap.size ∧ v.ownBlock ≠ some b
theorem mem_of_at {a : List (Tn R)} {i : Nat} {c : Tn R} (h : a[i]? = some c) : c ∈ a := List.mem_of_getElem? h
end
end Go.Proofs.YtjklbbmgjjdalaaGreatDoor.Bd
namespace Go.Proofs.YtjklbbmgjjdalaaGreatDoor.Bd
open Go.RowKit Go.Joins
abbrev Rfp := Idp × Idp
def rfE (x : Rfp) : List Value := [.int .u64 x.1.1, .int .i64 x.1.2, .int .u64 x.2.1, .int .i64 x.2.2]
abbrev Bn := Tn Rfp
section
variable {R : Type}
def tagT (n : Tn R) : Bool := if n.kind = 1 then decide (0 ≤ n.num) else if n.kind = 6 then decide (lvS n.text ≠ 0) else if n.kind = 7 then nameB n.text else true
def headT (n : Tn R) (lv : Int) : Bool := decide (1 ≤ lv) && (decide (1 ≤ n.kind) && (decide (n.kind ≤ 8) && arB n.kind n.args.length))
mutual
def rtT : Tn R → Int → Bool
  | .mk k u t f o a, lv => (headT (.mk k u t f o a) lv && tagT (.mk k u t f o a)) && rtTL a (lv - 1)
def rtTL : List (Tn R) → Int → Bool
  | [], _ => true
  | c :: r, lv => rtT c lv && rtTL r lv
end
theorem rtT_eq (n : Tn R) (lv : Int) : rtT n lv = ((headT n lv && tagT n) && rtTL n.args (lv - 1)) := by cases n; rw [rtT]; rfl
theorem rtTL_at {a : List (Tn R)} {i : Nat} {c : Tn R} {lv : Int} (h : a[i]? = some c) : rtTL (a.drop i) lv = (rtT c lv && rtTL (a.drop (i + 1)) lv) := by
  obtain ⟨hi, e⟩ := List.getElem?_eq_some_iff.1 h
  rw [List.drop_eq_getElem_cons hi, rtTL, e]
inductive Sm : Tn R → Prop
  | mk (k u : Int) (t : List UInt8) (f o : R) (a : List (Tn R)) (h1 : t.length ≤ 200000) (h2 : a.length ≤ 100000) (h3 : ∀ c ∈ a, Sm c) : Sm (.mk k u t f o a)
theorem Sm.text {n : Tn R} (h : Sm n) : n.text.length ≤ 200000 := by cases h with | mk k u t f o a h1 h2 h3 => exact h1
theorem Sm.len {n : Tn R} (h : Sm n) : n.args.length ≤ 100000 := by cases h with | mk k u t f o a h1 h2 h3 => exact h2
theorem Sm.child {n c : Tn R} (h : Sm n) (hc : c ∈ n.args) : Sm c := by cases h with | mk k u t f o a h1 h2 h3 => exact h3 c hc
end
def bnA (n : Bn) (p : Option Addr) (len cap : Nat) : Array Value := #[.int .i64 n.kind, .int .i64 n.num, .string ⟨n.text.toArray⟩, .int .u64 n.frm.1.1, .int .i64 n.frm.1.2, .int .u64 n.frm.2.1, .int .i64 n.frm.2.2, .int .u64 n.tor.1.1, .int .i64 n.tor.1.2, .int .u64 n.tor.2.1, .int .i64 n.tor.2.2, .slice p len cap]
theorem bnA_eq (n : Bn) (p : Option Addr) (len cap : Nat) : Value.agg (bnA n p len cap) = .agg #[.int .i64 n.kind, .int .i64 n.num, .string ⟨n.text.toArray⟩, .int .u64 n.frm.1.1, .int .i64 n.frm.1.2, .int .u64 n.frm.2.1, .int .i64 n.frm.2.2, .int .u64 n.tor.1.1, .int .i64 n.tor.1.2, .int .u64 n.tor.2.1, .int .i64 n.tor.2.2, .slice p len cap] := rfl
theorem bnA_list (n : Bn) (p : Option Addr) (len cap : Nat) : tnC rfE n p len cap = [.int .i64 n.kind, .int .i64 n.num, .string ⟨n.text.toArray⟩, .int .u64 n.frm.1.1, .int .i64 n.frm.1.2, .int .u64 n.frm.2.1, .int .i64 n.frm.2.2, .int .u64 n.tor.1.1, .int .i64 n.tor.1.2, .int .u64 n.tor.2.1, .int .i64 n.tor.2.2, .slice p len cap] := rfl
abbrev okA : Nat → Prop := fun _ => True
def BRightC (d : Nat) : Prop := ∀ (n : Bn) (p : Option Addr) (len cap : Nat) (lv : Int) (w : World), RdQ rfE 12 w okA d n p len → Sm n → -1000 ≤ lv → lv ≤ 1000 → Calls Tryz.prog 68 #[.agg (bnA n p len cap), .int .i64 lv] w fun e w' => e = .returned (.bool (rtT n lv)) ∧ Below w.heap.size w w'
set_option maxRecDepth 100000 in
set_option maxHeartbeats 16000000 in
theorem bright_s (d : Nat) (IH : ∀ d', d = d' + 1 → BRightC d') : BRightC d := by
  intro n p len cap lv w hrd hok hlv0 hlv1
  have hA0 : Hid (BlkC (w.alloc (.cells (bnA n p len cap) tNr)) w.heap.size (bnA n p len cap) tNr) := heap_alloc_new w _
  have hAB : Hid (Below w.heap.size w (w.alloc (.cells (bnA n p len cap) tNr))) := by unfold Hid; (repeat' (first | (with_reducible exact Below.refl _ _) | (with_reducible assumption) | (with_reducible refine Below.alloc ?_ ?_ _) | (with_reducible refine bel_drewN ?_ _) | (with_reducible refine Below.drew ?_) | (with_reducible refine Below.setCell ?_ ?_ _) | (with_reducible refine bel_call ‹_› ?_ ?_) | go_size))
  have HRD := Lib.hid hrd
  have HIH := Lib.hid IH
  have hlen := hok.len
  rw [hrd.len] at hlen
  have HAL := Lib.hid hrd.len
  have HOK := Lib.hid (fun c hc => Sm.child (c := c) hok hc)
  have HPA := Lib.hid (fun W => parts_any n.kind W)
  have HLV := Lib.hid (fun W => level_any ⟨n.text.toArray⟩ W)
  have HNM := Lib.hid (fun W => name_any ⟨n.text.toArray⟩ (by rw [Lib.size_eq]; have := hok.text; simp [maxLen]; omega) W)
  rw [show (⟨n.text.toArray⟩ : ByteArray).data.toList = n.text from rfl] at HLV HNM
  obtain ⟨O, hO⟩ : ∃ O, rtT n lv = O := ⟨_, rfl⟩
  have HO := Lib.hid hO
  rw [hO]
  rw [rtT_eq] at HO
  clear hO
  have HHB : Hid (headT n lv = (decide (1 ≤ lv) && (decide (1 ≤ n.kind) && (decide (n.kind ≤ 8) && (decide (loK n.kind ≤ len) && decide (len ≤ hiK n.kind)))))) := by unfold Hid headT arB; rw [HAL.out]
  have HTG : Hid (tagT n = (if n.kind = 1 then decide (0 ≤ n.num) else if n.kind = 6 then decide (lvS n.text ≠ 0) else if n.kind = 7 then nameB n.text else true)) := rfl
  have hhi : hiK n.kind ≤ 16 := by unfold hiK; split <;> (try split) <;> (try split) <;> omega
  generalize loK n.kind = lo at HPA HHB
  generalize hiK n.kind = hi at HPA HHB hhi
  generalize lvS n.text = ls at HLV HTG
  generalize nameB n.text = nm at HNM HTG
  rw [bnA_eq]
  clear hrd IH hok
  go_enter Tryz.func68, Tryz.ntmps68
  go_upto_region 1 with fail
  have e0 : w.alloc (.cells #[.int .i64 n.kind, .int .i64 n.num, .string ⟨n.text.toArray⟩, .int .u64 n.frm.1.1, .int .i64 n.frm.1.2, .int .u64 n.frm.2.1, .int .i64 n.frm.2.2, .int .u64 n.tor.1.1, .int .i64 n.tor.1.2, .int .u64 n.tor.2.1, .int .i64 n.tor.2.2, .slice p len cap] tNr) = w.alloc (.cells (bnA n p len cap) tNr) := rfl
  rw [e0]
  clear e0
  generalize w.alloc (.cells (bnA n p len cap) tNr) = w0 at hA0 hAB ⊢
  have c0 : w0.cell? ⟨w.heap.size, 0, none⟩ = some (.int .i64 n.kind) := hA0.out.cell 0 _ rfl
  have c1 : w0.cell? ⟨w.heap.size, 1, none⟩ = some (.int .i64 n.num) := hA0.out.cell 1 _ rfl
  have c2 : w0.cell? ⟨w.heap.size, 2, none⟩ = some (.string ⟨n.text.toArray⟩) := hA0.out.cell 2 _ rfl
  have c11 : w0.cell? ⟨w.heap.size, 11, none⟩ = some (.slice p len cap) := hA0.out.cell 11 _ rfl
  go_wp2_with fail
  refine (HPA.out _).mono ?_
  rintro e wx ⟨rfl, hwx⟩
  rw [hwx]
  clear hwx wx HPA
  go_upto_region 2 with fail
  generalize headT n lv = hb at HO HHB
  go_cut [40] (fun v wx => v = .bool (!hb) ∧ wx = w0)
  case first =>
    clear HO HTG HRD HIH HAL HOK HLV HNM
    by_cases h1 : lv < 1
    · have HB : Hid (hb = false) := by unfold Hid; rw [HHB.out]; simp; omega
      go_wp2_with fail
      go_meet
      exact ⟨by rw [HB.out]; rfl, rfl⟩
    · by_cases h2 : n.kind < 1
      · have HB : Hid (hb = false) := by unfold Hid; rw [HHB.out]; simp; omega
        go_wp2_with fail
        go_meet
        exact ⟨by rw [HB.out]; rfl, rfl⟩
      · by_cases h3 : 8 < n.kind
        · have HB : Hid (hb = false) := by unfold Hid; rw [HHB.out]; simp; omega
          go_wp2_with fail
          go_meet
          exact ⟨by rw [HB.out]; rfl, rfl⟩
        · by_cases h4 : len < lo
          · have h4i : (len : Int) < (lo : Int) := by omega
            have HB : Hid (hb = false) := by unfold Hid; rw [HHB.out]; simp; omega
            go_wp2_with fail
            go_meet
            exact ⟨by rw [HB.out]; rfl, rfl⟩
          · have h4i : ¬ (len : Int) < (lo : Int) := by omega
            by_cases h5 : hi < len
            · have h5i : (hi : Int) < (len : Int) := by omega
              have HB : Hid (hb = false) := by unfold Hid; rw [HHB.out]; simp; omega
              go_wp2_with fail
              go_meet
              exact ⟨by rw [HB.out]; rfl, rfl⟩
            · have h5i : ¬ (hi : Int) < (len : Int) := by omega
              have HB : Hid (hb = true) := by unfold Hid; rw [HHB.out]; simp; omega
              go_wp2_with fail
              go_meet
              exact ⟨by rw [HB.out]; rfl, rfl⟩
  case rest =>
  obtain ⟨rfl, rfl⟩ := hcut
  cases hb
  · have HON : Hid (O = false) := by unfold Hid; rw [← HO.out]; rfl
    go_wp2_with fail
    go_ret
    exact ⟨by rw [HON.out]; rfl, hAB.out⟩
  have hlv2 : 1 ≤ lv := by
    have := HHB.out.symm
    simp only [Bool.and_eq_true, decide_eq_true_eq] at this
    exact this.1
  clear HHB
  have HO2 : Hid (O = (tagT n && rtTL (n.args.drop 0) (lv - 1))) := by unfold Hid; rw [← HO.out]; rfl
  clear HO
  go_upto_block 0 with fail
  go_cut [] (fun wx => tagT n = true ∧ Below wc.heap.size wc wx)
  case first =>
    by_cases hk1 : n.kind = 1
    · have b1 : (n.kind == 1) = true := by simpa using hk1
      have HK := Lib.hid hk1
      clear hk1
      by_cases hn0 : n.num < 0
      · have HON : Hid (O = false) := by unfold Hid; rw [HO2.out, HTG.out, if_pos HK.out, decide_eq_false (by omega)]; rfl
        clear HO2 HTG
        go_wp2_with fail
        go_ret
        exact ⟨by rw [HON.out]; rfl, hAB.out⟩
      · have HT : Hid (tagT n = true) := by unfold Hid; rw [HTG.out, if_pos HK.out, decide_eq_true (by omega)]
        clear HO2 HTG
        go_wp2_with fail
        go_meet
        exact ⟨HT.out, Below.refl _ _⟩
    · by_cases hk6 : n.kind = 6
      · have b1 : (n.kind == 1) = false := by simpa using hk1
        have b6 : (n.kind == 6) = true := by simpa using hk6
        have HK := Lib.hid hk6
        have HT0 : Hid (tagT n = decide (ls ≠ 0)) := by unfold Hid; rw [HTG.out, if_neg hk1, if_pos hk6]
        clear hk1 hk6 HTG
        by_cases hls : ls = 0
        · have HON : Hid (O = false) := by unfold Hid; rw [HO2.out, HT0.out, decide_eq_false (fun h => h hls)]; rfl
          subst hls
          clear HO2 HT0
          go_wp2_with fail
          refine (HLV.out _).mono ?_
          rintro e w1 ⟨rfl, hb1⟩
          have hB1 : Hid (Below w.heap.size w w1) := bel_call hb1 hAB.out hAB.out.size
          clear hb1
          go_wp2_with fail
          go_ret
          exact ⟨by rw [HON.out]; rfl, hB1.out⟩
        · have hlsb : (ls == 0) = false := by simpa using hls
          have HT : Hid (tagT n = true) := by unfold Hid; rw [HT0.out, decide_eq_true hls]
          clear HO2 HT0 hls
          go_wp2_with fail
          refine (HLV.out _).mono ?_
          rintro e w1 ⟨rfl, hb1⟩
          have hB1 := Lib.hid hb1
          clear hb1
          go_wp2_with fail
          go_meet
          exact ⟨HT.out, hB1.out⟩
      · by_cases hk7 : n.kind = 7
        · have b1 : (n.kind == 1) = false := by simpa using hk1
          have b6 : (n.kind == 6) = false := by simpa using hk6
          have b7 : (n.kind == 7) = true := by simpa using hk7
          have HT0 : Hid (tagT n = nm) := by unfold Hid; rw [HTG.out, if_neg hk1, if_neg hk6, if_pos hk7]
          clear hk1 hk6 hk7 HTG
          cases nm
          · have HON : Hid (O = false) := by unfold Hid; rw [HO2.out, HT0.out]; rfl
            clear HO2 HT0
            go_wp2_with fail
            refine (HNM.out _).mono ?_
            rintro e w1 ⟨rfl, hb1⟩
            have hB1 : Hid (Below w.heap.size w w1) := bel_call hb1 hAB.out hAB.out.size
            clear hb1
            go_wp2_with fail
            go_ret
            exact ⟨by rw [HON.out]; rfl, hB1.out⟩
          · clear HO2
            go_wp2_with fail
            refine (HNM.out _).mono ?_
            rintro e w1 ⟨rfl, hb1⟩
            have hB1 := Lib.hid hb1
            clear hb1
            go_wp2_with fail
            go_meet
            exact ⟨HT0.out, hB1.out⟩
        · have HT : Hid (tagT n = true) := by unfold Hid; rw [HTG.out, if_neg hk1, if_neg hk6, if_neg hk7]
          have b1 : (n.kind == 1) = false := by simpa using hk1
          have b6 : (n.kind == 6) = false := by simpa using hk6
          have b7 : (n.kind == 7) = false := by simpa using hk7
          clear hk1 hk6 hk7 HTG HO2
          go_wp2_with fail
          go_meet
          exact ⟨HT.out, Below.refl _ _⟩
  case rest =>
  obtain ⟨htg, hbz⟩ := hcut
  have HO3 : Hid (O = rtTL (n.args.drop 0) (lv - 1)) := by unfold Hid; rw [HO2.out, htg]; rfl
  have hAZ := Lib.hid (hA0.out.below hbz)
  have hBZ : Hid (Below w.heap.size w wc) := bel_call hbz hAB.out hAB.out.size
  clear HO2 htg hbz hA0 hAB c0 c1 c2 c11 HTG HLV HNM
  have c11 : wc.cell? ⟨w.heap.size, 11, none⟩ = some (.slice p len cap) := hAZ.out.cell 11 _ rfl
  go_wp2_with fail
  clear c11 hAZ
  go_loopg [63] len (fun g v63 wr => ∃ i : Nat, i + g = len ∧ v63 = .int .i64 i ∧ O = rtTL (n.args.drop i) (lv - 1) ∧ Below w.heap.size w wr)
  case atStart => exact ⟨0, by omega, rfl, HO3.out, hBZ.out⟩
  case round =>
    obtain ⟨i, hig, rfl, hD, hbel⟩ := hrel
    have HD := Lib.hid hD
    have HBL := Lib.hid hbel
    have hzr := hbel.size
    clear hD hbel HO3 hBZ
    by_cases hlt : i < len
    · have hli : (i : Int) < (len : Int) := by omega
      obtain ⟨d', b, off, c, p', l', c', hd, rfl, _, hbN, hc, hrc, hrg⟩ := (HRD.out.below HBL.out).at hlt
      have HC : Hid (BRightC d') := HIH.out d' hd
      have HCO := Lib.hid (HOK.out c (mem_of_at hc))
      have HD2 : Hid (O = (rtT c (lv - 1) && rtTL (n.args.drop (i + 1)) (lv - 1))) := by unfold Hid; rw [HD.out, rtTL_at hc]
      have HRC := Lib.hid hrc
      have HRG := Lib.hid hrg
      clear hc hrc HD hd hrg
      go_upto_region 16 with fail
      refine wp_region_lit ?_
      refine wpList_plain rfl fun K hK => ?_
      go_simp
      refine hK _ _ ?_
      clear hK K
      refine wpList_load_mid (by rfl) _ _ (by rfl) b (off + i * 12) (by rfl) [.int .i64 c.kind, .int .i64 c.num, .string ⟨c.text.toArray⟩, .int .u64 c.frm.1.1, .int .i64 c.frm.1.2, .int .u64 c.frm.2.1, .int .i64 c.frm.2.2, .int .u64 c.tor.1.1, .int .i64 c.tor.1.2, .int .u64 c.tor.2.1, .int .i64 c.tor.2.2, .slice p' l' c'] _ HRG.out Tryz.underlying38 rfl (by kernel_rfl) ?_
      go_simp
      go_upto_region 17 with fail
      have hA1 : Hid (BlkC (wr.alloc (.cells (bnA c p' l' c') tNr)) wr.heap.size (bnA c p' l' c') tNr) := heap_alloc_new wr _
      have hB1 : Hid (Below w.heap.size w (wr.alloc (.cells (bnA c p' l' c') tNr))) := HBL.out.alloc hzr _
      have HR1 : Hid (RdQ rfE 12 (wr.alloc (.cells (bnA c p' l' c') tNr)) okA d' c p' l') := HRC.out.below (by (repeat' (first | (with_reducible exact Below.refl _ _) | (with_reducible assumption) | (with_reducible refine Below.alloc ?_ ?_ _) | (with_reducible refine bel_drewN ?_ _) | (with_reducible refine Below.drew ?_) | (with_reducible refine Below.setCell ?_ ?_ _) | (with_reducible refine bel_call ‹_› ?_ ?_) | go_size)))
      have e1 : wr.alloc (.cells #[.int .i64 c.kind, .int .i64 c.num, .string ⟨c.text.toArray⟩, .int .u64 c.frm.1.1, .int .i64 c.frm.1.2, .int .u64 c.frm.2.1, .int .i64 c.frm.2.2, .int .u64 c.tor.1.1, .int .i64 c.tor.1.2, .int .u64 c.tor.2.1, .int .i64 c.tor.2.2, .slice p' l' c'] tNr) = wr.alloc (.cells (bnA c p' l' c') tNr) := rfl
      rw [e1]
      clear e1 HRC HBL HRG
      generalize wr.alloc (.cells (bnA c p' l' c') tNr) = w2 at hA1 hB1 HR1 ⊢
      generalize wr.heap.size = b2 at hA1 hzr ⊢
      have HCC := Lib.hid (HC.out c p' l' c' (lv - 1) w2 HR1.out HCO.out (by omega) (by omega))
      rw [bnA_eq] at HCC
      generalize rtT c (lv - 1) = rc at HCC HD2
      clear HC
      refine wp_region_lit ?_
      refine wpList_load_mid (by rfl) _ _ (by rfl) b2 0 (by rfl) [.int .i64 c.kind, .int .i64 c.num, .string ⟨c.text.toArray⟩, .int .u64 c.frm.1.1, .int .i64 c.frm.1.2, .int .u64 c.frm.2.1, .int .i64 c.frm.2.2, .int .u64 c.tor.1.1, .int .i64 c.tor.1.2, .int .u64 c.tor.2.1, .int .i64 c.tor.2.2, .slice p' l' c'] _ (block_range hA1.out [.int .i64 c.kind, .int .i64 c.num, .string ⟨c.text.toArray⟩, .int .u64 c.frm.1.1, .int .i64 c.frm.1.2, .int .u64 c.frm.2.1, .int .i64 c.frm.2.2, .int .u64 c.tor.1.1, .int .i64 c.tor.1.2, .int .u64 c.tor.2.1, .int .i64 c.tor.2.2, .slice p' l' c'] rfl) Tryz.underlying38 rfl (by kernel_rfl) ?_
      go_simp
      go_wp2_with fail
      refine HCC.out.mono ?_
      rintro e w3 ⟨rfl, hb3⟩
      have hB3 : Hid (Below w.heap.size w w3) := bel_call hb3 hB1.out hB1.out.size
      clear hb3 hB1 hA1 HR1 HCC
      cases rc
      · have HDE : Hid (O = false) := by unfold Hid; rw [HD2.out]; rfl
        go_wp2_with fail
        go_ret
        exact ⟨by rw [HDE.out]; rfl, hB3.out⟩
      · have HDE : Hid (O = rtTL (n.args.drop (i + 1)) (lv - 1)) := by unfold Hid; rw [HD2.out]; rfl
        go_wp2_with fail
        go_roundg (gk - 1)
        case measure => omega
        case rel => exact ⟨i + 1, by omega, by go_num, HDE.out, hB3.out⟩
    · obtain rfl : i = len := by omega
      have hli : ¬ (i : Int) < (i : Int) := by omega
      have HDE : Hid (O = true) := by
        unfold Hid
        rw [HD.out, List.drop_eq_nil_of_le (by rw [HAL.out]; exact Nat.le_refl _), rtTL]
      clear HD
      go_wp2_with fail
      go_ret
      exact ⟨by rw [HDE.out]; rfl, HBL.out⟩
theorem bright_any : ∀ d, BRightC d
  | 0 => bright_s 0 (fun d' h => by omega)
  | d + 1 => bright_s (d + 1) (fun d' h => (show d = d' from by omega) ▸ bright_any d)
set_option maxRecDepth 100000 in
set_option maxHeartbeats 1000000 in
theorem BRight_any (d : Nat) (n : Bn) (p : Option Addr) (len cap : Nat) (w : World) (h : RdQ rfE 12 w okA d n p len) (hok : Sm n) : Calls Tryz.prog 44 #[.agg (bnA n p len cap)] w fun e w' => e = .returned (.bool (rtT n 64)) ∧ Below w.heap.size w w' := by
  have hA0 : Hid (BlkC (w.alloc (.cells (bnA n p len cap) tNr)) w.heap.size (bnA n p len cap) tNr) := heap_alloc_new w _
  have hAB : Hid (Below w.heap.size w (w.alloc (.cells (bnA n p len cap) tNr))) := by unfold Hid; (repeat' (first | (with_reducible exact Below.refl _ _) | (with_reducible assumption) | (with_reducible refine Below.alloc ?_ ?_ _) | (with_reducible refine bel_drewN ?_ _) | (with_reducible refine Below.drew ?_) | (with_reducible refine Below.setCell ?_ ?_ _) | (with_reducible refine bel_call ‹_› ?_ ?_) | go_size))
  have HCC := Lib.hid (bright_any d n p len cap 64 (w.alloc (.cells (bnA n p len cap) tNr)) (h.below (by (repeat' (first | (with_reducible exact Below.refl _ _) | (with_reducible assumption) | (with_reducible refine Below.alloc ?_ ?_ _) | (with_reducible refine bel_drewN ?_ _) | (with_reducible refine Below.drew ?_) | (with_reducible refine Below.setCell ?_ ?_ _) | (with_reducible refine bel_call ‹_› ?_ ?_) | go_size)))) hok (by omega) (by omega))
  rw [bnA_eq] at HCC
  rw [bnA_eq]
  clear h
  generalize rtT n 64 = O at HCC ⊢
  go_enter Tryz.func44, Tryz.ntmps44
  go_upto_region 1 with fail
  have e0 : w.alloc (.cells #[.int .i64 n.kind, .int .i64 n.num, .string ⟨n.text.toArray⟩, .int .u64 n.frm.1.1, .int .i64 n.frm.1.2, .int .u64 n.frm.2.1, .int .i64 n.frm.2.2, .int .u64 n.tor.1.1, .int .i64 n.tor.1.2, .int .u64 n.tor.2.1, .int .i64 n.tor.2.2, .slice p len cap] tNr) = w.alloc (.cells (bnA n p len cap) tNr) := rfl
  rw [e0]
  clear e0
  generalize w.alloc (.cells (bnA n p len cap) tNr) = w0 at hA0 hAB HCC ⊢
  refine wp_region_lit ?_
  refine wpList_load_mid (by rfl) _ _ (by rfl) w.heap.size 0 (by rfl) [.int .i64 n.kind, .int .i64 n.num, .string ⟨n.text.toArray⟩, .int .u64 n.frm.1.1, .int .i64 n.frm.1.2, .int .u64 n.frm.2.1, .int .i64 n.frm.2.2, .int .u64 n.tor.1.1, .int .i64 n.tor.1.2, .int .u64 n.tor.2.1, .int .i64 n.tor.2.2, .slice p len cap] _ (block_range hA0.out [.int .i64 n.kind, .int .i64 n.num, .string ⟨n.text.toArray⟩, .int .u64 n.frm.1.1, .int .i64 n.frm.1.2, .int .u64 n.frm.2.1, .int .i64 n.frm.2.2, .int .u64 n.tor.1.1, .int .i64 n.tor.1.2, .int .u64 n.tor.2.1, .int .i64 n.tor.2.2, .slice p len cap] rfl) Tryz.underlying38 rfl (by kernel_rfl) ?_
  go_simp
  go_wp2_with fail
  refine HCC.out.mono ?_
  rintro e w3 ⟨rfl, hb3⟩
  have hB3 : Hid (Below w.heap.size w w3) := bel_call hb3 hAB.out hAB.out.size
  clear hb3 HCC
  go_wp2_with fail
  go_ret
  exact ⟨rfl, hB3.out⟩
end Go.Proofs.YtjklbbmgjjdalaaGreatDoor.Bd
namespace Go.Proofs.YtjklbbmgjjdalaaGreatDoor.Bd
open Go.RowKit Go.Joins
abbrev rfZ : Rfp := ((0, 0), (0, 0))
def cntK (k : Nat) : Nat := if k = 5 then 1 else if k = 6 then 2 else 0
structure Hd where
  u : Int
  t : List UInt8
  f : Rfp
  g : Rfp
  ok : Bool
  S : Option (List UInt8)
def hdP (k : Nat) (S : Option (List UInt8)) : Hd :=
  if k = 1 then ⟨wrap64 ((numR S).1 : Nat), [], rfZ, rfZ, true, (numR S).2⟩
  else if k = 2 ∨ k = 6 ∨ k = 7 then ⟨0, (bytR S).1, rfZ, rfZ, true, (bytR S).2⟩
  else if k = 3 then ⟨0, [], (tkF S).1.1, rfZ, (tkF S).1.2, (tkF S).2⟩
  else if k = 4 then (if (tkF S).1.2 = true then ⟨0, [], (tkF S).1.1, (tkF (tkF S).2).1.1, (tkF (tkF S).2).1.2, (tkF (tkF S).2).2⟩ else ⟨0, [], (tkF S).1.1, rfZ, false, (tkF S).2⟩)
  else ⟨0, [], rfZ, rfZ, true, S⟩
def cP (k : Nat) (S : Option (List UInt8)) : Nat × Option (List UInt8) := if k = 7 then intR 16 S else (cntK k, S)
def tkL {α : Type} (F : List UInt8 → Option (α × List UInt8)) : Nat → List UInt8 → Option (List α × List UInt8)
  | 0, L => some ([], L)
  | c + 1, L => match F L with
    | none => none
    | some (a, L1) => match tkL F c L1 with
      | none => none
      | some (q, L2) => some (a :: q, L2)
def tkN : Nat → List UInt8 → Option (Bn × List UInt8)
  | 0, _ => none
  | d + 1, L => match intR 8 (some L) with
    | (_, none) => none
    | (k, some L1) => if k = 0 then none else
      if (hdP k (some L1)).ok = true then (match cP k (hdP k (some L1)).S with
        | (_, none) => none
        | (c, some L3) => (tkL (tkN d) c L3).map fun x => (.mk k (hdP k (some L1)).u (hdP k (some L1)).t (hdP k (some L1)).f (hdP k (some L1)).g x.1, x.2))
      else none
theorem tkL_succ {α : Type} (F : List UInt8 → Option (α × List UInt8)) (c : Nat) (L : List UInt8) : tkL F (c + 1) L = (F L).bind fun x => (tkL F c x.2).map fun y => (x.1 :: y.1, y.2) := by
  rw [tkL]
  cases F L with
  | none => rfl
  | some x =>
    obtain ⟨a, L1⟩ := x
    simp only [Option.bind_some]
    cases tkL F c L1 with
    | none => rfl
    | some y => rfl
def TakP (b : Nat) (d : Nat) (O : Option (Bn × List UInt8)) (w : World) (e : Ending) (w' : World) : Prop := Off b w w' ∧ match O with
  | none => ∃ n p l c, e = .returned (.tuple #[.agg (bnA n p l c), .bool false])
  | some (n, r) => ∃ p cap, e = .returned (.tuple #[.agg (bnA n p n.args.length cap), .bool true]) ∧ RdQ rfE 12 w' (fun k => w.heap.size ≤ k) d n p n.args.length ∧ Rdr w' b (some r)
def TakeC (d : Nat) : Prop := ∀ (b : Nat) (S : Option (List UInt8)) (w : World), Rdr w b S → Calls Tryz.prog 43 #[.pointer (some ⟨b, 0, none⟩), .int .i64 (d : Nat)] w (TakP b d (S.bind (tkN d)) w)
theorem kidR_len (q : KidQ Rfp) : (kidQ rfE q).length = 12 := tnC_len (m := 4) (fun _ => rfl) _ _ _ _
theorem kidR_one (q : KidQ Rfp) : ∀ u ∈ kidQ rfE q, u.oneCell' = true := by
  intro u hu
  rw [show kidQ rfE q = tnC rfE q.1 q.2.1 q.2.2.1 q.2.2.2 from rfl, bnA_list] at hu
  simp only [List.mem_cons, List.not_mem_nil, or_false] at hu
  rcases hu with rfl | rfl | rfl | rfl | rfl | rfl | rfl | rfl | rfl | rfl | rfl | rfl <;> rfl
theorem info_bn : (Tryz.prog.info? tNr).map (fun i => (i.zero, i.size, i.bytes)) = some (some (.agg #[.int .i64 0, .int .i64 0, .string ⟨#[]⟩, .int .u64 0, .int .i64 0, .int .u64 0, .int .i64 0, .int .u64 0, .int .i64 0, .int .u64 0, .int .i64 0, .slice none 0 0]), 12, 120) := by kernel_rfl
theorem newBn (w : World) (c : Bn) (p2 : Option Addr) (l' c2 : Nat) : ∀ j u, (kidQ rfE (c, p2, l', c2))[j]? = some u → (w.alloc (.cells (bnA c p2 l' c2) tNr)).cell? ((⟨w.heap.size, 0, none⟩ : Addr).add j) = some u := by
  intro j u hj
  have hb : BlkC (w.alloc (.cells (bnA c p2 l' c2) tNr)) w.heap.size (bnA c p2 l' c2) tNr := heap_alloc_new w _
  rw [Addr.add_mid, Nat.zero_add, cell_of_block hb]
  have e : bnA c p2 l' c2 = (kidQ rfE (c, p2, l', c2)).toArray := rfl
  rw [e]
  simpa using hj
theorem kidsB_on {b g d l' c2 k11 : Nat} {wr w3 w5 : World} {o1 o2 : Obj} {v v' u : Value} {acc : List (KidQ Rfp)} {c : Bn} {p2 : Option Addr} (hbg : b < g) (hg : g < wr.heap.size) (ho : Off b wr w3) (hgr : ((w3.alloc o1).alloc o2).grownBy w5 v.ownBlock)
    (hat : v'.ownBlock = v.ownBlock ∨ v'.ownBlock = some ((w3.alloc o1).alloc o2).heap.size) (hlt : ∀ k, v.ownBlock = some k → g + 1 ≤ k ∧ k < wr.heap.size) (hk : ∀ x ∈ acc, RdQ rfE 12 wr (okQ (g + 1) wr v) d x.1 x.2.1 x.2.2.1)
    (hn : RdQ rfE 12 w3 (fun k => wr.heap.size ≤ k) d c p2 l') :
    ∀ x ∈ acc ++ [(c, p2, l', c2)], RdQ rfE 12 (w5.setCell ⟨g, k11, none⟩ u) (okQ (g + 1) (w5.setCell ⟨g, k11, none⟩ u) v') d x.1 x.2.1 x.2.2.1 := by
  have hs := ho.size
  have hs2 := hgr.size
  simp only [World.size_alloc] at hs2 hat
  have hblk : ∀ k, g ≠ k → k < w3.heap.size → v.ownBlock ≠ some k → (w5.setCell ⟨g, k11, none⟩ u).heap[k]? = w3.heap[k]? := fun k h1 h2 h3 => by
    rw [heap_setCell_other _ _ _ _ (fun e => h1 e.symm), hgr.block k (by simp only [World.size_alloc]; omega) (fun e => h3 e.symm), heap_alloc_old _ _ (by rw [World.size_alloc]; omega), heap_alloc_old _ _ h2]
  intro x hx
  rcases List.mem_append.1 hx with hx | hx
  · refine RdQ.carry (fun k hb' hkl => ?_) (hk x hx)
    obtain ⟨h1, h2, h3⟩ := hb'
    refine ⟨⟨h1, by rw [World.size_setCell]; omega, ?_⟩, ?_⟩
    · rcases hat with e | e
      · rw [e]; exact h3
      · rw [e]; intro e'; have := Option.some.inj e'; omega
    · rw [hblk k (by omega) (by omega) h3, ho.block k h2 (by omega)]
  · obtain rfl := List.mem_singleton.1 hx
    refine RdQ.carry (fun k hb' hkl => ?_) hn
    have h3 : v.ownBlock ≠ some k := fun e => by have := (hlt k e).2; omega
    refine ⟨⟨by omega, by rw [World.size_setCell]; omega, ?_⟩, ?_⟩
    · rcases hat with e | e
      · rw [e]; exact h3
      · rw [e]; intro e'; have := Option.some.inj e'; omega
    · exact hblk k (by omega) hkl h3
set_option maxRecDepth 100000 in
set_option maxHeartbeats 1000000 in
theorem count_any (k : Nat) (w : World) : Calls Tryz.prog 64 #[.int .i64 (k : Nat)] w fun e w' => e = .returned (.int .i64 (cntK k : Nat)) ∧ w' = w := by
  unfold cntK
  by_cases h5 : k = 5
  · subst h5
    go_enter Tryz.func64, Tryz.ntmps64
    go_wp2_with fail
    go_ret
    exact ⟨rfl, rfl⟩
  · by_cases h6 : k = 6
    · subst h6
      go_enter Tryz.func64, Tryz.ntmps64
      go_wp2_with fail
      go_ret
      exact ⟨rfl, rfl⟩
    · rw [if_neg h5, if_neg h6]
      have b5 : ((k : Int) == 5) = false := by simp; omega
      have b6 : ((k : Int) == 6) = false := by simp; omega
      go_enter Tryz.func64, Tryz.ntmps64
      go_wp2_with fail
      go_ret
      exact ⟨rfl, rfl⟩
def TkS (O : Option (Bn × List UInt8)) (b g d c i k : Nat) (hd : Hd) (okv : Bool) (v : Value) (wr : World) : Prop :=
  (okv = true ∧ ∃ (S' : Option (List UInt8)) (acc : List (KidQ Rfp)), Rdr wr b S' ∧ wr.ownsRow (g + 1) tNr 12 v i (acc.flatMap (kidQ rfE)) ∧ (∀ x ∈ acc, RdQ rfE 12 wr (okQ (g + 1) wr v) d x.1 x.2.1 x.2.2.1) ∧ acc.length = i ∧
    O = S'.bind fun L => (tkL (tkN d) (c - i) L).map fun x => (.mk k hd.u hd.t hd.f hd.g (acc.map Prod.fst ++ x.1), x.2)) ∨ (okv = false ∧ O = none)
def EndS (O : Option (Bn × List UInt8)) (g d i k : Nat) (hd : Hd) (okv : Bool) (S' : Option (List UInt8)) (q : Option Addr) (wr : World) : Prop := match O with
  | none => (okv && S'.isSome) = false
  | some (n, r) => okv = true ∧ S' = some r ∧ n = .mk k hd.u hd.t hd.f hd.g n.args ∧ n.args.length = i ∧ RdQ rfE 12 wr (fun k' => g + 1 ≤ k') (d + 1) n q i
theorem TkS.ends {O : Option (Bn × List UInt8)} {b g d i k : Nat} {hd : Hd} {okv : Bool} {q : Option Addr} {cp : Nat} {wr : World} (h : TkS O b g d i i k hd okv (.slice q i cp) wr) : ∃ S' : Option (List UInt8), (okv = true → Rdr wr b S') ∧ EndS O g d i k hd okv S' q wr := by
  rcases h with ⟨h1, S', acc, h2, h3, h4, h5, h6⟩ | ⟨h1, h2⟩
  · refine ⟨S', fun _ => h2, ?_⟩
    rw [Nat.sub_self] at h6
    cases S' with
    | none =>
      rw [h6]
      unfold EndS
      simp
    | some L =>
      rw [h6]
      subst h5
      obtain ⟨q', cp', hv, hr⟩ := RdQ.of_row (enc := rfE) kidR_len (n := .mk k hd.u hd.t hd.f hd.g (acc.map Prod.fst ++ [])) (d := d) (ok := fun k' => g + 1 ≤ k') h3 (by rw [List.append_nil]; rfl) (fun x hx => (h4 x hx).weak fun k' h => h.1) (fun k' h => (h3.lt k' h).1)
      cases hv
      exact ⟨h1, rfl, rfl, by simp [Tn.args], hr⟩
  · refine ⟨none, (fun h => (by rw [h1] at h; cases h)), ?_⟩
    rw [h2, h1]
    rfl
end Go.Proofs.YtjklbbmgjjdalaaGreatDoor.Bd
