/- The reference's net in memory; contracts of the law's same and of the reference's Has. -/
import Derived.Test.YtoeenaionamhiaaNetI
import Derived.Laws.IdiomStrings
import Derived.Laws.BytesArg
set_option linter.unusedSimpArgs false
set_option linter.unusedVariables false
namespace Go.Proofs.Ytoeenaionamhiaa
open Go.RowKit

abbrev tRP : TypeId := 28
theorem info_r : (Try.prog.info? tRP).map (fun i => (i.zero, i.size, i.bytes)) = some (some (.agg #[.int .i64 0, .int .i64 0, .slice none 0 0]), 3, 40) := by kernel_rfl

/-- What is told of a packet. -/
def Pk.key (p : Pk) : Int × Int × List UInt8 := (p.f, p.t, p.bs)

/-- The reference's packets in memory. -/
structure RefW (B0 : Nat) (w : World) (v : Value) (Qs : List Pk) : Prop where
  own : w.ownsRow B0 tRP 3 v Qs.length (Qs.flatMap Pk.cells)
  pk : ∀ p ∈ Qs, p.ok B0 w
theorem RefW.fr {B0 : Nat} {w w' : World} {v : Value} {Qs : List Pk} (h : RefW B0 w v Qs) (hf : Fr B0 w w') : RefW B0 w' v Qs :=
  ⟨own_same h.own (fun k hk => by
    have ht := (own_ty h.own k hk).2
    exact hf.block k (tyAt_lt ht) (.inr ⟨by rw [ht]; decide, by rw [ht]; decide⟩)), fun p hp => (h.pk p hp).fr hf⟩
theorem RefW.below {B0 : Nat} {w w' : World} {v : Value} {Qs : List Pk} (h : RefW B0 w v Qs) (hb : Below w.heap.size w w') : RefW B0 w' v Qs := h.fr (.of_below hb)
theorem RefW.slice {B0 : Nat} {w : World} {v : Value} {Qs : List Pk} (h : RefW B0 w v Qs) : ∃ A cap, v = .slice A Qs.length cap := by
  obtain ⟨_, ⟨rfl, h0⟩ | ⟨g, cap, cur, rfl, _⟩⟩ := h.own
  · rw [h0]; exact ⟨_, _, rfl⟩
  · exact ⟨_, _, rfl⟩
theorem own_row {w : World} {base : Nat} {e : TypeId} {v : Value} {n : Nat} {Qs : List Pk} (h : w.ownsRow base e 3 v n (Qs.flatMap Pk.cells)) (hn : 0 < n) :
    ∃ r cap, v = .slice (some ⟨r, 0, none⟩) n cap ∧ n ≤ cap ∧ cap ≤ maxLen ∧ r < w.heap.size ∧ base ≤ r ∧ tyAt w r = some e ∧ (∀ i, w.frozen? ⟨r, i, none⟩ = false) ∧ ∀ j u, (Qs.flatMap Pk.cells)[j]? = some u → w.cell? ⟨r, j, none⟩ = some u := by
  obtain ⟨hl, ⟨_, h0⟩ | ⟨r, cap, cur, rfl, hg, hh, hn', hm, hs, ht⟩⟩ := h
  · omega
  · refine ⟨r, cap, rfl, hn', hm, tyAt_lt (tyAt_cells hh), hg, tyAt_cells hh, fun i => by simp [World.frozen?, hh], fun j u hu => ?_⟩
    have hj : j < (Qs.flatMap Pk.cells).length := by
      rcases Nat.lt_or_ge j (Qs.flatMap Pk.cells).length with h' | h'
      · exact h'
      · rw [List.getElem?_eq_none h'] at hu; cases hu
    rw [← ht, List.getElem?_take, if_pos (by omega)] at hu
    simp only [World.cell?, hh]
    simpa using hu

/-- A source of an append: nil, or cells from an address on. -/
def Src (w : World) (A : Option Addr) (n c : Nat) (xs : List Value) : Prop := xs.length = n * 3 ∧ (∀ u ∈ xs, u.oneCell' = true) ∧ ((A = none ∧ n = 0 ∧ c = 0) ∨ ∃ ad : Addr, A = some ad ∧ ad.block < w.heap.size ∧ ∀ j u, xs[j]? = some u → w.cell? (ad.add j) = some u)
theorem Src.below {w w' : World} {A : Option Addr} {n c : Nat} {xs : List Value} (h : Src w A n c xs) (hb : Below w.heap.size w w') : Src w' A n c xs := by
  obtain ⟨h1, h2, h3⟩ := h
  refine ⟨h1, h2, ?_⟩
  rcases h3 with h3 | ⟨ad, h4, h5, h6⟩
  · exact .inl h3
  · exact .inr ⟨ad, h4, Nat.lt_of_lt_of_le h5 hb.size, fun j u hu => (World.cell?_of_block (a := ad.add j) (hb.block _ (by rw [block_add]; exact h5))).trans (h6 j u hu)⟩
theorem RefW.src {B0 : Nat} {w : World} {A : Option Addr} {n c : Nat} {Qs : List Pk} (h : RefW B0 w (.slice A n c) Qs) : Src w A n c (Qs.flatMap Pk.cells) := by
  have hl := h.own.1
  rcases Nat.eq_zero_or_pos Qs.length with h0 | h0
  · obtain ⟨_, ⟨hv, _⟩ | ⟨g, cap, cur, hv, _, hh, _⟩⟩ := h.own
    · cases hv
      exact ⟨by rw [flat_len, h0], flat_one _, .inl ⟨rfl, rfl, rfl⟩⟩
    · cases hv
      refine ⟨by rw [flat_len], flat_one _, .inr ⟨_, rfl, tyAt_lt (tyAt_cells hh), fun j u hu => ?_⟩⟩
      have : Qs = [] := List.eq_nil_of_length_eq_zero h0
      subst this
      simp at hu
  · obtain ⟨r, cap, hv, _, _, hr, _, _, _, hc⟩ := own_row h.own h0
    cases hv
    exact ⟨flat_len _, flat_one _, .inr ⟨_, rfl, hr, fun j u hu => by rw [add_plain, Nat.zero_add]; exact hc j u hu⟩⟩

/-- append(v, src...) as one step of a region that draws: v the call's own row of the reference's packets, the source nil, empty or not. -/
theorem step_append_r {P : Program} {ops : Array Oper} {o : Oper} {a : Act} {w : World} {K : Act → World → Prop} {Q : Exit → Act → World → Prop} {E : Prop}
    (hgd : o.guard = none) (s x : Operand) (t : TypeId) (ho : o.op = .call { callee := .builtin .append, args := #[s, x], argTypes := #[t, t] })
    (base : Nat) (e : TypeId) (i : TypeInfo) (z : Value) (ht : P.underlying t = some (.slice e)) (hi : P.info? e = some i) (hz : i.zero = some z)
    (hsize : i.size = 3) (hby : i.bytes = 40) (hzs : z.cells.size = 3)
    (v : Value) (n : Nat) (xs : List Value) (hs : a.eval s = v) (hown : w.ownsRow base e 3 v n xs)
    (A : Option Addr) (m c : Nat) (news : List Value) (hx : a.eval x = .slice A m c) (hsrc : Src w A m c news)
    (h63 : n + m ≤ 100000) (hbase : base ≤ w.heap.size)
    (h : ∀ A' c' w', w'.ownsRow base e 3 (.slice A' (n + m) c') (n + m) (xs ++ news) → w.grownBy w' v.ownBlock → K (a.put o.dst (.slice A' (n + m) c')) w') :
    if Region.wanted o (yielded ops a.tmps) = true then Oper.wp P o a w K Q else E := by
  have hw : Region.wanted o (yielded ops a.tmps) = true := by simp [Region.wanted, hgd]
  rw [if_pos hw]
  have back : ∀ v' w', w'.ownsRow base e 3 v' (n + m) (xs ++ news) → w.grownBy w' v.ownBlock → K (a.put o.dst v') w' := fun v' w' h1 h2 => by
    obtain ⟨A', c', rfl⟩ := own_slice h1
    exact h A' c' w' h1 h2
  obtain ⟨h1, h2, ⟨rfl, rfl, rfl⟩ | ⟨ad, rfl, _, h3⟩⟩ := hsrc
  · have : news = [] := List.eq_nil_of_length_eq_zero (by simpa using h1)
    subst this
    have hrun := run_append_owned_none (P := P) (w := w) base t o.type e i 3 ht hi v n xs hown
    unfold Oper.wp
    simp [execOp, ho, resolve, invoke, builtin, hs, hx, hrun, Result.andThen]
    exact back v w (by simpa using hown) (World.grownBy.refl w _)
  · exact wp_append_own w s x t ho base e i z 3 40 ht hi hz hsize hby hzs (by decide) v n xs hs hown ad m c news hx h1 h3 h2 (by unfold maxLen; omega) (by omega) hbase (fun v' w' r1 r2 _ => back v' w' r1 r2)

/-- A slice of bytes turned to a string. -/
theorem RdB.conv {B0 : Nat} {w : World} {p : Option Addr} {n c : Nat} {L : List UInt8} (h : RdB B0 w p n c L) : (convert 26 9 (.slice p n c)).run Try.prog w = .ok (.string ⟨L.toArray⟩) w := by
  obtain ⟨h1, _, _, ⟨rfl, rfl, rfl⟩ | ⟨x, rfl, _, h3⟩⟩ := h
  · have : L = [] := List.eq_nil_of_length_eq_zero h1
    subst this
    exact run_convert_bytes_nil w 26 5 Try.underlying26 Try.underlying5 0 0 9 Try.underlying9
  · subst h1
    exact run_convert_bytes_back w 26 9 5 x c L Try.underlying26 Try.underlying5 Try.underlying9 (fun j hj => by
      rw [h3 j hj]
      simp [U8, List.getD, hj])

set_option maxRecDepth 100000 in
set_option maxHeartbeats 2000000 in
theorem same_yes (B0 : Nat) (f t : Int) (A : Option Addr) (n c : Nat) (A' : Option Addr) (n' c' : Nat) (L : List UInt8) (w : World) (h : RdB B0 w A n c L) (h' : RdB B0 w A' n' c' L) :
    Calls Try.prog 17 #[.agg #[.int .i64 f, .int .i64 t, .slice A n c], .agg #[.int .i64 f, .int .i64 t, .slice A' n' c']] w fun e w' => e = .returned (.bool true) ∧ Below w.heap.size w w' := by
  have B1 : Below w.heap.size w ((w.alloc (.cells #[.int .i64 f, .int .i64 t, .slice A n c] tPk)).alloc (.cells #[.int .i64 f, .int .i64 t, .slice A' n' c'] tRP)) := by (repeat' (first | (with_reducible exact Below.refl _ _) | (with_reducible assumption) | (with_reducible refine Below.alloc ?_ ?_ _) | (with_reducible refine bel_drewN ?_ _) | (with_reducible refine Below.drew ?_) | (with_reducible refine Below.setCell ?_ ?_ _) | (with_reducible refine bel_call ‹_› ?_ ?_) | go_size))
  have c1 := (h.below B1).conv
  have c2 := (h'.below B1).conv
  have C1 := Lib.hid c1
  have C2 := Lib.hid c2
  clear h h' c1 c2
  go_enter Try.func17, Try.ntmps17
  have c1 := C1.out
  have c2 := C2.out
  go_wp2_with fail
  go_ret
  exact ⟨rfl, by (repeat' (first | (with_reducible exact Below.refl _ _) | (with_reducible assumption) | (with_reducible refine Below.alloc ?_ ?_ _) | (with_reducible refine bel_drewN ?_ _) | (with_reducible refine Below.drew ?_) | (with_reducible refine Below.setCell ?_ ?_ _) | (with_reducible refine bel_call ‹_› ?_ ?_) | go_size))⟩

set_option maxHeartbeats 1000000 in
theorem has_yes (M s c l : Int) (A : Option Addr) (n cap i : Nat) (hi : i < n) (hn : n ≤ 1000) (w : World) :
    Calls Try.prog 21 #[.agg #[.int .i64 M, .slice A n cap, .int .i64 s, .int .i64 c, .int .i64 l], .int .i64 i] w fun e w' => e = .returned (.bool true) ∧ Below w.heap.size w w' := by
  have hd : decide ((i : Int) < (n : Int)) = true := by simp; omega
  go_enter Try.func21, Try.ntmps21
  go_wp2_with fail
  go_ret
  exact ⟨rfl, by (repeat' (first | (with_reducible exact Below.refl _ _) | (with_reducible assumption) | (with_reducible refine Below.alloc ?_ ?_ _) | (with_reducible refine bel_drewN ?_ _) | (with_reducible refine Below.drew ?_) | (with_reducible refine Below.setCell ?_ ?_ _) | (with_reducible refine bel_call ‹_› ?_ ?_) | go_size))⟩
set_option maxHeartbeats 1000000 in
theorem has_no (M s c l : Int) (A : Option Addr) (n cap : Nat) (i : Int) (hi : i < 0 ∨ (n : Int) ≤ i) (hn : n ≤ 1000) (w : World) :
    Calls Try.prog 21 #[.agg #[.int .i64 M, .slice A n cap, .int .i64 s, .int .i64 c, .int .i64 l], .int .i64 i] w fun e w' => e = .returned (.bool false) ∧ Below w.heap.size w w' := by
  by_cases h0 : i < 0
  · clear hi
    go_enter Try.func21, Try.ntmps21
    go_wp2_with fail
    go_ret
    exact ⟨rfl, by (repeat' (first | (with_reducible exact Below.refl _ _) | (with_reducible assumption) | (with_reducible refine Below.alloc ?_ ?_ _) | (with_reducible refine bel_drewN ?_ _) | (with_reducible refine Below.drew ?_) | (with_reducible refine Below.setCell ?_ ?_ _) | (with_reducible refine bel_call ‹_› ?_ ?_) | go_size))⟩
  · have h1 : 0 ≤ i := by omega
    have hd : decide (i < (n : Int)) = false := by simp; omega
    clear hi
    go_enter Try.func21, Try.ntmps21
    go_wp2_with fail
    go_ret
    exact ⟨rfl, by (repeat' (first | (with_reducible exact Below.refl _ _) | (with_reducible assumption) | (with_reducible refine Below.alloc ?_ ?_ _) | (with_reducible refine bel_drewN ?_ _) | (with_reducible refine Below.drew ?_) | (with_reducible refine Below.setCell ?_ ?_ _) | (with_reducible refine bel_call ‹_› ?_ ?_) | go_size))⟩
end Go.Proofs.Ytoeenaionamhiaa
