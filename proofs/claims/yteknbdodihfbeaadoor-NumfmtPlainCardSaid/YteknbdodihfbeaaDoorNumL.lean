/- Numfmt: the law's examples. -/
import Derived.Test.YteknbdodihfbeaaDoorNumK
import Derived.Test.YteknbdodihfbeaaDoorBlk
set_option linter.unusedSimpArgs false
set_option linter.unusedVariables false
namespace Go.Proofs.YteknbdodihfbeaaDoor
open Go.RowKit Go.Joins

theorem nparse_a (w : World) (hsh : w.ShapedOpen Tryd.prog) : Calls Tryd.prog 7 #[.string ⟨#[35, 44, 35, 35, 48, 46, 48, 48]⟩] w fun e w' => e = .returned (.tuple #[.agg #[.string ⟨#[]⟩, .string ⟨#[]⟩, .int .i64 1, .int .i64 2, .int .i64 0, .bool true, .bool false], .int .i64 0]) ∧ Below w.heap.size w w' :=
  parse_fm ⟨#[35, 44, 35, 35, 48, 46, 48, 48]⟩ (by decide) w hsh (some ⟨[], [], 1, 2, 0, true, false⟩) (by kernel_rfl)
theorem nparse_b (w : World) (hsh : w.ShapedOpen Tryd.prog) : Calls Tryd.prog 7 #[.string ⟨#[48, 37]⟩] w fun e w' => e = .returned (.tuple #[.agg #[.string ⟨#[]⟩, .string ⟨#[]⟩, .int .i64 1, .int .i64 0, .int .i64 0, .bool false, .bool true], .int .i64 0]) ∧ Below w.heap.size w w' :=
  parse_fm ⟨#[48, 37]⟩ (by decide) w hsh (some ⟨[], [], 1, 0, 0, false, true⟩) (by kernel_rfl)
theorem nparse_c (w : World) (hsh : w.ShapedOpen Tryd.prog) : Calls Tryd.prog 7 #[.string ⟨#[48, 46, 35, 35, 35, 35, 35, 35]⟩] w fun e w' => e = .returned (.tuple #[.agg #[.string ⟨#[]⟩, .string ⟨#[]⟩, .int .i64 1, .int .i64 0, .int .i64 6, .bool false, .bool false], .int .i64 0]) ∧ Below w.heap.size w w' :=
  parse_fm ⟨#[48, 46, 35, 35, 35, 35, 35, 35]⟩ (by decide) w hsh (some ⟨[], [], 1, 0, 6, false, false⟩) (by kernel_rfl)
theorem nwrite_a (w : World) (hsh : w.ShapedOpen Tryd.prog) : Calls Tryd.prog 9 #[.agg #[.string ⟨#[]⟩, .string ⟨#[]⟩, .int .i64 1, .int .i64 2, .int .i64 0, .bool true, .bool false], .int .i64 1234500000] w fun e w' => e = .returned (.tuple #[.string ⟨#[49, 44, 50, 51, 52, 46, 53, 48]⟩, .int .i64 0]) ∧ Below w.heap.size w w' :=
  nwrite_any [] [] 1 2 0 true false (by omega) (by omega) (by omega) (by decide) (by decide) 1234500000 (by omega) (by omega) w hsh ([49, 44, 50, 51, 52, 46, 53, 48], 0) (by decide +kernel)
theorem nwrite_b (w : World) (hsh : w.ShapedOpen Tryd.prog) : Calls Tryd.prog 9 #[.agg #[.string ⟨#[]⟩, .string ⟨#[]⟩, .int .i64 1, .int .i64 0, .int .i64 0, .bool false, .bool true], .int .i64 256000] w fun e w' => e = .returned (.tuple #[.string ⟨#[50, 54, 37]⟩, .int .i64 0]) ∧ Below w.heap.size w w' :=
  nwrite_any [] [] 1 0 0 false true (by omega) (by omega) (by omega) (by decide) (by decide) 256000 (by omega) (by omega) w hsh ([50, 54, 37], 0) (by decide +kernel)
theorem nwrite_c (d : Int) (h1 : -9223372036854775808 ≤ d) (h2 : d ≤ 9223372036854775807) (w : World) (hsh : w.ShapedOpen Tryd.prog) : Calls Tryd.prog 9 #[.agg #[.string ⟨#[]⟩, .string ⟨#[]⟩, .int .i64 1, .int .i64 0, .int .i64 6, .bool false, .bool false], .int .i64 d] w fun e w' => e = .returned (.tuple #[.string ⟨(txt d).toArray⟩, .int .i64 0]) ∧ Below w.heap.size w w' :=
  nwrite_any [] [] 1 0 6 false false (by omega) (by omega) (by omega) (by decide) (by decide) d h1 h2 w hsh (txt d, 0) (by rw [wr_same _ _ (by decide)]; exact wr_plain d h1 h2)
set_option maxRecDepth 100000 in
set_option maxHeartbeats 4000000 in
theorem awake_any (w : World) (hsh : w.ShapedOpen Tryd.prog) : Calls Tryd.prog 6 #[] w fun e w' => e = .returned (.bool true) ∧ Below w.heap.size w w' := by
  have HSH := Lib.hid hsh
  clear hsh
  go_enter Tryd.func6, Tryd.ntmps6
  go_wp2_with fail
  refine (nparse_a _ HSH.out).mono ?_
  rintro e w1 ⟨rfl, hb1⟩
  have hs1 := hb1.size
  have HB1 := Lib.hid hb1
  clear hb1
  go_upto_region 2 with fail
  have hf1 := Lib.hid (heap_alloc_new w1 (.cells #[.string ⟨#[]⟩, .string ⟨#[]⟩, .int .i64 1, .int .i64 2, .int .i64 0, .bool true, .bool false] tFm))
  have HB2 : Hid (Below w.heap.size w (w1.alloc (.cells #[.string ⟨#[]⟩, .string ⟨#[]⟩, .int .i64 1, .int .i64 2, .int .i64 0, .bool true, .bool false] tFm))) := HB1.out.alloc HB1.out.size _
  generalize w1.alloc (.cells #[.string ⟨#[]⟩, .string ⟨#[]⟩, .int .i64 1, .int .i64 2, .int .i64 0, .bool true, .bool false] tFm) = w2 at hf1 HB2 ⊢
  generalize w1.heap.size = g1 at hf1 hs1 ⊢
  have hF1 : Hid (FmB w2 g1 ⟨[], [], 1, 2, 0, true, false⟩) := hf1.out
  clear hf1 HB1
  go_wp2_with fail
  refine (nparse_b _ (shaped_below HSH.out HB2.out)).mono ?_
  rintro e w3 ⟨rfl, hb3⟩
  have HB3 : Hid (Below w.heap.size w w3) := bel_call hb3 HB2.out HB2.out.size
  have hF3 := Lib.hid (hF1.out.below hb3)
  clear hb3 hF1 HB2
  go_upto_region 3 with fail
  have hf1 := Lib.hid (heap_alloc_new w3 (.cells #[.string ⟨#[]⟩, .string ⟨#[]⟩, .int .i64 1, .int .i64 0, .int .i64 0, .bool false, .bool true] tFm))
  have hbn : Below w3.heap.size w3 (w3.alloc (.cells #[.string ⟨#[]⟩, .string ⟨#[]⟩, .int .i64 1, .int .i64 0, .int .i64 0, .bool false, .bool true] tFm)) := by (repeat' (first | (with_reducible exact Below.refl _ _) | (with_reducible assumption) | (with_reducible refine Below.alloc ?_ ?_ _) | (with_reducible refine bel_drewN ?_ _) | (with_reducible refine Below.drew ?_) | (with_reducible refine Below.setCell ?_ ?_ _) | (with_reducible refine bel_call ‹_› ?_ ?_) | go_size))
  have HB4 : Hid (Below w.heap.size w (w3.alloc (.cells #[.string ⟨#[]⟩, .string ⟨#[]⟩, .int .i64 1, .int .i64 0, .int .i64 0, .bool false, .bool true] tFm))) := bel_call hbn HB3.out HB3.out.size
  have hF4 := Lib.hid (hF3.out.below hbn)
  clear hbn
  generalize w3.alloc (.cells #[.string ⟨#[]⟩, .string ⟨#[]⟩, .int .i64 1, .int .i64 0, .int .i64 0, .bool false, .bool true] tFm) = w4 at hf1 HB4 hF4 ⊢
  generalize w3.heap.size = g2 at hf1 ⊢
  have hG4 : Hid (FmB w4 g2 ⟨[], [], 1, 0, 0, false, true⟩) := hf1.out
  clear hf1 HB3 hF3
  refine wp_region_lit ?_
  refine wpList_load_mid (by rfl) _ _ (by rfl) g1 0 (by rfl) [.string ⟨#[]⟩, .string ⟨#[]⟩, .int .i64 1, .int .i64 2, .int .i64 0, .bool true, .bool false] _ (block_range hF4.out [.string ⟨#[]⟩, .string ⟨#[]⟩, .int .i64 1, .int .i64 2, .int .i64 0, .bool true, .bool false] rfl) Tryd.underlying24 rfl (by kernel_rfl) ?_
  go_simp
  go_wp2_with fail
  refine (nwrite_a _ (shaped_below HSH.out HB4.out)).mono ?_
  rintro e w5 ⟨rfl, hb5⟩
  have HB5 : Hid (Below w.heap.size w w5) := bel_call hb5 HB4.out HB4.out.size
  have hG5 := Lib.hid (hG4.out.below hb5)
  clear hb5 HB4 hG4 hF4
  go_upto_region 4 with fail
  refine wp_region_lit ?_
  refine wpList_load_mid (by rfl) _ _ (by rfl) g2 0 (by rfl) [.string ⟨#[]⟩, .string ⟨#[]⟩, .int .i64 1, .int .i64 0, .int .i64 0, .bool false, .bool true] _ (block_range hG5.out [.string ⟨#[]⟩, .string ⟨#[]⟩, .int .i64 1, .int .i64 0, .int .i64 0, .bool false, .bool true] rfl) Tryd.underlying24 rfl (by kernel_rfl) ?_
  go_simp
  go_wp2_with fail
  refine (nwrite_b _ (shaped_below HSH.out HB5.out)).mono ?_
  rintro e w6 ⟨rfl, hb6⟩
  have HB6 : Hid (Below w.heap.size w w6) := bel_call hb6 HB5.out HB5.out.size
  clear hb6 HB5 hG5
  go_wp2_with fail
  go_ret
  exact ⟨rfl, HB6.out⟩
end Go.Proofs.YteknbdodihfbeaaDoor
