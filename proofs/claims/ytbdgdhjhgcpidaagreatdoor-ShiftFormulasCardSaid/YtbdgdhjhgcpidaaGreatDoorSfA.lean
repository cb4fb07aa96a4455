/- DERIVED: THE SHELF's CONTRACTS AT THIS DUMP, IN PLAIN WORDS (tools/lay-plain.mjs out of 'YtbdgdhjhgcpidaaGreatDoorShelf.lean', which tools/lay-shelf.mjs wrote): THE SAME DECLARATIONS UNDER THE SAME NAMES: 'import', 'namespace', 'open', 'def', 'theorem' AND NOTHING ELSE: no command of the shelf's: FOR A HAND-IN. Each laying: the table of numbers ('.._ren') and one theorem, a field a fact of the dump's own or the kernel's comparison; each contract: ONE APPLICATION. Rows of whatever elements in memory: a slice reads as a list; rows of the call's own. No function of the program. Plain laws on decimal digits, the least one first: no program in sight. Slices of digits in memory: what is read, what is owned, what a call hands back. The worlds in which the blocks below N are as they were, as a type: for walks by the quick rules. No function of the program. -/
import Derived.Shelf.Strings.Builder1
import Derived.Shelf.Strings.Builder2
import Derived.Shelf.Strings.Trim
import Derived.Shelf.Small.Utf8
import Derived.Shelf.Small.Bits
import Derived.Shelf.Small.Strs
import Derived.Shelf.Small.Wraps
import Derived.Shelf.Strings.BuilderF
import Derived.Shelf.Utf8.RuneCount
import Derived.Shelf.Strconv.Itoa0
import Derived.Shelf.Strings.Search1
import Derived.Shelf.Strings.Search2
import Derived.Shelf.Strings.Search3
import Derived.Shelf.Strings.Cut
import Derived.Shelf.Strings.Count
import Derived.Shelf.LaysM
import Derived.Shelf.Strings.Shaped
import Derived.Shelf.Strings.Prefix
import Derived.Shelf.Strings.Split
import Derived.Shelf.Strings.Replace
import Derived.Shelf.Strings.SplitShaped
import Derived.Shelf.Unicode.Decode
import Derived.Shelf.Strings.Runes
import Derived.Shelf.Strings.RuneCount
import Derived.Shelf.Strings.AsciiSet
import Derived.Shelf.Bits.Mul64
import Derived.Shelf.Unicode.DecodeSlow
import Derived.Shelf.Unicode.DecodeAny
import Derived.Shelf.Unicode.DecodeLast
import Derived.Shelf.Slices.Turned
import Derived.Test.YtbdgdhjhgcpidaaGreatDoorProg
import Derived.Test.YtbdgdhjhgcpidaaGreatDoorBase
import Derived.OwnWalk
import Derived.Laws.AppendOwnNone
import Derived.Laws.OwnMore
import Derived.Laws.MakeOwn
import Derived.WalkKit
import Derived.Test.YtbdgdhjhgcpidaaGreatDoorSfE
set_option linter.unusedSimpArgs false
set_option linter.unusedVariables false
namespace Go.Proofs
open Go.Shelf
open Go.RowKit in
def Tryz.lays169_ren : Go.Shelf.Ren := ⟨fun | 169 => 81 | n => n, fun | 70 => 141 | 9 => 9 | 0 => 0 | 72 => 143 | 37 => 125 | 127 => 171 | 3 => 3 | 5 => 5 | n => n, fun | n => n⟩
theorem Tryz.lays169 : Go.Proofs.Lays.n169 Tryz.prog Tryz.lays169_ren := {
  mixed := by kernel_rfl
  f169 := Tryz.func81.trans (congrArg some (by kernel_rfl))
  t0 := Tryz.underlying0
  a0 := Tryz.isAgg0
  z0 := Tryz.sizeOf0
  v0 := Tryz.zeroValue0
  t3 := Tryz.underlying3
  a3 := Tryz.isAgg3
  z3 := Tryz.sizeOf3
  v3 := Tryz.zeroValue3
  t9 := Tryz.underlying9
  a9 := Tryz.isAgg9
  z9 := Tryz.sizeOf9
  v9 := Tryz.zeroValue9
  t37 := Tryz.underlying125
  a37 := Tryz.isAgg125
  z37 := Tryz.sizeOf125
  v37 := Tryz.zeroValue125
  t70 := Tryz.underlying141
  a70 := Tryz.isAgg141
  z70 := Tryz.sizeOf141
  v70 := Tryz.zeroValue141
  t72 := Tryz.underlying143
  a72 := Tryz.isAgg143
  z72 := Tryz.sizeOf143
  v72 := Tryz.zeroValue143
  t127 := Tryz.underlying171
  a127 := Tryz.isAgg171
  z127 := Tryz.sizeOf171
  v127 := Tryz.zeroValue171 }
theorem Tryz.Builder_Extra_169 : Builder.Extra Tryz.prog Tryz.lays169_ren := {
  sizeBuilder := by kernel_rfl
  liesBuilder := by kernel_rfl
  t5 := Tryz.underlying5
  a5 := Tryz.isAgg5
  z5 := Tryz.sizeOf5
  v5 := Tryz.zeroValue5
  infoByte := by kernel_rfl
  cellsByte := by kernel_rfl
  sizeByte := by kernel_rfl
  neB5 := by decide }
open Go.RowKit in
open Go.RowKit in
open Go.RowKit in
theorem Tryz.Builder_String_any (B b : Nat) (l : List UInt8) (w : World) (h : Lib.IsBuilder 143 5 B b (Lib.byteCells l) w) (hBw : B ≤ w.heap.size) :
    Calls Tryz.prog 81 #[.pointer (some ⟨b, 0, none⟩)] w fun e w' => e = .returned (.string ⟨l.toArray⟩) ∧ Below B w w' := Any.Builder_String_any Tryz.lays169 Tryz.Builder_Extra_169 B b l w h hBw
open Go.RowKit in
open Go.RowKit in
open Go.RowKit in
def Tryz.lays162_ren : Go.Shelf.Ren := ⟨fun | 162 => 68 | 232 => 84 | 227 => 85 | 234 => 86 | 236 => 87 | 228 => 113 | 271 => 114 | 151 => 115 | 120 => 131 | 197 => 132 | 152 => 133 | 260 => 145 | 137 => 146 | 119 => 147 | 224 => 125 | 225 => 124 | 217 => 123 | 266 => 139 | n => n, fun | 9 => 9 | 4 => 4 | 3 => 3 | 5 => 5 | 117 => 149 | 116 => 148 | 0 => 0 | 124 => 152 | 21 => 21 | 105 => 173 | 46 => 135 | 119 => 200 | 139 => 203 | 138 => 202 | n => n, fun | 3 => 3 | 4 => 4 | n => n⟩
theorem Tryz.lays162 : Go.Proofs.Lays.n162 Tryz.prog Tryz.lays162_ren := {
  mixed := by kernel_rfl
  f119 := Tryz.func147.trans (congrArg some (by kernel_rfl))
  f120 := Tryz.func131.trans (congrArg some (by kernel_rfl))
  f137 := Tryz.func146.trans (congrArg some (by kernel_rfl))
  f151 := Tryz.func115.trans (congrArg some (by kernel_rfl))
  f152 := Tryz.func133.trans (congrArg some (by kernel_rfl))
  f162 := Tryz.func68.trans (congrArg some (by kernel_rfl))
  f197 := Tryz.func132.trans (congrArg some (by kernel_rfl))
  f217 := Tryz.func123.trans (congrArg some (by kernel_rfl))
  f224 := Tryz.func125.trans (congrArg some (by kernel_rfl))
  f225 := Tryz.func124.trans (congrArg some (by kernel_rfl))
  f227 := Tryz.func85.trans (congrArg some (by kernel_rfl))
  f228 := Tryz.func113.trans (congrArg some (by kernel_rfl))
  f232 := Tryz.func84.trans (congrArg some (by kernel_rfl))
  f234 := Tryz.func86.trans (congrArg some (by kernel_rfl))
  f236 := Tryz.func87.trans (congrArg some (by kernel_rfl))
  f260 := Tryz.func145.trans (congrArg some (by kernel_rfl))
  f266 := Tryz.func139.trans (congrArg some (by kernel_rfl))
  f271 := Tryz.func114.trans (congrArg some (by kernel_rfl))
  t0 := Tryz.underlying0
  a0 := Tryz.isAgg0
  z0 := Tryz.sizeOf0
  v0 := Tryz.zeroValue0
  t3 := Tryz.underlying3
  a3 := Tryz.isAgg3
  z3 := Tryz.sizeOf3
  v3 := Tryz.zeroValue3
  t4 := Tryz.underlying4
  a4 := Tryz.isAgg4
  z4 := Tryz.sizeOf4
  v4 := Tryz.zeroValue4
  t5 := Tryz.underlying5
  a5 := Tryz.isAgg5
  z5 := Tryz.sizeOf5
  v5 := Tryz.zeroValue5
  t9 := Tryz.underlying9
  a9 := Tryz.isAgg9
  z9 := Tryz.sizeOf9
  v9 := Tryz.zeroValue9
  t21 := Tryz.underlying21
  a21 := Tryz.isAgg21
  z21 := Tryz.sizeOf21
  v21 := Tryz.zeroValue21
  t46 := Tryz.underlying135
  a46 := Tryz.isAgg135
  z46 := Tryz.sizeOf135
  v46 := Tryz.zeroValue135
  t105 := Tryz.underlying173
  a105 := Tryz.isAgg173
  z105 := Tryz.sizeOf173
  v105 := Tryz.zeroValue173
  t116 := Tryz.underlying148
  a116 := Tryz.isAgg148
  z116 := Tryz.sizeOf148
  t117 := Tryz.underlying149
  a117 := Tryz.isAgg149
  z117 := Tryz.sizeOf149
  v117 := Tryz.zeroValue149
  t119 := Tryz.underlying200
  a119 := Tryz.isAgg200
  z119 := Tryz.sizeOf200
  t124 := Tryz.underlying152
  a124 := Tryz.isAgg152
  z124 := Tryz.sizeOf152
  v124 := Tryz.zeroValue152
  t138 := Tryz.underlying202
  a138 := Tryz.isAgg202
  z138 := Tryz.sizeOf202
  v138 := Tryz.zeroValue202
  t139 := Tryz.underlying203
  a139 := Tryz.isAgg203
  z139 := Tryz.sizeOf203
  v139 := Tryz.zeroValue203
  g3 := by kernel_rfl
  g4 := by kernel_rfl }
open Go.RowKit in
theorem Tryz.strings_TrimRight_one (s : ByteArray) (c : UInt8) (hc : c.toNat < 128) (w : World) (hs : s.size ≤ 9223372036854775807) :
    Calls Tryz.prog 68 #[.string s, .string ⟨#[c]⟩] w fun e w' => e = .returned (.string ⟨(Lib.trimRightB s.data.toList c).toArray⟩) ∧ w' = w := Any.strings_TrimRight_one Tryz.lays162 s c hc w hs
def Tryz.lays134_ren : Go.Shelf.Ren := ⟨fun | 134 => 112 | 129 => 130 | n => n, fun | 53 => 102 | 3 => 3 | 4 => 4 | 46 => 135 | 5 => 5 | 9 => 9 | n => n, fun | n => n⟩
theorem Tryz.lays134 : Go.Proofs.Lays.n134 Tryz.prog Tryz.lays134_ren := {
  mixed := by kernel_rfl
  f129 := Tryz.func130.trans (congrArg some (by kernel_rfl))
  f134 := Tryz.func112.trans (congrArg some (by kernel_rfl))
  t3 := Tryz.underlying3
  a3 := Tryz.isAgg3
  z3 := Tryz.sizeOf3
  v3 := Tryz.zeroValue3
  t4 := Tryz.underlying4
  a4 := Tryz.isAgg4
  z4 := Tryz.sizeOf4
  v4 := Tryz.zeroValue4
  t5 := Tryz.underlying5
  a5 := Tryz.isAgg5
  z5 := Tryz.sizeOf5
  v5 := Tryz.zeroValue5
  t9 := Tryz.underlying9
  a9 := Tryz.isAgg9
  z9 := Tryz.sizeOf9
  v9 := Tryz.zeroValue9
  t46 := Tryz.underlying135
  a46 := Tryz.isAgg135
  z46 := Tryz.sizeOf135
  v46 := Tryz.zeroValue135
  t53 := Tryz.underlying102
  a53 := Tryz.isAgg102
  z53 := Tryz.sizeOf102
  v53 := Tryz.zeroValue102 }
theorem Tryz.bits_LeadingZeros64 (x : Int) (w : World) (h0 : 0 ≤ x) (h1 : x ≤ 18446744073709551615) :
    Calls Tryz.prog 112 #[.int .u64 x] w fun e w' => e = .returned (.int .i64 (64 - (Lib.bitLen x.toNat : Int))) ∧ w' = w := Any.bits_LeadingZeros64 Tryz.lays134 x w h0 h1
open Go.RowKit in
open Go.RowKit in
def Tryz.lays103_ren : Go.Shelf.Ren := ⟨fun | 103 => 36 | 210 => 58 | 206 => 39 | n => n, fun | 9 => 9 | 4 => 4 | 24 => 81 | 3 => 3 | n => n, fun | n => n⟩
theorem Tryz.lays103 : Go.Proofs.Lays.n103 Tryz.prog Tryz.lays103_ren := {
  mixed := by kernel_rfl
  f103 := Tryz.func36.trans (congrArg some (by kernel_rfl))
  f206 := Tryz.func39.trans (congrArg some (by kernel_rfl))
  f210 := Tryz.func58.trans (congrArg some (by kernel_rfl))
  t3 := Tryz.underlying3
  a3 := Tryz.isAgg3
  z3 := Tryz.sizeOf3
  v3 := Tryz.zeroValue3
  t4 := Tryz.underlying4
  a4 := Tryz.isAgg4
  z4 := Tryz.sizeOf4
  v4 := Tryz.zeroValue4
  t9 := Tryz.underlying9
  a9 := Tryz.isAgg9
  z9 := Tryz.sizeOf9
  v9 := Tryz.zeroValue9
  t24 := Tryz.underlying81
  a24 := Tryz.isAgg81
  z24 := Tryz.sizeOf81
  v24 := Tryz.zeroValue81 }
open Go.RowKit in
theorem Tryz.strings_CutPrefix (s p : ByteArray) (w : World) :
    Calls Tryz.prog 36 #[.string s, .string p] w fun e w' => e = .returned (.tuple #[.string ⟨(Lib.trimPrefix s.data.toList p.data.toList).toArray⟩, .bool (Lib.hasPrefix s.data.toList p.data.toList)]) ∧ w' = w := Any.strings_CutPrefix Tryz.lays103 s p w
open Go.RowKit in
open Go.RowKit in
open Go.RowKit in
open Go.RowKit in
open Go.RowKit in
open Go.RowKit Go.Lib in
open Go.RowKit Go.Lib in
open Go.RowKit Go.Lib in
open Go.RowKit Go.Lib in
open Go.RowKit Go.Lib in
open Go.RowKit Go.Lib in
open Go.RowKit Go.Lib in
open Go.RowKit Go.Lib in
open Go.RowKit Go.Lib in
open Go.RowKit Go.Lib in
open Go.RowKit Go.Lib in
open Go.RowKit Go.Lib in
open Go.RowKit Go.Lib in
open Go.RowKit Go.Lib in
open Go.RowKit Go.Lib in
def Tryz.laysM145_ren : Go.Shelf.Ren := ⟨fun | 145 => 53 | 220 => 75 | 219 => 97 | 217 => 123 | 225 => 124 | 224 => 125 | 267 => 126 | 266 => 139 | 314 => 140 | n => n, fun | 9 => 9 | 4 => 4 | 59 => 100 | 3 => 3 | 5 => 5 | 46 => 135 | 146 => 177 | 51 => 176 | n => n, fun | 1 => 2 | n => n⟩
theorem Tryz.laysM145 : Go.Proofs.LaysM.n145 Tryz.prog Tryz.laysM145_ren := {
  mixed := by kernel_rfl
  f145 := Tryz.func53.trans (congrArg some (by kernel_rfl))
  f217 := Tryz.func123.trans (congrArg some (by kernel_rfl))
  f219 := Tryz.func97.trans (congrArg some (by kernel_rfl))
  f220 := Tryz.func75.trans (congrArg some (by kernel_rfl))
  f224 := Tryz.func125.trans (congrArg some (by kernel_rfl))
  f225 := Tryz.func124.trans (congrArg some (by kernel_rfl))
  f266 := Tryz.func139.trans (congrArg some (by kernel_rfl))
  f267 := Tryz.func126.trans (congrArg some (by kernel_rfl))
  f314 := Tryz.func140.trans (congrArg some (by kernel_rfl))
  t3 := Tryz.underlying3
  a3 := Tryz.isAgg3
  z3 := Tryz.sizeOf3
  v3 := Tryz.zeroValue3
  t4 := Tryz.underlying4
  a4 := Tryz.isAgg4
  z4 := Tryz.sizeOf4
  v4 := Tryz.zeroValue4
  t5 := Tryz.underlying5
  a5 := Tryz.isAgg5
  z5 := Tryz.sizeOf5
  v5 := Tryz.zeroValue5
  t9 := Tryz.underlying9
  a9 := Tryz.isAgg9
  z9 := Tryz.sizeOf9
  v9 := Tryz.zeroValue9
  t46 := Tryz.underlying135
  a46 := Tryz.isAgg135
  z46 := Tryz.sizeOf135
  v46 := Tryz.zeroValue135
  t51 := Tryz.underlying176
  a51 := Tryz.isAgg176
  z51 := Tryz.sizeOf176
  v51 := Tryz.zeroValue176
  t59 := Tryz.underlying100
  a59 := Tryz.isAgg100
  z59 := Tryz.sizeOf100
  v59 := Tryz.zeroValue100
  t146 := Tryz.underlying177
  a146 := Tryz.isAgg177
  z146 := Tryz.sizeOf177
  v146 := Tryz.zeroValue177
  g1 := by kernel_rfl
  i3 := by kernel_rfl
  i4 := by kernel_rfl
  i5 := by kernel_rfl
  i9 := by kernel_rfl
  i46 := by kernel_rfl
  i51 := by kernel_rfl
  i59 := by kernel_rfl
  i146 := by kernel_rfl
  m1 := by kernel_rfl
  s1_3 := fun w h => Go.Proofs.cell_of_shapedOpen_int (zero := #[.int .i64 0]) (t := 3) h (of_decide_eq_true (by kernel_rfl)) (by kernel_rfl) rfl (by kernel_rfl) (by kernel_rfl) Tryz.underlying3 }
open Go.RowKit Go.Lib in
theorem Tryz.strings_Cut_shaped (s sep : ByteArray) (w : World) (h : w.ShapedOpen Tryz.prog) (hs : s.size < 4294967281) :
    Calls Tryz.prog 53 #[.string s, .string sep] w fun e w' => e = .returned (.tuple #[.string ⟨(Lib.cut s.data.toList sep.data.toList).1.toArray⟩, .string ⟨(Lib.cut s.data.toList sep.data.toList).2.1.toArray⟩, .bool (Lib.cut s.data.toList sep.data.toList).2.2]) ∧ ∃ n, w' = w.drewN n := Any.strings_Cut_shaped Tryz.laysM145 s sep w h hs
open Go.RowKit Go.Lib in
open Go.RowKit Go.Lib in
def Tryz.lays99_ren : Go.Shelf.Ren := ⟨fun | 99 => 28 | 206 => 39 | n => n, fun | 9 => 9 | 4 => 4 | 3 => 3 | n => n, fun | n => n⟩
theorem Tryz.lays99 : Go.Proofs.Lays.n99 Tryz.prog Tryz.lays99_ren := {
  mixed := by kernel_rfl
  f99 := Tryz.func28.trans (congrArg some (by kernel_rfl))
  f206 := Tryz.func39.trans (congrArg some (by kernel_rfl))
  t3 := Tryz.underlying3
  a3 := Tryz.isAgg3
  z3 := Tryz.sizeOf3
  v3 := Tryz.zeroValue3
  t4 := Tryz.underlying4
  a4 := Tryz.isAgg4
  z4 := Tryz.sizeOf4
  v4 := Tryz.zeroValue4
  t9 := Tryz.underlying9
  a9 := Tryz.isAgg9
  z9 := Tryz.sizeOf9
  v9 := Tryz.zeroValue9 }
open Go.RowKit Go.Lib in
theorem Tryz.strings_HasPrefix (s p : ByteArray) (w : World) :
    Calls Tryz.prog 28 #[.string s, .string p] w fun e w' => e = .returned (.bool (Lib.hasPrefix s.data.toList p.data.toList)) ∧ w' = w := Any.strings_HasPrefix Tryz.lays99 s p w
open Go.RowKit Go.Lib in
open Go.RowKit Go.Lib in
open Go.RowKit Go.Lib in
open Go.RowKit Go.Lib in
open Go.RowKit Go.Lib in
open Go.RowKit Go.Lib in
open Go.RowKit Go.Lib in
def Tryz.laysM155_ren : Go.Shelf.Ren := ⟨fun | 155 => 128 | 154 => 143 | 138 => 152 | 165 => 90 | 143 => 153 | 166 => 91 | 197 => 132 | 169 => 81 | 195 => 154 | 218 => 155 | 240 => 117 | 241 => 118 | 219 => 97 | 260 => 145 | 276 => 134 | 277 => 135 | 217 => 123 | 225 => 124 | 224 => 125 | 267 => 126 | 266 => 139 | 314 => 140 | n => n, fun | 9 => 9 | 3 => 3 | 4 => 4 | 72 => 143 | 0 => 0 | 76 => 159 | 105 => 173 | 21 => 21 | 5 => 5 | 70 => 141 | 20 => 20 | 37 => 125 | 75 => 158 | 127 => 171 | 164 => 188 | 46 => 135 | 119 => 200 | 139 => 203 | 138 => 202 | 146 => 177 | 51 => 176 | 80 => 87 | n => n, fun | 1 => 2 | 3 => 3 | 4 => 4 | n => n⟩
theorem Tryz.laysM155 : Go.Proofs.LaysM.n155 Tryz.prog Tryz.laysM155_ren := {
  mixed := by kernel_rfl
  f138 := Tryz.func152.trans (congrArg some (by kernel_rfl))
  f143 := Tryz.func153.trans (congrArg some (by kernel_rfl))
  f154 := Tryz.func143.trans (congrArg some (by kernel_rfl))
  f155 := Tryz.func128.trans (congrArg some (by kernel_rfl))
  f165 := Tryz.func90.trans (congrArg some (by kernel_rfl))
  f166 := Tryz.func91.trans (congrArg some (by kernel_rfl))
  f169 := Tryz.func81.trans (congrArg some (by kernel_rfl))
  f195 := Tryz.func154.trans (congrArg some (by kernel_rfl))
  f197 := Tryz.func132.trans (congrArg some (by kernel_rfl))
  f217 := Tryz.func123.trans (congrArg some (by kernel_rfl))
  f218 := Tryz.func155.trans (congrArg some (by kernel_rfl))
  f219 := Tryz.func97.trans (congrArg some (by kernel_rfl))
  f224 := Tryz.func125.trans (congrArg some (by kernel_rfl))
  f225 := Tryz.func124.trans (congrArg some (by kernel_rfl))
  f240 := Tryz.func117.trans (congrArg some (by kernel_rfl))
  f241 := Tryz.func118.trans (congrArg some (by kernel_rfl))
  f260 := Tryz.func145.trans (congrArg some (by kernel_rfl))
  f266 := Tryz.func139.trans (congrArg some (by kernel_rfl))
  f267 := Tryz.func126.trans (congrArg some (by kernel_rfl))
  f276 := Tryz.func134.trans (congrArg some (by kernel_rfl))
  f277 := Tryz.func135.trans (congrArg some (by kernel_rfl))
  f314 := Tryz.func140.trans (congrArg some (by kernel_rfl))
  t0 := Tryz.underlying0
  a0 := Tryz.isAgg0
  z0 := Tryz.sizeOf0
  v0 := Tryz.zeroValue0
  t3 := Tryz.underlying3
  a3 := Tryz.isAgg3
  z3 := Tryz.sizeOf3
  v3 := Tryz.zeroValue3
  t4 := Tryz.underlying4
  a4 := Tryz.isAgg4
  z4 := Tryz.sizeOf4
  v4 := Tryz.zeroValue4
  t5 := Tryz.underlying5
  a5 := Tryz.isAgg5
  z5 := Tryz.sizeOf5
  v5 := Tryz.zeroValue5
  t9 := Tryz.underlying9
  a9 := Tryz.isAgg9
  z9 := Tryz.sizeOf9
  v9 := Tryz.zeroValue9
  t20 := Tryz.underlying20
  a20 := Tryz.isAgg20
  z20 := Tryz.sizeOf20
  v20 := Tryz.zeroValue20
  t21 := Tryz.underlying21
  a21 := Tryz.isAgg21
  z21 := Tryz.sizeOf21
  v21 := Tryz.zeroValue21
  t37 := Tryz.underlying125
  a37 := Tryz.isAgg125
  z37 := Tryz.sizeOf125
  v37 := Tryz.zeroValue125
  t46 := Tryz.underlying135
  a46 := Tryz.isAgg135
  z46 := Tryz.sizeOf135
  v46 := Tryz.zeroValue135
  t51 := Tryz.underlying176
  a51 := Tryz.isAgg176
  z51 := Tryz.sizeOf176
  v51 := Tryz.zeroValue176
  t70 := Tryz.underlying141
  a70 := Tryz.isAgg141
  z70 := Tryz.sizeOf141
  v70 := Tryz.zeroValue141
  t72 := Tryz.underlying143
  a72 := Tryz.isAgg143
  z72 := Tryz.sizeOf143
  v72 := Tryz.zeroValue143
  t75 := Tryz.underlying158
  a75 := Tryz.isAgg158
  z75 := Tryz.sizeOf158
  v75 := Tryz.zeroValue158
  t76 := Tryz.underlying159
  a76 := Tryz.isAgg159
  z76 := Tryz.sizeOf159
  v76 := Tryz.zeroValue159
  t105 := Tryz.underlying173
  a105 := Tryz.isAgg173
  z105 := Tryz.sizeOf173
  v105 := Tryz.zeroValue173
  t119 := Tryz.underlying200
  a119 := Tryz.isAgg200
  z119 := Tryz.sizeOf200
  t127 := Tryz.underlying171
  a127 := Tryz.isAgg171
  z127 := Tryz.sizeOf171
  v127 := Tryz.zeroValue171
  t138 := Tryz.underlying202
  a138 := Tryz.isAgg202
  z138 := Tryz.sizeOf202
  v138 := Tryz.zeroValue202
  t139 := Tryz.underlying203
  a139 := Tryz.isAgg203
  z139 := Tryz.sizeOf203
  v139 := Tryz.zeroValue203
  t146 := Tryz.underlying177
  a146 := Tryz.isAgg177
  z146 := Tryz.sizeOf177
  v146 := Tryz.zeroValue177
  t164 := Tryz.underlying188
  a164 := Tryz.isAgg188
  z164 := Tryz.sizeOf188
  v164 := Tryz.zeroValue188
  g1 := by kernel_rfl
  g3 := by kernel_rfl
  g4 := by kernel_rfl
  t80 := Tryz.underlying87
  a80 := Tryz.isAgg87
  z80 := Tryz.sizeOf87
  v80 := Tryz.zeroValue87
  i0 := by kernel_rfl
  i3 := by kernel_rfl
  i4 := by kernel_rfl
  i5 := by kernel_rfl
  i9 := by kernel_rfl
  i20 := by kernel_rfl
  i21 := by kernel_rfl
  i37 := by kernel_rfl
  i46 := by kernel_rfl
  i51 := by kernel_rfl
  i70 := by kernel_rfl
  i72 := by kernel_rfl
  i75 := by kernel_rfl
  i76 := by kernel_rfl
  i80 := by kernel_rfl
  i105 := by kernel_rfl
  i127 := by kernel_rfl
  i138 := by kernel_rfl
  i139 := by kernel_rfl
  i146 := by kernel_rfl
  i164 := by kernel_rfl
  m1 := by kernel_rfl
  s1_3 := fun w h => Go.Proofs.cell_of_shapedOpen_int (zero := #[.int .i64 0]) (t := 3) h (of_decide_eq_true (by kernel_rfl)) (by kernel_rfl) rfl (by kernel_rfl) (by kernel_rfl) Tryz.underlying3
  m3 := by kernel_rfl
  m4 := by kernel_rfl }
theorem Tryz.Builder_Extra_M155 : Builder.Extra Tryz.prog Tryz.laysM155_ren := {
  sizeBuilder := by kernel_rfl
  liesBuilder := by kernel_rfl
  t5 := Tryz.underlying5
  a5 := Tryz.isAgg5
  z5 := Tryz.sizeOf5
  v5 := Tryz.zeroValue5
  infoByte := by kernel_rfl
  cellsByte := by kernel_rfl
  sizeByte := by kernel_rfl
  neB5 := by decide }
open Go.RowKit Go.Lib in
theorem Tryz.strings_ReplaceAll_shaped (s old new : ByteArray) (w : World) (h : w.ShapedOpen Tryz.prog) (hs : s.size < 4294967281) (h1 : 1 ≤ old.size) (hlen : s.size + Lib.countB s old * new.size ≤ 140737488355328) :
    Calls Tryz.prog 128 #[.string s, .string old, .string new] w fun e w' =>
      e = .returned (.string ⟨(Lib.replaceAll s.data.toList old.data.toList new.data.toList).toArray⟩) ∧ Below w.heap.size w w' := Any.strings_ReplaceAll_shaped Tryz.laysM155 Tryz.Builder_Extra_M155 s old new w h hs h1 hlen
open Go.RowKit Go.Lib in
open Go.RowKit Go.Lib in
open Go.RowKit Go.Lib in
open Go.RowKit Go.Lib in
open Go.RowKit Go.Lib in
open Go.RowKit Go.Lib in
def Tryz.lays264_ren : Go.Shelf.Ren := ⟨fun | 264 => 56 | n => n, fun | 53 => 102 | 46 => 135 | n => n, fun | n => n⟩
theorem Tryz.lays264 : Go.Proofs.Lays.n264 Tryz.prog Tryz.lays264_ren := {
  mixed := by kernel_rfl
  f264 := Tryz.func56.trans (congrArg some (by kernel_rfl))
  t46 := Tryz.underlying135
  a46 := Tryz.isAgg135
  z46 := Tryz.sizeOf135
  v46 := Tryz.zeroValue135
  t53 := Tryz.underlying102
  a53 := Tryz.isAgg102
  z53 := Tryz.sizeOf102
  v53 := Tryz.zeroValue102 }
open Go.RowKit Go.Lib in
theorem Tryz.bits_Mul64 (x y : Nat) (hx : x < 18446744073709551616) (hy : y < 18446744073709551616) (w : World) :
    Calls Tryz.prog 56 #[.int .u64 x, .int .u64 y] w fun e w' => e = .returned (.tuple #[.int .u64 ((x * y / 18446744073709551616 : Nat) : Int), .int .u64 ((x * y % 18446744073709551616 : Nat) : Int)]) ∧ w' = w := Any.bits_Mul64 Tryz.lays264 x y hx hy w
open Go.RowKit Go.Lib in
open Go.RowKit Go.Lib in
open Go.RowKit Go.Lib in
open Go.RowKit Go.Lib in
open Go.Lib in
open Go.Lib in
def Tryz.lays110_ren : Go.Shelf.Ren := ⟨fun | 110 => 129 | 109 => 144 | n => n, fun | 31 => 49 | 9 => 9 | 4 => 4 | 3 => 3 | 0 => 0 | n => n, fun | n => n⟩
theorem Tryz.lays110 : Go.Proofs.Lays.n110 Tryz.prog Tryz.lays110_ren := {
  mixed := by kernel_rfl
  f109 := Tryz.func144.trans (congrArg some (by kernel_rfl))
  f110 := Tryz.func129.trans (congrArg some (by kernel_rfl))
  t0 := Tryz.underlying0
  a0 := Tryz.isAgg0
  z0 := Tryz.sizeOf0
  v0 := Tryz.zeroValue0
  t3 := Tryz.underlying3
  a3 := Tryz.isAgg3
  z3 := Tryz.sizeOf3
  v3 := Tryz.zeroValue3
  t4 := Tryz.underlying4
  a4 := Tryz.isAgg4
  z4 := Tryz.sizeOf4
  v4 := Tryz.zeroValue4
  t9 := Tryz.underlying9
  a9 := Tryz.isAgg9
  z9 := Tryz.sizeOf9
  v9 := Tryz.zeroValue9
  t31 := Tryz.underlying49
  a31 := Tryz.isAgg49
  z31 := Tryz.sizeOf49
  v31 := Tryz.zeroValue49 }
open Go.Lib in
theorem Tryz.slices_Contains_string (b off n c : Nat) (zs : List ByteArray) (x : ByteArray) (w : World) (hz : n ≤ zs.length) (hbig : n ≤ 9223372036854775807) (hc : ∀ j, j < zs.length → w.cell? ⟨b, off + j, none⟩ = some (.string (zs.getD j ByteArray.empty))) :
    Calls Tryz.prog 129 #[.slice (some ⟨b, off, none⟩) n c, .string x] w fun e w' => e = .returned (.bool (Lib.containsS (zs.take n) x)) ∧ w' = w := Any.slices_Contains_string Tryz.lays110 b off n c zs x w hz hbig hc
open Go.Lib in
theorem Tryz.slices_Contains_string_empty (a : Option Addr) (c : Nat) (x : ByteArray) (w : World) :
    Calls Tryz.prog 129 #[.slice a 0 c, .string x] w fun e w' => e = .returned (.bool false) ∧ w' = w := Any.slices_Contains_string_empty Tryz.lays110 a c x w
end Go.Proofs
namespace Go.Proofs.YtbdgdhjhgcpidaaGreatDoor
open Go.RowKit
theorem info_of {t : TypeId} {z : Value} {s b : Nat} (h : (Tryz.prog.info? t).map (fun i => (i.zero, i.size, i.bytes)) = some (some z, s, b)) : ∃ i, Tryz.prog.info? t = some i ∧ i.zero = some z ∧ i.size = s ∧ i.bytes = b := by
  cases hi : Tryz.prog.info? t with
  | none => rw [hi] at h; cases h
  | some i =>
    rw [hi] at h
    simp only [Option.map_some, Option.some.injEq, Prod.mk.injEq] at h
    exact ⟨i, rfl, h.1, h.2.1, h.2.2⟩
theorem row_below {w w' : World} {base e size n : Nat} {v : Value} {xs : List Value} (h : w.ownsRow base e size v n xs) (hb : Below w.heap.size w w') : w'.ownsRow base e size v n xs := by
  obtain ⟨h1, h2⟩ := h
  refine ⟨h1, ?_⟩
  rcases h2 with h2 | ⟨g, cap, cur, hv, hg, hh, r⟩
  · exact .inl h2
  · refine .inr ⟨g, cap, cur, hv, hg, ?_, r⟩
    rw [hb.block g (by
      rcases Nat.lt_or_ge g w.heap.size with h' | h'
      · exact h'
      · rw [Array.getElem?_eq_none h'] at hh; cases hh)]
    exact hh
section
variable {α : Type} {enc : α → List Value} {sz : Nat}
theorem flat_at (hz : ∀ x, (enc x).length = sz) (L : List α) : ∀ (i : Nat) (x : α), L[i]? = some x → ∀ k, k < sz → (L.flatMap enc)[i * sz + k]? = (enc x)[k]? := by
  induction L with
  | nil => intro i x hx; simp at hx
  | cons q L ih =>
    intro i x hx k hk
    cases i with
    | zero =>
      simp only [List.getElem?_cons_zero, Option.some.injEq] at hx
      subst hx
      rw [List.flatMap_cons, List.getElem?_append_left (by rw [hz]; omega)]
      congr 1
      omega
    | succ i =>
      rw [List.getElem?_cons_succ] at hx
      rw [List.flatMap_cons, Nat.succ_mul, List.getElem?_append_right (by rw [hz]; omega), hz]
      have := ih i x hx k hk
      rw [← this]
      congr 1
      omega
def RdG (enc : α → List Value) (sz : Nat) (w : World) (p : Option Addr) (n : Nat) (L : List α) : Prop :=
  L.length = n ∧ (n = 0 ∨ ∃ b off, p = some ⟨b, off, none⟩ ∧ b < w.heap.size ∧ ∀ (j : Nat) (x : α), L[j]? = some x → ∀ k u, (enc x)[k]? = some u → w.cell? ⟨b, off + j * sz + k, none⟩ = some u)
theorem RdG.nil (enc : α → List Value) (sz : Nat) (w : World) (p : Option Addr) : RdG enc sz w p 0 [] := ⟨rfl, .inl rfl⟩
theorem RdG.below {w w' : World} {p : Option Addr} {n : Nat} {L : List α} (h : RdG enc sz w p n L) (hb : Below w.heap.size w w') : RdG enc sz w' p n L := by
  obtain ⟨h1, h4⟩ := h
  refine ⟨h1, ?_⟩
  rcases h4 with h4 | ⟨b, off, h5, h6, h7⟩
  · exact .inl h4
  · exact .inr ⟨b, off, h5, Nat.lt_of_lt_of_le h6 hb.size, fun j x hx k u hu => (hb.cell (p := ⟨b, off + j * sz + k, none⟩) h6).trans (h7 j x hx k u hu)⟩
theorem RdG.some {w : World} {p : Option Addr} {n : Nat} {L : List α} (h : RdG enc sz w p n L) {j : Nat} (hj : j < n) : ∃ b off, p = some ⟨b, off, none⟩ ∧ b < w.heap.size ∧ ∀ (j : Nat) (x : α), L[j]? = some x → ∀ k u, (enc x)[k]? = some u → w.cell? ⟨b, off + j * sz + k, none⟩ = some u := by
  rcases h.2 with h | h
  · omega
  · exact h
theorem RdG.of_own (hz : ∀ x, (enc x).length = sz) {w : World} {base : Nat} {e : TypeId} {v : Value} {n : Nat} {L : List α} (hn : L.length = n) (h : w.ownsRow base e sz v n (L.flatMap enc)) : ∃ p cap, v = .slice p n cap ∧ n ≤ cap ∧ cap ≤ maxLen ∧ RdG enc sz w p n L ∧ (v = .slice none 0 0 ∨ ∃ r, p = Option.some ⟨r, 0, none⟩ ∧ base ≤ r ∧ r < w.heap.size) := by
  obtain ⟨hl, ⟨hv, h0⟩ | ⟨r, cap, cur, rfl, hg, hh, hn', hm, hs, ht⟩⟩ := h
  · have : L = [] := List.eq_nil_of_length_eq_zero (by omega)
    subst this
    subst h0
    exact ⟨none, 0, hv, Nat.le_refl _, Nat.zero_le _, ⟨rfl, .inl rfl⟩, .inl hv⟩
  · have hr : r < w.heap.size := by
      rcases Nat.lt_or_ge r w.heap.size with h' | h'
      · exact h'
      · rw [Array.getElem?_eq_none h'] at hh; cases hh
    refine ⟨_, cap, rfl, hn', hm, ⟨hn, .inr ⟨r, 0, rfl, hr, fun j x hx k u hu => ?_⟩⟩, .inr ⟨r, rfl, hg, hr⟩⟩
    have hj := (List.getElem?_eq_some_iff.1 hx).1
    have hk : k < sz := by
      rw [← hz x]
      exact (List.getElem?_eq_some_iff.1 hu).1
    have hlt : j * sz + k < n * sz := by
      have : (j + 1) * sz ≤ n * sz := Nat.mul_le_mul_right _ (by omega)
      rw [Nat.succ_mul] at this
      omega
    rw [← flat_at hz L j x hx k hk, ← ht, List.getElem?_take, if_pos hlt] at hu
    simp only [World.cell?, hh, Nat.zero_add]
    simpa using hu
theorem RdG.at1 {enc : α → List Value} {w : World} {p : Option Addr} {n : Nat} {L : List α} {b off : Nat} (h : ∀ (j : Nat) (x : α), L[j]? = Option.some x → ∀ k u, (enc x)[k]? = Option.some u → w.cell? ⟨b, off + j * 1 + k, none⟩ = Option.some u) {j : Nat} {x : α} {u : Value} (hx : L[j]? = Option.some x) (hu : enc x = [u]) : w.cell? ⟨b, off + j, none⟩ = Option.some u := by
  have := h j x hx 0 u (by rw [hu]; rfl)
  rw [Nat.mul_one, Nat.add_zero] at this
  exact this
end
theorem flat_snoc {α : Type} (enc : α → List Value) (L : List α) (x : α) : (L ++ [x]).flatMap enc = L.flatMap enc ++ enc x := by simp
end Go.Proofs.YtbdgdhjhgcpidaaGreatDoor
namespace Go.Proofs.YtbdgdhjhgcpidaaGreatDoor
def dval : List Nat → Nat
  | [] => 0
  | d :: r => d + 10 * dval r
def digsF : Nat → Nat → List Nat
  | 0, _ => []
  | f + 1, n => if n = 0 then [] else n % 10 :: digsF f (n / 10)
def digs (n : Nat) : List Nat := digsF (n + 1) n
theorem digsF_any : ∀ (f g n : Nat), n < f → n < g → digsF f n = digsF g n
  | 0, _, _, h, _ => by omega
  | _, 0, _, _, h => by omega
  | f + 1, g + 1, n, hf, hg => by
    simp only [digsF]
    by_cases h : n = 0
    · simp [h]
    · simp only [h, if_false]
      rw [digsF_any f g (n / 10) (by omega) (by omega)]
theorem digs_zero : digs 0 = [] := rfl
theorem digs_pos {n : Nat} (h : n ≠ 0) : digs n = n % 10 :: digs (n / 10) := by
  show digsF (n + 1) n = _ :: digsF (n / 10 + 1) (n / 10)
  rw [digsF, if_neg h, digsF_any n (n / 10 + 1) (n / 10) (by omega) (by omega)]
theorem digs_cons (d n : Nat) (hd : d < 10) (h : d + 10 * n ≠ 0) : digs (d + 10 * n) = d :: digs n := by
  rw [digs_pos h]
  have e1 : (d + 10 * n) % 10 = d := by omega
  have e2 : (d + 10 * n) / 10 = n := by omega
  rw [e1, e2]
theorem dval_digsF : ∀ (f n : Nat), n < f → dval (digsF f n) = n
  | 0, _, h => by omega
  | f + 1, n, h => by
    simp only [digsF]
    by_cases h0 : n = 0
    · simp [h0, dval]
    · simp only [h0, if_false, dval]
      rw [dval_digsF f (n / 10) (by omega)]
      omega
theorem dval_digs (n : Nat) : dval (digs n) = n := dval_digsF _ _ (by omega)
theorem digsF_lt : ∀ (f n : Nat), ∀ d ∈ digsF f n, d < 10
  | 0, _, d, h => by simp [digsF] at h
  | f + 1, n, d, h => by
    simp only [digsF] at h
    split at h
    · simp at h
    · rcases List.mem_cons.1 h with rfl | h
      · omega
      · exact digsF_lt f _ d h
theorem digs_lt (n : Nat) : ∀ d ∈ digs n, d < 10 := digsF_lt _ _
theorem digs_dval : ∀ (L : List Nat), (∀ d ∈ L, d < 10) → L.getLast? ≠ some 0 → digs (dval L) = L
  | [], _, _ => rfl
  | d :: r, h, hl => by
    have hd := h d (by simp)
    have hr : ∀ x ∈ r, x < 10 := fun x hx => h x (by simp [hx])
    cases r with
    | nil =>
      have h0 : d ≠ 0 := by intro e; simp [e] at hl
      have := digs_cons d 0 hd (by omega)
      simpa [dval, digs_zero] using this
    | cons y t =>
      have hl' : (y :: t).getLast? ≠ some 0 := by simpa [List.getLast?_cons_cons] using hl
      have ih := digs_dval (y :: t) hr hl'
      have hne : dval (y :: t) ≠ 0 := by
        intro e
        rw [e] at ih
        simp [digs_zero] at ih
      show digs (d + 10 * dval (y :: t)) = _
      rw [digs_cons d _ hd (by omega), ih]
theorem digsF_last : ∀ (f n : Nat), n < f → (digsF f n).getLast? ≠ some 0
  | 0, _, h => by omega
  | f + 1, n, h => by
    simp only [digsF]
    by_cases h0 : n = 0
    · simp [h0]
    · simp only [h0, if_false]
      by_cases h1 : n / 10 = 0
      · have : digsF f (n / 10) = [] := by cases f <;> simp [digsF, h1]
        rw [this]
        simp
        omega
      · have ih := digsF_last f (n / 10) (by omega)
        have hne : digsF f (n / 10) ≠ [] := by
          intro e
          have := dval_digsF f (n / 10) (by omega)
          rw [e] at this
          simp [dval] at this
          omega
        cases he : digsF f (n / 10) with
        | nil => exact (hne he).elim
        | cons y t => rw [List.getLast?_cons_cons, ← he]; exact ih
theorem digs_last (n : Nat) : (digs n).getLast? ≠ some 0 := digsF_last _ _ (by omega)
theorem dval_append : ∀ (a b : List Nat), dval (a ++ b) = dval a + 10 ^ a.length * dval b
  | [], b => by simp [dval]
  | d :: r, b => by
    simp only [List.cons_append, dval, dval_append r b, List.length_cons, Nat.pow_succ]
    rw [Nat.mul_add, Nat.mul_comm (10 ^ r.length) 10, Nat.mul_assoc]
    omega
theorem dval_concat (a : List Nat) (d : Nat) : dval (a ++ [d]) = dval a + 10 ^ a.length * d := by
  rw [dval_append]; simp [dval]
theorem dval_zeros : ∀ (n : Nat) (b : List Nat), dval (List.replicate n 0 ++ b) = 10 ^ n * dval b
  | 0, b => by simp
  | n + 1, b => by
    simp only [List.replicate_succ, List.cons_append, dval, dval_zeros n b, Nat.pow_succ]
    rw [Nat.mul_comm (10 ^ n) 10, Nat.mul_assoc]
    omega
theorem dval_lt : ∀ (L : List Nat), (∀ d ∈ L, d < 10) → dval L < 10 ^ L.length
  | [], _ => by simp [dval]
  | d :: r, h => by
    have hd := h d (by simp)
    have ih := dval_lt r (fun x hx => h x (by simp [hx]))
    simp only [dval, List.length_cons, Nat.pow_succ]
    omega
theorem dval_take (L : List Nat) (i : Nat) : dval (L.take (i + 1)) = dval (L.take i) + 10 ^ i * L.getD i 0 := by
  by_cases h : i < L.length
  · rw [List.take_succ_eq_append_getElem h, dval_concat]
    simp [List.length_take, Nat.min_eq_left (Nat.le_of_lt h), List.getD, List.getElem?_eq_getElem h]
  · rw [List.take_of_length_le (by omega), List.take_of_length_le (by omega)]
    simp [List.getD, List.getElem?_eq_none (by omega : L.length ≤ i)]
theorem dval_drop (L : List Nat) (i : Nat) (h : i < L.length) : dval (L.drop i) = L.getD i 0 + 10 * dval (L.drop (i + 1)) := by
  rw [List.drop_eq_getElem_cons h]
  simp [dval, List.getD, List.getElem?_eq_getElem h]
theorem getD_lt {L : List Nat} (h : ∀ d ∈ L, d < 10) (i : Nat) : L.getD i 0 < 10 := by
  by_cases hi : i < L.length
  · simp only [List.getD, List.getElem?_eq_getElem hi, Option.getD_some]
    exact h _ (List.getElem_mem hi)
  · simp [List.getD, List.getElem?_eq_none (by omega : L.length ≤ i)]
theorem digs_front (L : List Nat) (n : Nat) (hL : ∀ d ∈ L, d < 10) (hn : n ≤ L.length) (hz : ∀ j, n ≤ j → L.getD j 0 = 0) (hl : n = 0 ∨ L.getD (n - 1) 0 ≠ 0) : L.take n = digs (dval L) := by
  have hd : dval L = dval (L.take n) := by
    have key : ∀ k, dval (L.take (n + k)) = dval (L.take n) := by
      intro k
      induction k with
      | zero => rfl
      | succ k ih => rw [← Nat.add_assoc, dval_take, hz (n + k) (by omega), ih]; simp
    have := key (L.length - n)
    rw [show n + (L.length - n) = L.length from by omega, List.take_length] at this
    exact this
  rw [hd, digs_dval _ (fun d h => hL d (List.mem_of_mem_take h))]
  rcases hl with rfl | hl
  · simp
  · by_cases h0 : n = 0
    · subst h0; simp
    · have hlt : n - 1 < L.length := by omega
      have e : L.take n = L.take (n - 1) ++ [L[n - 1]] := by
        conv => lhs; rw [show n = n - 1 + 1 from by omega]
        rw [List.take_succ_eq_append_getElem hlt]
      rw [e, List.getLast?_concat]
      simp only [List.getD, List.getElem?_eq_getElem hlt, Option.getD_some] at hl
      intro h
      exact hl (Option.some.inj h)
theorem digs_length_le {n k : Nat} (h : n < 10 ^ k) : (digs n).length ≤ k := by
  rcases Nat.lt_or_ge k (digs n).length with hlt | hge
  · exfalso
    have hne : digs n ≠ [] := by intro e; rw [e] at hlt; simp at hlt
    have h1 := dval_append (digs n).dropLast [(digs n).getLast hne]
    rw [List.dropLast_concat_getLast hne, dval_digs] at h1
    have h2 : (digs n).getLast hne ≠ 0 := by
      intro e
      exact digs_last n (by rw [List.getLast?_eq_some_getLast hne, e])
    have h3 : 10 ^ k ≤ 10 ^ (digs n).dropLast.length := Nat.pow_le_pow_right (by omega) (by simp; omega)
    simp only [dval] at h1
    have h4 : 10 ^ (digs n).dropLast.length ≤ 10 ^ (digs n).dropLast.length * ((digs n).getLast hne + 10 * 0) := Nat.le_mul_of_pos_right _ (by omega)
    omega
  · exact hge
theorem digs_nil {n : Nat} : digs n = [] ↔ n = 0 := by
  constructor
  · intro h
    have := dval_digs n
    rw [h] at this
    simpa [dval] using this.symm
  · rintro rfl; rfl
theorem digs_len_lt {a b : Nat} (h : (digs a).length < (digs b).length) : a < b := by
  rcases Nat.lt_or_ge a b with h1 | h1
  · exact h1
  · exfalso
    have h2 := dval_lt (digs a) (digs_lt a)
    rw [dval_digs] at h2
    have := digs_length_le (n := b) (k := (digs a).length) (by omega)
    omega
theorem dval_less : ∀ (A B : List Nat) (i : Nat), (∀ d ∈ A, d < 10) → (∀ d ∈ B, d < 10) → A.length = B.length → A.drop (i + 1) = B.drop (i + 1) → A.getD i 0 < B.getD i 0 → dval A < dval B
  | [], B, i, _, _, hl, _, h => by
    have : B = [] := List.eq_nil_of_length_eq_zero (by simpa using hl.symm)
    subst this
    simp at h
  | a :: A, [], i, _, _, hl, _, h => by simp at hl
  | a :: A, b :: B, 0, hA, hB, hl, hd, h => by
    simp at hd h
    subst hd
    simp only [dval]
    omega
  | a :: A, b :: B, i + 1, hA, hB, hl, hd, h => by
    have ha := hA a (by simp)
    have ih := dval_less A B i (fun d h => hA d (by simp [h])) (fun d h => hB d (by simp [h])) (by simpa using hl) (by simpa using hd) (by simpa using h)
    simp only [dval]
    omega
def nth (L : List Nat) (j : Nat) : Nat := L.getD j 0
theorem nth_lt {L : List Nat} (h : ∀ d ∈ L, d < 10) (i : Nat) : nth L i < 10 := getD_lt h i
end Go.Proofs.YtbdgdhjhgcpidaaGreatDoor
namespace Go.Proofs.YtbdgdhjhgcpidaaGreatDoor
open Go.RowKit
def lenOf : Value → Nat | .slice _ n _ => n | _ => 0
def U8 (d : Nat) : Value := .int .u8 (d : Int)
def RdN (w : World) (p : Option Addr) (n cap : Nat) (L : List Nat) : Prop :=
  L.length = n ∧ n ≤ cap ∧ cap ≤ maxLen ∧ (∀ d ∈ L, d < 10) ∧
  ((p = none ∧ n = 0 ∧ cap = 0) ∨ ∃ b off, p = some ⟨b, off, none⟩ ∧ b < w.heap.size ∧ ∀ j, j < n → w.cell? ⟨b, off + j, none⟩ = some (.int .u8 (nth L j : Int)))
theorem RdN.len {w : World} {p : Option Addr} {n cap : Nat} {L : List Nat} (h : RdN w p n cap L) : L.length = n := h.1
theorem RdN.dig {w : World} {p : Option Addr} {n cap : Nat} {L : List Nat} (h : RdN w p n cap L) : ∀ d ∈ L, d < 10 := h.2.2.2.1
theorem RdN.le {w : World} {p : Option Addr} {n cap : Nat} {L : List Nat} (h : RdN w p n cap L) : n ≤ cap := h.2.1
theorem RdN.max {w : World} {p : Option Addr} {n cap : Nat} {L : List Nat} (h : RdN w p n cap L) : cap ≤ maxLen := h.2.2.1
theorem RdN.below {w w' : World} {p : Option Addr} {n cap : Nat} {L : List Nat} (h : RdN w p n cap L) (hb : Below w.heap.size w w') : RdN w' p n cap L := by
  obtain ⟨h1, h2, h3, h4, h5⟩ := h
  refine ⟨h1, h2, h3, h4, ?_⟩
  rcases h5 with h5 | ⟨b, off, h6, h7, h8⟩
  · exact .inl h5
  · exact .inr ⟨b, off, h6, Nat.lt_of_lt_of_le h7 hb.size, fun j hj => (hb.cell (p := ⟨b, off + j, none⟩) h7).trans (h8 j hj)⟩
theorem RdN.nil (w : World) : RdN w none 0 0 [] := ⟨rfl, Nat.le_refl _, Nat.zero_le _, by simp, .inl ⟨rfl, rfl, rfl⟩⟩
theorem RdN.front {w : World} {p : Option Addr} {n cap : Nat} {L : List Nat} (h : RdN w p n cap L) {k : Nat} (hk : k ≤ n) : RdN w p k cap (L.take k) := by
  obtain ⟨h1, h2, h3, h4, h5⟩ := h
  refine ⟨by simp; omega, by omega, h3, fun d hd => h4 d (List.mem_of_mem_take hd), ?_⟩
  rcases h5 with ⟨h5, h6, h7⟩ | ⟨b, off, h6, h7, h8⟩
  · exact .inl ⟨h5, by omega, h7⟩
  · refine .inr ⟨b, off, h6, h7, fun j hj => ?_⟩
    rw [h8 j (by omega)]
    simp [nth, List.getD, List.getElem?_take, hj]
theorem own_cells {w : World} {base e : Nat} {v : Value} {n : Nat} {L : List Nat} (h : w.ownsRow base e 1 v n (L.map U8)) (hd : ∀ d ∈ L, d < 10) :
    ∃ p cap, v = .slice p n cap ∧ RdN w p n cap L ∧ ∀ x, p = some x → base ≤ x.block := by
  obtain ⟨hl, h⟩ := h
  have hl' : L.length = n := by simpa using hl
  rcases h with ⟨rfl, rfl⟩ | ⟨g, cap, cur, rfl, hg, hh, hn, hm, hs, ht⟩
  · exact ⟨none, 0, rfl, by have : L = [] := List.eq_nil_of_length_eq_zero hl'; subst this; exact RdN.nil w, fun x hx => by cases hx⟩
  · refine ⟨some ⟨g, 0, none⟩, cap, rfl, ⟨hl', hn, hm, hd, .inr ⟨g, 0, rfl, ?_, fun j hj => ?_⟩⟩, fun x hx => by cases hx; exact hg⟩
    · rcases Nat.lt_or_ge g w.heap.size with h' | h'
      · exact h'
      · rw [Array.getElem?_eq_none h'] at hh; cases hh
    · have hj' : j < L.length := by omega
      have e1 : (cur.toList.take (n * 1))[j]? = some (U8 L[j]) := by rw [ht]; simp [hj']
      have e2 : cur[j]? = some (U8 L[j]) := by
        rw [List.getElem?_take, if_pos (by omega)] at e1
        simpa using e1
      simp only [World.cell?, hh, Nat.zero_add]
      simp [e2, U8, nth, List.getD, hj']
theorem news1 (w : World) (v : Value) (t : TypeId) : ∀ j u, [v][j]? = some u → (w.alloc (.cells #[v] t)).cell? ((⟨w.heap.size, 0, none⟩ : Addr).add j) = some u := by
  intro j u hj
  match j, hj with
  | 0, hj => simp at hj; subst hj; simp [Addr.add]
theorem one1 (d : Nat) : ∀ u ∈ [U8 d], u.oneCell' = true := by
  intro u hu
  simp at hu
  subst hu
  rfl
def RetN (L : List Nat) (W : World) (e : Ending) (w' : World) : Prop := ∃ p n cap, e = .returned (.slice p n cap) ∧ RdN w' p n cap L ∧ Below W.heap.size W w' ∧ ∀ x, p = some x → W.heap.size ≤ x.block
theorem RetN.of_own {L : List Nat} {W w' : World} {e : Nat} {v : Value} (h : w'.ownsRow W.heap.size e 1 v L.length (L.map U8)) (hd : ∀ d ∈ L, d < 10) (hb : Below W.heap.size W w') : RetN L W (.returned v) w' := by
  obtain ⟨p, cap, rfl, hr, hf⟩ := own_cells h hd
  exact ⟨p, _, cap, rfl, hr, hb, hf⟩
theorem RetN.mk {L : List Nat} {W w' : World} {p : Option Addr} {n cap : Nat} (hr : RdN w' p n cap L) (hb : Below W.heap.size W w') (hf : ∀ x, p = some x → W.heap.size ≤ x.block) : RetN L W (.returned (.slice p n cap)) w' := ⟨p, n, cap, rfl, hr, hb, hf⟩
def RetC (p : Option Addr) (cap : Nat) (L : List Nat) (W : World) (e : Ending) (w' : World) : Prop := ∃ n, e = .returned (.slice p n cap) ∧ RdN w' p n cap L ∧ W = w'
theorem own_below {w w' : World} {base e size n : Nat} {v : Value} {xs : List Value} (h : w.ownsRow base e size v n xs) (hb : Below w.heap.size w w') : w'.ownsRow base e size v n xs := by
  obtain ⟨h1, h2⟩ := h
  refine ⟨h1, ?_⟩
  rcases h2 with h2 | ⟨g, cap, cur, hv, hg, hh, r⟩
  · exact .inl h2
  · refine .inr ⟨g, cap, cur, hv, hg, ?_, r⟩
    rw [hb.block g (by
      rcases Nat.lt_or_ge g w.heap.size with h' | h'
      · exact h'
      · rw [Array.getElem?_eq_none h'] at hh; cases hh)]
    exact hh
theorem RdN.grown {w w' : World} {row : Option Nat} {p : Option Addr} {n cap : Nat} {L : List Nat} (h : RdN w p n cap L) (hg : w.grownBy w' row) (hne : ∀ x, p = some x → some x.block ≠ row) : RdN w' p n cap L := by
  obtain ⟨h1, h2, h3, h4, h5⟩ := h
  refine ⟨h1, h2, h3, h4, ?_⟩
  rcases h5 with h5 | ⟨b, off, rfl, h7, h8⟩
  · exact .inl h5
  · exact .inr ⟨b, off, rfl, Nat.lt_of_lt_of_le h7 hg.size, fun j hj => by
      exact (World.cell?_of_block (a := ⟨b, off + j, none⟩) (hg.block b h7 (hne _ rfl))).trans (h8 j hj)⟩
theorem RdN.stored {w : World} {p : Option Addr} {n cap : Nat} {L : List Nat} (h : RdN w p n cap L) (a : Addr) (u : Value) (hne : ∀ x, p = some x → x.block ≠ a.block) : RdN (w.setCell a u) p n cap L := by
  obtain ⟨h1, h2, h3, h4, h5⟩ := h
  refine ⟨h1, h2, h3, h4, ?_⟩
  rcases h5 with h5 | ⟨b, off, rfl, h7, h8⟩
  · exact .inl h5
  · exact .inr ⟨b, off, rfl, by simpa [World.setCell] using h7, fun j hj => by
      exact (World.cell?_of_block (a := ⟨b, off + j, none⟩) (Below.heap_setCell w a u b (hne _ rfl))).trans (h8 j hj)⟩
theorem RdN.alloc {w : World} {p : Option Addr} {n cap : Nat} {L : List Nat} (h : RdN w p n cap L) (o : Obj) : RdN (w.alloc o) p n cap L := h.below ((Below.refl _ _).alloc (Nat.le_refl _) o)
theorem nth_cell {L : List Nat} {j : Nat} (h : j < L.length) : (L.map U8)[j]? = some (.int .u8 (nth L j : Int)) := by simp [nth, List.getD, h, U8]
theorem wpList_append_dig {P : Program} (w : World) {ops : Array Oper} {rest : List Oper} {o : Oper} {a : Act} {Q : Exit → Act → World → Prop} (hgd : o.guard = none) (s x : Operand) (t : TypeId)
    (ho : o.op = .call { callee := .builtin .append, args := #[s, x], argTypes := #[t, t] })
    (base : Nat) (e : TypeId) (i : TypeInfo) (ht : P.underlying t = some (.slice e)) (hi : P.info? e = some i) (hz : i.zero = some (.int .u8 0))
    (hsize : i.size = 1) (hby : i.bytes = 1) (v : Value) (n : Nat) (L : List Nat) (hs : a.eval s = v) (hown : w.ownsRow base e 1 v n (L.map U8))
    (q : Option Addr) (m cap : Nat) (B : List Nat) (hx : a.eval x = .slice q m cap) (hB : RdN w q m cap B) (h63 : n + m ≤ 1000000) (hbase : base ≤ w.heap.size)
    (h : ∀ v' w', w'.ownsRow base e 1 v' (n + m) ((L ++ B).map U8) → w.grownBy w' v.ownBlock → wpList P ops Q rest (a.put o.dst v') w') : wpList P ops Q (o :: rest) a w := by
  obtain ⟨h1, h2, h3, h4, h5⟩ := hB
  rcases h5 with ⟨rfl, rfl, rfl⟩ | ⟨b, off, rfl, h7, h8⟩
  · have : B = [] := List.eq_nil_of_length_eq_zero h1
    subst this
    exact wpList_append_own_none hgd s x t ho base e i 1 ht hi v n (L.map U8) hs hown hx (h v w (by simpa using hown) ⟨rfl, rfl, rfl, Nat.le_refl _, fun _ _ _ => rfl⟩)
  · refine wpList_append_own w hgd s x t ho base e i (.int .u8 0) 1 1 ht hi hz hsize hby rfl (by decide) v n (L.map U8) hs hown ⟨b, off, none⟩ m cap (B.map U8) hx (by simp [h1]) ?_ ?_ (by unfold maxLen; omega) (by omega) hbase (fun v' w' r1 r2 _ => h v' w' (by simpa using r1) r2)
    · intro j u hj
      have hjl : j < B.length := by
        rcases Nat.lt_or_ge j B.length with h' | h'
        · exact h'
        · simp [h'] at hj
      have hj2 : some (Value.int .u8 (nth B j : Int)) = some u := by rw [← hj, nth_cell hjl]
      rw [← hj2]
      have e : (⟨b, off, none⟩ : Addr).add j = ⟨b, off + j, none⟩ := by
        unfold Addr.add
        split
        · rename_i h0; subst h0; rfl
        · rfl
      rw [e]
      exact h8 j (by omega)
    · intro u hu
      simp only [List.mem_map] at hu
      obtain ⟨d, _, rfl⟩ := hu
      rfl
end Go.Proofs.YtbdgdhjhgcpidaaGreatDoor
namespace Go.Proofs.YtbdgdhjhgcpidaaGreatDoor
open Go.RowKit
structure Kept (N : Nat) (w : World) where
  v : World
  h : Below N w v
instance (N : Nat) (w : World) : Nonempty (Kept N w) := ⟨⟨w, Below.refl _ _⟩⟩
theorem Kept.cell {N : Nat} {w : World} {b o : Nat} {u : Value} (h : w.cell? ⟨b, o, none⟩ = some u) (hb : b < N) : ∀ x : Kept N w, x.v.cell? ⟨b, o, none⟩ = some u := fun x => (x.h.cell (p := ⟨b, o, none⟩) hb).trans h
theorem lt_of_cell {w : World} {b o : Nat} {u : Value} (h : w.cell? ⟨b, o, none⟩ = some u) : b < w.heap.size := by
  rcases Nat.lt_or_ge b w.heap.size with h' | h'
  · exact h'
  · simp [World.cell?, Array.getElem?_eq_none h'] at h
theorem Kept.at {w : World} {b o : Nat} {u : Value} (h : w.cell? ⟨b, o, none⟩ = some u) : ∀ x : Kept w.heap.size w, x.v.cell? ⟨b, o, none⟩ = some u := Kept.cell h (lt_of_cell h)
theorem kept_drew (N : Nat) (w : World) (hN : N ≤ w.heap.size) : ∃ x : Kept N w, w.drew = x.v := ⟨⟨w.drew, Below.drew (Below.refl _ _)⟩, rfl⟩
theorem six_heap {w : World} {g : Nat} {t : TypeId} {c0 c1 c2 c3 c4 c5 : Value} (v0 v1 v2 v3 v4 v5 : Value) (h : w.heap[g]? = some (.cells #[c0, c1, c2, c3, c4, c5] t (0, 0))) :
    ((((((w.setCell ⟨g, 0, none⟩ v0).setCell ⟨g, 1, none⟩ v1).setCell ⟨g, 2, none⟩ v2).setCell ⟨g, 3, none⟩ v3).setCell ⟨g, 4, none⟩ v4).setCell ⟨g, 5, none⟩ v5).heap[g]? = some (.cells #[v0, v1, v2, v3, v4, v5] t (0, 0)) ∧
    ((∀ b, b ≠ g → ((((((w.setCell ⟨g, 0, none⟩ v0).setCell ⟨g, 1, none⟩ v1).setCell ⟨g, 2, none⟩ v2).setCell ⟨g, 3, none⟩ v3).setCell ⟨g, 4, none⟩ v4).setCell ⟨g, 5, none⟩ v5).heap[b]? = w.heap[b]?) ∧
    (∀ N, N ≤ g → Below N w ((((((w.setCell ⟨g, 0, none⟩ v0).setCell ⟨g, 1, none⟩ v1).setCell ⟨g, 2, none⟩ v2).setCell ⟨g, 3, none⟩ v3).setCell ⟨g, 4, none⟩ v4).setCell ⟨g, 5, none⟩ v5))) := by
  refine ⟨?_, fun b hb => ?_, fun N hN => ?_⟩
  · have h0 := heap_setCell_same w g 0 _ _ v0 h
    have h1 := heap_setCell_same _ g 1 _ _ v1 h0
    have h2 := heap_setCell_same _ g 2 _ _ v2 h1
    have h3 := heap_setCell_same _ g 3 _ _ v3 h2
    have h4 := heap_setCell_same _ g 4 _ _ v4 h3
    have h5 := heap_setCell_same _ g 5 _ _ v5 h4
    rw [h5]
    simp
  · rw [heap_setCell_other _ _ _ _ hb, heap_setCell_other _ _ _ _ hb, heap_setCell_other _ _ _ _ hb, heap_setCell_other _ _ _ _ hb, heap_setCell_other _ _ _ _ hb, heap_setCell_other _ _ _ _ hb]
  · exact Below.setCell (Below.setCell (Below.setCell (Below.setCell (Below.setCell (Below.setCell (Below.refl _ _) hN _) hN _) hN _) hN _) hN _) hN _
def nthO : List Oper → Nat → List Oper
  | [], _ => []
  | o :: _, 0 => [o]
  | _ :: r, n + 1 => nthO r n
theorem nthO_zero (o : Oper) (r : List Oper) : nthO (o :: r) 0 = [o] := rfl
theorem nthO_succ (o : Oper) (r : List Oper) (n : Nat) : nthO (o :: r) (n + 1) = nthO r n := rfl
theorem nthO_get : ∀ (l : List Oper) (i : Nat), nthO l i = l[i]?.toList
  | [], i => by simp [nthO]
  | o :: r, 0 => by simp [nthO]
  | o :: r, n + 1 => by rw [nthO_succ, nthO_get r n]; simp
theorem pick_nil (l : List Oper) : pick l [] = [] := rfl
theorem pick_cons (l : List Oper) (i : Nat) (r : List Nat) : pick l (i :: r) = List.append (nthO l i) (pick l r) := by
  rw [nthO_get]
  unfold pick
  rw [List.filterMap_cons]
  cases l[i]? <;> rfl
end Go.Proofs.YtbdgdhjhgcpidaaGreatDoor
