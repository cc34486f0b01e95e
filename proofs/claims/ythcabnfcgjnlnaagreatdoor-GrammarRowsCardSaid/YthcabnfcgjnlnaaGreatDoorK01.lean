import Derived.Shelf.Unicode.ValidAny
import Derived.Shelf.Strings.Builder1
import Derived.Shelf.Strings.Builder2
import Derived.Shelf.Strings.OnBuilder
import Derived.Shelf.Small.Wraps
import Derived.Shelf.Strings.BuilderF
import Derived.Shelf.Strings.BuilderK
import Derived.Shelf.Strings.Builder2Cap
import Derived.Shelf.Strings.Prefix
import Derived.Shelf.Bits.Mul64
import Derived.Shelf.Strings.Repeat
import Derived.Shelf.Strings.BuilderCap
import Derived.Shelf.Slices.Turned
import Derived.Ground.Names2Prog
import Derived.Shelf.Slices.ReverseS
import Derived.Shelf.Slices.Clone
import Derived.Shelf.Slices.SearchI
import Derived.Shelf.Slices.Cells
import Derived.Ground.SlgnProg
import Derived.Shelf.SlicesE.Clone
import Derived.Test.YthcabnfcgjnlnaaGreatDoorProg
import Derived.Shelf.Strings.Trim
import Derived.Below
import Derived.WalkKit
import Derived.WalkSpells
import Derived.WalkLawsBesides
import Derived.Laws.OwnMore
import Derived.Deep.AppendLies
import Derived.Deep.Draws
import Derived.Maps.AppendAt
import Derived.Lib.Hide
/-
  DERIVED: THE SHELF's CONTRACTS AT THIS DUMP, IN PLAIN WORDS (tools/lay-plain.mjs out of 'TryzShelf.lean', which tools/lay-shelf.mjs wrote): THE SAME DECLARATIONS UNDER THE SAME NAMES: 'import', 'namespace', 'open', 'def', 'theorem' AND NOTHING ELSE: no command of the shelf's: FOR A HAND-IN. Each laying: the table of numbers ('.._ren') and one theorem, a field a fact of the dump's own or the kernel's comparison; each contract: ONE APPLICATION.
-/
namespace Go.Proofs
open Go.Shelf
def Tryz.lays156_ren : Go.Shelf.Ren := ⟨fun | 156 => 39 | 165 => 63 | 166 => 64 | 169 => 65 | 240 => 92 | 241 => 93 | 276 => 117 | 277 => 118 | n => n, fun | 31 => 45 | 9 => 9 | 3 => 3 | 4 => 4 | 0 => 0 | 20 => 20 | 72 => 96 | 76 => 100 | 70 => 93 | 37 => 94 | 75 => 99 | 127 => 123 | 164 => 147 | 5 => 5 | 80 => 102 | n => n, fun | n => n⟩
theorem Tryz.lays156 : Go.Proofs.Lays.n156 Tryz.prog Tryz.lays156_ren := {
  mixed := by kernel_rfl
  f156 := Tryz.func39.trans (congrArg some (by kernel_rfl))
  f165 := Tryz.func63.trans (congrArg some (by kernel_rfl))
  f166 := Tryz.func64.trans (congrArg some (by kernel_rfl))
  f169 := Tryz.func65.trans (congrArg some (by kernel_rfl))
  f240 := Tryz.func92.trans (congrArg some (by kernel_rfl))
  f241 := Tryz.func93.trans (congrArg some (by kernel_rfl))
  f276 := Tryz.func117.trans (congrArg some (by kernel_rfl))
  f277 := Tryz.func118.trans (congrArg some (by kernel_rfl))
  t0 := Tryz.underlying0
  a0 := Tryz.isAgg0
  z0 := Tryz.sizeOf0
  v0 := Tryz.zeroValue0
  t3 := Tryz.underlying3
  a3 := Tryz.isAgg3
  z3 := Tryz.sizeOf3
  v3 := Tryz.zeroValue3
  t4 := Tryz.underlying4
  a4 := Tryz.isAgg4
  z4 := Tryz.sizeOf4
  v4 := Tryz.zeroValue4
  t9 := Tryz.underlying9
  a9 := Tryz.isAgg9
  z9 := Tryz.sizeOf9
  v9 := Tryz.zeroValue9
  t20 := Tryz.underlying20
  a20 := Tryz.isAgg20
  z20 := Tryz.sizeOf20
  v20 := Tryz.zeroValue20
  t31 := Tryz.underlying45
  a31 := Tryz.isAgg45
  z31 := Tryz.sizeOf45
  v31 := Tryz.zeroValue45
  t37 := Tryz.underlying94
  a37 := Tryz.isAgg94
  z37 := Tryz.sizeOf94
  v37 := Tryz.zeroValue94
  t70 := Tryz.underlying93
  a70 := Tryz.isAgg93
  z70 := Tryz.sizeOf93
  v70 := Tryz.zeroValue93
  t72 := Tryz.underlying96
  a72 := Tryz.isAgg96
  z72 := Tryz.sizeOf96
  v72 := Tryz.zeroValue96
  t75 := Tryz.underlying99
  a75 := Tryz.isAgg99
  z75 := Tryz.sizeOf99
  v75 := Tryz.zeroValue99
  t76 := Tryz.underlying100
  a76 := Tryz.isAgg100
  z76 := Tryz.sizeOf100
  v76 := Tryz.zeroValue100
  t127 := Tryz.underlying123
  a127 := Tryz.isAgg123
  z127 := Tryz.sizeOf123
  v127 := Tryz.zeroValue123
  t164 := Tryz.underlying147
  a164 := Tryz.isAgg147
  z164 := Tryz.sizeOf147
  v164 := Tryz.zeroValue147 }
theorem Tryz.Builder_Extra_156 : Builder.Extra Tryz.prog Tryz.lays156_ren := {
  sizeBuilder := by kernel_rfl
  liesBuilder := by kernel_rfl
  t5 := Tryz.underlying5
  a5 := Tryz.isAgg5
  z5 := Tryz.sizeOf5
  v5 := Tryz.zeroValue5
  infoByte := by kernel_rfl
  cellsByte := by kernel_rfl
  sizeByte := by kernel_rfl
  neB5 := by decide }
open Go.RowKit in
/-- No element: the empty string; the world is as it was. (Whatever the slice's address and capacity: a nil slice too.) (LAID: no walk: one application.) -/
theorem Tryz.strings_Join_none (a : Option Addr) (c : Nat) (sep : ByteArray) (w : World) :
    Calls Tryz.prog 39 #[.slice a 0 c, .string sep] w fun e w' => e = .returned (.string ⟨#[]⟩) ∧ w' = w := Any.strings_Join_none Tryz.lays156 Tryz.Builder_Extra_156 a c sep w
open Go.RowKit in
/-- strings.Join: "Join concatenates the elements of its first argument to create a single string. The separator string sep is placed between elements in the resulting string.": HOWEVER MANY ELEMENTS. Below the heap's end the world is as it was. (LAID: no walk: one application.) -/
theorem Tryz.strings_Join (bk o c : Nat) (xs : List ByteArray) (sep : ByteArray) (w : World) (hcells : ∀ (j : Nat) x, xs[j]? = some x → w.cell? ⟨bk, o + j, none⟩ = some (.string x)) (hbk : bk < w.heap.size) (hN : xs.length ≤ 140737488355328) (hcap : xs.length ≤ c) (hlen : (Lib.join (xs.map (·.data.toList)) sep.data.toList).length ≤ 140737488355328) :
    Calls Tryz.prog 39 #[.slice (some ⟨bk, o, none⟩) xs.length c, .string sep] w fun e w' => e = .returned (.string ⟨(Lib.join (xs.map (·.data.toList)) sep.data.toList).toArray⟩) ∧ Below w.heap.size w w' := Any.strings_Join Tryz.lays156 Tryz.Builder_Extra_156 bk o c xs sep w hcells hbk hN hcap hlen
def Tryz.lays122_ren : Go.Shelf.Ren := ⟨fun | 122 => 116 | 215 => 135 | n => n, fun | 3 => 3 | 4 => 4 | n => n, fun | n => n⟩
theorem Tryz.lays122 : Go.Proofs.Lays.n122 Tryz.prog Tryz.lays122_ren := {
  mixed := by kernel_rfl
  f122 := Tryz.func116.trans (congrArg some (by kernel_rfl))
  f215 := Tryz.func135.trans (congrArg some (by kernel_rfl))
  t3 := Tryz.underlying3
  a3 := Tryz.isAgg3
  z3 := Tryz.sizeOf3
  v3 := Tryz.zeroValue3
  t4 := Tryz.underlying4
  a4 := Tryz.isAgg4
  z4 := Tryz.sizeOf4
  v4 := Tryz.zeroValue4 }
open Go.RowKit in
/-- cmp.Compare at int: "Compare returns -1 if x is less than y, 0 if x equals y, +1 if x is greater than y.": IT RETURNS 'Lib.compareInt x y'; the world is as it was. (LAID: no walk: one application.) -/
theorem Tryz.cmp_Compare_int (x y : Int) (w : World) :
    Calls Tryz.prog 116 #[.int .i64 x, .int .i64 y] w fun e w' => e = .returned (.int .i64 (Lib.compareInt x y)) ∧ w' = w := Any.cmp_Compare_int Tryz.lays122 x y w
open Go.RowKit Go.Lib in
def Tryz.lays105_ren : Go.Shelf.Ren := ⟨fun | 105 => 121 | 212 => 139 | 99 => 140 | 165 => 63 | 166 => 64 | 170 => 141 | 169 => 65 | 263 => 156 | 264 => 157 | 206 => 158 | 240 => 92 | 241 => 93 | 276 => 117 | 277 => 118 | n => n, fun | 9 => 9 | 3 => 3 | 4 => 4 | 20 => 20 | 0 => 0 | 46 => 170 | 109 => 171 | 5 => 5 | 72 => 96 | 76 => 100 | 51 => 191 | 146 => 192 | 53 => 180 | 148 => 194 | 70 => 93 | 37 => 94 | 75 => 99 | 127 => 123 | 164 => 147 | 80 => 102 | n => n, fun | n => n⟩
theorem Tryz.lays105 : Go.Proofs.Lays.n105 Tryz.prog Tryz.lays105_ren := {
  mixed := by kernel_rfl
  f99 := Tryz.func140.trans (congrArg some (by kernel_rfl))
  f105 := Tryz.func121.trans (congrArg some (by kernel_rfl))
  f165 := Tryz.func63.trans (congrArg some (by kernel_rfl))
  f166 := Tryz.func64.trans (congrArg some (by kernel_rfl))
  f169 := Tryz.func65.trans (congrArg some (by kernel_rfl))
  f170 := Tryz.func141.trans (congrArg some (by kernel_rfl))
  f206 := Tryz.func158.trans (congrArg some (by kernel_rfl))
  f212 := Tryz.func139.trans (congrArg some (by kernel_rfl))
  f240 := Tryz.func92.trans (congrArg some (by kernel_rfl))
  f241 := Tryz.func93.trans (congrArg some (by kernel_rfl))
  f263 := Tryz.func156.trans (congrArg some (by kernel_rfl))
  f264 := Tryz.func157.trans (congrArg some (by kernel_rfl))
  f276 := Tryz.func117.trans (congrArg some (by kernel_rfl))
  f277 := Tryz.func118.trans (congrArg some (by kernel_rfl))
  t0 := Tryz.underlying0
  a0 := Tryz.isAgg0
  z0 := Tryz.sizeOf0
  v0 := Tryz.zeroValue0
  t3 := Tryz.underlying3
  a3 := Tryz.isAgg3
  z3 := Tryz.sizeOf3
  v3 := Tryz.zeroValue3
  t4 := Tryz.underlying4
  a4 := Tryz.isAgg4
  z4 := Tryz.sizeOf4
  v4 := Tryz.zeroValue4
  t5 := Tryz.underlying5
  a5 := Tryz.isAgg5
  z5 := Tryz.sizeOf5
  v5 := Tryz.zeroValue5
  t9 := Tryz.underlying9
  a9 := Tryz.isAgg9
  z9 := Tryz.sizeOf9
  v9 := Tryz.zeroValue9
  t20 := Tryz.underlying20
  a20 := Tryz.isAgg20
  z20 := Tryz.sizeOf20
  v20 := Tryz.zeroValue20
  t37 := Tryz.underlying94
  a37 := Tryz.isAgg94
  z37 := Tryz.sizeOf94
  v37 := Tryz.zeroValue94
  t46 := Tryz.underlying170
  a46 := Tryz.isAgg170
  z46 := Tryz.sizeOf170
  v46 := Tryz.zeroValue170
  t51 := Tryz.underlying191
  a51 := Tryz.isAgg191
  z51 := Tryz.sizeOf191
  v51 := Tryz.zeroValue191
  t53 := Tryz.underlying180
  a53 := Tryz.isAgg180
  z53 := Tryz.sizeOf180
  v53 := Tryz.zeroValue180
  t70 := Tryz.underlying93
  a70 := Tryz.isAgg93
  z70 := Tryz.sizeOf93
  v70 := Tryz.zeroValue93
  t72 := Tryz.underlying96
  a72 := Tryz.isAgg96
  z72 := Tryz.sizeOf96
  v72 := Tryz.zeroValue96
  t75 := Tryz.underlying99
  a75 := Tryz.isAgg99
  z75 := Tryz.sizeOf99
  v75 := Tryz.zeroValue99
  t76 := Tryz.underlying100
  a76 := Tryz.isAgg100
  z76 := Tryz.sizeOf100
  v76 := Tryz.zeroValue100
  t109 := Tryz.underlying171
  a109 := Tryz.isAgg171
  z109 := Tryz.sizeOf171
  v109 := Tryz.zeroValue171
  t127 := Tryz.underlying123
  a127 := Tryz.isAgg123
  z127 := Tryz.sizeOf123
  v127 := Tryz.zeroValue123
  t146 := Tryz.underlying192
  a146 := Tryz.isAgg192
  z146 := Tryz.sizeOf192
  v146 := Tryz.zeroValue192
  t148 := Tryz.underlying194
  a148 := Tryz.isAgg194
  z148 := Tryz.sizeOf194
  v148 := Tryz.zeroValue194
  t164 := Tryz.underlying147
  a164 := Tryz.isAgg147
  z164 := Tryz.sizeOf147
  v164 := Tryz.zeroValue147 }
theorem Tryz.Builder_Extra_105 : Builder.Extra Tryz.prog Tryz.lays105_ren := {
  sizeBuilder := by kernel_rfl
  liesBuilder := by kernel_rfl
  t5 := Tryz.underlying5
  a5 := Tryz.isAgg5
  z5 := Tryz.sizeOf5
  v5 := Tryz.zeroValue5
  infoByte := by kernel_rfl
  cellsByte := by kernel_rfl
  sizeByte := by kernel_rfl
  neB5 := by decide }
open Go.RowKit Go.Lib in
open Go.RowKit Go.Lib in
open Go.RowKit Go.Lib in
open Go.RowKit Go.Lib in
open Go.RowKit Go.Lib in
open Go.RowKit Go.Lib in
open Go.RowKit Go.Lib in
/-- **strings.Repeat: count ≥ 0, the result within one allocation: count copies of s.** (LAID: no walk: one application.) -/
theorem Tryz.strings_Repeat (s : ByteArray) (c : Nat) (w : World) (hc : c ≤ 9223372036854775807) (hlen : s.size * c ≤ 140737488355328) :
    Calls Tryz.prog 121 #[.string s, .int .i64 c] w fun e w' => e = .returned (.string ⟨(Lib.repeatL s.data.toList c).toArray⟩) ∧ Below w.heap.size w w' := Any.strings_Repeat Tryz.lays105 Tryz.Builder_Extra_105 s c w hc hlen
open Go.Lib in
open Go.Lib in
open Go.RowKit Go.Lib Go.Sort in
open Go.RowKit Go.Lib Go.Sort in
open Go.RowKit Go.Lib Go.Sort in
open Go.RowKit Go.Lib in
open Go.RowKit Go.Lib in
open Go.RowKit Go.Lib in
open Go.RowKit Go.Lib Go.Sort in
def Tryz.laysValid_ren : Go.Shelf.Ren := ⟨fun | 196 => 136 | 259 => 154 | n => n, fun | 9 => 9 | 4 => 4 | 3 => 3 | 5 => 5 | 12 => 12 | 119 => 186 | 0 => 0 | 46 => 170 | 139 => 189 | 138 => 188 | 53 => 180 | n => n, fun | 3 => 1 | 4 => 2 | n => n⟩
theorem Tryz.laysValid : Go.Proofs.Lays.n196 Tryz.prog Tryz.laysValid_ren := {
  mixed := by kernel_rfl
  f196 := Tryz.func136.trans (congrArg some (by kernel_rfl))
  f259 := Tryz.func154.trans (congrArg some (by kernel_rfl))
  t0 := Tryz.underlying0
  a0 := Tryz.isAgg0
  z0 := Tryz.sizeOf0
  v0 := Tryz.zeroValue0
  t3 := Tryz.underlying3
  a3 := Tryz.isAgg3
  z3 := Tryz.sizeOf3
  v3 := Tryz.zeroValue3
  t4 := Tryz.underlying4
  a4 := Tryz.isAgg4
  z4 := Tryz.sizeOf4
  v4 := Tryz.zeroValue4
  t5 := Tryz.underlying5
  a5 := Tryz.isAgg5
  z5 := Tryz.sizeOf5
  v5 := Tryz.zeroValue5
  t9 := Tryz.underlying9
  a9 := Tryz.isAgg9
  z9 := Tryz.sizeOf9
  v9 := Tryz.zeroValue9
  t12 := Tryz.underlying12
  a12 := Tryz.isAgg12
  z12 := Tryz.sizeOf12
  v12 := Tryz.zeroValue12
  t46 := Tryz.underlying170
  a46 := Tryz.isAgg170
  z46 := Tryz.sizeOf170
  v46 := Tryz.zeroValue170
  t53 := Tryz.underlying180
  a53 := Tryz.isAgg180
  z53 := Tryz.sizeOf180
  v53 := Tryz.zeroValue180
  t119 := Tryz.underlying186
  a119 := Tryz.isAgg186
  z119 := Tryz.sizeOf186
  t138 := Tryz.underlying188
  a138 := Tryz.isAgg188
  z138 := Tryz.sizeOf188
  v138 := Tryz.zeroValue188
  t139 := Tryz.underlying189
  a139 := Tryz.isAgg189
  z139 := Tryz.sizeOf189
  v139 := Tryz.zeroValue189
  g3 := by kernel_rfl
  g4 := by kernel_rfl }
end Go.Proofs
/-
  The library's contracts for strings.Builder and TrimRight at this program, in plain words.
-/
namespace Go.Proofs
open Go.Shelf
def Tryz.lays169_ren : Go.Shelf.Ren := ⟨fun | 169 => 65 | n => n, fun | 70 => 93 | 9 => 9 | 0 => 0 | 72 => 96 | 37 => 94 | 127 => 123 | 3 => 3 | 5 => 5 | n => n, fun | n => n⟩
theorem Tryz.lays169 : Go.Proofs.Lays.n169 Tryz.prog Tryz.lays169_ren := {
  mixed := by kernel_rfl
  f169 := Tryz.func65.trans (congrArg some (by kernel_rfl))
  t0 := Tryz.underlying0
  a0 := Tryz.isAgg0
  z0 := Tryz.sizeOf0
  v0 := Tryz.zeroValue0
  t3 := Tryz.underlying3
  a3 := Tryz.isAgg3
  z3 := Tryz.sizeOf3
  v3 := Tryz.zeroValue3
  t9 := Tryz.underlying9
  a9 := Tryz.isAgg9
  z9 := Tryz.sizeOf9
  v9 := Tryz.zeroValue9
  t37 := Tryz.underlying94
  a37 := Tryz.isAgg94
  z37 := Tryz.sizeOf94
  v37 := Tryz.zeroValue94
  t70 := Tryz.underlying93
  a70 := Tryz.isAgg93
  z70 := Tryz.sizeOf93
  v70 := Tryz.zeroValue93
  t72 := Tryz.underlying96
  a72 := Tryz.isAgg96
  z72 := Tryz.sizeOf96
  v72 := Tryz.zeroValue96
  t127 := Tryz.underlying123
  a127 := Tryz.isAgg123
  z127 := Tryz.sizeOf123
  v127 := Tryz.zeroValue123 }
theorem Tryz.Builder_Extra_169 : Builder.Extra Tryz.prog Tryz.lays169_ren := {
  sizeBuilder := by kernel_rfl
  liesBuilder := by kernel_rfl
  t5 := Tryz.underlying5
  a5 := Tryz.isAgg5
  z5 := Tryz.sizeOf5
  v5 := Tryz.zeroValue5
  infoByte := by kernel_rfl
  cellsByte := by kernel_rfl
  sizeByte := by kernel_rfl
  neB5 := by decide }
open Go.RowKit in
open Go.RowKit in
open Go.RowKit in
/-- (*strings.Builder).String: "String returns the accumulated string.": WHATEVER THE BUILDER HOLDS. (LAID: no walk: one application.) -/
theorem Tryz.Builder_String_any (B b : Nat) (l : List UInt8) (w : World) (h : Lib.IsBuilder 96 5 B b (Lib.byteCells l) w) (hBw : B ≤ w.heap.size) :
    Calls Tryz.prog 65 #[.pointer (some ⟨b, 0, none⟩)] w fun e w' => e = .returned (.string ⟨l.toArray⟩) ∧ Below B w w' := Any.Builder_String_any Tryz.lays169 Tryz.Builder_Extra_169 B b l w h hBw
def Tryz.lays162_ren : Go.Shelf.Ren := ⟨fun | 162 => 97 | 232 => 122 | 227 => 123 | 234 => 124 | 236 => 125 | 228 => 142 | 271 => 143 | 151 => 144 | 120 => 159 | 197 => 160 | 152 => 161 | 260 => 168 | 137 => 169 | 119 => 170 | 224 => 171 | 225 => 172 | 217 => 175 | 266 => 176 | n => n, fun | 9 => 9 | 4 => 4 | 3 => 3 | 5 => 5 | 117 => 154 | 116 => 153 | 0 => 0 | 124 => 157 | 21 => 21 | 105 => 176 | 46 => 170 | 119 => 186 | 139 => 189 | 138 => 188 | n => n, fun | 3 => 1 | 4 => 2 | n => n⟩
theorem Tryz.lays162 : Go.Proofs.Lays.n162 Tryz.prog Tryz.lays162_ren := {
  mixed := by kernel_rfl
  f119 := Tryz.func170.trans (congrArg some (by kernel_rfl))
  f120 := Tryz.func159.trans (congrArg some (by kernel_rfl))
  f137 := Tryz.func169.trans (congrArg some (by kernel_rfl))
  f151 := Tryz.func144.trans (congrArg some (by kernel_rfl))
  f152 := Tryz.func161.trans (congrArg some (by kernel_rfl))
  f162 := Tryz.func97.trans (congrArg some (by kernel_rfl))
  f197 := Tryz.func160.trans (congrArg some (by kernel_rfl))
  f217 := Tryz.func175.trans (congrArg some (by kernel_rfl))
  f224 := Tryz.func171.trans (congrArg some (by kernel_rfl))
  f225 := Tryz.func172.trans (congrArg some (by kernel_rfl))
  f227 := Tryz.func123.trans (congrArg some (by kernel_rfl))
  f228 := Tryz.func142.trans (congrArg some (by kernel_rfl))
  f232 := Tryz.func122.trans (congrArg some (by kernel_rfl))
  f234 := Tryz.func124.trans (congrArg some (by kernel_rfl))
  f236 := Tryz.func125.trans (congrArg some (by kernel_rfl))
  f260 := Tryz.func168.trans (congrArg some (by kernel_rfl))
  f266 := Tryz.func176.trans (congrArg some (by kernel_rfl))
  f271 := Tryz.func143.trans (congrArg some (by kernel_rfl))
  t0 := Tryz.underlying0
  a0 := Tryz.isAgg0
  z0 := Tryz.sizeOf0
  v0 := Tryz.zeroValue0
  t3 := Tryz.underlying3
  a3 := Tryz.isAgg3
  z3 := Tryz.sizeOf3
  v3 := Tryz.zeroValue3
  t4 := Tryz.underlying4
  a4 := Tryz.isAgg4
  z4 := Tryz.sizeOf4
  v4 := Tryz.zeroValue4
  t5 := Tryz.underlying5
  a5 := Tryz.isAgg5
  z5 := Tryz.sizeOf5
  v5 := Tryz.zeroValue5
  t9 := Tryz.underlying9
  a9 := Tryz.isAgg9
  z9 := Tryz.sizeOf9
  v9 := Tryz.zeroValue9
  t21 := Tryz.underlying21
  a21 := Tryz.isAgg21
  z21 := Tryz.sizeOf21
  v21 := Tryz.zeroValue21
  t46 := Tryz.underlying170
  a46 := Tryz.isAgg170
  z46 := Tryz.sizeOf170
  v46 := Tryz.zeroValue170
  t105 := Tryz.underlying176
  a105 := Tryz.isAgg176
  z105 := Tryz.sizeOf176
  v105 := Tryz.zeroValue176
  t116 := Tryz.underlying153
  a116 := Tryz.isAgg153
  z116 := Tryz.sizeOf153
  t117 := Tryz.underlying154
  a117 := Tryz.isAgg154
  z117 := Tryz.sizeOf154
  v117 := Tryz.zeroValue154
  t119 := Tryz.underlying186
  a119 := Tryz.isAgg186
  z119 := Tryz.sizeOf186
  t124 := Tryz.underlying157
  a124 := Tryz.isAgg157
  z124 := Tryz.sizeOf157
  v124 := Tryz.zeroValue157
  t138 := Tryz.underlying188
  a138 := Tryz.isAgg188
  z138 := Tryz.sizeOf188
  v138 := Tryz.zeroValue188
  t139 := Tryz.underlying189
  a139 := Tryz.isAgg189
  z139 := Tryz.sizeOf189
  v139 := Tryz.zeroValue189
  g3 := by kernel_rfl
  g4 := by kernel_rfl }
open Go.RowKit in
/-- strings.TrimRight: "TrimRight returns a slice of the string s, with all trailing Unicode code points contained in cutset removed.": AT A cutset OF ONE ASCII BYTE. The world is as it was. (LAID: no walk: one application.) -/
theorem Tryz.strings_TrimRight_one (s : ByteArray) (c : UInt8) (hc : c.toNat < 128) (w : World) (hs : s.size ≤ 9223372036854775807) :
    Calls Tryz.prog 97 #[.string s, .string ⟨#[c]⟩] w fun e w' => e = .returned (.string ⟨(Lib.trimRightB s.data.toList c).toArray⟩) ∧ w' = w := Any.strings_TrimRight_one Tryz.lays162 s c hc w hs
def Tryz.lays167_ren : Go.Shelf.Ren := ⟨fun | 167 => 95 | 240 => 92 | 276 => 117 | n => n, fun | 0 => 0 | 4 => 4 | 5 => 5 | 9 => 9 | 20 => 20 | 37 => 94 | 70 => 93 | 72 => 96 | 75 => 99 | 164 => 147 | 80 => 102 | n => n, fun | n => n⟩
theorem Tryz.lays167 : Go.Proofs.Lays.n167 Tryz.prog Tryz.lays167_ren := {
  mixed := by kernel_rfl
  f167 := Tryz.func95.trans (congrArg some (by kernel_rfl))
  f240 := Tryz.func92.trans (congrArg some (by kernel_rfl))
  f276 := Tryz.func117.trans (congrArg some (by kernel_rfl))
  t0 := Tryz.underlying0
  a0 := Tryz.isAgg0
  z0 := Tryz.sizeOf0
  v0 := Tryz.zeroValue0
  t4 := Tryz.underlying4
  a4 := Tryz.isAgg4
  z4 := Tryz.sizeOf4
  v4 := Tryz.zeroValue4
  t5 := Tryz.underlying5
  a5 := Tryz.isAgg5
  z5 := Tryz.sizeOf5
  v5 := Tryz.zeroValue5
  t9 := Tryz.underlying9
  a9 := Tryz.isAgg9
  z9 := Tryz.sizeOf9
  v9 := Tryz.zeroValue9
  t20 := Tryz.underlying20
  a20 := Tryz.isAgg20
  z20 := Tryz.sizeOf20
  v20 := Tryz.zeroValue20
  t37 := Tryz.underlying94
  a37 := Tryz.isAgg94
  z37 := Tryz.sizeOf94
  v37 := Tryz.zeroValue94
  t70 := Tryz.underlying93
  a70 := Tryz.isAgg93
  z70 := Tryz.sizeOf93
  v70 := Tryz.zeroValue93
  t72 := Tryz.underlying96
  a72 := Tryz.isAgg96
  z72 := Tryz.sizeOf96
  v72 := Tryz.zeroValue96
  t75 := Tryz.underlying99
  a75 := Tryz.isAgg99
  z75 := Tryz.sizeOf99
  v75 := Tryz.zeroValue99
  t164 := Tryz.underlying147
  a164 := Tryz.isAgg147
  z164 := Tryz.sizeOf147
  v164 := Tryz.zeroValue147 }
theorem Tryz.Builder_Extra_167 : Builder.Extra Tryz.prog Tryz.lays167_ren := {
  sizeBuilder := by kernel_rfl
  liesBuilder := by kernel_rfl
  t5 := Tryz.underlying5
  a5 := Tryz.isAgg5
  z5 := Tryz.sizeOf5
  v5 := Tryz.zeroValue5
  infoByte := by kernel_rfl
  cellsByte := by kernel_rfl
  sizeByte := by kernel_rfl
  neB5 := by decide }
open Go.RowKit in
theorem Tryz.Builder_WriteByte (B b : Nat) (bs : List Value) (c : Int) (w : World) (h : Lib.IsBuilder 96 5 B b bs w) (hlen : bs.length + 1 ≤ 140737488355328) (hBw : B ≤ w.heap.size) :
    Calls Tryz.prog 95 #[.pointer (some ⟨b, 0, none⟩), .int .u8 c] w fun e w' => e = .returned .nilIface ∧ (Lib.BuilderAt 96 5 B b (.pointer (some ⟨b, 0, none⟩)) (bs ++ [.int .u8 c]) w' ∧ Below B w w') := Any.Builder_WriteByte Tryz.lays167 Tryz.Builder_Extra_167 B b bs c w h hlen hBw
open Go.RowKit in
theorem Tryz.Builder_WriteString (B b : Nat) (bs : List Value) (s : ByteArray) (w : World) (h : Lib.IsBuilder 96 5 B b bs w) (hlen : bs.length + s.size ≤ 140737488355328) (hBw : B ≤ w.heap.size) :
    Calls Tryz.prog 64 #[.pointer (some ⟨b, 0, none⟩), .string s] w fun e w' => e = .returned (.tuple #[.int .i64 s.size, .nilIface]) ∧ (Lib.BuilderAt 96 5 B b (.pointer (some ⟨b, 0, none⟩)) (bs ++ Lib.strCells s) w' ∧ Below B w w') := Any.Builder_WriteString { Tryz.lays105 with } Tryz.Builder_Extra_105 B b bs s w h hlen hBw
end Go.Proofs
/-
  PLAIN LAW of the chapter on runes: scalars, their encodings, the points of a string. No program in sight.
-/
set_option linter.unusedVariables false
set_option linter.unusedSimpArgs false
namespace Go.Proofs.YthcabnfcgjnlnaaGreatDoor.Ru

def scalarB (p : Int) : Bool := decide (0 ≤ p) && decide (p ≤ 1114111) && (decide (p < 55296) || decide (57343 < p))
/-- The bytes of a scalar's encoding, as numbers. -/
def encI (p : Int) : List Int :=
  if p < 128 then [p]
  else if p < 2048 then [192 + p / 64, 128 + p % 64]
  else if p < 65536 then [224 + p / 4096, 128 + p / 64 % 64, 128 + p % 64]
  else [240 + p / 262144, 128 + p / 4096 % 64, 128 + p / 64 % 64, 128 + p % 64]
def encL (p : Int) : List UInt8 := (encI p).map fun v => UInt8.ofNat v.toNat
/-- What the first byte says: the bits that it brings, and the number of bytes. -/
def lead (b : Nat) : Nat × Nat := if 240 ≤ b then (b - 240, 4) else if 224 ≤ b then (b - 224, 3) else if 192 ≤ b then (b - 192, 2) else (b, 1)
/-- The bits of the bytes that follow. -/
def cont (p : Nat) (l : List UInt8) : Nat := l.foldl (fun p b => p * 64 + b.toNat % 64) p
/-- The scalar at the beginning of l, and the number of its bytes. -/
def firstL (l : List UInt8) : Option (Nat × Nat) :=
  match l with
  | [] => none
  | b :: t =>
    let n := (lead b.toNat).2
    let p := cont (lead b.toNat).1 (t.take (n - 1))
    if n ≤ t.length + 1 ∧ scalarB p = true ∧ encL p = (b :: t).take n then some (p, n) else none
def pointsN : Nat → List UInt8 → Option (List Nat)
  | 0, _ => some []
  | f + 1, l =>
    match l with
    | [] => some []
    | b :: t =>
      match firstL (b :: t) with
      | none => none
      | some (p, n) => (pointsN f ((b :: t).drop n)).map (p :: ·)
def points (l : List UInt8) : Option (List Nat) := pointsN l.length l
theorem lead_pos (b : Nat) : 1 ≤ (lead b).2 ∧ (lead b).2 ≤ 4 := by
  unfold lead; split
  · simp
  · split
    · simp
    · split <;> simp
theorem firstL_some {l : List UInt8} {p n : Nat} (h : firstL l = some (p, n)) : 1 ≤ n ∧ n ≤ 4 ∧ n ≤ l.length ∧ scalarB p = true ∧ encL p = l.take n := by
  unfold firstL at h
  split at h
  · cases h
  · rename_i b t
    simp only at h
    split at h
    · rename_i hh
      injection h with h
      injection h with h1 h2
      subst h1 h2
      obtain ⟨x, y⟩ := lead_pos b.toNat
      exact ⟨x, y, by simpa using hh.1, hh.2.1, hh.2.2⟩
    · cases h
theorem pointsN_enough : ∀ (f g : Nat) (l : List UInt8), l.length ≤ f → l.length ≤ g → pointsN f l = pointsN g l := by
  intro f
  induction f with
  | zero =>
    intro g l hf hg
    have : l = [] := List.eq_nil_of_length_eq_zero (by omega)
    subst this
    cases g <;> simp [pointsN]
  | succ f ih =>
    intro g l hf hg
    cases l with
    | nil => cases g <;> simp [pointsN]
    | cons b t =>
      cases g with
      | zero => simp at hg
      | succ g =>
        simp only [pointsN]
        cases hfst : firstL (b :: t) with
        | none => rfl
        | some pn =>
          obtain ⟨p, n⟩ := pn
          have h1 := firstL_some hfst
          simp only
          rw [ih g _ (by rw [List.length_drop]; omega) (by rw [List.length_drop]; omega)]
theorem points_nil : points [] = some [] := rfl
theorem points_none {l : List UInt8} (hl : l ≠ []) (h : firstL l = none) : points l = none := by
  cases l with
  | nil => exact absurd rfl hl
  | cons b t =>
    show pointsN (t.length + 1) (b :: t) = none
    simp only [pointsN, h]
theorem points_some {l : List UInt8} {p n : Nat} (h : firstL l = some (p, n)) : points l = (points (l.drop n)).map (p :: ·) := by
  cases l with
  | nil => simp [firstL] at h
  | cons b t =>
    have h1 := firstL_some h
    show pointsN (t.length + 1) (b :: t) = _
    simp only [pointsN, h]
    rw [pointsN_enough t.length ((b :: t).drop n).length _ (by rw [List.length_drop]; simp; omega) (Nat.le_refl _)]
    rfl
theorem points_length : ∀ (f : Nat) (l : List UInt8) (d : List Nat), l.length ≤ f → points l = some d → d.length ≤ l.length := by
  intro f
  induction f with
  | zero =>
    intro l d hl h
    have : l = [] := List.eq_nil_of_length_eq_zero (by omega)
    subst this
    rw [points_nil] at h
    cases h; simp
  | succ f ih =>
    intro l d hl h
    by_cases h0 : l = []
    · subst h0
      rw [points_nil] at h
      cases h; simp
    · cases hf : firstL l with
      | none => rw [points_none h0 hf] at h; cases h
      | some pn =>
        obtain ⟨p, n⟩ := pn
        rw [points_some hf] at h
        obtain ⟨h1, _, h3, _⟩ := firstL_some hf
        cases hp : points (l.drop n) with
        | none => rw [hp] at h; cases h
        | some d' =>
          rw [hp] at h
          cases h
          have := ih (l.drop n) d' (by rw [List.length_drop]; omega) hp
          rw [List.length_drop] at this
          simp; omega
end Go.Proofs.YthcabnfcgjnlnaaGreatDoor.Ru
/-
  PLAIN LAW: comparisons of which the sign alone counts: total orders. No program in sight.
-/
set_option linter.unusedVariables false
set_option linter.unusedSimpArgs false
namespace Go.Proofs.YthcabnfcgjnlnaaGreatDoor.Col

/-- A comparison whose sign orders. -/
structure IsCmp {α : Type} (c : α → α → Int) : Prop where
  anti : ∀ x y, c y x = - c x y
  trans : ∀ x y z, c x y ≤ 0 → c y z ≤ 0 → c x z ≤ 0 ∧ (c x z = 0 → c x y = 0 ∧ c y z = 0)
theorem IsCmp.self {α : Type} {c : α → α → Int} (h : IsCmp c) (x : α) : c x x = 0 := by have := h.anti x x; omega
theorem IsCmp.comap {α β : Type} {c : α → α → Int} (h : IsCmp c) (f : β → α) : IsCmp (fun x y => c (f x) (f y)) := ⟨fun _ _ => h.anti _ _, fun _ _ _ => h.trans _ _ _⟩
end Go.Proofs.YthcabnfcgjnlnaaGreatDoor.Col
/-
  WORDS FOR MEMORY of the claims of this seat: a slice that reads as a list of cells, and how such a reading is kept.
-/
set_option linter.unusedVariables false
set_option linter.unusedSimpArgs false
namespace Go.Proofs.YthcabnfcgjnlnaaGreatDoor
open Go.RowKit

theorem block_of_add (a : Addr) (n : Nat) : (a.add n).block = a.block := by unfold Addr.add; split <;> rfl
theorem add_of_add (a : Addr) (i j : Nat) : (a.add i).add j = a.add (i + j) := by
  unfold Addr.add
  by_cases hi : i = 0 <;> by_cases hj : j = 0 <;> simp [hi, hj, Nat.add_assoc]

/-- The slice value '.slice A n c' has n elements of 'size' cells, the cells are xs, and it lies below block B. -/
def Reads (w : World) (B size : Nat) (A : Option Addr) (n : Nat) (xs : List Value) : Prop :=
  xs.length = n * size ∧ (0 < n → ∃ ad, A = some ad ∧ ad.block < B ∧ ∀ j u, xs[j]? = some u → w.cell? (ad.add j) = some u)

section
variable {w w' : World} {B B' size n : Nat} {A : Option Addr} {xs : List Value}
theorem Reads.none_ : Reads w B size A 0 [] := ⟨by simp, fun h => absurd h (by omega)⟩
theorem Reads.at_ {k : Nat} (h : Reads w B 1 A n xs) (hk : k < n) : ∃ ad u, A = some ad ∧ ad.block < B ∧ xs[k]? = some u ∧ w.cell? (ad.add k) = some u := by
  obtain ⟨ad, e, hb, hc⟩ := h.2 (by omega)
  have hl : k < xs.length := by have := h.1; omega
  exact ⟨ad, xs[k], e, hb, List.getElem?_eq_getElem hl, hc k _ (List.getElem?_eq_getElem hl)⟩
theorem Reads.keep (h : Reads w B size A n xs) (hk : ∀ p : Addr, p.block < B → w'.cell? p = w.cell? p) : Reads w' B size A n xs :=
  ⟨h.1, fun hn => by
    obtain ⟨ad, e, hb, hc⟩ := h.2 hn
    exact ⟨ad, e, hb, fun j u hu => (hk _ (by rw [block_of_add]; exact hb)).trans (hc j u hu)⟩⟩
theorem Reads.more (h : Reads w B size A n xs) (hB : B ≤ B') : Reads w B' size A n xs :=
  ⟨h.1, fun hn => by
    obtain ⟨ad, e, hb, hc⟩ := h.2 hn
    exact ⟨ad, e, by omega, hc⟩⟩
theorem Reads.below (h : Reads w B size A n xs) (hb : Below B w w') : Reads w' B size A n xs := h.keep fun _ hp => hb.cell hp
theorem Reads.drew (h : Reads w B size A n xs) : Reads w.drew B size A n xs := h
theorem Reads.drewN (h : Reads w B size A n xs) (k : Nat) : Reads (w.drewN k) B size A n xs := h
theorem Reads.alloc (h : Reads w B size A n xs) (hB : B ≤ w.heap.size) (o : Obj) : Reads (w.alloc o) B size A n xs := h.keep fun p hp => World.cell?_alloc_lt w o p (by omega)
theorem Reads.setCell (h : Reads w B size A n xs) {p : Addr} (hB : B ≤ p.block) (u : Value) : Reads (w.setCell p u) B size A n xs :=
  h.keep fun q hq => World.cell?_setCell_other w p q u (fun e => by subst e; omega)
end
theorem below_drewN {B : Nat} {a w : World} (h : Below B a w) (n : Nat) : Below B a (w.drewN n) := ⟨h.os, h.tape, h.output, h.size, h.block⟩
theorem below_new (w : World) (o : Obj) : Below w.heap.size w (w.alloc o) := (Below.refl _ _).alloc (Nat.le_refl _) _
end Go.Proofs.YthcabnfcgjnlnaaGreatDoor
/-
  A ROW THAT IS SORTED IN PLACE: what the world holds while a call writes into n cells of one block and lays new blocks.
-/
set_option linter.unusedVariables false
set_option linter.unusedSimpArgs false
namespace Go.Proofs.YthcabnfcgjnlnaaGreatDoor
open Go.RowKit

/-- Since w0: the n cells of block blk from off on hold enc (d 0) .. enc (d (n-1)); all else that was there is as it was; new blocks may have come. -/
structure SS {α : Type} (enc : α → Value) (w0 : World) (blk off n : Nat) (d : Nat → α) (W : World) : Prop where
  os : W.os = w0.os
  tape : W.tape = w0.tape
  output : W.output = w0.output
  size : w0.heap.size ≤ W.heap.size
  block : ∀ k, k < w0.heap.size → k ≠ blk → W.heap[k]? = w0.heap[k]?
  lt : blk < w0.heap.size
  cells : ∀ j, j < n → W.cell? ⟨blk, off + j, none⟩ = some (enc (d j))
  free : ∀ j, j < n → W.frozen? ⟨blk, off + j, none⟩ = false
  obj : ∃ c c' e fr, w0.heap[blk]? = some (.cells c e fr) ∧ W.heap[blk]? = some (.cells c' e fr) ∧ c'.size = c.size ∧ ∀ k, (k < off ∨ off + n ≤ k) → c'[k]? = c[k]?

section
variable {α : Type} {enc : α → Value} {w0 W W' : World} {blk off n : Nat} {d : Nat → α}
theorem SS.start (hb : blk < w0.heap.size) (hc : ∀ j, j < n → w0.cell? ⟨blk, off + j, none⟩ = some (enc (d j))) (hf : ∀ j, j < n → w0.frozen? ⟨blk, off + j, none⟩ = false) (ho : ∃ c e fr, w0.heap[blk]? = some (.cells c e fr)) :
    SS enc w0 blk off n d w0 := by
  obtain ⟨c, e, fr, h⟩ := ho
  exact ⟨rfl, rfl, rfl, Nat.le_refl _, fun _ _ _ => rfl, hb, hc, hf, c, c, e, fr, h, h, rfl, fun _ _ => rfl⟩
theorem SS.below (h : SS enc w0 blk off n d W) (hb : Below W.heap.size W W') : SS enc w0 blk off n d W' := by
  have hlt : blk < W.heap.size := Nat.lt_of_lt_of_le h.lt h.size
  refine ⟨hb.os.trans h.os, hb.tape.trans h.tape, hb.output.trans h.output, Nat.le_trans h.size hb.size, fun k hk hn => (hb.block k (Nat.lt_of_lt_of_le hk h.size)).trans (h.block k hk hn), h.lt,
    fun j hj => (hb.cell (p := ⟨blk, off + j, none⟩) hlt).trans (h.cells j hj), fun j hj => (hb.frozen (p := ⟨blk, off + j, none⟩) hlt).trans (h.free j hj), ?_⟩
  obtain ⟨c, c', e, fr, h1, h2, h3, h4⟩ := h.obj
  exact ⟨c, c', e, fr, h1, (hb.block blk hlt).trans h2, h3, h4⟩
theorem SS.drewN (h : SS enc w0 blk off n d W) (k : Nat) : SS enc w0 blk off n d (W.drewN k) := h.below (below_drewN (Below.refl _ _) k)
theorem SS.drew (h : SS enc w0 blk off n d W) : SS enc w0 blk off n d W.drew := h.drewN 1
theorem SS.alloc (h : SS enc w0 blk off n d W) (o : Obj) : SS enc w0 blk off n d (W.alloc o) := h.below ((Below.refl _ _).alloc (Nat.le_refl _) o)

def upd (d : Nat → α) (i : Nat) (x : α) : Nat → α := fun k => if k = i then x else d k
def swpF (d : Nat → α) (i j : Nat) : Nat → α := upd (upd d i (d j)) j (d i)
theorem SS.store (h : SS enc w0 blk off n d W) {i : Nat} (hi : i < n) (x : α) : SS enc w0 blk off n (upd d i x) (W.setCell ⟨blk, off + i, none⟩ (enc x)) := by
  obtain ⟨c, c', e, fr, h1, h2, h3, h4⟩ := h.obj
  refine ⟨h.os, h.tape, h.output, by simpa using h.size, fun k hk hn => ?_, h.lt, fun j hj => ?_, fun j hj => ?_, c, c'.setIfInBounds (off + i) (enc x), e, fr, h1, ?_, by simpa using h3, fun k hk => ?_⟩
  · rw [Below.heap_setCell _ _ _ _ (by simpa using hn)]; exact h.block k hk hn
  · by_cases e2 : j = i
    · subst e2
      rw [World.cell?_setCell_same _ _ _ (h.cells j hj)]
      simp [upd]
    · rw [World.cell?_setCell_other _ _ _ _ (by intro e'; simp only [Addr.mk.injEq] at e'; omega)]
      simp only [upd, if_neg e2]
      exact h.cells j hj
  · rw [World.frozen?_setCell]; exact h.free j hj
  · simp [World.setCell, Array.getElem?_modify, h2]
  · rw [Array.getElem?_setIfInBounds, if_neg (by omega)]; exact h4 k hk
theorem SS.swapped (h : SS enc w0 blk off n d W) {i j : Nat} (hi : i < n) (hj : j < n) :
    SS enc w0 blk off n (swpF d i j) ((W.setCell ⟨blk, off + i, none⟩ (enc (d j))).setCell ⟨blk, off + j, none⟩ (enc (d i))).drew := ((h.store hi (d j)).store hj (d i)).drew
theorem SS.c2 (h : SS enc w0 blk off n d W) {i j : Nat} (_hi : i < n) (hj : j < n) (v : Value) : ∃ u, (W.setCell ⟨blk, off + i, none⟩ v).cell? ⟨blk, off + j, none⟩ = some u := by
  by_cases e : i = j
  · subst e; exact ⟨v, World.cell?_setCell_same _ _ _ (h.cells i hj)⟩
  · exact ⟨_, (World.cell?_setCell_other _ _ _ _ (by intro e'; simp only [Addr.mk.injEq] at e'; omega)).trans (h.cells j hj)⟩
theorem SS.congr (h : SS enc w0 blk off n d W) {d' : Nat → α} (hd : ∀ j, j < n → d' j = d j) : SS enc w0 blk off n d' W :=
  ⟨h.os, h.tape, h.output, h.size, h.block, h.lt, fun j hj => by rw [hd j hj]; exact h.cells j hj, h.free, h.obj⟩
/-- What lies below a block number that the row is not below is kept. -/
theorem SS.belowBase (h : SS enc w0 blk off n d W) {B : Nat} (hB : B ≤ blk) : Below B w0 W :=
  ⟨h.os, h.tape, h.output, h.size, fun k hk => h.block k (by have := h.lt; omega) (by omega)⟩
theorem SS.cell (h : SS enc w0 blk off n d W) {p : Addr} (hp : p.block < w0.heap.size) (hn : p.block ≠ blk) : W.cell? p = w0.cell? p := World.cell?_of_block (h.block _ hp hn)
/-- The whole row of an owned slice, told again. -/
theorem SS.owned {base e c : Nat} {xs : List Value} (h : SS enc w0 blk 0 n d W) (ho : w0.ownsRow base e 1 (.slice (some ⟨blk, 0, none⟩) n c) n xs) (ys : List Value) (hl : ys.length = n) (hy : ∀ j, j < n → ys[j]? = some (enc (d j))) :
    W.ownsRow base e 1 (.slice (some ⟨blk, 0, none⟩) n c) n ys := by
  refine ⟨by simpa using hl, ?_⟩
  rcases ho.2 with ⟨h1, _⟩ | ⟨g, cap, cur, hv, hg, hh, hn, hm, hs, ht⟩
  · cases h1
  · injection hv with hv1 hv2 hv3
    injection hv1 with hv1
    injection hv1 with hv1
    subst hv1 hv3
    obtain ⟨c1, c', e', fr, h1, h2, h3, h4⟩ := h.obj
    rw [hh] at h1
    cases h1
    refine .inr ⟨blk, c, c', rfl, hg, h2, hn, hm, by rw [h3]; exact hs, ?_⟩
    apply List.ext_getElem?
    intro j
    by_cases hj : j < n
    · have hc := h.cells j hj
      simp only [World.cell?, h2, Nat.zero_add] at hc
      rw [hy j hj]
      rw [List.getElem?_take]
      simp at hc ⊢
      exact ⟨hj, hc⟩
    · rw [List.getElem?_eq_none (by simp; omega), List.getElem?_eq_none (by omega)]
end
end Go.Proofs.YthcabnfcgjnlnaaGreatDoor
/-
  PLAIN LAW of the stable sort: rows of tagged elements (value, place), sorted by the comparison and then by the tag. No program in sight.
-/
set_option linter.unusedVariables false
set_option linter.unusedSimpArgs false
namespace Go.Proofs.YthcabnfcgjnlnaaGreatDoor.Srt
open Go.Proofs.YthcabnfcgjnlnaaGreatDoor.Col Go.Proofs.YthcabnfcgjnlnaaGreatDoor
variable {α : Type} {c : α → α → Int}

/-- The elements that are sorted: a value, and the place where it stood. -/
abbrev Tag (α : Type) := α × Nat
/-- p comes before q. -/
def lexLt (c : α → α → Int) (p q : Tag α) : Prop := c p.1 q.1 < 0 ∨ (c p.1 q.1 = 0 ∧ p.2 < q.2)
theorem lexLt_trans (hc : IsCmp c) {p q r : Tag α} (h1 : lexLt c p q) (h2 : lexLt c q r) : lexLt c p r := by
  unfold lexLt at *
  have := hc.trans p.1 q.1 r.1
  skip
  omega
theorem lexLt_irrefl (hc : IsCmp c) {p : Tag α} : ¬ lexLt c p p := by
  unfold lexLt
  have := hc.self p.1
  omega
theorem lexLt_asymm (hc : IsCmp c) {p q : Tag α} (h : lexLt c p q) : ¬ lexLt c q p := fun k => lexLt_irrefl hc (lexLt_trans hc h k)

def SortedOn (c : α → α → Int) (d : Nat → Tag α) (a b : Nat) : Prop := ∀ i j, a ≤ i → i < j → j < b → lexLt c (d i) (d j)
/-- The places a .. b-1 hold the same elements in both, and all other places are the same. -/
structure PermOn (a b : Nat) (d d' : Nat → Tag α) : Prop where
  out : ∀ k, (k < a ∨ b ≤ k) → d' k = d k
  perm : ((List.range' a (b - a)).map d').Perm ((List.range' a (b - a)).map d)
theorem PermOn.refl (a b : Nat) (d : Nat → Tag α) : PermOn a b d d := ⟨fun _ _ => rfl, List.Perm.refl _⟩
theorem PermOn.trans {a b : Nat} {d e f : Nat → Tag α} (h : PermOn a b d e) (k : PermOn a b e f) : PermOn a b d f :=
  ⟨fun i hi => (k.out i hi).trans (h.out i hi), k.perm.trans h.perm⟩
theorem range'_split (a m b : Nat) (h1 : a ≤ m) (h2 : m ≤ b) : List.range' a (b - a) = List.range' a (m - a) ++ List.range' m (b - m) := by
  have : List.range' a (m - a) ++ List.range' (a + 1 * (m - a)) (b - m) = List.range' a ((m - a) + (b - m)) := List.range'_append
  rw [show a + 1 * (m - a) = m by omega, show (m - a) + (b - m) = b - a by omega] at this
  exact this.symm
theorem PermOn.wider {a b a' b' : Nat} {d d' : Nat → Tag α} (h : PermOn a b d d') (h1 : a' ≤ a) (h2 : b ≤ b') (hab : a ≤ b) : PermOn a' b' d d' := by
  refine ⟨fun k hk => h.out k (by omega), ?_⟩
  rw [range'_split a' a b' h1 (by omega), range'_split a b b' hab h2]
  simp only [List.map_append]
  refine List.Perm.append ?_ (List.Perm.append h.perm ?_)
  · rw [List.map_congr_left (fun k hk => h.out k (by rw [List.mem_range'_1] at hk; omega))]
  · rw [List.map_congr_left (fun k hk => h.out k (by rw [List.mem_range'_1] at hk; omega))]
theorem PermOn.mem {a b : Nat} {d d' : Nat → Tag α} (h : PermOn a b d d') {k : Nat} (h1 : a ≤ k) (h2 : k < b) : ∃ j, a ≤ j ∧ j < b ∧ d' k = d j := by
  have : d' k ∈ (List.range' a (b - a)).map d' := List.mem_map_of_mem (by rw [List.mem_range'_1]; omega)
  rw [h.perm.mem_iff, List.mem_map] at this
  obtain ⟨j, hj, e⟩ := this
  rw [List.mem_range'_1] at hj
  exact ⟨j, by omega, by omega, e.symm⟩

theorem swap_perm (d : Nat → Tag α) (i j : Nat) (hij : i ≤ j) : PermOn i (j + 1) d (swpF d i j) := by
  refine ⟨fun k hk => ?_, ?_⟩
  · simp only [swpF, upd]; rw [if_neg (by omega), if_neg (by omega)]
  · by_cases e : i = j
    · subst e
      have : swpF d i i = d := by funext k; simp only [swpF, upd]; split <;> simp_all
      rw [this]
    · have e1 : List.range' i (j + 1 - i) = i :: (List.range' (i + 1) (j - i - 1) ++ [j]) := by
        rw [range'_split i (i + 1) (j + 1) (by omega) (by omega), range'_split (i + 1) j (j + 1) (by omega) (by omega), show i + 1 - i = 1 by omega, show j + 1 - j = 1 by omega]
        rw [show j - (i + 1) = j - i - 1 by omega]
        simp
      rw [e1]
      simp only [List.map_cons, List.map_append, List.map_nil]
      rw [List.map_congr_left (g := d) (fun k hk => by rw [List.mem_range'_1] at hk; simp only [swpF, upd]; rw [if_neg (by omega), if_neg (by omega)])]
      have h1 : swpF d i j i = d j := by simp only [swpF, upd]; rw [if_neg e, if_pos trivial]
      have h2 : swpF d i j j = d i := by simp only [swpF, upd]; rw [if_pos trivial]
      rw [h1, h2]
      have p1 : ∀ (x y : Tag α) (l : List (Tag α)), (x :: (l ++ [y])).Perm (y :: (l ++ [x])) := fun x y l =>
        ((List.Perm.cons x (List.perm_append_comm (l₁ := l) (l₂ := [y]))).trans (by simpa using List.Perm.swap y x l)).trans (List.Perm.cons y (List.perm_append_comm (l₁ := [x]) (l₂ := l)))
      exact p1 _ _ _
theorem swap_perm' (d : Nat → Tag α) (i j : Nat) (hij : j ≤ i) : PermOn j (i + 1) d (swpF d i j) := by
  have : swpF d i j = swpF d j i := by
    funext k
    simp only [swpF, upd]
    split <;> split <;> simp_all
  rw [this]
  exact swap_perm d j i hij

/-- All the tags at the places a .. m-1 are smaller than those at m .. b-1. -/
def TagSep (d : Nat → Tag α) (a m b : Nat) : Prop := ∀ i j, a ≤ i → i < m → m ≤ j → j < b → (d i).2 < (d j).2

/-! ### The insertion sort -/
/-- The state of the inner loop: places a .. i are in order but for place j, whose element is smaller than those behind it and younger than those ahead of it. -/
structure InsAt (c : α → α → Int) (d0 d : Nat → Tag α) (a i j : Nat) : Prop where
  perm : PermOn a (i + 1) d0 d
  rest : ∀ p q, a ≤ p → p < q → q ≤ i → p ≠ j → q ≠ j → lexLt c (d p) (d q)
  behind : ∀ q, j < q → q ≤ i → lexLt c (d j) (d q)
  young : ∀ p, a ≤ p → p < j → (d p).2 < (d j).2
theorem InsAt.start {d0 d : Nat → Tag α} {a i : Nat} (hp : PermOn a (i + 1) d0 d) (hs : SortedOn c d a i) (hy : ∀ p, a ≤ p → p < i → (d p).2 < (d i).2) : InsAt c d0 d a i i :=
  ⟨hp, fun p q h1 h2 h3 _ h5 => hs p q h1 h2 (by omega), fun q h1 h2 => by omega, hy⟩
theorem InsAt.stop (hc : IsCmp c) {d0 d : Nat → Tag α} {a i j : Nat} (h : InsAt c d0 d a i j) (hj : j ≤ i) (hs : j ≤ a ∨ ¬ c (d j).1 (d (j - 1)).1 < 0) : SortedOn c d a (i + 1) := by
  intro p q h1 h2 h3
  by_cases e1 : p = j
  · subst e1; exact h.behind q h2 (by omega)
  · by_cases e2 : q = j
    · subst e2
      rcases hs with hs | hs
      · omega
      · have hlast : lexLt c (d (q - 1)) (d q) := by
          have := hc.anti (d q).1 (d (q - 1)).1
          have := h.young (q - 1) (by omega) (by omega)
          unfold lexLt
          omega
        by_cases e3 : p = q - 1
        · subst e3; exact hlast
        · exact lexLt_trans hc (h.rest p (q - 1) h1 (by omega) (by omega) (by omega) (by omega)) hlast
    · exact h.rest p q h1 h2 (by omega) e1 e2
theorem InsAt.step {d0 d : Nat → Tag α} {a i j : Nat} (h : InsAt c d0 d a i j) (hj : j ≤ i) (haj : a < j) (hs : c (d j).1 (d (j - 1)).1 < 0) : InsAt c d0 (swpF d j (j - 1)) a i (j - 1) := by
  have h1 : swpF d j (j - 1) (j - 1) = d j := by simp only [swpF, upd]; simp
  have h2 : swpF d j (j - 1) j = d (j - 1) := by simp only [swpF, upd]; rw [if_neg (by omega), if_pos trivial]
  have h3 : ∀ k, k ≠ j → k ≠ j - 1 → swpF d j (j - 1) k = d k := fun k a b => by simp only [swpF, upd]; rw [if_neg b, if_neg a]
  refine ⟨h.perm.trans ((swap_perm' d j (j - 1) (by omega)).wider (by omega) (by omega) (by omega)), ?_, ?_, ?_⟩
  · intro p q p1 p2 p3 p4 p5
    by_cases e1 : p = j
    · subst e1
      rw [h2, h3 q (by omega) (by omega)]
      exact h.rest (p - 1) q (by omega) (by omega) p3 (by omega) (by omega)
    · by_cases e2 : q = j
      · subst e2
        rw [h2, h3 p (by omega) (by omega)]
        exact h.rest p (q - 1) p1 (by omega) (by omega) (by omega) (by omega)
      · rw [h3 p e1 p4, h3 q e2 p5]
        exact h.rest p q p1 p2 p3 e1 e2
  · intro q q1 q2
    rw [h1]
    by_cases e : q = j
    · subst e; rw [h2]; exact Or.inl hs
    · rw [h3 q e (by omega)]; exact h.behind q (by omega) q2
  · intro p p1 p2
    rw [h1, h3 p (by omega) (by omega)]
    exact h.young p p1 (by omega)

/-! ### Merging -/
/-- Two runs in order, the second younger; merged they are in order. -/
structure Merge (c : α → α → Int) (d : Nat → Tag α) (a m b : Nat) : Prop where
  left : SortedOn c d a m
  right : SortedOn c d m b
  tags : TagSep d a m b
structure Merged (c : α → α → Int) (d d' : Nat → Tag α) (a b : Nat) : Prop where
  perm : PermOn a b d d'
  sorted : SortedOn c d' a b

/-- What a right element that is not before a left one says. -/
theorem Merge.le (hc : IsCmp c) {d : Nat → Tag α} {a m b i j : Nat} (h : Merge c d a m b) (h1 : a ≤ i) (h2 : i < m) (h3 : m ≤ j) (h4 : j < b) (hs : ¬ c (d j).1 (d i).1 < 0) : lexLt c (d i) (d j) := by
  have := hc.anti (d j).1 (d i).1
  have := h.tags i j h1 h2 h3 h4
  unfold lexLt
  omega

theorem Merge.congr {d d' : Nat → Tag α} {a m b : Nat} (h : Merge c d a m b) (he : ∀ k, a ≤ k → k < b → d' k = d k) (_ham : a ≤ m) (hmb : m ≤ b) : Merge c d' a m b := by
  refine ⟨fun i j x1 x2 x3 => ?_, fun i j x1 x2 x3 => ?_, fun i j x1 x2 x3 x4 => ?_⟩
  · rw [he i x1 (by omega), he j (by omega) (by omega)]; exact h.left i j x1 x2 x3
  · rw [he i (by omega) (by omega), he j (by omega) x3]; exact h.right i j x1 x2 x3
  · rw [he i x1 (by omega), he j (by omega) x4]; exact h.tags i j x1 x2 x3 x4
/-! ### Moving one element; exchanging blocks; rotating -/
end Go.Proofs.YthcabnfcgjnlnaaGreatDoor.Srt
