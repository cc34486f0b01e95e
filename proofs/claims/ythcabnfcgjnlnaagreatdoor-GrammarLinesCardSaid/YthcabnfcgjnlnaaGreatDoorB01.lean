import Derived.Shelf.Unicode.ValidAny
import Derived.Shelf.Strings.Builder1
import Derived.Shelf.Strings.Builder2
import Derived.Shelf.Strings.OnBuilder
import Derived.Shelf.Small.Wraps
import Derived.Shelf.Strings.BuilderF
import Derived.Shelf.Strings.BuilderK
import Derived.Shelf.Strings.Builder2Cap
import Derived.Shelf.Strings.Prefix
import Derived.Shelf.Bits.Mul64
import Derived.Shelf.Strings.Repeat
import Derived.Shelf.Strings.BuilderCap
import Derived.Shelf.Slices.Turned
import Derived.Ground.Names2Prog
import Derived.Shelf.Slices.ReverseS
import Derived.Shelf.Slices.Clone
import Derived.Shelf.Slices.SearchI
import Derived.Shelf.Slices.Cells
import Derived.Ground.SlgnProg
import Derived.Shelf.SlicesE.Clone
import Derived.Test.YthcabnfcgjnlnaaGreatDoorProg
import Derived.Shelf.Strings.Trim
import Derived.Below
import Derived.WalkKit
import Derived.WalkSpells
import Derived.WalkLawsBesides
import Derived.Laws.OwnMore
import Derived.Deep.AppendLies
import Derived.Deep.Draws
import Derived.Maps.AppendAt
import Derived.Lib.Hide
import Derived.Deep.QuietTactic
import Derived.BigQuiet
import Derived.Lib.Strings
import Derived.Outline
import Derived.Deep.MidRow
set_option linter.unusedVariables false
set_option linter.unusedSimpArgs false
namespace Go.Proofs.YthcabnfcgjnlnaaGreatDoor
open Go Go.RowKit
theorem exF (f : Nat → Value) : ∃ g : Nat → Value, g = f := ⟨f, rfl⟩
theorem range7 {w : World} {b : Nat} {a0 a1 a2 a3 a4 a5 a6 : Value} (h : w.rangeAt b 0 [a0, a1, a2, a3, a4, a5, a6]) : w.cell? ⟨b, 0, none⟩ = some a0 ∧ w.cell? ⟨b, 1, none⟩ = some a1 ∧ w.cell? ⟨b, 2, none⟩ = some a2 ∧ w.cell? ⟨b, 3, none⟩ = some a3 ∧ w.cell? ⟨b, 4, none⟩ = some a4 ∧ w.cell? ⟨b, 5, none⟩ = some a5 ∧ w.cell? ⟨b, 6, none⟩ = some a6 :=
 ⟨h 0 _ rfl, h 1 _ rfl, h 2 _ rfl, h 3 _ rfl, h 4 _ rfl, h 5 _ rfl, h 6 _ rfl⟩
theorem pS {α : Type} : (∀ (l : List α) (i : Nat) (a : α), l.toArray.setIfInBounds i a = (l.set i a).toArray) ∧ (∀ (a b : α) (l : List α), (a :: l).set 0 b = b :: l) ∧ (∀ (a b : α) (l : List α) (n : Nat), (a :: l).set (n + 1) b = a :: l.set n b) :=
 ⟨fun _ _ _ => List.setIfInBounds_toArray _ _ _, fun _ _ _ => List.set_cons_zero, fun _ _ _ _ => List.set_cons_succ⟩
theorem bR {B : Nat} {w : World} : Below B w w := Below.refl _ _
theorem hI {p : Prop} (h : p) : Hid p := Lib.hid h
end Go.Proofs.YthcabnfcgjnlnaaGreatDoor
namespace Go.Proofs
open Go.Shelf
def Tryz.lays156_ren : Go.Shelf.Ren := ⟨fun | 156 => 39 | 165 => 63 | 166 => 64 | 169 => 65 | 240 => 92 | 241 => 93 | 276 => 117 | 277 => 118 | n => n, fun | 31 => 45 | 9 => 9 | 3 => 3 | 4 => 4 | 0 => 0 | 20 => 20 | 72 => 96 | 76 => 100 | 70 => 93 | 37 => 94 | 75 => 99 | 127 => 123 | 164 => 147 | 5 => 5 | 80 => 102 | n => n, fun | n => n⟩
theorem Tryz.lays156 : Go.Proofs.Lays.n156 Tryz.prog Tryz.lays156_ren := {
 mixed := by kernel_rfl
 f156 := Tryz.func39.trans (congrArg some (by kernel_rfl))
 f165 := Tryz.func63.trans (congrArg some (by kernel_rfl))
 f166 := Tryz.func64.trans (congrArg some (by kernel_rfl))
 f169 := Tryz.func65.trans (congrArg some (by kernel_rfl))
 f240 := Tryz.func92.trans (congrArg some (by kernel_rfl))
 f241 := Tryz.func93.trans (congrArg some (by kernel_rfl))
 f276 := Tryz.func117.trans (congrArg some (by kernel_rfl))
 f277 := Tryz.func118.trans (congrArg some (by kernel_rfl))
 t0 := Tryz.underlying0
 a0 := Tryz.isAgg0
 z0 := Tryz.sizeOf0
 v0 := Tryz.zeroValue0
 t3 := Tryz.underlying3
 a3 := Tryz.isAgg3
 z3 := Tryz.sizeOf3
 v3 := Tryz.zeroValue3
 t4 := Tryz.underlying4
 a4 := Tryz.isAgg4
 z4 := Tryz.sizeOf4
 v4 := Tryz.zeroValue4
 t9 := Tryz.underlying9
 a9 := Tryz.isAgg9
 z9 := Tryz.sizeOf9
 v9 := Tryz.zeroValue9
 t20 := Tryz.underlying20
 a20 := Tryz.isAgg20
 z20 := Tryz.sizeOf20
 v20 := Tryz.zeroValue20
 t31 := Tryz.underlying45
 a31 := Tryz.isAgg45
 z31 := Tryz.sizeOf45
 v31 := Tryz.zeroValue45
 t37 := Tryz.underlying94
 a37 := Tryz.isAgg94
 z37 := Tryz.sizeOf94
 v37 := Tryz.zeroValue94
 t70 := Tryz.underlying93
 a70 := Tryz.isAgg93
 z70 := Tryz.sizeOf93
 v70 := Tryz.zeroValue93
 t72 := Tryz.underlying96
 a72 := Tryz.isAgg96
 z72 := Tryz.sizeOf96
 v72 := Tryz.zeroValue96
 t75 := Tryz.underlying99
 a75 := Tryz.isAgg99
 z75 := Tryz.sizeOf99
 v75 := Tryz.zeroValue99
 t76 := Tryz.underlying100
 a76 := Tryz.isAgg100
 z76 := Tryz.sizeOf100
 v76 := Tryz.zeroValue100
 t127 := Tryz.underlying123
 a127 := Tryz.isAgg123
 z127 := Tryz.sizeOf123
 v127 := Tryz.zeroValue123
 t164 := Tryz.underlying147
 a164 := Tryz.isAgg147
 z164 := Tryz.sizeOf147
 v164 := Tryz.zeroValue147 }
theorem Tryz.Builder_Extra_156 : Builder.Extra Tryz.prog Tryz.lays156_ren := {
 sizeBuilder := by kernel_rfl
 liesBuilder := by kernel_rfl
 t5 := Tryz.underlying5
 a5 := Tryz.isAgg5
 z5 := Tryz.sizeOf5
 v5 := Tryz.zeroValue5
 infoByte := by kernel_rfl
 cellsByte := by kernel_rfl
 sizeByte := by kernel_rfl
 neB5 := by decide }
open Go.RowKit in
theorem Tryz.strings_Join_none (a : Option Addr) (c : Nat) (sep : ByteArray) (w : World) :
  Calls Tryz.prog 39 #[.slice a 0 c, .string sep] w fun e w' => e = .returned (.string ⟨#[]⟩) /\ w' = w := Any.strings_Join_none Tryz.lays156 Tryz.Builder_Extra_156 a c sep w
open Go.RowKit in
theorem Tryz.strings_Join (bk o c : Nat) (xs : List ByteArray) (sep : ByteArray) (w : World) (hcells : ∀ (j : Nat) x, xs[j]? = some x -> w.cell? ⟨bk, o + j, none⟩ = some (.string x)) (hbk : bk < w.heap.size) (hN : xs.length <= 140737488355328) (hcap : xs.length <= c) (hlen : (Lib.join (xs.map (·.data.toList)) sep.data.toList).length <= 140737488355328) :
  Calls Tryz.prog 39 #[.slice (some ⟨bk, o, none⟩) xs.length c, .string sep] w fun e w' => e = .returned (.string ⟨(Lib.join (xs.map (·.data.toList)) sep.data.toList).toArray⟩) /\ Below w.heap.size w w' := Any.strings_Join Tryz.lays156 Tryz.Builder_Extra_156 bk o c xs sep w hcells hbk hN hcap hlen
def Tryz.lays122_ren : Go.Shelf.Ren := ⟨fun | 122 => 116 | 215 => 135 | n => n, fun | 3 => 3 | 4 => 4 | n => n, fun | n => n⟩
theorem Tryz.lays122 : Go.Proofs.Lays.n122 Tryz.prog Tryz.lays122_ren := {
 mixed := by kernel_rfl
 f122 := Tryz.func116.trans (congrArg some (by kernel_rfl))
 f215 := Tryz.func135.trans (congrArg some (by kernel_rfl))
 t3 := Tryz.underlying3
 a3 := Tryz.isAgg3
 z3 := Tryz.sizeOf3
 v3 := Tryz.zeroValue3
 t4 := Tryz.underlying4
 a4 := Tryz.isAgg4
 z4 := Tryz.sizeOf4
 v4 := Tryz.zeroValue4 }
open Go.RowKit in
theorem Tryz.cmp_Compare_int (x y : Int) (w : World) :
  Calls Tryz.prog 116 #[.int .i64 x, .int .i64 y] w fun e w' => e = .returned (.int .i64 (Lib.compareInt x y)) /\ w' = w := Any.cmp_Compare_int Tryz.lays122 x y w
open Go.RowKit Go.Lib in
def Tryz.lays105_ren : Go.Shelf.Ren := ⟨fun | 105 => 121 | 212 => 139 | 99 => 140 | 165 => 63 | 166 => 64 | 170 => 141 | 169 => 65 | 263 => 156 | 264 => 157 | 206 => 158 | 240 => 92 | 241 => 93 | 276 => 117 | 277 => 118 | n => n, fun | 9 => 9 | 3 => 3 | 4 => 4 | 20 => 20 | 0 => 0 | 46 => 170 | 109 => 171 | 5 => 5 | 72 => 96 | 76 => 100 | 51 => 191 | 146 => 192 | 53 => 180 | 148 => 194 | 70 => 93 | 37 => 94 | 75 => 99 | 127 => 123 | 164 => 147 | 80 => 102 | n => n, fun | n => n⟩
theorem Tryz.lays105 : Go.Proofs.Lays.n105 Tryz.prog Tryz.lays105_ren := {
 mixed := by kernel_rfl
 f99 := Tryz.func140.trans (congrArg some (by kernel_rfl))
 f105 := Tryz.func121.trans (congrArg some (by kernel_rfl))
 f165 := Tryz.func63.trans (congrArg some (by kernel_rfl))
 f166 := Tryz.func64.trans (congrArg some (by kernel_rfl))
 f169 := Tryz.func65.trans (congrArg some (by kernel_rfl))
 f170 := Tryz.func141.trans (congrArg some (by kernel_rfl))
 f206 := Tryz.func158.trans (congrArg some (by kernel_rfl))
 f212 := Tryz.func139.trans (congrArg some (by kernel_rfl))
 f240 := Tryz.func92.trans (congrArg some (by kernel_rfl))
 f241 := Tryz.func93.trans (congrArg some (by kernel_rfl))
 f263 := Tryz.func156.trans (congrArg some (by kernel_rfl))
 f264 := Tryz.func157.trans (congrArg some (by kernel_rfl))
 f276 := Tryz.func117.trans (congrArg some (by kernel_rfl))
 f277 := Tryz.func118.trans (congrArg some (by kernel_rfl))
 t0 := Tryz.underlying0
 a0 := Tryz.isAgg0
 z0 := Tryz.sizeOf0
 v0 := Tryz.zeroValue0
 t3 := Tryz.underlying3
 a3 := Tryz.isAgg3
 z3 := Tryz.sizeOf3
 v3 := Tryz.zeroValue3
 t4 := Tryz.underlying4
 a4 := Tryz.isAgg4
 z4 := Tryz.sizeOf4
 v4 := Tryz.zeroValue4
 t5 := Tryz.underlying5
 a5 := Tryz.isAgg5
 z5 := Tryz.sizeOf5
 v5 := Tryz.zeroValue5
 t9 := Tryz.underlying9
 a9 := Tryz.isAgg9
 z9 := Tryz.sizeOf9
 v9 := Tryz.zeroValue9
 t20 := Tryz.underlying20
 a20 := Tryz.isAgg20
 z20 := Tryz.sizeOf20
 v20 := Tryz.zeroValue20
 t37 := Tryz.underlying94
 a37 := Tryz.isAgg94
 z37 := Tryz.sizeOf94
 v37 := Tryz.zeroValue94
 t46 := Tryz.underlying170
 a46 := Tryz.isAgg170
 z46 := Tryz.sizeOf170
 v46 := Tryz.zeroValue170
 t51 := Tryz.underlying191
 a51 := Tryz.isAgg191
 z51 := Tryz.sizeOf191
 v51 := Tryz.zeroValue191
 t53 := Tryz.underlying180
 a53 := Tryz.isAgg180
 z53 := Tryz.sizeOf180
 v53 := Tryz.zeroValue180
 t70 := Tryz.underlying93
 a70 := Tryz.isAgg93
 z70 := Tryz.sizeOf93
 v70 := Tryz.zeroValue93
 t72 := Tryz.underlying96
 a72 := Tryz.isAgg96
 z72 := Tryz.sizeOf96
 v72 := Tryz.zeroValue96
 t75 := Tryz.underlying99
 a75 := Tryz.isAgg99
 z75 := Tryz.sizeOf99
 v75 := Tryz.zeroValue99
 t76 := Tryz.underlying100
 a76 := Tryz.isAgg100
 z76 := Tryz.sizeOf100
 v76 := Tryz.zeroValue100
 t109 := Tryz.underlying171
 a109 := Tryz.isAgg171
 z109 := Tryz.sizeOf171
 v109 := Tryz.zeroValue171
 t127 := Tryz.underlying123
 a127 := Tryz.isAgg123
 z127 := Tryz.sizeOf123
 v127 := Tryz.zeroValue123
 t146 := Tryz.underlying192
 a146 := Tryz.isAgg192
 z146 := Tryz.sizeOf192
 v146 := Tryz.zeroValue192
 t148 := Tryz.underlying194
 a148 := Tryz.isAgg194
 z148 := Tryz.sizeOf194
 v148 := Tryz.zeroValue194
 t164 := Tryz.underlying147
 a164 := Tryz.isAgg147
 z164 := Tryz.sizeOf147
 v164 := Tryz.zeroValue147 }
theorem Tryz.Builder_Extra_105 : Builder.Extra Tryz.prog Tryz.lays105_ren := {
 sizeBuilder := by kernel_rfl
 liesBuilder := by kernel_rfl
 t5 := Tryz.underlying5
 a5 := Tryz.isAgg5
 z5 := Tryz.sizeOf5
 v5 := Tryz.zeroValue5
 infoByte := by kernel_rfl
 cellsByte := by kernel_rfl
 sizeByte := by kernel_rfl
 neB5 := by decide }
open Go.RowKit Go.Lib in
open Go.RowKit Go.Lib in
open Go.RowKit Go.Lib in
open Go.RowKit Go.Lib in
open Go.RowKit Go.Lib in
open Go.RowKit Go.Lib in
open Go.RowKit Go.Lib in
theorem Tryz.strings_Repeat (s : ByteArray) (c : Nat) (w : World) (hc : c <= 9223372036854775807) (hlen : s.size * c <= 140737488355328) :
  Calls Tryz.prog 121 #[.string s, .int .i64 c] w fun e w' => e = .returned (.string ⟨(Lib.repeatL s.data.toList c).toArray⟩) /\ Below w.heap.size w w' := Any.strings_Repeat Tryz.lays105 Tryz.Builder_Extra_105 s c w hc hlen
open Go.Lib in
open Go.Lib in
open Go.RowKit Go.Lib Go.Sort in
open Go.RowKit Go.Lib Go.Sort in
open Go.RowKit Go.Lib Go.Sort in
open Go.RowKit Go.Lib in
open Go.RowKit Go.Lib in
open Go.RowKit Go.Lib in
open Go.RowKit Go.Lib Go.Sort in
def Tryz.laysValid_ren : Go.Shelf.Ren := ⟨fun | 196 => 136 | 259 => 154 | n => n, fun | 9 => 9 | 4 => 4 | 3 => 3 | 5 => 5 | 12 => 12 | 119 => 186 | 0 => 0 | 46 => 170 | 139 => 189 | 138 => 188 | 53 => 180 | n => n, fun | 3 => 1 | 4 => 2 | n => n⟩
theorem Tryz.laysValid : Go.Proofs.Lays.n196 Tryz.prog Tryz.laysValid_ren := {
 mixed := by kernel_rfl
 f196 := Tryz.func136.trans (congrArg some (by kernel_rfl))
 f259 := Tryz.func154.trans (congrArg some (by kernel_rfl))
 t0 := Tryz.underlying0
 a0 := Tryz.isAgg0
 z0 := Tryz.sizeOf0
 v0 := Tryz.zeroValue0
 t3 := Tryz.underlying3
 a3 := Tryz.isAgg3
 z3 := Tryz.sizeOf3
 v3 := Tryz.zeroValue3
 t4 := Tryz.underlying4
 a4 := Tryz.isAgg4
 z4 := Tryz.sizeOf4
 v4 := Tryz.zeroValue4
 t5 := Tryz.underlying5
 a5 := Tryz.isAgg5
 z5 := Tryz.sizeOf5
 v5 := Tryz.zeroValue5
 t9 := Tryz.underlying9
 a9 := Tryz.isAgg9
 z9 := Tryz.sizeOf9
 v9 := Tryz.zeroValue9
 t12 := Tryz.underlying12
 a12 := Tryz.isAgg12
 z12 := Tryz.sizeOf12
 v12 := Tryz.zeroValue12
 t46 := Tryz.underlying170
 a46 := Tryz.isAgg170
 z46 := Tryz.sizeOf170
 v46 := Tryz.zeroValue170
 t53 := Tryz.underlying180
 a53 := Tryz.isAgg180
 z53 := Tryz.sizeOf180
 v53 := Tryz.zeroValue180
 t119 := Tryz.underlying186
 a119 := Tryz.isAgg186
 z119 := Tryz.sizeOf186
 t138 := Tryz.underlying188
 a138 := Tryz.isAgg188
 z138 := Tryz.sizeOf188
 v138 := Tryz.zeroValue188
 t139 := Tryz.underlying189
 a139 := Tryz.isAgg189
 z139 := Tryz.sizeOf189
 v139 := Tryz.zeroValue189
 g3 := by kernel_rfl
 g4 := by kernel_rfl }
def Tryz.lays169_ren : Go.Shelf.Ren := ⟨fun | 169 => 65 | n => n, fun | 70 => 93 | 9 => 9 | 0 => 0 | 72 => 96 | 37 => 94 | 127 => 123 | 3 => 3 | 5 => 5 | n => n, fun | n => n⟩
theorem Tryz.lays169 : Go.Proofs.Lays.n169 Tryz.prog Tryz.lays169_ren := {
 mixed := by kernel_rfl
 f169 := Tryz.func65.trans (congrArg some (by kernel_rfl))
 t0 := Tryz.underlying0
 a0 := Tryz.isAgg0
 z0 := Tryz.sizeOf0
 v0 := Tryz.zeroValue0
 t3 := Tryz.underlying3
 a3 := Tryz.isAgg3
 z3 := Tryz.sizeOf3
 v3 := Tryz.zeroValue3
 t9 := Tryz.underlying9
 a9 := Tryz.isAgg9
 z9 := Tryz.sizeOf9
 v9 := Tryz.zeroValue9
 t37 := Tryz.underlying94
 a37 := Tryz.isAgg94
 z37 := Tryz.sizeOf94
 v37 := Tryz.zeroValue94
 t70 := Tryz.underlying93
 a70 := Tryz.isAgg93
 z70 := Tryz.sizeOf93
 v70 := Tryz.zeroValue93
 t72 := Tryz.underlying96
 a72 := Tryz.isAgg96
 z72 := Tryz.sizeOf96
 v72 := Tryz.zeroValue96
 t127 := Tryz.underlying123
 a127 := Tryz.isAgg123
 z127 := Tryz.sizeOf123
 v127 := Tryz.zeroValue123 }
theorem Tryz.Builder_Extra_169 : Builder.Extra Tryz.prog Tryz.lays169_ren := {
 sizeBuilder := by kernel_rfl
 liesBuilder := by kernel_rfl
 t5 := Tryz.underlying5
 a5 := Tryz.isAgg5
 z5 := Tryz.sizeOf5
 v5 := Tryz.zeroValue5
 infoByte := by kernel_rfl
 cellsByte := by kernel_rfl
 sizeByte := by kernel_rfl
 neB5 := by decide }
open Go.RowKit in
open Go.RowKit in
open Go.RowKit in
theorem Tryz.Builder_String_any (B b : Nat) (l : List UInt8) (w : World) (h : Lib.IsBuilder 96 5 B b (Lib.byteCells l) w) (hBw : B <= w.heap.size) :
  Calls Tryz.prog 65 #[.pointer (some ⟨b, 0, none⟩)] w fun e w' => e = .returned (.string ⟨l.toArray⟩) /\ Below B w w' := Any.Builder_String_any Tryz.lays169 Tryz.Builder_Extra_169 B b l w h hBw
def Tryz.lays162_ren : Go.Shelf.Ren := ⟨fun | 162 => 97 | 232 => 122 | 227 => 123 | 234 => 124 | 236 => 125 | 228 => 142 | 271 => 143 | 151 => 144 | 120 => 159 | 197 => 160 | 152 => 161 | 260 => 168 | 137 => 169 | 119 => 170 | 224 => 171 | 225 => 172 | 217 => 175 | 266 => 176 | n => n, fun | 9 => 9 | 4 => 4 | 3 => 3 | 5 => 5 | 117 => 154 | 116 => 153 | 0 => 0 | 124 => 157 | 21 => 21 | 105 => 176 | 46 => 170 | 119 => 186 | 139 => 189 | 138 => 188 | n => n, fun | 3 => 1 | 4 => 2 | n => n⟩
theorem Tryz.lays162 : Go.Proofs.Lays.n162 Tryz.prog Tryz.lays162_ren := {
 mixed := by kernel_rfl
 f119 := Tryz.func170.trans (congrArg some (by kernel_rfl))
 f120 := Tryz.func159.trans (congrArg some (by kernel_rfl))
 f137 := Tryz.func169.trans (congrArg some (by kernel_rfl))
 f151 := Tryz.func144.trans (congrArg some (by kernel_rfl))
 f152 := Tryz.func161.trans (congrArg some (by kernel_rfl))
 f162 := Tryz.func97.trans (congrArg some (by kernel_rfl))
 f197 := Tryz.func160.trans (congrArg some (by kernel_rfl))
 f217 := Tryz.func175.trans (congrArg some (by kernel_rfl))
 f224 := Tryz.func171.trans (congrArg some (by kernel_rfl))
 f225 := Tryz.func172.trans (congrArg some (by kernel_rfl))
 f227 := Tryz.func123.trans (congrArg some (by kernel_rfl))
 f228 := Tryz.func142.trans (congrArg some (by kernel_rfl))
 f232 := Tryz.func122.trans (congrArg some (by kernel_rfl))
 f234 := Tryz.func124.trans (congrArg some (by kernel_rfl))
 f236 := Tryz.func125.trans (congrArg some (by kernel_rfl))
 f260 := Tryz.func168.trans (congrArg some (by kernel_rfl))
 f266 := Tryz.func176.trans (congrArg some (by kernel_rfl))
 f271 := Tryz.func143.trans (congrArg some (by kernel_rfl))
 t0 := Tryz.underlying0
 a0 := Tryz.isAgg0
 z0 := Tryz.sizeOf0
 v0 := Tryz.zeroValue0
 t3 := Tryz.underlying3
 a3 := Tryz.isAgg3
 z3 := Tryz.sizeOf3
 v3 := Tryz.zeroValue3
 t4 := Tryz.underlying4
 a4 := Tryz.isAgg4
 z4 := Tryz.sizeOf4
 v4 := Tryz.zeroValue4
 t5 := Tryz.underlying5
 a5 := Tryz.isAgg5
 z5 := Tryz.sizeOf5
 v5 := Tryz.zeroValue5
 t9 := Tryz.underlying9
 a9 := Tryz.isAgg9
 z9 := Tryz.sizeOf9
 v9 := Tryz.zeroValue9
 t21 := Tryz.underlying21
 a21 := Tryz.isAgg21
 z21 := Tryz.sizeOf21
 v21 := Tryz.zeroValue21
 t46 := Tryz.underlying170
 a46 := Tryz.isAgg170
 z46 := Tryz.sizeOf170
 v46 := Tryz.zeroValue170
 t105 := Tryz.underlying176
 a105 := Tryz.isAgg176
 z105 := Tryz.sizeOf176
 v105 := Tryz.zeroValue176
 t116 := Tryz.underlying153
 a116 := Tryz.isAgg153
 z116 := Tryz.sizeOf153
 t117 := Tryz.underlying154
 a117 := Tryz.isAgg154
 z117 := Tryz.sizeOf154
 v117 := Tryz.zeroValue154
 t119 := Tryz.underlying186
 a119 := Tryz.isAgg186
 z119 := Tryz.sizeOf186
 t124 := Tryz.underlying157
 a124 := Tryz.isAgg157
 z124 := Tryz.sizeOf157
 v124 := Tryz.zeroValue157
 t138 := Tryz.underlying188
 a138 := Tryz.isAgg188
 z138 := Tryz.sizeOf188
 v138 := Tryz.zeroValue188
 t139 := Tryz.underlying189
 a139 := Tryz.isAgg189
 z139 := Tryz.sizeOf189
 v139 := Tryz.zeroValue189
 g3 := by kernel_rfl
 g4 := by kernel_rfl }
open Go.RowKit in
theorem Tryz.strings_TrimRight_one (s : ByteArray) (c : UInt8) (hc : c.toNat < 128) (w : World) (hs : s.size <= 9223372036854775807) :
  Calls Tryz.prog 97 #[.string s, .string ⟨#[c]⟩] w fun e w' => e = .returned (.string ⟨(Lib.trimRightB s.data.toList c).toArray⟩) /\ w' = w := Any.strings_TrimRight_one Tryz.lays162 s c hc w hs
def Tryz.lays167_ren : Go.Shelf.Ren := ⟨fun | 167 => 95 | 240 => 92 | 276 => 117 | n => n, fun | 0 => 0 | 4 => 4 | 5 => 5 | 9 => 9 | 20 => 20 | 37 => 94 | 70 => 93 | 72 => 96 | 75 => 99 | 164 => 147 | 80 => 102 | n => n, fun | n => n⟩
theorem Tryz.lays167 : Go.Proofs.Lays.n167 Tryz.prog Tryz.lays167_ren := {
 mixed := by kernel_rfl
 f167 := Tryz.func95.trans (congrArg some (by kernel_rfl))
 f240 := Tryz.func92.trans (congrArg some (by kernel_rfl))
 f276 := Tryz.func117.trans (congrArg some (by kernel_rfl))
 t0 := Tryz.underlying0
 a0 := Tryz.isAgg0
 z0 := Tryz.sizeOf0
 v0 := Tryz.zeroValue0
 t4 := Tryz.underlying4
 a4 := Tryz.isAgg4
 z4 := Tryz.sizeOf4
 v4 := Tryz.zeroValue4
 t5 := Tryz.underlying5
 a5 := Tryz.isAgg5
 z5 := Tryz.sizeOf5
 v5 := Tryz.zeroValue5
 t9 := Tryz.underlying9
 a9 := Tryz.isAgg9
 z9 := Tryz.sizeOf9
 v9 := Tryz.zeroValue9
 t20 := Tryz.underlying20
 a20 := Tryz.isAgg20
 z20 := Tryz.sizeOf20
 v20 := Tryz.zeroValue20
 t37 := Tryz.underlying94
 a37 := Tryz.isAgg94
 z37 := Tryz.sizeOf94
 v37 := Tryz.zeroValue94
 t70 := Tryz.underlying93
 a70 := Tryz.isAgg93
 z70 := Tryz.sizeOf93
 v70 := Tryz.zeroValue93
 t72 := Tryz.underlying96
 a72 := Tryz.isAgg96
 z72 := Tryz.sizeOf96
 v72 := Tryz.zeroValue96
 t75 := Tryz.underlying99
 a75 := Tryz.isAgg99
 z75 := Tryz.sizeOf99
 v75 := Tryz.zeroValue99
 t164 := Tryz.underlying147
 a164 := Tryz.isAgg147
 z164 := Tryz.sizeOf147
 v164 := Tryz.zeroValue147 }
theorem Tryz.Builder_Extra_167 : Builder.Extra Tryz.prog Tryz.lays167_ren := {
 sizeBuilder := by kernel_rfl
 liesBuilder := by kernel_rfl
 t5 := Tryz.underlying5
 a5 := Tryz.isAgg5
 z5 := Tryz.sizeOf5
 v5 := Tryz.zeroValue5
 infoByte := by kernel_rfl
 cellsByte := by kernel_rfl
 sizeByte := by kernel_rfl
 neB5 := by decide }
open Go.RowKit in
theorem Tryz.Builder_WriteByte (B b : Nat) (bs : List Value) (c : Int) (w : World) (h : Lib.IsBuilder 96 5 B b bs w) (hlen : bs.length + 1 <= 140737488355328) (hBw : B <= w.heap.size) :
  Calls Tryz.prog 95 #[.pointer (some ⟨b, 0, none⟩), .int .u8 c] w fun e w' => e = .returned .nilIface /\ (Lib.BuilderAt 96 5 B b (.pointer (some ⟨b, 0, none⟩)) (bs ++ [.int .u8 c]) w' /\ Below B w w') := Any.Builder_WriteByte Tryz.lays167 Tryz.Builder_Extra_167 B b bs c w h hlen hBw
open Go.RowKit in
theorem Tryz.Builder_WriteString (B b : Nat) (bs : List Value) (s : ByteArray) (w : World) (h : Lib.IsBuilder 96 5 B b bs w) (hlen : bs.length + s.size <= 140737488355328) (hBw : B <= w.heap.size) :
  Calls Tryz.prog 64 #[.pointer (some ⟨b, 0, none⟩), .string s] w fun e w' => e = .returned (.tuple #[.int .i64 s.size, .nilIface]) /\ (Lib.BuilderAt 96 5 B b (.pointer (some ⟨b, 0, none⟩)) (bs ++ Lib.strCells s) w' /\ Below B w w') := Any.Builder_WriteString { Tryz.lays105 with } Tryz.Builder_Extra_105 B b bs s w h hlen hBw
end Go.Proofs
namespace Go.Proofs.YthcabnfcgjnlnaaGreatDoor.Ru
def scalarB (p : Int) : Bool := decide (0 <= p) && decide (p <= 1114111) && (decide (p < 55296) || decide (57343 < p))
def encI (p : Int) : List Int :=
 if p < 128 then [p]
 else if p < 2048 then [192 + p / 64, 128 + p % 64]
 else if p < 65536 then [224 + p / 4096, 128 + p / 64 % 64, 128 + p % 64]
 else [240 + p / 262144, 128 + p / 4096 % 64, 128 + p / 64 % 64, 128 + p % 64]
def encL (p : Int) : List UInt8 := (encI p).map fun v => UInt8.ofNat v.toNat
def lead (b : Nat) : Nat × Nat := if 240 <= b then (b - 240, 4) else if 224 <= b then (b - 224, 3) else if 192 <= b then (b - 192, 2) else (b, 1)
def cont (p : Nat) (l : List UInt8) : Nat := l.foldl (fun p b => p * 64 + b.toNat % 64) p
def firstL (l : List UInt8) : Option (Nat × Nat) :=
 match l with
 | [] => none
 | b :: t =>
  let n := (lead b.toNat).2
  let p := cont (lead b.toNat).1 (t.take (n - 1))
  if n <= t.length + 1 /\ scalarB p = true /\ encL p = (b :: t).take n then some (p, n) else none
def pointsN : Nat -> List UInt8 -> Option (List Nat)
 | 0, _ => some []
 | f + 1, l =>
  match l with
  | [] => some []
  | b :: t =>
   match firstL (b :: t) with
   | none => none
   | some (p, n) => (pointsN f ((b :: t).drop n)).map (p :: ·)
def points (l : List UInt8) : Option (List Nat) := pointsN l.length l
theorem lead_pos (b : Nat) : 1 <= (lead b).2 /\ (lead b).2 <= 4 := by
 unfold lead; split
 ·simp
 ·split
  ·simp
  ·split <;> simp
theorem firstL_some {l : List UInt8} {p n : Nat} (h : firstL l = some (p, n)) : 1 <= n /\ n <= 4 /\ n <= l.length /\ scalarB p = true /\ encL p = l.take n := by
 unfold firstL at h;split at h
 ·cases h
 ·rename_i b t
  simp only at h;split at h
  ·rename_i hh
   injection h with h
   injection h with h1 h2
   subst h1 h2;obtain ⟨x, y⟩ := lead_pos b.toNat;exact ⟨x, y, by simpa using hh.1, hh.2.1, hh.2.2⟩
  ·cases h
theorem pointsN_enough : ∀ (f g : Nat) (l : List UInt8), l.length <= f -> l.length <= g -> pointsN f l = pointsN g l := by
 intro f;induction f with
 | zero =>
  intro g l hf hg;have : l = [] := List.eq_nil_of_length_eq_zero (by omega);subst this
  cases g <;> simp [pointsN]
 | succ f ih =>
  intro g l hf hg
  cases l with
  | nil => cases g <;> simp [pointsN]
  | cons b t =>
   cases g with
   | zero => simp at hg
   | succ g =>
    simp only [pointsN]
    cases hfst : firstL (b :: t) with
    | none => rfl
    | some pn =>
     obtain ⟨p, n⟩ := pn;have h1 := firstL_some hfst;simp only;rw [ih g _ (by rw [List.length_drop]; omega) (by rw [List.length_drop]; omega)]
theorem points_nil : points [] = some [] := rfl
theorem points_none {l : List UInt8} (hl : l ≠ []) (h : firstL l = none) : points l = none := by
 cases l with
 | nil => exact absurd rfl hl
 | cons b t =>
  show pointsN (t.length + 1) (b :: t) = none;simp only [pointsN, h]
theorem points_some {l : List UInt8} {p n : Nat} (h : firstL l = some (p, n)) : points l = (points (l.drop n)).map (p :: ·) := by
 cases l with
 | nil => simp [firstL] at h
 | cons b t =>
  have h1 := firstL_some h;show pointsN (t.length + 1) (b :: t) = _;simp only [pointsN, h];rw [pointsN_enough t.length ((b :: t).drop n).length _ (by rw [List.length_drop]; simp; omega) (Nat.le_refl _)];rfl
theorem points_length : ∀ (f : Nat) (l : List UInt8) (d : List Nat), l.length <= f -> points l = some d -> d.length <= l.length := by
 intro f;induction f with
 | zero =>
  intro l d hl h;have : l = [] := List.eq_nil_of_length_eq_zero (by omega);subst this;rw [points_nil] at h
  cases h; simp
 | succ f ih =>
  intro l d hl h;by_cases h0 : l = []
  ·subst h0;rw [points_nil] at h
   cases h; simp
  ·cases hf : firstL l with
   | none => rw [points_none h0 hf] at h; cases h
   | some pn =>
    obtain ⟨p, n⟩ := pn;rw [points_some hf] at h;obtain ⟨h1, _, h3, _⟩ := firstL_some hf
    cases hp : points (l.drop n) with
    | none => rw [hp] at h; cases h
    | some d' =>
     rw [hp] at h
     cases h;have := ih (l.drop n) d' (by rw [List.length_drop]; omega) hp;rw [List.length_drop] at this;simp; omega
end Go.Proofs.YthcabnfcgjnlnaaGreatDoor.Ru
namespace Go.Proofs.YthcabnfcgjnlnaaGreatDoor.Col
structure IsCmp {α : Type} (c : α -> α -> Int) : Prop where
 anti : ∀ x y, c y x = - c x y
 trans : ∀ x y z, c x y <= 0 -> c y z <= 0 -> c x z <= 0 /\ (c x z = 0 -> c x y = 0 /\ c y z = 0)
theorem IsCmp.self {α : Type} {c : α -> α -> Int} (h : IsCmp c) (x : α) : c x x = 0 := by have := h.anti x x; omega
theorem IsCmp.comap {α β : Type} {c : α -> α -> Int} (h : IsCmp c) (f : β -> α) : IsCmp (fun x y => c (f x) (f y)) := ⟨fun _ _ => h.anti _ _, fun _ _ _ => h.trans _ _ _⟩
end Go.Proofs.YthcabnfcgjnlnaaGreatDoor.Col
namespace Go.Proofs.YthcabnfcgjnlnaaGreatDoor
section
open Go.RowKit
theorem block_of_add (a : Addr) (n : Nat) : (a.add n).block = a.block := by unfold Addr.add; split <;> rfl
theorem add_of_add (a : Addr) (i j : Nat) : (a.add i).add j = a.add (i + j) := by
 unfold Addr.add;by_cases hi : i = 0 <;> by_cases hj : j = 0 <;> simp [hi, hj, Nat.add_assoc]
def Reads (w : World) (B size : Nat) (A : Option Addr) (n : Nat) (xs : List Value) : Prop :=
 xs.length = n * size /\ (0 < n -> ∃ ad, A = some ad /\ ad.block < B /\ ∀ j u, xs[j]? = some u -> w.cell? (ad.add j) = some u)
section
variable {w w' : World} {B B' size n : Nat} {A : Option Addr} {xs : List Value}
theorem Reads.none_ : Reads w B size A 0 [] := ⟨by simp, fun h => absurd h (by omega)⟩
theorem Reads.at_ {k : Nat} (h : Reads w B 1 A n xs) (hk : k < n) : ∃ ad u, A = some ad /\ ad.block < B /\ xs[k]? = some u /\ w.cell? (ad.add k) = some u := by
 obtain ⟨ad, e, hb, hc⟩ := h.2 (by omega);have hl : k < xs.length := by have := h.1; omega
 exact ⟨ad, xs[k], e, hb, List.getElem?_eq_getElem hl, hc k _ (List.getElem?_eq_getElem hl)⟩
theorem Reads.keep (h : Reads w B size A n xs) (hk : ∀ p : Addr, p.block < B -> w'.cell? p = w.cell? p) : Reads w' B size A n xs :=
 ⟨h.1, fun hn => by
  obtain ⟨ad, e, hb, hc⟩ := h.2 hn;exact ⟨ad, e, hb, fun j u hu => (hk _ (by rw [block_of_add]; exact hb)).trans (hc j u hu)⟩⟩
theorem Reads.more (h : Reads w B size A n xs) (hB : B <= B') : Reads w B' size A n xs :=
 ⟨h.1, fun hn => by
  obtain ⟨ad, e, hb, hc⟩ := h.2 hn;exact ⟨ad, e, by omega, hc⟩⟩
theorem Reads.below (h : Reads w B size A n xs) (hb : Below B w w') : Reads w' B size A n xs := h.keep fun _ hp => hb.cell hp
theorem Reads.drew (h : Reads w B size A n xs) : Reads w.drew B size A n xs := h
theorem Reads.drewN (h : Reads w B size A n xs) (k : Nat) : Reads (w.drewN k) B size A n xs := h
theorem Reads.alloc (h : Reads w B size A n xs) (hB : B <= w.heap.size) (o : Obj) : Reads (w.alloc o) B size A n xs := h.keep fun p hp => World.cell?_alloc_lt w o p (by omega)
theorem Reads.setCell (h : Reads w B size A n xs) {p : Addr} (hB : B <= p.block) (u : Value) : Reads (w.setCell p u) B size A n xs :=
 h.keep fun q hq => World.cell?_setCell_other w p q u (fun e => by subst e; omega)
end
theorem below_drewN {B : Nat} {a w : World} (h : Below B a w) (n : Nat) : Below B a (w.drewN n) := ⟨h.os, h.tape, h.output, h.size, h.block⟩
theorem below_new (w : World) (o : Obj) : Below w.heap.size w (w.alloc o) := bR.alloc (Nat.le_refl _) _
structure SS {α : Type} (enc : α -> Value) (w0 : World) (blk off n : Nat) (d : Nat -> α) (W : World) : Prop where
 os : W.os = w0.os
 tape : W.tape = w0.tape
 output : W.output = w0.output
 size : w0.heap.size <= W.heap.size
 block : ∀ k, k < w0.heap.size -> k ≠ blk -> W.heap[k]? = w0.heap[k]?
 lt : blk < w0.heap.size
 cells : ∀ j, j < n -> W.cell? ⟨blk, off + j, none⟩ = some (enc (d j))
 free : ∀ j, j < n -> W.frozen? ⟨blk, off + j, none⟩ = false
 obj : ∃ c c' e fr, w0.heap[blk]? = some (.cells c e fr) /\ W.heap[blk]? = some (.cells c' e fr) /\ c'.size = c.size /\ ∀ k, (k < off ∨ off + n <= k) -> c'[k]? = c[k]?
section
variable {α : Type} {enc : α → Value} {w0 W W' : World} {blk off n : Nat} {d : Nat → α}
theorem SS.start (hb : blk < w0.heap.size) (hc : ∀ j, j < n -> w0.cell? ⟨blk, off + j, none⟩ = some (enc (d j))) (hf : ∀ j, j < n -> w0.frozen? ⟨blk, off + j, none⟩ = false) (ho : ∃ c e fr, w0.heap[blk]? = some (.cells c e fr)) :
  SS enc w0 blk off n d w0 := by
 obtain ⟨c, e, fr, h⟩ := ho;exact ⟨rfl, rfl, rfl, Nat.le_refl _, fun _ _ _ => rfl, hb, hc, hf, c, c, e, fr, h, h, rfl, fun _ _ => rfl⟩
theorem SS.below (h : SS enc w0 blk off n d W) (hb : Below W.heap.size W W') : SS enc w0 blk off n d W' := by
 have hlt : blk < W.heap.size := Nat.lt_of_lt_of_le h.lt h.size
 refine ⟨hb.os.trans h.os, hb.tape.trans h.tape, hb.output.trans h.output, Nat.le_trans h.size hb.size, fun k hk hn => (hb.block k (Nat.lt_of_lt_of_le hk h.size)).trans (h.block k hk hn), h.lt,
  fun j hj => (hb.cell (p := ⟨blk, off + j, none⟩) hlt).trans (h.cells j hj), fun j hj => (hb.frozen (p := ⟨blk, off + j, none⟩) hlt).trans (h.free j hj), ?_⟩
 obtain ⟨c, c', e, fr, h1, h2, h3, h4⟩ := h.obj;exact ⟨c, c', e, fr, h1, (hb.block blk hlt).trans h2, h3, h4⟩
theorem SS.drewN (h : SS enc w0 blk off n d W) (k : Nat) : SS enc w0 blk off n d (W.drewN k) := h.below (below_drewN bR k)
theorem SS.drew (h : SS enc w0 blk off n d W) : SS enc w0 blk off n d W.drew := h.drewN 1
theorem SS.alloc (h : SS enc w0 blk off n d W) (o : Obj) : SS enc w0 blk off n d (W.alloc o) := h.below (bR.alloc (Nat.le_refl _) o)
def upd (d : Nat -> α) (i : Nat) (x : α) : Nat -> α := fun k => if k = i then x else d k
def swpF (d : Nat -> α) (i j : Nat) : Nat -> α := upd (upd d i (d j)) j (d i)
theorem SS.store (h : SS enc w0 blk off n d W) {i : Nat} (hi : i < n) (x : α) : SS enc w0 blk off n (upd d i x) (W.setCell ⟨blk, off + i, none⟩ (enc x)) := by
 obtain ⟨c, c', e, fr, h1, h2, h3, h4⟩ := h.obj;refine ⟨h.os, h.tape, h.output, by simpa using h.size, fun k hk hn => ?_, h.lt, fun j hj => ?_, fun j hj => ?_, c, c'.setIfInBounds (off + i) (enc x), e, fr, h1, ?_, by simpa using h3, fun k hk => ?_⟩
 ·rw [Below.heap_setCell _ _ _ _ (by simpa using hn)]; exact h.block k hk hn
 ·by_cases e2 : j = i
  ·subst e2;rw [World.cell?_setCell_same _ _ _ (h.cells j hj)];simp [upd]
  ·rw [World.cell?_setCell_other _ _ _ _ (by intro e'; simp only [Addr.mk.injEq] at e'; omega)];simp only [upd, if_neg e2];exact h.cells j hj
 ·rw [World.frozen?_setCell]; exact h.free j hj
 ·simp [World.setCell, Array.getElem?_modify, h2]
 ·rw [Array.getElem?_setIfInBounds, if_neg (by omega)]; exact h4 k hk
theorem SS.swapped (h : SS enc w0 blk off n d W) {i j : Nat} (hi : i < n) (hj : j < n) :
  SS enc w0 blk off n (swpF d i j) ((W.setCell ⟨blk, off + i, none⟩ (enc (d j))).setCell ⟨blk, off + j, none⟩ (enc (d i))).drew := ((h.store hi (d j)).store hj (d i)).drew
theorem SS.c2 (h : SS enc w0 blk off n d W) {i j : Nat} (_hi : i < n) (hj : j < n) (v : Value) : ∃ u, (W.setCell ⟨blk, off + i, none⟩ v).cell? ⟨blk, off + j, none⟩ = some u := by
 by_cases e : i = j
 ·subst e; exact ⟨v, World.cell?_setCell_same _ _ _ (h.cells i hj)⟩
 ·exact ⟨_, (World.cell?_setCell_other _ _ _ _ (by intro e'; simp only [Addr.mk.injEq] at e'; omega)).trans (h.cells j hj)⟩
theorem SS.congr (h : SS enc w0 blk off n d W) {d' : Nat -> α} (hd : ∀ j, j < n -> d' j = d j) : SS enc w0 blk off n d' W :=
 ⟨h.os, h.tape, h.output, h.size, h.block, h.lt, fun j hj => by rw [hd j hj]; exact h.cells j hj, h.free, h.obj⟩
theorem SS.belowBase (h : SS enc w0 blk off n d W) {B : Nat} (hB : B <= blk) : Below B w0 W :=
 ⟨h.os, h.tape, h.output, h.size, fun k hk => h.block k (by have := h.lt; omega) (by omega)⟩
theorem SS.cell (h : SS enc w0 blk off n d W) {p : Addr} (hp : p.block < w0.heap.size) (hn : p.block ≠ blk) : W.cell? p = w0.cell? p := World.cell?_of_block (h.block _ hp hn)
theorem SS.owned {base e c : Nat} {xs : List Value} (h : SS enc w0 blk 0 n d W) (ho : w0.ownsRow base e 1 (.slice (some ⟨blk, 0, none⟩) n c) n xs) (ys : List Value) (hl : ys.length = n) (hy : ∀ j, j < n -> ys[j]? = some (enc (d j))) :
  W.ownsRow base e 1 (.slice (some ⟨blk, 0, none⟩) n c) n ys := by
 refine ⟨by simpa using hl, ?_⟩;rcases ho.2 with ⟨h1, _⟩ | ⟨g, cap, cur, hv, hg, hh, hn, hm, hs, ht⟩
 ·cases h1
 ·injection hv with hv1 hv2 hv3
  injection hv1 with hv1
  injection hv1 with hv1
  subst hv1 hv3;obtain ⟨c1, c', e', fr, h1, h2, h3, h4⟩ := h.obj;rw [hh] at h1
  cases h1;refine .inr ⟨blk, c, c', rfl, hg, h2, hn, hm, by rw [h3]; exact hs, ?_⟩;apply List.ext_getElem?
  intro j;by_cases hj : j < n
  ·have hc := h.cells j hj;simp only [World.cell?, h2, Nat.zero_add] at hc;rw [hy j hj];rw [List.getElem?_take];simp at hc |-
   exact ⟨hj, hc⟩
  ·rw [List.getElem?_eq_none (by simp; omega), List.getElem?_eq_none (by omega)]
end
end
end Go.Proofs.YthcabnfcgjnlnaaGreatDoor
namespace Go.Proofs.YthcabnfcgjnlnaaGreatDoor.Srt
open Go.Proofs.YthcabnfcgjnlnaaGreatDoor.Col Go.Proofs.YthcabnfcgjnlnaaGreatDoor
variable {α : Type} {c : α → α → Int}
abbrev Tag (α : Type) := α × Nat
def lexLt (c : α -> α -> Int) (p q : Tag α) : Prop := c p.1 q.1 < 0 ∨ (c p.1 q.1 = 0 /\ p.2 < q.2)
theorem lexLt_trans (hc : IsCmp c) {p q r : Tag α} (h1 : lexLt c p q) (h2 : lexLt c q r) : lexLt c p r := by
 unfold lexLt at *;have := hc.trans p.1 q.1 r.1;skip
 omega
theorem lexLt_irrefl (hc : IsCmp c) {p : Tag α} : ¬ lexLt c p p := by
 unfold lexLt;have := hc.self p.1;omega
theorem lexLt_asymm (hc : IsCmp c) {p q : Tag α} (h : lexLt c p q) : ¬ lexLt c q p := fun k => lexLt_irrefl hc (lexLt_trans hc h k)
def SortedOn (c : α -> α -> Int) (d : Nat -> Tag α) (a b : Nat) : Prop := ∀ i j, a <= i -> i < j -> j < b -> lexLt c (d i) (d j)
structure PermOn (a b : Nat) (d d' : Nat -> Tag α) : Prop where
 out : ∀ k, (k < a ∨ b <= k) -> d' k = d k
 perm : ((List.range' a (b - a)).map d').Perm ((List.range' a (b - a)).map d)
theorem PermOn.refl (a b : Nat) (d : Nat -> Tag α) : PermOn a b d d := ⟨fun _ _ => rfl, List.Perm.refl _⟩
theorem PermOn.trans {a b : Nat} {d e f : Nat -> Tag α} (h : PermOn a b d e) (k : PermOn a b e f) : PermOn a b d f :=
 ⟨fun i hi => (k.out i hi).trans (h.out i hi), k.perm.trans h.perm⟩
theorem range'_split (a m b : Nat) (h1 : a <= m) (h2 : m <= b) : List.range' a (b - a) = List.range' a (m - a) ++ List.range' m (b - m) := by
 have : List.range' a (m - a) ++ List.range' (a + 1 * (m - a)) (b - m) = List.range' a ((m - a) + (b - m)) := List.range'_append;rw [show a + 1 * (m - a) = m by omega, show (m - a) + (b - m) = b - a by omega] at this;exact this.symm
theorem PermOn.wider {a b a' b' : Nat} {d d' : Nat -> Tag α} (h : PermOn a b d d') (h1 : a' <= a) (h2 : b <= b') (hab : a <= b) : PermOn a' b' d d' := by
 refine ⟨fun k hk => h.out k (by omega), ?_⟩;rw [range'_split a' a b' h1 (by omega), range'_split a b b' hab h2];simp only [List.map_append];refine List.Perm.append ?_ (List.Perm.append h.perm ?_)
 ·rw [List.map_congr_left (fun k hk => h.out k (by rw [List.mem_range'_1] at hk; omega))]
 ·rw [List.map_congr_left (fun k hk => h.out k (by rw [List.mem_range'_1] at hk; omega))]
theorem PermOn.mem {a b : Nat} {d d' : Nat -> Tag α} (h : PermOn a b d d') {k : Nat} (h1 : a <= k) (h2 : k < b) : ∃ j, a <= j /\ j < b /\ d' k = d j := by
 have : d' k ∈ (List.range' a (b - a)).map d' := List.mem_map_of_mem (by rw [List.mem_range'_1]; omega);rw [h.perm.mem_iff, List.mem_map] at this;obtain ⟨j, hj, e⟩ := this;rw [List.mem_range'_1] at hj;exact ⟨j, by omega, by omega, e.symm⟩
theorem swap_perm (d : Nat -> Tag α) (i j : Nat) (hij : i <= j) : PermOn i (j + 1) d (swpF d i j) := by
  refine ⟨fun k hk => ?_, ?_⟩
  · simp only [swpF, upd]; rw [if_neg (by omega), if_neg (by omega)]
  · by_cases e : i = j
    · subst e
      have : swpF d i i = d := by funext k; simp only [swpF, upd]; split <;> simp_all
      rw [this]
    · have e1 : List.range' i (j + 1 - i) = i :: (List.range' (i + 1) (j - i - 1) ++ [j]) := by
        rw [range'_split i (i + 1) (j + 1) (by omega) (by omega), range'_split (i + 1) j (j + 1) (by omega) (by omega), show i + 1 - i = 1 by omega, show j + 1 - j = 1 by omega];rw [show j - (i + 1) = j - i - 1 by omega];simp
      rw [e1];simp only [List.map_cons, List.map_append, List.map_nil];rw [List.map_congr_left (g := d) (fun k hk => by rw [List.mem_range'_1] at hk; simp only [swpF, upd]; rw [if_neg (by omega), if_neg (by omega)])];have h1 : swpF d i j i = d j := by simp only [swpF, upd]; rw [if_neg e, if_pos trivial]
      have h2 : swpF d i j j = d i := by simp only [swpF, upd]; rw [if_pos trivial]
      rw [h1, h2]
      have p1 : ∀ (x y : Tag α) (l : List (Tag α)), (x :: (l ++ [y])).Perm (y :: (l ++ [x])) := fun x y l =>
        ((List.Perm.cons x (List.perm_append_comm (l₁ := l) (l₂ := [y]))).trans (by simpa using List.Perm.swap y x l)).trans (List.Perm.cons y (List.perm_append_comm (l₁ := [x]) (l₂ := l)))
      exact p1 _ _ _
theorem swap_perm' (d : Nat -> Tag α) (i j : Nat) (hij : j <= i) : PermOn j (i + 1) d (swpF d i j) := by
 have : swpF d i j = swpF d j i := by
  funext k
  simp only [swpF, upd];split <;> split <;> simp_all
 rw [this];exact swap_perm d j i hij
def TagSep (d : Nat -> Tag α) (a m b : Nat) : Prop := ∀ i j, a <= i -> i < m -> m <= j -> j < b -> (d i).2 < (d j).2
structure InsAt (c : α -> α -> Int) (d0 d : Nat -> Tag α) (a i j : Nat) : Prop where
 perm : PermOn a (i + 1) d0 d
 rest : ∀ p q, a <= p -> p < q -> q <= i -> p ≠ j -> q ≠ j -> lexLt c (d p) (d q)
 behind : ∀ q, j < q -> q <= i -> lexLt c (d j) (d q)
 young : ∀ p, a <= p -> p < j -> (d p).2 < (d j).2
theorem InsAt.start {d0 d : Nat -> Tag α} {a i : Nat} (hp : PermOn a (i + 1) d0 d) (hs : SortedOn c d a i) (hy : ∀ p, a <= p -> p < i -> (d p).2 < (d i).2) : InsAt c d0 d a i i :=
 ⟨hp, fun p q h1 h2 h3 _ h5 => hs p q h1 h2 (by omega), fun q h1 h2 => by omega, hy⟩
theorem InsAt.stop (hc : IsCmp c) {d0 d : Nat -> Tag α} {a i j : Nat} (h : InsAt c d0 d a i j) (hj : j <= i) (hs : j <= a ∨ ¬ c (d j).1 (d (j - 1)).1 < 0) : SortedOn c d a (i + 1) := by
  intro p q h1 h2 h3;by_cases e1 : p = j
  · subst e1; exact h.behind q h2 (by omega)
  · by_cases e2 : q = j
    · subst e2
      rcases hs with hs | hs
      · omega
      · have hlast : lexLt c (d (q - 1)) (d q) := by
          have := hc.anti (d q).1 (d (q - 1)).1;have := h.young (q - 1) (by omega) (by omega);unfold lexLt;omega
        by_cases e3 : p = q - 1
        · subst e3; exact hlast
        · exact lexLt_trans hc (h.rest p (q - 1) h1 (by omega) (by omega) (by omega) (by omega)) hlast
    · exact h.rest p q h1 h2 (by omega) e1 e2
theorem InsAt.step {d0 d : Nat -> Tag α} {a i j : Nat} (h : InsAt c d0 d a i j) (hj : j <= i) (haj : a < j) (hs : c (d j).1 (d (j - 1)).1 < 0) : InsAt c d0 (swpF d j (j - 1)) a i (j - 1) := by
 have h1 : swpF d j (j - 1) (j - 1) = d j := by simp only [swpF, upd]; simp
 have h2 : swpF d j (j - 1) j = d (j - 1) := by simp only [swpF, upd]; rw [if_neg (by omega), if_pos trivial]
 have h3 : ∀ k, k ≠ j -> k ≠ j - 1 -> swpF d j (j - 1) k = d k := fun k a b => by simp only [swpF, upd]; rw [if_neg b, if_neg a]
 refine ⟨h.perm.trans ((swap_perm' d j (j - 1) (by omega)).wider (by omega) (by omega) (by omega)), ?_, ?_, ?_⟩
 ·intro p q p1 p2 p3 p4 p5;by_cases e1 : p = j
  ·subst e1;rw [h2, h3 q (by omega) (by omega)];exact h.rest (p - 1) q (by omega) (by omega) p3 (by omega) (by omega)
  ·by_cases e2 : q = j
   ·subst e2;rw [h2, h3 p (by omega) (by omega)];exact h.rest p (q - 1) p1 (by omega) (by omega) (by omega) (by omega)
   ·rw [h3 p e1 p4, h3 q e2 p5];exact h.rest p q p1 p2 p3 e1 e2
 ·intro q q1 q2;rw [h1];by_cases e : q = j
  ·subst e; rw [h2]; exact Or.inl hs
  ·rw [h3 q e (by omega)]; exact h.behind q (by omega) q2
 ·intro p p1 p2;rw [h1, h3 p (by omega) (by omega)];exact h.young p p1 (by omega)
structure Merge (c : α -> α -> Int) (d : Nat -> Tag α) (a m b : Nat) : Prop where
 left : SortedOn c d a m
 right : SortedOn c d m b
 tags : TagSep d a m b
structure Merged (c : α -> α -> Int) (d d' : Nat -> Tag α) (a b : Nat) : Prop where
 perm : PermOn a b d d'
 sorted : SortedOn c d' a b
theorem Merge.le (hc : IsCmp c) {d : Nat -> Tag α} {a m b i j : Nat} (h : Merge c d a m b) (h1 : a <= i) (h2 : i < m) (h3 : m <= j) (h4 : j < b) (hs : ¬ c (d j).1 (d i).1 < 0) : lexLt c (d i) (d j) := by
 have := hc.anti (d j).1 (d i).1;have := h.tags i j h1 h2 h3 h4;unfold lexLt;omega
theorem Merge.congr {d d' : Nat -> Tag α} {a m b : Nat} (h : Merge c d a m b) (he : ∀ k, a <= k -> k < b -> d' k = d k) (_ham : a <= m) (hmb : m <= b) : Merge c d' a m b := by
 refine ⟨fun i j x1 x2 x3 => ?_, fun i j x1 x2 x3 => ?_, fun i j x1 x2 x3 x4 => ?_⟩
 ·rw [he i x1 (by omega), he j (by omega) (by omega)]; exact h.left i j x1 x2 x3
 ·rw [he i (by omega) (by omega), he j (by omega) x3]; exact h.right i j x1 x2 x3
 ·rw [he i x1 (by omega), he j (by omega) x4]; exact h.tags i j x1 x2 x3 x4
def TagIn (d : Nat -> Tag α) (lo hi : Nat) : Prop := ∀ k, lo <= k -> k < hi -> lo <= (d k).2 /\ (d k).2 < hi
structure Run (c : α -> α -> Int) (d : Nat -> Tag α) (lo hi : Nat) : Prop where
 sorted : SortedOn c d lo hi
 tags : TagIn d lo hi
theorem Run.congr {d d' : Nat -> Tag α} {lo hi : Nat} (h : Run c d lo hi) (he : ∀ k, lo <= k -> k < hi -> d' k = d k) : Run c d' lo hi :=
 ⟨fun i j h1 h2 h3 => by rw [he i h1 (by omega), he j (by omega) h3]; exact h.sorted i j h1 h2 h3, fun k h1 h2 => by rw [he k h1 h2]; exact h.tags k h1 h2⟩
theorem Merged.run {d d' : Nat -> Tag α} {a m b : Nat} (h1 : Run c d a m) (h2 : Run c d m b) (_ham : a <= m) (_hmb : m <= b) (h : Merged c d d' a b) : Run c d' a b :=
 ⟨h.sorted, fun k x1 x2 => by
  obtain ⟨j, j1, j2, e⟩ := h.perm.mem x1 x2;rw [e];by_cases q : j < m
  ·have := h1.tags j j1 q; omega
  ·have := h2.tags j (by omega) j2; omega⟩
theorem sorted_unique (hc : IsCmp c) : ∀ {l m : List (Tag α)}, l.Perm m -> l.Pairwise (lexLt c) -> m.Pairwise (lexLt c) -> l = m
 | [], m, hp, _, _ => by rw [List.nil_perm.1 hp]
 | x :: l, [], hp, _, _ => by have := hp.length_eq; simp at this
 | x :: l, y :: m, hp, h1, h2 => by
  rw [List.pairwise_cons] at h1 h2
  have e : x = y := by
   have hx : x ∈ y :: m := hp.mem_iff.1 (List.mem_cons_self);have hy : y ∈ x :: l := hp.mem_iff.2 (List.mem_cons_self);rcases List.mem_cons.1 hx with e | hx
   ·exact e
   ·rcases List.mem_cons.1 hy with e | hy
    ·exact e.symm
    ·exact absurd (h2.1 x hx) (lexLt_asymm hc (h1.1 y hy))
  subst e;rw [sorted_unique hc (List.Perm.cons_inv hp) h1.2 h2.2]
def listOf (d : Nat -> Tag α) (n : Nat) : List (Tag α) := (List.range n).map d
theorem listOf_pairwise {d : Nat -> Tag α} {n : Nat} (h : SortedOn c d 0 n) : (listOf d n).Pairwise (lexLt c) := by
 unfold listOf;rw [List.pairwise_map, List.pairwise_iff_getElem];intro i j hi hj hij;simp at hi hj |-
 exact h i j (Nat.zero_le _) hij hj
theorem listOf_perm {d d' : Nat -> Tag α} {n : Nat} (h : PermOn 0 n d d') : (listOf d' n).Perm (listOf d n) := by
 have := h.perm;simpa [listOf, List.range_eq_range'] using this
def tagged [Inhabited α] (xs : List α) : Nat -> Tag α := fun k => (xs.getD k default, k)
theorem listOf_tagged [Inhabited α] (xs : List α) : listOf (tagged xs) xs.length = xs.zipIdx := by
 unfold listOf tagged;apply List.ext_getElem?
 intro k;simp only [List.getElem?_map];by_cases hk : k < xs.length
 ·rw [List.getElem?_range hk];simp [List.getElem?_zipIdx, hk]
 ·rw [List.getElem?_eq_none (by simp; omega), List.getElem?_eq_none (by simp; omega)];rfl
def StableOf (c : α -> α -> Int) (xs ys : List α) : Prop := ∃ p : List (Tag α), p.Perm xs.zipIdx /\ p.Pairwise (lexLt c) /\ p.map (·.1) = ys
theorem StableOf.unique (hc : IsCmp c) {xs ys zs : List α} (h1 : StableOf c xs ys) (h2 : StableOf c xs zs) : ys = zs := by
 obtain ⟨p, p1, p2, p3⟩ := h1;obtain ⟨q, q1, q2, q3⟩ := h2;rw [<- p3, <- q3, sorted_unique hc (p1.trans q1.symm) p2 q2]
theorem stableOf_of [Inhabited α] {xs : List α} {d : Nat -> Tag α} (hp : PermOn 0 xs.length (tagged xs) d) (hs : SortedOn c d 0 xs.length) : StableOf c xs ((listOf d xs.length).map (·.1)) :=
 ⟨_, by rw [<- listOf_tagged]; exact listOf_perm hp, listOf_pairwise hs, rfl⟩
theorem StableOf.perm {xs ys : List α} (h : StableOf c xs ys) : ys.Perm xs := by
 obtain ⟨p, p1, _, rfl⟩ := h;have := p1.map (·.1);rwa [List.zipIdx_map_fst] at this
theorem StableOf.sorted {xs ys : List α} (h : StableOf c xs ys) : ys.Pairwise (fun x y => c x y <= 0) := by
 obtain ⟨p, _, p2, rfl⟩ := h;rw [List.pairwise_map];exact p2.imp fun h => by unfold lexLt at h; omega
end Go.Proofs.YthcabnfcgjnlnaaGreatDoor.Srt
namespace Go.Proofs.YthcabnfcgjnlnaaGreatDoor.Srt
open Go.Proofs.YthcabnfcgjnlnaaGreatDoor.Col
variable {α : Type} {c : α → α → Int}
theorem stable_nil : StableOf c ([] : List α) [] := ⟨[], by simp, List.Pairwise.nil, rfl⟩
theorem stable_insert (hc : IsCmp c) {l : List α} {k at_ : Nat} {x : α} {ys : List α} (h : StableOf c (l.take k) ys) (hx : l[k]? = some x) (hat : at_ <= ys.length)
    (h1 : ∀ y, 0 < at_ -> ys[at_ - 1]? = some y -> 0 <= c x y) (h2 : ∀ j y, at_ <= j -> ys[j]? = some y -> c x y < 0) : StableOf c (l.take (k + 1)) (ys.take at_ ++ x :: ys.drop at_) := by
  obtain ⟨p, p1, p2, rfl⟩ := h;have hk : k < l.length := (List.getElem?_eq_some_iff.1 hx).1;have hxk : l[k] = x := (List.getElem?_eq_some_iff.1 hx).2;rw [List.length_map] at hat
  have htag : ∀ q, q ∈ p -> q.2 < k := fun q hq => by
    have := p1.mem_iff.1 hq;have := (List.mem_zipIdx_iff_getElem?.1 this);have h3 := (List.getElem?_eq_some_iff.1 this).1;rw [List.length_take] at h3;omega
  refine ⟨p.take at_ ++ (x, k) :: p.drop at_, ?_, ?_, ?_⟩
  · have e : (l.take (k + 1)).zipIdx = (l.take k).zipIdx ++ [(x, k)] := by
      rw [List.take_succ_eq_append_getElem hk, List.zipIdx_append, hxk];simp [Nat.min_eq_left (Nat.le_of_lt hk)]
    rw [e];refine List.Perm.trans List.perm_middle ?_;rw [List.take_append_drop];exact (List.perm_append_singleton (x, k) p).symm.trans (p1.append_right _)
  · have hp := p2
    rw [<- List.take_append_drop at_ p, List.pairwise_append] at hp;rw [List.pairwise_append]
    have hleft : ∀ q, q ∈ p.take at_ -> c q.1 x <= 0 := by
      intro q hq
      have h0 : 0 < at_ := by
        rcases Nat.eq_zero_or_pos at_ with e | e
        · subst e; simp at hq
        · exact e
      have hl : at_ - 1 < p.length := by omega
      have hy := h1 (p[at_ - 1].1) h0 (by rw [List.getElem?_map, List.getElem?_eq_getElem hl]; rfl)
      have hy' : c p[at_ - 1].1 x <= 0 := by
        have := hc.anti x p[at_ - 1].1;omega
      obtain ⟨j, hj⟩ := List.getElem?_of_mem hq;rw [List.getElem?_take] at hj;split at hj
      · rename_i hja
        obtain ⟨hjl, rfl⟩ := List.getElem?_eq_some_iff.1 hj;by_cases e : j = at_ - 1
        · subst e; exact hy'
        · have h3 := List.pairwise_iff_getElem.1 p2 j (at_ - 1) hjl hl (by omega)
          have h4 : c p[j].1 p[at_ - 1].1 <= 0 := by unfold lexLt at h3; omega
          have := hc.trans _ _ _ h4 hy';omega
      · cases hj
    have hright : ∀ q, q ∈ p.drop at_ -> c x q.1 < 0 := by
      intro q hq;obtain ⟨j, hj⟩ := List.getElem?_of_mem hq;rw [List.getElem?_drop] at hj;exact h2 (at_ + j) q.1 (by omega) (by rw [List.getElem?_map, hj]; rfl)
    refine ⟨hp.1, List.pairwise_cons.2 ⟨fun q hq => .inl (hright q hq), hp.2.1⟩, ?_⟩;intro q hq r hr;rcases List.mem_cons.1 hr with rfl | hr
    · have h3 := hleft q hq
      have h4 := htag q (List.mem_of_mem_take hq);unfold lexLt;simp only;omega
    · exact hp.2.2 q hq r hr
  · simp [List.map_append, List.map_take, List.map_drop]
end Go.Proofs.YthcabnfcgjnlnaaGreatDoor.Srt
namespace Go.Proofs.YthcabnfcgjnlnaaGreatDoor
section
open Go.RowKit
structure BW (w : World) where
 at_ : World
 bel : Below w.heap.size w at_
instance (w : World) : Inhabited (BW w) := ⟨⟨w, Below.refl _ _⟩⟩
theorem wp_region_quiet_below {P : Program} {id : Nat} {Q : Exit -> Act -> World -> Prop} {a : Act} {w : World} {l : List Oper} (hm : P.follows .mixedOrders = true) (hB : Region.lexB .any l.toArray = true)
  (h : wpQuiet P l.toArray (fun w' => ∃ p : BW w, w' = p.at_) (fun a' => ∀ w', (∃ p : BW w, w' = p.at_) -> Q .normal a' w') l a) : (Code.region id l.toArray true).wp P Q a w :=
 wp_region_quiet (C := fun w' => ∃ p : BW w, w' = p.at_) hm hB ⟨⟨w.drew, bR.drew⟩, rfl⟩ (by simpa using h)
theorem below_quiet {P : Program} {f : FuncId} {args : Array Value} {w : World} {p : BW w} {v : Value}
  (h : Calls P f args p.at_ fun e w' => e = .returned v /\ Below p.at_.heap.size p.at_ w') : Calls P f args p.at_ fun e w'' => e = .returned v /\ ∃ q : BW w, w'' = q.at_ :=
 h.mono fun _ _ ⟨he, hb⟩ => ⟨he, ⟨_, p.bel.trans (hb.mono p.bel.size)⟩, rfl⟩
theorem bw_below {w w' : World} (h : ∃ p : BW w, w' = p.at_) : Below w.heap.size w w' := by
 obtain ⟨p, rfl⟩ := h;exact p.bel
theorem ret_bool {a b : Bool} (h : a = b) : Ending.returned (.bool a) = .returned (.bool b) := by rw [h]
theorem ret_i64 {a b : Int} (h : a = b) : Ending.returned (.int .i64 a) = .returned (.int .i64 b) := by rw [h]
theorem ret_str {a b : ByteArray} (h : a = b) : Ending.returned (.string a) = .returned (.string b) := by rw [h]
theorem mono_eq {P : Program} {f : FuncId} {args : Array Value} {w : World} {v v' : Value} {R : World -> Prop} (h : Calls P f args w fun e w' => e = .returned v /\ R w') (hv : v = v') : Calls P f args w fun e w' => e = .returned v' /\ R w' := by
 subst hv;exact h
theorem cell_z {w wr : World} {a : Addr} {v : Value} (hz : Hid (∃ z, wr = w.drewN z)) (h : w.cell? a = some v) : wr.cell? a = some v := by
 obtain ⟨z, rfl⟩ := hz.out;exact h
theorem drew_z {w wr : World} (hz : Hid (∃ z, wr = w.drewN z)) (k : Nat) : ∃ z, wr.drewN k = w.drewN z := by
 obtain ⟨z, rfl⟩ := hz.out;exact ⟨_, World.drewN_drewN _ _ _⟩
theorem ba_ext {a b : ByteArray} (h : a.data.toList = b.data.toList) : a = b := by
 cases a with | mk d => cases b with | mk e => cases d with | mk p => cases e with | mk q => simp at h; rw [h]
def SR (w : World) (B : Nat) (A : Option Addr) (n : Nat) (l : List ByteArray) : Prop := Reads w B 1 A n (l.map .string)
def IR (w : World) (B : Nat) (A : Option Addr) (n : Nat) (l : List Int) : Prop := Reads w B 1 A n (l.map (.int .i64))
section
variable {w w' : World} {B B' n k : Nat} {A : Option Addr}
theorem SR.at_ {l : List ByteArray} (h : SR w B A n l) (hk : k < n) :
  ∃ ad x, A = some ad /\ ad.block < B /\ l[k]? = some x /\ w.cell? (ad.add k) = some (.string x) := by
 obtain ⟨ad, u, e, hb, hx, hc⟩ := Reads.at_ h hk;rw [List.getElem?_map] at hx
 cases hz : l[k]? with
 | none => rw [hz] at hx; cases hx
 | some x => rw [hz] at hx; cases hx; exact ⟨ad, x, e, hb, rfl, hc⟩
theorem IR.at_ {l : List Int} (h : IR w B A n l) (hk : k < n) :
  ∃ ad x, A = some ad /\ ad.block < B /\ l[k]? = some x /\ w.cell? (ad.add k) = some (.int .i64 x) := by
 obtain ⟨ad, u, e, hb, hx, hc⟩ := Reads.at_ h hk;rw [List.getElem?_map] at hx
 cases hz : l[k]? with
 | none => rw [hz] at hx; cases hx
 | some x => rw [hz] at hx; cases hx; exact ⟨ad, x, e, hb, rfl, hc⟩
theorem SR.len {l : List ByteArray} (h : SR w B A n l) : l.length = n := by simpa using h.1
theorem IR.len {l : List Int} (h : IR w B A n l) : l.length = n := by simpa using h.1
theorem Reads.on {size : Nat} {xs : List Value} (h : Reads w w.heap.size size A n xs) (hb : Below w.heap.size w w') : Reads w' w'.heap.size size A n xs := (h.below hb).more hb.size
theorem SR.on {l : List ByteArray} (h : SR w w.heap.size A n l) (hb : Below w.heap.size w w') : SR w' w'.heap.size A n l := Reads.on h hb
theorem IR.on {l : List Int} (h : IR w w.heap.size A n l) (hb : Below w.heap.size w w') : IR w' w'.heap.size A n l := Reads.on h hb
end
theorem take_snoc_eq {α : Type} {xs ys : List α} {k : Nat} {x y : α} (h : xs.take k = ys.take k) (hx : xs[k]? = some x) (hy : ys[k]? = some y) (he : x = y) : xs.take (k + 1) = ys.take (k + 1) := by
 rw [List.take_add_one, List.take_add_one, h, hx, hy, he]
theorem reads_new (w : World) (e : TypeId) (c : Array Value) : Reads (w.alloc (.cells c e)) (w.alloc (.cells c e)).heap.size 1 (some ⟨w.heap.size, 0, none⟩) c.size c.toList := by
 refine ⟨by simp, fun _ => ⟨_, rfl, by simp, fun j u hu => ?_⟩⟩
 have e1 : (⟨w.heap.size, 0, none⟩ : Addr).add j = ⟨w.heap.size, j, none⟩ := by
  unfold Addr.add;split
  ·rename_i h; simp [h]
  ·simp
 rw [e1, World.cell?_alloc_at _ _ _ _ rfl];simpa using hu
end
end Go.Proofs.YthcabnfcgjnlnaaGreatDoor
namespace Go.Proofs.YthcabnfcgjnlnaaGreatDoor
open Go.RowKit
namespace Ru
def markB (p : Int) : Bool := decide (768 <= p) && decide (p <= 879)
def inB (p lo hi : Int) : Bool := decide (lo <= p) && decide (p <= hi)
def classI (p : Int) : Int :=
 if markB p = false then 0
 else if inB p 790 793 || inB p 796 800 || inB p 803 806 || inB p 809 819 then 220
 else if inB p 801 802 || inB p 807 808 then 202
 else 230
end Ru
set_option maxHeartbeats 400000 in
theorem mark_any (p : Int) (w : World) : Calls Tryz.prog 138 #[.int .i64 p] w fun e w' => e = .returned (.bool (Ru.markB p)) /\ w = w' := by
 by_cases h1 : 768 <= p
 ·have d1 : decide (768 <= p) = true := decide_eq_true h1;by_cases h2 : p <= 879
  ·have d2 : decide (p <= 879) = true := decide_eq_true h2;go_enter Tryz.func138, Tryz.ntmps138
   go_wp2;go_ret;exact ⟨ret_bool (by simp [Ru.markB, h1, h2]), rfl⟩
  ·have d2 : decide (p <= 879) = false := decide_eq_false h2;go_enter Tryz.func138, Tryz.ntmps138
   go_wp2;go_ret;exact ⟨ret_bool (by simp [Ru.markB, h1, h2]), rfl⟩
 ·have d1 : decide (768 <= p) = false := decide_eq_false h1;go_enter Tryz.func138, Tryz.ntmps138
  go_wp2;go_ret;exact ⟨ret_bool (by unfold Ru.markB; rw [d1]; rfl), rfl⟩
end Go.Proofs.YthcabnfcgjnlnaaGreatDoor
namespace Go.Proofs.YthcabnfcgjnlnaaGreatDoor.Ru
open Go.Proofs.YthcabnfcgjnlnaaGreatDoor.Col Go.Proofs.YthcabnfcgjnlnaaGreatDoor.Srt
def mk (p : Nat) : Bool := markB (p : Int)
def cls (p : Nat) : Int := classI (p : Int)
def encS (l : List Nat) : List UInt8 := l.flatMap fun (p : Nat) => encL (p : Int)
theorem encS_nil : encS [] = [] := rfl
theorem encS_app (a b : List Nat) : encS (a ++ b) = encS a ++ encS b := by unfold encS; simp
theorem encS_cons (p : Nat) (t : List Nat) : encS (p :: t) = encL (p : Int) ++ encS t := by unfold encS; simp
def ofI (l : List Int) : Option (List UInt8) := if l.all scalarB then some (l.flatMap encL) else none
def cluGo (c : List Nat) : List Nat -> List (List Nat)
 | [] => [c]
 | p :: t => if mk p = true then cluGo (c ++ [p]) t else c :: cluGo [p] t
def clus : List Nat -> List (List Nat)
 | [] => []
 | p :: t => cluGo [p] t
def Fresh (rest : List Nat) : Prop := ∀ p t, rest = p :: t -> mk p = false
theorem cluGo_marks (c ms rest : List Nat) (h : ∀ m ∈ ms, mk m = true) : cluGo c (ms ++ rest) = cluGo (c ++ ms) rest := by
 induction ms generalizing c with
 | nil => simp
 | cons m ms ih =>
  show (if mk m = true then cluGo (c ++ [m]) (ms ++ rest) else _) = _;rw [if_pos (h m (by simp)), ih _ (fun x hx => h x (by simp [hx]))];simp
theorem cluGo_fresh (c rest : List Nat) (h : Fresh rest) : cluGo c rest = c :: clus rest := by
 cases rest with
 | nil => rfl
 | cons p t =>
  show (if mk p = true then _ else c :: cluGo [p] t) = _;rw [h p t rfl, if_neg (by simp)];rfl
theorem clus_seg (p : Nat) (ms rest : List Nat) (h : ∀ m ∈ ms, mk m = true) (hr : Fresh rest) : clus (p :: ms ++ rest) = (p :: ms) :: clus rest := by
 rw [List.cons_append];show cluGo [p] (ms ++ rest) = _;rw [cluGo_marks _ _ _ h, cluGo_fresh _ _ hr];rfl
theorem segs {l : List Nat} (h : l ≠ []) : ∃ p ms rest, l = p :: ms ++ rest /\ (∀ m ∈ ms, mk m = true) /\ Fresh rest := by
 cases l with
 | nil => exact absurd rfl h
 | cons p t =>
  refine ⟨p, t.takeWhile mk, t.dropWhile mk, by simp [List.takeWhile_append_dropWhile], fun m hm => ?_, fun q u hq => ?_⟩
  ·have := List.all_takeWhile (p := mk) (l := t);exact List.all_eq_true.1 this m hm
  ·have := List.head?_dropWhile_not mk t;rw [hq] at this;simpa using this
theorem seg_ind {P : List Nat -> Prop} (h0 : P []) (h1 : ∀ p ms rest, (∀ m ∈ ms, mk m = true) -> Fresh rest -> P rest -> P (p :: ms ++ rest)) (l : List Nat) : P l := by
 obtain ⟨n, hn⟩ : ∃ n, l.length = n := ⟨_, rfl⟩;induction n using Nat.strongRecOn generalizing l with
 | _ n ih =>
  by_cases h : l = []
  ·subst h; exact h0
  ·obtain ⟨p, ms, rest, rfl, hm, hr⟩ := segs h;exact h1 p ms rest hm hr (ih rest.length (by rw [<- hn]; simp; omega) rest rfl)
theorem u8_nat {n : Nat} (h : n < 256) : (UInt8.ofNat n).toNat = n := by
 rw [UInt8.toNat_ofNat']; omega
theorem scalar_iff {p : Nat} : scalarB (p : Int) = true ↔ p <= 1114111 /\ (p < 55296 ∨ 57343 < p) := by
 unfold scalarB;simp only [Bool.and_eq_true, Bool.or_eq_true, decide_eq_true_eq];omega
theorem encL_len (p : Int) : 1 <= (encL p).length /\ (encL p).length <= 4 := by
 unfold encL encI;repeat' split
 all_goals simp
set_option maxRecDepth 100000 in
theorem first_enc {p : Nat} (h : scalarB (p : Int) = true) (rest : List UInt8) : firstL (encL (p : Int) ++ rest) = some (p, (encL (p : Int)).length) := by
  have hs := scalar_iff.1 h;by_cases h1 : p < 128
  · have e : encL (p : Int) = [UInt8.ofNat p] := by unfold encL encI; rw [if_pos (by omega)]; simp
    have el : lead (UInt8.ofNat p).toNat = (p, 1) := by rw [u8_nat (by omega)]; unfold lead; rw [if_neg (by omega), if_neg (by omega), if_neg (by omega)]
    rw [e];simp only [List.cons_append, List.nil_append, firstL, el];simp only [Nat.sub_self, List.take_zero, cont, List.foldl_nil];rw [if_pos ⟨by omega, h, by rw [e]; simp⟩];rfl
  · by_cases h2 : p < 2048
    · have e : encL (p : Int) = [UInt8.ofNat (192 + p / 64), UInt8.ofNat (128 + p % 64)] := by
        unfold encL encI;rw [if_neg (by omega), if_pos (by omega)];simp only [List.map_cons, List.map_nil];rw [show (192 + (p : Int) / 64).toNat = 192 + p / 64 by omega, show (128 + (p : Int) % 64).toNat = 128 + p % 64 by omega]
      have el : lead (UInt8.ofNat (192 + p / 64)).toNat = (p / 64, 2) := by
        rw [u8_nat (by omega)]; unfold lead; rw [if_neg (by omega), if_neg (by omega), if_pos (by omega)]
        congr 1; omega
      rw [e];simp only [List.cons_append, List.nil_append, firstL, el]
      have ec : cont (p / 64) ((UInt8.ofNat (128 + p % 64) :: rest).take (2 - 1)) = p := by
        simp only [cont, Nat.reduceSub, List.take_succ_cons, List.take_zero, List.foldl_cons, List.foldl_nil];rw [u8_nat (by omega)]; omega
      rw [ec, if_pos ⟨by simp, h, by rw [e]; simp⟩];rfl
    · by_cases h3 : p < 65536
      · have e : encL (p : Int) = [UInt8.ofNat (224 + p / 4096), UInt8.ofNat (128 + p / 64 % 64), UInt8.ofNat (128 + p % 64)] := by
          unfold encL encI;rw [if_neg (by omega), if_neg (by omega), if_pos (by omega)];simp only [List.map_cons, List.map_nil];rw [show (224 + (p : Int) / 4096).toNat = 224 + p / 4096 by omega, show (128 + (p : Int) / 64 % 64).toNat = 128 + p / 64 % 64 by omega, show (128 + (p : Int) % 64).toNat = 128 + p % 64 by omega]
        have el : lead (UInt8.ofNat (224 + p / 4096)).toNat = (p / 4096, 3) := by
          rw [u8_nat (by omega)]; unfold lead; rw [if_neg (by omega), if_pos (by omega)]
          congr 1; omega
        rw [e];simp only [List.cons_append, List.nil_append, firstL, el]
        have ec : cont (p / 4096) ((UInt8.ofNat (128 + p / 64 % 64) :: UInt8.ofNat (128 + p % 64) :: rest).take (3 - 1)) = p := by
          simp only [cont, Nat.reduceSub, List.take_succ_cons, List.take_zero, List.foldl_cons, List.foldl_nil];rw [u8_nat (by omega), u8_nat (by omega)]; omega
        rw [ec, if_pos ⟨by simp, h, by rw [e]; simp⟩];rfl
      · have e : encL (p : Int) = [UInt8.ofNat (240 + p / 262144), UInt8.ofNat (128 + p / 4096 % 64), UInt8.ofNat (128 + p / 64 % 64), UInt8.ofNat (128 + p % 64)] := by
          unfold encL encI;rw [if_neg (by omega), if_neg (by omega), if_neg (by omega)];simp only [List.map_cons, List.map_nil];rw [show (240 + (p : Int) / 262144).toNat = 240 + p / 262144 by omega, show (128 + (p : Int) / 4096 % 64).toNat = 128 + p / 4096 % 64 by omega, show (128 + (p : Int) / 64 % 64).toNat = 128 + p / 64 % 64 by omega, show (128 + (p : Int) % 64).toNat = 128 + p % 64 by omega]
        have el : lead (UInt8.ofNat (240 + p / 262144)).toNat = (p / 262144, 4) := by
          rw [u8_nat (by omega)]; unfold lead; rw [if_pos (by omega)]
          congr 1; omega
        rw [e];simp only [List.cons_append, List.nil_append, firstL, el]
        have ec : cont (p / 262144) ((UInt8.ofNat (128 + p / 4096 % 64) :: UInt8.ofNat (128 + p / 64 % 64) :: UInt8.ofNat (128 + p % 64) :: rest).take (4 - 1)) = p := by
          simp only [cont, Nat.reduceSub, List.take_succ_cons, List.take_zero, List.foldl_cons, List.foldl_nil];rw [u8_nat (by omega), u8_nat (by omega), u8_nat (by omega)]; omega
        rw [ec, if_pos ⟨by simp, h, by rw [e]; simp⟩];rfl
def Sc (l : List Nat) : Prop := ∀ p ∈ l, scalarB (p : Int) = true
theorem points_valid : ∀ (n : Nat) (s : List UInt8) (d : List Nat), s.length <= n -> points s = some d -> Sc d /\ encS d = s
 | 0, s, d, hn, h => by
  have : s = [] := List.eq_nil_of_length_eq_zero (by omega);subst this;rw [points_nil] at h
  cases h;exact ⟨fun p hp => by simp at hp, rfl⟩
 | n + 1, s, d, hn, h => by
  by_cases h0 : s = []
  ·subst h0;rw [points_nil] at h
   cases h;exact ⟨fun p hp => by simp at hp, rfl⟩
  ·cases hf : firstL s with
   | none => rw [points_none h0 hf] at h; cases h
   | some pn =>
    obtain ⟨p, m⟩ := pn;obtain ⟨f1, f2, f3, f4, f5⟩ := firstL_some hf;rw [points_some hf] at h
    cases hp : points (s.drop m) with
    | none => rw [hp] at h; cases h
    | some d' =>
     rw [hp] at h
     cases h;obtain ⟨i1, i2⟩ := points_valid n (s.drop m) d' (by rw [List.length_drop]; omega) hp;refine ⟨fun q hq => ?_, by rw [encS_cons, i2, f5, List.take_append_drop]⟩;rcases List.mem_cons.1 hq with rfl | hq
     ·exact f4
     ·exact i1 q hq
theorem points_sc {s : List UInt8} {d : List Nat} (h : points s = some d) : Sc d := (points_valid s.length s d (Nat.le_refl _) h).1
theorem encS_points {s : List UInt8} {d : List Nat} (h : points s = some d) : encS d = s := (points_valid s.length s d (Nat.le_refl _) h).2
theorem Sc.perm {l m : List Nat} (h : Sc l) (hp : m.Perm l) : Sc m := fun p hm => h p (hp.mem_iff.1 hm)
end Go.Proofs.YthcabnfcgjnlnaaGreatDoor.Ru
