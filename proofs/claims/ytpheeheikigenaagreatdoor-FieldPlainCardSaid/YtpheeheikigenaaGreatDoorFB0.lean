/- Walks and plain facts that the claim uses. -/
import Derived.Shelf.Strings.SlTrimAscii
import Derived.Shelf.Strings.Builder1
import Derived.Shelf.Strings.Builder2
import Derived.Shelf.Strings.OnBuilder
import Derived.Shelf.Strings.Trim
import Derived.Shelf.Small.Utf8
import Derived.Shelf.Small.Bits
import Derived.Shelf.Small.Strs
import Derived.Shelf.Small.Wraps
import Derived.Shelf.Strings.BuilderF
import Derived.Shelf.Strings.BuilderK
import Derived.Shelf.Strings.Builder2Cap
import Derived.Shelf.Strconv.Itoa0
import Derived.Shelf.Strings.Search1
import Derived.Shelf.Strings.Search2
import Derived.Shelf.Strings.Search3
import Derived.Shelf.Strings.Cut
import Derived.Shelf.Strings.Count
import Derived.Shelf.LaysM
import Derived.Shelf.Strings.Shaped
import Derived.Shelf.Sort.Plain
import Derived.Shelf.Strings.Prefix
import Derived.Shelf.Strings.Split
import Derived.Shelf.Strings.Replace
import Derived.Shelf.Strings.SplitShaped
import Derived.Shelf.Strings.Runes
import Derived.Shelf.Strings.IndexAny
import Derived.Shelf.Strings.AsciiSet
import Derived.Shelf.Strings.IndexAnyAll
import Derived.Shelf.Unicode.DecodeSlow
import Derived.Shelf.Strings.FieldsFuncAny
import Derived.Shelf.Strings.BuilderCap
import Derived.Shelf.Slices.Turned
import Derived.Shelf.Slices.Equal
import Derived.Ground.Names2Prog
import Derived.Shelf.Slices.Clone
import Derived.Shelf.Slices.CompactS
import Derived.Shelf.Slices.Cells
import Derived.Shelf.Slices.In.SortNone
import Derived.Shelf.Slices.Empties2
import Derived.Ground.SlbCloneProg
import Derived.Shelf.Bytes.SlClone
import Derived.Ground.SlgfProg
import Derived.Shelf.SlicesE.IndexFunc
import Derived.Test.YtpheeheikigenaaGreatDoorProg
import Derived.WalkKit
import Derived.WalkSpells
import Derived.WalkLawsBesides
import Derived.Handy
import Derived.BigQuiet
import Derived.Deep.QuietTactic
import Derived.Deep.OwnRows
import Derived.StillTailTactics
import Derived.Lib.Hide
import Derived.Deep.Light
import Derived.Deep.DeepCutAuto
import Derived.Deep.CutRange
import Derived.Deep.LoopGhost
import Derived.Deep.DeepFit
import Derived.Maps.AppendAt
import Derived.Deep.AppendLies
import Derived.ShutString
import Derived.ProofKit
import Derived.Below
import Derived.Lib.Strings
import Derived.Lib.Bytealg
import Derived.Laws.RangeAny
import Derived.Laws.Runes
import Derived.Lib.IndexAny
import Derived.Lib.IndexBytes
import Derived.Maps.Views
import Derived.Sort.Walk0
import Derived.StringKeys
import Derived.Sort.KeysCollected
import Derived.Lib.Builder
import Derived.Lib.AppendStr
import Derived.Laws.Externs
import Derived.Laws.IdiomCopy
import Derived.Deep.RegionHeld3
import Derived.Laws.AppendOwn
set_option maxRecDepth 100000
set_option maxHeartbeats 16000000
set_option linter.unusedSimpArgs false
set_option linter.unusedVariables false
namespace Go.Proofs.YtpheeheikigenaaGreatDoor
theorem gE {α : Type} {l : List α} {i : Nat} (h : i < l.length) : l[i]? = some l[i] := List.getElem?_eq_getElem h
end Go.Proofs.YtpheeheikigenaaGreatDoor
namespace Go.Proofs
open Go.Shelf
def Tryz.lays169_ren : Go.Shelf.Ren := ⟨fun | 169 => 66 | n => n, fun | 70 => 120 | 9 => 9 | 0 => 0 | 72 => 122 | 37 => 55 | 127 => 175 | 3 => 3 | 5 => 5 | n => n, fun | n => n⟩
theorem Tryz.lays169 : Go.Proofs.Lays.n169 Tryz.prog Tryz.lays169_ren := {
 mixed := by kernel_rfl
 f169 := Tryz.func66.trans (congrArg some (by kernel_rfl))
 t0 := Tryz.underlying0
 a0 := Tryz.isAgg0
 z0 := Tryz.sizeOf0
 v0 := Tryz.zeroValue0
 t3 := Tryz.underlying3
 a3 := Tryz.isAgg3
 z3 := Tryz.sizeOf3
 v3 := Tryz.zeroValue3
 t9 := Tryz.underlying9
 a9 := Tryz.isAgg9
 z9 := Tryz.sizeOf9
 v9 := Tryz.zeroValue9
 t37 := Tryz.underlying55
 a37 := Tryz.isAgg55
 z37 := Tryz.sizeOf55
 v37 := Tryz.zeroValue55
 t70 := Tryz.underlying120
 a70 := Tryz.isAgg120
 z70 := Tryz.sizeOf120
 v70 := Tryz.zeroValue120
 t72 := Tryz.underlying122
 a72 := Tryz.isAgg122
 z72 := Tryz.sizeOf122
 v72 := Tryz.zeroValue122
 t127 := Tryz.underlying175
 a127 := Tryz.isAgg175
 z127 := Tryz.sizeOf175
 v127 := Tryz.zeroValue175 }
theorem Tryz.Builder_Extra_169 : Builder.Extra Tryz.prog Tryz.lays169_ren := {
 sizeBuilder := by kernel_rfl
 liesBuilder := by kernel_rfl
 t5 := Tryz.underlying5
 a5 := Tryz.isAgg5
 z5 := Tryz.sizeOf5
 v5 := Tryz.zeroValue5
 infoByte := by kernel_rfl
 cellsByte := by kernel_rfl
 sizeByte := by kernel_rfl
 neB5 := by decide }
open Go.RowKit in
theorem Tryz.Builder_String_any (B b : Nat) (l : List UInt8) (w : World) (h : Lib.IsBuilder 122 5 B b (Lib.byteCells l) w) (hBw : B ≤ w.heap.size) :
   Calls Tryz.prog 66 #[.pointer (some ⟨b, 0, none⟩)] w fun e w' => e = .returned (.string ⟨l.toArray⟩) ∧ Below B w w' := Any.Builder_String_any Tryz.lays169 Tryz.Builder_Extra_169 B b l w h hBw
def Tryz.lays156_ren : Go.Shelf.Ren := ⟨fun | 156 => 160 | 165 => 217 | 166 => 65 | 169 => 66 | 240 => 117 | 241 => 254 | 276 => 176 | 277 => 278 | n => n, fun | 31 => 23 | 9 => 9 | 3 => 3 | 4 => 4 | 0 => 0 | 20 => 20 | 72 => 122 | 76 => 125 | 70 => 120 | 37 => 55 | 75 => 124 | 127 => 175 | 164 => 218 | 5 => 5 | 80 => 127 | n => n, fun | n => n⟩
theorem Tryz.lays156 : Go.Proofs.Lays.n156 Tryz.prog Tryz.lays156_ren := {
 mixed := by kernel_rfl
 f156 := Tryz.func160.trans (congrArg some (by kernel_rfl))
 f165 := Tryz.func217.trans (congrArg some (by kernel_rfl))
 f166 := Tryz.func65.trans (congrArg some (by kernel_rfl))
 f169 := Tryz.func66.trans (congrArg some (by kernel_rfl))
 f240 := Tryz.func117.trans (congrArg some (by kernel_rfl))
 f241 := Tryz.func254.trans (congrArg some (by kernel_rfl))
 f276 := Tryz.func176.trans (congrArg some (by kernel_rfl))
 f277 := Tryz.func278.trans (congrArg some (by kernel_rfl))
 t0 := Tryz.underlying0
 a0 := Tryz.isAgg0
 z0 := Tryz.sizeOf0
 v0 := Tryz.zeroValue0
 t3 := Tryz.underlying3
 a3 := Tryz.isAgg3
 z3 := Tryz.sizeOf3
 v3 := Tryz.zeroValue3
 t4 := Tryz.underlying4
 a4 := Tryz.isAgg4
 z4 := Tryz.sizeOf4
 v4 := Tryz.zeroValue4
 t9 := Tryz.underlying9
 a9 := Tryz.isAgg9
 z9 := Tryz.sizeOf9
 v9 := Tryz.zeroValue9
 t20 := Tryz.underlying20
 a20 := Tryz.isAgg20
 z20 := Tryz.sizeOf20
 v20 := Tryz.zeroValue20
 t31 := Tryz.underlying23
 a31 := Tryz.isAgg23
 z31 := Tryz.sizeOf23
 v31 := Tryz.zeroValue23
 t37 := Tryz.underlying55
 a37 := Tryz.isAgg55
 z37 := Tryz.sizeOf55
 v37 := Tryz.zeroValue55
 t70 := Tryz.underlying120
 a70 := Tryz.isAgg120
 z70 := Tryz.sizeOf120
 v70 := Tryz.zeroValue120
 t72 := Tryz.underlying122
 a72 := Tryz.isAgg122
 z72 := Tryz.sizeOf122
 v72 := Tryz.zeroValue122
 t75 := Tryz.underlying124
 a75 := Tryz.isAgg124
 z75 := Tryz.sizeOf124
 v75 := Tryz.zeroValue124
 t76 := Tryz.underlying125
 a76 := Tryz.isAgg125
 z76 := Tryz.sizeOf125
 v76 := Tryz.zeroValue125
 t127 := Tryz.underlying175
 a127 := Tryz.isAgg175
 z127 := Tryz.sizeOf175
 v127 := Tryz.zeroValue175
 t164 := Tryz.underlying218
 a164 := Tryz.isAgg218
 z164 := Tryz.sizeOf218
 v164 := Tryz.zeroValue218 }
theorem Tryz.Builder_Extra_156 : Builder.Extra Tryz.prog Tryz.lays156_ren := {
 sizeBuilder := by kernel_rfl
 liesBuilder := by kernel_rfl
 t5 := Tryz.underlying5
 a5 := Tryz.isAgg5
 z5 := Tryz.sizeOf5
 v5 := Tryz.zeroValue5
 infoByte := by kernel_rfl
 cellsByte := by kernel_rfl
 sizeByte := by kernel_rfl
 neB5 := by decide }
open Go.RowKit in
theorem Tryz.strings_Join_none (a : Option Addr) (c : Nat) (sep : ByteArray) (w : World) :
   Calls Tryz.prog 160 #[.slice a 0 c, .string sep] w fun e w' => e = .returned (.string ⟨#[]⟩) ∧ w' = w := Any.strings_Join_none Tryz.lays156 Tryz.Builder_Extra_156 a c sep w
open Go.RowKit in
theorem Tryz.strings_Join (bk o c : Nat) (xs : List ByteArray) (sep : ByteArray) (w : World) (hcells : ∀ (j : Nat) x, xs[j]? = some x → w.cell? ⟨bk, o + j, none⟩ = some (.string x)) (hbk : bk < w.heap.size) (hN : xs.length ≤ 140737488355328) (hcap : xs.length ≤ c) (hlen : (Lib.join (xs.map (·.data.toList)) sep.data.toList).length ≤ 140737488355328) :
   Calls Tryz.prog 160 #[.slice (some ⟨bk, o, none⟩) xs.length c, .string sep] w fun e w' => e = .returned (.string ⟨(Lib.join (xs.map (·.data.toList)) sep.data.toList).toArray⟩) ∧ Below w.heap.size w w' := Any.strings_Join Tryz.lays156 Tryz.Builder_Extra_156 bk o c xs sep w hcells hbk hN hcap hlen
def Tryz.lays119_ren : Go.Shelf.Ren := ⟨fun | 119 => 212 | n => n, fun | 21 => 21 | 4 => 4 | n => n, fun | n => n⟩
theorem Tryz.lays119 : Go.Proofs.Lays.n119 Tryz.prog Tryz.lays119_ren := {
 mixed := by kernel_rfl
 f119 := Tryz.func212.trans (congrArg some (by kernel_rfl))
 t4 := Tryz.underlying4
 a4 := Tryz.isAgg4
 z4 := Tryz.sizeOf4
 v4 := Tryz.zeroValue4
 t21 := Tryz.underlying21
 a21 := Tryz.isAgg21
 z21 := Tryz.sizeOf21
 v21 := Tryz.zeroValue21 }
theorem Tryz.utf8_ValidRune (r : Int) (w : World) :
   Calls Tryz.prog 212 #[.int .i32 r] w fun e w' => e = .returned (.bool (Lib.validRune r)) ∧ w' = w := Any.utf8_ValidRune Tryz.lays119 r w
def Tryz.lays137_ren : Go.Shelf.Ren := ⟨fun | 137 => 88 | 217 => 143 | 266 => 194 | n => n, fun | 9 => 9 | 5 => 5 | 3 => 3 | n => n, fun | n => n⟩
theorem Tryz.lays137 : Go.Proofs.Lays.n137 Tryz.prog Tryz.lays137_ren := {
 mixed := by kernel_rfl
 f137 := Tryz.func88.trans (congrArg some (by kernel_rfl))
 f217 := Tryz.func143.trans (congrArg some (by kernel_rfl))
 f266 := Tryz.func194.trans (congrArg some (by kernel_rfl))
 t3 := Tryz.underlying3
 a3 := Tryz.isAgg3
 z3 := Tryz.sizeOf3
 v3 := Tryz.zeroValue3
 t5 := Tryz.underlying5
 a5 := Tryz.isAgg5
 z5 := Tryz.sizeOf5
 v5 := Tryz.zeroValue5
 t9 := Tryz.underlying9
 a9 := Tryz.isAgg9
 z9 := Tryz.sizeOf9
 v9 := Tryz.zeroValue9 }
open Go.RowKit in
theorem Tryz.strings_IndexByte (s : ByteArray) (c : Int) (w : World) :
   Calls Tryz.prog 88 #[.string s, .int .u8 c] w fun e w' => e = .returned (.int .i64 (Lib.indexByte s.data.toList c.toNat.toUInt8)) ∧ w' = w := Any.strings_IndexByte Tryz.lays137 s c w
def Tryz.lays144_ren : Go.Shelf.Ren := ⟨fun | 144 => 101 | 143 => 159 | 219 => 216 | 217 => 143 | 225 => 214 | 224 => 213 | 267 => 253 | 266 => 194 | 314 => 277 | n => n, fun | 9 => 9 | 4 => 4 | 3 => 3 | 5 => 5 | 46 => 201 | 146 => 296 | 51 => 243 | n => n, fun | 1 => 0 | n => n⟩
theorem Tryz.lays144 : Go.Proofs.Lays.n144 Tryz.prog Tryz.lays144_ren := {
 mixed := by kernel_rfl
 f143 := Tryz.func159.trans (congrArg some (by kernel_rfl))
 f144 := Tryz.func101.trans (congrArg some (by kernel_rfl))
 f217 := Tryz.func143.trans (congrArg some (by kernel_rfl))
 f219 := Tryz.func216.trans (congrArg some (by kernel_rfl))
 f224 := Tryz.func213.trans (congrArg some (by kernel_rfl))
 f225 := Tryz.func214.trans (congrArg some (by kernel_rfl))
 f266 := Tryz.func194.trans (congrArg some (by kernel_rfl))
 f267 := Tryz.func253.trans (congrArg some (by kernel_rfl))
 f314 := Tryz.func277.trans (congrArg some (by kernel_rfl))
 t3 := Tryz.underlying3
 a3 := Tryz.isAgg3
 z3 := Tryz.sizeOf3
 v3 := Tryz.zeroValue3
 t4 := Tryz.underlying4
 a4 := Tryz.isAgg4
 z4 := Tryz.sizeOf4
 v4 := Tryz.zeroValue4
 t5 := Tryz.underlying5
 a5 := Tryz.isAgg5
 z5 := Tryz.sizeOf5
 v5 := Tryz.zeroValue5
 t9 := Tryz.underlying9
 a9 := Tryz.isAgg9
 z9 := Tryz.sizeOf9
 v9 := Tryz.zeroValue9
 t46 := Tryz.underlying201
 a46 := Tryz.isAgg201
 z46 := Tryz.sizeOf201
 v46 := Tryz.zeroValue201
 t51 := Tryz.underlying243
 a51 := Tryz.isAgg243
 z51 := Tryz.sizeOf243
 v51 := Tryz.zeroValue243
 t146 := Tryz.underlying296
 a146 := Tryz.isAgg296
 z146 := Tryz.sizeOf296
 v146 := Tryz.zeroValue296
 g1 := by kernel_rfl }
open Go.RowKit Go.Lib in
theorem Tryz.strings_Contains_one (s : ByteArray) (c : UInt8) (w : World) :
   Calls Tryz.prog 101 #[.string s, .string ⟨#[c]⟩] w fun e w' => e = .returned (.bool (decide (0 ≤ Lib.indexByte s.data.toList c))) ∧ w' = w := Any.strings_Contains_one Tryz.lays144 s c w
def Tryz.lays99_ren : Go.Shelf.Ren := ⟨fun | 99 => 48 | 206 => 100 | n => n, fun | 9 => 9 | 4 => 4 | 3 => 3 | n => n, fun | n => n⟩
theorem Tryz.lays99 : Go.Proofs.Lays.n99 Tryz.prog Tryz.lays99_ren := {
 mixed := by kernel_rfl
 f99 := Tryz.func48.trans (congrArg some (by kernel_rfl))
 f206 := Tryz.func100.trans (congrArg some (by kernel_rfl))
 t3 := Tryz.underlying3
 a3 := Tryz.isAgg3
 z3 := Tryz.sizeOf3
 v3 := Tryz.zeroValue3
 t4 := Tryz.underlying4
 a4 := Tryz.isAgg4
 z4 := Tryz.sizeOf4
 v4 := Tryz.zeroValue4
 t9 := Tryz.underlying9
 a9 := Tryz.isAgg9
 z9 := Tryz.sizeOf9
 v9 := Tryz.zeroValue9 }
open Go.RowKit Go.Lib in
theorem Tryz.strings_HasPrefix (s p : ByteArray) (w : World) :
   Calls Tryz.prog 48 #[.string s, .string p] w fun e w' => e = .returned (.bool (Lib.hasPrefix s.data.toList p.data.toList)) ∧ w' = w := Any.strings_HasPrefix Tryz.lays99 s p w
def Tryz.lays146_ren : Go.Shelf.Ren := ⟨fun | 146 => 51 | 221 => 107 | 268 => 161 | 138 => 162 | 143 => 159 | 195 => 218 | 197 => 219 | 218 => 220 | 219 => 216 | 260 => 255 | 217 => 143 | 225 => 214 | 224 => 213 | 267 => 253 | 266 => 194 | 314 => 277 | n => n, fun | 9 => 9 | 31 => 23 | 3 => 3 | 4 => 4 | 0 => 0 | 105 => 250 | 21 => 21 | 5 => 5 | 46 => 201 | 119 => 299 | 139 => 302 | 138 => 301 | 146 => 296 | 51 => 243 | n => n, fun | 1 => 0 | 3 => 1 | 4 => 2 | n => n⟩
theorem Tryz.lays146 : Go.Proofs.Lays.n146 Tryz.prog Tryz.lays146_ren := {
 mixed := by kernel_rfl
 f138 := Tryz.func162.trans (congrArg some (by kernel_rfl))
 f143 := Tryz.func159.trans (congrArg some (by kernel_rfl))
 f146 := Tryz.func51.trans (congrArg some (by kernel_rfl))
 f195 := Tryz.func218.trans (congrArg some (by kernel_rfl))
 f197 := Tryz.func219.trans (congrArg some (by kernel_rfl))
 f217 := Tryz.func143.trans (congrArg some (by kernel_rfl))
 f218 := Tryz.func220.trans (congrArg some (by kernel_rfl))
 f219 := Tryz.func216.trans (congrArg some (by kernel_rfl))
 f221 := Tryz.func107.trans (congrArg some (by kernel_rfl))
 f224 := Tryz.func213.trans (congrArg some (by kernel_rfl))
 f225 := Tryz.func214.trans (congrArg some (by kernel_rfl))
 f260 := Tryz.func255.trans (congrArg some (by kernel_rfl))
 f266 := Tryz.func194.trans (congrArg some (by kernel_rfl))
 f267 := Tryz.func253.trans (congrArg some (by kernel_rfl))
 f268 := Tryz.func161.trans (congrArg some (by kernel_rfl))
 f314 := Tryz.func277.trans (congrArg some (by kernel_rfl))
 t0 := Tryz.underlying0
 a0 := Tryz.isAgg0
 z0 := Tryz.sizeOf0
 v0 := Tryz.zeroValue0
 t3 := Tryz.underlying3
 a3 := Tryz.isAgg3
 z3 := Tryz.sizeOf3
 v3 := Tryz.zeroValue3
 t4 := Tryz.underlying4
 a4 := Tryz.isAgg4
 z4 := Tryz.sizeOf4
 v4 := Tryz.zeroValue4
 t5 := Tryz.underlying5
 a5 := Tryz.isAgg5
 z5 := Tryz.sizeOf5
 v5 := Tryz.zeroValue5
 t9 := Tryz.underlying9
 a9 := Tryz.isAgg9
 z9 := Tryz.sizeOf9
 v9 := Tryz.zeroValue9
 t21 := Tryz.underlying21
 a21 := Tryz.isAgg21
 z21 := Tryz.sizeOf21
 v21 := Tryz.zeroValue21
 t31 := Tryz.underlying23
 a31 := Tryz.isAgg23
 z31 := Tryz.sizeOf23
 v31 := Tryz.zeroValue23
 t46 := Tryz.underlying201
 a46 := Tryz.isAgg201
 z46 := Tryz.sizeOf201
 v46 := Tryz.zeroValue201
 t51 := Tryz.underlying243
 a51 := Tryz.isAgg243
 z51 := Tryz.sizeOf243
 v51 := Tryz.zeroValue243
 t105 := Tryz.underlying250
 a105 := Tryz.isAgg250
 z105 := Tryz.sizeOf250
 v105 := Tryz.zeroValue250
 t119 := Tryz.underlying299
 a119 := Tryz.isAgg299
 z119 := Tryz.sizeOf299
 t138 := Tryz.underlying301
 a138 := Tryz.isAgg301
 z138 := Tryz.sizeOf301
 v138 := Tryz.zeroValue301
 t139 := Tryz.underlying302
 a139 := Tryz.isAgg302
 z139 := Tryz.sizeOf302
 v139 := Tryz.zeroValue302
 t146 := Tryz.underlying296
 a146 := Tryz.isAgg296
 z146 := Tryz.sizeOf296
 v146 := Tryz.zeroValue296
 g1 := by kernel_rfl
 g3 := by kernel_rfl
 g4 := by kernel_rfl }
open Go.RowKit Go.Lib in
theorem Tryz.strings_Split (s sep : ByteArray) (m : Int) (w : World) (hs : s.size < 4294967281) (hm : w.cell? ⟨0, 0, none⟩ = some (.int .i64 m)) (h1 : 1 ≤ sep.size) :
   Calls Tryz.prog 51 #[.string s, .string sep] w fun e w' =>
     e = .returned (.slice (some ⟨w.heap.size, 0, none⟩) (Lib.countB s sep + 1) (Lib.countB s sep + 1)) ∧ w' = w.alloc (.cells ((Lib.splitB sep 0 (Lib.countB s sep) s).map Value.string).toArray 9) := Any.strings_Split Tryz.lays146 (by kernel_rfl) s sep m w hs hm h1
def Tryz.laysM146_ren : Go.Shelf.Ren := ⟨fun | 146 => 51 | 221 => 107 | 268 => 161 | 138 => 162 | 143 => 159 | 195 => 218 | 197 => 219 | 218 => 220 | 219 => 216 | 260 => 255 | 217 => 143 | 225 => 214 | 224 => 213 | 267 => 253 | 266 => 194 | 314 => 277 | n => n, fun | 9 => 9 | 31 => 23 | 3 => 3 | 4 => 4 | 0 => 0 | 105 => 250 | 21 => 21 | 5 => 5 | 46 => 201 | 119 => 299 | 139 => 302 | 138 => 301 | 146 => 296 | 51 => 243 | n => n, fun | 1 => 0 | 3 => 1 | 4 => 2 | n => n⟩
theorem Tryz.laysM146 : Go.Proofs.LaysM.n146 Tryz.prog Tryz.laysM146_ren := {
 mixed := by kernel_rfl
 f138 := Tryz.func162.trans (congrArg some (by kernel_rfl))
 f143 := Tryz.func159.trans (congrArg some (by kernel_rfl))
 f146 := Tryz.func51.trans (congrArg some (by kernel_rfl))
 f195 := Tryz.func218.trans (congrArg some (by kernel_rfl))
 f197 := Tryz.func219.trans (congrArg some (by kernel_rfl))
 f217 := Tryz.func143.trans (congrArg some (by kernel_rfl))
 f218 := Tryz.func220.trans (congrArg some (by kernel_rfl))
 f219 := Tryz.func216.trans (congrArg some (by kernel_rfl))
 f221 := Tryz.func107.trans (congrArg some (by kernel_rfl))
 f224 := Tryz.func213.trans (congrArg some (by kernel_rfl))
 f225 := Tryz.func214.trans (congrArg some (by kernel_rfl))
 f260 := Tryz.func255.trans (congrArg some (by kernel_rfl))
 f266 := Tryz.func194.trans (congrArg some (by kernel_rfl))
 f267 := Tryz.func253.trans (congrArg some (by kernel_rfl))
 f268 := Tryz.func161.trans (congrArg some (by kernel_rfl))
 f314 := Tryz.func277.trans (congrArg some (by kernel_rfl))
 t0 := Tryz.underlying0
 a0 := Tryz.isAgg0
 z0 := Tryz.sizeOf0
 v0 := Tryz.zeroValue0
 t3 := Tryz.underlying3
 a3 := Tryz.isAgg3
 z3 := Tryz.sizeOf3
 v3 := Tryz.zeroValue3
 t4 := Tryz.underlying4
 a4 := Tryz.isAgg4
 z4 := Tryz.sizeOf4
 v4 := Tryz.zeroValue4
 t5 := Tryz.underlying5
 a5 := Tryz.isAgg5
 z5 := Tryz.sizeOf5
 v5 := Tryz.zeroValue5
 t9 := Tryz.underlying9
 a9 := Tryz.isAgg9
 z9 := Tryz.sizeOf9
 v9 := Tryz.zeroValue9
 t21 := Tryz.underlying21
 a21 := Tryz.isAgg21
 z21 := Tryz.sizeOf21
 v21 := Tryz.zeroValue21
 t31 := Tryz.underlying23
 a31 := Tryz.isAgg23
 z31 := Tryz.sizeOf23
 v31 := Tryz.zeroValue23
 t46 := Tryz.underlying201
 a46 := Tryz.isAgg201
 z46 := Tryz.sizeOf201
 v46 := Tryz.zeroValue201
 t51 := Tryz.underlying243
 a51 := Tryz.isAgg243
 z51 := Tryz.sizeOf243
 v51 := Tryz.zeroValue243
 t105 := Tryz.underlying250
 a105 := Tryz.isAgg250
 z105 := Tryz.sizeOf250
 v105 := Tryz.zeroValue250
 t119 := Tryz.underlying299
 a119 := Tryz.isAgg299
 z119 := Tryz.sizeOf299
 t138 := Tryz.underlying301
 a138 := Tryz.isAgg301
 z138 := Tryz.sizeOf301
 v138 := Tryz.zeroValue301
 t139 := Tryz.underlying302
 a139 := Tryz.isAgg302
 z139 := Tryz.sizeOf302
 v139 := Tryz.zeroValue302
 t146 := Tryz.underlying296
 a146 := Tryz.isAgg296
 z146 := Tryz.sizeOf296
 v146 := Tryz.zeroValue296
 g1 := by kernel_rfl
 g3 := by kernel_rfl
 g4 := by kernel_rfl
 i0 := by kernel_rfl
 i3 := by kernel_rfl
 i4 := by kernel_rfl
 i5 := by kernel_rfl
 i9 := by kernel_rfl
 i21 := by kernel_rfl
 i31 := by kernel_rfl
 i46 := by kernel_rfl
 i51 := by kernel_rfl
 i105 := by kernel_rfl
 i138 := by kernel_rfl
 i139 := by kernel_rfl
 i146 := by kernel_rfl
 m1 := by kernel_rfl
 s1_3 := fun w h => Go.Proofs.cell_of_shapedOpen_int (zero := #[.int .i64 0]) (t := 3) h (of_decide_eq_true (by kernel_rfl)) (by kernel_rfl) rfl (by kernel_rfl) (by kernel_rfl) Tryz.underlying3
 m3 := by kernel_rfl
 m4 := by kernel_rfl }
def Tryz.lays152_ren : Go.Shelf.Ren := ⟨fun | 152 => 152 | 137 => 88 | 119 => 212 | 224 => 213 | 225 => 214 | 217 => 143 | 266 => 194 | n => n, fun | 9 => 9 | 21 => 21 | 3 => 3 | 4 => 4 | 5 => 5 | 0 => 0 | 46 => 201 | n => n, fun | n => n⟩
theorem Tryz.lays152 : Go.Proofs.Lays.n152 Tryz.prog Tryz.lays152_ren := {
 mixed := by kernel_rfl
 f119 := Tryz.func212.trans (congrArg some (by kernel_rfl))
 f137 := Tryz.func88.trans (congrArg some (by kernel_rfl))
 f152 := Tryz.func152.trans (congrArg some (by kernel_rfl))
 f217 := Tryz.func143.trans (congrArg some (by kernel_rfl))
 f224 := Tryz.func213.trans (congrArg some (by kernel_rfl))
 f225 := Tryz.func214.trans (congrArg some (by kernel_rfl))
 f266 := Tryz.func194.trans (congrArg some (by kernel_rfl))
 t0 := Tryz.underlying0
 a0 := Tryz.isAgg0
 z0 := Tryz.sizeOf0
 v0 := Tryz.zeroValue0
 t3 := Tryz.underlying3
 a3 := Tryz.isAgg3
 z3 := Tryz.sizeOf3
 v3 := Tryz.zeroValue3
 t4 := Tryz.underlying4
 a4 := Tryz.isAgg4
 z4 := Tryz.sizeOf4
 v4 := Tryz.zeroValue4
 t5 := Tryz.underlying5
 a5 := Tryz.isAgg5
 z5 := Tryz.sizeOf5
 v5 := Tryz.zeroValue5
 t9 := Tryz.underlying9
 a9 := Tryz.isAgg9
 z9 := Tryz.sizeOf9
 v9 := Tryz.zeroValue9
 t21 := Tryz.underlying21
 a21 := Tryz.isAgg21
 z21 := Tryz.sizeOf21
 v21 := Tryz.zeroValue21
 t46 := Tryz.underlying201
 a46 := Tryz.isAgg201
 z46 := Tryz.sizeOf201
 v46 := Tryz.zeroValue201 }
open Go.RowKit Go.Lib in
theorem Tryz.strings_IndexRune_ascii (s : ByteArray) (r : Int) (w : World) (h0 : 0 ≤ r) (h1 : r < 128) :
   Calls Tryz.prog 152 #[.string s, .int .i32 r] w fun e w' => e = .returned (.int .i64 (Lib.indexByte s.data.toList r.toNat.toUInt8)) ∧ w' = w := Any.strings_IndexRune_ascii Tryz.lays152 s r w h0 h1
def Tryz.lays226_ren : Go.Shelf.Ren := ⟨fun | 226 => 153 | n => n, fun | 3 => 3 | 4 => 4 | n => n, fun | n => n⟩
theorem Tryz.lays226 : Go.Proofs.Lays.n226 Tryz.prog Tryz.lays226_ren := {
 mixed := by kernel_rfl
 f226 := Tryz.func153.trans (congrArg some (by kernel_rfl))
 t3 := Tryz.underlying3
 a3 := Tryz.isAgg3
 z3 := Tryz.sizeOf3
 v3 := Tryz.zeroValue3
 t4 := Tryz.underlying4
 a4 := Tryz.isAgg4
 z4 := Tryz.sizeOf4
 v4 := Tryz.zeroValue4 }
open Go.RowKit Go.Lib in
theorem Tryz.strings_shouldUseASCIISet (n : Int) (w : World) :
   Calls Tryz.prog 153 #[.int .i64 n] w fun e w' => e = .returned (.bool (decide (8 < n))) ∧ w' = w := Any.strings_shouldUseASCIISet Tryz.lays226 n w
def Tryz.lays153_ren : Go.Shelf.Ren := ⟨fun | 153 => 95 | 152 => 152 | 226 => 153 | 227 => 154 | 228 => 155 | 137 => 88 | 119 => 212 | 224 => 213 | 225 => 214 | 217 => 143 | 266 => 194 | n => n, fun | 9 => 9 | 3 => 3 | 4 => 4 | 5 => 5 | 21 => 21 | 117 => 205 | 116 => 204 | 0 => 0 | 46 => 201 | 124 => 227 | n => n, fun | n => n⟩
theorem Tryz.lays153 : Go.Proofs.Lays.n153 Tryz.prog Tryz.lays153_ren := {
 mixed := by kernel_rfl
 f119 := Tryz.func212.trans (congrArg some (by kernel_rfl))
 f137 := Tryz.func88.trans (congrArg some (by kernel_rfl))
 f152 := Tryz.func152.trans (congrArg some (by kernel_rfl))
 f153 := Tryz.func95.trans (congrArg some (by kernel_rfl))
 f217 := Tryz.func143.trans (congrArg some (by kernel_rfl))
 f224 := Tryz.func213.trans (congrArg some (by kernel_rfl))
 f225 := Tryz.func214.trans (congrArg some (by kernel_rfl))
 f226 := Tryz.func153.trans (congrArg some (by kernel_rfl))
 f227 := Tryz.func154.trans (congrArg some (by kernel_rfl))
 f228 := Tryz.func155.trans (congrArg some (by kernel_rfl))
 f266 := Tryz.func194.trans (congrArg some (by kernel_rfl))
 t0 := Tryz.underlying0
 a0 := Tryz.isAgg0
 z0 := Tryz.sizeOf0
 v0 := Tryz.zeroValue0
 t3 := Tryz.underlying3
 a3 := Tryz.isAgg3
 z3 := Tryz.sizeOf3
 v3 := Tryz.zeroValue3
 t4 := Tryz.underlying4
 a4 := Tryz.isAgg4
 z4 := Tryz.sizeOf4
 v4 := Tryz.zeroValue4
 t5 := Tryz.underlying5
 a5 := Tryz.isAgg5
 z5 := Tryz.sizeOf5
 v5 := Tryz.zeroValue5
 t9 := Tryz.underlying9
 a9 := Tryz.isAgg9
 z9 := Tryz.sizeOf9
 v9 := Tryz.zeroValue9
 t21 := Tryz.underlying21
 a21 := Tryz.isAgg21
 z21 := Tryz.sizeOf21
 v21 := Tryz.zeroValue21
 t46 := Tryz.underlying201
 a46 := Tryz.isAgg201
 z46 := Tryz.sizeOf201
 v46 := Tryz.zeroValue201
 t116 := Tryz.underlying204
 a116 := Tryz.isAgg204
 z116 := Tryz.sizeOf204
 t117 := Tryz.underlying205
 a117 := Tryz.isAgg205
 z117 := Tryz.sizeOf205
 v117 := Tryz.zeroValue205
 t124 := Tryz.underlying227
 a124 := Tryz.isAgg227
 z124 := Tryz.sizeOf227
 v124 := Tryz.zeroValue227 }
open Go.RowKit Go.Lib in
theorem Tryz.strings_IndexAny_long (hv116 : ∀ w, (zeroValue 204).run Tryz.prog w = .ok (.agg (Array.replicate 256 (.bool false))) w) (s chars : ByteArray) (w : World) (h2 : 2 ≤ chars.size) (h8 : 8 < s.size) (hs : s.size < 4294967281) (hcs : chars.size < 4294967281) (hascii : ∀ (j : Nat) b, chars.data.toList[j]? = some b → b.toNat < 128) :
   Calls Tryz.prog 95 #[.string s, .string chars] w fun e w' => e = .returned (.int .i64 (Lib.indexAny s.data.toList chars.data.toList)) ∧ w' = ((w.alloc (.cells (Lib.setCells chars.data.toList) 204)).alloc (.cells (Lib.setCells chars.data.toList) 204)) := Any.strings_IndexAny_long Tryz.lays153 hv116 (by kernel_rfl) s chars w h2 h8 hs hcs hascii
end Go.Proofs
namespace Go.Proofs.YtpheeheikigenaaGreatDoor
section
open Go.RowKit Go.Deep
def bt (s : ByteArray) (i : Nat) : Nat := (s.data.getD i 0).toNat
theorem bt_eq (s : ByteArray) (i : Nat) (h : i < s.size) : (s[i]'h).toNat = bt s i := by
 simp only [bt, Array.getD_eq_getD_getElem?]
 have h2 : i < s.data.size := h
 rw [Array.getElem?_eq_getElem h2]
 rfl
theorem bt_lt (s : ByteArray) (i : Nat) : bt s i < 256 := by
 have := (s.data.getD i 0).toNat_lt
 simpa [bt] using this
theorem hide {p : Prop} (h : p) : Hid p := h
theorem and63_i64 (k : Nat) (h : k ≤ 1000) : bits .and .i64 (k : Int) 63 = ((k % 64 : Nat) : Int) := by
 have hx : BitVec.ofInt 64 (k : Int) &&& BitVec.ofInt 64 (63 : Int) = BitVec.ofNat 64 (k % 64) := by
   have e1 : (BitVec.ofInt 64 (k : Int)).toNat = k := by
     rw [BitVec.ofInt_natCast, BitVec.toNat_ofNat]; exact Nat.mod_eq_of_lt (by omega)
   apply BitVec.eq_of_toNat_eq
   rw [BitVec.toNat_and, e1, show (BitVec.ofInt 64 (63 : Int)).toNat = 2 ^ 6 - 1 from rfl, Nat.and_two_pow_sub_one_eq_mod, BitVec.toNat_ofNat]
   omega
 show IntKind.i64.wrap ((BitVec.ofInt 64 (k : Int) &&& BitVec.ofInt 64 (63 : Int)).toNat : Int) = _
 rw [hx, BitVec.toNat_ofNat, IntKind.wrap_i64]
 omega
theorem below_drewN {B : Nat} {a w : World} (h : Below B a w) (n : Nat) : Below B a (w.drewN n) := ⟨h.os, h.tape, h.output, h.size, h.block⟩
theorem gb_drew {a w : World} {r : Option Nat} (h : a.grownBy w r) : a.grownBy w.drew r := ⟨h.os, h.tape, h.output, h.size, h.block⟩
theorem gb_setCell {a w : World} {g : Nat} (h : a.grownBy w (some g)) (i : Nat) (u : Value) : a.grownBy (w.setCell ⟨g, i, none⟩ u) (some g) :=
 ⟨h.os, h.tape, h.output, by simpa [World.setCell] using h.size, fun k hk hne => (Below.heap_setCell w _ u k (by rintro rfl; exact hne rfl)).trans (h.block k hk hne)⟩
theorem below_of_gb {B g : Nat} {a w : World} (h : a.grownBy w (some g)) (hB : B ≤ a.heap.size) (hg : B ≤ g) : Below B a w :=
 ⟨h.os, h.tape, h.output, h.size, fun k hk => h.block k (by omega) (by intro e; injection e; omega)⟩
theorem u64_or_pow (n b : Nat) (hn : n < 18446744073709551616) (hb : b < 64) : bits .or .u64 (n : Int) (IntKind.u64.wrap (2 ^ b)) = ((n ||| 2 ^ b : Nat) : Int) := by
 have h1 : (2 : Nat) ^ b < 18446744073709551616 := by
   have : (2 : Nat) ^ b < 2 ^ 64 := Nat.pow_lt_pow_right (by omega) hb
   simpa using this
 have e : IntKind.u64.wrap ((2 : Int) ^ b) = ((2 ^ b : Nat) : Int) := by
   rw [IntKind.wrap_u64]
   have : ((2 : Int) ^ b) = ((2 ^ b : Nat) : Int) := by push_cast; rfl
   rw [this]
   generalize 2 ^ b = x at h1
   omega
 rw [e, u64_or_nat n (2 ^ b) hn h1]
theorem u64_not (n : Nat) (hn : n < 18446744073709551616) : bits .xor .u64 (if IntKind.u64.signed = true then -1 else IntKind.u64.max) (n : Int) = ((18446744073709551615 - n : Nat) : Int) := by
 have e : (if IntKind.u64.signed = true then -1 else IntKind.u64.max) = ((18446744073709551615 : Nat) : Int) := by rw [if_neg (by decide)]; rfl
 rw [e, u64_xor_nat _ _ (by omega) hn]
 congr 1
 apply Nat.eq_of_testBit_eq
 intro b
 have e1 : 18446744073709551615 = 2 ^ 64 - (0 + 1) := by omega
 have e2 : 18446744073709551615 - n = 2 ^ 64 - (n + 1) := by omega
 rw [Nat.testBit_xor, e2, Nat.testBit_two_pow_sub_succ (by omega), e1, Nat.testBit_two_pow_sub_succ (by omega)]
 by_cases hb : b < 64
 · simp [hb]
 · have : n < 2 ^ b := Nat.lt_of_lt_of_le (show n < 2 ^ 64 by omega) (Nat.pow_le_pow_right (by omega) (by omega))
   simp [hb, Nat.testBit_lt_two_pow this]
theorem wpList_app1 {P : Program} {ops : Array Oper} {rest : List Oper} {o : Oper} {a : Act} {Q : Exit → Act → World → Prop} (wr : World) (hgd : o.guard = none) (s x : Operand) (t : TypeId)
   (ho : o.op = .call { callee := .builtin .append, args := #[s, x], argTypes := #[t, t] })
   (base : Nat) (e : TypeId) (i : TypeInfo) (z : Value) (size bytes : Nat) (ht : P.underlying t = some (.slice e)) (hi : P.info? e = some i) (hz : i.zero = some z)
   (hsize : i.size = size) (hby : i.bytes = bytes) (hzs : z.cells.size = size) (hsz : 0 < size)
   (v : Value) (n : Nat) (xs : List Value) (hs : a.eval s = v) (hown : wr.ownsRow base e size v n xs)
   (news : Array Value) (c : Nat) (hx : a.eval x = .slice (some ⟨wr.heap.size, 0, none⟩) 1 c) (hl : news.size = size) (h1 : ∀ u ∈ news.toList, u.oneCell' = true)
   (h63 : n + 1 ≤ maxLen) (hbytes : (n + 1) * bytes ≤ 140737488355328) (hbase : base ≤ wr.heap.size) (B : Nat) (w0 : World) (hB : Below B w0 wr) (hb0 : B ≤ base)
   (h : ∀ v' w', w'.ownsRow base e size v' (n + 1) (xs ++ news.toList) → Below B w0 w' → wpList P ops Q rest (a.put o.dst v') w') : wpList P ops Q (o :: rest) a (wr.alloc (.cells news e)) := by
 refine wpList_append_own _ hgd s x t ho base e i z size bytes ht hi hz hsize hby hzs hsz v n xs hs (hown.alloc _) ⟨wr.heap.size, 0, none⟩ 1 c news.toList hx (by simp [hl]) (fun j u hu => ?_) h1 h63 hbytes (by simp; omega) ?_
 · have : (wr.alloc (.cells news e)).cell? ⟨wr.heap.size, j, none⟩ = some u := by
     rw [World.cell?_alloc_at _ _ _ _ rfl]
     simpa using hu
   unfold Addr.add
   by_cases hj : j = 0
   · subst hj; simpa using this
   · simpa [hj] using this
 · intro v' w' hown' hg _
   refine h v' w' hown' ?_
   exact (hB.alloc (by omega) _).grown hg (by simp; omega) (fun k hk => by
     have := hown.lt k hk
     omega)
theorem own_below {w w' : World} {base : Nat} {e : TypeId} {size n : Nat} {v : Value} {xs : List Value} (h : w.ownsRow base e size v n xs) (hb : Below w.heap.size w w') : w'.ownsRow base e size v n xs :=
 h.kept (row := none) ⟨hb.os, hb.tape, hb.output, hb.size, fun i hi _ => hb.block i hi⟩ (by
   rcases h' : v.ownBlock with _ | k
   · exact .inl rfl
   · exact .inr (by simp))
theorem own_gb {w w' : World} {base : Nat} {e : TypeId} {size n g : Nat} {v : Value} {xs : List Value} (h : w.ownsRow base e size v n xs) (hg : w.grownBy w' (some g)) (hne : ∀ k, v.ownBlock = some k → k ≠ g) : w'.ownsRow base e size v n xs :=
 h.kept hg (by
   rcases h' : v.ownBlock with _ | k
   · exact .inl rfl
   · exact .inr (by intro e; injection e with e; exact hne k h' e))
theorem below_up {B : Nat} {a b c : World} (h : Below B a b) (k : Below b.heap.size b c) (hB : B ≤ b.heap.size) : Below B a c := h.trans (k.mono hB)
end
section
open Go.RowKit Go.Deep
theorem wpList_app1at {P : Program} {ops : Array Oper} {rest : List Oper} {o : Oper} {a : Act} {Q : Exit → Act → World → Prop} (wr : World) (hgd : o.guard = none) (s x : Operand) (t : TypeId)
   (ho : o.op = .call { callee := .builtin .append, args := #[s, x], argTypes := #[t, t] })
   (base : Nat) (e : TypeId) (i : TypeInfo) (z : Value) (size bytes : Nat) (ht : P.underlying t = some (.slice e)) (hi : P.info? e = some i) (hz : i.zero = some z)
   (hsize : i.size = size) (hby : i.bytes = bytes) (hzs : z.cells.size = size) (hsz : 0 < size)
   (v : Value) (n : Nat) (xs : List Value) (hs : a.eval s = v) (hown : wr.ownsRow base e size v n xs)
   (news : Array Value) (c : Nat) (hx : a.eval x = .slice (some ⟨wr.heap.size, 0, none⟩) 1 c) (hl : news.size = size) (h1 : ∀ u ∈ news.toList, u.oneCell' = true)
   (h63 : n + 1 ≤ maxLen) (hbytes : (n + 1) * bytes ≤ 140737488355328) (hbase : base ≤ wr.heap.size)
   (h : ∀ v' w', w'.ownsRow base e size v' (n + 1) (xs ++ news.toList) → (wr.alloc (.cells news e)).grownBy w' v.ownBlock → (v'.ownBlock = v.ownBlock ∨ v'.ownBlock = some (wr.heap.size + 1)) → wpList P ops Q rest (a.put o.dst v') w') :
   wpList P ops Q (o :: rest) a (wr.alloc (.cells news e)) := by
 refine wpList_append_own_at _ hgd s x t ho base e i z size bytes ht hi hz hsize hby hzs hsz v n xs hs (hown.alloc _) ⟨wr.heap.size, 0, none⟩ 1 c news.toList hx (by simp [hl]) (fun j u hu => ?_) h1 h63 hbytes (by simp; omega) ?_
 · have : (wr.alloc (.cells news e)).cell? ⟨wr.heap.size, j, none⟩ = some u := by
     rw [World.cell?_alloc_at _ _ _ _ rfl]
     simpa using hu
   unfold Addr.add
   by_cases hj : j = 0
   · subst hj; simpa using this
   · simpa [hj] using this
 · intro v' w' hown' hg _ hb
   exact h v' w' hown' hg (by simpa using hb)
def nbytes (l : List Nat) : List Value := l.map fun n => .int .u8 (n : Nat)
def OwnB (w : World) (base : Nat) (v : Value) (l : List Nat) : Prop := w.ownsRow base 5 1 v l.length (nbytes l)
theorem info5 : (Tryz.prog.info? 5).map (fun i => (i.zero, i.size, i.bytes)) = some (some (.int .u8 0), 1, 1) := by kernel_rfl
theorem nbytes_snoc (l : List Nat) (b : Nat) : nbytes (l ++ [b]) = nbytes l ++ [.int .u8 b] := by simp [nbytes]
theorem wpList_appB {ops : Array Oper} {rest : List Oper} {o : Oper} {a : Act} {Q : Exit → Act → World → Prop} (wr : World) (hgd : o.guard = none) (s x : Operand)
   (ho : o.op = .call { callee := .builtin .append, args := #[s, x], argTypes := #[55, 55] }) (base : Nat) (v : Value) (l : List Nat) (hs : a.eval s = v)
   (hown : OwnB wr base v l) (b : Nat) (hx : a.eval x = .slice (some ⟨wr.heap.size, 0, none⟩) 1 1) (hl : l.length ≤ 1000000) (hbase : base ≤ wr.heap.size)
   (h : ∀ v' w', OwnB w' base v' (l ++ [b]) → (wr.alloc (.cells #[.int .u8 (b : Nat)] 5)).grownBy w' v.ownBlock → (v'.ownBlock = v.ownBlock ∨ v'.ownBlock = some (wr.heap.size + 1)) → wpList Tryz.prog ops Q rest (a.put o.dst v') w') :
   wpList Tryz.prog ops Q (o :: rest) a (wr.alloc (.cells #[.int .u8 (b : Nat)] 5)) := by
 obtain ⟨i0, hi, hz0, hz1, hz2⟩ := info_parts info5
 refine wpList_app1at wr hgd s x 55 ho base 5 i0 _ 1 1 Tryz.underlying55 hi hz0 hz1 hz2 rfl (by omega) v l.length (nbytes l) hs hown _ 1 hx rfl (by intro u hu; simp at hu; subst hu; rfl)
   (by simp only [maxLen]; omega) (by omega) hbase ?_
 intro v' w' ho' hg hb
 refine h v' w' ?_ hg hb
 unfold OwnB
 rw [nbytes_snoc, List.length_append]
 exact ho'
end
section
open Go.RowKit
structure Kp (w w' : World) (S : Nat → Prop) : Prop where
 os : w'.os = w.os
 tape : w'.tape = w.tape
 output : w'.output = w.output
 size : w.heap.size ≤ w'.heap.size
 block : ∀ k, k < w.heap.size → ¬ S k → w'.heap[k]? = w.heap[k]?
theorem Kp.below {w w' : World} {S : Nat → Prop} (h : Kp w w' S) {B : Nat} {a : World} (ha : Below B a w) (hB : B ≤ a.heap.size) (hS : ∀ k, S k → B ≤ k) : Below B a w' :=
 ha.trans ⟨h.os, h.tape, h.output, h.size, fun k hk => h.block k (by have := ha.size; omega) (fun c => by have := hS k c; omega)⟩
theorem Kp.of_below {w w' : World} (h : Below w.heap.size w w') (S : Nat → Prop) : Kp w w' S := ⟨h.os, h.tape, h.output, h.size, fun k hk _ => h.block k hk⟩
theorem Kp.mono {w w' : World} {S S' : Nat → Prop} (h : Kp w w' S) (hS : ∀ k, S k → S' k) : Kp w w' S' := ⟨h.os, h.tape, h.output, h.size, fun k hk hn => h.block k hk (fun c => hn (hS k c))⟩
theorem Kp.trans {w w' w'' : World} {S : Nat → Prop} (h : Kp w w' S) (h' : Kp w' w'' (fun k => S k ∨ w.heap.size ≤ k)) : Kp w w'' S :=
 ⟨h'.os.trans h.os, h'.tape.trans h.tape, h'.output.trans h.output, Nat.le_trans h.size h'.size, fun k hk hn => (h'.block k (Nat.lt_of_lt_of_le hk h.size) (fun c => c.elim hn (fun c => absurd hk (Nat.not_lt.2 c)))).trans (h.block k hk hn)⟩
theorem heapNew (w : World) (o : Obj) : (w.alloc o).heap[w.heap.size]? = some o := by
 show (w.heap.push o)[w.heap.size]? = some o
 simp
end
section
open Go.RowKit
abbrev AsnN := (Nat → Prop) → (Nat → Prop) → World → Prop
def FrN (A : AsnN) : Prop := ∀ T N N' w w', A T N w → (∀ k, T k ∨ N k → w'.heap[k]? = w.heap[k]?) → (∀ k, N k → N' k) → w.heap.size ≤ w'.heap.size → A T N' w'
def sep (A B : AsnN) : AsnN := fun T N w => ∃ T1 T2, A T1 N w ∧ B T2 N w ∧ (∀ k, T1 k → T k) ∧ (∀ k, T2 k → T k) ∧ ∀ k, T1 k → ¬ T2 k
def OkTN (T N : Nat → Prop) (w : World) : Prop := (∀ k, T k → k < w.heap.size ∧ ¬ N k) ∧ ∀ k, N k → k < w.heap.size
def GrowN (w w' : World) (T N T' N' : Nat → Prop) : Prop := (∀ k, T' k → T k ∨ w.heap.size ≤ k) ∧ (∀ k, N k → N' k) ∧ (∀ k, N' k → N k ∨ w.heap.size ≤ k) ∧ OkTN T' N' w'
theorem GrowN.refl {T N : Nat → Prop} {w w' : World} (h : OkTN T N w) (hs : w.heap.size ≤ w'.heap.size) : GrowN w w' T N T N :=
 ⟨fun _ h => .inl h, fun _ h => h, fun _ h => .inl h, fun k hk => ⟨Nat.lt_of_lt_of_le (h.1 k hk).1 hs, (h.1 k hk).2⟩, fun k hk => Nat.lt_of_lt_of_le (h.2 k hk) hs⟩
end
section
open Go.RowKit
def bs (l : List UInt8) : ByteArray := ⟨l.toArray⟩
theorem bs_list (l : List UInt8) : (bs l).data.toList = l := by simp [bs]
theorem bs_size (l : List UInt8) : (bs l).size = l.length := by simp [bs, ByteArray.size]
theorem bs_app (a b : List UInt8) : bs a ++ bs b = bs (a ++ b) := by
 apply ByteArray.ext
 simp [bs]
theorem bs_of (s : ByteArray) : bs s.data.toList = s := by apply ByteArray.ext; simp [bs]
theorem bs_toList (l : List UInt8) : (bs l).toList = l := by rw [ByteArray.toList_eq, bs_list]
theorem ext_bs (l : List UInt8) (i j : Nat) : (bs l).extract i j = bs ((l.drop i).take (j - i)) := by
 apply ByteArray.ext
 apply Array.ext'
 rw [Lib.extract_data]
 simp [bs]
theorem ixb_ge (c : UInt8) : ∀ l : List UInt8, -1 ≤ Lib.indexByte l c
 | [] => by simp [Lib.indexByte]
 | b :: l => by
   have := ixb_ge c l
   rw [Lib.indexByte]
   split
   · omega
   · split <;> omega
theorem ixb_mem (c : UInt8) : ∀ l : List UInt8, 0 ≤ Lib.indexByte l c ↔ c ∈ l
 | [] => by simp [Lib.indexByte]
 | b :: l => by
   have h1 := ixb_mem c l
   have h2 := ixb_ge c l
   rw [Lib.indexByte, List.mem_cons, ← h1]
   by_cases e : b = c
   · subst e; simp
   · have e2 : c ≠ b := fun h => e h.symm
     rw [if_neg (by simpa using e)]
     by_cases e3 : Lib.indexByte l c = -1
     · rw [if_pos (by simpa using e3), e3]; simp [e2]
     · rw [if_neg (by simpa using e3)]
       simp only [e2, false_or]
       omega
end
section
open Go.RowKit Go.Deep
attribute [local go_sem] bt_eq
def itW (W : World) (g : Nat) (s : ByteArray) (p : Nat) : World := { W with heap := W.heap.setIfInBounds g (.stringIter s p) }
theorem itW_at {W : World} {g : Nat} {s : ByteArray} {p q : Nat} (h : W.heap[g]? = some (.stringIter s q)) : (itW W g s p).heap[g]? = some (.stringIter s p) := by
 have := (Array.getElem?_eq_some_iff.1 h).1
 simp [itW, this]
theorem itW_below {W : World} {g : Nat} {s : ByteArray} {p : Nat} {B : Nat} (h : B ≤ g) (hB : B ≤ W.heap.size) : Below B W (itW W g s p) := by
 refine ⟨rfl, rfl, rfl, by simp [itW], fun k hk => ?_⟩
 simp only [itW]
 rw [Array.getElem?_setIfInBounds_ne (by omega)]
theorem next_gen {P : Program} {W : World} {g : Nat} {s : ByteArray} {p : Nat} (ty : TypeId) (hg : W.heap[g]? = some (.stringIter s p)) (h : p < s.size) :
   (Instr.next (.pointer (some ⟨g, 0, none⟩)) true ty).run P W = .ok (.tuple #[.bool true, .int .i64 p, .int .i32 (Utf8.decode s p).1]) (itW W g s (p + (Utf8.decode s p).2)) := by
 simp only [Instr.next, getObj, setObj, Sem.run_bind, Sem.run, hg, Result.andThen, h, if_true]
 simp [goInt, itW]
theorem next_fin {P : Program} {W : World} {g : Nat} {s : ByteArray} {p : Nat} (ty : TypeId) (hg : W.heap[g]? = some (.stringIter s p)) (h : ¬ p < s.size) :
   (Instr.next (.pointer (some ⟨g, 0, none⟩)) true ty).run P W = .ok (.tuple #[.bool false]) W := by
 simp [Instr.next, getObj, Sem.run, hg, h]
def blks : ByteArray := ⟨#[32, 9, 10]⟩
theorem blks_lt (j : Nat) : bt blks j < 128 := by
 match j with
 | 0 => decide
 | 1 => decide
 | 2 => decide
 | j + 3 => show (blks.data.getD (j + 3) 0).toNat < 128; simp [blks]
theorem blks_dec {p : Nat} (h : p < 3) : Utf8.decode blks p = (bt blks p, 1) := by
 match p, h with
 | 0, _ => decide
 | 1, _ => decide
 | 2, _ => decide
theorem itW_pos {W : World} {g : Nat} {s : ByteArray} {p q : Nat} (h : W.heap[g]? = some (.stringIter s q)) : (itW W g s p).iterPos g = p := by
 unfold World.iterPos
 rw [itW_at h]
theorem iter_pos {W : World} {g : Nat} {s : ByteArray} {q : Nat} (h : W.heap[g]? = some (.stringIter s q)) : W.iterPos g = q := by
 unfold World.iterPos
 rw [h]
theorem ib_none {l : List UInt8} {c : UInt8} (h : c ∉ l) : Lib.indexByte l c = -1 := by
 by_cases k : 0 ≤ Lib.indexByte l c
 · exact absurd ((ixb_mem c l).1 k) h
 · have := ixb_ge c l; omega
theorem tail_none (m y : Nat) (h : 128 ≤ y) (hy : y < 256) (Z : World) : Calls Tryz.prog 88 #[.string (blks.extract (m + 1) blks.size), .int .u8 y] Z fun e w' => e = .returned (.int .i64 (-1)) ∧ w' = Z := by
 refine (Tryz.strings_IndexByte _ _ Z).mono ?_
 rintro e w' ⟨rfl, h2⟩
 refine ⟨?_, h2⟩
 rw [ib_none]
 intro hm
 obtain ⟨j, hj⟩ := List.getElem?_of_mem hm
 have hl : ∀ c ∈ (blks.extract (m + 1) blks.size).data.toList, c.toNat < 128 := by
   intro c hc
   have : c ∈ blks.data.toList := by
     rw [Lib.extract_data] at hc
     exact List.mem_of_mem_drop (List.mem_of_mem_take hc)
   revert this
   show c ∈ [32, 9, 10] → _
   simp
   rintro (rfl | rfl | rfl) <;> decide
 have := hl _ hm
 simp at this
 omega
theorem irune_high (r : Int) (h1 : 128 ≤ r) (h2 : r ≤ 2147483647) (w : World) :
   Calls Tryz.prog 152 #[.string blks, .int .i32 r] w fun e w' => e = .returned (.int .i64 (-1)) ∧ Below w.heap.size w w' := by
 have t1 : (0 : Int) ≤ r := by omega
 have t2 : ¬ r < 128 := by omega
 by_cases he : r = 65533
 · subst he
   go_enter Tryz.func152, Tryz.ntmps152
   go_wp2
   go_loopw [5, 6] (fun _ _ wr => ∃ p : Nat, p ≤ 3 ∧ wr.heap[w.heap.size]? = some (.stringIter blks p) ∧ Below w.heap.size w wr) (fun _ _ wr => 3 - wr.iterPos w.heap.size)
   case atStart => exact ⟨0, by omega, World.iter_heap _ _ _, (Below.refl _ _).alloc (Nat.le_refl _) _⟩
   case round =>
     obtain ⟨p, hp, hg, hb⟩ := hrel
     by_cases hlt : p < 3
     · have hnx := fun ty => next_gen (P := Tryz.prog) ty hg (show p < blks.size from hlt)
       rw [blks_dec hlt] at hnx
       have hbp := blks_lt p
       obtain ⟨c, hc⟩ : ∃ c, bt blks p = c := ⟨_, rfl⟩
       rw [hc] at hnx hbp
       have tb : decide ((c : Int) = 65533) = false := by simp; omega
       have tc : ¬ (c : Int) = 65533 := by omega
       have HG := hide hg
       have HB := hide hb
       clear hg hb hc
       go_wp2
       go_roundw
       case rel => exact ⟨p + 1, by omega, itW_at HG.out, HB.out.trans (itW_below (Nat.le_refl _) HB.out.size)⟩
       case measure => rw [itW_pos HG.out, iter_pos HG.out]; omega
     · have hnx := fun ty => next_fin (P := Tryz.prog) ty hg (show ¬ p < blks.size from hlt)
       have HB := hide hb
       clear hg hb
       go_wp2
       go_ret
       exact ⟨rfl, HB.out⟩
 · have t3 : decide (r = 65533) = false := by simpa using he
   have HV := hide (Tryz.utf8_ValidRune r)
   obtain ⟨v, hv⟩ : ∃ v, Lib.validRune r = v := ⟨_, rfl⟩
   rw [hv] at HV
   cases v with
   | false =>
     clear hv
     go_enter Tryz.func152, Tryz.ntmps152
     go_wp2_with fail
     refine (HV.out w).mono ?_
     rintro e w' ⟨rfl, hw⟩
     obtain rfl := hw.symm
     go_wp2
     go_ret
     exact ⟨rfl, Below.refl _ _⟩
   | true =>
     have hva : Utf8.valid r = true := by
       unfold Lib.validRune at hv
       unfold Utf8.valid
       simp at hv ⊢
       omega
     obtain ⟨e1, e2, e3⟩ := encode_facts r hva h1
     have e4 := e3 (by omega)
     rw [bt_eq] at e4
     obtain ⟨E, hE⟩ : ∃ E, Utf8.encode r = E := ⟨_, rfl⟩
     have HE := hide hE
     rw [hE] at e1 e2 e4
     obtain ⟨n, hn⟩ : ∃ n, E.size = n := ⟨_, rfl⟩
     rw [hn] at e1 e2 e4
     obtain ⟨m, rfl⟩ : ∃ m, n = m + 1 := ⟨n - 1, by omega⟩
     rw [Nat.add_sub_cancel] at e4
     have hmm : m = 1 ∨ m = 2 ∨ m = 3 := by omega
     have hlt := blks_lt m
     have hbz : blks.size = 3 := rfl
     obtain ⟨x, hx⟩ : ∃ x, bt blks m = x := ⟨_, rfl⟩
     obtain ⟨y, hy⟩ : ∃ y, bt E m = y := ⟨_, rfl⟩
     rw [hx] at hlt
     rw [hy] at e4
     have tn : ((x : Int) == (y : Int)) = false := by simp; omega
     have tn2 : (x : Int) ≠ (y : Int) := by omega
     have w1 : ((m + 1 : Nat) : Int) - 1 = (m : Int) := by omega
     have hm1 : (m : Int) < ((m + 1 : Nat) : Int) := by omega
     clear hv hva e3
     rcases hmm with rfl | rfl | rfl
     · have HIB := hide (fun Z => tail_none 1 y e4 (by rw [← hy]; exact bt_lt _ _) Z)
       go_enter Tryz.func152, Tryz.ntmps152
       go_wp2_with fail
       refine (HV.out w).mono ?_
       rintro e w' ⟨rfl, hw⟩
       obtain rfl := hw.symm
       go_wp2_with fail
       go_step3
       go_wp2_with fail
       go_loopw [9, 10] (fun v9 v10 wr => v9 = .int .i64 1 ∧ v10 = .int .i64 0 ∧ wr = w) (fun _ _ _ => 0)
       case atStart => exact ⟨rfl, rfl, rfl⟩
       case round =>
         obtain ⟨rfl, rfl, rfl⟩ := hrel
         go_wp2_with fail
         go_step3
         go_upto_region 6 with (fail)
         go_region
         go_wp2_with fail
         go_region_with (go_at_call 88; refine (HIB.out _).mono ?_; rintro e w' ⟨rfl, rfl⟩)
         go_wp2
         all_goals
           rw [Exit.noGoto_ret]
           simp +zetaDelta only [Exit.inBlock, Exit.noGoto_ret, Exit.then]
           go_ret
           exact ⟨rfl, (Below.refl _ _).drew.drew⟩
     · have HIB := hide (fun Z => tail_none 2 y e4 (by rw [← hy]; exact bt_lt _ _) Z)
       go_enter Tryz.func152, Tryz.ntmps152
       go_wp2_with fail
       refine (HV.out w).mono ?_
       rintro e w' ⟨rfl, hw⟩
       obtain rfl := hw.symm
       go_wp2_with fail
       go_step3
       go_wp2_with fail
       go_loopw [9, 10] (fun v9 v10 wr => v9 = .int .i64 2 ∧ v10 = .int .i64 0 ∧ wr = w) (fun _ _ _ => 0)
       case atStart => exact ⟨rfl, rfl, rfl⟩
       case round =>
         obtain ⟨rfl, rfl, rfl⟩ := hrel
         go_wp2_with fail
         go_step3
         go_upto_region 6 with (fail)
         go_region
         go_wp2_with fail
         go_region_with (go_at_call 88; refine (HIB.out _).mono ?_; rintro e w' ⟨rfl, rfl⟩)
         go_wp2
         all_goals
           rw [Exit.noGoto_ret]
           simp +zetaDelta only [Exit.inBlock, Exit.noGoto_ret, Exit.then]
           go_ret
           exact ⟨rfl, (Below.refl _ _).drew.drew⟩
     · go_enter Tryz.func152, Tryz.ntmps152
       go_wp2_with fail
       refine (HV.out w).mono ?_
       rintro e w' ⟨rfl, hw⟩
       obtain rfl := hw.symm
       go_wp2_with fail
       go_step3
       go_wp2_with fail
       go_loopw [9, 10] (fun v9 v10 wr => v9 = .int .i64 3 ∧ v10 = .int .i64 0 ∧ wr = w) (fun _ _ _ => 0)
       case atStart => exact ⟨rfl, rfl, rfl⟩
       case round =>
         obtain ⟨rfl, rfl, rfl⟩ := hrel
         go_wp2
         (try rw [Exit.noGoto_ret])
         go_ret
         exact ⟨rfl, Below.refl _ _⟩
end
section
open Go.RowKit Go.Deep
attribute [local go_sem] bt_eq
theorem decode_cont (s : ByteArray) (p : Nat) (h : p < s.size) (ha : 128 ≤ (s[p]'h).toNat) : ∀ k, k < (Utf8.decode s p).2 → p + k < s.size ∧ 128 ≤ (s.get! (p + k)).toNat := by
 intro k hk
 have hn : ¬ (s[p]'h).toNat < 128 := by omega
 have z : p + 0 < s.size ∧ 128 ≤ (s.get! (p + 0)).toNat := ⟨by omega, by rw [get_at s p h]; exact ha⟩
 have c : ∀ j, (decide (p + j < s.size) && (s.get! (p + j)).toNat / 64 == 2) = true → p + j < s.size ∧ 128 ≤ (s.get! (p + j)).toNat := fun j hj => by
   simp only [Bool.and_eq_true, decide_eq_true_eq, beq_iff_eq] at hj
   exact ⟨hj.1, by omega⟩
 simp only [Utf8.decode, get_at s p h, hn, if_false] at hk
 split at hk
 · rename_i h1
   simp only [Bool.and_eq_true] at h1
   have c1 := c 1 (by simpa using h1.2)
   split at hk
   · match k, hk with
     | 0, _ => exact z
     | 1, _ => exact c1
   · match k, hk with
     | 0, _ => exact z
 · split at hk
   · rename_i h1
     simp only [Bool.and_eq_true] at h1
     have c1 := c 1 (by simpa using h1.1.2)
     have c2 := c 2 (by simpa using h1.2)
     split at hk
     · match k, hk with
       | 0, _ => exact z
       | 1, _ => exact c1
       | 2, _ => exact c2
     · match k, hk with
       | 0, _ => exact z
   · split at hk
     · rename_i h1
       simp only [Bool.and_eq_true] at h1
       have c1 := c 1 (by simpa using h1.1.1.2)
       have c2 := c 2 (by simpa using h1.1.2)
       have c3 := c 3 (by simpa using h1.2)
       split at hk
       · match k, hk with
         | 0, _ => exact z
         | 1, _ => exact c1
         | 2, _ => exact c2
         | 3, _ => exact c3
       · match k, hk with
         | 0, _ => exact z
     · match k, hk with
       | 0, _ => exact z
theorem blks_no {x : UInt8} (h : 128 ≤ x.toNat) : blks.data.toList.contains x = false := by
 rw [Bool.eq_false_iff]
 intro hc
 rw [List.contains_iff_mem] at hc
 have : x ∈ [32, 9, 10] := hc
 simp at this
 rcases this with rfl | rfl | rfl <;> revert h <;> decide
theorem get_at? (s : ByteArray) (p : Nat) (h : p < s.size) : s.data.toList[p]? = some (s.get! p) := by
 rw [Lib.data_getElem? s p h]
 congr 1
 have := get_at s p h
 rw [Nat.add_zero] at this
 exact this.symm
theorem noany_rune {s : ByteArray} {p : Nat} (h : p < s.size) (ha : 128 ≤ (s[p]'h).toNat) (hn : Lib.NoAny s.data.toList blks.data.toList p) : ∀ k, k ≤ (Utf8.decode s p).2 → Lib.NoAny s.data.toList blks.data.toList (p + k)
 | 0, _ => hn
 | k + 1, hk => by
   obtain ⟨h1, h2⟩ := decode_cont s p h ha k (by omega)
   have ih := noany_rune h ha hn k (by omega)
   have := ih.succ (get_at? s (p + k) h1) (blks_no h2)
   exact this
def ixB (l : List UInt8) : Int := Lib.indexAny l blks.data.toList
theorem setZero (w : World) : (zeroValue 204).run Tryz.prog w = .ok (.agg (Array.replicate 256 (.bool false))) w := by kernel_rfl
theorem blks_ascii : ∀ (j : Nat) b, blks.data.toList[j]? = some b → b.toNat < 128 := fun j b h => by
 have := List.mem_of_getElem? h
 have : b ∈ [32, 9, 10] := this
 simp at this
 rcases this with rfl | rfl | rfl <;> decide
theorem iany_any (s : ByteArray) (w : World) (hs : s.size < 4294967281) :
   Calls Tryz.prog 95 #[.string s, .string blks] w fun e w' => e = .returned (.int .i64 (ixB s.data.toList)) ∧ Below w.heap.size w w' := by
 by_cases h8 : 8 < s.size
 · refine (Tryz.strings_IndexAny_long setZero s blks w (by decide) h8 hs (by decide) blks_ascii).mono ?_
   rintro e w' ⟨rfl, rfl⟩
   exact ⟨rfl, ((Below.refl _ _).alloc (Nat.le_refl _) _).alloc (by simp) _⟩
 · have hbz : blks.size = 3 := rfl
   have hbe : blks.toList.isEmpty = false := by rw [Lib.toList_data]; rfl
   have h8z : decide ((8 : Int) < (s.size : Int)) = false := decide_eq_false (by omega)
   have HSU := hide (fun Z => Tryz.strings_shouldUseASCIISet (s.size : Int) Z)
   rw [h8z] at HSU
   have hsz : (s.size : Int) ≤ 8 := by omega
   go_enter Tryz.func95, Tryz.ntmps95
   go_wp2_with fail
   refine (HSU.out w).mono ?_
   rintro e w' ⟨rfl, hw⟩
   obtain rfl := hw.symm
   go_wp2
   go_loopg [9, 10] s.size (fun q _ _ wr => ∃ p : Nat, p + q = s.size ∧ wr.heap[w.heap.size]? = some (.stringIter s p) ∧ Hid (Below w.heap.size w wr) ∧ Hid (Lib.NoAny s.data.toList blks.data.toList p))
   case atStart => exact ⟨0, by omega, World.iter_heap _ _ _, hide ((Below.refl _ _).alloc (Nat.le_refl _) _), hide (Lib.NoAny.zero _ _)⟩
   case round =>
     obtain ⟨p, hpq, hg, HB, HN⟩ := hrel
     by_cases hlt : p < s.size
     case neg =>
       have hnx := fun ty => next_fin (P := Tryz.prog) ty hg hlt
       have HE := hide (show ixB s.data.toList = -1 from Lib.indexAny_none (by
         rw [← Lib.size_eq]
         have := HN.out
         rwa [show p = s.size by omega] at this))
       clear hg
       go_wp2
       go_ret
       rw [HE.out]
       exact ⟨rfl, HB.out⟩
     have hnx := fun ty => next_gen (P := Tryz.prog) ty hg hlt
     have HG := hide hg
     have hgl := (Array.getElem?_eq_some_iff.1 hg).1
     by_cases ha : (s[p]'hlt).toNat < 128
     · have hxl := Lib.data_getElem? s p hlt
       have hdec := decode_ascii s p hlt ha
       rw [hdec] at hnx
       dsimp only at hnx
       obtain ⟨x, hx⟩ : ∃ x : UInt8, s[p]'hlt = x := ⟨_, rfl⟩
       rw [hx] at hxl hnx ha
       have HX := hide hxl
       have hax : (x.toNat : Int) < 128 := by omega
       have hcon := Lib.contains_iff_indexByte blks.data.toList x
       have hback : ((x.toNat : Int)).toNat.toUInt8 = x := by simp
       have HIR := hide (fun Z => Tryz.strings_IndexRune_ascii blks (x.toNat : Int) Z (by omega) hax)
       rw [hback] at HIR
       have HBI := hide (HB.out.trans (itW_below (W := wr) (s := s) (p := p + 1) (Nat.le_refl w.heap.size) HB.out.size))
       have HGI := hide (itW_at (p := p + 1) hg)
       cases hin : blks.data.toList.contains x with
       | false =>
         rw [hin] at hcon
         have hlt2 : ¬ ((0 : Int) ≤ Lib.indexByte blks.data.toList x) := of_decide_eq_false hcon.symm
         obtain ⟨q2, hq2⟩ : ∃ q, Lib.indexByte blks.data.toList x = q := ⟨_, rfl⟩
         rw [hq2] at HIR hlt2
         have HN2 := hide (HN.out.succ HX.out hin)
         clear hcon hin hxl hdec hx hg hq2
         go_wp2_with fail
         refine (HIR.out _).mono ?_
         rintro e w' ⟨rfl, hw⟩
         obtain rfl := hw.symm
         go_wp2
         go_roundg (s.size - (p + 1))
         case measure => omega
         case rel => exact ⟨p + 1, by omega, HGI.out, HBI, HN2⟩
       | true =>
         rw [hin] at hcon
         have hge : (0 : Int) ≤ Lib.indexByte blks.data.toList x := of_decide_eq_true hcon.symm
         obtain ⟨q2, hq2⟩ : ∃ q, Lib.indexByte blks.data.toList x = q := ⟨_, rfl⟩
         rw [hq2] at HIR hge
         have HE := hide (show ixB s.data.toList = (p : Int) from Lib.indexAny_hit HN.out HX.out hin)
         clear hcon hin hxl hdec hx hg hq2
         go_wp2_with fail
         refine (HIR.out _).mono ?_
         rintro e w' ⟨rfl, hw⟩
         obtain rfl := hw.symm
         go_wp2
         go_ret
         rw [HE.out]
         exact ⟨rfl, HBI.out⟩
     · have hdh := decode_high s p hlt (by omega)
       have hdl := decode_le s p
       have HN2 := hide (noany_rune hlt (by omega) HN.out _ (Nat.le_refl _))
       have hcn := decode_cont s p hlt (by omega) ((Utf8.decode s p).2 - 1) (by omega)
       obtain ⟨r, hr⟩ : ∃ r, (Utf8.decode s p).1 = r := ⟨_, rfl⟩
       obtain ⟨d, hd⟩ : ∃ r, (Utf8.decode s p).2 = r := ⟨_, rfl⟩
       rw [hr, hd] at hnx
       rw [hr, hd] at hdh
       rw [hr] at hdl
       rw [hd] at HN2 hcn
       have HIR := hide (fun Z => irune_high (r : Int) (by omega) (by omega) Z)
       have HBI := hide (HB.out.trans (itW_below (W := wr) (s := s) (p := p + d) (Nat.le_refl w.heap.size) HB.out.size))
       have HGI := hide (itW_at (p := p + d) hg)
       have hpd : p + d ≤ s.size := by omega
       have hd1 : 1 ≤ d := hdh.2
       clear hr hd hdh hdl hcn hg ha
       go_wp2_with fail
       refine (HIR.out _).mono ?_
       rintro e w' ⟨rfl, hb'⟩
       have hgl2 := (Array.getElem?_eq_some_iff.1 HGI.out).1
       have HG2 := hide ((hb'.block _ hgl2).trans HGI.out)
       have HB2 := hide (below_up HBI.out hb' HBI.out.size)
       clear hb' hgl2
       go_wp2
       go_roundg (s.size - (p + d))
       case measure => omega
       case rel => exact ⟨p + d, by omega, HG2.out, HB2, HN2⟩
end
section
open Go.RowKit
structure Pt where
 kind : Int
 text : ByteArray
 name : ByteArray
 op : ByteArray
 wA : Option Addr
 wn : Nat
 wc : Nat
 q : Bool
def bsF (l : List UInt8) : ByteArray := ⟨l.toArray⟩
def ptT (l : List UInt8) : Pt := ⟨1, bsF l, ⟨#[]⟩, ⟨#[]⟩, none, 0, 0, false⟩
def isB (c : UInt8) : Bool := c == 32 || c == 9 || c == 10
abbrev Sp := List (List Pt) × List Pt
def flushS (s : Sp) : Sp := if s.2 = [] then s else (s.1 ++ [s.2], [])
def pushS (l : List UInt8) (s : Sp) : Sp := if l = [] then s else (s.1, s.2 ++ [ptT l])
def txS : List UInt8 → List UInt8 → Sp → Sp
 | cur, [], s => pushS cur s
 | cur, c :: rest, s => if isB c then txS [] rest (flushS (pushS cur s)) else txS (cur ++ [c]) rest s
def stS (s : Sp) (p : Pt) : Sp := if p.kind = 1 then txS [] p.text.data.toList s else (s.1, s.2 ++ [p])
def splitS (l : List Pt) : List (List Pt) := (flushS (l.foldl stS ([], []))).1
theorem isB_iff (c : UInt8) : isB c = blks.data.toList.contains c := by
 show (c == 32 || c == 9 || c == 10) = [32, 9, 10].contains c
 rw [Bool.eq_iff_iff]; simp [or_assoc]
theorem txS_no : ∀ (rest cur : List UInt8) (s : Sp), (∀ c ∈ rest, isB c = false) → txS cur rest s = pushS (cur ++ rest) s
 | [], cur, s, h => by rw [txS, List.append_nil]
 | c :: rest, cur, s, h => by
   rw [txS, if_neg (by rw [h c (by simp)]; simp), txS_no rest _ s (fun d hd => h d (by simp [hd]))]
   simp
theorem txS_at : ∀ (a : List UInt8) (cur : List UInt8) (b : UInt8) (rest : List UInt8) (s : Sp), (∀ c ∈ a, isB c = false) → isB b = true → txS cur (a ++ b :: rest) s = txS [] rest (flushS (pushS (cur ++ a) s))
 | [], cur, b, rest, s, h, hb => by rw [List.nil_append, txS, if_pos hb, List.append_nil]
 | c :: a, cur, b, rest, s, h, hb => by
   rw [List.cons_append, txS, if_neg (by rw [h c (by simp)]; simp), txS_at a _ b rest s (fun d hd => h d (by simp [hd])) hb]
   simp
theorem ixB_cases (l : List UInt8) : (ixB l = -1 ∧ ∀ c ∈ l, isB c = false) ∨ ∃ a b rest, l = a ++ b :: rest ∧ ixB l = (a.length : Int) ∧ (∀ c ∈ a, isB c = false) ∧ isB b = true := by
 have key : ∀ (l pre : List UInt8), Lib.NoAny (pre ++ l) blks.data.toList pre.length → (Lib.indexAny (pre ++ l) blks.data.toList = -1 ∧ ∀ c ∈ l, isB c = false) ∨ ∃ a b rest, l = a ++ b :: rest ∧ Lib.indexAny (pre ++ l) blks.data.toList = ((pre.length + a.length : Nat) : Int) ∧ (∀ c ∈ a, isB c = false) ∧ isB b = true := by
   intro l
   induction l with
   | nil =>
     intro pre h
     left
     refine ⟨Lib.indexAny_none (by simpa using h), by simp⟩
   | cons x l ih =>
     intro pre h
     have hx : (pre ++ x :: l)[pre.length]? = some x := by simp
     by_cases hb : isB x = true
     · right
       refine ⟨[], x, l, rfl, ?_, by simp, hb⟩
       rw [Lib.indexAny_hit h hx (by rw [← isB_iff]; exact hb)]
       simp
     · have hb' : isB x = false := by simpa using hb
       have h2 := h.succ hx (by rw [← isB_iff]; exact hb')
       have e : pre ++ x :: l = (pre ++ [x]) ++ l := by simp
       rw [e] at h2 ⊢
       rcases ih (pre ++ [x]) (by simpa using h2) with ⟨h3, h4⟩ | ⟨a, b, rest, h3, h4, h5, h6⟩
       · left
         refine ⟨h3, fun c hc => ?_⟩
         rcases List.mem_cons.1 hc with rfl | hc
         · exact hb'
         · exact h4 c hc
       · right
         refine ⟨x :: a, b, rest, by rw [h3]; rfl, ?_, fun c hc => ?_, h6⟩
         · rw [h4]; simp; omega
         · rcases List.mem_cons.1 hc with rfl | hc
           · exact hb'
           · exact h5 c hc
 rcases key l [] (Lib.NoAny.zero _ _) with ⟨h1, h2⟩ | ⟨a, b, rest, h1, h2, h3, h4⟩
 · exact .inl ⟨h1, h2⟩
 · refine .inr ⟨a, b, rest, h1, ?_, h3, h4⟩
   have : ixB l = Lib.indexAny ([] ++ l) blks.data.toList := rfl
   rw [this, h2]; simp
end
section
open Go.RowKit Go.Maps
def kLit (s : ByteArray) : Lit := .string s.data.toList
theorem kLit_inj {a b : ByteArray} (h : kLit a = kLit b) : a = b := by
 injection h with h
 exact ByteArray.ext (Array.ext' h)
def sLt (a b : ByteArray) : Bool := Op.bytesLess a.toList b.toList
theorem before_lt : ∀ a b : List UInt8, bytesBefore a b = decide (a < b)
 | [], [] => by simp [bytesBefore]
 | [], _ :: _ => by simp [bytesBefore]
 | _ :: _, [] => by simp [bytesBefore]
 | a :: r, b :: s => by
   rw [bytesBefore, before_lt r s, Bool.eq_iff_iff]
   simp only [Bool.or_eq_true, Bool.and_eq_true, decide_eq_true_eq, beq_iff_eq, List.cons_lt_cons_iff]
theorem sLt_iff (a b : ByteArray) : sLt a b = true ↔ a.data.toList < b.data.toList := by
 rw [sLt, bytesLess_eq, ByteArray.toList_eq, ByteArray.toList_eq, decide_eq_true_iff]
theorem before_sLt (a b : ByteArray) : (kLit a).before (kLit b) = sLt a b := by
 show bytesBefore a.data.toList b.data.toList = _
 rw [before_lt, Bool.eq_iff_iff, sLt_iff, decide_eq_true_iff]
theorem sLt_irr (a : ByteArray) : sLt a a = false := by
 rw [← Bool.not_eq_true, sLt_iff]; exact List.lt_irrefl _
theorem sLt_trans (a b c : ByteArray) (h : sLt a b = true) (k : sLt b c = true) : sLt a c = true :=
 (sLt_iff a c).2 (List.lt_trans ((sLt_iff a b).1 h) ((sLt_iff b c).1 k))
theorem sLt_tot (a b : ByteArray) (h : sLt a b = false) : a = b ∨ sLt b a = true := by
 rw [← Bool.not_eq_true, sLt_iff] at h
 by_cases k : sLt b a = true
 · exact .inr k
 · rw [sLt_iff] at k
   exact .inl (ByteArray.ext (Array.ext' (List.le_antisymm (List.not_lt.1 k) (List.not_lt.1 h))))
theorem same_kLit (a b : ByteArray) : (kLit a).sameKey (kLit b) = decide (a = b) := by
 rw [Bool.eq_iff_iff, decide_eq_true_iff]
 constructor
 · intro h; exact kLit_inj (WideAt.sameKey_eq h)
 · rintro rfl; exact WideAt.sameKey_self (by simp [kLit, WideAt.IsKeyLit])
section
variable {α H : Type}
abbrev KV (α : Type) := List (ByteArray × α)
def getG (P : KV α) (n : ByteArray) : Option α := (P.find? fun x => decide (x.1 = n)).map (·.2)
def putG (x : ByteArray × α) : KV α → KV α
 | [] => [x]
 | y :: P => if sLt y.1 x.1 = true then y :: putG x P else if y.1 = x.1 then x :: P else x :: y :: P
def delG (n : ByteArray) (P : KV α) : KV α := P.filter fun x => !decide (x.1 = n)
def RiseG (P : KV α) : Prop := P.Pairwise fun a b => sLt a.1 b.1 = true
theorem getG_cons (y : ByteArray × α) (P : KV α) (n : ByteArray) : getG (y :: P) n = if y.1 = n then some y.2 else getG P n := by
 unfold getG
 rw [List.find?_cons]
 by_cases h : y.1 = n <;> simp [h]
theorem RiseG.nil : RiseG ([] : KV α) := List.Pairwise.nil
theorem mem_putG {x z : ByteArray × α} : ∀ {P : KV α}, z ∈ putG x P → z = x ∨ z ∈ P
 | [], h => by simpa [putG] using h
 | y :: P, h => by
   rw [putG] at h
   split at h
   · rcases List.mem_cons.1 h with h | h
     · exact .inr (by simp [h])
     · rcases mem_putG h with h | h
       · exact .inl h
       · exact .inr (by simp [h])
   · split at h
     · rcases List.mem_cons.1 h with h | h
       · exact .inl h
       · exact .inr (by simp [h])
     · rcases List.mem_cons.1 h with h | h
       · exact .inl h
       · exact .inr h
theorem getG_mem {n : ByteArray} {v : α} {P : KV α} (h : getG P n = some v) : (n, v) ∈ P := by
 unfold getG at h
 cases hf : P.find? (fun x => decide (x.1 = n)) with
 | none => rw [hf] at h; cases h
 | some y =>
   rw [hf] at h
   have h1 := List.mem_of_find?_eq_some hf
   have h2 := List.find?_some hf
   have h3 : y.2 = v := by simpa using h
   have h4 : y.1 = n := by simpa using h2
   rw [← h3, ← h4]; exact h1
def datG (f : α → DataW H) (P : KV α) : DataW H := .map (P.map fun x => (kLit x.1, f x.2))
variable (f : α → DataW H)
theorem datG_has (P : KV α) (n : ByteArray) : Maps.has (datG f P) (kLit n) = (getG P n).isSome := by
 unfold datG
 rw [Maps.has_eq]
 induction P with
 | nil => rfl
 | cons y P ih =>
   rw [List.map_cons, List.any_cons, ih, getG_cons, same_kLit]
   by_cases e : y.1 = n <;> simp [e]
theorem datG_at (P : KV α) (n : ByteArray) (z : DataW H) : (datG f P).atKey (kLit n) z = (match getG P n with | some v => f v | none => z) := by
 unfold datG DataW.atKey
 simp only
 induction P with
 | nil => rfl
 | cons y P ih =>
   rw [List.map_cons, List.find?_cons, getG_cons, same_kLit]
   by_cases e : y.1 = n
   · simp [e]
   · rw [if_neg e]
     simp only [decide_eq_false e]
     exact ih
theorem datG_size (P : KV α) : Maps.size (datG f P) = P.length := by
 unfold datG; rw [Maps.size_eq, List.length_map]
theorem datG_del (P : KV α) (n : ByteArray) : (datG f P).del (kLit n) = datG f (delG n P) := by
 unfold datG DataW.del delG
 simp only
 congr 1
 induction P with
 | nil => rfl
 | cons y P ih =>
   rw [List.map_cons, List.filter_cons, List.filter_cons, same_kLit]
   by_cases e : y.1 = n
   · rw [if_neg (by simp [e]), if_neg (by simp [e])]; exact ih
   · rw [if_pos (by simp [e]), if_pos (by simp [e]), List.map_cons, ih]
theorem datG_put {P : KV α} (h : RiseG P) (n : ByteArray) (v : α) : (datG f P).put (kLit n) (f v) = datG f (putG (n, v) P) := by
 have hd : (datG f P).put (kLit n) (f v) = .map (DataW.insert (kLit n, f v) ((delG n P).map fun x => (kLit x.1, f x.2))) := by
   have := datG_del f P n
   unfold datG DataW.del at this
   unfold datG DataW.put
   injection this with this
   simp only [this]
 rw [hd]
 unfold datG
 congr 1
 induction P with
 | nil => rfl
 | cons y P ih =>
   have h1 := List.pairwise_cons.1 h
   have ih := ih h1.2 (by
     have := datG_del f P n
     unfold datG DataW.del at this
     unfold datG DataW.put
     injection this with this
     simp only [this])
   rw [putG]
   unfold delG
   rw [List.filter_cons]
   by_cases e : sLt y.1 n = true
   · have e2 : y.1 ≠ n := fun e2 => by rw [e2, sLt_irr] at e; cases e
     rw [if_pos e, if_pos (by simpa using e2), List.map_cons, List.map_cons, DataW.insert, before_sLt]
     have e3 : sLt n y.1 = false := by
       cases hc : sLt n y.1 with
       | false => rfl
       | true => have := sLt_trans _ _ _ e hc; rw [sLt_irr] at this; cases this
     rw [e3]
     simp only [Bool.false_eq_true, if_false]
     rw [← ih]; rfl
   · have hfil : P.filter (fun x => !decide (x.1 = n)) = P := by
       apply List.filter_eq_self.2
       intro z hz
       have : sLt n z.1 = true := by
         rcases sLt_tot y.1 n (by simpa using e) with e2 | e2
         · rw [← e2]; exact h1.1 z hz
         · exact sLt_trans _ _ _ e2 (h1.1 z hz)
       have : z.1 ≠ n := fun e5 => by rw [e5, sLt_irr] at this; cases this
       simpa using this
     rw [if_neg e]
     by_cases e2 : y.1 = n
     · rw [if_pos e2, if_neg (by simp [e2]), hfil, List.map_cons]
       cases P with
       | nil => rfl
       | cons z P =>
         rw [List.map_cons, DataW.insert, before_sLt]
         have hz : sLt n z.1 = true := by rw [← e2]; exact h1.1 z (by simp)
         rw [if_pos hz]
     · have e3 : sLt n y.1 = true := (sLt_tot y.1 n (by simpa using e)).resolve_left e2
       rw [if_neg e2, if_pos (by simp [e2]), hfil, List.map_cons, DataW.insert, before_sLt, if_pos e3, List.map_cons, List.map_cons]
end
end
section
open Go.RowKit Go.Deep
def SR (w : World) (A : Option Addr) (L : List ByteArray) : Prop :=
 ∀ k s, L[k]? = some s → ∃ g o, A = some ⟨g, o, none⟩ ∧ g < w.heap.size ∧ w.cell? ⟨g, o + k, none⟩ = some (.string s)
theorem SR.below {w w' : World} {A : Option Addr} {L : List ByteArray} (h : SR w A L) (hb : Below w.heap.size w w') : SR w' A L := fun k s hk => by
 obtain ⟨g, o, e, hg, hc⟩ := h k s hk
 exact ⟨g, o, e, Nat.lt_of_lt_of_le hg hb.size, (hb.cell (p := ⟨g, o + k, none⟩) hg).trans hc⟩
def strVals (L : List ByteArray) : List Value := L.map Value.string
def OwnS (w : World) (base : Nat) (v : Value) (L : List ByteArray) : Prop := w.ownsRow base 9 1 v L.length (strVals L)
theorem OwnS.slice {w : World} {base : Nat} {v : Value} {L : List ByteArray} (h : OwnS w base v L) : ∃ A c, v = .slice A L.length c ∧ L.length ≤ c ∧ SR w A L ∧ (∀ a, A = some a → v.ownBlock = some a.block) := by
 rcases h.2 with ⟨rfl, hn⟩ | ⟨g, cap, cur, rfl, _, hh, hc, _⟩
 · refine ⟨none, 0, by rw [hn], by omega, fun k s hk => ?_, fun a e => by cases e⟩
   have := (List.getElem?_eq_some_iff.1 hk).1
   omega
 · refine ⟨_, cap, rfl, hc, fun k s hk => ⟨g, 0, rfl, (h.lt g rfl).2, ?_⟩, fun a e => by injection e with e; subst e; rfl⟩
   have hlt := (List.getElem?_eq_some_iff.1 hk).1
   rw [Nat.zero_add, World.ownsRow.cellAt h k (by omega)]
   simp [strVals, hk]
theorem infoS : (Tryz.prog.info? 9).map (fun i => (i.zero, i.size, i.bytes)) = some (some (.string ⟨#[]⟩), 1, 16) := by kernel_rfl
theorem OwnS.nil (w : World) (base : Nat) : OwnS w base (.slice none 0 0) [] := World.ownsRow_nil _ _ _ _
theorem run_appS {w : World} {base : Nat} {v : Value} {L N : List ByteArray} {A : Option Addr} {c : Nat} (h : OwnS w base v L) (hn : SR w A N) (hbase : base ≤ w.heap.size) (hl : L.length + N.length ≤ 100000000) :
   ∃ v' w', (Builtin.append_ #[23, 23] 23 #[v, .slice A N.length c]).run Tryz.prog w = .ok v' w' ∧ OwnS w' base v' (L ++ N) ∧ w.grownBy w' v.ownBlock ∧ (v'.ownBlock = v.ownBlock ∨ v'.ownBlock = some w.heap.size) := by
 obtain ⟨i0, hi, hz0, hz1, hz2⟩ := info_parts infoS
 rcases A with _ | ad
 · have hN : N = [] := by
     cases N with
     | nil => rfl
     | cons s N =>
       obtain ⟨g, o, e, _⟩ := hn 0 s rfl
       cases e
   subst hN
   refine ⟨v, w, ?_, by simpa using h, World.grownBy.refl w _, .inl rfl⟩
   rcases h.2 with ⟨rfl, _⟩ | ⟨g, cap, cur, rfl, _, _, hnc, _⟩
   · simp [Builtin.append_, run_underlying Tryz.underlying23, sizeOf, typeInfo, hi, Builtin.lenOf, Builtin.firstCells]
   · simp [Builtin.append_, run_underlying Tryz.underlying23, sizeOf, typeInfo, hi, Builtin.lenOf, Builtin.firstCells, hnc, storeCells]
 · have hcells : ∀ j u, (strVals N)[j]? = some u → w.cell? (ad.add j) = some u := fun j u hu => by
     have hj := (List.getElem?_eq_some_iff.1 hu).1
     have hj2 : j < N.length := by simpa [strVals] using hj
     obtain ⟨g, o, e, _, hc⟩ := hn j N[j] (List.getElem?_eq_getElem hj2)
     injection e with e
     subst e
     have e2 : (Addr.mk g o none).add j = ⟨g, o + j, none⟩ := by
       unfold Addr.add
       split
       · rename_i h0; subst h0; rfl
       · rfl
     rw [e2, hc]
     simpa [strVals, hj2] using hu
   obtain ⟨v', w', hrun, h2, h3, _, h5⟩ := run_append_own_at (P := Tryz.prog) w base 23 23 9 i0 _ 1 16 Tryz.underlying23 hi hz0 hz1 hz2 rfl (by omega) v L.length (strVals L) h ad N.length c (strVals N) (by simp [strVals]) hcells
     (fun u hu => by simp only [strVals, List.mem_map] at hu; obtain ⟨s, _, rfl⟩ := hu; rfl) (by simp only [maxLen]; omega) (by omega) hbase
   refine ⟨v', w', hrun, ?_, h3, h5⟩
   unfold OwnS
   rw [List.length_append, show strVals (L ++ N) = strVals L ++ strVals N from by simp [strVals]]
   exact h2
theorem wpList_app_run {P : Program} {ops : Array Oper} {rest : List Oper} {o : Oper} {a : Act} {w : World} {Q : Exit → Act → World → Prop} {t : TypeId} {v xv v' : Value} {w' : World} (hgd : o.guard = none) (s x : Operand)
   (ho : o.op = .call { callee := .builtin .append, args := #[s, x], argTypes := #[t, t] }) (hs : a.eval s = v) (hx : a.eval x = xv) (ht : o.type = t)
   (hrun : (Builtin.append_ #[t, t] t #[v, xv]).run P w = .ok v' w') (h : wpList P ops Q rest (a.put o.dst v') w') : wpList P ops Q (o :: rest) a w :=
 wpList_plain hgd fun K hK => by
   unfold Oper.wp execOp
   simp only [ho, resolve, invoke, builtin, Sem.run_bind, Sem.run_pure, Result.andThen_ok, List.map_toArray, List.map_cons, List.map_nil, hs, hx, ht, hrun]
   exact hK _ _ h
theorem sr_new (w : World) (s : ByteArray) : SR (w.alloc (.cells #[.string s] 9)) (some ⟨w.heap.size, 0, none⟩) [s] := fun k x hk => by
 cases k with
 | zero =>
   simp at hk
   subst hk
   exact ⟨_, _, rfl, by simp, by rw [World.cell?_alloc_at _ _ _ _ rfl]; rfl⟩
 | succ k => simp at hk
theorem OwnS.alloc {w : World} {base : Nat} {v : Value} {L : List ByteArray} (h : OwnS w base v L) (o : Obj) : OwnS (w.alloc o) base v L := World.ownsRow.alloc h o
end
section
open Go.RowKit Go.Deep
theorem txt_ne {a b : ByteArray} (h : a ≠ b) : (a.toList == b.toList) = false := by
 rw [beq_eq_false_iff_ne, ByteArray.toList_eq, ByteArray.toList_eq]
 exact fun e => h (ByteArray.ext (Array.ext' e))
def Drew (w w' : World) : Prop := ∃ n, w' = w.drewN n
theorem Drew.refl (w : World) : Drew w w := ⟨0, rfl⟩
theorem Drew.more {w w' : World} (h : Drew w w') (n : Nat) : Drew w (w'.drewN n) := by
 obtain ⟨m, rfl⟩ := h
 exact ⟨m + n, by simp [World.drewN, Nat.add_assoc]⟩
theorem SR.drew {w w' : World} {A : Option Addr} {L : List ByteArray} (h : SR w A L) (hd : Drew w w') : SR w' A L := by
 obtain ⟨n, rfl⟩ := hd
 exact h
theorem Drew.below {w w' : World} (h : Drew w w') : Below w.heap.size w w' := by
 obtain ⟨n, rfl⟩ := h
 exact below_drewN (Below.refl _ _) n
theorem same_any (A B : Option Addr) (c d : Nat) (L M : List ByteArray) (w : World) (hA : SR w A L) (hB : SR w B M) (hl : L.length ≤ 100000) :
   Calls Tryz.prog 20 #[.slice A L.length c, .slice B M.length d] w fun e w' => e = .returned (.bool (decide (L = M))) ∧ Drew w w' := by
 have HA := hide hA
 have HB := hide hB
 clear hA hB
 by_cases hn : L.length = M.length
 · obtain ⟨n, hn1⟩ : ∃ n, L.length = n := ⟨_, rfl⟩
   have hn2 : M.length = n := by omega
   have N1 := hide hn1
   have N2 := hide hn2
   rw [hn1, hn2]
   rw [hn1] at hl
   clear hn hn1 hn2
   go_enter Tryz.func20, Tryz.ntmps20
   go_wp2
   go_loopw [5] (fun v5 wr => ∃ k : Nat, v5 = .int .i64 k ∧ k ≤ n ∧ Hid (L.take k = M.take k) ∧ Drew w wr) (fun v5 _ => n - (intOf v5).toNat)
   case atStart => exact ⟨0, rfl, by omega, rfl, Drew.refl _⟩
   case round =>
     obtain ⟨k, rfl, hk, HE, hdr⟩ := hrel
     have HD := hide hdr
     clear hdr
     by_cases hlt : k < n
     · obtain ⟨x, hx⟩ : ∃ x, L[k]? = some x := ⟨L[k]'(by have := N1.out; omega), gE _⟩
       obtain ⟨y, hy⟩ : ∃ y, M[k]? = some y := ⟨M[k]'(by have := N2.out; omega), gE _⟩
       obtain ⟨g, o, rfl, hg, hc⟩ := (HA.out.drew HD.out) k x hx
       obtain ⟨g', o', rfl, hg', hc'⟩ := (HB.out.drew HD.out) k y hy
       have HX := hide hx
       have HY := hide hy
       clear hx hy
       by_cases he : x = y
       · subst he
         go_wp2
         go_quiet (fail)
         go_wp2
         go_roundw
         case rel =>
           refine ⟨k + 1, by go_num, by omega, ?_, HD.out.more _⟩
           show L.take (k + 1) = M.take (k + 1)
           rw [List.take_add_one, List.take_add_one, HE.out, HX.out, HY.out]
         case measure => simp [intOf]; omega
       · have hne := txt_ne he
         have HN := hide he
         clear he
         go_wp2
         go_quiet (fail)
         go_wp2
         go_ret
         refine ⟨?_, HD.out.more _⟩
         have : decide (L = M) = false := by
           rw [decide_eq_false_iff_not]
           intro e
           have h1 := HX.out
           have h2 := HY.out
           rw [e, h2] at h1
           injection h1 with h1
           exact HN.out h1.symm
         rw [this]
         rfl
     · have e : k = n := by omega
       have hf : decide (L = M) = true := by
         rw [decide_eq_true_iff]
         have := HE.out
         rw [List.take_of_length_le (by have := N1.out; omega), List.take_of_length_le (by have := N2.out; omega)] at this
         exact this
       have HF := hide hf
       clear hf e
       go_wp2
       go_ret
       refine ⟨?_, HD.out⟩
       rw [HF.out]
       rfl
 · have hb : ((L.length : Int) == (M.length : Int)) = false := by simp only [beq_eq_false_iff_ne]; omega
   have hb2 : (L.length == M.length) = false := by simp only [beq_eq_false_iff_ne]; omega
   have HF := hide (show decide (L = M) = false by rw [decide_eq_false_iff_not]; intro e; exact hn (by rw [e]))
   clear hn
   go_enter Tryz.func20, Tryz.ntmps20
   go_wp2
   go_ret
   refine ⟨?_, Drew.refl _⟩
   rw [HF.out]
   rfl
end
section
open Go.RowKit Go.Deep
def putS (s : ByteArray) : List ByteArray → List ByteArray
 | [] => [s]
 | x :: l => if sLt x s then x :: putS s l else if x = s then x :: l else s :: x :: l
theorem Below.of_gb {w w' : World} {r : Option Nat} {B : Nat} (h : w.grownBy w' r) (hB : B ≤ w.heap.size) (hr : ∀ k, r = some k → B ≤ k) : Below B w w' := (Below.refl B w).grown h hB hr
end
section
open Go.RowKit Go.Deep
section
variable {α : Type} (enc : α → List Value) (n : Nat)
def RG (w : World) (A : Option Addr) (L : List α) : Prop :=
 ∀ k x, L[k]? = some x → ∃ g o, A = some ⟨g, o, none⟩ ∧ g < w.heap.size ∧ ∀ j v, (enc x)[j]? = some v → w.cell? ⟨g, o + k * n + j, none⟩ = some v
variable {enc n}
theorem RG.nil (w : World) (A : Option Addr) : RG enc n w A [] := fun k s h => by simp at h
theorem RG.of {w w' : World} {A : Option Addr} {L : List α} (h : RG enc n w A L) (hs : w.heap.size ≤ w'.heap.size) (hc : ∀ a, A = some a → a.block < w.heap.size → w'.heap[a.block]? = w.heap[a.block]?) : RG enc n w' A L := fun k x hk => by
 obtain ⟨g, o, e, hg, h1⟩ := h k x hk
 have hb := hc _ e hg
 exact ⟨g, o, e, by omega, fun j v hj => (World.cell?_of_block (a := ⟨g, o + k * n + j, none⟩) hb).trans (h1 j v hj)⟩
theorem RG.below {w w' : World} {A : Option Addr} {L : List α} (h : RG enc n w A L) (hb : Below w.heap.size w w') : RG enc n w' A L := h.of hb.size fun a _ hl => hb.block a.block hl
theorem RG.drew {w w' : World} {A : Option Addr} {L : List α} (h : RG enc n w A L) (hd : Drew w w') : RG enc n w' A L := by
 obtain ⟨n, rfl⟩ := hd
 exact h
def valsG (enc : α → List Value) (L : List α) : List Value := L.flatMap enc
theorem valsG_len (he : ∀ x, (enc x).length = n) (L : List α) : (valsG enc L).length = L.length * n := by
 induction L with
 | nil => simp [valsG]
 | cons x L ih =>
   rw [valsG, List.flatMap_cons, List.length_append, he]
   have : (L.flatMap enc).length = L.length * n := ih
   rw [this, List.length_cons, Nat.add_mul]
   omega
theorem valsG_get (he : ∀ x, (enc x).length = n) : ∀ (L : List α) (k : Nat) (x : α) (j : Nat), L[k]? = some x → j < n → (valsG enc L)[k * n + j]? = (enc x)[j]?
 | [], k, x, j, h, _ => by simp at h
 | y :: L, 0, x, j, h, hj => by
   simp at h
   subst h
   rw [valsG, List.flatMap_cons, Nat.zero_mul, Nat.zero_add, List.getElem?_append_left (by rw [he]; exact hj)]
 | y :: L, k + 1, x, j, h, hj => by
   have ih := valsG_get he L k x j (by simpa using h) hj
   rw [valsG, List.flatMap_cons, List.getElem?_append_right (by rw [he, Nat.add_mul]; omega), he]
   rw [show (k + 1) * n + j - n = k * n + j from by rw [Nat.add_mul]; omega]
   exact ih
theorem valsG_app (L N : List α) : valsG enc (L ++ N) = valsG enc L ++ valsG enc N := by simp [valsG]
def OwnG (enc : α → List Value) (n : Nat) (E : TypeId) (w : World) (base : Nat) (v : Value) (L : List α) : Prop := w.ownsRow base E n v L.length (valsG enc L)
variable {E : TypeId}
theorem OwnG.lt {w : World} {base : Nat} {v : Value} {L : List α} (h : OwnG enc n E w base v L) : ∀ k, v.ownBlock = some k → base ≤ k ∧ k < w.heap.size := World.ownsRow.lt h
theorem OwnG.slice (he : ∀ x, (enc x).length = n) {w : World} {base : Nat} {v : Value} {L : List α} (h : OwnG enc n E w base v L) : ∃ A c, v = .slice A L.length c ∧ L.length ≤ c ∧ RG enc n w A L ∧ (∀ a, A = some a → v.ownBlock = some a.block) ∧ (∀ a, A = some a → ∃ g, a = ⟨g, 0, none⟩) := by
 rcases h.2 with ⟨rfl, hn⟩ | ⟨g, cap, cur, rfl, _, hh, hc, _⟩
 · refine ⟨none, 0, by rw [hn], by omega, fun k s hk => ?_, (fun a e => by cases e), (fun a e => by cases e)⟩
   have := (List.getElem?_eq_some_iff.1 hk).1
   omega
 · refine ⟨_, cap, rfl, hc, fun k x hk => ⟨g, 0, rfl, (h.lt g rfl).2, fun j u hj => ?_⟩, (fun a e => by injection e with e; subst e; rfl), (fun a e => by injection e with e; exact ⟨g, e.symm⟩)⟩
   have hlt := (List.getElem?_eq_some_iff.1 hk).1
   have hjn : j < n := by
     have := (List.getElem?_eq_some_iff.1 hj).1
     rw [he] at this; exact this
   have hkn : k * n + j < L.length * n := by
     have : (k + 1) * n ≤ L.length * n := Nat.mul_le_mul_right n hlt
     rw [Nat.add_mul] at this
     omega
   rw [Nat.zero_add, World.ownsRow.cellAt h (k * n + j) hkn, valsG_get he L k x j hk hjn]
   exact hj
theorem OwnG.nil (w : World) (base : Nat) : OwnG enc n E w base (.slice none 0 0) [] := World.ownsRow_nil _ _ _ _
structure RowT (P : Program) (T E : TypeId) (n : Nat) where
 z : Value
 bytes : Nat
 und : P.underlying T = some (.slice E)
 info : (P.info? E).map (fun i => (i.zero, i.size, i.bytes)) = some (some z, n, bytes)
 zlen : z.cells.size = n
 pos : 0 < n
 sb : bytes ≤ 1000
theorem run_appG {P : Program} {T : TypeId} (R : RowT P T E n) (he : ∀ x, (enc x).length = n) (h1c : ∀ x, ∀ u ∈ enc x, u.oneCell' = true) {w : World} {base : Nat} {v : Value} {L N : List α} {A : Option Addr} {c : Nat} (h : OwnG enc n E w base v L) (hn : RG enc n w A N) (hbase : base ≤ w.heap.size) (hl : L.length + N.length ≤ 100000000) :
   ∃ v' w', (Builtin.append_ #[T, T] T #[v, .slice A N.length c]).run P w = .ok v' w' ∧ OwnG enc n E w' base v' (L ++ N) ∧ w.grownBy w' v.ownBlock ∧ (v'.ownBlock = v.ownBlock ∨ v'.ownBlock = some w.heap.size) := by
 obtain ⟨i0, hi, hz0, hz1, hz2⟩ := info_parts R.info
 rcases A with _ | ad
 · have hN : N = [] := by
     cases N with
     | nil => rfl
     | cons s N =>
       obtain ⟨g, o, e, _⟩ := hn 0 s rfl
       cases e
   subst hN
   refine ⟨v, w, ?_, by simpa using h, World.grownBy.refl w _, .inl rfl⟩
   rcases h.2 with ⟨rfl, _⟩ | ⟨g, cap, cur, rfl, _, _, hnc, _⟩
   · simp [Builtin.append_, run_underlying R.und, sizeOf, typeInfo, hi, Builtin.lenOf, Builtin.firstCells]
   · simp [Builtin.append_, run_underlying R.und, sizeOf, typeInfo, hi, Builtin.lenOf, Builtin.firstCells, hnc, storeCells]
 · have hpos := R.pos
   have hcells : ∀ j u, (valsG enc N)[j]? = some u → w.cell? (ad.add j) = some u := fun j u hu => by
     have hj := (List.getElem?_eq_some_iff.1 hu).1
     rw [valsG_len he] at hj
     have hj2 : j / n < N.length := (Nat.div_lt_iff_lt_mul hpos).2 hj
     obtain ⟨g, o, e, _, h1⟩ := hn (j / n) N[j / n] (List.getElem?_eq_getElem hj2)
     have hp := valsG_get he N (j / n) N[j / n] (j % n) (List.getElem?_eq_getElem hj2) (Nat.mod_lt _ hpos)
     injection e with e
     subst e
     have e2 : (Addr.mk g o none).add j = ⟨g, o + j, none⟩ := by
       unfold Addr.add
       split
       · rename_i h0; subst h0; rfl
       · rfl
     have e3 : j / n * n + j % n = j := Nat.div_add_mod' j n
     rw [e2]
     rw [e3, hu] at hp
     have := h1 (j % n) u hp.symm
     rw [Nat.add_assoc, e3] at this
     exact this
   have hbb : (L.length + N.length) * R.bytes ≤ 140737488355328 := by
     have : (L.length + N.length) * R.bytes ≤ 100000000 * 1000 := Nat.mul_le_mul hl R.sb
     omega
   obtain ⟨v', w', hrun, h2, h3, _, h5⟩ := run_append_own_at (P := P) w base T T E i0 _ n R.bytes R.und hi hz0 hz1 hz2 R.zlen hpos v L.length (valsG enc L) h ad N.length c (valsG enc N) (valsG_len he N) hcells
     (fun u hu => by
       simp only [valsG, List.mem_flatMap] at hu
       obtain ⟨s, _, hs⟩ := hu
       exact h1c s u hs) (by simp only [maxLen]; omega) hbb hbase
   refine ⟨v', w', hrun, ?_, h3, h5⟩
   unfold OwnG
   rw [List.length_append, valsG_app]
   exact h2
theorem rg_new (w : World) (x : α) (t : TypeId) : RG enc n (w.alloc (.cells (enc x).toArray t)) (some ⟨w.heap.size, 0, none⟩) [x] := fun k y hk => by
 cases k with
 | zero =>
   simp at hk
   subst hk
   refine ⟨_, _, rfl, by simp, fun j v hj => ?_⟩
   rw [World.cell?_alloc_at _ _ _ _ rfl, Nat.zero_mul, Nat.zero_add]
   simpa using hj
 | succ k => simp at hk
end
end
section
open Go.RowKit
inductive Cl where
 | v (x : Value)
 | r (t : TypeId) (n len : Nat) (vals : List Value)
def ClOk (w : World) (base : Nat) : Cl → Value → Prop
 | .v x, u => u = x
 | .r t n len vals, u => w.ownsRow base t n u len vals
def Cl.row : Cl → Bool
 | .v _ => false
 | .r .. => true
theorem ownsRow_of {w w' : World} {base : Nat} {t : TypeId} {n len : Nat} {v : Value} {vals : List Value} (h : w.ownsRow base t n v len vals) (hb : ∀ k, v.ownBlock = some k → w'.heap[k]? = w.heap[k]?) : w'.ownsRow base t n v len vals := by
 obtain ⟨h1, h2⟩ := h
 refine ⟨h1, ?_⟩
 rcases h2 with h | ⟨g, cap, cur, rfl, hg, hh, r⟩
 · exact .inl h
 · exact .inr ⟨g, cap, cur, rfl, hg, (hb g rfl).trans hh, r⟩
structure OI (w0 : World) (ty : TypeId) (g : Nat) (cs : List Cl) (T : Nat → Prop) (w : World) : Prop where
 below : Below w0.heap.size w0 w
 tg : T g
 tw : ∀ k, T k → w0.heap.size ≤ k ∧ k < w.heap.size
 body : ∃ vs : List Value, w.heap[g]? = some (.cells vs.toArray ty) ∧ vs.length = cs.length ∧
   (∀ (j : Nat) (c : Cl) (u : Value), cs[j]? = some c → vs[j]? = some u → ClOk w w0.heap.size c u ∧ (c.row = true → ∀ k, u.ownBlock = some k → T k ∧ k ≠ g)) ∧
   ∀ (i j : Nat) (c d : Cl) (u v : Value), i ≠ j → cs[i]? = some c → cs[j]? = some d → c.row = true → d.row = true → vs[i]? = some u → vs[j]? = some v → ∀ k, u.ownBlock = some k → v.ownBlock ≠ some k
theorem objSet {w : World} {g j : Nat} {vs : List Value} {t : TypeId} (h : w.heap[g]? = some (.cells vs.toArray t)) (v : Value) : (w.setCell ⟨g, j, none⟩ v).heap[g]? = some (.cells (vs.set j v).toArray t) := by
 unfold World.setCell
 simp [Array.getElem?_modify, h]
theorem objKp {w : World} {g j : Nat} {v : Value} : Kp w (w.setCell ⟨g, j, none⟩ v) (fun k => k = g) :=
 ⟨rfl, rfl, rfl, by simp, fun k _ hne => Below.heap_setCell _ _ _ _ (by simpa using hne)⟩
end
section
open Go.RowKit Go.Deep
def encPt (p : Pt) : List Value := [.int .i64 p.kind, .string p.text, .string p.name, .string p.op, .slice p.wA p.wn p.wc, .bool p.q]
theorem encPt_len (p : Pt) : (encPt p).length = 6 := rfl
theorem encPt_one (p : Pt) : ∀ u ∈ encPt p, u.oneCell' = true := by
 intro u hu
 simp [encPt] at hu
 rcases hu with rfl | rfl | rfl | rfl | rfl | rfl <;> rfl
def pt0 : Pt := ⟨0, ⟨#[]⟩, ⟨#[]⟩, ⟨#[]⟩, none, 0, 0, false⟩
def rowPt : RowT Tryz.prog 49 51 6 := { z := .agg #[.int .i64 0, .string ⟨#[]⟩, .string ⟨#[]⟩, .string ⟨#[]⟩, .slice none 0 0, .bool false], bytes := 88, und := Tryz.underlying49, info := by kernel_rfl, zlen := rfl, pos := by omega, sb := by omega }
structure FR where
 A : Option Addr
 c : Nat
 L : List Pt
def encFR (r : FR) : List Value := [.slice r.A r.L.length r.c]
theorem encFR_len (r : FR) : (encFR r).length = 1 := rfl
theorem encFR_one (r : FR) : ∀ u ∈ encFR r, u.oneCell' = true := by
 intro u hu
 simp [encFR] at hu
 rw [hu]; rfl
def rowFR : RowT Tryz.prog 90 49 1 := { z := .slice none 0 0, bytes := 24, und := Tryz.underlying90, info := by kernel_rfl, zlen := rfl, pos := by omega, sb := by omega }
abbrev tyF : TypeId := 90
abbrev tyN : TypeId := 49
abbrev tyP : TypeId := 51
theorem cellOfF {w : World} {g : Nat} {cs : Array Value} {t : TypeId} (h : w.heap[g]? = some (.cells cs t)) {j : Nat} {v : Value} (hj : cs[j]? = some v) : w.cell? ⟨g, j, none⟩ = some v := by simp [World.cell?, h, hj]
theorem freeOfF {w : World} {g : Nat} {cs : Array Value} {t : TypeId} (h : w.heap[g]? = some (.cells cs t)) (j : Nat) : w.frozen? ⟨g, j, none⟩ = false := by simp [World.frozen?, h]
structure SpI (w0 : World) (po pn : Nat) (out : List FR) (now : List Pt) (vo vn : Value) (w : World) : Prop where
 below : Below w0.heap.size w0 w
 lo : w0.heap.size ≤ po ∧ w0.heap.size ≤ pn ∧ po ≠ pn
 ho : w.heap[po]? = some (.cells #[vo] tyF)
 hn : w.heap[pn]? = some (.cells #[vn] tyN)
 oo : OwnG encFR 1 tyN w w0.heap.size vo out
 on : OwnG encPt 6 tyP w w0.heap.size vn now
 bo : ∀ k, vo.ownBlock = some k → k ≠ po ∧ k ≠ pn
 bn : ∀ k, vn.ownBlock = some k → k ≠ po ∧ k ≠ pn ∧ vo.ownBlock ≠ some k
 rows : ∀ r ∈ out, RG encPt 6 w r.A r.L ∧ r.L.length ≤ r.c ∧ r.L ≠ [] ∧ ∀ a, r.A = some a → a.block < w.heap.size ∧ a.block ≠ po ∧ a.block ≠ pn ∧ vo.ownBlock ≠ some a.block ∧ vn.ownBlock ≠ some a.block
theorem OwnG.of {α : Type} {enc : α → List Value} {n : Nat} {E : TypeId} {w w' : World} {base : Nat} {v : Value} {L : List α} (h : OwnG enc n E w base v L) (hb : ∀ k, v.ownBlock = some k → w'.heap[k]? = w.heap[k]?) : OwnG enc n E w' base v L := ownsRow_of h hb
theorem SpI.step {w0 w w' : World} {po pn : Nat} {out : List FR} {now : List Pt} {vo vn : Value} (h : SpI w0 po pn out now vo vn w) (hb : Below w.heap.size w w') : SpI w0 po pn out now vo vn w' := by
 have h1 := (Array.getElem?_eq_some_iff.1 h.ho).1
 have h2 := (Array.getElem?_eq_some_iff.1 h.hn).1
 refine ⟨h.below.trans (hb.mono h.below.size), h.lo, (hb.block _ h1).trans h.ho, (hb.block _ h2).trans h.hn, h.oo.of fun k hk => hb.block k (h.oo.lt k hk).2, h.on.of fun k hk => hb.block k (h.on.lt k hk).2, h.bo, h.bn, fun r hr => ?_⟩
 obtain ⟨r1, r2, r3, r4⟩ := h.rows r hr
 exact ⟨r1.below hb, r2, r3, fun a e => ⟨Nat.lt_of_lt_of_le (r4 a e).1 hb.size, (r4 a e).2⟩⟩
theorem SpI.below_of {w0 w w' : World} {po pn : Nat} {out : List FR} {now : List Pt} {vo vn : Value} (h : SpI w0 po pn out now vo vn w) (hk : Kp w w' (fun k => w0.heap.size ≤ k)) : Below w0.heap.size w0 w' := hk.below h.below (Nat.le_refl _) fun k hk => hk
theorem SpI.flush0 {w0 w : World} {po pn : Nat} {out : List FR} {vo vn : Value} (h : SpI w0 po pn out [] vo vn w) : SpI w0 po pn out [] vo (.slice none 0 0) (w.setCell ⟨pn, 0, none⟩ (.slice none 0 0)) := by
 have hk : Kp w (w.setCell ⟨pn, 0, none⟩ (.slice none 0 0)) (fun k => k = pn) := objKp
 have hs := objSet (j := 0) (vs := [vn]) h.hn (.slice none 0 0)
 have h1 := (Array.getElem?_eq_some_iff.1 h.ho).1
 refine ⟨h.below_of (hk.mono fun k e => e ▸ h.lo.2.1), h.lo, (hk.block po h1 h.lo.2.2).trans h.ho, by simpa using hs, h.oo.of fun k e => hk.block k (h.oo.lt k e).2 (h.bo k e).2, OwnG.nil _ _, h.bo, fun k e => by simp [Value.ownBlock] at e, fun r hr => ?_⟩
 obtain ⟨r1, r2, r3, r4⟩ := h.rows r hr
 refine ⟨r1.of (by simp) fun a e hl => hk.block _ hl (r4 a e).2.2.1, r2, r3, fun a e => ⟨by simpa using (r4 a e).1, (r4 a e).2.1, (r4 a e).2.2.1, (r4 a e).2.2.2.1, by simp [Value.ownBlock]⟩⟩
theorem SpI.flush1 {w0 w : World} {po pn : Nat} {out : List FR} {now : List Pt} {A0 : Option Addr} {n0 c0 : Nat} {A : Option Addr} {n c : Nat} (h : SpI w0 po pn out now (.slice A0 n0 c0) (.slice A n c) w) (hne : now ≠ []) (hl : out.length ≤ 1000000) :
   ∃ A' c' w4, (Builtin.append_ #[tyF, tyF] tyF #[.slice A0 n0 c0, .slice (some ⟨w.heap.size, 0, none⟩) 1 1]).run Tryz.prog (w.alloc (.cells #[.slice A n c] tyN)) = .ok (.slice A' (n0 + 1) c') w4 ∧
     (w4.cell? ⟨po, 0, none⟩ = some (.slice A0 n0 c0) ∧ w4.frozen? ⟨po, 0, none⟩ = false) ∧
     ((w4.setCell ⟨po, 0, none⟩ (.slice A' (n0 + 1) c')).cell? ⟨pn, 0, none⟩ = some (.slice A n c) ∧ (w4.setCell ⟨po, 0, none⟩ (.slice A' (n0 + 1) c')).frozen? ⟨pn, 0, none⟩ = false) ∧
     SpI w0 po pn (out ++ [⟨A, c, now⟩]) [] (.slice A' (n0 + 1) c') (.slice none 0 0) ((w4.setCell ⟨po, 0, none⟩ (.slice A' (n0 + 1) c')).setCell ⟨pn, 0, none⟩ (.slice none 0 0)) := by
 obtain ⟨A1, c1, e, hc, hr, hb, _⟩ := h.on.slice encPt_len
 injection e with e1 e2 e3
 subst e1 e2 e3
 obtain ⟨A2, c2, e, _, _, _, _⟩ := h.oo.slice encFR_len
 injection e with e1 e2 e3
 have hba := (Below.refl w.heap.size w).alloc (Nat.le_refl _) (.cells #[.slice A now.length c] tyN)
 have h3 := h.step hba
 have hx : RG encFR 1 (w.alloc (.cells #[.slice A now.length c] tyN)) (some ⟨w.heap.size, 0, none⟩) [⟨A, c, now⟩] := rg_new (enc := encFR) (n := 1) w ⟨A, c, now⟩ tyN
 obtain ⟨v4, w4, hrun, ho, hg, hv⟩ := run_appG rowFR encFR_len encFR_one (c := 1) h3.oo hx h3.below.size (by simp; omega)
 obtain ⟨A', c', e9, _, _, _, _⟩ := ho.slice encFR_len
 rw [List.length_append, List.length_singleton, ← e2] at e9
 subst e9
 have hsz : (w.alloc (.cells #[.slice A now.length c] tyN)).heap.size = w.heap.size + 1 := by simp
 have hpo := (Array.getElem?_eq_some_iff.1 h3.ho).1
 have hpn := (Array.getElem?_eq_some_iff.1 h3.hn).1
 have hpo0 := (Array.getElem?_eq_some_iff.1 h.ho).1
 have hpn0 := (Array.getElem?_eq_some_iff.1 h.hn).1
 have hg1 := (hg.block po hpo (fun e => (h3.bo po e.symm).1 rfl)).trans h3.ho
 have hg2 := (hg.block pn hpn (fun e => (h3.bo pn e.symm).2 rfl)).trans h3.hn
 have hs1 : (w4.setCell ⟨po, 0, none⟩ (.slice A' (n0 + 1) c')).heap[po]? = some (.cells #[.slice A' (n0 + 1) c'] tyF) := by simpa using objSet (j := 0) (vs := [.slice A0 n0 c0]) hg1 (.slice A' (n0 + 1) c')
 have hk1 : Kp w4 (w4.setCell ⟨po, 0, none⟩ (.slice A' (n0 + 1) c')) (fun k => k = po) := objKp
 have hs2 := (hk1.block pn (Nat.lt_of_lt_of_le hpn hg.size) (fun e => h.lo.2.2 e.symm)).trans hg2
 obtain ⟨w5, hw5⟩ : ∃ Z, w4.setCell ⟨po, 0, none⟩ (.slice A' (n0 + 1) c') = Z := ⟨_, rfl⟩
 rw [hw5] at hs1 hk1 hs2
 have hs3 : (w5.setCell ⟨pn, 0, none⟩ (.slice none 0 0)).heap[pn]? = some (.cells #[.slice none 0 0] tyN) := by simpa using objSet (j := 0) (vs := [.slice A now.length c]) hs2 (.slice none 0 0)
 have hk2 : Kp w5 (w5.setCell ⟨pn, 0, none⟩ (.slice none 0 0)) (fun k => k = pn) := objKp
 obtain ⟨w6, hw6⟩ : ∃ Z, w5.setCell ⟨pn, 0, none⟩ (.slice none 0 0) = Z := ⟨_, rfl⟩
 rw [hw6] at hs3 hk2
 have hvl : ∀ k, (Value.slice A0 n0 c0).ownBlock = some k → w0.heap.size ≤ k ∧ k < w.heap.size := fun k e => h.oo.lt k e
 have hnl : ∀ k, (Value.slice A now.length c).ownBlock = some k → w0.heap.size ≤ k ∧ k < w.heap.size := fun k e => h.on.lt k e
 have hkk : ∀ k, k < w4.heap.size → k ≠ po → k ≠ pn → w6.heap[k]? = w4.heap[k]? := fun k h1 h2 h3 => (hk2.block k (Nat.lt_of_lt_of_le h1 hk1.size) h3).trans (hk1.block k h1 h2)
 have hk4 : ∀ k, k < w.heap.size → (Value.slice A0 n0 c0).ownBlock ≠ some k → w4.heap[k]? = w.heap[k]? := fun k h1 h2 => (hg.block k (by omega) (fun e => h2 e.symm)).trans (Below.heap_alloc _ _ _ h1)
 have hvn : ∀ k, (Value.slice A' (n0 + 1) c').ownBlock = some k → k < w4.heap.size ∧ w0.heap.size ≤ k ∧ k ≠ po ∧ k ≠ pn ∧ (∀ a : Addr, a.block < w.heap.size → (Value.slice A0 n0 c0).ownBlock ≠ some a.block → k ≠ a.block) := fun k e => by
   refine ⟨(ho.lt k e).2, (ho.lt k e).1, ?_⟩
   rcases hv with q | q
   · rw [q] at e
     exact ⟨(h.bo k e).1, (h.bo k e).2, fun a _ ha e2 => ha (e2 ▸ e)⟩
   · rw [q] at e
     injection e with e
     rw [hsz] at e
     exact ⟨by omega, by omega, fun a ha _ => by omega⟩
 have hs4 := hg.size
 refine ⟨A', c', w4, hrun, ⟨cellOfF hg1 (j := 0) rfl, freeOfF hg1 0⟩, ⟨?_, ?_⟩, ?_⟩
 · rw [hw5]; exact cellOfF hs2 (j := 0) rfl
 · rw [hw5]; exact freeOfF hs2 0
 · rw [hw5, hw6]
   have hbl : Below w0.heap.size w0 w6 := by
     have b1 : Below w0.heap.size w0 w4 := h3.below.trans (Below.of_gb hg h3.below.size (fun k e => (hvl k e).1))
     have b2 := hk1.below b1 (Nat.le_refl _) (fun k e => e ▸ h.lo.1)
     exact hk2.below b2 (Nat.le_refl _) (fun k e => e ▸ h.lo.2.1)
   refine ⟨hbl, h.lo, (hk2.block po (Array.getElem?_eq_some_iff.1 hs1).1 h.lo.2.2).trans hs1, hs3, ho.of fun k e => hkk k (hvn k e).1 (hvn k e).2.2.1 (hvn k e).2.2.2.1, OwnG.nil _ _, fun k e => ⟨(hvn k e).2.2.1, (hvn k e).2.2.2.1⟩, fun k e => by simp [Value.ownBlock] at e, fun r hr2 => ?_⟩
   have hw64 : w4.heap.size ≤ w6.heap.size := Nat.le_trans hk1.size hk2.size
   rcases List.mem_append.1 hr2 with hr2 | hr2
   · obtain ⟨r1, r2, r3, r4⟩ := h.rows r hr2
     refine ⟨r1.of (by omega) fun a e hl => ?_, r2, r3, fun a e => ?_⟩
     · obtain ⟨q1, q2, q3, q4, q5⟩ := r4 a e
       rw [hkk _ (by omega) q2 q3, hk4 _ hl q4]
     · obtain ⟨q1, q2, q3, q4, q5⟩ := r4 a e
       exact ⟨by omega, q2, q3, fun e2 => (hvn _ e2).2.2.2.2 a q1 q4 rfl, by simp [Value.ownBlock]⟩
   · rw [List.mem_singleton.1 hr2]
     have q : ∀ a, A = some a → a.block < w.heap.size ∧ a.block ≠ po ∧ a.block ≠ pn ∧ (Value.slice A0 n0 c0).ownBlock ≠ some a.block := fun a e => by
       have e1 := hb a e
       obtain ⟨q2, q3, q4⟩ := h.bn _ e1
       exact ⟨(hnl _ e1).2, q2, q3, q4⟩
     refine ⟨hr.of (by omega) fun a e hl => ?_, hc, hne, fun a e => ?_⟩
     · obtain ⟨q1, q2, q3, q4⟩ := q a e
       rw [hkk _ (by omega) q2 q3, hk4 _ q1 q4]
     · obtain ⟨q1, q2, q3, q4⟩ := q a e
       exact ⟨by omega, q2, q3, fun e2 => (hvn _ e2).2.2.2.2 a q1 q4 rfl, by simp [Value.ownBlock]⟩
end
section
open Go.RowKit Go.Shelf
theorem bldInfo : (Tryz.prog.info? 122).map (·.size) = some 2 := by kernel_rfl
theorem bldLies : liesAt Tryz.prog Tryz.prog.depth 122 (2 / Tryz.prog.cellsOf 122) 0 122 1 = true := by kernel_rfl
theorem bytInfo : (Tryz.prog.info? 5).map (fun i => (i.zero, i.size, i.bytes)) = some (some (.int .u8 0), 1, 1) := by kernel_rfl
abbrev Bld (B b : Nat) (l : List UInt8) (w : World) : Prop := Lib.IsBuilder 122 5 B b (Lib.byteCells l) w
theorem copyCheck_any (B b : Nat) (bs : List Value) (w : World) (h : Lib.IsBuilder 122 5 B b bs w) :
   Calls Tryz.prog 117 #[.pointer (some ⟨b, 0, none⟩)] w fun e w' => e = .returned (.tuple #[]) ∧ Lib.BuilderAt 122 5 B b (.pointer (some ⟨b, 0, none⟩)) bs w' ∧ Below B w w' := by
 obtain ⟨j, hj, hjs⟩ := Option.map_eq_some_iff.1 bldInfo
 have u35 := run_underlying Tryz.underlying120
 rcases h with h | h
 · have h0 := h.cell0
   have hsh := h.shape
   have hfz := h.frozen0
   have HB := hide h
   clear h
   go_enter Tryz.func117, Tryz.ntmps117
   go_wp2
   rw [Lib.run_to_unsafe w ⟨b, 0, none⟩ Tryz.underlying120 Tryz.underlying218 hj (by rw [hjs]; decide) hsh (Nat.zero_lt_succ 1)]
   simp only [Result.andThen]
   rw [Oper.upon_value]
   go_wp2
   rw [run_callFunc_extern Tryz.func176 (by kernel_rfl) (by kernel_rfl) (by kernel_rfl) (e := Extern.AbiNoEscape.same) (by kernel_rfl)]
   rw [Lib.run_noEscape]
   simp only [Result.andThen]
   rw [Oper.upon_value]
   go_wp2
   rw [Lib.run_from_unsafe w ⟨b, 0, none⟩ Tryz.underlying218 Tryz.underlying120 hj hsh bldLies]
   simp only [Result.andThen]
   rw [Oper.upon_value]
   go_wp2
   go_end0
   exact ⟨rfl, HB.out.used _, (Below.refl B w).setCell (p := ⟨b, 0, none⟩) HB.out.1 _⟩
 · have h0 := h.cell0
   have HB := hide h
   clear h
   go_enter Tryz.func117, Tryz.ntmps117
   go_wp2
   rw [Lib.run_neq_ptr_same _ _ Tryz.underlying120 hj]
   go_wp2
   go_end0
   exact ⟨rfl, HB.out, Below.refl B w⟩
theorem neBld : 122 ≠ 5 := by decide
theorem bldCells (l : List UInt8) (s : ByteArray) : Lib.byteCells l ++ Lib.strCells s = Lib.byteCells (l ++ s.data.toList) := by
 unfold Lib.byteCells Lib.strCells
 first | rfl | (rw [List.map_append]; rfl) | simp
theorem writeStr_any (B b : Nat) (l : List UInt8) (s : ByteArray) (w : World) (h : Bld B b l w) (hlen : l.length + s.size ≤ 140737488355328) (hBw : B ≤ w.heap.size) :
   Calls Tryz.prog 65 #[.pointer (some ⟨b, 0, none⟩), .string s] w fun e w' => e = .returned (.tuple #[.int .i64 s.size, .nilIface]) ∧ Bld B b (l ++ s.data.toList) w' ∧ Below B w w' := by
 obtain ⟨i0, hi, hz0, hz1, hz2⟩ := info_parts bytInfo
 have HC := hide (copyCheck_any B b _ w h)
 have hbl : (Lib.byteCells l).length = l.length := by simp [Lib.byteCells]
 have HBL := hide hbl
 obtain ⟨bs, hbs⟩ : ∃ bs, Lib.byteCells l = bs := ⟨_, rfl⟩
 have HBS := hide hbs
 unfold Bld at h
 rw [hbs] at HC h
 rw [hbs] at hbl
 have HBL2 := hide hbl
 clear h hbs hbl
 go_enter Tryz.func65, Tryz.ntmps65
 go_wp2_with fail
 refine HC.out.mono ?_
 rintro e w1 ⟨rfl, h1, hb1⟩
 obtain ⟨hB, v, hbk, hown, hne⟩ := h1
 have c0 : w1.cell? ⟨b, 0, none⟩ = some (.pointer (some ⟨b, 0, none⟩)) := by rw [Lib.cell_of_heap hbk]; rfl
 have c1 : w1.cell? ⟨b, 1, none⟩ = some v := by rw [Lib.cell_of_heap hbk]; rfl
 go_wp2_with (at_builtin; refine Lib.wpList_append_own_string _ rfl _ _ 55 9 rfl B 5 i0 Tryz.underlying55 Tryz.underlying9 hi hz0 hz1 hz2 _ _ _ rfl hown s rfl ?c3 ?c4 ?c5 ?_)
 case c3 => unfold maxLen; have := HBL2.out; omega
 case c4 => have := HBL2.out; omega
 case c5 => have := hb1.size; omega
 intro v' w2 hown' hgrow _
 have hlt : b < w1.heap.size := (Array.getElem?_eq_some_iff.1 hbk).1
 have hb2 : w2.heap[b]? = some (.cells #[.pointer (some ⟨b, 0, none⟩), v] 122 (0, 0)) := by
   rw [hgrow.block b hlt (fun e => hne e.symm)]
   exact hbk
 have d0 : w2.cell? ⟨b, 0, none⟩ = some (.pointer (some ⟨b, 0, none⟩)) := by rw [Lib.cell_of_heap hb2]; rfl
 have d1 : w2.cell? ⟨b, 1, none⟩ = some v := by rw [Lib.cell_of_heap hb2]; rfl
 have f1 : w2.frozen? ⟨b, 1, none⟩ = false := Lib.frozen_of_heap hb2 1
 obtain ⟨ao, n', cap, rfl⟩ : ∃ ao n' cap, v' = .slice ao n' cap := by
   rcases hown'.2 with ⟨hv, _⟩ | ⟨g, cap, cur, hv, _⟩
   · exact ⟨_, _, _, hv⟩
   · exact ⟨_, _, _, hv⟩
 go_wp2
 go_ret2
 refine ⟨rfl, .inr ?_, ?_⟩
 · rw [← bldCells, HBS.out]
   exact Lib.BuilderAt.put hB hb2 (bs' := bs ++ Lib.strCells s) (by rw [List.length_append, Lib.strCells_length]; exact hown') neBld
 · exact (hb1.grown hgrow (by have := hb1.size; omega) (fun k hk => (hown.lt k hk).1)).setCell (p := ⟨b, 1, none⟩) hB _
theorem bldStr_any (B b : Nat) (l : List UInt8) (w : World) (h : Bld B b l w) (hBw : B ≤ w.heap.size) :
   Calls Tryz.prog 66 #[.pointer (some ⟨b, 0, none⟩)] w fun e w' => e = .returned (.string ⟨l.toArray⟩) ∧ Below B w w' := Tryz.Builder_String_any B b l w h hBw
theorem Bld.fresh (w : World) : Bld w.heap.size w.heap.size [] (w.alloc (.cells #[.pointer none, .slice none 0 0] 122)) :=
 .inl ⟨Nat.le_refl _, .slice none 0 0, heapNew w _, World.ownsRow_nil _ _ _ _, by simp [Value.ownBlock]⟩
end
section
open Go.RowKit Go.Deep
theorem Bld.step {B b : Nat} {l : List UInt8} {w w' : World} (h : Bld B b l w) (hb : Below w.heap.size w w') : Bld B b l w' := by
 have key : ∀ p, Lib.BuilderAt 122 5 B b p (Lib.byteCells l) w → Lib.BuilderAt 122 5 B b p (Lib.byteCells l) w' := by
   rintro p ⟨h1, v, h2, h3, h4⟩
   exact ⟨h1, v, (hb.block b (Array.getElem?_eq_some_iff.1 h2).1).trans h2, ownsRow_of h3 fun k hk => hb.block k (h3.lt k hk).2, h4⟩
 exact h.imp (key _) (key _)
end
end Go.Proofs.YtpheeheikigenaaGreatDoor
namespace Go.Proofs.YtpheeheikigenaaGreatDoor.Qt
open Go.RowKit Go.Deep
attribute [local go_sem] bt_eq
theorem own_slice {w : World} {base : Nat} {v : Value} {l : List Nat} (h : OwnB w base v l) : ∃ A c, v = .slice A l.length c := by
 rcases h.2 with ⟨rfl, hn⟩ | ⟨g, cap, cur, rfl, _⟩
 · exact ⟨none, 0, by rw [hn]⟩
 · exact ⟨_, cap, rfl⟩
theorem own_sliceN {w : World} {base n : Nat} {v : Value} {l : List Nat} (h : OwnB w base v l) (hn : l.length = n) : ∃ A c, v = .slice A n c := by
 subst hn; exact own_slice h
def sb (l : List Nat) : ByteArray := strOfNums (l.map fun n : Nat => (n : Int))
theorem sb_size (l : List Nat) : (sb l).size = l.length := by simp [sb, strOfNums_size]
theorem conv_own {W : World} {base : Nat} {v : Value} {l : List Nat} (h : OwnB W base v l) : (convert 55 9 v).run Tryz.prog W = .ok (.string (sb l)) W := by
 rcases h.2 with ⟨rfl, hn⟩ | ⟨g, cap, cur, rfl, _, hh, _⟩
 · have hl : l = [] := List.eq_nil_of_length_eq_zero hn
   subst hl
   exact run_convert_bytes_nil W 55 5 Tryz.underlying55 Tryz.underlying5 0 0 _ Tryz.underlying9
 · refine run_convert_bytes_arg W 55 5 Tryz.underlying55 Tryz.underlying5 g 0 l.length cap (l.map fun n : Nat => (n : Int)) (by simp) (fun i hi => ?_) _ Tryz.underlying9
   rw [Nat.zero_add, World.ownsRow.cellAt h i (by omega)]
   simp [nbytes, List.getD_eq_getElem?_getD, hi]
theorem below_gb {B : Nat} {wr w' : World} {o : Obj} {r : Option Nat} (hg : (wr.alloc o).grownBy w' r) (hr : ∀ k, r = some k → B ≤ k) (hB : B ≤ wr.heap.size) : Below B wr w' :=
 ((Below.refl B wr).alloc hB o).grown hg (by simp; omega) hr
def isSp (c : Nat) : Bool := c == 42 || c == 63 || c == 91 || c == 92
def q1 (c : Nat) : List Nat := if isSp c then [92, c] else [c]
def qb (t : Nat → Nat) (k : Nat) : List Nat := (List.range k).flatMap fun j => q1 (t j)
theorem qb_succ (t : Nat → Nat) (k : Nat) : qb t (k + 1) = qb t k ++ q1 (t k) := by simp [qb, List.range_succ, List.flatMap_append]
theorem qb_len (t : Nat → Nat) (k : Nat) : (qb t k).length ≤ 2 * k := by
 induction k with
 | zero => simp [qb]
 | succ k ih =>
   rw [qb_succ, List.length_append]
   have : (q1 (t k)).length ≤ 2 := by unfold q1; split <;> simp
   omega
theorem quote_any (s : ByteArray) (w : World) (hs : s.size ≤ 1000) :
   Calls Tryz.prog 98 #[.string s] w fun e w' => e = .returned (.string (sb (qb (bt s) s.size))) ∧ Below w.heap.size w w' := by
 have hsb := run_bytes_of_string (P := Tryz.prog) w 9 55 5 s Tryz.underlying9 Tryz.underlying55 Tryz.underlying5
 generalize hC : grownCap w s.size 0 5 = C at hsb
 have hcl : ∀ j, j < s.size → ((w.alloc (.cells (bytesRow s C) 5 ((bytesRow s C).size, (bytesRow s C).size + 1))).drew).cell? ⟨w.heap.size, j, none⟩ = some (.int .u8 (bt s j)) := fun j hj => by
   show (w.alloc (.cells (bytesRow s C) 5 ((bytesRow s C).size, (bytesRow s C).size + 1))).cell? ⟨w.heap.size, j, none⟩ = _
   rw [World.cell?_alloc_mark, bytesRow_at s C j hj, ← bt_eq s j hj]
   rfl
 have HC0 := hide hcl
 have HC1 := hide hC
 clear hcl hC
 go_enter Tryz.func98, Tryz.ntmps98
 go_wp2_with fail
 clear hsb
 have hsz0 : w.heap.size < ((w.alloc (.cells (bytesRow s C) 5 ((bytesRow s C).size, (bytesRow s C).size + 1))).drew).heap.size := by simp
 have hb0 : Below w.heap.size w ((w.alloc (.cells (bytesRow s C) 5 ((bytesRow s C).size, (bytesRow s C).size + 1))).drew) := ((Below.refl _ _).alloc (Nat.le_refl _) _).drew
 generalize (w.alloc (.cells (bytesRow s C) 5 ((bytesRow s C).size, (bytesRow s C).size + 1))).drew = w1 at HC0 hsz0 hb0 ⊢
 have HC := HC0
 have hsz := hsz0
 have HB0 := hide hb0
 clear HC0 hsz0 hb0 HC1
 go_loopw [3, 9] (fun v3 v9 wr => ∃ k : Nat, v9 = .int .i64 k ∧ k ≤ s.size ∧ OwnB wr w1.heap.size v3 (qb (bt s) k) ∧ Below w1.heap.size w1 wr) (fun _ v9 _ => s.size - (intOf v9).toNat)
 case atStart => exact ⟨0, rfl, by omega, World.ownsRow_nil _ _ _ _, Below.refl _ _⟩
 case round =>
   obtain ⟨k, rfl, hk, ho, hb⟩ := hrel
   obtain ⟨Ao, co, rfl⟩ := own_slice ho
   have hql := qb_len (bt s) k
   have HO := hide ho
   have HW := hide hb
   have hql2 : (qb (bt s) k).length ≤ 2000 := by omega
   clear ho hb hql
   by_cases hlt : k < s.size
   · have hor : isSp (bt s k) = (bt s k == 42 || bt s k == 63 || bt s k == 91 || bt s k == 92) := rfl
     have HOR := hide hor
     clear hor
     have hcell := (HW.out.cell (p := ⟨w.heap.size, k, none⟩) hsz).trans (HC.out k hlt)
     go_upto_region 5 with (fail)
     go_cut [26] from 13 to 26 (fun sc wx => sc = .bool (isSp (bt s k)) ∧ wr = wx)
     case first =>
       by_cases e0 : bt s k = 42
       · have q0 : (((bt s k : Nat) : Int) == 42) = true := by simp only [beq_iff_eq]; omega
         have E0 := hide (show (bt s k == 42) = true by simp [e0])
         clear e0
         go_wp2
         go_meet
         refine ⟨?_, rfl⟩
         rw [HOR.out]
         simp [E0.out]
       have q0 : (((bt s k : Nat) : Int) == 42) = false := by simp only [beq_eq_false_iff_ne]; omega
       have E0 := hide (show (bt s k == 42) = false by simp [e0])
       by_cases e1 : bt s k = 63
       · have q1 : (((bt s k : Nat) : Int) == 63) = true := by simp only [beq_iff_eq]; omega
         have E1 := hide (show (bt s k == 63) = true by simp [e1])
         clear e0 e1
         go_wp2
         go_meet
         refine ⟨?_, rfl⟩
         rw [HOR.out]
         simp [E1.out]
       have q1 : (((bt s k : Nat) : Int) == 63) = false := by simp only [beq_eq_false_iff_ne]; omega
       have E1 := hide (show (bt s k == 63) = false by simp [e1])
       by_cases e2 : bt s k = 91
       · have q2 : (((bt s k : Nat) : Int) == 91) = true := by simp only [beq_iff_eq]; omega
         have E2 := hide (show (bt s k == 91) = true by simp [e2])
         clear e0 e1 e2
         go_wp2
         go_meet
         refine ⟨?_, rfl⟩
         rw [HOR.out]
         simp [E2.out]
       have q2 : (((bt s k : Nat) : Int) == 91) = false := by simp only [beq_eq_false_iff_ne]; omega
       have E2 := hide (show (bt s k == 91) = false by simp [e2])
       by_cases e3 : bt s k = 92
       · have q3 : (((bt s k : Nat) : Int) == 92) = true := by simp only [beq_iff_eq]; omega
         have E3 := hide (show (bt s k == 92) = true by simp [e3])
         clear e0 e1 e2 e3
         go_wp2
         go_meet
         refine ⟨?_, rfl⟩
         rw [HOR.out]
         simp [E3.out]
       have q3 : (((bt s k : Nat) : Int) == 92) = false := by simp only [beq_eq_false_iff_ne]; omega
       have E3 := hide (show (bt s k == 92) = false by simp [e3])
       clear e0 e1 e2 e3
       go_wp2
       go_meet
       refine ⟨?_, rfl⟩
       rw [HOR.out]
       simp [E0.out, E1.out, E2.out, E3.out]
     case rest =>
       obtain ⟨rfl, hw⟩ := hcut
       subst hw
       cases hsp : isSp (bt s k) with
       | true =>
         have HQ := hide (show qb (bt s) (k + 1) = (qb (bt s) k ++ [92]) ++ [bt s k] by rw [qb_succ, q1, if_pos hsp]; simp)
         clear hsp
         go_wp2_with (first | (at_builtin; refine wpList_appB wr ?_ (.tmp 27) (.tmp 28) ?_ w1.heap.size (.slice Ao (qb (bt s) k).length co) (qb (bt s) k) ?_ HO.out 92 ?_ ?_ ?_ ?_; exact rfl; exact rfl; exact rfl; exact rfl; (first | omega | (simp; omega)); exact HW.out.size; intro v1 x1 ho1 hg1 hat1; obtain ⟨A1, c1, rfl⟩ := own_sliceN (n := (qb (bt s) k).length + 1) ho1 (by simp); have HW1 := hide (HW.out.trans (below_gb hg1 (fun k hk => (HO.out.lt k hk).1) HW.out.size)); have HO1 := hide ho1; clear ho1 hg1 hat1) | (at_builtin; refine wpList_appB x1 ?_ (.tmp 30) (.tmp 32) ?_ w1.heap.size (.slice A1 ((qb (bt s) k).length + 1) c1) (qb (bt s) k ++ [92]) ?_ HO1.out (bt s k) ?_ ?_ ?_ ?_; exact rfl; exact rfl; exact rfl; exact rfl; (first | omega | (simp; omega)); exact HW1.out.size; intro v2 x2 ho2 hg2 hat2; obtain ⟨A2, c2, rfl⟩ := own_sliceN (n := (qb (bt s) k).length + 1 + 1) ho2 (by simp); have HW2 := hide (HW1.out.trans (below_gb hg2 (fun k hk => (HO1.out.lt k hk).1) HW1.out.size)); have HO2 := hide ho2; clear ho2 hg2 hat2))
         go_roundw
         case rel => exact ⟨k + 1, by go_num, by omega, by rw [HQ.out]; exact HO2.out, HW2.out⟩
         case measure => simp [intOf]; omega
       | false =>
         have HQ := hide (show qb (bt s) (k + 1) = qb (bt s) k ++ [bt s k] by rw [qb_succ, q1, if_neg (by simp [hsp])])
         clear hsp
         go_wp2_with (at_builtin; refine wpList_appB wr ?_ (.tmp 30) (.tmp 32) ?_ w1.heap.size (.slice Ao (qb (bt s) k).length co) (qb (bt s) k) ?_ HO.out (bt s k) ?_ ?_ ?_ ?_; exact rfl; exact rfl; exact rfl; exact rfl; (first | omega | (simp; omega)); exact HW.out.size; intro v2 x2 ho2 hg2 hat2; obtain ⟨A2, c2, rfl⟩ := own_sliceN (n := (qb (bt s) k).length + 1) ho2 (by simp); have HW2 := hide (HW.out.trans (below_gb hg2 (fun k hk => (HO.out.lt k hk).1) HW.out.size)); have HO2 := hide ho2; clear ho2 hg2 hat2)
         go_roundw
         case rel => exact ⟨k + 1, by go_num, by omega, by rw [HQ.out]; exact HO2.out, HW2.out⟩
         case measure => simp [intOf]; omega
   · obtain rfl : k = s.size := by omega
     have hcv := conv_own HO.out
     go_wp2
     go_ret
     exact ⟨rfl, below_up HB0.out HW.out HB0.out.size⟩
end Go.Proofs.YtpheeheikigenaaGreatDoor.Qt
namespace Go.Proofs.YtpheeheikigenaaGreatDoor
section
open Go.RowKit Go.Deep
def quoS (s : ByteArray) : ByteArray := Qt.sb (Qt.qb (bt s) s.size)
theorem quoS_size (s : ByteArray) : (quoS s).size ≤ 2 * s.size := by
 unfold quoS
 rw [Qt.sb_size]
 exact Qt.qb_len _ _
def patP (p : Pt) : ByteArray := if p.kind = 1 then p.text else quoS p.text
def patS (L : List Pt) : List UInt8 := L.flatMap fun p => (patP p).data.toList
theorem patS_succ {L : List Pt} {k : Nat} {x : Pt} (h : L[k]? = some x) : patS (L.take (k + 1)) = patS (L.take k) ++ (patP x).data.toList := by
 unfold patS
 rw [List.take_add_one, h, List.flatMap_append]
 simp
theorem patP_size (p : Pt) : (patP p).size ≤ 2 * p.text.size := by
 unfold patP
 split
 · omega
 · exact quoS_size _
theorem patS_le (L : List Pt) (hz : ∀ p ∈ L, p.text.size ≤ 1000) : ∀ k, (patS (L.take k)).length ≤ k * 2000
 | 0 => by simp [patS]
 | k + 1 => by
   have ih := patS_le L hz k
   cases hx : L[k]? with
   | none =>
     have : L.take (k + 1) = L.take k := by rw [List.take_add_one, hx]; simp
     rw [this, Nat.add_mul]; exact Nat.le_trans ih (Nat.le_add_right _ _)
   | some x =>
     have h1 := hz x (List.mem_of_getElem? hx)
     have h2 := patP_size x
     rw [patS_succ hx, List.length_append, ← Lib.size_eq, Nat.add_mul]
     exact Nat.add_le_add ih (Nat.le_trans h2 (by omega))
theorem pat_any (A : Option Addr) (c : Nat) (L : List Pt) (w : World) (hA : RG encPt 6 w A L) (hl : L.length ≤ 1000) (hz : ∀ p ∈ L, p.text.size ≤ 1000) :
   Calls Tryz.prog 46 #[.slice A L.length c] w fun e w' => e = .returned (.string (bsF (patS L))) ∧ Below w.heap.size w w' := by
 have HA := hide hA
 have HZ := hide hz
 obtain ⟨n, hn⟩ : ∃ n, L.length = n := ⟨_, rfl⟩
 have HN := hide hn
 rw [hn] at hl ⊢
 have hni : (n : Int) ≤ 1000 := by omega
 have HB0 := hide (Bld.fresh w)
 clear hA hz hn
 go_enter Tryz.func46, Tryz.ntmps46
 go_wp2
 go_loopw [5, 8] (fun _ v8 wr => ∃ k : Nat, v8 = .int .i64 k ∧ k ≤ n ∧ Hid (Bld w.heap.size w.heap.size (patS (L.take k)) wr) ∧ Hid (Below w.heap.size w wr)) (fun _ v8 _ => n - (intOf v8).toNat)
 case atStart => exact ⟨0, rfl, by omega, HB0, hide ((Below.refl _ _).alloc (Nat.le_refl _) _)⟩
 case round =>
   obtain ⟨wo, hwo⟩ : ∃ Z, Z = wr := ⟨_, rfl⟩
   subst hwo
   obtain ⟨k, rfl, hk, HBL, HBE⟩ := hrel
   by_cases hlt : k < n
   case neg =>
     obtain rfl : k = n := by omega
     have htk : L.take k = L := List.take_of_length_le (by have := HN.out; omega)
     have hs := HBL.out
     rw [htk] at hs
     have HS := hide (bldStr_any w.heap.size w.heap.size _ wo hs HBE.out.size)
     clear hs htk
     go_wp2_with fail
     refine HS.out.mono ?_
     rintro e wf ⟨rfl, hb⟩
     have HF := hide (HBE.out.trans hb)
     clear hb
     go_wp2
     go_ret
     exact ⟨rfl, HF.out⟩
   obtain ⟨x, hx⟩ : ∃ x, L[k]? = some x := ⟨L[k]'(by have := HN.out; omega), gE _⟩
   obtain ⟨g, o, rfl, hg, hc⟩ := HA.out.below HBE.out k x hx
   have hc0 : wo.cell? ⟨g, o + k * 6, none⟩ = some (.int .i64 x.kind) := by have := hc 0 _ rfl; simpa using this
   have hc1 : wo.cell? ⟨g, o + k * 6 + 1, none⟩ = some (.string x.text) := hc 1 _ rfl
   have hc2 : wo.cell? ⟨g, o + k * 6 + 2, none⟩ = some (.string x.name) := hc 2 _ rfl
   have hc3 : wo.cell? ⟨g, o + k * 6 + 3, none⟩ = some (.string x.op) := hc 3 _ rfl
   have hc4 : wo.cell? ⟨g, o + k * 6 + 4, none⟩ = some (.slice x.wA x.wn x.wc) := hc 4 _ rfl
   have hc5 : wo.cell? ⟨g, o + k * 6 + 5, none⟩ = some (.bool x.q) := hc 5 _ rfl
   have b1 : (k : Int) < (n : Int) := by omega
   have HTS := hide (patS_succ hx)
   have hpl := patS_le L HZ.out k
   have hxz := HZ.out x (List.mem_of_getElem? hx)
   have hqz := quoS_size x.text
   have hbo := (Below.refl wo.heap.size wo).alloc (Nat.le_refl _) (.cells #[.int .i64 x.kind, .string x.text, .string x.name, .string x.op, .slice x.wA x.wn x.wc, .bool x.q] tyP)
   have HBS := hide (HBL.out.step hbo)
   have HB1 := hide (HBE.out.trans (hbo.mono HBE.out.size))
   have HBX := hide (heapNew wo (.cells #[.int .i64 x.kind, .string x.text, .string x.name, .string x.op, .slice x.wA x.wn x.wc, .bool x.q] tyP))
   have hpl2 : (patS (L.take k)).length ≤ 2000000 := by omega
   clear hc hx hbo hpl
   obtain ⟨kd, tx, nm, op, wA, wn, wk, q⟩ := x
   dsimp only at hc0 hc1 hc2 hc3 hc4 hc5 hxz hqz
   have e0 : (wo.alloc (.cells #[.int .i64 kd, .string tx, .string nm, .string op, .slice wA wn wk, .bool q] tyP)).cell? ⟨wo.heap.size, 0, none⟩ = some (.int .i64 kd) := cellOfF HBX.out rfl
   have e1 : (wo.alloc (.cells #[.int .i64 kd, .string tx, .string nm, .string op, .slice wA wn wk, .bool q] tyP)).cell? ⟨wo.heap.size, 1, none⟩ = some (.string tx) := cellOfF HBX.out rfl
   by_cases hkd : kd = 1
   · have HPP := hide (show patP ⟨kd, tx, nm, op, wA, wn, wk, q⟩ = tx from if_pos hkd)
     subst hkd
     have HWR := hide (writeStr_any w.heap.size w.heap.size (patS (L.take k)) tx _ HBS.out (by omega) HB1.out.size)
     clear hqz
     go_wp2_with fail
     refine HWR.out.mono ?_
     rintro e wf ⟨rfl, hbl, hbe⟩
     have HBL2 := hide hbl
     have HBE2 := hide (HB1.out.trans hbe)
     clear hbl hbe e0 e1
     go_wp2
     exact ⟨⟨k + 1, by go_num, by omega, hide (by rw [HTS.out, HPP.out]; exact HBL2.out), HBE2⟩, by simp [intOf]; omega⟩
   · have HPP := hide (show patP ⟨kd, tx, nm, op, wA, wn, wk, q⟩ = quoS tx from if_neg hkd)
     have kn : ¬ kd = 1 := hkd
     have kf : (kd == 1) = false := by simpa using hkd
     have HQU := hide (Qt.quote_any tx (wo.alloc (.cells #[.int .i64 kd, .string tx, .string nm, .string op, .slice wA wn wk, .bool q] tyP)) hxz)
     clear hkd
     go_wp2_with fail
     refine HQU.out.mono ?_
     rintro e wq ⟨rfl, hbq⟩
     have HWR := hide (writeStr_any w.heap.size w.heap.size (patS (L.take k)) (quoS tx) wq (HBS.out.step hbq) (by omega) (by have := HB1.out.size; have := hbq.size; omega))
     have HB2 := hide (HB1.out.trans (hbq.mono HB1.out.size))
     clear hbq hqz e0 e1 hpl2
     go_wp2_with fail
     refine HWR.out.mono ?_
     rintro e wf ⟨rfl, hbl, hbe⟩
     have HBL2 := hide hbl
     have HBE2 := hide (HB2.out.trans hbe)
     clear hbl hbe
     go_wp2
     exact ⟨⟨k + 1, by go_num, by omega, hide (by rw [HTS.out, HPP.out]; exact HBL2.out), HBE2⟩, by simp [intOf]; omega⟩
end
end Go.Proofs.YtpheeheikigenaaGreatDoor
namespace Qm.Glob
def wdn (g : Nat → Bool) : Nat → Nat
 | 0 => 0
 | n + 1 => wdn g n + (if g n then 2 ^ n else 0)
theorem wdn_lt (g : Nat → Bool) (n : Nat) : wdn g n < 2 ^ n := by
 induction n with
 | zero => simp [wdn]
 | succ n ih => simp only [wdn, Nat.pow_succ]; split <;> omega
theorem testBit_wdn (g : Nat → Bool) (n b : Nat) : (wdn g n).testBit b = (decide (b < n) && g b) := by
 induction n with
 | zero => simp [wdn]
 | succ n ih =>
   simp only [wdn]
   have hl := wdn_lt g n
   split
   · rename_i h
     rw [Nat.add_comm]
     by_cases hb : b < n
     · rw [Nat.testBit_two_pow_add_gt hb, ih]; simp [hb]; intro; omega
     · by_cases e : b = n
       · subst e; rw [Nat.testBit_two_pow_add_eq, ih]; simp [h]
       · have : 2 ^ n + wdn g n < 2 ^ b := by
           have : 2 ^ (n + 1) ≤ 2 ^ b := Nat.pow_le_pow_right (by omega) (by omega)
           rw [Nat.pow_succ] at this; omega
         rw [Nat.testBit_lt_two_pow this]
         have : ¬ b < n + 1 := by omega
         simp [this]
   · rename_i h
     rw [Nat.add_zero, ih]
     by_cases hb : b < n
     · have : b < n + 1 := by omega
       simp [hb, this]
     · by_cases e : b = n
       · subst e; simp [h]
       · have : ¬ b < n + 1 := by omega
         simp [hb, this]
def wd (S : Nat → Bool) (j : Nat) : Nat := wdn (fun b => S (64 * j + b)) 64
theorem wd_lt (S : Nat → Bool) (j : Nat) : wd S j < 18446744073709551616 := by
 have := wdn_lt (fun b => S (64 * j + b)) 64
 simpa [wd] using this
theorem testBit_wd (S : Nat → Bool) (j b : Nat) : (wd S j).testBit b = (decide (b < 64) && S (64 * j + b)) := testBit_wdn _ _ _
def addS (S : Nat → Bool) (lo k : Nat) : Nat → Bool := fun c => S c || (decide (lo ≤ c) && decide (c < k))
theorem addS_none (S : Nat → Bool) (lo k : Nat) (h : k ≤ lo) : addS S lo k = S := by
 funext c
 simp only [addS]
 by_cases h1 : lo ≤ c <;> by_cases h2 : c < k <;> simp [h1, h2]
 omega
theorem wd_congr {S T : Nat → Bool} {j : Nat} (h : ∀ b, b < 64 → S (64 * j + b) = T (64 * j + b)) : wd S j = wd T j := by
 apply Nat.eq_of_testBit_eq
 intro b
 rw [testBit_wd, testBit_wd]
 by_cases hb : b < 64
 · rw [h b hb]
 · simp [hb]
theorem wd_step (S : Nat → Bool) (lo k : Nat) (h : lo ≤ k) : wd (addS S lo k) (k / 64) ||| 2 ^ (k % 64) = wd (addS S lo (k + 1)) (k / 64) := by
 apply Nat.eq_of_testBit_eq
 intro b
 rw [Nat.testBit_or, testBit_wd, testBit_wd, Nat.testBit_two_pow]
 by_cases hb : b < 64
 · simp only [hb, decide_true, Bool.true_and, addS]
   by_cases e : k % 64 = b
   · have e1 : 64 * (k / 64) + b = k := by omega
     rw [e1]
     simp [e, h]
   · have h1 : (decide (64 * (k / 64) + b < k + 1)) = decide (64 * (k / 64) + b < k) := by
       apply decide_eq_decide.2; omega
     rw [h1]
     simp [e]
 · have : k % 64 ≠ b := by omega
   simp [hb, this]
theorem wd_other (S : Nat → Bool) (lo k j : Nat) (h : j ≠ k / 64) : wd (addS S lo (k + 1)) j = wd (addS S lo k) j := by
 apply wd_congr
 intro b hb
 simp only [addS]
 have h1 : (decide (64 * j + b < k + 1)) = decide (64 * j + b < k) := by
   apply decide_eq_decide.2; omega
 rw [h1]
theorem wd_not (S : Nat → Bool) (j : Nat) : 18446744073709551615 - wd S j = wd (fun c => !S c) j := by
 have hl := wd_lt S j
 apply Nat.eq_of_testBit_eq
 intro b
 have e : 18446744073709551615 - wd S j = 2 ^ 64 - (wd S j + 1) := by omega
 rw [e, Nat.testBit_two_pow_sub_succ (by simpa using hl), testBit_wd, testBit_wd]
 by_cases hb : b < 64 <;> simp [hb]
def gOne (t : Nat → Nat) (n i : Nat) : Nat × Nat × Bool :=
 if i < n ∧ t i = 92 then (if i + 1 < n then (t (i + 1), i + 2, true) else (0, i + 1, false))
 else (if i < n then (t i, i + 1, true) else (0, i, false))
def giCell (b0 : Bool) (S : Nat → Bool) (b1 : Bool) (c : Nat) (b2 : Bool) (i : Nat) : Go.Value :=
 if i = 0 then .bool b0 else if i < 5 then .int .u64 (wd S (i - 1)) else if i = 5 then .bool b1 else if i = 6 then .int .u8 c else .bool b2
def giAgg (b0 : Bool) (S : Nat → Bool) (b1 : Bool) (c : Nat) (b2 : Bool) : Array Go.Value :=
 #[.bool b0, .int .u64 (wd S 0), .int .u64 (wd S 1), .int .u64 (wd S 2), .int .u64 (wd S 3), .bool b1, .int .u8 c, .bool b2]
theorem giCell_word (b0 : Bool) (S : Nat → Bool) (b1 : Bool) (c : Nat) (b2 : Bool) (k : Nat) (h : k / 64 < 4) : giCell b0 S b1 c b2 (1 + ((k : Int) / 64).toNat) = .int .u64 (wd S (k / 64)) := by
 have e : ((k : Int) / 64).toNat = k / 64 := by omega
 rw [e]
 unfold giCell
 rw [if_neg (by omega), if_pos (by omega), show 1 + k / 64 - 1 = k / 64 from by omega]
theorem giCell_word' (b0 : Bool) (S : Nat → Bool) (b1 : Bool) (c : Nat) (b2 : Bool) (k : Nat) (h : k < 4) : giCell b0 S b1 c b2 (1 + k) = .int .u64 (wd S k) := by
 unfold giCell
 rw [if_neg (by omega), if_pos (by omega), show 1 + k - 1 = k from by omega]
theorem gOne_ok {t : Nat → Nat} {n i : Nat} (h : (gOne t n i).2.2 = true) : i < (gOne t n i).2.1 ∧ (gOne t n i).2.1 ≤ n := by
 revert h
 unfold gOne
 (repeat' split) <;> simp <;> omega
theorem gOne_lt {t : Nat → Nat} {n i : Nat} (ht : ∀ j, t j < 256) : (gOne t n i).1 < 256 := by
 have h1 := ht i
 have h2 := ht (i + 1)
 unfold gOne
 (repeat' split) <;> simp <;> omega
def gBr (t : Nat → Nat) (n first : Nat) (nt : Bool) : Nat → Nat → (Nat → Bool) → Option ((Nat → Bool) × Nat)
 | 0, _, _ => none
 | f + 1, i, S =>
   if i < n then
     if t i = 93 ∧ first < i then some (if nt then fun c => !S c else S, i + 1)
     else if (gOne t n i).2.2 = true then
       if (gOne t n i).2.1 + 1 < n ∧ t (gOne t n i).2.1 = 45 ∧ t ((gOne t n i).2.1 + 1) ≠ 93 then
         if (gOne t n ((gOne t n i).2.1 + 1)).2.2 = true then gBr t n first nt f (gOne t n ((gOne t n i).2.1 + 1)).2.1 (addS S (gOne t n i).1 ((gOne t n ((gOne t n i).2.1 + 1)).1 + 1))
         else none
       else gBr t n first nt f (gOne t n i).2.1 (addS S (gOne t n i).1 ((gOne t n i).1 + 1))
     else none
   else none
def brNt (t : Nat → Nat) (n i : Nat) : Bool := decide (i < n) && (t i == 33)
def brAt (t : Nat → Nat) (n i : Nat) : Nat := if brNt t n i then i + 1 else i
def gBracket (t : Nat → Nat) (n i : Nat) : Option ((Nat → Bool) × Nat) := gBr t n (brAt t n i) (brNt t n i) (n + 1 - brAt t n i) (brAt t n i) (fun _ => false)
structure GI where
 star : Bool
 S : Nat → Bool
 plain : Bool
 c : Nat
 closed : Bool
def GI.cells (x : GI) : List Go.Value := (giAgg x.star x.S x.plain x.c x.closed).toList
def giCells (l : List GI) : List Go.Value := l.flatMap GI.cells
def giStar : GI := ⟨true, fun _ => false, false, 0, false⟩
def giAny : GI := ⟨false, addS (fun _ => false) 0 256, false, 0, false⟩
def giOne (c : Nat) : GI := ⟨false, addS (fun _ => false) c (c + 1), true, c, false⟩
def giSet (S : Nat → Bool) : GI := ⟨false, S, false, 0, true⟩
def gIt (t : Nat → Nat) (n : Nat) : Nat → Nat → List GI
 | 0, _ => []
 | f + 1, i =>
   if i < n then
     if t i = 42 then giStar :: gIt t n f (i + 1)
     else if t i = 63 then giAny :: gIt t n f (i + 1)
     else if t i = 92 then (if i + 1 < n then giOne (t (i + 1)) :: gIt t n f (i + 2) else giOne 92 :: gIt t n f (i + 1))
     else if t i = 91 then
       match gBracket t n (i + 1) with
       | some x => giSet x.1 :: gIt t n f x.2
       | none => giOne 91 :: gIt t n f (i + 1)
     else giOne (t i) :: gIt t n f (i + 1)
   else []
def gItems (t : Nat → Nat) (n : Nat) : List GI := gIt t n (n + 1) 0
theorem gBr_le {t : Nat → Nat} {n first : Nat} {nt : Bool} : ∀ (f i : Nat) (S : Nat → Bool) (x : (Nat → Bool) × Nat), gBr t n first nt f i S = some x → i < x.2 ∧ x.2 ≤ n
 | 0, _, _, _, h => by simp [gBr] at h
 | f + 1, i, S, x, h => by
   rw [gBr] at h
   by_cases h1 : i < n
   · rw [if_pos h1] at h
     by_cases h2 : t i = 93 ∧ first < i
     · rw [if_pos h2] at h
       injection h with h
       subst h
       exact ⟨by simp, by simp; omega⟩
     · rw [if_neg h2] at h
       by_cases h3 : (gOne t n i).2.2 = true
       · rw [if_pos h3] at h
         have g := gOne_ok h3
         split at h
         · split at h
           · rename_i h5
             have g2 := gOne_ok h5
             have := gBr_le f _ _ _ h
             omega
           · cases h
         · have := gBr_le f _ _ _ h
           omega
       · rw [if_neg h3] at h
         cases h
   · rw [if_neg h1] at h
     cases h
theorem brAt_ge (t : Nat → Nat) (n i : Nat) : i ≤ brAt t n i := by unfold brAt; split <;> omega
theorem gBracket_le {t : Nat → Nat} {n i : Nat} {x : (Nat → Bool) × Nat} (h : gBracket t n i = some x) : i < x.2 ∧ x.2 ≤ n := by
 have := gBr_le _ _ _ _ h
 have := brAt_ge t n i
 omega
theorem gi_one' (x : GI) : ∀ u ∈ x.cells, u.oneCell' = true := by
 intro u hu
 simp only [GI.cells, giAgg, List.mem_cons, List.not_mem_nil, or_false] at hu
 rcases hu with rfl | rfl | rfl | rfl | rfl | rfl | rfl | rfl <;> rfl
theorem giCells_snoc (l : List GI) (x : GI) : giCells (l ++ [x]) = giCells l ++ x.cells := by simp [giCells]
def scan (f : Nat → Bool) : Nat → Bool
 | 0 => f 0
 | i + 1 => f (i + 1) || scan f i
def E (st : Nat → Bool) (hs : Nat → Nat → Bool) (t : Nat → Nat) : Nat → Nat → Bool
 | 0, i => i == 0
 | k + 1, i => if st k then scan (E st hs t k) i else match i with
   | 0 => false
   | i + 1 => E st hs t k i && hs k (t i)
section
variable {st : Nat → Bool} {hs : Nat → Nat → Bool} {t : Nat → Nat}
end
theorem gIt_len (t : Nat → Nat) (n : Nat) : ∀ f i, (gIt t n f i).length ≤ n - i
 | 0, i => by simp [gIt]
 | f + 1, i => by
   rw [gIt]
   by_cases h : i < n
   · rw [if_pos h]
     have h1 := gIt_len t n f (i + 1)
     have h2 := gIt_len t n f (i + 2)
     split
     · simp only [List.length_cons]; omega
     · split
       · simp only [List.length_cons]; omega
       · split
         · split
           · simp only [List.length_cons]; omega
           · simp only [List.length_cons]; omega
         · split
           · split
             · rename_i x hx
               have h3 := gIt_len t n f x.2
               have h4 := gBracket_le hx
               simp only [List.length_cons]; omega
             · simp only [List.length_cons]; omega
           · simp only [List.length_cons]; omega
   · rw [if_neg h]; simp
theorem gItems_len (t : Nat → Nat) (n : Nat) : (gItems t n).length ≤ n := by
 have := gIt_len t n (n + 1) 0
 unfold gItems
 omega
theorem giCells_get : ∀ (l : List GI) (k : Nat) (x : GI), l[k]? = some x → ∀ j u, x.cells[j]? = some u → (giCells l)[k * 8 + j]? = some u
 | [], k, x, h, _, _, _ => by simp at h
 | y :: l, k, x, h, j, u, hu => by
   have hj : j < 8 := by
     have := (List.getElem?_eq_some_iff.1 hu).1
     simpa [GI.cells, giAgg] using this
   have hy : y.cells.length = 8 := by simp [GI.cells, giAgg]
   have e : giCells (y :: l) = y.cells ++ giCells l := by simp [giCells]
   rw [e]
   cases k with
   | zero =>
     simp at h
     subst h
     rw [List.getElem?_append_left (by omega)]
     simpa using hu
   | succ k =>
     rw [List.getElem?_append_right (by omega), hy, show (k + 1) * 8 + j - 8 = k * 8 + j from by omega]
     exact giCells_get l k x (by simpa using h) j u hu
def rOne (t : Nat → Nat) (n i : Nat) : Nat × Nat := if t i = 92 ∧ i + 1 < n then (t (i + 1), 2) else (t i, 1)
def rSet (t : Nat → Nat) (n : Nat) : Nat → Bool → Nat → List Nat → List Nat → List Nat × List Nat × Nat
 | 0, _, i, lo, hi => (lo, hi, i)
 | f + 1, first, i, lo, hi =>
   if i < n ∧ (first = true ∨ t i ≠ 93) then
     if i + (rOne t n i).2 + 1 < n ∧ t (i + (rOne t n i).2) = 45 ∧ t (i + (rOne t n i).2 + 1) ≠ 93 then
       rSet t n f false (i + (rOne t n i).2 + 1 + (rOne t n (i + (rOne t n i).2 + 1)).2) (lo ++ [(rOne t n i).1]) (hi ++ [(rOne t n (i + (rOne t n i).2 + 1)).1])
     else rSet t n f false (i + (rOne t n i).2) (lo ++ [(rOne t n i).1]) (hi ++ [(rOne t n i).1])
   else (lo, hi, i)
structure RI where
 kind : Nat
 c : Nat
 nt : Bool
 lo : List Nat
 hi : List Nat
def rSetOf (t : Nat → Nat) (n i : Nat) : List Nat × List Nat × Nat := rSet t n (n + 1 - brAt t n i) true (brAt t n i) [] []
def inR (lo hi : List Nat) (c : Nat) : Bool := (lo.zip hi).any fun x => decide (x.1 ≤ c) && decide (c ≤ x.2)
def RI.is (x : RI) (c : Nat) : Bool := if x.kind = 0 then x.c == c else if x.kind = 2 then true else (inR x.lo x.hi c != x.nt)
def rStar : RI := ⟨1, 0, false, [], []⟩
def rAny : RI := ⟨2, 0, false, [], []⟩
def rByte (c : Nat) : RI := ⟨0, c, false, [], []⟩
def rIt (t : Nat → Nat) (n : Nat) : Nat → Nat → List RI
 | 0, _ => []
 | f + 1, i =>
   if i < n then
     if t i = 42 then rStar :: rIt t n f (i + 1)
     else if t i = 63 then rAny :: rIt t n f (i + 1)
     else if t i = 91 ∧ (rSetOf t n (i + 1)).2.2 < n then ⟨3, 0, brNt t n (i + 1), (rSetOf t n (i + 1)).1, (rSetOf t n (i + 1)).2.1⟩ :: rIt t n f ((rSetOf t n (i + 1)).2.2 + 1)
     else rByte (rOne t n i).1 :: rIt t n f (i + (rOne t n i).2)
   else []
def rItems (t : Nat → Nat) (n : Nat) : List RI := rIt t n (n + 1) 0
end Qm.Glob
namespace Go.Proofs.YtpheeheikigenaaGreatDoor
section
open Go.RowKit Go.Deep Qm.Glob
attribute [local go_sem] bt_eq
theorem one_any (s : ByteArray) (i : Nat) (w : World) (hs : s.size ≤ 1000) (h1 : i ≤ s.size) :
   Calls Tryz.prog 215 #[.string s, .int .i64 i] w fun e w' => e = .returned (.tuple #[.int .u8 (gOne (bt s) s.size i).1, .int .i64 (gOne (bt s) s.size i).2.1, .bool (gOne (bt s) s.size i).2.2]) ∧ w = w' := by
 go_enter Tryz.func215, Tryz.ntmps215
 go_wp2
 all_goals go_ret3
 all_goals refine ⟨?_, rfl⟩
 all_goals
   go_light
   simp only [beq_iff_eq, beq_eq_false_iff_ne, Array.getD_eq_getD_getElem?] at *
   simp [gOne, *]
 all_goals (repeat' split) <;> first | omega | (simp; done) | (simp; omega) | (exfalso; omega)
theorem add_any (g : Nat) (b0 : Bool) (S : Nat → Bool) (b1 : Bool) (c : Nat) (b2 : Bool) (lo hi : Nat) (w : World) (h1 : lo ≤ 255) (h2 : hi ≤ 255) (hr : w.rowIs g 162 8 (giCell b0 S b1 c b2)) :
   Calls Tryz.prog 156 #[.pointer (some ⟨g, 1, none⟩), .int .u8 lo, .int .u8 hi] w fun e w' => e = .returned (.tuple #[]) ∧ w'.rowIs g 162 8 (giCell b0 (addS S lo (hi + 1)) b1 c b2) ∧ w.grownBy w' (some g) := by
 have HR := hide hr
 clear hr
 go_enter Tryz.func156, Tryz.ntmps156
 go_wp2
 go_loopw [6] (fun i wr => ∃ k : Nat, i = .int .i64 k ∧ lo ≤ k ∧ (k = lo ∨ k ≤ hi + 1) ∧ wr.rowIs g 162 8 (giCell b0 (addS S lo k) b1 c b2) ∧ w.grownBy wr (some g)) (fun i _ => 256 - (intOf i).toNat)
 case atStart => exact ⟨lo, rfl, Nat.le_refl _, .inl rfl, by rw [addS_none _ _ _ (Nat.le_refl _)]; exact HR.out, World.grownBy.refl _ _⟩
 case round =>
   obtain ⟨k, rfl, hk, hk2, hc, hg⟩ := hrel
   have HK := hide hk2
   clear hk2
   by_cases hlt : k ≤ hi
   · have hcell := hc.cell (i := 1 + ((k : Int) / 64).toNat) (by omega)
     have hfr := hc.frozen (1 + ((k : Int) / 64).toNat)
     have H := hide hc
     have HG := hide hg
     clear hc hg
     have h40 : 0 ≤ (k : Int) / 64 := by omega
     have h41 : (k : Int) / 64 < 4 := by omega
     have hb := and63_i64 k (by omega)
     have hb2 : ((k % 64 : Nat) : Int) < 64 := by omega
     have hgc := giCell_word b0 (addS S lo k) b1 c b2 k (by omega)
     rw [hgc] at hcell
     clear hgc
     go_wp2
     go_still_tail 12, (by kernel_rfl)
     go_wp2
     go_roundw
     case rel =>
       have hl := wd_lt (addS S lo k) (k / 64)
       go_light
       rw [u64_or_pow _ _ hl (by omega), wd_step S lo k hk]
       refine ⟨k + 1, by go_num, by omega, by omega, ((H.out.set (1 + k / 64) _).drew).congr (fun j hj => ?_), gb_drew (gb_setCell HG.out _ _)⟩
       simp only [giCell]
       by_cases e : j = 1 + k / 64
       · subst e
         simp only [if_true]
         rw [if_neg (by omega), if_pos (by omega), show 1 + k / 64 - 1 = k / 64 from by omega]
       · rw [if_neg e]
         by_cases e0 : j = 0
         · simp [e0]
         · by_cases e5 : j < 5
           · rw [if_neg e0, if_pos e5, if_neg e0, if_pos e5, wd_other S lo k (j - 1) (by omega)]
           · rw [if_neg e0, if_neg e5, if_neg e0, if_neg e5]
     case measure => simp [intOf]; omega
   · have H := hide hc
     have HG := hide hg
     clear hc hg
     go_wp2
     go_end0
     refine ⟨rfl, H.out.congr (fun j _ => ?_), HG.out⟩
     rcases HK.out with e | e
     · rw [addS_none S lo (hi + 1) (by omega), addS_none S lo k (by omega)]
     · rw [show k = hi + 1 from by omega]
end
section
open Go.RowKit Go.Deep Qm.Glob
attribute [local go_sem] bt_eq
theorem wd_empty (j : Nat) : wd (fun _ => false) j = 0 := by
 apply Nat.eq_of_testBit_eq
 intro b
 rw [testBit_wd]
 simp
theorem gi_new (w : World) (b0 b1 b2 : Bool) (c : Nat) : (w.alloc (.cells #[.bool b0, .int .u64 0, .int .u64 0, .int .u64 0, .int .u64 0, .bool b1, .int .u8 c, .bool b2] 162)).rowIs w.heap.size 162 8 (giCell b0 (fun _ => false) b1 c b2) :=
 World.rowIs_alloc _ _ _ _ fun i hi => by
   have hi : i < 8 := hi
   have h : i = 0 ∨ i = 1 ∨ i = 2 ∨ i = 3 ∨ i = 4 ∨ i = 5 ∨ i = 6 ∨ i = 7 := by omega
   rcases h with rfl | rfl | rfl | rfl | rfl | rfl | rfl | rfl <;> simp [giCell, wd_empty]
theorem gi_cells {w : World} {g t : Nat} {b0 : Bool} {S : Nat → Bool} {b1 : Bool} {c : Nat} {b2 : Bool} (h : w.rowIs g t 8 (giCell b0 S b1 c b2)) :
   w.cell? ⟨g, 0, none⟩ = some (.bool b0) ∧ w.cell? ⟨g, 1, none⟩ = some (.int .u64 (wd S 0)) ∧ w.cell? ⟨g, 2, none⟩ = some (.int .u64 (wd S 1)) ∧ w.cell? ⟨g, 3, none⟩ = some (.int .u64 (wd S 2)) ∧
   w.cell? ⟨g, 4, none⟩ = some (.int .u64 (wd S 3)) ∧ w.cell? ⟨g, 5, none⟩ = some (.bool b1) ∧ w.cell? ⟨g, 6, none⟩ = some (.int .u8 c) ∧ w.cell? ⟨g, 7, none⟩ = some (.bool b2) :=
 ⟨h.cell (i := 0) (by omega), h.cell (i := 1) (by omega), h.cell (i := 2) (by omega), h.cell (i := 3) (by omega), h.cell (i := 4) (by omega), h.cell (i := 5) (by omega), h.cell (i := 6) (by omega), h.cell (i := 7) (by omega)⟩
def gi8 (w : World) (g : Nat) (b0 : Bool) (S : Nat → Bool) (b1 : Bool) (c : Nat) (b2 : Bool) : World :=
 (((((((w.setCell ⟨g, 0, none⟩ (.bool b0)).setCell ⟨g, 1, none⟩ (.int .u64 (wd S 0))).setCell ⟨g, 2, none⟩ (.int .u64 (wd S 1))).setCell ⟨g, 3, none⟩ (.int .u64 (wd S 2))).setCell ⟨g, 4, none⟩ (.int .u64 (wd S 3))).setCell ⟨g, 5, none⟩ (.bool b1)).setCell ⟨g, 6, none⟩ (.int .u8 c)).setCell ⟨g, 7, none⟩ (.bool b2)
theorem gi8_row {w : World} {g t : Nat} {f : Nat → Value} (h : w.rowIs g t 8 f) (b0 : Bool) (S : Nat → Bool) (b1 : Bool) (c : Nat) (b2 : Bool) : (gi8 w g b0 S b1 c b2).rowIs g t 8 (giCell b0 S b1 c b2) :=
 ((((((((h.set 0 _).set 1 _).set 2 _).set 3 _).set 4 _).set 5 _).set 6 _).set 7 _).congr fun i hi => by
   have h : i = 0 ∨ i = 1 ∨ i = 2 ∨ i = 3 ∨ i = 4 ∨ i = 5 ∨ i = 6 ∨ i = 7 := by omega
   rcases h with rfl | rfl | rfl | rfl | rfl | rfl | rfl | rfl <;> rfl
theorem gi8_below {B : Nat} {a w : World} {g : Nat} (h : Below B a w) (hg : B ≤ g) (b0 : Bool) (S : Nat → Bool) (b1 : Bool) (c : Nat) (b2 : Bool) : Below B a (gi8 w g b0 S b1 c b2) :=
 (((((((h.setCell (p := ⟨g, 0, none⟩) hg _).setCell (p := ⟨g, 1, none⟩) hg _).setCell (p := ⟨g, 2, none⟩) hg _).setCell (p := ⟨g, 3, none⟩) hg _).setCell (p := ⟨g, 4, none⟩) hg _).setCell (p := ⟨g, 5, none⟩) hg _).setCell (p := ⟨g, 6, none⟩) hg _).setCell (p := ⟨g, 7, none⟩) hg _
theorem single_any (c : Nat) (w : World) (hc : c < 256) :
   Calls Tryz.prog 158 #[.int .u8 c] w fun e w' => e = .returned (.agg (giAgg false (addS (fun _ => false) c (c + 1)) true c false)) ∧ Below w.heap.size w w' := by
 go_enter Tryz.func158, Tryz.ntmps158
 go_wp2_with fail
 have hn := gi_new (w.alloc (.cells #[.bool false, .int .u64 0, .int .u64 0, .int .u64 0, .int .u64 0, .bool false, .int .u8 (0 : Nat), .bool false] 162)) false true false c
 have hn0 := gi_new w false false false 0
 have hz : (w.alloc (.cells #[.bool false, .int .u64 0, .int .u64 0, .int .u64 0, .int .u64 0, .bool false, .int .u8 (0 : Nat), .bool false] 162)).heap.size = w.heap.size + 1 := by simp
 rw [hz] at hn
 clear hz
 have HN := hide hn
 have HN0 := hide hn0
 clear hn hn0
 refine (add_any (w.heap.size + 1) false (fun _ => false) true c false c c _ (by omega) (by omega) HN.out).mono ?_
 rintro e w1 ⟨rfl, hr, hg⟩
 have hr0 : w1.rowIs w.heap.size 162 8 (giCell false (fun _ => false) false 0 false) := (HN0.out.alloc _).of_block (hg.block w.heap.size (by simp; omega) (by simp))
 have hb : Below w.heap.size w w1 := (((Below.refl _ _).alloc (Nat.le_refl _) _).alloc (by simp) _).trans (below_of_gb hg (by simp; omega) (by omega))
 obtain ⟨c0, c1, c2, c3, c4, c5, c6, c7⟩ := gi_cells hr
 obtain ⟨d0, d1, d2, d3, d4, d5, d6, d7⟩ := gi_cells hr0
 have hf0 := hr0.frozen
 have HB := hide hb
 have HR := hide hr0
 clear hb hg HN HN0 hr hr0
 go_wp2
 have hfin := gi8_row HR.out false (addS (fun _ => false) c (c + 1)) true c false
 have hbel := gi8_below HB.out (Nat.le_refl _) false (addS (fun _ => false) c (c + 1)) true c false
 unfold gi8 at hfin hbel
 refine bodyPost_ret (v := .agg (giAgg false (addS (fun _ => false) c (c + 1)) true c false)) ?_ rfl ⟨rfl, hbel⟩
 clear c0 c1 c2 c3 c4 c5 c6 c7 d0 d1 d2 d3 d4 d5 d6 d7 HB HR hbel hf0
 obtain ⟨c0, c1, c2, c3, c4, c5, c6, c7⟩ := gi_cells hfin
 clear hfin
 generalize ((((((((w1.setCell ⟨w.heap.size, 0, none⟩ _).setCell _ _).setCell _ _).setCell _ _).setCell _ _).setCell _ _).setCell _ _).setCell _ _) = W9 at c0 c1 c2 c3 c4 c5 c6 c7 ⊢
 simp only [results, Tryz.results158, giAgg]
 go_simp
end
section
open Go.RowKit Go.Deep Qm.Glob
attribute [local go_sem] bt_eq
def brVal : Option ((Nat → Bool) × Nat) → Value
 | some x => .tuple #[.agg (giAgg false x.1 false 0 true), .int .i64 x.2, .bool true]
 | none => .tuple #[.agg (giAgg false (fun _ => false) false 0 false), .int .i64 (0 : Nat), .bool false]
theorem ret_bracket {a : Act} {W : World} {g : Nat} {b0 : Bool} {S : Nat → Bool} {b1 : Bool} {c : Nat} {b2 : Bool} (v5 v6 : Value) (hr : W.rowIs g 162 8 (giCell b0 S b1 c b2))
   (h4 : a.tmps.getD 4 undef = .pointer (some ⟨g, 0, none⟩)) (h5 : a.tmps.getD 5 undef = v5) (h6 : a.tmps.getD 6 undef = v6) :
   (results Tryz.f157 a.tmps).run Tryz.prog W = .ok (.tuple #[.agg (giAgg b0 S b1 c b2), v5, v6]) W := by
 obtain ⟨c0, c1, c2, c3, c4, c5, c6, c7⟩ := gi_cells hr
 simp only [results, Tryz.results157, giAgg]
 simp only [Array.getD_eq_getD_getElem?] at h4 h5 h6
 simp [go_sem, h4, h5, h6, c0, c1, c2, c3, c4, c5, c6, c7]
theorem bracket_any (s : ByteArray) (i : Nat) (w : World) (hs : s.size ≤ 1000) (hi : i ≤ s.size) :
   Calls Tryz.prog 157 #[.string s, .int .i64 i] w fun e w' => e = .returned (brVal (gBracket (bt s) s.size i)) ∧ Below w.heap.size w w' := by
 go_enter Tryz.func157, Tryz.ntmps157
 have hn := gi_new (w.alloc (.cells #[.bool false, .int .u64 0, .int .u64 0, .int .u64 0, .int .u64 0, .bool false, .int .u8 (0 : Nat), .bool false] 162)) false false true 0
 have hn0 := (gi_new w false false false 0).alloc (.cells #[.bool false, .int .u64 0, .int .u64 0, .int .u64 0, .int .u64 0, .bool false, .int .u8 (0 : Nat), .bool true] 162)
 rw [show (w.alloc (.cells #[.bool false, .int .u64 0, .int .u64 0, .int .u64 0, .int .u64 0, .bool false, .int .u8 (0 : Nat), .bool false] 162)).heap.size = w.heap.size + 1 from by simp] at hn
 have HN := hide hn
 have HN0 := hide hn0
 clear hn hn0
 go_upto_region 2 with (fail)
 go_cut [8] from 16 to 25 (fun s8 wx => s8 = .bool (brNt (bt s) s.size i) ∧ wx.rowIs w.heap.size 162 8 (giCell false (fun _ => false) false 0 false) ∧ wx.rowIs (w.heap.size + 1) 162 8 (giCell false (fun _ => false) false 0 true) ∧ Below w.heap.size w wx)
 case first =>
   go_wp2
   all_goals go_meet
   all_goals refine ⟨?_, HN0.out, HN.out, ((Below.refl _ _).alloc (Nat.le_refl _) _).alloc (by simp) _⟩
   all_goals
     go_light
     clear HN0 HN
     simp only [brNt]
   · rename_i h
     simp only [h, decide_true, Bool.true_and]
     congr 1
     rw [Bool.eq_iff_iff]
     simp only [beq_iff_eq]
     omega
   · have h : (decide (i < s.size)) = false := by simp; omega
     simp [h]
 case rest =>
   obtain ⟨rfl, hr0, hr1, hb⟩ := hcut
   have HR0 := hide hr0
   have HR1 := hide hr1
   have HB := hide hb
   clear hr0 hr1 hb HN HN0
   go_upto_if 26 with (fail)
   go_cut [1] from 27 to 28 (fun s1 wx => s1 = .int .i64 (brAt (bt s) s.size i) ∧ wc = wx)
   case first =>
     go_wp2
     all_goals go_meet
     all_goals refine ⟨?_, rfl⟩
     all_goals
       go_light
       rename_i h
       simp only [brAt, h]
     all_goals simp
   case rest =>
     obtain ⟨rfl, hw⟩ := hcut
     have hle : brAt (bt s) s.size i ≤ s.size := by unfold brAt brNt; split <;> simp_all <;> omega
     have hR : gBr (bt s) s.size (brAt (bt s) s.size i) (brNt (bt s) s.size i) (s.size + 1 - brAt (bt s) s.size i) (brAt (bt s) s.size i) (fun _ => false) = gBracket (bt s) s.size i := rfl
     subst hw
     have HR := hide hR
     clear hR
     generalize brAt (bt s) s.size i = i0 at HR hle ⊢
     generalize brNt (bt s) s.size i = nt at HR ⊢
     go_wp2
     go_loopw [1] (fun v1 wr => ∃ (k f : Nat) (S : Nat → Bool), v1 = .int .i64 k ∧ k ≤ s.size ∧ s.size < f + k ∧ gBr (bt s) s.size i0 nt f k S = gBracket (bt s) s.size i ∧ wr.rowIs w.heap.size 162 8 (giCell false (fun _ => false) false 0 false) ∧
         wr.rowIs (w.heap.size + 1) 162 8 (giCell false S false 0 true) ∧ Below w.heap.size w wr) (fun v1 _ => s.size - (intOf v1).toNat)
     case atStart => exact ⟨i0, _, _, rfl, hle, by omega, HR.out, HR0.out, HR1.out, HB.out⟩
     case round =>
       obtain ⟨k, f, S, rfl, hk, hf, hR, hr0, hr1, hb⟩ := hrel
       clear HR HR0 HR1 HB
       have HR := hide hR
       have HR0 := hide hr0
       have HR1 := hide hr1
       have HB := hide hb
       clear hR hr0 hr1 hb
       by_cases hlt : k < s.size
       · obtain ⟨f, rfl⟩ : ∃ f', f = f' + 1 := ⟨f - 1, by omega⟩
         by_cases h93 : bt s k = 93 ∧ i0 < k
         · have h1 : (((bt s k : Nat) : Int) == 93) = true := by simp only [beq_iff_eq]; omega
           have h2 := h93.2
           have HRn := hide (show gBracket (bt s) s.size i = some (if nt then fun c => !S c else S, k + 1) by rw [← HR.out, gBr, if_pos hlt, if_pos ⟨h93.1, h2⟩])
           clear HR h93
           cases nt with
           | false =>
             obtain ⟨c0, c1, c2, c3, c4, c5, c6, c7⟩ := gi_cells HR0.out
             obtain ⟨d0, d1, d2, d3, d4, d5, d6, d7⟩ := gi_cells HR1.out
             have hf0 := HR0.out.frozen
             go_wp2
             have hfin := gi8_row HR0.out false S false 0 true
             have hbel := gi8_below HB.out (Nat.le_refl _) false S false 0 true
             unfold gi8 at hfin hbel
             exact bodyPost_ret (ret_bracket _ _ hfin rfl rfl rfl) rfl ⟨by rw [HRn.out]; rfl, hbel⟩
           | true =>
             go_wp2
             go_loopw [44] (fun v44 wx => ∃ j : Nat, v44 = .int .i64 j ∧ j ≤ 4 ∧ wx.rowIs w.heap.size 162 8 (giCell false (fun _ => false) false 0 false) ∧
                 wx.rowIs (w.heap.size + 1) 162 8 (fun q => if 1 ≤ q ∧ q ≤ j then .int .u64 (wd (fun c => !S c) (q - 1)) else giCell false S false 0 true q) ∧ Below w.heap.size w wx) (fun v44 _ => 4 - (intOf v44).toNat)
             case atStart => exact ⟨0, rfl, by omega, HR0.out, HR1.out.congr (fun q _ => by rw [if_neg (by omega)]), HB.out⟩
             case round =>
               clear HR0 HR1 HB
               obtain ⟨j, rfl, hj, hr0, hr1, hb⟩ := hrel
               have HR0 := hide hr0
               have HR1 := hide hr1
               have HB := hide hb
               clear hr0 hr1 hb
               by_cases hj4 : j < 4
               · have hcell := HR1.out.cell (i := 1 + j) (by omega)
                 have hfr := HR1.out.frozen (1 + j)
                 rw [if_neg (by omega), giCell_word' false S false 0 true j hj4] at hcell
                 go_wp2
                 go_roundw
                 case rel =>
                   rw [u64_not _ (wd_lt S j), wd_not]
                   refine ⟨j + 1, by go_num, by omega, HR0.out.setOther (by simp) _, (HR1.out.set (1 + j) _).congr (fun q hq => ?_), HB.out.setCell (by simp) _⟩
                   by_cases e : q = 1 + j
                   · subst e
                     rw [if_pos rfl, if_pos (by omega), show 1 + j - 1 = j from by omega]
                   · rw [if_neg e]
                     by_cases e2 : 1 ≤ q ∧ q ≤ j
                     · rw [if_pos e2, if_pos (by omega)]
                     · rw [if_neg e2, if_neg (by omega)]
                 case measure => simp [intOf]; omega
               · obtain rfl : j = 4 := by omega
                 obtain ⟨c0, c1, c2, c3, c4, c5, c6, c7⟩ := gi_cells HR0.out
                 have hr1' := HR1.out.congr (g := giCell false (fun c => !S c) false 0 true) (fun q hq => by
                   have h : q = 0 ∨ q = 1 ∨ q = 2 ∨ q = 3 ∨ q = 4 ∨ q = 5 ∨ q = 6 ∨ q = 7 := by omega
                   rcases h with rfl | rfl | rfl | rfl | rfl | rfl | rfl | rfl <;> rfl)
                 obtain ⟨d0, d1, d2, d3, d4, d5, d6, d7⟩ := gi_cells hr1'
                 have hf0 := HR0.out.frozen
                 clear hr1'
                 go_wp2
                 have hfin := gi8_row HR0.out false (fun c => !S c) false 0 true
                 have hbel := gi8_below HB.out (Nat.le_refl _) false (fun c => !S c) false 0 true
                 unfold gi8 at hfin hbel
                 exact bodyPost_ret (ret_bracket _ _ hfin rfl rfl rfl) rfl ⟨by rw [HRn.out]; rfl, hbel⟩
         · --{C
           go_upto_region 7 with (fail)
           go_cut [42] from 34 to 42 (fun s42 wx => s42 = .bool false ∧ wr = wx)
           case first =>
             by_cases h1 : bt s k = 93
             · have h2 : ¬ i0 < k := fun h => h93 ⟨h1, h⟩
               have h3 : (((bt s k : Nat) : Int) == 93) = true := by simp only [beq_iff_eq]; omega
               clear h93 h1
               go_wp2
               go_meet
               exact ⟨rfl, rfl⟩
             · have h3 : (((bt s k : Nat) : Int) == 93) = false := by simp only [beq_eq_false_iff_ne]; omega
               clear h93 h1
               go_wp2
               go_meet
               exact ⟨rfl, rfl⟩
           case rest =>
             obtain ⟨rfl, hw⟩ := hcut
             subst hw
             go_wp2_with fail
             refine (one_any s k _ hs (by omega)).mono ?_
             rintro e w1 ⟨rfl, rfl⟩
             have hklt := gOne_ok (t := bt s) (n := s.size) (i := k)
             by_cases hok : (gOne (bt s) s.size k).2.2 = true
             · --{D
               have hokl := hklt hok
               have hok1 : (gOne (bt s) s.size k).2.2 = true := hok
               generalize hk1 : (gOne (bt s) s.size k).2.1 = k1 at hokl ⊢
               generalize ha : (gOne (bt s) s.size k).1 = av at ⊢
               have hav : av < 256 := by rw [← ha]; exact gOne_lt (bt_lt s)
               have HK1 := hide hk1
               have HA := hide ha
               clear hk1 ha hklt hok
               obtain ⟨hkk, hkn⟩ := hokl
               by_cases hrg : k1 + 1 < s.size ∧ bt s k1 = 45 ∧ bt s (k1 + 1) ≠ 93
               · --{E
                 obtain ⟨g1, g2, g3⟩ := hrg
                 have HG := hide (show k1 + 1 < s.size ∧ bt s k1 = 45 ∧ bt s (k1 + 1) ≠ 93 from ⟨g1, g2, g3⟩)
                 have g4 : (((bt s k1 : Nat) : Int) == 45) = true := by simp only [beq_iff_eq]; omega
                 have g5 : (((bt s (k1 + 1) : Nat) : Int) != 93) = true := by simp only [bne_iff_ne]; omega
                 clear g2 g3
                 go_wp2_with fail
                 refine (one_any s (k1 + 1) _ hs (by omega)).mono ?_
                 rintro e w1 ⟨rfl, rfl⟩
                 have hklt := gOne_ok (t := bt s) (n := s.size) (i := k1 + 1)
                 have hav2 : (gOne (bt s) s.size (k1 + 1)).1 < 256 := gOne_lt (bt_lt s)
                 by_cases hok : (gOne (bt s) s.size (k1 + 1)).2.2 = true
                 · have hokl := hklt hok
                   have hok2 : (gOne (bt s) s.size (k1 + 1)).2.2 = true := hok
                   generalize hk2 : (gOne (bt s) s.size (k1 + 1)).2.1 = k2 at hokl ⊢
                   generalize hb2 : (gOne (bt s) s.size (k1 + 1)).1 = bv at hav2 ⊢
                   have HK2 := hide hk2
                   have HB2 := hide hb2
                   clear hk2 hb2 hklt hok
                   obtain ⟨hkk2, hkn2⟩ := hokl
                   go_wp2_with fail
                   refine (add_any (w.heap.size + 1) false S false 0 true av bv _ (by omega) (by omega) HR1.out).mono ?_
                   rintro e w1 ⟨rfl, hr1, hg⟩
                   have hr0 := HR0.out.of_block (hg.block w.heap.size HR0.out.lt (by simp))
                   have hb := HB.out.trans (below_of_gb hg (Nat.le_of_lt HR0.out.lt) (by omega))
                   have HR1 := hide hr1
                   have HR0 := hide hr0
                   have HB := hide hb
                   clear hr0 hr1 hg hb
                   go_wp2
                   go_roundw
                   case rel =>
                     refine ⟨k2, f, _, rfl, hkn2, by omega, ?_, HR0.out, HR1.out, HB.out⟩
                     rw [← HR.out, gBr, if_pos hlt, if_neg h93, if_pos hok1, HK1.out, HA.out, if_pos HG.out, if_pos hok2, HK2.out, HB2.out]
                   case measure => simp [intOf]; omega
                 · have hok' : (gOne (bt s) s.size (k1 + 1)).2.2 = false := by simpa using hok
                   have HRn := hide (show gBracket (bt s) s.size i = none by rw [← HR.out, gBr, if_pos hlt, if_neg h93, if_pos hok1, HK1.out, if_pos HG.out, if_neg hok])
                   clear HR h93 hok hklt
                   obtain ⟨c0, c1, c2, c3, c4, c5, c6, c7⟩ := gi_cells HR0.out
                   have hf0 := HR0.out.frozen
                   go_wp2
                   have hfin := gi8_row HR0.out false (fun _ => false) false 0 false
                   have hbel := gi8_below HB.out (Nat.le_refl _) false (fun _ => false) false 0 false
                   unfold gi8 at hfin hbel
                   simp only [wd_empty] at hfin hbel
                   exact bodyPost_ret (ret_bracket _ _ hfin rfl rfl rfl) rfl ⟨by rw [HRn.out]; rfl, hbel⟩
               · --{F
                 go_upto_region 19 with (fail)
                 go_cut [87] from 70 to 87 (fun s87 wx => s87 = .bool false ∧ wr = wx)
                 case first =>
                   by_cases g1 : k1 + 1 < s.size
                   · by_cases g2 : bt s k1 = 45
                     · have g3 : bt s (k1 + 1) = 93 := by
                         rcases Nat.decEq (bt s (k1 + 1)) 93 with e | e
                         · exact absurd ⟨g1, g2, e⟩ hrg
                         · exact e
                       have g4 : (((bt s k1 : Nat) : Int) == 45) = true := by simp only [beq_iff_eq]; omega
                       have g5 : (((bt s (k1 + 1) : Nat) : Int) != 93) = false := by simp only [bne_eq_false_iff_eq]; omega
                       clear hrg g2 g3
                       go_wp2
                       go_meet
                       exact ⟨rfl, rfl⟩
                     · have g4 : (((bt s k1 : Nat) : Int) == 45) = false := by simp only [beq_eq_false_iff_ne]; omega
                       clear hrg g2
                       go_wp2
                       go_meet
                       exact ⟨rfl, rfl⟩
                   · clear hrg
                     go_wp2
                     go_meet
                     exact ⟨rfl, rfl⟩
                 case rest =>
                   obtain ⟨rfl, hw⟩ := hcut
                   subst hw
                   have HG := hide hrg
                   clear hrg
                   go_wp2_with fail
                   refine (add_any (w.heap.size + 1) false S false 0 true av av _ (by omega) (by omega) HR1.out).mono ?_
                   rintro e w1 ⟨rfl, hr1, hg⟩
                   have hr0 := HR0.out.of_block (hg.block w.heap.size HR0.out.lt (by simp))
                   have hb := HB.out.trans (below_of_gb hg (Nat.le_of_lt HR0.out.lt) (by omega))
                   have HR1 := hide hr1
                   have HR0 := hide hr0
                   have HB := hide hb
                   clear hr0 hr1 hg hb
                   go_wp2
                   go_roundw
                   case rel =>
                     refine ⟨k1, f, _, rfl, hkn, by omega, ?_, HR0.out, HR1.out, HB.out⟩
                     rw [← HR.out, gBr, if_pos hlt, if_neg h93, if_pos hok1, HK1.out, HA.out, if_neg HG.out]
                   case measure => simp [intOf]; omega
             · --{G
               have hok' : (gOne (bt s) s.size k).2.2 = false := by simpa using hok
               have HRn := hide (show gBracket (bt s) s.size i = none by rw [← HR.out, gBr, if_pos hlt, if_neg h93, if_neg hok])
               clear HR h93 hok hklt
               obtain ⟨c0, c1, c2, c3, c4, c5, c6, c7⟩ := gi_cells HR0.out
               have hf0 := HR0.out.frozen
               go_wp2
               have hfin := gi8_row HR0.out false (fun _ => false) false 0 false
               have hbel := gi8_below HB.out (Nat.le_refl _) false (fun _ => false) false 0 false
               unfold gi8 at hfin hbel
               simp only [wd_empty] at hfin hbel
               exact bodyPost_ret (ret_bracket _ _ hfin rfl rfl rfl) rfl ⟨by rw [HRn.out]; rfl, hbel⟩
       · obtain ⟨c0, c1, c2, c3, c4, c5, c6, c7⟩ := gi_cells HR0.out
         have hf0 := HR0.out.frozen
         have HRn := hide (show gBracket (bt s) s.size i = none by rw [← HR.out]; cases f <;> simp [gBr, hlt])
         clear HR HR1
         go_wp2
         have hfin := gi8_row HR0.out false (fun _ => false) false 0 false
         have hbel := gi8_below HB.out (Nat.le_refl _) false (fun _ => false) false 0 false
         unfold gi8 at hfin hbel
         simp only [wd_empty] at hfin hbel
         exact bodyPost_ret (ret_bracket _ _ hfin rfl rfl rfl) rfl ⟨by rw [HRn.out]; rfl, hbel⟩
end
section
open Go.RowKit Go.Deep Qm.Glob
attribute [local go_sem] bt_eq
theorem Tryz.info49 : (Tryz.prog.info? 162).map (fun i => (i.zero, i.size, i.bytes)) = some (some (.agg (giAgg false (fun _ => false) false 0 false)), 8, 48) := by
 unfold giAgg; simp only [wd_empty]; kernel_rfl
theorem wpList_appI {ops : Array Oper} {rest : List Oper} {o : Oper} {a : Act} {Q : Exit → Act → World → Prop} (wr w0 : World) (hgd : o.guard = none) (s x : Operand)
   (ho : o.op = .call { callee := .builtin .append, args := #[s, x], argTypes := #[156, 156] }) (v : Value) (acc : List GI) (hs : a.eval s = v)
   (hown : Hid (wr.ownsRow w0.heap.size 162 8 v acc.length (giCells acc))) (hB : Hid (Below w0.heap.size w0 wr)) (news : Array Value) (it : GI) (hn : news.toList = it.cells)
   (hx : a.eval x = .slice (some ⟨wr.heap.size, 0, none⟩) 1 1) (hl : acc.length ≤ 1000)
   (h : ∀ v' w', Hid (w'.ownsRow w0.heap.size 162 8 v' (acc ++ [it]).length (giCells (acc ++ [it]))) → Hid (Below w0.heap.size w0 w') → wpList Tryz.prog ops Q rest (a.put o.dst v') w') :
   wpList Tryz.prog ops Q (o :: rest) a (wr.alloc (.cells news 162)) := by
 obtain ⟨i0, hi, hz0, hz1, hz2⟩ := info_parts Tryz.info49
 refine wpList_app1 wr hgd s x 156 ho w0.heap.size 162 i0 _ 8 48 Tryz.underlying156 hi hz0 hz1 hz2 rfl (by omega) v acc.length (giCells acc) hs hown.out news 1 hx ?_ ?_
   (by simp only [maxLen]; omega) (by omega) hB.out.size w0.heap.size w0 hB.out (Nat.le_refl _) ?_
 · have := congrArg List.length hn
   simpa [GI.cells, giAgg] using this
 · rw [hn]; exact gi_one' it
 · intro v' w' ho' hb'
   refine h v' w' ?_ hb'
   rw [hn, ← giCells_snoc] at ho'
   rw [List.length_append]
   exact ho'
theorem giStar_cells : (#[.bool true, .int .u64 0, .int .u64 0, .int .u64 0, .int .u64 0, .bool false, .int .u8 0, .bool false] : Array Value).toList = giStar.cells := by
 simp only [GI.cells, giAgg, giStar, wd_empty]
 rfl
theorem gi_news (b0 : Bool) (S : Nat → Bool) (b1 : Bool) (c : Nat) (b2 : Bool) : (#[.bool b0, .int .u64 (wd S 0), .int .u64 (wd S 1), .int .u64 (wd S 2), .int .u64 (wd S 3), .bool b1, .int .u8 c, .bool b2] : Array Value).toList = (GI.mk b0 S b1 c b2).cells := rfl
theorem slice_new (w : World) (o : Obj) : Value.slice (some ⟨w.heap.size + 1, 0, none⟩) 1 1 = Value.slice (some ⟨(w.alloc o).heap.size, 0, none⟩) 1 1 := by simp
def ItRel (s : ByteArray) (w : World) (v3 v4 : Value) (wr : World) : Prop :=
 ∃ (k f : Nat) (acc : List GI), v4 = .int .i64 k ∧ k ≤ s.size ∧ s.size < f + k ∧ acc.length ≤ k ∧ acc ++ gIt (bt s) s.size f k = gItems (bt s) s.size ∧
   wr.ownsRow w.heap.size 162 8 v3 acc.length (giCells acc) ∧ Below w.heap.size w wr
theorem items_any (s : ByteArray) (w : World) (hs : s.size ≤ 1000) :
   Calls Tryz.prog 99 #[.string s] w fun e w' => ∃ v, e = .returned v ∧ w'.ownsRow w.heap.size 162 8 v (gItems (bt s) s.size).length (giCells (gItems (bt s) s.size)) ∧ Below w.heap.size w w' := by
 obtain ⟨i0, hi, hz0, hz1, hz2⟩ := info_parts Tryz.info49
 go_enter Tryz.func99, Tryz.ntmps99
 go_wp2
 go_loopw [3, 4] (fun v3 v4 wr => ItRel s w v3 v4 wr) (fun _ v4 _ => s.size - (intOf v4).toNat)
 case atStart => exact ⟨0, s.size + 1, [], rfl, by omega, by omega, by simp, rfl, World.ownsRow_nil _ _ _ _, Below.refl _ _⟩
 case round =>
   obtain ⟨k, f, acc, rfl, hk, hf, hal, hR, hown, hb⟩ := hrel
   have HR := hide hR
   have HO := hide hown
   have HB := hide hb
   clear hR hown hb
   by_cases hlt : k < s.size
   · obtain ⟨f, rfl⟩ : ∃ f', f = f' + 1 := ⟨f - 1, by omega⟩
     by_cases h42 : bt s k = 42
     · --{A
       have h1 : (((bt s k : Nat) : Int) == 42) = true := by simp only [beq_iff_eq]; omega
       have HH := hide h42
       clear h42
       go_wp2_with (at_builtin; go_must (refine wpList_appI wr w ?_ (.tmp 22) (.tmp 24) ?_ u3 acc ?_ HO HB ?_ giStar ?_ ?_ ?_ ?_); exact rfl; exact rfl; exact rfl; exact giStar_cells; exact rfl; omega; intro v1 w1 HO1 HB1)
       go_roundw
       case rel =>
         refine ⟨k + 1, f, acc ++ [giStar], by go_num, by omega, by omega, by simp; omega, ?_, HO1.out, HB1.out⟩
         rw [← HR.out, gIt, if_pos hlt, if_pos HH.out]
         simp
       case measure => simp [intOf]; omega
     · have g42 : (((bt s k : Nat) : Int) == 42) = false := by simp only [beq_eq_false_iff_ne]; omega
       by_cases h63 : bt s k = 63
       · --{B
         have h1 : (((bt s k : Nat) : Int) == 63) = true := by simp only [beq_iff_eq]; omega
         have HH := hide h63
         have HH2 := hide h42
         clear h63 h42
         have hn := gi_new wr false false false 0
         have ho1 := HO.out.alloc (.cells #[.bool false, .int .u64 0, .int .u64 0, .int .u64 0, .int .u64 0, .bool false, .int .u8 (0 : Nat), .bool false] 162)
         have hb1 := HB.out.alloc HB.out.size (.cells #[.bool false, .int .u64 0, .int .u64 0, .int .u64 0, .int .u64 0, .bool false, .int .u8 (0 : Nat), .bool false] 162)
         have hlt3 := HO.out.lt
         have HN := hide hn
         have HO1 := hide ho1
         have HB1 := hide hb1
         have HL := hide hlt3
         clear hn ho1 hb1 hlt3
         go_wp2_with fail
         refine (add_any wr.heap.size false (fun _ => false) false 0 false 0 255 _ (by omega) (by omega) HN.out).mono ?_
         rintro e w1 ⟨rfl, hr, hg⟩
         have HO2 := hide (own_gb HO1.out hg (fun k hk => by have := HL.out k hk; omega))
         have HB2 := hide (HB1.out.trans (below_of_gb hg (by have := HB.out.size; simp; omega) HB.out.size))
         obtain ⟨c0, c1, c2, c3, c4, c5, c6, c7⟩ := gi_cells hr
         clear hr hg HN HO1 HB1 HL
         go_wp2_with (at_builtin; go_must (refine wpList_appI w1 w ?_ (.tmp 31) (.tmp 33) ?_ u3 acc ?_ HO2 HB2 ?_ giAny ?_ ?_ ?_ ?_); exact rfl; exact rfl; exact rfl; exact gi_news _ _ _ _ _; exact rfl; omega; intro v1 w1 HO1 HB1)
         go_roundw
         case rel =>
           refine ⟨k + 1, f, acc ++ [giAny], by go_num, by omega, by omega, by simp; omega, ?_, HO1.out, HB1.out⟩
           rw [← HR.out, gIt, if_pos hlt, if_neg HH2.out, if_pos HH.out]
           simp
         case measure => simp [intOf]; omega
       · have g63 : (((bt s k : Nat) : Int) == 63) = false := by simp only [beq_eq_false_iff_ne]; omega
         by_cases h92 : bt s k = 92
         · --{C
           have h1 : (((bt s k : Nat) : Int) == 92) = true := by simp only [beq_iff_eq]; omega
           have HH := hide h92
           have HH2 := hide h42
           have HH3 := hide h63
           clear h92 h63 h42
           by_cases hl : k + 1 < s.size
           · have HL := hide hl
             go_wp2_with fail
             refine (single_any (bt s (k + 1)) _ (by exact bt_lt s _)).mono ?_
             rintro e w1 ⟨rfl, hb1⟩
             simp only [giAgg]
             have HO2 := hide (own_below HO.out hb1)
             have HB2 := hide (below_up HB.out hb1 HB.out.size)
             clear hb1
             go_wp2_with (at_builtin; go_must (refine wpList_appI w1 w ?_ (.tmp 61) (.tmp 64) ?_ u3 acc ?_ HO2 HB2 ?_ (giOne (bt s (k + 1))) ?_ ?_ ?_ ?_); exact rfl; exact rfl; exact rfl; exact gi_news _ _ _ _ _; exact rfl; omega; intro v1 w1 HO1 HB1)
             go_roundw
             case rel =>
               refine ⟨k + 2, f, acc ++ [giOne (bt s (k + 1))], by go_num, by omega, by omega, by simp; omega, ?_, HO1.out, HB1.out⟩
               rw [← HR.out, gIt, if_pos hlt, if_neg HH2.out, if_neg HH3.out, if_pos HH.out, if_pos HL.out]
               simp
             case measure => simp [intOf]; omega
           · have HL := hide hl
             go_wp2_with fail
             refine (single_any (bt s k) _ (by exact bt_lt s _)).mono ?_
             rintro e w1 ⟨rfl, hb1⟩
             simp only [giAgg]
             have HO2 := hide (own_below HO.out hb1)
             have HB2 := hide (below_up HB.out hb1 HB.out.size)
             clear hb1
             go_wp2_with (at_builtin; go_must (refine wpList_appI w1 w ?_ (.tmp 61) (.tmp 64) ?_ u3 acc ?_ HO2 HB2 ?_ (giOne (bt s k)) ?_ ?_ ?_ ?_); exact rfl; exact rfl; exact rfl; exact gi_news _ _ _ _ _; exact rfl; omega; intro v1 w1 HO1 HB1)
             go_roundw
             case rel =>
               refine ⟨k + 1, f, acc ++ [giOne (bt s k)], by go_num, by omega, by omega, by simp; omega, ?_, HO1.out, HB1.out⟩
               rw [← HR.out, gIt, if_pos hlt, if_neg HH2.out, if_neg HH3.out, if_pos HH.out, if_neg HL.out, HH.out]
               simp
             case measure => simp [intOf]; omega
         · have g92 : (((bt s k : Nat) : Int) == 92) = false := by simp only [beq_eq_false_iff_ne]; omega
           by_cases h91 : bt s k = 91
           · --{D
             have h1 : (((bt s k : Nat) : Int) == 91) = true := by simp only [beq_iff_eq]; omega
             have HH := hide h91
             have HH2 := hide h42
             have HH3 := hide h63
             have HH4 := hide h92
             clear h91 h92 h63 h42
             go_wp2_with fail
             refine (bracket_any s (k + 1) _ hs (by omega)).mono ?_
             rintro e w1 ⟨rfl, hb1⟩
             have HO2 := hide (own_below HO.out hb1)
             have HB2 := hide (below_up HB.out hb1 HB.out.size)
             clear hb1
             rcases hx : gBracket (bt s) s.size (k + 1) with _ | x
             · simp only [brVal, giAgg]
               have HX := hide hx
               clear hx
               have HL := HX
               go_wp2_with fail
               refine (single_any (bt s k) _ (by exact bt_lt s _)).mono ?_
               rintro e w2 ⟨rfl, hb1⟩
               simp only [giAgg]
               have HO3 := hide (own_below (HO2.out.alloc _) hb1)
               have HB3 := hide (below_up (HB2.out.alloc HB2.out.size _) hb1 (by have := HB2.out.size; simp; omega))
               clear hb1
               go_wp2_with (at_builtin; go_must (refine wpList_appI w2 w ?_ (.tmp 61) (.tmp 64) ?_ u3 acc ?_ HO3 HB3 ?_ (giOne (bt s k)) ?_ ?_ ?_ ?_); exact rfl; exact rfl; exact rfl; exact gi_news _ _ _ _ _; exact rfl; omega; intro v1 w1 HO1 HB1)
               go_roundw
               case rel =>
                 refine ⟨k + 1, f, acc ++ [giOne (bt s k)], by go_num, by omega, by omega, by simp; omega, ?_, HO1.out, HB1.out⟩
                 rw [← HR.out, gIt, if_pos hlt, if_neg HH2.out, if_neg HH3.out, if_neg HH4.out, if_pos HH.out, HX.out, HH.out]
                 simp
               case measure => simp [intOf]; omega
             · simp only [brVal, giAgg]
               have HX := hide hx
               have hxl := gBracket_le hx
               obtain ⟨hx1, hx2⟩ := hxl
               clear hx
               have HO3 := hide (HO2.out.alloc (.cells #[.bool false, .int .u64 (wd x.1 0), .int .u64 (wd x.1 1), .int .u64 (wd x.1 2), .int .u64 (wd x.1 3), .bool false, .int .u8 (0 : Nat), .bool true] 162))
               have HB3 := hide (HB2.out.alloc HB2.out.size (.cells #[.bool false, .int .u64 (wd x.1 0), .int .u64 (wd x.1 1), .int .u64 (wd x.1 2), .int .u64 (wd x.1 3), .bool false, .int .u8 (0 : Nat), .bool true] 162))
               clear HO2 HB2
               go_wp2_with (at_builtin; go_must (refine wpList_appI _ w ?_ (.tmp 56) (.tmp 58) ?_ u3 acc ?_ HO3 HB3 ?_ (giSet x.1) ?_ ?_ ?_ ?_); exact rfl; exact rfl; exact rfl; exact gi_news _ _ _ _ _; exact slice_new _ _; omega; intro v1 w1 HO1 HB1)
               go_roundw
               case rel =>
                 refine ⟨x.2, f, acc ++ [giSet x.1], rfl, by omega, by omega, by simp; omega, ?_, HO1.out, HB1.out⟩
                 rw [← HR.out, gIt, if_pos hlt, if_neg HH2.out, if_neg HH3.out, if_neg HH4.out, if_pos HH.out, HX.out]
                 simp
               case measure => simp [intOf]; omega
           · --{E
             have g91 : (((bt s k : Nat) : Int) == 91) = false := by simp only [beq_eq_false_iff_ne]; omega
             have HH2 := hide h42
             have HH3 := hide h63
             have HH4 := hide h92
             have HH := hide h91
             clear h91 h92 h63 h42
             go_wp2_with fail
             refine (single_any (bt s k) _ (by exact bt_lt s _)).mono ?_
             rintro e w1 ⟨rfl, hb1⟩
             simp only [giAgg]
             have HO2 := hide (own_below HO.out hb1)
             have HB2 := hide (below_up HB.out hb1 HB.out.size)
             clear hb1
             go_wp2_with (at_builtin; go_must (refine wpList_appI w1 w ?_ (.tmp 61) (.tmp 64) ?_ u3 acc ?_ HO2 HB2 ?_ (giOne (bt s k)) ?_ ?_ ?_ ?_); exact rfl; exact rfl; exact rfl; exact gi_news _ _ _ _ _; exact rfl; omega; intro v1 w1 HO1 HB1)
             go_roundw
             case rel =>
               refine ⟨k + 1, f, acc ++ [giOne (bt s k)], by go_num, by omega, by omega, by simp; omega, ?_, HO1.out, HB1.out⟩
               rw [← HR.out, gIt, if_pos hlt, if_neg HH2.out, if_neg HH3.out, if_neg HH4.out, if_neg HH.out]
               simp
             case measure => simp [intOf]; omega
   · go_wp2
     go_ret
     have hRn : acc = gItems (bt s) s.size := by rw [← HR.out]; cases f <;> simp [gIt, hlt]
     subst hRn
     exact ⟨_, rfl, HO.out, HB.out⟩
end
section
open Go.RowKit Go.Deep Qm.Glob
attribute [local go_sem] bt_eq
def ItemsAt (w : World) (A : Option Addr) (B : Nat) (l : List GI) : Prop :=
 ∀ k x, l[k]? = some x → ∃ g, A = some ⟨g, 0, none⟩ ∧ g < B ∧ ∀ j u, x.cells[j]? = some u → w.cell? ⟨g, k * 8 + j, none⟩ = some u
theorem items_cells {w wr : World} {A : Option Addr} {B : Nat} {l : List GI} (h : ItemsAt w A B l) (hb : Below B w wr) {j : Nat} {b0 : Bool} {S : Nat → Bool} {b1 : Bool} {c : Nat} {b2 : Bool} (hx : l[j]? = some ⟨b0, S, b1, c, b2⟩) :
   ∃ g, A = some ⟨g, 0, none⟩ ∧ g < B ∧ wr.cell? ⟨g, j * 8, none⟩ = some (.bool b0) ∧ wr.cell? ⟨g, j * 8 + 1, none⟩ = some (.int .u64 (wd S 0)) ∧ wr.cell? ⟨g, j * 8 + 2, none⟩ = some (.int .u64 (wd S 1)) ∧
     wr.cell? ⟨g, j * 8 + 3, none⟩ = some (.int .u64 (wd S 2)) ∧ wr.cell? ⟨g, j * 8 + 4, none⟩ = some (.int .u64 (wd S 3)) ∧ wr.cell? ⟨g, j * 8 + 5, none⟩ = some (.bool b1) ∧ wr.cell? ⟨g, j * 8 + 6, none⟩ = some (.int .u8 c) ∧ wr.cell? ⟨g, j * 8 + 7, none⟩ = some (.bool b2) := by
 obtain ⟨g, rfl, hg, hc⟩ := h j _ hx
 have e : ∀ q u, (GI.mk b0 S b1 c b2).cells[q]? = some u → wr.cell? ⟨g, j * 8 + q, none⟩ = some u := fun q u hq => (hb.cell (p := ⟨g, j * 8 + q, none⟩) hg).trans (hc q u hq)
 exact ⟨g, rfl, hg, e 0 _ rfl, e 1 _ rfl, e 2 _ rfl, e 3 _ rfl, e 4 _ rfl, e 5 _ rfl, e 6 _ rfl, e 7 _ rfl⟩
end
section
open Go.RowKit Go.Deep Qm.Glob
attribute [local go_sem] bt_eq
theorem items_of_own {w : World} {base : Nat} {v : Value} {l : List GI} (h : w.ownsRow base 162 8 v l.length (giCells l)) : ∃ A c, v = .slice A l.length c ∧ ItemsAt w A w.heap.size l := by
 rcases h.2 with ⟨rfl, hn⟩ | ⟨g, cap, cur, rfl, _, hh, _⟩
 · refine ⟨none, 0, by rw [hn], fun k x hx => ?_⟩
   have := (List.getElem?_eq_some_iff.1 hx).1
   omega
 · refine ⟨_, cap, rfl, fun k x hx => ⟨g, rfl, (h.lt g rfl).2, fun j u hu => ?_⟩⟩
   have hj := giCells_get l k x hx j u hu
   have hlt := (List.getElem?_eq_some_iff.1 hj).1
   rw [h.cellAt _ (by rw [← h.1]; exact hlt), hj]
end
section
open Go.RowKit Go.Deep Qm.Glob
attribute [local go_sem] bt_eq
theorem take_snoc' {α : Type} {l : List α} {k : Nat} {a : α} (h : l[k]? = some a) : l.take (k + 1) = l.take k ++ [a] := by
 rw [List.take_add_one, h]; rfl
end
section
open Go.RowKit Go.Deep Qm.Glob
attribute [local go_sem] bt_eq
def riCell (kind c : Nat) (nt : Bool) (vlo vhi : Value) (i : Nat) : Value :=
 if i = 0 then .int .i64 kind else if i = 1 then .int .u8 c else if i = 2 then .bool nt else if i = 3 then vlo else vhi
structure SetMem (w : World) (nt : Bool) (lo hi : List Nat) (vlo vhi : Value) (wr : World) : Prop where
 r0 : wr.rowIs w.heap.size 184 5 (riCell 0 0 false (.slice none 0 0) (.slice none 0 0))
 r1 : wr.rowIs (w.heap.size + 1) 184 5 (riCell 3 0 nt vlo vhi)
 olo : OwnB wr w.heap.size vlo lo
 ohi : OwnB wr w.heap.size vhi hi
 ne : ∀ k, vlo.ownBlock = some k → vhi.ownBlock = some k → False
 hb : Below w.heap.size w wr
theorem own_slice {w : World} {base : Nat} {v : Value} {l : List Nat} (h : OwnB w base v l) : ∃ A c, v = .slice A l.length c := by
 rcases h.2 with ⟨rfl, hn⟩ | ⟨g, cap, cur, rfl, _⟩
 · exact ⟨none, 0, by rw [hn]⟩
 · exact ⟨_, cap, rfl⟩
theorem own_sliceN {w : World} {base n : Nat} {v : Value} {l : List Nat} (h : OwnB w base v l) (hn : l.length = n) : ∃ A c, v = .slice A n c := by
 subst hn; exact own_slice h
structure SetRel (s : ByteArray) (i : Nat) (w : World) (k : Nat) (first : Bool) (f : Nat) (lo hi : List Nat) (vlo vhi : Value) (wr : World) : Prop where
 hk : k ≤ s.size
 hf : s.size < f + k
 hR : rSet (bt s) s.size f first k lo hi = rSetOf (bt s) s.size i
 hl : lo.length = hi.length
 hlk : lo.length ≤ k
 mem : SetMem w (brNt (bt s) s.size i) lo hi vlo vhi wr
end
section
open Go.RowKit Go.Deep Qm.Glob
attribute [local go_sem] bt_eq
def riVals (x : RI) (vlo vhi : Value) : List Value := [.int .i64 x.kind, .int .u8 x.c, .bool x.nt, vlo, vhi]
def RIs (w : World) (base : Nat) : List RI → List Value → Prop
 | [], xs => xs = []
 | x :: l, xs => ∃ vlo vhi rest, xs = riVals x vlo vhi ++ rest ∧ OwnB w base vlo x.lo ∧ OwnB w base vhi x.hi ∧ RIs w base l rest
theorem slice_new' (w : World) (o : Obj) : Value.slice (some ⟨w.heap.size + 1, 0, none⟩) 1 1 = Value.slice (some ⟨(w.alloc o).heap.size, 0, none⟩) 1 1 := by simp
structure RItRel (s : ByteArray) (w : World) (k f : Nat) (acc : List RI) (xs : List Value) (v3 : Value) (wr : World) : Prop where
 hk : k ≤ s.size
 hf : s.size < f + k
 hal : acc.length ≤ k
 hR : acc ++ rIt (bt s) s.size f k = rItems (bt s) s.size
 own : wr.ownsRow w.heap.size 184 5 v3 acc.length xs
 ris : RIs wr w.heap.size acc xs
 hb : Below w.heap.size w wr
end
section
open Go.RowKit Go.Deep Qm.Glob
end
section
open Go.RowKit Go.Deep Qm.Glob
attribute [local go_sem] bt_eq
end
end Go.Proofs.YtpheeheikigenaaGreatDoor
namespace Qm.Glob
def Same (x : GI) (y : RI) : Prop := x.star = (y.kind == 1) ∧ ∀ c, c < 256 → x.S c = y.is c
theorem same_any : Same giAny rAny := by
 refine ⟨rfl, fun d hd => ?_⟩
 simp [giAny, rAny, RI.is, addS, hd]
end Qm.Glob
namespace Go.Proofs.YtpheeheikigenaaGreatDoor
section
open Go.RowKit Go.Deep Qm.Glob
attribute [local go_sem] bt_eq
end
section
open Go.RowKit Go.Deep Qm.Glob
attribute [local go_sem] bt_eq
end
end Go.Proofs.YtpheeheikigenaaGreatDoor
namespace Qm.Glob
end Qm.Glob
namespace Go.Proofs.YtpheeheikigenaaGreatDoor
section
open Go.RowKit Go.Deep Qm.Glob
attribute [local go_sem] bt_eq
theorem bt_nums (xs : List Int) (i : Nat) : bt (strOfNums xs) i = (xs.getD i 0).toNat % 256 := by
 simp only [bt, strOfNums, Array.getD_eq_getD_getElem?, List.getElem?_toArray, List.getElem?_map, List.getD_eq_getElem?_getD]
 cases h : xs[i]? with
 | none => rfl
 | some x => simp
theorem conv3 (W : World) (x y z : Int) (n : Nat) (h : n = W.heap.size) : (convert 55 9 (.slice (some ⟨n, 0, none⟩) 3 3)).run Tryz.prog (W.alloc (.cells #[.int .u8 x, .int .u8 y, .int .u8 z] 5)) = .ok (.string (strOfNums [x, y, z])) (W.alloc (.cells #[.int .u8 x, .int .u8 y, .int .u8 z] 5)) := by
 subst h
 exact run_convert_bytes_arg _ 55 5 Tryz.underlying55 Tryz.underlying5 W.heap.size 0 3 3 [x, y, z] rfl (fun i hi => by
   rw [World.cell?_alloc_at _ _ _ _ rfl]
   have h : i = 0 ∨ i = 1 ∨ i = 2 := by omega
   rcases h with rfl | rfl | rfl <;> rfl) _ Tryz.underlying9
theorem conv2 (W : World) (x y : Int) (n : Nat) (h : n = W.heap.size) : (convert 55 9 (.slice (some ⟨n, 0, none⟩) 2 2)).run Tryz.prog (W.alloc (.cells #[.int .u8 x, .int .u8 y] 5)) = .ok (.string (strOfNums [x, y])) (W.alloc (.cells #[.int .u8 x, .int .u8 y] 5)) := by
 subst h
 exact run_convert_bytes_arg _ 55 5 Tryz.underlying55 Tryz.underlying5 W.heap.size 0 2 2 [x, y] rfl (fun i hi => by
   rw [World.cell?_alloc_at _ _ _ _ rfl]
   have h : i = 0 ∨ i = 1 := by omega
   rcases h with rfl | rfl <;> rfl) _ Tryz.underlying9
theorem conv1 (W : World) (x : Int) (n : Nat) (h : n = W.heap.size) : (convert 55 9 (.slice (some ⟨n, 0, none⟩) 1 1)).run Tryz.prog (W.alloc (.cells #[.int .u8 x] 5)) = .ok (.string (strOfNums [x])) (W.alloc (.cells #[.int .u8 x] 5)) := by
 subst h
 exact run_convert_bytes_arg _ 55 5 Tryz.underlying55 Tryz.underlying5 W.heap.size 0 1 1 [x] rfl (fun i hi => by
   rw [World.cell?_alloc_at _ _ _ _ rfl]
   obtain rfl : i = 0 := by omega
   rfl) _ Tryz.underlying9
attribute [local go_sem] conv1 conv2 conv3 strOfNums_size
end
end Go.Proofs.YtpheeheikigenaaGreatDoor
namespace Qm.Glob
def sh (t : Nat → Nat) (d : Nat) : Nat → Nat := fun j => t (j + d)
theorem gOne_sh (t : Nat → Nat) (n d i : Nat) (h : d ≤ n) : gOne t n (i + d) = ((gOne (sh t d) (n - d) i).1, (gOne (sh t d) (n - d) i).2.1 + d, (gOne (sh t d) (n - d) i).2.2) := by
 have e1 : (i + d < n) = (i < n - d) := by apply propext; omega
 have e2 : (i + d + 1 < n) = (i + 1 < n - d) := by apply propext; omega
 simp only [gOne, sh, e1, e2, show i + 1 + d = i + d + 1 from by omega]
 (repeat' split) <;> simp <;> omega
theorem gBr_sh (t : Nat → Nat) (n d first : Nat) (nt : Bool) (h : d ≤ n) : ∀ (f i : Nat) (S : Nat → Bool), gBr t n (first + d) nt f (i + d) S = (gBr (sh t d) (n - d) first nt f i S).map fun x => (x.1, x.2 + d)
 | 0, _, _ => rfl
 | f + 1, i, S => by
   rw [gBr, gBr, gOne_sh t n d i h]
   by_cases h1 : i < n - d
   · rw [if_pos h1, if_pos (by omega)]
     have e : (t (i + d) = 93 ∧ first + d < i + d) = (sh t d i = 93 ∧ first < i) := by
       apply propext; simp only [sh]; omega
     simp only [e]
     by_cases h2 : sh t d i = 93 ∧ first < i
     · rw [if_pos h2, if_pos h2]
       simp [Nat.add_right_comm]
     · rw [if_neg h2, if_neg h2]
       generalize hk : (gOne (sh t d) (n - d) i).2.1 = k
       by_cases h3 : (gOne (sh t d) (n - d) i).2.2 = true
       · rw [if_pos h3, if_pos h3]
         have e3 : (k + d + 1 < n ∧ t (k + d) = 45 ∧ t (k + d + 1) ≠ 93) = (k + 1 < n - d ∧ sh t d k = 45 ∧ sh t d (k + 1) ≠ 93) := by
           apply propext; simp only [sh, show k + 1 + d = k + d + 1 from by omega]; omega
         simp only [e3]
         by_cases h4 : k + 1 < n - d ∧ sh t d k = 45 ∧ sh t d (k + 1) ≠ 93
         · rw [if_pos h4, if_pos h4, show k + d + 1 = (k + 1) + d from by omega, gOne_sh t n d (k + 1) h]
           simp only
           split
           · exact gBr_sh t n d first nt h f _ _
           · rfl
         · rw [if_neg h4, if_neg h4]
           exact gBr_sh t n d first nt h f _ _
       · rw [if_neg h3, if_neg h3]; rfl
   · rw [if_neg h1, if_neg (by omega)]; rfl
theorem brNt_sh (t : Nat → Nat) (n d i : Nat) : brNt t n (i + d) = brNt (sh t d) (n - d) i := by
 have e1 : decide (i + d < n) = decide (i < n - d) := by apply decide_eq_decide.2; omega
 simp [brNt, sh, e1]
theorem brAt_sh (t : Nat → Nat) (n d i : Nat) : brAt t n (i + d) = brAt (sh t d) (n - d) i + d := by
 simp only [brAt, brNt_sh]
 split <;> omega
theorem gBracket_sh (t : Nat → Nat) (n d i : Nat) (h : d ≤ n) : gBracket t n (i + d) = (gBracket (sh t d) (n - d) i).map fun x => (x.1, x.2 + d) := by
 rw [gBracket, gBracket, brAt_sh, brNt_sh, show n + 1 - (brAt (sh t d) (n - d) i + d) = n - d + 1 - brAt (sh t d) (n - d) i from by omega]
 exact gBr_sh t n d _ _ h _ _ _
theorem gIt_sh (t : Nat → Nat) (n d : Nat) (h : d ≤ n) : ∀ f i, gIt t n f (i + d) = gIt (sh t d) (n - d) f i
 | 0, _ => rfl
 | f + 1, i => by
   rw [gIt, gIt]
   have e1 : sh t d i = t (i + d) := rfl
   have e2 : sh t d (i + 1) = t (i + d + 1) := by simp only [sh]; congr 1; omega
   rw [e1, e2]
   by_cases h1 : i < n - d
   · rw [if_pos h1, if_pos (by omega)]
     have r1 := gIt_sh t n d h f (i + 1)
     have r2 := gIt_sh t n d h f (i + 2)
     rw [show i + 1 + d = i + d + 1 from by omega] at r1
     rw [show i + 2 + d = i + d + 2 from by omega] at r2
     have e3 : (i + d + 1 < n) = (i + 1 < n - d) := by apply propext; omega
     rw [r1, r2, show i + d + 1 = (i + 1) + d from by omega, gBracket_sh t n d (i + 1) h]
     simp only [show (i + 1 + d < n) = (i + 1 < n - d) from by apply propext; omega]
     cases hg : gBracket (sh t d) (n - d) (i + 1) with
     | none => rfl
     | some x =>
       have r3 := gIt_sh t n d h f x.2
       simp only [Option.map_some, r3]
   · rw [if_neg h1, if_neg (by omega)]
theorem gIt_fuel (t : Nat → Nat) (n : Nat) : ∀ f g i, n < f + i → n < g + i → gIt t n f i = gIt t n g i
 | 0, 0, _, _, _ => rfl
 | 0, g + 1, i, h, _ => by rw [gIt, gIt, if_neg (by omega)]
 | f + 1, 0, i, _, h => by rw [gIt, gIt, if_neg (by omega)]
 | f + 1, g + 1, i, hf, hg => by
   rw [gIt, gIt]
   by_cases h1 : i < n
   · rw [if_pos h1, if_pos h1, gIt_fuel t n f g (i + 1) (by omega) (by omega), gIt_fuel t n f g (i + 2) (by omega) (by omega)]
     cases hx : gBracket t n (i + 1) with
     | none => rfl
     | some x =>
       have := gBracket_le hx
       simp only [gIt_fuel t n f g x.2 (by omega) (by omega)]
   · rw [if_neg h1, if_neg h1]
def simp1 (c : Nat) : GI := if c = 42 then giStar else if c = 63 then giAny else giOne c
theorem gItems_parts (t : Nat → Nat) (n : Nat) : ∀ k, k ≤ n → (∀ j, j < k → t j ≠ 91 ∧ t j ≠ 92) → gItems t n = (List.range k).map (fun j => simp1 (t j)) ++ gItems (sh t k) (n - k)
 | 0, _, _ => by simp [gItems]; rfl
 | k + 1, h, hp => by
   rw [gItems_parts t n k (by omega) (fun j hj => hp j (by omega)), List.range_succ, List.map_append, List.append_assoc]
   congr 1
   have hk := hp k (by omega)
   have e0 : sh t k 0 = t k := by simp [sh]
   rw [gItems, gIt, if_pos (by omega), e0]
   have e1 : gIt (sh t k) (n - k) (n - k) (0 + 1) = gItems (sh t (k + 1)) (n - (k + 1)) := by
     rw [gIt_sh (sh t k) (n - k) 1 (by omega), gItems, show n - k - 1 = n - (k + 1) from by omega, show sh (sh t k) 1 = sh t (k + 1) from by funext j; simp only [sh]; congr 1; omega]
     exact gIt_fuel _ _ _ _ _ (by omega) (by omega)
   rw [e1]
   simp only [List.map_cons, List.map_nil, simp1]
   by_cases h1 : t k = 42
   · rw [if_pos h1, if_pos h1]; rfl
   · rw [if_neg h1, if_neg h1]
     by_cases h2 : t k = 63
     · rw [if_pos h2, if_pos h2]; rfl
     · rw [if_neg h2, if_neg h2, if_neg hk.2, if_neg hk.1]; rfl
end Qm.Glob
namespace Go.Proofs.YtpheeheikigenaaGreatDoor
section
open Go.RowKit Go.Deep Qm.Glob
attribute [local go_sem] bt_eq strOfNums_size
end
section
open Go.RowKit Go.Deep Qm.Glob
attribute [local go_sem] bt_eq strOfNums_size
end
section
open Go.RowKit Go.Deep Qm.Glob
attribute [local go_sem] bt_eq
def sb (l : List Nat) : ByteArray := strOfNums (l.map fun n : Nat => (n : Int))
theorem sb_size (l : List Nat) : (sb l).size = l.length := by simp [sb, strOfNums_size]
theorem conv_own {W : World} {base : Nat} {v : Value} {l : List Nat} (h : OwnB W base v l) : (convert 55 9 v).run Tryz.prog W = .ok (.string (sb l)) W := by
 rcases h.2 with ⟨rfl, hn⟩ | ⟨g, cap, cur, rfl, _, hh, _⟩
 · have hl : l = [] := List.eq_nil_of_length_eq_zero hn
   subst hl
   exact run_convert_bytes_nil W 55 5 Tryz.underlying55 Tryz.underlying5 0 0 _ Tryz.underlying9
 · refine run_convert_bytes_arg W 55 5 Tryz.underlying55 Tryz.underlying5 g 0 l.length cap (l.map fun n : Nat => (n : Int)) (by simp) (fun i hi => ?_) _ Tryz.underlying9
   rw [Nat.zero_add, World.ownsRow.cellAt h i (by omega)]
   simp [nbytes, List.getD_eq_getElem?_getD, hi]
theorem below_gb {B : Nat} {wr w' : World} {o : Obj} {r : Option Nat} (hg : (wr.alloc o).grownBy w' r) (hr : ∀ k, r = some k → B ≤ k) (hB : B ≤ wr.heap.size) : Below B wr w' :=
 ((Below.refl B wr).alloc hB o).grown hg (by simp; omega) hr
def plAll (l : List GI) : Bool := l.all GI.plain
def plBytes (l : List GI) : List Nat := l.map GI.c
def plVal (ok : Bool) (l : List Nat) : Value := if ok then .tuple #[.string (sb l), .bool true] else .tuple #[.string ⟨#[]⟩, .bool false]
theorem plAll_no {l : List GI} {j : Nat} {x : GI} (hx : l[j]? = some x) (h : x.plain = false) : plAll l = false := by
 simp only [plAll, List.all_eq_false]
 exact ⟨x, List.mem_of_getElem? hx, by simp [h]⟩
theorem gplain_any (p : ByteArray) (w : World) (hp : p.size ≤ 1000) :
   Calls Tryz.prog 47 #[.string p] w fun e w' => e = .returned (plVal (plAll (gItems (bt p) p.size)) (plBytes (gItems (bt p) p.size))) ∧ Below w.heap.size w w' := by
 go_enter Tryz.func47, Tryz.ntmps47
 go_wp2_with fail
 refine (items_any p w hp).mono ?_
 rintro e w1 ⟨v, rfl, hown, hb⟩
 have hlen : (gItems (bt p) p.size).length ≤ 1000 := Nat.le_trans (gItems_len _ _) hp
 generalize hl : gItems (bt p) p.size = l at hown hlen
 have HL := hide hl
 clear hl
 obtain ⟨A, c, rfl, hat⟩ := items_of_own hown
 have HAT := hide hat
 have HB := hide hb
 clear hat hb hown
 go_wp2_with fail
 go_loopw [4, 10] (fun v4 v10 wr => ∃ j : Nat, v10 = .int .i64 j ∧ j ≤ l.length ∧ OwnB wr w1.heap.size v4 ((plBytes l).take j) ∧ Hid (∀ k x, k < j → l[k]? = some x → x.plain = true) ∧ Below w1.heap.size w1 wr) (fun _ v10 _ => l.length - (intOf v10).toNat)
 case atStart => exact ⟨0, rfl, by omega, World.ownsRow_nil _ _ _ _, fun k x hk => by omega, Below.refl _ _⟩
 case round =>
   obtain ⟨j, rfl, hj, ho, HP, hb⟩ := hrel
   obtain ⟨Ao, co, rfl⟩ := own_sliceN (n := j) ho (by simp [plBytes]; omega)
   have HO := hide ho
   have HW := hide hb
   clear ho hb
   by_cases hlt : j < l.length
   · obtain ⟨x, hx⟩ : ∃ x, l[j]? = some x := ⟨l[j], List.getElem?_eq_getElem hlt⟩
     obtain ⟨b0, S, b1, cc, b2⟩ := x
     obtain ⟨g, rfl, hg, c0, c1, c2, c3, c4, c5, c6, c7⟩ := items_cells HAT.out HW.out hx
     have HX := hide hx
     clear hx
     cases b1 with
     | false =>
       go_wp2
       go_ret2
       refine ⟨?_, below_up HB.out (HW.out.alloc HW.out.size _) HB.out.size⟩
       rw [HL.out, plAll_no HX.out rfl]
       rfl
     | true =>
       have HO1 := hide (World.ownsRow.alloc HO.out (.cells #[.bool b0, .int .u64 (wd S 0), .int .u64 (wd S 1), .int .u64 (wd S 2), .int .u64 (wd S 3), .bool true, .int .u8 cc, .bool b2] 162))
       have HW1 := hide (HW.out.alloc HW.out.size (.cells #[.bool b0, .int .u64 (wd S 0), .int .u64 (wd S 1), .int .u64 (wd S 2), .int .u64 (wd S 3), .bool true, .int .u8 cc, .bool b2] 162))
       have hlj : ((plBytes l).take j).length ≤ 1000 := by simp [plBytes]; omega
       go_wp2_with (at_builtin; refine wpList_appB _ ?_ (.tmp 17) (.tmp 20) ?_ w1.heap.size (.slice Ao j co) ((plBytes l).take j) ?_ HO1.out cc ?_ ?_ ?_ ?_; exact rfl; exact rfl; exact rfl; exact slice_new' _ _; omega; exact HW1.out.size; intro v1 w2 ho1 hg1 hb1; have HB2 := hide (HW1.out.trans (below_gb hg1 (fun k hk => (HO1.out.lt k hk).1) HW1.out.size)); have HO2 := hide ho1; clear ho1 hg1 hb1)
       go_roundw
       case rel =>
         have hx := HX.out
         refine ⟨j + 1, by go_num, by omega, ?_, fun k x hk hx2 => ?_, HB2.out⟩
         · rw [take_snoc' (a := cc) (by simp [plBytes, hx])]; exact HO2.out
         · rcases Nat.lt_or_ge k j with h | h
           · exact HP.out k x h hx2
           · obtain rfl : k = j := by omega
             rw [hx] at hx2; injection hx2 with hx2; subst hx2; rfl
       case measure => simp [intOf]; omega
   · obtain rfl : j = l.length := by omega
     have hcv := conv_own HO.out
     rw [show (plBytes l).take l.length = plBytes l from by rw [List.take_of_length_le]; simp [plBytes]] at hcv
     go_wp2
     go_ret2
     refine ⟨?_, below_up HB.out HW.out HB.out.size⟩
     have hall : plAll l = true := by
       simp only [plAll, List.all_eq_true]
       intro x hx
       obtain ⟨k, hk⟩ := List.mem_iff_getElem?.1 hx
       exact HP.out k x (List.getElem?_eq_some_iff.1 hk).1 hk
     rw [HL.out, hall]
     rfl
end
end Go.Proofs.YtpheeheikigenaaGreatDoor
namespace Qm.Glob
end Qm.Glob
namespace Go.Proofs.YtpheeheikigenaaGreatDoor
section
open Go.RowKit Go.Deep Qm.Glob
attribute [local go_sem] bt_eq strOfNums_size
theorem bt_sb (l : List Nat) (j : Nat) : bt (sb l) j = l.getD j 0 % 256 := by
 rw [sb, bt_nums]
 simp only [List.getD_eq_getElem?_getD, List.getElem?_map]
 cases l[j]? <;> rfl
end
section
open Go.RowKit Go.Deep Qm.Glob
attribute [local go_sem] bt_eq
def isSp (c : Nat) : Bool := c == 42 || c == 63 || c == 91 || c == 92
def q1 (c : Nat) : List Nat := if isSp c then [92, c] else [c]
def qb (t : Nat → Nat) (k : Nat) : List Nat := (List.range k).flatMap fun j => q1 (t j)
theorem qb_succ (t : Nat → Nat) (k : Nat) : qb t (k + 1) = qb t k ++ q1 (t k) := by simp [qb, List.range_succ, List.flatMap_append]
theorem qb_len (t : Nat → Nat) (k : Nat) : (qb t k).length ≤ 2 * k := by
 induction k with
 | zero => simp [qb]
 | succ k ih =>
   rw [qb_succ, List.length_append]
   have : (q1 (t k)).length ≤ 2 := by unfold q1; split <;> simp
   omega
theorem quote_any (s : ByteArray) (w : World) (hs : s.size ≤ 1000) :
   Calls Tryz.prog 98 #[.string s] w fun e w' => e = .returned (.string (sb (qb (bt s) s.size))) ∧ Below w.heap.size w w' := by
 have hsb := run_bytes_of_string (P := Tryz.prog) w 9 55 5 s Tryz.underlying9 Tryz.underlying55 Tryz.underlying5
 generalize hC : grownCap w s.size 0 5 = C at hsb
 have hcl : ∀ j, j < s.size → ((w.alloc (.cells (bytesRow s C) 5 ((bytesRow s C).size, (bytesRow s C).size + 1))).drew).cell? ⟨w.heap.size, j, none⟩ = some (.int .u8 (bt s j)) := fun j hj => by
   show (w.alloc (.cells (bytesRow s C) 5 ((bytesRow s C).size, (bytesRow s C).size + 1))).cell? ⟨w.heap.size, j, none⟩ = _
   rw [World.cell?_alloc_mark, bytesRow_at s C j hj, ← bt_eq s j hj]
   rfl
 have HC0 := hide hcl
 have HC1 := hide hC
 clear hcl hC
 go_enter Tryz.func98, Tryz.ntmps98
 go_wp2_with fail
 clear hsb
 have hsz0 : w.heap.size < ((w.alloc (.cells (bytesRow s C) 5 ((bytesRow s C).size, (bytesRow s C).size + 1))).drew).heap.size := by simp
 have hb0 : Below w.heap.size w ((w.alloc (.cells (bytesRow s C) 5 ((bytesRow s C).size, (bytesRow s C).size + 1))).drew) := ((Below.refl _ _).alloc (Nat.le_refl _) _).drew
 generalize (w.alloc (.cells (bytesRow s C) 5 ((bytesRow s C).size, (bytesRow s C).size + 1))).drew = w1 at HC0 hsz0 hb0 ⊢
 have HC := HC0
 have hsz := hsz0
 have HB0 := hide hb0
 clear HC0 hsz0 hb0 HC1
 go_loopw [3, 9] (fun v3 v9 wr => ∃ k : Nat, v9 = .int .i64 k ∧ k ≤ s.size ∧ OwnB wr w1.heap.size v3 (qb (bt s) k) ∧ Below w1.heap.size w1 wr) (fun _ v9 _ => s.size - (intOf v9).toNat)
 case atStart => exact ⟨0, rfl, by omega, World.ownsRow_nil _ _ _ _, Below.refl _ _⟩
 case round =>
   obtain ⟨k, rfl, hk, ho, hb⟩ := hrel
   obtain ⟨Ao, co, rfl⟩ := own_slice ho
   have hql := qb_len (bt s) k
   have HO := hide ho
   have HW := hide hb
   have hql2 : (qb (bt s) k).length ≤ 2000 := by omega
   clear ho hb hql
   by_cases hlt : k < s.size
   · have hor : isSp (bt s k) = (bt s k == 42 || bt s k == 63 || bt s k == 91 || bt s k == 92) := rfl
     have HOR := hide hor
     clear hor
     have hcell := (HW.out.cell (p := ⟨w.heap.size, k, none⟩) hsz).trans (HC.out k hlt)
     go_upto_region 5 with (fail)
     go_cut [26] from 13 to 26 (fun sc wx => sc = .bool (isSp (bt s k)) ∧ wr = wx)
     case first =>
       by_cases e0 : bt s k = 42
       · have q0 : (((bt s k : Nat) : Int) == 42) = true := by simp only [beq_iff_eq]; omega
         have E0 := hide (show (bt s k == 42) = true by simp [e0])
         clear e0
         go_wp2
         go_meet
         refine ⟨?_, rfl⟩
         rw [HOR.out]
         simp [E0.out]
       have q0 : (((bt s k : Nat) : Int) == 42) = false := by simp only [beq_eq_false_iff_ne]; omega
       have E0 := hide (show (bt s k == 42) = false by simp [e0])
       by_cases e1 : bt s k = 63
       · have q1 : (((bt s k : Nat) : Int) == 63) = true := by simp only [beq_iff_eq]; omega
         have E1 := hide (show (bt s k == 63) = true by simp [e1])
         clear e0 e1
         go_wp2
         go_meet
         refine ⟨?_, rfl⟩
         rw [HOR.out]
         simp [E1.out]
       have q1 : (((bt s k : Nat) : Int) == 63) = false := by simp only [beq_eq_false_iff_ne]; omega
       have E1 := hide (show (bt s k == 63) = false by simp [e1])
       by_cases e2 : bt s k = 91
       · have q2 : (((bt s k : Nat) : Int) == 91) = true := by simp only [beq_iff_eq]; omega
         have E2 := hide (show (bt s k == 91) = true by simp [e2])
         clear e0 e1 e2
         go_wp2
         go_meet
         refine ⟨?_, rfl⟩
         rw [HOR.out]
         simp [E2.out]
       have q2 : (((bt s k : Nat) : Int) == 91) = false := by simp only [beq_eq_false_iff_ne]; omega
       have E2 := hide (show (bt s k == 91) = false by simp [e2])
       by_cases e3 : bt s k = 92
       · have q3 : (((bt s k : Nat) : Int) == 92) = true := by simp only [beq_iff_eq]; omega
         have E3 := hide (show (bt s k == 92) = true by simp [e3])
         clear e0 e1 e2 e3
         go_wp2
         go_meet
         refine ⟨?_, rfl⟩
         rw [HOR.out]
         simp [E3.out]
       have q3 : (((bt s k : Nat) : Int) == 92) = false := by simp only [beq_eq_false_iff_ne]; omega
       have E3 := hide (show (bt s k == 92) = false by simp [e3])
       clear e0 e1 e2 e3
       go_wp2
       go_meet
       refine ⟨?_, rfl⟩
       rw [HOR.out]
       simp [E0.out, E1.out, E2.out, E3.out]
     case rest =>
       obtain ⟨rfl, hw⟩ := hcut
       subst hw
       cases hsp : isSp (bt s k) with
       | true =>
         have HQ := hide (show qb (bt s) (k + 1) = (qb (bt s) k ++ [92]) ++ [bt s k] by rw [qb_succ, q1, if_pos hsp]; simp)
         clear hsp
         go_wp2_with (first | (at_builtin; refine wpList_appB wr ?_ (.tmp 27) (.tmp 28) ?_ w1.heap.size (.slice Ao (qb (bt s) k).length co) (qb (bt s) k) ?_ HO.out 92 ?_ ?_ ?_ ?_; exact rfl; exact rfl; exact rfl; exact rfl; (first | omega | (simp; omega)); exact HW.out.size; intro v1 x1 ho1 hg1 hat1; obtain ⟨A1, c1, rfl⟩ := own_sliceN (n := (qb (bt s) k).length + 1) ho1 (by simp); have HW1 := hide (HW.out.trans (below_gb hg1 (fun k hk => (HO.out.lt k hk).1) HW.out.size)); have HO1 := hide ho1; clear ho1 hg1 hat1) | (at_builtin; refine wpList_appB x1 ?_ (.tmp 30) (.tmp 32) ?_ w1.heap.size (.slice A1 ((qb (bt s) k).length + 1) c1) (qb (bt s) k ++ [92]) ?_ HO1.out (bt s k) ?_ ?_ ?_ ?_; exact rfl; exact rfl; exact rfl; exact rfl; (first | omega | (simp; omega)); exact HW1.out.size; intro v2 x2 ho2 hg2 hat2; obtain ⟨A2, c2, rfl⟩ := own_sliceN (n := (qb (bt s) k).length + 1 + 1) ho2 (by simp); have HW2 := hide (HW1.out.trans (below_gb hg2 (fun k hk => (HO1.out.lt k hk).1) HW1.out.size)); have HO2 := hide ho2; clear ho2 hg2 hat2))
         go_roundw
         case rel => exact ⟨k + 1, by go_num, by omega, by rw [HQ.out]; exact HO2.out, HW2.out⟩
         case measure => simp [intOf]; omega
       | false =>
         have HQ := hide (show qb (bt s) (k + 1) = qb (bt s) k ++ [bt s k] by rw [qb_succ, q1, if_neg (by simp [hsp])])
         clear hsp
         go_wp2_with (at_builtin; refine wpList_appB wr ?_ (.tmp 30) (.tmp 32) ?_ w1.heap.size (.slice Ao (qb (bt s) k).length co) (qb (bt s) k) ?_ HO.out (bt s k) ?_ ?_ ?_ ?_; exact rfl; exact rfl; exact rfl; exact rfl; (first | omega | (simp; omega)); exact HW.out.size; intro v2 x2 ho2 hg2 hat2; obtain ⟨A2, c2, rfl⟩ := own_sliceN (n := (qb (bt s) k).length + 1) ho2 (by simp); have HW2 := hide (HW.out.trans (below_gb hg2 (fun k hk => (HO.out.lt k hk).1) HW.out.size)); have HO2 := hide ho2; clear ho2 hg2 hat2)
         go_roundw
         case rel => exact ⟨k + 1, by go_num, by omega, by rw [HQ.out]; exact HO2.out, HW2.out⟩
         case measure => simp [intOf]; omega
   · obtain rfl : k = s.size := by omega
     have hcv := conv_own HO.out
     go_wp2
     go_ret
     exact ⟨rfl, below_up HB0.out HW.out HB0.out.size⟩
end
end Go.Proofs.YtpheeheikigenaaGreatDoor
namespace Qm.Glob
def spB (c : Nat) : Bool := c == 42 || c == 63 || c == 91 || c == 92
def qOne (c : Nat) : List Nat := if spB c then [92, c] else [c]
def lt (l : List Nat) : Nat → Nat := fun j => l.getD j 0
theorem sh_lt (a b : List Nat) : sh (lt (a ++ b)) a.length = lt b := by
 funext j
 simp only [sh, lt, List.getD_eq_getElem?_getD]
 rw [List.getElem?_append_right (by omega), Nat.add_sub_cancel]
theorem gItems_cons {t : Nat → Nat} {n d : Nat} {x : GI} (hd : 1 ≤ d) (hn : d ≤ n) (h : gIt t n (n + 1) 0 = x :: gIt t n n d) : gItems t n = x :: gItems (sh t d) (n - d) := by
 rw [gItems, h]
 congr 1
 have := gIt_sh t n d hn n 0
 rw [Nat.zero_add] at this
 rw [this, gItems]
 exact gIt_fuel _ _ _ _ _ (by omega) (by omega)
theorem items_quote : ∀ cs : List Nat, gItems (lt (cs.flatMap qOne)) (cs.flatMap qOne).length = cs.map giOne
 | [] => rfl
 | c :: cs => by
   have ih := items_quote cs
   rw [List.flatMap_cons, List.map_cons, ← ih]
   cases h : spB c with
   | true =>
     have hq : qOne c = [92, c] := by simp [qOne, h]
     rw [hq]
     have e0 : lt ([92, c] ++ cs.flatMap qOne) 0 = 92 := rfl
     have e1 : lt ([92, c] ++ cs.flatMap qOne) 1 = c := rfl
     rw [gItems_cons (d := 2) (x := giOne c) (by omega) (by simp) (by
       rw [gIt, if_pos (by simp), if_neg (by omega), if_neg (by omega), if_pos e0, if_pos (by simp), Nat.zero_add, e1])]
     rw [show sh (lt ([92, c] ++ cs.flatMap qOne)) 2 = lt (cs.flatMap qOne) from sh_lt [92, c] _]
     congr 2
   | false =>
     have hq : qOne c = [c] := by simp [qOne, h]
     simp only [spB, Bool.or_eq_false_iff, beq_eq_false_iff_ne, ne_eq] at h
     rw [hq]
     have e0 : lt ([c] ++ cs.flatMap qOne) 0 = c := rfl
     rw [gItems_cons (d := 1) (x := giOne c) (by omega) (by simp) (by
       rw [gIt, if_pos (by simp), e0, if_neg h.1.1.1, if_neg h.1.1.2, if_neg h.2, if_neg h.1.2])]
     rw [show sh (lt ([c] ++ cs.flatMap qOne)) 1 = lt (cs.flatMap qOne) from sh_lt [c] _]
     congr 2
end Qm.Glob
namespace Go.Proofs.YtpheeheikigenaaGreatDoor
section
open Go.RowKit Go.Deep Qm.Glob
attribute [local go_sem] bt_eq strOfNums_size
def bytesOf (s : ByteArray) : List Nat := (List.range s.size).map (bt s)
theorem qb_bytes (s : ByteArray) : qb (bt s) s.size = (bytesOf s).flatMap qOne := by
 simp only [qb, bytesOf, List.flatMap_map]
 rfl
theorem bt_ext {s t : ByteArray} (h : s.size = t.size) (h2 : ∀ j, j < s.size → bt s j = bt t j) : s = t := by
 apply ByteArray.ext
 apply Array.ext h
 intro j h3 h4
 have := h2 j h3
 rw [← bt_eq s j h3, ← bt_eq t j h4] at this
 exact UInt8.toNat_inj.1 this
theorem sb_bytes (s : ByteArray) : sb (bytesOf s) = s := by
 have hs : (sb (bytesOf s)).size = s.size := by rw [sb_size]; simp [bytesOf]
 refine bt_ext hs (fun j hj => ?_)
 rw [hs] at hj
 have := bt_lt s j
 rw [bt_sb, bytesOf, List.getD_eq_getElem?_getD, List.getElem?_map, List.getElem?_range hj]
 simp only [Option.map_some, Option.getD_some]
 omega
theorem qOne_lt {l : List Nat} (h : ∀ c ∈ l, c < 256) : ∀ c ∈ l.flatMap qOne, c < 256 := by
 intro c hc
 obtain ⟨d, hd, hc⟩ := List.mem_flatMap.1 hc
 have := h d hd
 unfold qOne at hc
 split at hc
 · simp at hc; omega
 · simp at hc; omega
theorem bt_sb_lt {l : List Nat} (h : ∀ c ∈ l, c < 256) : bt (sb l) = lt l := by
 funext j
 rw [bt_sb, lt]
 rw [List.getD_eq_getElem?_getD]
 cases hj : l[j]? with
 | none => rfl
 | some c => exact Nat.mod_eq_of_lt (h c (List.mem_of_getElem? hj))
theorem items_quoted (s : ByteArray) : gItems (bt (sb (qb (bt s) s.size))) (sb (qb (bt s) s.size)).size = (bytesOf s).map giOne := by
 have hb : ∀ c ∈ bytesOf s, c < 256 := fun c hc => by
   obtain ⟨j, _, rfl⟩ := List.mem_map.1 hc
   exact bt_lt s j
 rw [qb_bytes, sb_size, bt_sb_lt (qOne_lt hb)]
 exact items_quote _
theorem quoted_plain (s : ByteArray) : plAll (gItems (bt (sb (qb (bt s) s.size))) (sb (qb (bt s) s.size)).size) = true ∧ plBytes (gItems (bt (sb (qb (bt s) s.size))) (sb (qb (bt s) s.size)).size) = bytesOf s := by
 rw [items_quoted]
 refine ⟨?_, ?_⟩
 · simp [plAll, giOne]
 · simp only [plBytes, List.map_map]
   exact (List.map_congr_left fun _ _ => rfl).trans (List.map_id _)
end
section
open Go.RowKit Go.Deep Qm.Glob
theorem sr_new1 (w : World) (s : ByteArray) (t : TypeId) : SR (w.alloc (.cells #[.string s] t)) (some ⟨w.heap.size, 0, none⟩) [s] := fun k x hk => by
 cases k with
 | zero =>
   simp at hk
   subst hk
   exact ⟨_, _, rfl, by simp, by rw [World.cell?_alloc_at _ _ _ _ rfl]; rfl⟩
 | succ k => simp at hk
theorem paths_plain (gf : Nat) (cwd : ByteArray) (A : Option Addr) (c : Nat) (L : List Pt) (w : World) (hA : RG encPt 6 w A L) (hl : L.length ≤ 1000) (hz : ∀ p ∈ L, p.text.size ≤ 1000) (s : ByteArray) (hp : (bsF (patS L)).size ≤ 1000)
   (h1 : plAll (gItems (bt (bsF (patS L))) (bsF (patS L)).size) = true) (h2 : sb (plBytes (gItems (bt (bsF (patS L))) (bsF (patS L)).size)) = s) :
   Calls Tryz.prog 23 #[.pointer (some ⟨gf, 0, none⟩), .string cwd, .slice A L.length c] w fun e w' => (∃ g, e = .returned (.slice (some ⟨g, 0, none⟩) 1 1) ∧ SR w' (some ⟨g, 0, none⟩) [s]) ∧ Below w.heap.size w w' := by
 have hb0 : Below w.heap.size w (w.alloc (.cells #[.pointer (some ⟨gf, 0, none⟩)] 32)) := (Below.refl _ _).alloc (Nat.le_refl _) _
 have HPT := hide (pat_any A c L (w.alloc (.cells #[.pointer (some ⟨gf, 0, none⟩)] 32)) (hA.below hb0) hl hz)
 obtain ⟨p, hpp⟩ : ∃ p, bsF (patS L) = p := ⟨_, rfl⟩
 rw [hpp] at HPT hp h1 h2
 have HPL := hide (fun Z => gplain_any p Z hp)
 have HE := hide (show plVal (plAll (gItems (bt p) p.size)) (plBytes (gItems (bt p) p.size)) = .tuple #[.string s, .bool true] by unfold plVal; rw [h1, h2]; rfl)
 rw [HE.out] at HPL
 obtain ⟨n, hn⟩ : ∃ n, L.length = n := ⟨_, rfl⟩
 rw [hn] at HPT ⊢
 have HB0 := hide hb0
 clear hA hz hl hp h1 h2 hpp HE hn hb0
 go_enter Tryz.func23, Tryz.ntmps23
 go_wp2_with fail
 refine HPT.out.mono ?_
 rintro e w2 ⟨rfl, hb2⟩
 have HB2 := hide (HB0.out.trans (hb2.mono HB0.out.size))
 clear hb2
 go_wp2_with fail
 refine (HPL.out _).mono ?_
 rintro e w3 ⟨rfl, hb3⟩
 have HB3 := hide (HB2.out.trans (hb3.mono HB2.out.size))
 clear hb3
 go_wp2
 go_ret
 exact ⟨⟨w3.heap.size, rfl, sr_new1 _ _ _⟩, HB3.out.alloc HB3.out.size _⟩
end
section
open Go.RowKit Go.Deep
attribute [local go_sem] bt_eq
def SpP (w0 : World) (po pn : Nat) (s : Sp) (m : Nat) (w' : World) : Prop := ∃ (out : List FR) (vo vn : Value), out.map FR.L = s.1 ∧ out.length ≤ m ∧ SpI w0 po pn out s.2 vo vn w'
theorem end_any (w0 : World) (po pn : Nat) (s : Sp) (m : Nat) (w : World) (h : SpP w0 po pn s m w) (hm : m ≤ 1000000) (hn : s.2.length ≤ 1000000) :
   Calls Tryz.prog 94 #[.pointer (some ⟨pn, 0, none⟩), .pointer (some ⟨po, 0, none⟩)] w fun e w' => e = .returned (.tuple #[]) ∧ SpP w0 po pn (flushS s) (m + 1) w' := by
 obtain ⟨out, vo, vn, ho1, ho2, hi⟩ := h
 obtain ⟨os, now⟩ := s
 dsimp only at ho1 hi hn
 subst ho1
 obtain ⟨A0, c0, rfl, _, _, _, _⟩ := hi.oo.slice encFR_len
 obtain ⟨A, c, rfl, _, _, _, _⟩ := hi.on.slice encPt_len
 have hcn := cellOfF hi.hn (j := 0) rfl
 have hfn := freeOfF hi.hn 0
 have hco := cellOfF hi.ho (j := 0) rfl
 by_cases hne : now = []
 · subst hne
   have HF := hide hi.flush0
   rw [List.length_nil] at hcn
   clear hi
   go_enter Tryz.func94, Tryz.ntmps94
   go_wp2
   go_end0
   exact ⟨rfl, out, _, _, by simp [flushS], by omega, HF.out⟩
 · obtain ⟨A', c', w4, hrun, ⟨h1, h2⟩, ⟨h3, h4⟩, h5⟩ := hi.flush1 hne (by omega)
   have HF := hide h5
   have hfl : flushS (out.map FR.L, now) = (out.map FR.L ++ [now], []) := by unfold flushS; rw [if_neg hne]
   rw [hfl]
   have hlp : 0 < now.length := List.length_pos_iff.2 hne
   obtain ⟨n, hn2⟩ : ∃ n, now.length = n := ⟨_, rfl⟩
   obtain ⟨n0, hn0⟩ : ∃ n, out.length = n := ⟨_, rfl⟩
   rw [hn2] at hcn hrun h3 hlp
   rw [hn0] at hco hrun h1 h3 h4
   have HN0 := hide hn0
   have hlpi : (0 : Int) < (n : Int) := by omega
   clear hi h5 hne hn2 hfl hn0
   go_enter Tryz.func94, Tryz.ntmps94
   go_wp2_with (at_builtin; refine wpList_app_run ?_ (.tmp 5) (.tmp 7) ?_ ?_ ?_ ?_ hrun ?_; exact rfl; exact rfl; exact rfl; exact rfl; exact rfl)
   go_end0
   have hf := HF.out
   rw [HN0.out] at hf
   exact ⟨rfl, out ++ [⟨A, c, now⟩], _, _, by simp, by rw [List.length_append, List.length_singleton]; omega, hf⟩
end
section
open Go.RowKit Go.Deep
theorem setCell_comm (W : World) (g i g' i' : Nat) (u v : Value) (h : g ≠ g') : (W.setCell ⟨g, i, none⟩ u).setCell ⟨g', i', none⟩ v = (W.setCell ⟨g', i', none⟩ v).setCell ⟨g, i, none⟩ u := by
 unfold World.setCell
 dsimp only
 congr 1
 apply Array.ext_getElem?
 intro k
 simp only [Array.getElem?_modify]
 by_cases h1 : g = k
 · have h2 : ¬ g' = k := fun e => h (h1.trans e.symm)
   simp [h1, h2]
 · by_cases h2 : g' = k
   · simp [h1, h2]
   · simp [h1, h2]
theorem ownsRow_store {w : World} {base : Nat} {e : TypeId} {n g len cap : Nat} {vals : List Value} (h : w.ownsRow base e n (.slice (some ⟨g, 0, none⟩) len cap) len vals) {i : Nat} (hi : i < len * n) (u : Value) :
   (∃ v, w.cell? ⟨g, i, none⟩ = some v) ∧ w.frozen? ⟨g, i, none⟩ = false ∧ (w.setCell ⟨g, i, none⟩ u).ownsRow base e n (.slice (some ⟨g, 0, none⟩) len cap) len (vals.set i u) := by
 obtain ⟨h1, h2⟩ := h
 rcases h2 with ⟨h2, _⟩ | ⟨g', cap', cur, e1, hb, hh, hc, hm, hs, ht⟩
 · cases h2
 injection e1 with e1 e2 e3
 injection e1 with e1
 injection e1 with e1
 subst e1 e3
 have hcur : i < cur.size := by
   rw [hs]
   exact Nat.lt_of_lt_of_le hi (Nat.mul_le_mul_right n hc)
 refine ⟨⟨cur[i], by simp [World.cell?, hh, hcur]⟩, by simp [World.frozen?, hh], by rw [List.length_set]; exact h1, .inr ⟨g, cap, cur.setIfInBounds i u, rfl, hb, ?_, hc, hm, by simpa using hs, ?_⟩⟩
 · simp [World.setCell, Array.getElem?_modify, hh]
 · rw [Array.toList_setIfInBounds, List.take_set, ht]
def set6 (W : World) (g k : Nat) (x : Pt) : World := (((((W.setCell ⟨g, k, none⟩ (.int .i64 x.kind)).setCell ⟨g, k + 1, none⟩ (.string x.text)).setCell ⟨g, k + 2, none⟩ (.string x.name)).setCell ⟨g, k + 3, none⟩ (.string x.op)).setCell ⟨g, k + 4, none⟩ (.slice x.wA x.wn x.wc)).setCell ⟨g, k + 5, none⟩ (.bool x.q)
def Can6 (W : World) (g k : Nat) (x : Pt) : Prop :=
 ((∃ v, W.cell? ⟨g, k, none⟩ = some v) ∧ W.frozen? ⟨g, k, none⟩ = false) ∧
 ((∃ v, (W.setCell ⟨g, k, none⟩ (.int .i64 x.kind)).cell? ⟨g, k + 1, none⟩ = some v) ∧ (W.setCell ⟨g, k, none⟩ (.int .i64 x.kind)).frozen? ⟨g, k + 1, none⟩ = false) ∧
 ((∃ v, ((W.setCell ⟨g, k, none⟩ (.int .i64 x.kind)).setCell ⟨g, k + 1, none⟩ (.string x.text)).cell? ⟨g, k + 2, none⟩ = some v) ∧ ((W.setCell ⟨g, k, none⟩ (.int .i64 x.kind)).setCell ⟨g, k + 1, none⟩ (.string x.text)).frozen? ⟨g, k + 2, none⟩ = false) ∧
 ((∃ v, (((W.setCell ⟨g, k, none⟩ (.int .i64 x.kind)).setCell ⟨g, k + 1, none⟩ (.string x.text)).setCell ⟨g, k + 2, none⟩ (.string x.name)).cell? ⟨g, k + 3, none⟩ = some v) ∧ (((W.setCell ⟨g, k, none⟩ (.int .i64 x.kind)).setCell ⟨g, k + 1, none⟩ (.string x.text)).setCell ⟨g, k + 2, none⟩ (.string x.name)).frozen? ⟨g, k + 3, none⟩ = false) ∧
 ((∃ v, ((((W.setCell ⟨g, k, none⟩ (.int .i64 x.kind)).setCell ⟨g, k + 1, none⟩ (.string x.text)).setCell ⟨g, k + 2, none⟩ (.string x.name)).setCell ⟨g, k + 3, none⟩ (.string x.op)).cell? ⟨g, k + 4, none⟩ = some v) ∧ ((((W.setCell ⟨g, k, none⟩ (.int .i64 x.kind)).setCell ⟨g, k + 1, none⟩ (.string x.text)).setCell ⟨g, k + 2, none⟩ (.string x.name)).setCell ⟨g, k + 3, none⟩ (.string x.op)).frozen? ⟨g, k + 4, none⟩ = false) ∧
 ((∃ v, (((((W.setCell ⟨g, k, none⟩ (.int .i64 x.kind)).setCell ⟨g, k + 1, none⟩ (.string x.text)).setCell ⟨g, k + 2, none⟩ (.string x.name)).setCell ⟨g, k + 3, none⟩ (.string x.op)).setCell ⟨g, k + 4, none⟩ (.slice x.wA x.wn x.wc)).cell? ⟨g, k + 5, none⟩ = some v) ∧ (((((W.setCell ⟨g, k, none⟩ (.int .i64 x.kind)).setCell ⟨g, k + 1, none⟩ (.string x.text)).setCell ⟨g, k + 2, none⟩ (.string x.name)).setCell ⟨g, k + 3, none⟩ (.string x.op)).setCell ⟨g, k + 4, none⟩ (.slice x.wA x.wn x.wc)).frozen? ⟨g, k + 5, none⟩ = false)
theorem set_at {α : Type} {a b : List α} {k j : Nat} (h : a.length = k) (v : α) : (a ++ b).set (k + j) v = a ++ b.set j v := by
 rw [List.set_append, if_neg (by omega)]
 congr 2
 omega
theorem set6_ok {W : World} {base g n c : Nat} {L : List Pt} {y : Pt} (h : OwnG encPt 6 tyP W base (.slice (some ⟨g, 0, none⟩) (n + 1) c) (L ++ [y])) (hn : L.length = n) (x : Pt) :
   Can6 W g (n * 6) x ∧ OwnG encPt 6 tyP (set6 W g (n * 6) x) base (.slice (some ⟨g, 0, none⟩) (n + 1) c) (L ++ [x]) := by
 have hl : (L ++ [y]).length = n + 1 := by simp [hn]
 have hlx : (L ++ [x]).length = n + 1 := by simp [hn]
 unfold OwnG at h ⊢
 rw [hl] at h
 rw [hlx]
 have s0 := ownsRow_store h (i := n * 6) (by omega) (.int .i64 x.kind)
 have s1 := ownsRow_store s0.2.2 (i := n * 6 + 1) (by omega) (.string x.text)
 have s2 := ownsRow_store s1.2.2 (i := n * 6 + 2) (by omega) (.string x.name)
 have s3 := ownsRow_store s2.2.2 (i := n * 6 + 3) (by omega) (.string x.op)
 have s4 := ownsRow_store s3.2.2 (i := n * 6 + 4) (by omega) (.slice x.wA x.wn x.wc)
 have s5 := ownsRow_store s4.2.2 (i := n * 6 + 5) (by omega) (.bool x.q)
 refine ⟨⟨⟨s0.1, s0.2.1⟩, ⟨s1.1, s1.2.1⟩, ⟨s2.1, s2.2.1⟩, ⟨s3.1, s3.2.1⟩, ⟨s4.1, s4.2.1⟩, ⟨s5.1, s5.2.1⟩⟩, ?_⟩
 have hv : (valsG encPt L).length = n * 6 := by rw [valsG_len encPt_len, hn]
 have e : ((((((valsG encPt (L ++ [y])).set (n * 6) (.int .i64 x.kind)).set (n * 6 + 1) (.string x.text)).set (n * 6 + 2) (.string x.name)).set (n * 6 + 3) (.string x.op)).set (n * 6 + 4) (.slice x.wA x.wn x.wc)).set (n * 6 + 5) (.bool x.q) = valsG encPt (L ++ [x]) := by
   rw [valsG_app, valsG_app]
   have h0 := fun (b : List Value) (v : Value) => set_at (b := b) (j := 0) hv v
   simp only [Nat.add_zero] at h0
   rw [h0, set_at hv, set_at hv, set_at hv, set_at hv, set_at hv]
   rfl
 rw [← e]
 exact s5.2.2
theorem set6_kp (W : World) (g k : Nat) (x : Pt) : Kp W (set6 W g k x) (fun b => b = g) := by
 have t : ∀ {A B : World} {i : Nat} {v : Value}, Kp A B (fun b => b = g) → Kp A (B.setCell ⟨g, i, none⟩ v) (fun b => b = g) := fun h => h.trans (objKp.mono fun q e => .inl e)
 exact t (t (t (t (t objKp))))
theorem set6_comm (W : World) (g k : Nat) (x : Pt) (p : Nat) (V : Value) (h : g ≠ p) : set6 (W.setCell ⟨p, 0, none⟩ V) g k x = (set6 W g k x).setCell ⟨p, 0, none⟩ V := by
 unfold set6
 have c := fun (Z : World) i u => setCell_comm Z p 0 g i V u (fun e => h e.symm)
 rw [c, c, c, c, c, c]
theorem SpI.push {w0 w : World} {po pn : Nat} {out : List FR} {now : List Pt} {vo : Value} {A : Option Addr} {n c : Nat} (h : SpI w0 po pn out now vo (.slice A n c) w) (hl : now.length ≤ 1000000) (x : Pt) :
   ∃ g c' w4, (Builtin.append_ #[tyN, tyN] tyN #[.slice A n c, .slice (some ⟨w.heap.size, 0, none⟩) 1 1]).run Tryz.prog (w.alloc (.cells #[.int .i64 0, .string ⟨#[]⟩, .string ⟨#[]⟩, .string ⟨#[]⟩, .slice none 0 0, .bool false] tyP)) = .ok (.slice (some ⟨g, 0, none⟩) (n + 1) c') w4 ∧
     (w4.cell? ⟨pn, 0, none⟩ = some (.slice A n c) ∧ w4.frozen? ⟨pn, 0, none⟩ = false) ∧ Can6 w4 g (n * 6) x ∧
     ((set6 w4 g (n * 6) x).cell? ⟨pn, 0, none⟩ = some (.slice A n c) ∧ (set6 w4 g (n * 6) x).frozen? ⟨pn, 0, none⟩ = false) ∧
     Can6 (w4.setCell ⟨pn, 0, none⟩ (.slice (some ⟨g, 0, none⟩) (n + 1) c')) g (n * 6) x ∧
     set6 (w4.setCell ⟨pn, 0, none⟩ (.slice (some ⟨g, 0, none⟩) (n + 1) c')) g (n * 6) x = (set6 w4 g (n * 6) x).setCell ⟨pn, 0, none⟩ (.slice (some ⟨g, 0, none⟩) (n + 1) c') ∧
     (∀ b, b < w.heap.size → b ≠ pn → (Value.slice A n c).ownBlock ≠ some b → w4.heap[b]? = w.heap[b]? ∧ (set6 w4 g (n * 6) x).heap[b]? = w.heap[b]? ∧ (w4.setCell ⟨pn, 0, none⟩ (.slice (some ⟨g, 0, none⟩) (n + 1) c')).heap[b]? = w.heap[b]? ∧ ((set6 w4 g (n * 6) x).setCell ⟨pn, 0, none⟩ (.slice (some ⟨g, 0, none⟩) (n + 1) c')).heap[b]? = w.heap[b]?) ∧
     SpI w0 po pn out (now ++ [x]) vo (.slice (some ⟨g, 0, none⟩) (n + 1) c') ((set6 w4 g (n * 6) x).setCell ⟨pn, 0, none⟩ (.slice (some ⟨g, 0, none⟩) (n + 1) c')) := by
 obtain ⟨A1, c1, e, hc, hr, hb, _⟩ := h.on.slice encPt_len
 injection e with e1 e2 e3
 subst e1 e2 e3
 have hba := (Below.refl w.heap.size w).alloc (Nat.le_refl _) (.cells #[.int .i64 0, .string ⟨#[]⟩, .string ⟨#[]⟩, .string ⟨#[]⟩, .slice none 0 0, .bool false] tyP)
 have h3 := h.step hba
 have hx : RG encPt 6 (w.alloc (.cells #[.int .i64 0, .string ⟨#[]⟩, .string ⟨#[]⟩, .string ⟨#[]⟩, .slice none 0 0, .bool false] tyP)) (some ⟨w.heap.size, 0, none⟩) [pt0] := rg_new (enc := encPt) (n := 6) w pt0 tyP
 obtain ⟨v4, w4, hrun, ho, hg, hv⟩ := run_appG rowPt encPt_len encPt_one (c := 1) h3.on hx h3.below.size (by simp; omega)
 obtain ⟨A', c', e9, _, _, hb9, hg9⟩ := ho.slice encPt_len
 have hlen : (now ++ [pt0]).length = now.length + 1 := by simp
 rw [hlen] at e9
 subst e9
 have hsz : (w.alloc (.cells #[.int .i64 0, .string ⟨#[]⟩, .string ⟨#[]⟩, .string ⟨#[]⟩, .slice none 0 0, .bool false] tyP)).heap.size = w.heap.size + 1 := by simp
 obtain ⟨g, rfl⟩ : ∃ g, A' = some ⟨g, 0, none⟩ := by
   rcases ho.2 with ⟨e, _⟩ | ⟨g, cap, cur, e, _⟩
   · injection e with e1 e2 e3; simp at e2
   · injection e with e1 e2 e3; exact ⟨g, e1⟩
 have hpn := (Array.getElem?_eq_some_iff.1 h3.hn).1
 have hpn0 := (Array.getElem?_eq_some_iff.1 h.hn).1
 have hpo0 := (Array.getElem?_eq_some_iff.1 h.ho).1
 have hnl : ∀ k, (Value.slice A now.length c).ownBlock = some k → w0.heap.size ≤ k ∧ k < w.heap.size := fun k e => h.on.lt k e
 have hgg : g < w4.heap.size ∧ w0.heap.size ≤ g ∧ g ≠ po ∧ g ≠ pn ∧ vo.ownBlock ≠ some g ∧ (∀ b, b < w.heap.size → (Value.slice A now.length c).ownBlock ≠ some b → g ≠ b) := by
   refine ⟨(ho.lt g rfl).2, (ho.lt g rfl).1, ?_⟩
   rcases hv with q | q
   · have q2 : (Value.slice A now.length c).ownBlock = some g := by rw [← q]; rfl
     obtain ⟨b1, b2, b3⟩ := h.bn g q2
     exact ⟨b1, b2, b3, fun b _ hb e2 => hb (e2 ▸ q2)⟩
   · have q2 : some g = some (w.alloc (.cells #[.int .i64 0, .string ⟨#[]⟩, .string ⟨#[]⟩, .string ⟨#[]⟩, .slice none 0 0, .bool false] tyP)).heap.size := q
     injection q2 with q2
     rw [hsz] at q2
     refine ⟨by omega, by omega, fun e => ?_, fun b hb _ => by omega⟩
     have := (h.oo.lt g e).2
     omega
 have hg2 := (hg.block pn hpn (fun e => (h3.bn pn e.symm).2.1 rfl)).trans h3.hn
 obtain ⟨n, hn⟩ : ∃ n, now.length = n := ⟨_, rfl⟩
 unfold OwnG at ho
 rw [hlen] at ho
 have ho' : OwnG encPt 6 tyP w4 w0.heap.size (.slice (some ⟨g, 0, none⟩) (now.length + 1) c') (now ++ [pt0]) := by unfold OwnG; rw [hlen]; exact ho
 have hk1 : Kp w4 (w4.setCell ⟨pn, 0, none⟩ (.slice (some ⟨g, 0, none⟩) (now.length + 1) c')) (fun k => k = pn) := objKp
 have ho2 : OwnG encPt 6 tyP (w4.setCell ⟨pn, 0, none⟩ (.slice (some ⟨g, 0, none⟩) (now.length + 1) c')) w0.heap.size (.slice (some ⟨g, 0, none⟩) (now.length + 1) c') (now ++ [pt0]) := ho'.of fun k e => hk1.block k (ho'.lt k e).2 (by
   have e' : some g = some k := e
   injection e' with e'
   exact e' ▸ hgg.2.2.2.1)
 obtain ⟨k1, k2⟩ := set6_ok ho' rfl x
 obtain ⟨k3, k4⟩ := set6_ok ho2 rfl x
 have hcm := set6_comm w4 g (now.length * 6) x pn (.slice (some ⟨g, 0, none⟩) (now.length + 1) c') hgg.2.2.2.1
 have hks := set6_kp w4 g (now.length * 6) x
 have hs2 := (hks.block pn (Nat.lt_of_lt_of_le hpn hg.size) (fun e => hgg.2.2.2.1 e.symm)).trans hg2
 have hk5 : Kp (set6 w4 g (now.length * 6) x) ((set6 w4 g (now.length * 6) x).setCell ⟨pn, 0, none⟩ (.slice (some ⟨g, 0, none⟩) (now.length + 1) c')) (fun k => k = pn) := objKp
 have hs3 : ((set6 w4 g (now.length * 6) x).setCell ⟨pn, 0, none⟩ (.slice (some ⟨g, 0, none⟩) (now.length + 1) c')).heap[pn]? = some (.cells #[.slice (some ⟨g, 0, none⟩) (now.length + 1) c'] tyN) := by simpa using objSet (j := 0) (vs := [.slice A now.length c]) hs2 (.slice (some ⟨g, 0, none⟩) (now.length + 1) c')
 have hs4 := hg.size
 have hw4 : ∀ b, b < w.heap.size → (Value.slice A now.length c).ownBlock ≠ some b → w4.heap[b]? = w.heap[b]? := fun b hb1 hb2 => (hg.block b (by omega) (fun e => hb2 e.symm)).trans (Below.heap_alloc _ _ _ hb1)
 have hall : ∀ b, b < w.heap.size → b ≠ pn → (Value.slice A now.length c).ownBlock ≠ some b → w4.heap[b]? = w.heap[b]? ∧ (set6 w4 g (now.length * 6) x).heap[b]? = w.heap[b]? ∧ (w4.setCell ⟨pn, 0, none⟩ (.slice (some ⟨g, 0, none⟩) (now.length + 1) c')).heap[b]? = w.heap[b]? ∧ ((set6 w4 g (now.length * 6) x).setCell ⟨pn, 0, none⟩ (.slice (some ⟨g, 0, none⟩) (now.length + 1) c')).heap[b]? = w.heap[b]? := fun b q1 q2 q3 => by
   have r1 := hw4 b q1 q3
   have hb4 : b < w4.heap.size := by omega
   have r2 := (hks.block b hb4 (fun e => hgg.2.2.2.2.2 b q1 q3 e.symm)).trans r1
   exact ⟨r1, r2, (hk1.block b hb4 q2).trans r1, (hk5.block b (Nat.lt_of_lt_of_le hb4 hks.size) q2).trans r2⟩
 refine ⟨g, c', w4, hrun, ⟨cellOfF hg2 (j := 0) rfl, freeOfF hg2 0⟩, k1, ⟨cellOfF hs2 (j := 0) rfl, freeOfF hs2 0⟩, k3, hcm, hall, ?_⟩
 have hbl : Below w0.heap.size w0 ((set6 w4 g (now.length * 6) x).setCell ⟨pn, 0, none⟩ (.slice (some ⟨g, 0, none⟩) (now.length + 1) c')) := by
   have b1 : Below w0.heap.size w0 w4 := h3.below.trans (Below.of_gb hg h3.below.size (fun k e => (hnl k e).1))
   have b2 := hks.below b1 (Nat.le_refl _) (fun k e => e ▸ hgg.2.1)
   exact hk5.below b2 (Nat.le_refl _) (fun k e => e ▸ h.lo.2.1)
 have hne : ∀ b, b < w.heap.size → (∀ k, vo.ownBlock = some k → True) → True := fun _ _ _ => trivial
 have hvo : ∀ k, vo.ownBlock = some k → k < w.heap.size ∧ k ≠ pn ∧ (Value.slice A now.length c).ownBlock ≠ some k := fun k e => ⟨(h.oo.lt k e).2, (h.bo k e).2, fun e2 => (h.bn k e2).2.2 e⟩
 have hpo : po < w.heap.size ∧ po ≠ pn ∧ (Value.slice A now.length c).ownBlock ≠ some po := ⟨hpo0, h.lo.2.2, fun e => (h.bn po e).1 rfl⟩
 refine ⟨hbl, h.lo, (hall po hpo.1 hpo.2.1 hpo.2.2).2.2.2.trans h.ho, hs3, h.oo.of fun k e => (hall k (hvo k e).1 (hvo k e).2.1 (hvo k e).2.2).2.2.2, ?_, h.bo, ?_, fun r hr2 => ?_⟩
 · refine k2.of fun k e => hk5.block k (k2.lt k e).2 ?_
   have e' : some g = some k := e
   injection e' with e'
   exact e' ▸ hgg.2.2.2.1
 · intro k e
   have e' : some g = some k := e
   injection e' with e'
   subst e'
   exact ⟨hgg.2.2.1, hgg.2.2.2.1, hgg.2.2.2.2.1⟩
 · obtain ⟨r1, r2, r3, r4⟩ := h.rows r hr2
   have hsz2 : w.heap.size ≤ ((set6 w4 g (now.length * 6) x).setCell ⟨pn, 0, none⟩ (.slice (some ⟨g, 0, none⟩) (now.length + 1) c')).heap.size := by
     have := hks.size
     have := hk5.size
     omega
   refine ⟨r1.of hsz2 fun a e hl2 => ?_, r2, r3, fun a e => ?_⟩
   · obtain ⟨q1, q2, q3, q4, q5⟩ := r4 a e
     exact (hall _ hl2 q3 q5).2.2.2
   · obtain ⟨q1, q2, q3, q4, q5⟩ := r4 a e
     refine ⟨by omega, q2, q3, q4, fun e2 => ?_⟩
     have e' : some g = some a.block := e2
     injection e' with e'
     exact hgg.2.2.2.2.2 a.block q1 q5 e'
end
section
section
variable {P : Program} {ops : Array Oper} {Q : Exit → Act → World → Prop} {md : Region.Mode} {S : World → Prop}
theorem wpAnyH_tk {i d : Nat} {oi : Oper} {v : Value} {fuel : Nat} {listed : Array Bool} {a : Act} {w : World} (hi : ops[i]? = some oi) (hd : oi.dst = some d)
   (hs : Region.noSelect ops = true) (hf : Region.free md ops listed i = true) (hr : (Region.ready md ops listed).contains i = true)
   (hQ : ∀ c a w, Q (.panic c) (a.put oi.dst v) w → Q (.panic c) a w) (hy : YieldsIf P ops S oi v a) (hS : S w)
   (h : wpAnyH P md ops Q S fuel (listed.setIfInBounds i true) { a with tmps := a.tmps.setIfInBounds d v } w) : wpAnyH P md ops Q S (fuel + 1) listed a w :=
 wpAnyH_take hi hs hf hr hQ hy hS (by rw [hd]; exact h)
theorem tq {i d : Nat} {oi : Oper} {v : Value} {fuel : Nat} {listed : Array Bool} {a : Act} {w : World} (hi : ops[i]? = some oi) (hd : oi.dst = some d)
   (hc : (Region.noSelect ops && (Region.free md ops listed i && ((Region.ready md ops listed).contains i && Region.wanted oi (yielded ops a.tmps)))) = true)
   (hQ : ∀ c a w, Q (.panic c) (a.put oi.dst v) w → Q (.panic c) a w) (hy : ∀ w, S w → (execOp a.eval oi).run P w = .ok (.value v) w) (hS : S w)
   (h : wpAnyH P md ops Q S fuel (listed.setIfInBounds i true) { a with tmps := a.tmps.setIfInBounds d v } w) : wpAnyH P md ops Q S (fuel + 1) listed a w := by
 simp only [Bool.and_eq_true] at hc
 exact wpAnyH_tk hi hd hc.1 hc.2.1 hc.2.2.1 hQ (Or.inl ⟨hc.2.2.2, hy⟩) hS h
theorem rq {k : Nat} {o : Oper} {fuel : Nat} {listed : Array Bool} {a : Act} {w : World} (ho : ops[k]? = some o) (hr : Region.ready md ops listed = [k]) (hw : Region.wanted o (yielded ops a.tmps) = true)
   (h : ∀ K' : Act → World → Prop, Shut (∀ a w, S w → (S w → wpAnyH P md ops Q S fuel (listed.setIfInBounds k true) a w) → K' a w) → Oper.wp P o a w K' Q) : wpAnyH P md ops Q S (fuel + 1) listed a w :=
 wpAnyH_ready hr (by simp) (AllReadyH.cons ho (fun K hK => by rw [if_pos hw]; exact h K hK) AllReadyH.nil)
theorem sA {α : Type} {l : List α} {i : Nat} {a : α} : l.toArray.setIfInBounds i a = (l.set i a).toArray := List.setIfInBounds_toArray l i a
theorem sB {α : Type} {x : α} {xs : List α} {a : α} : (x :: xs).set 0 a = a :: xs := List.set_cons_zero
theorem sC {α : Type} {x : α} {xs : List α} {i : Nat} {a : α} : (x :: xs).set (i + 1) a = x :: xs.set i a := List.set_cons_succ
theorem step_app_run {o : Oper} {a : Act} {w : World} {K : Act → World → Prop} {X : Prop} {t : TypeId} {v xv v' : Value} {w' : World} (hgd : o.guard = none) (s x : Operand)
   (ho : o.op = .call { callee := .builtin .append, args := #[s, x], argTypes := #[t, t] }) (ht : o.type = t) (hs : a.eval s = v) (hx : a.eval x = xv)
   (hrun : (Builtin.append_ #[t, t] t #[v, xv]).run P w = .ok v' w') (hk : K (a.put o.dst v') w') : if Region.wanted o (yielded ops a.tmps) = true then Oper.wp P o a w K Q else X := by
 have hw : Region.wanted o (yielded ops a.tmps) = true := by simp [Region.wanted, hgd]
 rw [if_pos hw]
 unfold Oper.wp execOp
 simp only [ho, resolve, invoke, builtin, Sem.run_bind, Sem.run_pure, Result.andThen_ok, List.map_toArray, List.map_cons, List.map_nil, hs, hx, ht, hrun]
 exact hk
end
end
end Go.Proofs.YtpheeheikigenaaGreatDoor
