/- Walks and plain facts that the claim uses. -/
import Derived.Test.YtmcophlmcloooaaGreatDoorFD0
import Derived.Deep.RegionHeld3
import Derived.Shelf.Strings.SlTrimAscii
import Derived.Shelf.Strings.Builder1
import Derived.Shelf.Strings.Builder2
import Derived.Shelf.Strings.OnBuilder
import Derived.Shelf.Strings.Trim
import Derived.Shelf.Small.Utf8
import Derived.Shelf.Small.Bits
import Derived.Shelf.Small.Strs
import Derived.Shelf.Small.Wraps
import Derived.Shelf.Strings.BuilderF
import Derived.Shelf.Strings.BuilderK
import Derived.Shelf.Strings.Builder2Cap
import Derived.Shelf.Strconv.Itoa0
import Derived.Shelf.Strings.Search1
import Derived.Shelf.Strings.Search2
import Derived.Shelf.Strings.Search3
import Derived.Shelf.Strings.Cut
import Derived.Shelf.Strings.Count
import Derived.Shelf.LaysM
import Derived.Shelf.Strings.Shaped
import Derived.Shelf.Sort.Plain
import Derived.Shelf.Strings.Prefix
import Derived.Shelf.Strings.Split
import Derived.Shelf.Strings.Replace
import Derived.Shelf.Strings.SplitShaped
import Derived.Shelf.Strings.Runes
import Derived.Shelf.Strings.IndexAny
import Derived.Shelf.Strings.AsciiSet
import Derived.Shelf.Strings.IndexAnyAll
import Derived.Shelf.Unicode.DecodeSlow
import Derived.Shelf.Strings.FieldsFuncAny
import Derived.Shelf.Strings.BuilderCap
import Derived.Shelf.Slices.Turned
import Derived.Shelf.Slices.Equal
import Derived.Ground.Names2Prog
import Derived.Shelf.Slices.Clone
import Derived.Shelf.Slices.CompactS
import Derived.Shelf.Slices.Cells
import Derived.Shelf.Slices.In.SortNone
import Derived.Shelf.Slices.Empties2
import Derived.Ground.SlbCloneProg
import Derived.Shelf.Bytes.SlClone
import Derived.Ground.SlgfProg
import Derived.Shelf.SlicesE.IndexFunc
import Derived.Test.YtmcophlmcloooaaGreatDoorProg
import Derived.Sort.OwnSorted
import Derived.Laws.RangeAny
import Derived.Laws.Runes
import Derived.Lib.IndexAny
import Derived.StillTailTactics
import Derived.Lib.IndexBytes
import Derived.Lib.Builder
import Derived.Lib.AppendStr
import Derived.WalkKit
import Derived.Laws.Externs
import Derived.Laws.IdiomCopy
import Derived.Lib.SplitLaws
import Derived.Lib.Bytealg
import Derived.Deep.LoopGhost
import Derived.Deep.OwnRows
import Derived.Lib.Split
import Derived.Lib.IndexLaws
import Derived.Lib.Join
import Derived.Laws.IdiomStrings
import Derived.BigQuiet
import Derived.Deep.QuietTactic
set_option maxRecDepth 100000
set_option maxHeartbeats 16000000
set_option linter.unusedSimpArgs false
set_option linter.unusedVariables false
namespace Go.Proofs.YtmcophlmcloooaaGreatDoor
section
open Go.RowKit Go.Deep Qm.Glob
attribute [local go_sem] bt_eq
def riVals (x : RI) (vlo vhi : Value) : List Value := [.int .i64 x.kind, .int .u8 x.c, .bool x.nt, vlo, vhi]
def RIs (w : World) (base : Nat) : List RI → List Value → Prop
 | [], xs => xs = []
 | x :: l, xs => ∃ vlo vhi rest, xs = riVals x vlo vhi ++ rest ∧ OwnB w base vlo x.lo ∧ OwnB w base vhi x.hi ∧ RIs w base l rest
theorem slice_new' (w : World) (o : Obj) : Value.slice (some ⟨w.heap.size + 1, 0, none⟩) 1 1 = Value.slice (some ⟨(w.alloc o).heap.size, 0, none⟩) 1 1 := by simp
structure RItRel (s : ByteArray) (w : World) (k f : Nat) (acc : List RI) (xs : List Value) (v3 : Value) (wr : World) : Prop where
 hk : k ≤ s.size
 hf : s.size < f + k
 hal : acc.length ≤ k
 hR : acc ++ rIt (bt s) s.size f k = rItems (bt s) s.size
 own : wr.ownsRow w.heap.size 178 5 v3 acc.length xs
 ris : RIs wr w.heap.size acc xs
 hb : Below w.heap.size w wr
end
section
open Go.RowKit Go.Deep Qm.Glob
end
section
open Go.RowKit Go.Deep Qm.Glob
attribute [local go_sem] bt_eq
end
end Go.Proofs.YtmcophlmcloooaaGreatDoor
namespace Qm.Glob
def Same (x : GI) (y : RI) : Prop := x.star = (y.kind == 1) ∧ ∀ c, c < 256 → x.S c = y.is c
theorem same_any : Same giAny rAny := by
 refine ⟨rfl, fun d hd => ?_⟩
 simp [giAny, rAny, RI.is, addS, hd]
end Qm.Glob
namespace Go.Proofs.YtmcophlmcloooaaGreatDoor
section
open Go.RowKit Go.Deep Qm.Glob
attribute [local go_sem] bt_eq
end
section
open Go.RowKit Go.Deep Qm.Glob
attribute [local go_sem] bt_eq
end
section
open Go.RowKit Go.Deep Qm.Glob Qm.Base
attribute [local go_sem] bt_eq
def dotS (s : ByteArray) : Bool := decide (0 < s.size) && bt s 0 == 46
def dotP (p : ByteArray) : Bool := dotS p || (decide (1 < p.size) && bt p 0 == 92 && bt p 1 == 46)
def keepN (p s : ByteArray) : Bool := (!dotS s || dotP p) && gMatch p s
def namesOf (p : ByteArray) (L : List ByteArray) : List ByteArray := (L.filter (keepN p)).foldl (fun acc s => putS s acc) []
theorem putS_len (s : ByteArray) : ∀ L, (putS s L).length ≤ L.length + 1
 | [] => by simp [putS]
 | x :: L => by
   rw [putS]
   split
   · have := putS_len s L; simp; omega
   · split <;> simp
end
end Go.Proofs.YtmcophlmcloooaaGreatDoor
namespace Go.Proofs
open Go.Shelf
def Tryz.lays169_ren : Go.Shelf.Ren := ⟨fun | 169 => 59 | n => n, fun | 70 => 113 | 9 => 9 | 0 => 0 | 72 => 115 | 37 => 29 | 127 => 169 | 3 => 3 | 5 => 5 | n => n, fun | n => n⟩
theorem Tryz.lays169 : Go.Proofs.Lays.n169 Tryz.prog Tryz.lays169_ren := {
 mixed := by kernel_rfl
 f169 := Tryz.func59.trans (congrArg some (by kernel_rfl))
 t0 := Tryz.underlying0
 a0 := Tryz.isAgg0
 z0 := Tryz.sizeOf0
 v0 := Tryz.zeroValue0
 t3 := Tryz.underlying3
 a3 := Tryz.isAgg3
 z3 := Tryz.sizeOf3
 v3 := Tryz.zeroValue3
 t9 := Tryz.underlying9
 a9 := Tryz.isAgg9
 z9 := Tryz.sizeOf9
 v9 := Tryz.zeroValue9
 t37 := Tryz.underlying29
 a37 := Tryz.isAgg29
 z37 := Tryz.sizeOf29
 v37 := Tryz.zeroValue29
 t70 := Tryz.underlying113
 a70 := Tryz.isAgg113
 z70 := Tryz.sizeOf113
 v70 := Tryz.zeroValue113
 t72 := Tryz.underlying115
 a72 := Tryz.isAgg115
 z72 := Tryz.sizeOf115
 v72 := Tryz.zeroValue115
 t127 := Tryz.underlying169
 a127 := Tryz.isAgg169
 z127 := Tryz.sizeOf169
 v127 := Tryz.zeroValue169 }
theorem Tryz.Builder_Extra_169 : Builder.Extra Tryz.prog Tryz.lays169_ren := {
 sizeBuilder := by kernel_rfl
 liesBuilder := by kernel_rfl
 t5 := Tryz.underlying5
 a5 := Tryz.isAgg5
 z5 := Tryz.sizeOf5
 v5 := Tryz.zeroValue5
 infoByte := by kernel_rfl
 cellsByte := by kernel_rfl
 sizeByte := by kernel_rfl
 neB5 := by decide }
open Go.RowKit in
theorem Tryz.Builder_String_any (B b : Nat) (l : List UInt8) (w : World) (h : Lib.IsBuilder 115 5 B b (Lib.byteCells l) w) (hBw : B ≤ w.heap.size) :
   Calls Tryz.prog 59 #[.pointer (some ⟨b, 0, none⟩)] w fun e w' => e = .returned (.string ⟨l.toArray⟩) ∧ Below B w w' := Any.Builder_String_any Tryz.lays169 Tryz.Builder_Extra_169 B b l w h hBw
def Tryz.lays156_ren : Go.Shelf.Ren := ⟨fun | 156 => 164 | 165 => 218 | 166 => 58 | 169 => 59 | 240 => 110 | 241 => 258 | 276 => 169 | 277 => 276 | n => n, fun | 31 => 42 | 9 => 9 | 3 => 3 | 4 => 4 | 0 => 0 | 20 => 20 | 72 => 115 | 76 => 118 | 70 => 113 | 37 => 29 | 75 => 117 | 127 => 169 | 164 => 213 | 5 => 5 | 80 => 120 | n => n, fun | n => n⟩
theorem Tryz.lays156 : Go.Proofs.Lays.n156 Tryz.prog Tryz.lays156_ren := {
 mixed := by kernel_rfl
 f156 := Tryz.func164.trans (congrArg some (by kernel_rfl))
 f165 := Tryz.func218.trans (congrArg some (by kernel_rfl))
 f166 := Tryz.func58.trans (congrArg some (by kernel_rfl))
 f169 := Tryz.func59.trans (congrArg some (by kernel_rfl))
 f240 := Tryz.func110.trans (congrArg some (by kernel_rfl))
 f241 := Tryz.func258.trans (congrArg some (by kernel_rfl))
 f276 := Tryz.func169.trans (congrArg some (by kernel_rfl))
 f277 := Tryz.func276.trans (congrArg some (by kernel_rfl))
 t0 := Tryz.underlying0
 a0 := Tryz.isAgg0
 z0 := Tryz.sizeOf0
 v0 := Tryz.zeroValue0
 t3 := Tryz.underlying3
 a3 := Tryz.isAgg3
 z3 := Tryz.sizeOf3
 v3 := Tryz.zeroValue3
 t4 := Tryz.underlying4
 a4 := Tryz.isAgg4
 z4 := Tryz.sizeOf4
 v4 := Tryz.zeroValue4
 t9 := Tryz.underlying9
 a9 := Tryz.isAgg9
 z9 := Tryz.sizeOf9
 v9 := Tryz.zeroValue9
 t20 := Tryz.underlying20
 a20 := Tryz.isAgg20
 z20 := Tryz.sizeOf20
 v20 := Tryz.zeroValue20
 t31 := Tryz.underlying42
 a31 := Tryz.isAgg42
 z31 := Tryz.sizeOf42
 v31 := Tryz.zeroValue42
 t37 := Tryz.underlying29
 a37 := Tryz.isAgg29
 z37 := Tryz.sizeOf29
 v37 := Tryz.zeroValue29
 t70 := Tryz.underlying113
 a70 := Tryz.isAgg113
 z70 := Tryz.sizeOf113
 v70 := Tryz.zeroValue113
 t72 := Tryz.underlying115
 a72 := Tryz.isAgg115
 z72 := Tryz.sizeOf115
 v72 := Tryz.zeroValue115
 t75 := Tryz.underlying117
 a75 := Tryz.isAgg117
 z75 := Tryz.sizeOf117
 v75 := Tryz.zeroValue117
 t76 := Tryz.underlying118
 a76 := Tryz.isAgg118
 z76 := Tryz.sizeOf118
 v76 := Tryz.zeroValue118
 t127 := Tryz.underlying169
 a127 := Tryz.isAgg169
 z127 := Tryz.sizeOf169
 v127 := Tryz.zeroValue169
 t164 := Tryz.underlying213
 a164 := Tryz.isAgg213
 z164 := Tryz.sizeOf213
 v164 := Tryz.zeroValue213 }
theorem Tryz.Builder_Extra_156 : Builder.Extra Tryz.prog Tryz.lays156_ren := {
 sizeBuilder := by kernel_rfl
 liesBuilder := by kernel_rfl
 t5 := Tryz.underlying5
 a5 := Tryz.isAgg5
 z5 := Tryz.sizeOf5
 v5 := Tryz.zeroValue5
 infoByte := by kernel_rfl
 cellsByte := by kernel_rfl
 sizeByte := by kernel_rfl
 neB5 := by decide }
open Go.RowKit in
theorem Tryz.strings_Join_none (a : Option Addr) (c : Nat) (sep : ByteArray) (w : World) :
   Calls Tryz.prog 164 #[.slice a 0 c, .string sep] w fun e w' => e = .returned (.string ⟨#[]⟩) ∧ w' = w := Any.strings_Join_none Tryz.lays156 Tryz.Builder_Extra_156 a c sep w
open Go.RowKit in
theorem Tryz.strings_Join (bk o c : Nat) (xs : List ByteArray) (sep : ByteArray) (w : World) (hcells : ∀ (j : Nat) x, xs[j]? = some x → w.cell? ⟨bk, o + j, none⟩ = some (.string x)) (hbk : bk < w.heap.size) (hN : xs.length ≤ 140737488355328) (hcap : xs.length ≤ c) (hlen : (Lib.join (xs.map (·.data.toList)) sep.data.toList).length ≤ 140737488355328) :
   Calls Tryz.prog 164 #[.slice (some ⟨bk, o, none⟩) xs.length c, .string sep] w fun e w' => e = .returned (.string ⟨(Lib.join (xs.map (·.data.toList)) sep.data.toList).toArray⟩) ∧ Below w.heap.size w w' := Any.strings_Join Tryz.lays156 Tryz.Builder_Extra_156 bk o c xs sep w hcells hbk hN hcap hlen
def Tryz.lays119_ren : Go.Shelf.Ren := ⟨fun | 119 => 211 | n => n, fun | 21 => 21 | 4 => 4 | n => n, fun | n => n⟩
theorem Tryz.lays119 : Go.Proofs.Lays.n119 Tryz.prog Tryz.lays119_ren := {
 mixed := by kernel_rfl
 f119 := Tryz.func211.trans (congrArg some (by kernel_rfl))
 t4 := Tryz.underlying4
 a4 := Tryz.isAgg4
 z4 := Tryz.sizeOf4
 v4 := Tryz.zeroValue4
 t21 := Tryz.underlying21
 a21 := Tryz.isAgg21
 z21 := Tryz.sizeOf21
 v21 := Tryz.zeroValue21 }
theorem Tryz.utf8_ValidRune (r : Int) (w : World) :
   Calls Tryz.prog 211 #[.int .i32 r] w fun e w' => e = .returned (.bool (Lib.validRune r)) ∧ w' = w := Any.utf8_ValidRune Tryz.lays119 r w
def Tryz.lays137_ren : Go.Shelf.Ren := ⟨fun | 137 => 83 | 217 => 136 | 266 => 187 | n => n, fun | 9 => 9 | 5 => 5 | 3 => 3 | n => n, fun | n => n⟩
theorem Tryz.lays137 : Go.Proofs.Lays.n137 Tryz.prog Tryz.lays137_ren := {
 mixed := by kernel_rfl
 f137 := Tryz.func83.trans (congrArg some (by kernel_rfl))
 f217 := Tryz.func136.trans (congrArg some (by kernel_rfl))
 f266 := Tryz.func187.trans (congrArg some (by kernel_rfl))
 t3 := Tryz.underlying3
 a3 := Tryz.isAgg3
 z3 := Tryz.sizeOf3
 v3 := Tryz.zeroValue3
 t5 := Tryz.underlying5
 a5 := Tryz.isAgg5
 z5 := Tryz.sizeOf5
 v5 := Tryz.zeroValue5
 t9 := Tryz.underlying9
 a9 := Tryz.isAgg9
 z9 := Tryz.sizeOf9
 v9 := Tryz.zeroValue9 }
open Go.RowKit in
theorem Tryz.strings_IndexByte (s : ByteArray) (c : Int) (w : World) :
   Calls Tryz.prog 83 #[.string s, .int .u8 c] w fun e w' => e = .returned (.int .i64 (Lib.indexByte s.data.toList c.toNat.toUInt8)) ∧ w' = w := Any.strings_IndexByte Tryz.lays137 s c w
def Tryz.lays143_ren : Go.Shelf.Ren := ⟨fun | 143 => 160 | 219 => 216 | 217 => 136 | 225 => 213 | 224 => 212 | 267 => 257 | 266 => 187 | 314 => 275 | n => n, fun | 9 => 9 | 3 => 3 | 4 => 4 | 5 => 5 | 46 => 195 | 146 => 293 | 51 => 238 | n => n, fun | 1 => 0 | n => n⟩
theorem Tryz.lays143 : Go.Proofs.Lays.n143 Tryz.prog Tryz.lays143_ren := {
 mixed := by kernel_rfl
 f143 := Tryz.func160.trans (congrArg some (by kernel_rfl))
 f217 := Tryz.func136.trans (congrArg some (by kernel_rfl))
 f219 := Tryz.func216.trans (congrArg some (by kernel_rfl))
 f224 := Tryz.func212.trans (congrArg some (by kernel_rfl))
 f225 := Tryz.func213.trans (congrArg some (by kernel_rfl))
 f266 := Tryz.func187.trans (congrArg some (by kernel_rfl))
 f267 := Tryz.func257.trans (congrArg some (by kernel_rfl))
 f314 := Tryz.func275.trans (congrArg some (by kernel_rfl))
 t3 := Tryz.underlying3
 a3 := Tryz.isAgg3
 z3 := Tryz.sizeOf3
 v3 := Tryz.zeroValue3
 t4 := Tryz.underlying4
 a4 := Tryz.isAgg4
 z4 := Tryz.sizeOf4
 v4 := Tryz.zeroValue4
 t5 := Tryz.underlying5
 a5 := Tryz.isAgg5
 z5 := Tryz.sizeOf5
 v5 := Tryz.zeroValue5
 t9 := Tryz.underlying9
 a9 := Tryz.isAgg9
 z9 := Tryz.sizeOf9
 v9 := Tryz.zeroValue9
 t46 := Tryz.underlying195
 a46 := Tryz.isAgg195
 z46 := Tryz.sizeOf195
 v46 := Tryz.zeroValue195
 t51 := Tryz.underlying238
 a51 := Tryz.isAgg238
 z51 := Tryz.sizeOf238
 v51 := Tryz.zeroValue238
 t146 := Tryz.underlying293
 a146 := Tryz.isAgg293
 z146 := Tryz.sizeOf293
 v146 := Tryz.zeroValue293
 g1 := by kernel_rfl }
open Go.RowKit Go.Lib in
theorem Tryz.strings_Index_one (s : ByteArray) (c : UInt8) (w : World) :
   Calls Tryz.prog 160 #[.string s, .string ⟨#[c]⟩] w fun e w' => e = .returned (.int .i64 (Lib.indexByte s.data.toList c)) ∧ w' = w := Any.strings_Index_one Tryz.lays143 s c w
def Tryz.lays144_ren : Go.Shelf.Ren := ⟨fun | 144 => 96 | 143 => 160 | 219 => 216 | 217 => 136 | 225 => 213 | 224 => 212 | 267 => 257 | 266 => 187 | 314 => 275 | n => n, fun | 9 => 9 | 4 => 4 | 3 => 3 | 5 => 5 | 46 => 195 | 146 => 293 | 51 => 238 | n => n, fun | 1 => 0 | n => n⟩
theorem Tryz.lays144 : Go.Proofs.Lays.n144 Tryz.prog Tryz.lays144_ren := {
 mixed := by kernel_rfl
 f143 := Tryz.func160.trans (congrArg some (by kernel_rfl))
 f144 := Tryz.func96.trans (congrArg some (by kernel_rfl))
 f217 := Tryz.func136.trans (congrArg some (by kernel_rfl))
 f219 := Tryz.func216.trans (congrArg some (by kernel_rfl))
 f224 := Tryz.func212.trans (congrArg some (by kernel_rfl))
 f225 := Tryz.func213.trans (congrArg some (by kernel_rfl))
 f266 := Tryz.func187.trans (congrArg some (by kernel_rfl))
 f267 := Tryz.func257.trans (congrArg some (by kernel_rfl))
 f314 := Tryz.func275.trans (congrArg some (by kernel_rfl))
 t3 := Tryz.underlying3
 a3 := Tryz.isAgg3
 z3 := Tryz.sizeOf3
 v3 := Tryz.zeroValue3
 t4 := Tryz.underlying4
 a4 := Tryz.isAgg4
 z4 := Tryz.sizeOf4
 v4 := Tryz.zeroValue4
 t5 := Tryz.underlying5
 a5 := Tryz.isAgg5
 z5 := Tryz.sizeOf5
 v5 := Tryz.zeroValue5
 t9 := Tryz.underlying9
 a9 := Tryz.isAgg9
 z9 := Tryz.sizeOf9
 v9 := Tryz.zeroValue9
 t46 := Tryz.underlying195
 a46 := Tryz.isAgg195
 z46 := Tryz.sizeOf195
 v46 := Tryz.zeroValue195
 t51 := Tryz.underlying238
 a51 := Tryz.isAgg238
 z51 := Tryz.sizeOf238
 v51 := Tryz.zeroValue238
 t146 := Tryz.underlying293
 a146 := Tryz.isAgg293
 z146 := Tryz.sizeOf293
 v146 := Tryz.zeroValue293
 g1 := by kernel_rfl }
open Go.RowKit Go.Lib in
theorem Tryz.strings_Contains_one (s : ByteArray) (c : UInt8) (w : World) :
   Calls Tryz.prog 96 #[.string s, .string ⟨#[c]⟩] w fun e w' => e = .returned (.bool (decide (0 ≤ Lib.indexByte s.data.toList c))) ∧ w' = w := Any.strings_Contains_one Tryz.lays144 s c w
def Tryz.lays138_ren : Go.Shelf.Ren := ⟨fun | 138 => 166 | 195 => 219 | 218 => 221 | 143 => 160 | 219 => 216 | 217 => 136 | 225 => 213 | 224 => 212 | 267 => 257 | 266 => 187 | 314 => 275 | n => n, fun | 9 => 9 | 3 => 3 | 4 => 4 | 5 => 5 | 0 => 0 | 46 => 195 | 146 => 293 | 51 => 238 | n => n, fun | 1 => 0 | n => n⟩
theorem Tryz.lays138 : Go.Proofs.Lays.n138 Tryz.prog Tryz.lays138_ren := {
 mixed := by kernel_rfl
 f138 := Tryz.func166.trans (congrArg some (by kernel_rfl))
 f143 := Tryz.func160.trans (congrArg some (by kernel_rfl))
 f195 := Tryz.func219.trans (congrArg some (by kernel_rfl))
 f217 := Tryz.func136.trans (congrArg some (by kernel_rfl))
 f218 := Tryz.func221.trans (congrArg some (by kernel_rfl))
 f219 := Tryz.func216.trans (congrArg some (by kernel_rfl))
 f224 := Tryz.func212.trans (congrArg some (by kernel_rfl))
 f225 := Tryz.func213.trans (congrArg some (by kernel_rfl))
 f266 := Tryz.func187.trans (congrArg some (by kernel_rfl))
 f267 := Tryz.func257.trans (congrArg some (by kernel_rfl))
 f314 := Tryz.func275.trans (congrArg some (by kernel_rfl))
 t0 := Tryz.underlying0
 a0 := Tryz.isAgg0
 z0 := Tryz.sizeOf0
 v0 := Tryz.zeroValue0
 t3 := Tryz.underlying3
 a3 := Tryz.isAgg3
 z3 := Tryz.sizeOf3
 v3 := Tryz.zeroValue3
 t4 := Tryz.underlying4
 a4 := Tryz.isAgg4
 z4 := Tryz.sizeOf4
 v4 := Tryz.zeroValue4
 t5 := Tryz.underlying5
 a5 := Tryz.isAgg5
 z5 := Tryz.sizeOf5
 v5 := Tryz.zeroValue5
 t9 := Tryz.underlying9
 a9 := Tryz.isAgg9
 z9 := Tryz.sizeOf9
 v9 := Tryz.zeroValue9
 t46 := Tryz.underlying195
 a46 := Tryz.isAgg195
 z46 := Tryz.sizeOf195
 v46 := Tryz.zeroValue195
 t51 := Tryz.underlying238
 a51 := Tryz.isAgg238
 z51 := Tryz.sizeOf238
 v51 := Tryz.zeroValue238
 t146 := Tryz.underlying293
 a146 := Tryz.isAgg293
 z146 := Tryz.sizeOf293
 v146 := Tryz.zeroValue293
 g1 := by kernel_rfl }
open Go.RowKit Go.Lib in
theorem Tryz.strings_Count_one (s : ByteArray) (c : UInt8) (w : World) :
   Calls Tryz.prog 166 #[.string s, .string ⟨#[c]⟩] w fun e w' => e = .returned (.int .i64 (Lib.countByte s.data.toList c)) ∧ w' = w := Any.strings_Count_one Tryz.lays138 s c w
def Tryz.lays190_ren : Go.Shelf.Ren := ⟨fun | 190 => 159 | 125 => 143 | 258 => 215 | 128 => 203 | 129 => 204 | 302 => 248 | 303 => 249 | 304 => 250 | 305 => 251 | 306 => 252 | 307 => 253 | 308 => 254 | 309 => 255 | 310 => 256 | 333 => 272 | 329 => 242 | 330 => 243 | 334 => 273 | 335 => 274 | 336 => 144 | 344 => 285 | n => n, fun | 31 => 42 | 9 => 9 | 3 => 3 | 46 => 195 | 0 => 0 | 51 => 238 | 53 => 156 | 4 => 4 | 183 => 231 | 182 => 230 | 131 => 235 | 5 => 5 | 218 => 271 | 222 => 275 | 228 => 288 | 229 => 289 | n => n, fun | n => n⟩
theorem Tryz.lays190 : Go.Proofs.Lays.n190 Tryz.prog Tryz.lays190_ren := {
 mixed := by kernel_rfl
 f125 := Tryz.func143.trans (congrArg some (by kernel_rfl))
 f128 := Tryz.func203.trans (congrArg some (by kernel_rfl))
 f129 := Tryz.func204.trans (congrArg some (by kernel_rfl))
 f190 := Tryz.func159.trans (congrArg some (by kernel_rfl))
 f258 := Tryz.func215.trans (congrArg some (by kernel_rfl))
 f302 := Tryz.func248.trans (congrArg some (by kernel_rfl))
 f303 := Tryz.func249.trans (congrArg some (by kernel_rfl))
 f304 := Tryz.func250.trans (congrArg some (by kernel_rfl))
 f305 := Tryz.func251.trans (congrArg some (by kernel_rfl))
 f306 := Tryz.func252.trans (congrArg some (by kernel_rfl))
 f307 := Tryz.func253.trans (congrArg some (by kernel_rfl))
 f308 := Tryz.func254.trans (congrArg some (by kernel_rfl))
 f309 := Tryz.func255.trans (congrArg some (by kernel_rfl))
 f310 := Tryz.func256.trans (congrArg some (by kernel_rfl))
 f329 := Tryz.func242.trans (congrArg some (by kernel_rfl))
 f330 := Tryz.func243.trans (congrArg some (by kernel_rfl))
 f333 := Tryz.func272.trans (congrArg some (by kernel_rfl))
 f334 := Tryz.func273.trans (congrArg some (by kernel_rfl))
 f335 := Tryz.func274.trans (congrArg some (by kernel_rfl))
 f336 := Tryz.func144.trans (congrArg some (by kernel_rfl))
 f344 := Tryz.func285.trans (congrArg some (by kernel_rfl))
 t0 := Tryz.underlying0
 a0 := Tryz.isAgg0
 z0 := Tryz.sizeOf0
 v0 := Tryz.zeroValue0
 t3 := Tryz.underlying3
 a3 := Tryz.isAgg3
 z3 := Tryz.sizeOf3
 v3 := Tryz.zeroValue3
 t4 := Tryz.underlying4
 a4 := Tryz.isAgg4
 z4 := Tryz.sizeOf4
 v4 := Tryz.zeroValue4
 t5 := Tryz.underlying5
 a5 := Tryz.isAgg5
 z5 := Tryz.sizeOf5
 v5 := Tryz.zeroValue5
 t9 := Tryz.underlying9
 a9 := Tryz.isAgg9
 z9 := Tryz.sizeOf9
 v9 := Tryz.zeroValue9
 t31 := Tryz.underlying42
 a31 := Tryz.isAgg42
 z31 := Tryz.sizeOf42
 v31 := Tryz.zeroValue42
 t46 := Tryz.underlying195
 a46 := Tryz.isAgg195
 z46 := Tryz.sizeOf195
 v46 := Tryz.zeroValue195
 t51 := Tryz.underlying238
 a51 := Tryz.isAgg238
 z51 := Tryz.sizeOf238
 v51 := Tryz.zeroValue238
 t53 := Tryz.underlying156
 a53 := Tryz.isAgg156
 z53 := Tryz.sizeOf156
 v53 := Tryz.zeroValue156
 t131 := Tryz.underlying235
 a131 := Tryz.isAgg235
 z131 := Tryz.sizeOf235
 v131 := Tryz.zeroValue235
 t182 := Tryz.underlying230
 a182 := Tryz.isAgg230
 z182 := Tryz.sizeOf230
 v182 := Tryz.zeroValue230
 t183 := Tryz.underlying231
 a183 := Tryz.isAgg231
 z183 := Tryz.sizeOf231
 v183 := Tryz.zeroValue231
 t218 := Tryz.underlying271
 a218 := Tryz.isAgg271
 z218 := Tryz.sizeOf271
 v218 := Tryz.zeroValue271
 t222 := Tryz.underlying275
 a222 := Tryz.isAgg275
 z222 := Tryz.sizeOf275
 v222 := Tryz.zeroValue275
 t228 := Tryz.underlying288
 a228 := Tryz.isAgg288
 z228 := Tryz.sizeOf288
 v228 := Tryz.zeroValue288
 t229 := Tryz.underlying289
 a229 := Tryz.isAgg289
 z229 := Tryz.sizeOf289
 v229 := Tryz.zeroValue289 }
open Go.Sort Go.RowKit in
theorem Tryz.slices_Sort_string (blk off cap : Nat) (ss : List (List UInt8)) (w : World) (hH : Holds encStr w blk off ss.toArray) (hblk : blk < w.heap.size) (hsz : ss.length < 4611686018427387904) :
   Calls Tryz.prog 159 #[.slice (some ⟨blk, off, none⟩) ss.length cap] w fun e w' =>
     e = .returned (.tuple #[]) ∧ ∃ n os, w' = grow (putRow encStr (Sort.ahead w n) blk off (ss.mergeSort fun x y => decide (x ≤ y)).toArray) os := Any.slices_Sort_string Tryz.lays190 blk off cap ss w hH hblk hsz
def Tryz.lays99_ren : Go.Shelf.Ren := ⟨fun | 99 => 47 | 206 => 99 | n => n, fun | 9 => 9 | 4 => 4 | 3 => 3 | n => n, fun | n => n⟩
theorem Tryz.lays99 : Go.Proofs.Lays.n99 Tryz.prog Tryz.lays99_ren := {
 mixed := by kernel_rfl
 f99 := Tryz.func47.trans (congrArg some (by kernel_rfl))
 f206 := Tryz.func99.trans (congrArg some (by kernel_rfl))
 t3 := Tryz.underlying3
 a3 := Tryz.isAgg3
 z3 := Tryz.sizeOf3
 v3 := Tryz.zeroValue3
 t4 := Tryz.underlying4
 a4 := Tryz.isAgg4
 z4 := Tryz.sizeOf4
 v4 := Tryz.zeroValue4
 t9 := Tryz.underlying9
 a9 := Tryz.isAgg9
 z9 := Tryz.sizeOf9
 v9 := Tryz.zeroValue9 }
open Go.RowKit Go.Lib in
theorem Tryz.strings_HasPrefix (s p : ByteArray) (w : World) :
   Calls Tryz.prog 47 #[.string s, .string p] w fun e w' => e = .returned (.bool (Lib.hasPrefix s.data.toList p.data.toList)) ∧ w' = w := Any.strings_HasPrefix Tryz.lays99 s p w
def Tryz.lays102_ren : Go.Shelf.Ren := ⟨fun | 102 => 94 | 209 => 158 | 207 => 214 | n => n, fun | 9 => 9 | 4 => 4 | 3 => 3 | n => n, fun | n => n⟩
theorem Tryz.lays102 : Go.Proofs.Lays.n102 Tryz.prog Tryz.lays102_ren := {
 mixed := by kernel_rfl
 f102 := Tryz.func94.trans (congrArg some (by kernel_rfl))
 f207 := Tryz.func214.trans (congrArg some (by kernel_rfl))
 f209 := Tryz.func158.trans (congrArg some (by kernel_rfl))
 t3 := Tryz.underlying3
 a3 := Tryz.isAgg3
 z3 := Tryz.sizeOf3
 v3 := Tryz.zeroValue3
 t4 := Tryz.underlying4
 a4 := Tryz.isAgg4
 z4 := Tryz.sizeOf4
 v4 := Tryz.zeroValue4
 t9 := Tryz.underlying9
 a9 := Tryz.isAgg9
 z9 := Tryz.sizeOf9
 v9 := Tryz.zeroValue9 }
open Go.RowKit Go.Lib in
theorem Tryz.strings_TrimSuffix (s p : ByteArray) (w : World) (hs : s.size ≤ 9223372036854775807) :
   Calls Tryz.prog 94 #[.string s, .string p] w fun e w' => e = .returned (.string ⟨(Lib.trimSuffix s.data.toList p.data.toList).toArray⟩) ∧ w' = w := Any.strings_TrimSuffix Tryz.lays102 s p w hs
def Tryz.lays146_ren : Go.Shelf.Ren := ⟨fun | 146 => 50 | 221 => 105 | 268 => 165 | 138 => 166 | 143 => 160 | 195 => 219 | 197 => 220 | 218 => 221 | 219 => 216 | 260 => 259 | 217 => 136 | 225 => 213 | 224 => 212 | 267 => 257 | 266 => 187 | 314 => 275 | n => n, fun | 9 => 9 | 31 => 42 | 3 => 3 | 4 => 4 | 0 => 0 | 105 => 250 | 21 => 21 | 5 => 5 | 46 => 195 | 119 => 296 | 139 => 299 | 138 => 298 | 146 => 293 | 51 => 238 | n => n, fun | 1 => 0 | 3 => 1 | 4 => 2 | n => n⟩
theorem Tryz.lays146 : Go.Proofs.Lays.n146 Tryz.prog Tryz.lays146_ren := {
 mixed := by kernel_rfl
 f138 := Tryz.func166.trans (congrArg some (by kernel_rfl))
 f143 := Tryz.func160.trans (congrArg some (by kernel_rfl))
 f146 := Tryz.func50.trans (congrArg some (by kernel_rfl))
 f195 := Tryz.func219.trans (congrArg some (by kernel_rfl))
 f197 := Tryz.func220.trans (congrArg some (by kernel_rfl))
 f217 := Tryz.func136.trans (congrArg some (by kernel_rfl))
 f218 := Tryz.func221.trans (congrArg some (by kernel_rfl))
 f219 := Tryz.func216.trans (congrArg some (by kernel_rfl))
 f221 := Tryz.func105.trans (congrArg some (by kernel_rfl))
 f224 := Tryz.func212.trans (congrArg some (by kernel_rfl))
 f225 := Tryz.func213.trans (congrArg some (by kernel_rfl))
 f260 := Tryz.func259.trans (congrArg some (by kernel_rfl))
 f266 := Tryz.func187.trans (congrArg some (by kernel_rfl))
 f267 := Tryz.func257.trans (congrArg some (by kernel_rfl))
 f268 := Tryz.func165.trans (congrArg some (by kernel_rfl))
 f314 := Tryz.func275.trans (congrArg some (by kernel_rfl))
 t0 := Tryz.underlying0
 a0 := Tryz.isAgg0
 z0 := Tryz.sizeOf0
 v0 := Tryz.zeroValue0
 t3 := Tryz.underlying3
 a3 := Tryz.isAgg3
 z3 := Tryz.sizeOf3
 v3 := Tryz.zeroValue3
 t4 := Tryz.underlying4
 a4 := Tryz.isAgg4
 z4 := Tryz.sizeOf4
 v4 := Tryz.zeroValue4
 t5 := Tryz.underlying5
 a5 := Tryz.isAgg5
 z5 := Tryz.sizeOf5
 v5 := Tryz.zeroValue5
 t9 := Tryz.underlying9
 a9 := Tryz.isAgg9
 z9 := Tryz.sizeOf9
 v9 := Tryz.zeroValue9
 t21 := Tryz.underlying21
 a21 := Tryz.isAgg21
 z21 := Tryz.sizeOf21
 v21 := Tryz.zeroValue21
 t31 := Tryz.underlying42
 a31 := Tryz.isAgg42
 z31 := Tryz.sizeOf42
 v31 := Tryz.zeroValue42
 t46 := Tryz.underlying195
 a46 := Tryz.isAgg195
 z46 := Tryz.sizeOf195
 v46 := Tryz.zeroValue195
 t51 := Tryz.underlying238
 a51 := Tryz.isAgg238
 z51 := Tryz.sizeOf238
 v51 := Tryz.zeroValue238
 t105 := Tryz.underlying250
 a105 := Tryz.isAgg250
 z105 := Tryz.sizeOf250
 v105 := Tryz.zeroValue250
 t119 := Tryz.underlying296
 a119 := Tryz.isAgg296
 z119 := Tryz.sizeOf296
 t138 := Tryz.underlying298
 a138 := Tryz.isAgg298
 z138 := Tryz.sizeOf298
 v138 := Tryz.zeroValue298
 t139 := Tryz.underlying299
 a139 := Tryz.isAgg299
 z139 := Tryz.sizeOf299
 v139 := Tryz.zeroValue299
 t146 := Tryz.underlying293
 a146 := Tryz.isAgg293
 z146 := Tryz.sizeOf293
 v146 := Tryz.zeroValue293
 g1 := by kernel_rfl
 g3 := by kernel_rfl
 g4 := by kernel_rfl }
open Go.RowKit Go.Lib in
theorem Tryz.strings_Split (s sep : ByteArray) (m : Int) (w : World) (hs : s.size < 4294967281) (hm : w.cell? ⟨0, 0, none⟩ = some (.int .i64 m)) (h1 : 1 ≤ sep.size) :
   Calls Tryz.prog 50 #[.string s, .string sep] w fun e w' =>
     e = .returned (.slice (some ⟨w.heap.size, 0, none⟩) (Lib.countB s sep + 1) (Lib.countB s sep + 1)) ∧ w' = w.alloc (.cells ((Lib.splitB sep 0 (Lib.countB s sep) s).map Value.string).toArray 9) := Any.strings_Split Tryz.lays146 (by kernel_rfl) s sep m w hs hm h1
def Tryz.laysM146_ren : Go.Shelf.Ren := ⟨fun | 146 => 50 | 221 => 105 | 268 => 165 | 138 => 166 | 143 => 160 | 195 => 219 | 197 => 220 | 218 => 221 | 219 => 216 | 260 => 259 | 217 => 136 | 225 => 213 | 224 => 212 | 267 => 257 | 266 => 187 | 314 => 275 | n => n, fun | 9 => 9 | 31 => 42 | 3 => 3 | 4 => 4 | 0 => 0 | 105 => 250 | 21 => 21 | 5 => 5 | 46 => 195 | 119 => 296 | 139 => 299 | 138 => 298 | 146 => 293 | 51 => 238 | n => n, fun | 1 => 0 | 3 => 1 | 4 => 2 | n => n⟩
theorem Tryz.laysM146 : Go.Proofs.LaysM.n146 Tryz.prog Tryz.laysM146_ren := {
 mixed := by kernel_rfl
 f138 := Tryz.func166.trans (congrArg some (by kernel_rfl))
 f143 := Tryz.func160.trans (congrArg some (by kernel_rfl))
 f146 := Tryz.func50.trans (congrArg some (by kernel_rfl))
 f195 := Tryz.func219.trans (congrArg some (by kernel_rfl))
 f197 := Tryz.func220.trans (congrArg some (by kernel_rfl))
 f217 := Tryz.func136.trans (congrArg some (by kernel_rfl))
 f218 := Tryz.func221.trans (congrArg some (by kernel_rfl))
 f219 := Tryz.func216.trans (congrArg some (by kernel_rfl))
 f221 := Tryz.func105.trans (congrArg some (by kernel_rfl))
 f224 := Tryz.func212.trans (congrArg some (by kernel_rfl))
 f225 := Tryz.func213.trans (congrArg some (by kernel_rfl))
 f260 := Tryz.func259.trans (congrArg some (by kernel_rfl))
 f266 := Tryz.func187.trans (congrArg some (by kernel_rfl))
 f267 := Tryz.func257.trans (congrArg some (by kernel_rfl))
 f268 := Tryz.func165.trans (congrArg some (by kernel_rfl))
 f314 := Tryz.func275.trans (congrArg some (by kernel_rfl))
 t0 := Tryz.underlying0
 a0 := Tryz.isAgg0
 z0 := Tryz.sizeOf0
 v0 := Tryz.zeroValue0
 t3 := Tryz.underlying3
 a3 := Tryz.isAgg3
 z3 := Tryz.sizeOf3
 v3 := Tryz.zeroValue3
 t4 := Tryz.underlying4
 a4 := Tryz.isAgg4
 z4 := Tryz.sizeOf4
 v4 := Tryz.zeroValue4
 t5 := Tryz.underlying5
 a5 := Tryz.isAgg5
 z5 := Tryz.sizeOf5
 v5 := Tryz.zeroValue5
 t9 := Tryz.underlying9
 a9 := Tryz.isAgg9
 z9 := Tryz.sizeOf9
 v9 := Tryz.zeroValue9
 t21 := Tryz.underlying21
 a21 := Tryz.isAgg21
 z21 := Tryz.sizeOf21
 v21 := Tryz.zeroValue21
 t31 := Tryz.underlying42
 a31 := Tryz.isAgg42
 z31 := Tryz.sizeOf42
 v31 := Tryz.zeroValue42
 t46 := Tryz.underlying195
 a46 := Tryz.isAgg195
 z46 := Tryz.sizeOf195
 v46 := Tryz.zeroValue195
 t51 := Tryz.underlying238
 a51 := Tryz.isAgg238
 z51 := Tryz.sizeOf238
 v51 := Tryz.zeroValue238
 t105 := Tryz.underlying250
 a105 := Tryz.isAgg250
 z105 := Tryz.sizeOf250
 v105 := Tryz.zeroValue250
 t119 := Tryz.underlying296
 a119 := Tryz.isAgg296
 z119 := Tryz.sizeOf296
 t138 := Tryz.underlying298
 a138 := Tryz.isAgg298
 z138 := Tryz.sizeOf298
 v138 := Tryz.zeroValue298
 t139 := Tryz.underlying299
 a139 := Tryz.isAgg299
 z139 := Tryz.sizeOf299
 v139 := Tryz.zeroValue299
 t146 := Tryz.underlying293
 a146 := Tryz.isAgg293
 z146 := Tryz.sizeOf293
 v146 := Tryz.zeroValue293
 g1 := by kernel_rfl
 g3 := by kernel_rfl
 g4 := by kernel_rfl
 i0 := by kernel_rfl
 i3 := by kernel_rfl
 i4 := by kernel_rfl
 i5 := by kernel_rfl
 i9 := by kernel_rfl
 i21 := by kernel_rfl
 i31 := by kernel_rfl
 i46 := by kernel_rfl
 i51 := by kernel_rfl
 i105 := by kernel_rfl
 i138 := by kernel_rfl
 i139 := by kernel_rfl
 i146 := by kernel_rfl
 m1 := by kernel_rfl
 s1_3 := fun w h => Go.Proofs.cell_of_shapedOpen_int (zero := #[.int .i64 0]) (t := 3) h (of_decide_eq_true (by kernel_rfl)) (by kernel_rfl) rfl (by kernel_rfl) (by kernel_rfl) Tryz.underlying3
 m3 := by kernel_rfl
 m4 := by kernel_rfl }
def Tryz.lays152_ren : Go.Shelf.Ren := ⟨fun | 152 => 154 | 137 => 83 | 119 => 211 | 224 => 212 | 225 => 213 | 217 => 136 | 266 => 187 | n => n, fun | 9 => 9 | 21 => 21 | 3 => 3 | 4 => 4 | 5 => 5 | 0 => 0 | 46 => 195 | n => n, fun | n => n⟩
theorem Tryz.lays152 : Go.Proofs.Lays.n152 Tryz.prog Tryz.lays152_ren := {
 mixed := by kernel_rfl
 f119 := Tryz.func211.trans (congrArg some (by kernel_rfl))
 f137 := Tryz.func83.trans (congrArg some (by kernel_rfl))
 f152 := Tryz.func154.trans (congrArg some (by kernel_rfl))
 f217 := Tryz.func136.trans (congrArg some (by kernel_rfl))
 f224 := Tryz.func212.trans (congrArg some (by kernel_rfl))
 f225 := Tryz.func213.trans (congrArg some (by kernel_rfl))
 f266 := Tryz.func187.trans (congrArg some (by kernel_rfl))
 t0 := Tryz.underlying0
 a0 := Tryz.isAgg0
 z0 := Tryz.sizeOf0
 v0 := Tryz.zeroValue0
 t3 := Tryz.underlying3
 a3 := Tryz.isAgg3
 z3 := Tryz.sizeOf3
 v3 := Tryz.zeroValue3
 t4 := Tryz.underlying4
 a4 := Tryz.isAgg4
 z4 := Tryz.sizeOf4
 v4 := Tryz.zeroValue4
 t5 := Tryz.underlying5
 a5 := Tryz.isAgg5
 z5 := Tryz.sizeOf5
 v5 := Tryz.zeroValue5
 t9 := Tryz.underlying9
 a9 := Tryz.isAgg9
 z9 := Tryz.sizeOf9
 v9 := Tryz.zeroValue9
 t21 := Tryz.underlying21
 a21 := Tryz.isAgg21
 z21 := Tryz.sizeOf21
 v21 := Tryz.zeroValue21
 t46 := Tryz.underlying195
 a46 := Tryz.isAgg195
 z46 := Tryz.sizeOf195
 v46 := Tryz.zeroValue195 }
open Go.RowKit Go.Lib in
theorem Tryz.strings_IndexRune_ascii (s : ByteArray) (r : Int) (w : World) (h0 : 0 ≤ r) (h1 : r < 128) :
   Calls Tryz.prog 154 #[.string s, .int .i32 r] w fun e w' => e = .returned (.int .i64 (Lib.indexByte s.data.toList r.toNat.toUInt8)) ∧ w' = w := Any.strings_IndexRune_ascii Tryz.lays152 s r w h0 h1
def Tryz.lays226_ren : Go.Shelf.Ren := ⟨fun | 226 => 155 | n => n, fun | 3 => 3 | 4 => 4 | n => n, fun | n => n⟩
theorem Tryz.lays226 : Go.Proofs.Lays.n226 Tryz.prog Tryz.lays226_ren := {
 mixed := by kernel_rfl
 f226 := Tryz.func155.trans (congrArg some (by kernel_rfl))
 t3 := Tryz.underlying3
 a3 := Tryz.isAgg3
 z3 := Tryz.sizeOf3
 v3 := Tryz.zeroValue3
 t4 := Tryz.underlying4
 a4 := Tryz.isAgg4
 z4 := Tryz.sizeOf4
 v4 := Tryz.zeroValue4 }
open Go.RowKit Go.Lib in
theorem Tryz.strings_shouldUseASCIISet (n : Int) (w : World) :
   Calls Tryz.prog 155 #[.int .i64 n] w fun e w' => e = .returned (.bool (decide (8 < n))) ∧ w' = w := Any.strings_shouldUseASCIISet Tryz.lays226 n w
def Tryz.lays153_ren : Go.Shelf.Ren := ⟨fun | 153 => 93 | 152 => 154 | 226 => 155 | 227 => 156 | 228 => 157 | 137 => 83 | 119 => 211 | 224 => 212 | 225 => 213 | 217 => 136 | 266 => 187 | n => n, fun | 9 => 9 | 3 => 3 | 4 => 4 | 5 => 5 | 21 => 21 | 117 => 203 | 116 => 202 | 0 => 0 | 46 => 195 | 124 => 222 | n => n, fun | n => n⟩
theorem Tryz.lays153 : Go.Proofs.Lays.n153 Tryz.prog Tryz.lays153_ren := {
 mixed := by kernel_rfl
 f119 := Tryz.func211.trans (congrArg some (by kernel_rfl))
 f137 := Tryz.func83.trans (congrArg some (by kernel_rfl))
 f152 := Tryz.func154.trans (congrArg some (by kernel_rfl))
 f153 := Tryz.func93.trans (congrArg some (by kernel_rfl))
 f217 := Tryz.func136.trans (congrArg some (by kernel_rfl))
 f224 := Tryz.func212.trans (congrArg some (by kernel_rfl))
 f225 := Tryz.func213.trans (congrArg some (by kernel_rfl))
 f226 := Tryz.func155.trans (congrArg some (by kernel_rfl))
 f227 := Tryz.func156.trans (congrArg some (by kernel_rfl))
 f228 := Tryz.func157.trans (congrArg some (by kernel_rfl))
 f266 := Tryz.func187.trans (congrArg some (by kernel_rfl))
 t0 := Tryz.underlying0
 a0 := Tryz.isAgg0
 z0 := Tryz.sizeOf0
 v0 := Tryz.zeroValue0
 t3 := Tryz.underlying3
 a3 := Tryz.isAgg3
 z3 := Tryz.sizeOf3
 v3 := Tryz.zeroValue3
 t4 := Tryz.underlying4
 a4 := Tryz.isAgg4
 z4 := Tryz.sizeOf4
 v4 := Tryz.zeroValue4
 t5 := Tryz.underlying5
 a5 := Tryz.isAgg5
 z5 := Tryz.sizeOf5
 v5 := Tryz.zeroValue5
 t9 := Tryz.underlying9
 a9 := Tryz.isAgg9
 z9 := Tryz.sizeOf9
 v9 := Tryz.zeroValue9
 t21 := Tryz.underlying21
 a21 := Tryz.isAgg21
 z21 := Tryz.sizeOf21
 v21 := Tryz.zeroValue21
 t46 := Tryz.underlying195
 a46 := Tryz.isAgg195
 z46 := Tryz.sizeOf195
 v46 := Tryz.zeroValue195
 t116 := Tryz.underlying202
 a116 := Tryz.isAgg202
 z116 := Tryz.sizeOf202
 t117 := Tryz.underlying203
 a117 := Tryz.isAgg203
 z117 := Tryz.sizeOf203
 v117 := Tryz.zeroValue203
 t124 := Tryz.underlying222
 a124 := Tryz.isAgg222
 z124 := Tryz.sizeOf222
 v124 := Tryz.zeroValue222 }
open Go.RowKit Go.Lib in
theorem Tryz.strings_IndexAny_long (hv116 : ∀ w, (zeroValue 202).run Tryz.prog w = .ok (.agg (Array.replicate 256 (.bool false))) w) (s chars : ByteArray) (w : World) (h2 : 2 ≤ chars.size) (h8 : 8 < s.size) (hs : s.size < 4294967281) (hcs : chars.size < 4294967281) (hascii : ∀ (j : Nat) b, chars.data.toList[j]? = some b → b.toNat < 128) :
   Calls Tryz.prog 93 #[.string s, .string chars] w fun e w' => e = .returned (.int .i64 (Lib.indexAny s.data.toList chars.data.toList)) ∧ w' = ((w.alloc (.cells (Lib.setCells chars.data.toList) 202)).alloc (.cells (Lib.setCells chars.data.toList) 202)) := Any.strings_IndexAny_long Tryz.lays153 hv116 (by kernel_rfl) s chars w h2 h8 hs hcs hascii
def Tryz.lays194_ren : Go.Shelf.Ren := ⟨fun | 194 => 223 | n => n, fun | 31 => 42 | 9 => 9 | 3 => 3 | 4 => 4 | 0 => 0 | n => n, fun | n => n⟩
theorem Tryz.lays194 : Go.Proofs.Lays.n194 Tryz.prog Tryz.lays194_ren := {
 mixed := by kernel_rfl
 f194 := Tryz.func223.trans (congrArg some (by kernel_rfl))
 t0 := Tryz.underlying0
 a0 := Tryz.isAgg0
 z0 := Tryz.sizeOf0
 v0 := Tryz.zeroValue0
 t3 := Tryz.underlying3
 a3 := Tryz.isAgg3
 z3 := Tryz.sizeOf3
 v3 := Tryz.zeroValue3
 t4 := Tryz.underlying4
 a4 := Tryz.isAgg4
 z4 := Tryz.sizeOf4
 v4 := Tryz.zeroValue4
 t9 := Tryz.underlying9
 a9 := Tryz.isAgg9
 z9 := Tryz.sizeOf9
 v9 := Tryz.zeroValue9
 t31 := Tryz.underlying42
 a31 := Tryz.isAgg42
 z31 := Tryz.sizeOf42
 v31 := Tryz.zeroValue42 }
open Go.RowKit Go.Lib Go.Sort in
theorem Tryz.slices_Compact_string (blk off cap : Nat) (zs : List (List UInt8)) (w : World) (hH : Holds encStr w blk off zs.toArray) (hsz : zs.length ≤ 9223372036854775807) (hcap : zs.length ≤ cap) :
   Calls Tryz.prog 223 #[.slice (some ⟨blk, off, none⟩) zs.length cap] w fun e w' => e = .returned (.slice (some ⟨blk, off, none⟩) (Lib.compact zs).length cap) ∧ ∃ q, w' = putRow encStr (Sort.ahead w q) blk off (Lib.compact zs ++ List.replicate (zs.length - (Lib.compact zs).length) []).toArray := Any.slices_Compact_string Tryz.lays194 blk off cap zs w hH hsz hcap
open Go.RowKit Go.Lib Go.Sort in
theorem Tryz.slices_Compact_string_empty (a : Option Addr) (cap : Nat) (w : World) :
   Calls Tryz.prog 223 #[.slice a 0 cap] w fun e w' => e = .returned (.slice a 0 cap) ∧ w' = w := Any.slices_Compact_string_empty Tryz.lays194 a cap w
open Go.RowKit Go.Sort in
theorem Tryz.slices_Sort_string_none (p : Option Addr) (cap : Nat) (w : World) :
   Calls Tryz.prog 159 #[.slice p 0 cap] w fun e w' => e = .returned (.tuple #[]) ∧ w' = w := Any.slices_Sort_string_none Tryz.lays190 p cap w
end Go.Proofs
namespace Go.Proofs.YtmcophlmcloooaaGreatDoor
section
open Go.RowKit Go.Deep Qm.Glob Qm.Base
open Go.Sort
attribute [local go_sem] bt_eq
def tl (s : ByteArray) : Tx := s.data.toList
def tb (l : Tx) : ByteArray := ⟨l.toArray⟩
theorem tb_tl (s : ByteArray) : tb (tl s) = s := by cases s; rfl
theorem map_tb_tl (L : List ByteArray) : (L.map tl).map tb = L := by
 rw [List.map_map]
 exact (List.map_congr_left fun s _ => tb_tl s).trans (List.map_id _)
theorem vals_tb (l : List Tx) : strVals (l.map tb) = l.map encStr := by
 rw [strVals, List.map_map]
 rfl
theorem vals_tl (L : List ByteArray) : strVals L = (L.map tl).map encStr := by
 rw [← vals_tb, map_tb_tl]
theorem sLt_tl (a b : ByteArray) : sLt a b = decide (tl a < tl b) := by
 rw [sLt, bytesLess_eq, ByteArray.toList_eq, ByteArray.toList_eq]
 rfl
theorem putS_tl (s : ByteArray) : ∀ L : List ByteArray, (putS s L).map tl = putT (tl s) (L.map tl)
 | [] => rfl
 | x :: L => by
   rw [putS, List.map_cons, putT, sLt_tl]
   by_cases h : tl x < tl s
   · rw [if_pos (by simpa using h), if_pos h, List.map_cons, putS_tl s L]
   · rw [if_neg (by simpa using h), if_neg h]
     by_cases e : x = s
     · rw [if_pos e, if_pos (by rw [e])]; rfl
     · rw [if_neg e, if_neg (fun e2 => e (by rw [← tb_tl x, ← tb_tl s, e2]))]; rfl
theorem putAll_tl : ∀ (F acc : List ByteArray), (F.foldl (fun acc s => putS s acc) acc).map tl = (F.map tl).foldl (fun acc s => putT s acc) (acc.map tl)
 | [], acc => rfl
 | s :: F, acc => by
   rw [List.foldl_cons, putAll_tl F, List.map_cons, List.foldl_cons, putS_tl]
theorem names_sorted (p : ByteArray) (L : List ByteArray) : (Lib.compact ((((L.filter (keepN p)).map tl).mergeSort fun x y => decide (x ≤ y)))).map tb = namesOf p L := by
 rw [sorted_put, putAll, show ([] : List Tx) = ([] : List ByteArray).map tl from rfl, ← putAll_tl, map_tb_tl]
 rfl
theorem hasdot_any (s : ByteArray) (w : World) : Calls Tryz.prog 47 #[.string s, .string ⟨#[46]⟩] w fun e w' => e = .returned (.bool (dotS s)) ∧ w = w' :=
 (Tryz.strings_HasPrefix s ⟨#[46]⟩ w).mono fun e w' ⟨h1, h2⟩ => ⟨by
   rw [h1]
   congr 2
   obtain ⟨⟨l⟩⟩ := s
   cases l with
   | nil => rfl
   | cons a l =>
     have e : dotS ⟨⟨a :: l⟩⟩ = (a.toNat == 46) := by simp [dotS, bt, ByteArray.size]
     rw [e]
     show (46 == a && true) = _
     rw [Bool.and_true, Bool.eq_iff_iff]
     simp only [beq_iff_eq]
     exact ⟨fun h => by rw [← h]; rfl, fun h => UInt8.toNat_inj.1 h.symm⟩, h2.symm⟩
def bsdP (p : ByteArray) : Bool := decide (1 < p.size) && bt p 0 == 92 && bt p 1 == 46
theorem hasbs_any (s : ByteArray) (w : World) : Calls Tryz.prog 47 #[.string s, .string ⟨#[92, 46]⟩] w fun e w' => e = .returned (.bool (bsdP s)) ∧ w = w' :=
 (Tryz.strings_HasPrefix s ⟨#[92, 46]⟩ w).mono fun e w' ⟨h1, h2⟩ => ⟨by
   rw [h1]
   congr 2
   obtain ⟨⟨l⟩⟩ := s
   rcases l with _ | ⟨a, _ | ⟨b, l⟩⟩
   · rfl
   · show (92 == a && false) = _
     rw [Bool.and_false]
     simp [bsdP, ByteArray.size]
   · have e : bsdP ⟨⟨a :: b :: l⟩⟩ = (a.toNat == 92 && b.toNat == 46) := by simp [bsdP, bt, ByteArray.size]
     rw [e]
     show (92 == a && (46 == b && true)) = _
     rw [Bool.and_true, Bool.eq_iff_iff]
     simp only [Bool.and_eq_true, beq_iff_eq]
     exact ⟨fun ⟨h, k⟩ => by rw [← h, ← k]; exact ⟨rfl, rfl⟩, fun ⟨h, k⟩ => ⟨UInt8.toNat_inj.1 h.symm, UInt8.toNat_inj.1 k.symm⟩⟩, h2.symm⟩
theorem dotP_eq (p : ByteArray) : dotP p = (dotS p || bsdP p) := rfl
theorem sort_own {w : World} {base : Nat} {v : Value} {F : List ByteArray} (h : OwnS w base v F) (hl : F.length ≤ 100000) :
   Calls Tryz.prog 159 #[v] w fun e w' => e = .returned (.tuple #[]) ∧ OwnS w' base v (((F.map tl).mergeSort fun x y => decide (x ≤ y)).map tb) ∧ w.grownBy w' v.ownBlock := by
 rcases h.2 with ⟨rfl, hn⟩ | ⟨g, cap, cur, rfl, hbg, hh, hc, hm, hs, ht⟩
 · have hF : F = [] := List.eq_nil_of_length_eq_zero hn
   subst hF
   exact (Tryz.slices_Sort_string_none none 0 w).mono fun e w' ⟨h1, h2⟩ => ⟨h1, by rw [h2]; simpa using OwnS.nil w base, by rw [h2]; exact World.grownBy.refl _ _⟩
 · have hlen : (F.map tl).length = F.length := by simp
   rw [Nat.mul_one] at ht
   have hH : Holds encStr w g 0 (F.map tl).toArray := holds_of_block hh (by rw [hlen, ht, vals_tl])
   have := Tryz.slices_Sort_string g 0 cap (F.map tl) w hH (h.lt g rfl).2 (by rw [hlen]; omega)
   rw [hlen] at this
   refine this.mono ?_
   rintro e w' ⟨rfl, n, os, rfl⟩
   refine ⟨rfl, ?_, grownBy_sorted _⟩
   have ho := ownsRow_sorted (n := n) (os := os) (ss := F.map tl) (ts := (F.map tl).mergeSort fun x y => decide (x ≤ y)) (by simp) hbg hh (by rw [hlen]; exact hc) hm hs
   unfold OwnS
   rw [vals_tb]
   simpa using ho
theorem compact_len (G : List Tx) : (Lib.compact G).length ≤ G.length := by
 unfold Lib.compact Lib.compactUpTo
 rw [List.length_map]
 exact Nat.le_trans (List.length_filter_le _ _) (by simp)
theorem compact_own {w : World} {base : Nat} {v : Value} {G : List Tx} (h : OwnS w base v (G.map tb)) (hl : G.length ≤ 100000) :
   Calls Tryz.prog 223 #[v] w fun e w' => (∃ A' c', e = .returned (.slice A' ((Lib.compact G).map tb).length c') ∧ SR w' A' ((Lib.compact G).map tb) ∧ ((Lib.compact G).map tb).length ≤ c' ∧ ∀ a, A' = some a → v.ownBlock = some a.block) ∧ w.grownBy w' v.ownBlock := by
 rcases h.2 with ⟨rfl, hn⟩ | ⟨g, cap, cur, rfl, hbg, hh, hc, hm, hs, ht⟩
 · have hG : G = [] := List.eq_nil_of_length_eq_zero (by simpa using hn)
   subst hG
   refine (Tryz.slices_Compact_string_empty none 0 w).mono fun e w' ⟨h1, h2⟩ => ⟨⟨none, 0, h1, SR.nil _ _, Nat.le_refl _, fun a e => by cases e⟩, by rw [h2]; exact World.grownBy.refl _ _⟩
 · have hlen : (G.map tb).length = G.length := by simp
   rw [Nat.mul_one, hlen] at ht
   rw [hlen] at hc
   have hH : Holds encStr w g 0 G.toArray := holds_of_block hh (by rw [ht, vals_tb])
   have hcl := compact_len G
   have := Tryz.slices_Compact_string g 0 cap G w hH (by omega) hc
   rw [hlen]
   refine this.mono ?_
   rintro e w' ⟨rfl, q, rfl⟩
   have hgb := grownBy_sorted (w := w) (g := g) (n := q) (os := #[]) (Lib.compact G ++ List.replicate (G.length - (Lib.compact G).length) []).toArray
   rw [grow_empty] at hgb
   refine ⟨⟨some ⟨g, 0, none⟩, cap, by rw [List.length_map], fun k s hk => ⟨g, 0, rfl, by simpa using (h.lt g rfl).2, ?_⟩, by rw [List.length_map]; omega, fun a e => by injection e with e; rw [← e]; rfl⟩, hgb⟩
   have hk2 : k < (Lib.compact G).length := by
     have := (List.getElem?_eq_some_iff.1 hk).1
     simpa using this
   have hs2 : s = tb (Lib.compact G)[k] := by
     rw [List.getElem?_map, List.getElem?_eq_getElem hk2] at hk
     injection hk with hk
     exact hk.symm
   rw [cell?_putRow encStr (Sort.ahead w q) g 0 G.toArray _ (holds_ahead _ _ _ _ _ _ hH) (by simp; omega) k (by simp; omega)]
   rw [getElem!_pos _ _ (by simp; omega)]
   simp only [List.getElem_toArray]
   rw [List.getElem_append_left hk2, hs2]
   rfl
end
section
open Go.RowKit Go.Deep Qm.Glob Qm.Base
attribute [local go_sem] bt_eq
theorem ItemsAt.more {w w' : World} {A : Option Addr} {B B' : Nat} {l : List GI} (h : ItemsAt w A B l) (hb : Below B w w') (hB : B ≤ B') : ItemsAt w' A B' l := fun k x hx => by
 obtain ⟨g, e, hg, hc⟩ := h k x hx
 exact ⟨g, e, by omega, fun j u hu => (hb.cell (p := ⟨g, k * 8 + j, none⟩) hg).trans (hc j u hu)⟩
theorem filter_snoc {α : Type} (f : α → Bool) (l : List α) (x : α) : (l ++ [x]).filter f = if f x then l.filter f ++ [x] else l.filter f := by
 rw [List.filter_append]
 cases h : f x <;> simp [h]
theorem gnames_any (p : ByteArray) (A : Option Addr) (c : Nat) (L : List ByteArray) (w : World) (hp : p.size ≤ 1000) (hL : ∀ (k : Nat) (s : ByteArray), L[k]? = some s → s.size ≤ 1000) (hn : L.length ≤ 1000) (hA : SR w A L) :
   Calls Tryz.prog 167 #[.string p, .slice A L.length c] w fun e w' => (∃ A' c', e = .returned (.slice A' (namesOf p L).length c') ∧ SR w' A' (namesOf p L) ∧ (namesOf p L).length ≤ c' ∧ ∀ a, A' = some a → w.heap.size ≤ a.block) ∧ Below w.heap.size w w' := by
 obtain ⟨n, hn1⟩ : ∃ n, L.length = n := ⟨_, rfl⟩
 rw [hn1]
 rw [hn1] at hn
 have HN := hide hn1
 have HA := hide hA
 have HL := hide hL
 clear hA hn1 hL
 go_enter Tryz.func167, Tryz.ntmps167
 go_wp2_with fail
 go_step3
 go_upto_region 1 with (fail)
 go_cut [5] from 10 to 16 (fun v5 w' => v5 = .bool (dotP p) ∧ w = w')
 case first =>
   have HQ := hide (dotP_eq p)
   cases hd : dotS p with
   | true =>
     have HD := hide hd
     clear hd
     go_wp2_with fail
     refine (hasdot_any p w).mono ?_
     rintro e w' ⟨rfl, rfl⟩
     rw [HD.out]
     go_wp2
     go_meet
     exact ⟨by rw [HQ.out, HD.out]; rfl, rfl⟩
   | false =>
     have HD := hide hd
     clear hd
     go_wp2_with fail
     refine (hasdot_any p w).mono ?_
     rintro e w' ⟨rfl, rfl⟩
     rw [HD.out]
     go_wp2_with fail
     refine (hasbs_any p w).mono ?_
     rintro e w' ⟨rfl, rfl⟩
     go_wp2
     go_meet
     exact ⟨by rw [HQ.out, HD.out]; rfl, rfl⟩
 case rest =>
   obtain ⟨rfl, rfl⟩ := hcut
   generalize hdp : dotP p = dp
   have HDQ := hide hdp
   clear hdp
   go_wp2_with fail
   refine (items_any p w hp).mono ?_
   rintro e w1 ⟨v, rfl, hown, hb⟩
   obtain ⟨AI, cI, rfl, hat⟩ := items_of_own hown
   have HAT := hide hat
   have HB1 := hide hb
   have HA1 := hide (HA.out.below hb)
   clear hat hb hown HA
   go_wp2
   go_step3
   go_wp2
   go_loopw [7, 20] (fun v7 v20 wr => ∃ k : Nat, v20 = .int .i64 k ∧ k ≤ n ∧ OwnS wr w1.heap.size v7 ((L.take k).filter (keepN p)) ∧ Below w1.heap.size w1 wr) (fun _ v20 _ => n - (intOf v20).toNat)
   case atStart => exact ⟨0, rfl, by omega, OwnS.nil _ _, Below.refl _ _⟩
   case round =>
     obtain ⟨k, rfl, hk, ho, hb⟩ := hrel
     have HO := hide ho
     have HB := hide hb
     clear ho hb
     by_cases hlt : k < n
     · obtain ⟨x, hx⟩ : ∃ x, L[k]? = some x := ⟨L[k]'(by have := HN.out; omega), gE _⟩
       have hxs := HL.out k x hx
       obtain ⟨g, o, rfl, hg, hcell⟩ := (HA1.out.below HB.out) k x hx
       have HX := hide (show (L.take (k + 1)).filter (keepN p) = if keepN p x then (L.take k).filter (keepN p) ++ [x] else (L.take k).filter (keepN p) by rw [take_snoc' hx, filter_snoc])
       have hkp : keepN p x = ((!dotS x || dp) && gMatch p x) := by rw [keepN, HDQ.out]
       have HKP := hide hkp
       have hfl : ((L.take k).filter (keepN p)).length ≤ 1000 := by
         have := List.length_filter_le (keepN p) (L.take k)
         simp at this
         omega
       clear hx hkp
       cases hd : dotS x with
       | true =>
         have HX0 := hide hd
         clear hd
         cases dp with
         | true =>
           have HD := hide (show (!dotS x || true) = true by simp)
           go_wp2_with fail
           refine (hasdot_any x wr).mono ?_
           rintro e w2 ⟨rfl, rfl⟩
           rw [HX0.out]
           go_wp2_with fail
           refine (ends_any x AI cI (gItems (bt p) p.size) wr hxs (Nat.le_trans (gItems_len _ _) hp) (HAT.out.more HB.out HB.out.size)).mono ?_
           rintro e w3 ⟨g3, rfl, hg3, hrow, hb3⟩
           have hm3 : w3.cell? ⟨g3, x.size, none⟩ = some (.bool (gMatch p x)) := hrow.cell (i := x.size) (by omega)
           have HO3 := hide (World.ownsRow.kept (row := none) HO.out ⟨hb3.os, hb3.tape, hb3.output, hb3.size, fun i hi _ => hb3.block i hi⟩ (Classical.em _))
           have HB3 := hide (below_up HB.out hb3 HB.out.size)
           clear hrow hb3 hg3
           cases hm : gMatch p x with
           | true =>
             rw [hm] at hm3
             have HK := hide (show keepN p x = true by rw [HKP.out, HD.out, hm]; rfl)
             clear hm
             obtain ⟨v4, w4, r4, o4, g4, b4⟩ := run_appS (OwnS.alloc HO3.out (.cells #[.string x] 9)) (sr_new w3 x) (by have := HB3.out.size; simp; omega) (by simp; omega)
             have HO4 := hide o4
             have HB4 := hide ((HB3.out.alloc HB3.out.size (.cells #[.string x] 9)).trans (Below.of_gb g4 (by have := HB3.out.size; simp; omega) (fun q hq => (OwnS.lt HO3.out q hq).1)))
             clear o4 g4 b4
             go_wp2_with (at_builtin; refine wpList_app_run ?_ (.tmp 37) (.tmp 39) ?_ ?_ ?_ ?_ r4 ?_; exact rfl; exact rfl; exact rfl; exact rfl; exact rfl)
             go_roundw
             case rel => exact ⟨k + 1, by go_num, by omega, by rw [HX.out, HK.out]; exact HO4.out, HB4.out⟩
             case measure => simp [intOf]; omega
           | false =>
             rw [hm] at hm3
             have HK := hide (show keepN p x = false by rw [HKP.out, hm, Bool.and_false])
             clear hm
             go_wp2
             go_roundw
             case rel => exact ⟨k + 1, by go_num, by omega, by rw [HX.out, HK.out]; exact HO3.out, HB3.out⟩
             case measure => simp [intOf]; omega
         | false =>
           have HK := hide (show keepN p x = false by rw [HKP.out, HX0.out]; rfl)
           go_wp2_with fail
           refine (hasdot_any x wr).mono ?_
           rintro e w2 ⟨rfl, rfl⟩
           rw [HX0.out]
           go_wp2
           go_roundw
           case rel => exact ⟨k + 1, by go_num, by omega, by rw [HX.out, HK.out]; exact HO.out, HB.out⟩
           case measure => simp [intOf]; omega
       | false =>
         have HX0 := hide hd
         clear hd
         have HD := hide (show (!dotS x || dp) = true by rw [HX0.out]; rfl)
         go_wp2_with fail
         refine (hasdot_any x wr).mono ?_
         rintro e w2 ⟨rfl, rfl⟩
         rw [HX0.out]
         go_wp2_with fail
         refine (ends_any x AI cI (gItems (bt p) p.size) wr hxs (Nat.le_trans (gItems_len _ _) hp) (HAT.out.more HB.out HB.out.size)).mono ?_
         rintro e w3 ⟨g3, rfl, hg3, hrow, hb3⟩
         have hm3 : w3.cell? ⟨g3, x.size, none⟩ = some (.bool (gMatch p x)) := hrow.cell (i := x.size) (by omega)
         have HO3 := hide (World.ownsRow.kept (row := none) HO.out ⟨hb3.os, hb3.tape, hb3.output, hb3.size, fun i hi _ => hb3.block i hi⟩ (Classical.em _))
         have HB3 := hide (below_up HB.out hb3 HB.out.size)
         clear hrow hb3 hg3
         cases hm : gMatch p x with
         | true =>
           rw [hm] at hm3
           have HK := hide (show keepN p x = true by rw [HKP.out, HD.out, hm]; rfl)
           clear hm
           obtain ⟨v4, w4, r4, o4, g4, b4⟩ := run_appS (OwnS.alloc HO3.out (.cells #[.string x] 9)) (sr_new w3 x) (by have := HB3.out.size; simp; omega) (by simp; omega)
           have HO4 := hide o4
           have HB4 := hide ((HB3.out.alloc HB3.out.size (.cells #[.string x] 9)).trans (Below.of_gb g4 (by have := HB3.out.size; simp; omega) (fun q hq => (OwnS.lt HO3.out q hq).1)))
           clear o4 g4 b4
           go_wp2_with (at_builtin; refine wpList_app_run ?_ (.tmp 37) (.tmp 39) ?_ ?_ ?_ ?_ r4 ?_; exact rfl; exact rfl; exact rfl; exact rfl; exact rfl)
           go_roundw
           case rel => exact ⟨k + 1, by go_num, by omega, by rw [HX.out, HK.out]; exact HO4.out, HB4.out⟩
           case measure => simp [intOf]; omega
         | false =>
           rw [hm] at hm3
           have HK := hide (show keepN p x = false by rw [HKP.out, hm, Bool.and_false])
           clear hm
           go_wp2
           go_roundw
           case rel => exact ⟨k + 1, by go_num, by omega, by rw [HX.out, HK.out]; exact HO3.out, HB3.out⟩
           case measure => simp [intOf]; omega
     · obtain rfl : k = n := by omega
       have HT := hide (show L.take k = L from List.take_of_length_le (by have := HN.out; omega))
       have hsort := sort_own HO.out (by rw [HT.out]; have := List.length_filter_le (keepN p) L; have := HN.out; omega)
       have HS := hide hsort
       clear hsort
       go_wp2_with fail
       refine HS.out.mono ?_
       rintro e w3 ⟨rfl, ho3, hg3⟩
       have hcomp := compact_own ho3 (by simp; rw [HT.out]; have := List.length_filter_le (keepN p) L; have := HN.out; omega)
       have HC := hide hcomp
       have HB3 := hide (HB.out.trans (Below.of_gb hg3 HB.out.size (fun q hq => (HO.out.lt q hq).1)))
       have hlt3 := ho3.lt
       have HLT := hide hlt3
       clear hcomp ho3 hg3 hlt3 HS
       go_wp2_with fail
       refine HC.out.mono ?_
       rintro e w4 ⟨⟨A4, c4, rfl, hs4, hc4, ha4⟩, hg4⟩
       have HB4 := hide (HB3.out.trans (Below.of_gb hg4 HB3.out.size (fun q hq => (HLT.out q hq).1)))
       have HE := hide (names_sorted p L)
       have HS4 := hide hs4
       have HC4 := hide hc4
       have HA4 := hide (fun a e => Nat.le_trans HB1.out.size (HLT.out _ (ha4 a e)).1)
       clear hs4 hc4 hg4 HC ha4
       rw [HT.out, HE.out]
       go_wp2
       rw [Exit.noGoto_ret]
       go_ret
       refine ⟨⟨A4, c4, rfl, ?_, ?_, HA4.out⟩, below_up HB1.out HB4.out HB1.out.size⟩
       · have := HS4.out; rw [HT.out, HE.out] at this; exact this
       · have := HC4.out; rw [HT.out, HE.out] at this; exact this
end
section
open Go.RowKit Go.Deep
attribute [local go_sem] bt_eq
def itW (W : World) (g : Nat) (s : ByteArray) (p : Nat) : World := { W with heap := W.heap.setIfInBounds g (.stringIter s p) }
theorem itW_at {W : World} {g : Nat} {s : ByteArray} {p q : Nat} (h : W.heap[g]? = some (.stringIter s q)) : (itW W g s p).heap[g]? = some (.stringIter s p) := by
 have := (Array.getElem?_eq_some_iff.1 h).1
 simp [itW, this]
theorem itW_below {W : World} {g : Nat} {s : ByteArray} {p : Nat} {B : Nat} (h : B ≤ g) (hB : B ≤ W.heap.size) : Below B W (itW W g s p) := by
 refine ⟨rfl, rfl, rfl, by simp [itW], fun k hk => ?_⟩
 simp only [itW]
 rw [Array.getElem?_setIfInBounds_ne (by omega)]
theorem next_gen {P : Program} {W : World} {g : Nat} {s : ByteArray} {p : Nat} (ty : TypeId) (hg : W.heap[g]? = some (.stringIter s p)) (h : p < s.size) :
   (Instr.next (.pointer (some ⟨g, 0, none⟩)) true ty).run P W = .ok (.tuple #[.bool true, .int .i64 p, .int .i32 (Utf8.decode s p).1]) (itW W g s (p + (Utf8.decode s p).2)) := by
 simp only [Instr.next, getObj, setObj, Sem.run_bind, Sem.run, hg, Result.andThen, h, if_true]
 simp [goInt, itW]
theorem next_fin {P : Program} {W : World} {g : Nat} {s : ByteArray} {p : Nat} (ty : TypeId) (hg : W.heap[g]? = some (.stringIter s p)) (h : ¬ p < s.size) :
   (Instr.next (.pointer (some ⟨g, 0, none⟩)) true ty).run P W = .ok (.tuple #[.bool false]) W := by
 simp [Instr.next, getObj, Sem.run, hg, h]
def blks : ByteArray := ⟨#[32, 9, 10]⟩
theorem blks_lt (j : Nat) : bt blks j < 128 := by
 match j with
 | 0 => decide
 | 1 => decide
 | 2 => decide
 | j + 3 => show (blks.data.getD (j + 3) 0).toNat < 128; simp [blks]
theorem blks_dec {p : Nat} (h : p < 3) : Utf8.decode blks p = (bt blks p, 1) := by
 match p, h with
 | 0, _ => decide
 | 1, _ => decide
 | 2, _ => decide
theorem itW_pos {W : World} {g : Nat} {s : ByteArray} {p q : Nat} (h : W.heap[g]? = some (.stringIter s q)) : (itW W g s p).iterPos g = p := by
 unfold World.iterPos
 rw [itW_at h]
theorem iter_pos {W : World} {g : Nat} {s : ByteArray} {q : Nat} (h : W.heap[g]? = some (.stringIter s q)) : W.iterPos g = q := by
 unfold World.iterPos
 rw [h]
theorem ib_none {l : List UInt8} {c : UInt8} (h : c ∉ l) : Lib.indexByte l c = -1 := by
 by_cases k : 0 ≤ Lib.indexByte l c
 · exact absurd ((ixb_mem c l).1 k) h
 · have := ixb_ge c l; omega
theorem tail_none (m y : Nat) (h : 128 ≤ y) (hy : y < 256) (Z : World) : Calls Tryz.prog 83 #[.string (blks.extract (m + 1) blks.size), .int .u8 y] Z fun e w' => e = .returned (.int .i64 (-1)) ∧ w' = Z := by
 refine (Tryz.strings_IndexByte _ _ Z).mono ?_
 rintro e w' ⟨rfl, h2⟩
 refine ⟨?_, h2⟩
 rw [ib_none]
 intro hm
 obtain ⟨j, hj⟩ := List.getElem?_of_mem hm
 have hl : ∀ c ∈ (blks.extract (m + 1) blks.size).data.toList, c.toNat < 128 := by
   intro c hc
   have : c ∈ blks.data.toList := by
     rw [Lib.extract_data] at hc
     exact List.mem_of_mem_drop (List.mem_of_mem_take hc)
   revert this
   show c ∈ [32, 9, 10] → _
   simp
   rintro (rfl | rfl | rfl) <;> decide
 have := hl _ hm
 simp at this
 omega
theorem irune_high (r : Int) (h1 : 128 ≤ r) (h2 : r ≤ 2147483647) (w : World) :
   Calls Tryz.prog 154 #[.string blks, .int .i32 r] w fun e w' => e = .returned (.int .i64 (-1)) ∧ Below w.heap.size w w' := by
 have t1 : (0 : Int) ≤ r := by omega
 have t2 : ¬ r < 128 := by omega
 by_cases he : r = 65533
 · subst he
   go_enter Tryz.func154, Tryz.ntmps154
   go_wp2
   go_loopw [5, 6] (fun _ _ wr => ∃ p : Nat, p ≤ 3 ∧ wr.heap[w.heap.size]? = some (.stringIter blks p) ∧ Below w.heap.size w wr) (fun _ _ wr => 3 - wr.iterPos w.heap.size)
   case atStart => exact ⟨0, by omega, World.iter_heap _ _ _, (Below.refl _ _).alloc (Nat.le_refl _) _⟩
   case round =>
     obtain ⟨p, hp, hg, hb⟩ := hrel
     by_cases hlt : p < 3
     · have hnx := fun ty => next_gen (P := Tryz.prog) ty hg (show p < blks.size from hlt)
       rw [blks_dec hlt] at hnx
       have hbp := blks_lt p
       obtain ⟨c, hc⟩ : ∃ c, bt blks p = c := ⟨_, rfl⟩
       rw [hc] at hnx hbp
       have tb : decide ((c : Int) = 65533) = false := by simp; omega
       have tc : ¬ (c : Int) = 65533 := by omega
       have HG := hide hg
       have HB := hide hb
       clear hg hb hc
       go_wp2
       go_roundw
       case rel => exact ⟨p + 1, by omega, itW_at HG.out, HB.out.trans (itW_below (Nat.le_refl _) HB.out.size)⟩
       case measure => rw [itW_pos HG.out, iter_pos HG.out]; omega
     · have hnx := fun ty => next_fin (P := Tryz.prog) ty hg (show ¬ p < blks.size from hlt)
       have HB := hide hb
       clear hg hb
       go_wp2
       go_ret
       exact ⟨rfl, HB.out⟩
 · have t3 : decide (r = 65533) = false := by simpa using he
   have HV := hide (Tryz.utf8_ValidRune r)
   obtain ⟨v, hv⟩ : ∃ v, Lib.validRune r = v := ⟨_, rfl⟩
   rw [hv] at HV
   cases v with
   | false =>
     clear hv
     go_enter Tryz.func154, Tryz.ntmps154
     go_wp2_with fail
     refine (HV.out w).mono ?_
     rintro e w' ⟨rfl, hw⟩
     obtain rfl := hw.symm
     go_wp2
     go_ret
     exact ⟨rfl, Below.refl _ _⟩
   | true =>
     have hva : Utf8.valid r = true := by
       unfold Lib.validRune at hv
       unfold Utf8.valid
       simp at hv ⊢
       omega
     obtain ⟨e1, e2, e3⟩ := encode_facts r hva h1
     have e4 := e3 (by omega)
     rw [bt_eq] at e4
     obtain ⟨E, hE⟩ : ∃ E, Utf8.encode r = E := ⟨_, rfl⟩
     have HE := hide hE
     rw [hE] at e1 e2 e4
     obtain ⟨n, hn⟩ : ∃ n, E.size = n := ⟨_, rfl⟩
     rw [hn] at e1 e2 e4
     obtain ⟨m, rfl⟩ : ∃ m, n = m + 1 := ⟨n - 1, by omega⟩
     rw [Nat.add_sub_cancel] at e4
     have hmm : m = 1 ∨ m = 2 ∨ m = 3 := by omega
     have hlt := blks_lt m
     have hbz : blks.size = 3 := rfl
     obtain ⟨x, hx⟩ : ∃ x, bt blks m = x := ⟨_, rfl⟩
     obtain ⟨y, hy⟩ : ∃ y, bt E m = y := ⟨_, rfl⟩
     rw [hx] at hlt
     rw [hy] at e4
     have tn : ((x : Int) == (y : Int)) = false := by simp; omega
     have tn2 : (x : Int) ≠ (y : Int) := by omega
     have w1 : ((m + 1 : Nat) : Int) - 1 = (m : Int) := by omega
     have hm1 : (m : Int) < ((m + 1 : Nat) : Int) := by omega
     clear hv hva e3
     rcases hmm with rfl | rfl | rfl
     · have HIB := hide (fun Z => tail_none 1 y e4 (by rw [← hy]; exact bt_lt _ _) Z)
       go_enter Tryz.func154, Tryz.ntmps154
       go_wp2_with fail
       refine (HV.out w).mono ?_
       rintro e w' ⟨rfl, hw⟩
       obtain rfl := hw.symm
       go_wp2_with fail
       go_step3
       go_wp2_with fail
       go_loopw [9, 10] (fun v9 v10 wr => v9 = .int .i64 1 ∧ v10 = .int .i64 0 ∧ wr = w) (fun _ _ _ => 0)
       case atStart => exact ⟨rfl, rfl, rfl⟩
       case round =>
         obtain ⟨rfl, rfl, rfl⟩ := hrel
         go_wp2_with fail
         go_step3
         go_upto_region 6 with (fail)
         go_region
         go_wp2_with fail
         go_region_with (go_at_call 83; refine (HIB.out _).mono ?_; rintro e w' ⟨rfl, rfl⟩)
         go_wp2
         all_goals
           rw [Exit.noGoto_ret]
           simp +zetaDelta only [Exit.inBlock, Exit.noGoto_ret, Exit.then]
           go_ret
           exact ⟨rfl, (Below.refl _ _).drew.drew⟩
     · have HIB := hide (fun Z => tail_none 2 y e4 (by rw [← hy]; exact bt_lt _ _) Z)
       go_enter Tryz.func154, Tryz.ntmps154
       go_wp2_with fail
       refine (HV.out w).mono ?_
       rintro e w' ⟨rfl, hw⟩
       obtain rfl := hw.symm
       go_wp2_with fail
       go_step3
       go_wp2_with fail
       go_loopw [9, 10] (fun v9 v10 wr => v9 = .int .i64 2 ∧ v10 = .int .i64 0 ∧ wr = w) (fun _ _ _ => 0)
       case atStart => exact ⟨rfl, rfl, rfl⟩
       case round =>
         obtain ⟨rfl, rfl, rfl⟩ := hrel
         go_wp2_with fail
         go_step3
         go_upto_region 6 with (fail)
         go_region
         go_wp2_with fail
         go_region_with (go_at_call 83; refine (HIB.out _).mono ?_; rintro e w' ⟨rfl, rfl⟩)
         go_wp2
         all_goals
           rw [Exit.noGoto_ret]
           simp +zetaDelta only [Exit.inBlock, Exit.noGoto_ret, Exit.then]
           go_ret
           exact ⟨rfl, (Below.refl _ _).drew.drew⟩
     · go_enter Tryz.func154, Tryz.ntmps154
       go_wp2_with fail
       refine (HV.out w).mono ?_
       rintro e w' ⟨rfl, hw⟩
       obtain rfl := hw.symm
       go_wp2_with fail
       go_step3
       go_wp2_with fail
       go_loopw [9, 10] (fun v9 v10 wr => v9 = .int .i64 3 ∧ v10 = .int .i64 0 ∧ wr = w) (fun _ _ _ => 0)
       case atStart => exact ⟨rfl, rfl, rfl⟩
       case round =>
         obtain ⟨rfl, rfl, rfl⟩ := hrel
         go_wp2
         (try rw [Exit.noGoto_ret])
         go_ret
         exact ⟨rfl, Below.refl _ _⟩
end
section
open Go.RowKit Go.Deep
attribute [local go_sem] bt_eq
theorem decode_cont (s : ByteArray) (p : Nat) (h : p < s.size) (ha : 128 ≤ (s[p]'h).toNat) : ∀ k, k < (Utf8.decode s p).2 → p + k < s.size ∧ 128 ≤ (s.get! (p + k)).toNat := by
 intro k hk
 have hn : ¬ (s[p]'h).toNat < 128 := by omega
 have z : p + 0 < s.size ∧ 128 ≤ (s.get! (p + 0)).toNat := ⟨by omega, by rw [get_at s p h]; exact ha⟩
 have c : ∀ j, (decide (p + j < s.size) && (s.get! (p + j)).toNat / 64 == 2) = true → p + j < s.size ∧ 128 ≤ (s.get! (p + j)).toNat := fun j hj => by
   simp only [Bool.and_eq_true, decide_eq_true_eq, beq_iff_eq] at hj
   exact ⟨hj.1, by omega⟩
 simp only [Utf8.decode, get_at s p h, hn, if_false] at hk
 split at hk
 · rename_i h1
   simp only [Bool.and_eq_true] at h1
   have c1 := c 1 (by simpa using h1.2)
   split at hk
   · match k, hk with
     | 0, _ => exact z
     | 1, _ => exact c1
   · match k, hk with
     | 0, _ => exact z
 · split at hk
   · rename_i h1
     simp only [Bool.and_eq_true] at h1
     have c1 := c 1 (by simpa using h1.1.2)
     have c2 := c 2 (by simpa using h1.2)
     split at hk
     · match k, hk with
       | 0, _ => exact z
       | 1, _ => exact c1
       | 2, _ => exact c2
     · match k, hk with
       | 0, _ => exact z
   · split at hk
     · rename_i h1
       simp only [Bool.and_eq_true] at h1
       have c1 := c 1 (by simpa using h1.1.1.2)
       have c2 := c 2 (by simpa using h1.1.2)
       have c3 := c 3 (by simpa using h1.2)
       split at hk
       · match k, hk with
         | 0, _ => exact z
         | 1, _ => exact c1
         | 2, _ => exact c2
         | 3, _ => exact c3
       · match k, hk with
         | 0, _ => exact z
     · match k, hk with
       | 0, _ => exact z
theorem blks_no {x : UInt8} (h : 128 ≤ x.toNat) : blks.data.toList.contains x = false := by
 rw [Bool.eq_false_iff]
 intro hc
 rw [List.contains_iff_mem] at hc
 have : x ∈ [32, 9, 10] := hc
 simp at this
 rcases this with rfl | rfl | rfl <;> revert h <;> decide
theorem get_at? (s : ByteArray) (p : Nat) (h : p < s.size) : s.data.toList[p]? = some (s.get! p) := by
 rw [Lib.data_getElem? s p h]
 congr 1
 have := get_at s p h
 rw [Nat.add_zero] at this
 exact this.symm
theorem noany_rune {s : ByteArray} {p : Nat} (h : p < s.size) (ha : 128 ≤ (s[p]'h).toNat) (hn : Lib.NoAny s.data.toList blks.data.toList p) : ∀ k, k ≤ (Utf8.decode s p).2 → Lib.NoAny s.data.toList blks.data.toList (p + k)
 | 0, _ => hn
 | k + 1, hk => by
   obtain ⟨h1, h2⟩ := decode_cont s p h ha k (by omega)
   have ih := noany_rune h ha hn k (by omega)
   have := ih.succ (get_at? s (p + k) h1) (blks_no h2)
   exact this
def ixB (l : List UInt8) : Int := Lib.indexAny l blks.data.toList
theorem setZero (w : World) : (zeroValue 202).run Tryz.prog w = .ok (.agg (Array.replicate 256 (.bool false))) w := by kernel_rfl
theorem blks_ascii : ∀ (j : Nat) b, blks.data.toList[j]? = some b → b.toNat < 128 := fun j b h => by
 have := List.mem_of_getElem? h
 have : b ∈ [32, 9, 10] := this
 simp at this
 rcases this with rfl | rfl | rfl <;> decide
theorem iany_any (s : ByteArray) (w : World) (hs : s.size < 4294967281) :
   Calls Tryz.prog 93 #[.string s, .string blks] w fun e w' => e = .returned (.int .i64 (ixB s.data.toList)) ∧ Below w.heap.size w w' := by
 by_cases h8 : 8 < s.size
 · refine (Tryz.strings_IndexAny_long setZero s blks w (by decide) h8 hs (by decide) blks_ascii).mono ?_
   rintro e w' ⟨rfl, rfl⟩
   exact ⟨rfl, ((Below.refl _ _).alloc (Nat.le_refl _) _).alloc (by simp) _⟩
 · have hbz : blks.size = 3 := rfl
   have hbe : blks.toList.isEmpty = false := by rw [Lib.toList_data]; rfl
   have h8z : decide ((8 : Int) < (s.size : Int)) = false := decide_eq_false (by omega)
   have HSU := hide (fun Z => Tryz.strings_shouldUseASCIISet (s.size : Int) Z)
   rw [h8z] at HSU
   have hsz : (s.size : Int) ≤ 8 := by omega
   go_enter Tryz.func93, Tryz.ntmps93
   go_wp2_with fail
   refine (HSU.out w).mono ?_
   rintro e w' ⟨rfl, hw⟩
   obtain rfl := hw.symm
   go_wp2
   go_loopg [9, 10] s.size (fun q _ _ wr => ∃ p : Nat, p + q = s.size ∧ wr.heap[w.heap.size]? = some (.stringIter s p) ∧ Hid (Below w.heap.size w wr) ∧ Hid (Lib.NoAny s.data.toList blks.data.toList p))
   case atStart => exact ⟨0, by omega, World.iter_heap _ _ _, hide ((Below.refl _ _).alloc (Nat.le_refl _) _), hide (Lib.NoAny.zero _ _)⟩
   case round =>
     obtain ⟨p, hpq, hg, HB, HN⟩ := hrel
     by_cases hlt : p < s.size
     case neg =>
       have hnx := fun ty => next_fin (P := Tryz.prog) ty hg hlt
       have HE := hide (show ixB s.data.toList = -1 from Lib.indexAny_none (by
         rw [← Lib.size_eq]
         have := HN.out
         rwa [show p = s.size by omega] at this))
       clear hg
       go_wp2
       go_ret
       rw [HE.out]
       exact ⟨rfl, HB.out⟩
     have hnx := fun ty => next_gen (P := Tryz.prog) ty hg hlt
     have HG := hide hg
     have hgl := (Array.getElem?_eq_some_iff.1 hg).1
     by_cases ha : (s[p]'hlt).toNat < 128
     · have hxl := Lib.data_getElem? s p hlt
       have hdec := decode_ascii s p hlt ha
       rw [hdec] at hnx
       dsimp only at hnx
       obtain ⟨x, hx⟩ : ∃ x : UInt8, s[p]'hlt = x := ⟨_, rfl⟩
       rw [hx] at hxl hnx ha
       have HX := hide hxl
       have hax : (x.toNat : Int) < 128 := by omega
       have hcon := Lib.contains_iff_indexByte blks.data.toList x
       have hback : ((x.toNat : Int)).toNat.toUInt8 = x := by simp
       have HIR := hide (fun Z => Tryz.strings_IndexRune_ascii blks (x.toNat : Int) Z (by omega) hax)
       rw [hback] at HIR
       have HBI := hide (HB.out.trans (itW_below (W := wr) (s := s) (p := p + 1) (Nat.le_refl w.heap.size) HB.out.size))
       have HGI := hide (itW_at (p := p + 1) hg)
       cases hin : blks.data.toList.contains x with
       | false =>
         rw [hin] at hcon
         have hlt2 : ¬ ((0 : Int) ≤ Lib.indexByte blks.data.toList x) := of_decide_eq_false hcon.symm
         obtain ⟨q2, hq2⟩ : ∃ q, Lib.indexByte blks.data.toList x = q := ⟨_, rfl⟩
         rw [hq2] at HIR hlt2
         have HN2 := hide (HN.out.succ HX.out hin)
         clear hcon hin hxl hdec hx hg hq2
         go_wp2_with fail
         refine (HIR.out _).mono ?_
         rintro e w' ⟨rfl, hw⟩
         obtain rfl := hw.symm
         go_wp2
         go_roundg (s.size - (p + 1))
         case measure => omega
         case rel => exact ⟨p + 1, by omega, HGI.out, HBI, HN2⟩
       | true =>
         rw [hin] at hcon
         have hge : (0 : Int) ≤ Lib.indexByte blks.data.toList x := of_decide_eq_true hcon.symm
         obtain ⟨q2, hq2⟩ : ∃ q, Lib.indexByte blks.data.toList x = q := ⟨_, rfl⟩
         rw [hq2] at HIR hge
         have HE := hide (show ixB s.data.toList = (p : Int) from Lib.indexAny_hit HN.out HX.out hin)
         clear hcon hin hxl hdec hx hg hq2
         go_wp2_with fail
         refine (HIR.out _).mono ?_
         rintro e w' ⟨rfl, hw⟩
         obtain rfl := hw.symm
         go_wp2
         go_ret
         rw [HE.out]
         exact ⟨rfl, HBI.out⟩
     · have hdh := decode_high s p hlt (by omega)
       have hdl := decode_le s p
       have HN2 := hide (noany_rune hlt (by omega) HN.out _ (Nat.le_refl _))
       have hcn := decode_cont s p hlt (by omega) ((Utf8.decode s p).2 - 1) (by omega)
       obtain ⟨r, hr⟩ : ∃ r, (Utf8.decode s p).1 = r := ⟨_, rfl⟩
       obtain ⟨d, hd⟩ : ∃ r, (Utf8.decode s p).2 = r := ⟨_, rfl⟩
       rw [hr, hd] at hnx
       rw [hr, hd] at hdh
       rw [hr] at hdl
       rw [hd] at HN2 hcn
       have HIR := hide (fun Z => irune_high (r : Int) (by omega) (by omega) Z)
       have HBI := hide (HB.out.trans (itW_below (W := wr) (s := s) (p := p + d) (Nat.le_refl w.heap.size) HB.out.size))
       have HGI := hide (itW_at (p := p + d) hg)
       have hpd : p + d ≤ s.size := by omega
       have hd1 : 1 ≤ d := hdh.2
       clear hr hd hdh hdl hcn hg ha
       go_wp2_with fail
       refine (HIR.out _).mono ?_
       rintro e w' ⟨rfl, hb'⟩
       have hgl2 := (Array.getElem?_eq_some_iff.1 HGI.out).1
       have HG2 := hide ((hb'.block _ hgl2).trans HGI.out)
       have HB2 := hide (below_up HBI.out hb' HBI.out.size)
       clear hb' hgl2
       go_wp2
       go_roundg (s.size - (p + d))
       case measure => omega
       case rel => exact ⟨p + d, by omega, HG2.out, HB2, HN2⟩
end
section
open Go.RowKit
structure Pt where
 kind : Int
 text : ByteArray
 name : ByteArray
 op : ByteArray
 wA : Option Addr
 wn : Nat
 wc : Nat
 q : Bool
def bsF (l : List UInt8) : ByteArray := ⟨l.toArray⟩
def ptT (l : List UInt8) : Pt := ⟨1, bsF l, ⟨#[]⟩, ⟨#[]⟩, none, 0, 0, false⟩
def isB (c : UInt8) : Bool := c == 32 || c == 9 || c == 10
abbrev Sp := List (List Pt) × List Pt
def flushS (s : Sp) : Sp := if s.2 = [] then s else (s.1 ++ [s.2], [])
def pushS (l : List UInt8) (s : Sp) : Sp := if l = [] then s else (s.1, s.2 ++ [ptT l])
def txS : List UInt8 → List UInt8 → Sp → Sp
 | cur, [], s => pushS cur s
 | cur, c :: rest, s => if isB c then txS [] rest (flushS (pushS cur s)) else txS (cur ++ [c]) rest s
def stS (s : Sp) (p : Pt) : Sp := if p.kind = 1 then txS [] p.text.data.toList s else (s.1, s.2 ++ [p])
def splitS (l : List Pt) : List (List Pt) := (flushS (l.foldl stS ([], []))).1
theorem isB_iff (c : UInt8) : isB c = blks.data.toList.contains c := by
 show (c == 32 || c == 9 || c == 10) = [32, 9, 10].contains c
 rw [Bool.eq_iff_iff]; simp [or_assoc]
theorem txS_no : ∀ (rest cur : List UInt8) (s : Sp), (∀ c ∈ rest, isB c = false) → txS cur rest s = pushS (cur ++ rest) s
 | [], cur, s, h => by rw [txS, List.append_nil]
 | c :: rest, cur, s, h => by
   rw [txS, if_neg (by rw [h c (by simp)]; simp), txS_no rest _ s (fun d hd => h d (by simp [hd]))]
   simp
theorem txS_at : ∀ (a : List UInt8) (cur : List UInt8) (b : UInt8) (rest : List UInt8) (s : Sp), (∀ c ∈ a, isB c = false) → isB b = true → txS cur (a ++ b :: rest) s = txS [] rest (flushS (pushS (cur ++ a) s))
 | [], cur, b, rest, s, h, hb => by rw [List.nil_append, txS, if_pos hb, List.append_nil]
 | c :: a, cur, b, rest, s, h, hb => by
   rw [List.cons_append, txS, if_neg (by rw [h c (by simp)]; simp), txS_at a _ b rest s (fun d hd => h d (by simp [hd])) hb]
   simp
theorem ixB_cases (l : List UInt8) : (ixB l = -1 ∧ ∀ c ∈ l, isB c = false) ∨ ∃ a b rest, l = a ++ b :: rest ∧ ixB l = (a.length : Int) ∧ (∀ c ∈ a, isB c = false) ∧ isB b = true := by
 have key : ∀ (l pre : List UInt8), Lib.NoAny (pre ++ l) blks.data.toList pre.length → (Lib.indexAny (pre ++ l) blks.data.toList = -1 ∧ ∀ c ∈ l, isB c = false) ∨ ∃ a b rest, l = a ++ b :: rest ∧ Lib.indexAny (pre ++ l) blks.data.toList = ((pre.length + a.length : Nat) : Int) ∧ (∀ c ∈ a, isB c = false) ∧ isB b = true := by
   intro l
   induction l with
   | nil =>
     intro pre h
     left
     refine ⟨Lib.indexAny_none (by simpa using h), by simp⟩
   | cons x l ih =>
     intro pre h
     have hx : (pre ++ x :: l)[pre.length]? = some x := by simp
     by_cases hb : isB x = true
     · right
       refine ⟨[], x, l, rfl, ?_, by simp, hb⟩
       rw [Lib.indexAny_hit h hx (by rw [← isB_iff]; exact hb)]
       simp
     · have hb' : isB x = false := by simpa using hb
       have h2 := h.succ hx (by rw [← isB_iff]; exact hb')
       have e : pre ++ x :: l = (pre ++ [x]) ++ l := by simp
       rw [e] at h2 ⊢
       rcases ih (pre ++ [x]) (by simpa using h2) with ⟨h3, h4⟩ | ⟨a, b, rest, h3, h4, h5, h6⟩
       · left
         refine ⟨h3, fun c hc => ?_⟩
         rcases List.mem_cons.1 hc with rfl | hc
         · exact hb'
         · exact h4 c hc
       · right
         refine ⟨x :: a, b, rest, by rw [h3]; rfl, ?_, fun c hc => ?_, h6⟩
         · rw [h4]; simp; omega
         · rcases List.mem_cons.1 hc with rfl | hc
           · exact hb'
           · exact h5 c hc
 rcases key l [] (Lib.NoAny.zero _ _) with ⟨h1, h2⟩ | ⟨a, b, rest, h1, h2, h3, h4⟩
 · exact .inl ⟨h1, h2⟩
 · refine .inr ⟨a, b, rest, h1, ?_, h3, h4⟩
   have : ixB l = Lib.indexAny ([] ++ l) blks.data.toList := rfl
   rw [this, h2]; simp
end
section
open Go.RowKit Go.Deep
def encPt (p : Pt) : List Value := [.int .i64 p.kind, .string p.text, .string p.name, .string p.op, .slice p.wA p.wn p.wc, .bool p.q]
theorem encPt_len (p : Pt) : (encPt p).length = 6 := rfl
theorem encPt_one (p : Pt) : ∀ u ∈ encPt p, u.oneCell' = true := by
 intro u hu
 simp [encPt] at hu
 rcases hu with rfl | rfl | rfl | rfl | rfl | rfl <;> rfl
def pt0 : Pt := ⟨0, ⟨#[]⟩, ⟨#[]⟩, ⟨#[]⟩, none, 0, 0, false⟩
def rowPt : RowT Tryz.prog 49 51 6 := { z := .agg #[.int .i64 0, .string ⟨#[]⟩, .string ⟨#[]⟩, .string ⟨#[]⟩, .slice none 0 0, .bool false], bytes := 88, und := Tryz.underlying49, info := by kernel_rfl, zlen := rfl, pos := by omega, sb := by omega }
structure FR where
 A : Option Addr
 c : Nat
 L : List Pt
def encFR (r : FR) : List Value := [.slice r.A r.L.length r.c]
theorem encFR_len (r : FR) : (encFR r).length = 1 := rfl
theorem encFR_one (r : FR) : ∀ u ∈ encFR r, u.oneCell' = true := by
 intro u hu
 simp [encFR] at hu
 rw [hu]; rfl
def rowFR : RowT Tryz.prog 98 49 1 := { z := .slice none 0 0, bytes := 24, und := Tryz.underlying98, info := by kernel_rfl, zlen := rfl, pos := by omega, sb := by omega }
abbrev tyF : TypeId := 98
abbrev tyN : TypeId := 49
abbrev tyP : TypeId := 51
theorem cellOfF {w : World} {g : Nat} {cs : Array Value} {t : TypeId} (h : w.heap[g]? = some (.cells cs t)) {j : Nat} {v : Value} (hj : cs[j]? = some v) : w.cell? ⟨g, j, none⟩ = some v := by simp [World.cell?, h, hj]
theorem freeOfF {w : World} {g : Nat} {cs : Array Value} {t : TypeId} (h : w.heap[g]? = some (.cells cs t)) (j : Nat) : w.frozen? ⟨g, j, none⟩ = false := by simp [World.frozen?, h]
structure SpI (w0 : World) (po pn : Nat) (out : List FR) (now : List Pt) (vo vn : Value) (w : World) : Prop where
 below : Below w0.heap.size w0 w
 lo : w0.heap.size ≤ po ∧ w0.heap.size ≤ pn ∧ po ≠ pn
 ho : w.heap[po]? = some (.cells #[vo] tyF)
 hn : w.heap[pn]? = some (.cells #[vn] tyN)
 oo : OwnG encFR 1 tyN w w0.heap.size vo out
 on : OwnG encPt 6 tyP w w0.heap.size vn now
 bo : ∀ k, vo.ownBlock = some k → k ≠ po ∧ k ≠ pn
 bn : ∀ k, vn.ownBlock = some k → k ≠ po ∧ k ≠ pn ∧ vo.ownBlock ≠ some k
 rows : ∀ r ∈ out, RG encPt 6 w r.A r.L ∧ r.L.length ≤ r.c ∧ r.L ≠ [] ∧ ∀ a, r.A = some a → a.block < w.heap.size ∧ a.block ≠ po ∧ a.block ≠ pn ∧ vo.ownBlock ≠ some a.block ∧ vn.ownBlock ≠ some a.block
theorem OwnG.of {α : Type} {enc : α → List Value} {n : Nat} {E : TypeId} {w w' : World} {base : Nat} {v : Value} {L : List α} (h : OwnG enc n E w base v L) (hb : ∀ k, v.ownBlock = some k → w'.heap[k]? = w.heap[k]?) : OwnG enc n E w' base v L := ownsRow_of h hb
theorem SpI.step {w0 w w' : World} {po pn : Nat} {out : List FR} {now : List Pt} {vo vn : Value} (h : SpI w0 po pn out now vo vn w) (hb : Below w.heap.size w w') : SpI w0 po pn out now vo vn w' := by
 have h1 := (Array.getElem?_eq_some_iff.1 h.ho).1
 have h2 := (Array.getElem?_eq_some_iff.1 h.hn).1
 refine ⟨h.below.trans (hb.mono h.below.size), h.lo, (hb.block _ h1).trans h.ho, (hb.block _ h2).trans h.hn, h.oo.of fun k hk => hb.block k (h.oo.lt k hk).2, h.on.of fun k hk => hb.block k (h.on.lt k hk).2, h.bo, h.bn, fun r hr => ?_⟩
 obtain ⟨r1, r2, r3, r4⟩ := h.rows r hr
 exact ⟨r1.below hb, r2, r3, fun a e => ⟨Nat.lt_of_lt_of_le (r4 a e).1 hb.size, (r4 a e).2⟩⟩
theorem SpI.below_of {w0 w w' : World} {po pn : Nat} {out : List FR} {now : List Pt} {vo vn : Value} (h : SpI w0 po pn out now vo vn w) (hk : Kp w w' (fun k => w0.heap.size ≤ k)) : Below w0.heap.size w0 w' := hk.below h.below (Nat.le_refl _) fun k hk => hk
theorem SpI.flush0 {w0 w : World} {po pn : Nat} {out : List FR} {vo vn : Value} (h : SpI w0 po pn out [] vo vn w) : SpI w0 po pn out [] vo (.slice none 0 0) (w.setCell ⟨pn, 0, none⟩ (.slice none 0 0)) := by
 have hk : Kp w (w.setCell ⟨pn, 0, none⟩ (.slice none 0 0)) (fun k => k = pn) := objKp
 have hs := objSet (j := 0) (vs := [vn]) h.hn (.slice none 0 0)
 have h1 := (Array.getElem?_eq_some_iff.1 h.ho).1
 refine ⟨h.below_of (hk.mono fun k e => e ▸ h.lo.2.1), h.lo, (hk.block po h1 h.lo.2.2).trans h.ho, by simpa using hs, h.oo.of fun k e => hk.block k (h.oo.lt k e).2 (h.bo k e).2, OwnG.nil _ _, h.bo, fun k e => by simp [Value.ownBlock] at e, fun r hr => ?_⟩
 obtain ⟨r1, r2, r3, r4⟩ := h.rows r hr
 refine ⟨r1.of (by simp) fun a e hl => hk.block _ hl (r4 a e).2.2.1, r2, r3, fun a e => ⟨by simpa using (r4 a e).1, (r4 a e).2.1, (r4 a e).2.2.1, (r4 a e).2.2.2.1, by simp [Value.ownBlock]⟩⟩
theorem SpI.flush1 {w0 w : World} {po pn : Nat} {out : List FR} {now : List Pt} {A0 : Option Addr} {n0 c0 : Nat} {A : Option Addr} {n c : Nat} (h : SpI w0 po pn out now (.slice A0 n0 c0) (.slice A n c) w) (hne : now ≠ []) (hl : out.length ≤ 1000000) :
   ∃ A' c' w4, (Builtin.append_ #[tyF, tyF] tyF #[.slice A0 n0 c0, .slice (some ⟨w.heap.size, 0, none⟩) 1 1]).run Tryz.prog (w.alloc (.cells #[.slice A n c] tyN)) = .ok (.slice A' (n0 + 1) c') w4 ∧
     (w4.cell? ⟨po, 0, none⟩ = some (.slice A0 n0 c0) ∧ w4.frozen? ⟨po, 0, none⟩ = false) ∧
     ((w4.setCell ⟨po, 0, none⟩ (.slice A' (n0 + 1) c')).cell? ⟨pn, 0, none⟩ = some (.slice A n c) ∧ (w4.setCell ⟨po, 0, none⟩ (.slice A' (n0 + 1) c')).frozen? ⟨pn, 0, none⟩ = false) ∧
     SpI w0 po pn (out ++ [⟨A, c, now⟩]) [] (.slice A' (n0 + 1) c') (.slice none 0 0) ((w4.setCell ⟨po, 0, none⟩ (.slice A' (n0 + 1) c')).setCell ⟨pn, 0, none⟩ (.slice none 0 0)) := by
 obtain ⟨A1, c1, e, hc, hr, hb, _⟩ := h.on.slice encPt_len
 injection e with e1 e2 e3
 subst e1 e2 e3
 obtain ⟨A2, c2, e, _, _, _, _⟩ := h.oo.slice encFR_len
 injection e with e1 e2 e3
 have hba := (Below.refl w.heap.size w).alloc (Nat.le_refl _) (.cells #[.slice A now.length c] tyN)
 have h3 := h.step hba
 have hx : RG encFR 1 (w.alloc (.cells #[.slice A now.length c] tyN)) (some ⟨w.heap.size, 0, none⟩) [⟨A, c, now⟩] := rg_new (enc := encFR) (n := 1) w ⟨A, c, now⟩ tyN
 obtain ⟨v4, w4, hrun, ho, hg, hv⟩ := run_appG rowFR encFR_len encFR_one (c := 1) h3.oo hx h3.below.size (by simp; omega)
 obtain ⟨A', c', e9, _, _, _, _⟩ := ho.slice encFR_len
 rw [List.length_append, List.length_singleton, ← e2] at e9
 subst e9
 have hsz : (w.alloc (.cells #[.slice A now.length c] tyN)).heap.size = w.heap.size + 1 := by simp
 have hpo := (Array.getElem?_eq_some_iff.1 h3.ho).1
 have hpn := (Array.getElem?_eq_some_iff.1 h3.hn).1
 have hpo0 := (Array.getElem?_eq_some_iff.1 h.ho).1
 have hpn0 := (Array.getElem?_eq_some_iff.1 h.hn).1
 have hg1 := (hg.block po hpo (fun e => (h3.bo po e.symm).1 rfl)).trans h3.ho
 have hg2 := (hg.block pn hpn (fun e => (h3.bo pn e.symm).2 rfl)).trans h3.hn
 have hs1 : (w4.setCell ⟨po, 0, none⟩ (.slice A' (n0 + 1) c')).heap[po]? = some (.cells #[.slice A' (n0 + 1) c'] tyF) := by simpa using objSet (j := 0) (vs := [.slice A0 n0 c0]) hg1 (.slice A' (n0 + 1) c')
 have hk1 : Kp w4 (w4.setCell ⟨po, 0, none⟩ (.slice A' (n0 + 1) c')) (fun k => k = po) := objKp
 have hs2 := (hk1.block pn (Nat.lt_of_lt_of_le hpn hg.size) (fun e => h.lo.2.2 e.symm)).trans hg2
 obtain ⟨w5, hw5⟩ : ∃ Z, w4.setCell ⟨po, 0, none⟩ (.slice A' (n0 + 1) c') = Z := ⟨_, rfl⟩
 rw [hw5] at hs1 hk1 hs2
 have hs3 : (w5.setCell ⟨pn, 0, none⟩ (.slice none 0 0)).heap[pn]? = some (.cells #[.slice none 0 0] tyN) := by simpa using objSet (j := 0) (vs := [.slice A now.length c]) hs2 (.slice none 0 0)
 have hk2 : Kp w5 (w5.setCell ⟨pn, 0, none⟩ (.slice none 0 0)) (fun k => k = pn) := objKp
 obtain ⟨w6, hw6⟩ : ∃ Z, w5.setCell ⟨pn, 0, none⟩ (.slice none 0 0) = Z := ⟨_, rfl⟩
 rw [hw6] at hs3 hk2
 have hvl : ∀ k, (Value.slice A0 n0 c0).ownBlock = some k → w0.heap.size ≤ k ∧ k < w.heap.size := fun k e => h.oo.lt k e
 have hnl : ∀ k, (Value.slice A now.length c).ownBlock = some k → w0.heap.size ≤ k ∧ k < w.heap.size := fun k e => h.on.lt k e
 have hkk : ∀ k, k < w4.heap.size → k ≠ po → k ≠ pn → w6.heap[k]? = w4.heap[k]? := fun k h1 h2 h3 => (hk2.block k (Nat.lt_of_lt_of_le h1 hk1.size) h3).trans (hk1.block k h1 h2)
 have hk4 : ∀ k, k < w.heap.size → (Value.slice A0 n0 c0).ownBlock ≠ some k → w4.heap[k]? = w.heap[k]? := fun k h1 h2 => (hg.block k (by omega) (fun e => h2 e.symm)).trans (Below.heap_alloc _ _ _ h1)
 have hvn : ∀ k, (Value.slice A' (n0 + 1) c').ownBlock = some k → k < w4.heap.size ∧ w0.heap.size ≤ k ∧ k ≠ po ∧ k ≠ pn ∧ (∀ a : Addr, a.block < w.heap.size → (Value.slice A0 n0 c0).ownBlock ≠ some a.block → k ≠ a.block) := fun k e => by
   refine ⟨(ho.lt k e).2, (ho.lt k e).1, ?_⟩
   rcases hv with q | q
   · rw [q] at e
     exact ⟨(h.bo k e).1, (h.bo k e).2, fun a _ ha e2 => ha (e2 ▸ e)⟩
   · rw [q] at e
     injection e with e
     rw [hsz] at e
     exact ⟨by omega, by omega, fun a ha _ => by omega⟩
 have hs4 := hg.size
 refine ⟨A', c', w4, hrun, ⟨cellOfF hg1 (j := 0) rfl, freeOfF hg1 0⟩, ⟨?_, ?_⟩, ?_⟩
 · rw [hw5]; exact cellOfF hs2 (j := 0) rfl
 · rw [hw5]; exact freeOfF hs2 0
 · rw [hw5, hw6]
   have hbl : Below w0.heap.size w0 w6 := by
     have b1 : Below w0.heap.size w0 w4 := h3.below.trans (Below.of_gb hg h3.below.size (fun k e => (hvl k e).1))
     have b2 := hk1.below b1 (Nat.le_refl _) (fun k e => e ▸ h.lo.1)
     exact hk2.below b2 (Nat.le_refl _) (fun k e => e ▸ h.lo.2.1)
   refine ⟨hbl, h.lo, (hk2.block po (Array.getElem?_eq_some_iff.1 hs1).1 h.lo.2.2).trans hs1, hs3, ho.of fun k e => hkk k (hvn k e).1 (hvn k e).2.2.1 (hvn k e).2.2.2.1, OwnG.nil _ _, fun k e => ⟨(hvn k e).2.2.1, (hvn k e).2.2.2.1⟩, fun k e => by simp [Value.ownBlock] at e, fun r hr2 => ?_⟩
   have hw64 : w4.heap.size ≤ w6.heap.size := Nat.le_trans hk1.size hk2.size
   rcases List.mem_append.1 hr2 with hr2 | hr2
   · obtain ⟨r1, r2, r3, r4⟩ := h.rows r hr2
     refine ⟨r1.of (by omega) fun a e hl => ?_, r2, r3, fun a e => ?_⟩
     · obtain ⟨q1, q2, q3, q4, q5⟩ := r4 a e
       rw [hkk _ (by omega) q2 q3, hk4 _ hl q4]
     · obtain ⟨q1, q2, q3, q4, q5⟩ := r4 a e
       exact ⟨by omega, q2, q3, fun e2 => (hvn _ e2).2.2.2.2 a q1 q4 rfl, by simp [Value.ownBlock]⟩
   · rw [List.mem_singleton.1 hr2]
     have q : ∀ a, A = some a → a.block < w.heap.size ∧ a.block ≠ po ∧ a.block ≠ pn ∧ (Value.slice A0 n0 c0).ownBlock ≠ some a.block := fun a e => by
       have e1 := hb a e
       obtain ⟨q2, q3, q4⟩ := h.bn _ e1
       exact ⟨(hnl _ e1).2, q2, q3, q4⟩
     refine ⟨hr.of (by omega) fun a e hl => ?_, hc, hne, fun a e => ?_⟩
     · obtain ⟨q1, q2, q3, q4⟩ := q a e
       rw [hkk _ (by omega) q2 q3, hk4 _ q1 q4]
     · obtain ⟨q1, q2, q3, q4⟩ := q a e
       exact ⟨by omega, q2, q3, fun e2 => (hvn _ e2).2.2.2.2 a q1 q4 rfl, by simp [Value.ownBlock]⟩
end
section
open Go.RowKit Go.Shelf
theorem bldInfo : (Tryz.prog.info? 115).map (·.size) = some 2 := by kernel_rfl
theorem bldLies : liesAt Tryz.prog Tryz.prog.depth 115 (2 / Tryz.prog.cellsOf 115) 0 115 1 = true := by kernel_rfl
theorem bytInfo : (Tryz.prog.info? 5).map (fun i => (i.zero, i.size, i.bytes)) = some (some (.int .u8 0), 1, 1) := by kernel_rfl
abbrev Bld (B b : Nat) (l : List UInt8) (w : World) : Prop := Lib.IsBuilder 115 5 B b (Lib.byteCells l) w
theorem copyCheck_any (B b : Nat) (bs : List Value) (w : World) (h : Lib.IsBuilder 115 5 B b bs w) :
   Calls Tryz.prog 110 #[.pointer (some ⟨b, 0, none⟩)] w fun e w' => e = .returned (.tuple #[]) ∧ Lib.BuilderAt 115 5 B b (.pointer (some ⟨b, 0, none⟩)) bs w' ∧ Below B w w' := by
 obtain ⟨j, hj, hjs⟩ := Option.map_eq_some_iff.1 bldInfo
 have u35 := run_underlying Tryz.underlying113
 rcases h with h | h
 · have h0 := h.cell0
   have hsh := h.shape
   have hfz := h.frozen0
   have HB := hide h
   clear h
   go_enter Tryz.func110, Tryz.ntmps110
   go_wp2
   rw [Lib.run_to_unsafe w ⟨b, 0, none⟩ Tryz.underlying113 Tryz.underlying213 hj (by rw [hjs]; decide) hsh (Nat.zero_lt_succ 1)]
   simp only [Result.andThen]
   rw [Oper.upon_value]
   go_wp2
   rw [run_callFunc_extern Tryz.func169 (by kernel_rfl) (by kernel_rfl) (by kernel_rfl) (e := Extern.AbiNoEscape.same) (by kernel_rfl)]
   rw [Lib.run_noEscape]
   simp only [Result.andThen]
   rw [Oper.upon_value]
   go_wp2
   rw [Lib.run_from_unsafe w ⟨b, 0, none⟩ Tryz.underlying213 Tryz.underlying113 hj hsh bldLies]
   simp only [Result.andThen]
   rw [Oper.upon_value]
   go_wp2
   go_end0
   exact ⟨rfl, HB.out.used _, (Below.refl B w).setCell (p := ⟨b, 0, none⟩) HB.out.1 _⟩
 · have h0 := h.cell0
   have HB := hide h
   clear h
   go_enter Tryz.func110, Tryz.ntmps110
   go_wp2
   rw [Lib.run_neq_ptr_same _ _ Tryz.underlying113 hj]
   go_wp2
   go_end0
   exact ⟨rfl, HB.out, Below.refl B w⟩
theorem neBld : 115 ≠ 5 := by decide
theorem bldCells (l : List UInt8) (s : ByteArray) : Lib.byteCells l ++ Lib.strCells s = Lib.byteCells (l ++ s.data.toList) := by
 unfold Lib.byteCells Lib.strCells
 first | rfl | (rw [List.map_append]; rfl) | simp
theorem writeStr_any (B b : Nat) (l : List UInt8) (s : ByteArray) (w : World) (h : Bld B b l w) (hlen : l.length + s.size ≤ 140737488355328) (hBw : B ≤ w.heap.size) :
   Calls Tryz.prog 58 #[.pointer (some ⟨b, 0, none⟩), .string s] w fun e w' => e = .returned (.tuple #[.int .i64 s.size, .nilIface]) ∧ Bld B b (l ++ s.data.toList) w' ∧ Below B w w' := by
 obtain ⟨i0, hi, hz0, hz1, hz2⟩ := info_parts bytInfo
 have HC := hide (copyCheck_any B b _ w h)
 have hbl : (Lib.byteCells l).length = l.length := by simp [Lib.byteCells]
 have HBL := hide hbl
 obtain ⟨bs, hbs⟩ : ∃ bs, Lib.byteCells l = bs := ⟨_, rfl⟩
 have HBS := hide hbs
 unfold Bld at h
 rw [hbs] at HC h
 rw [hbs] at hbl
 have HBL2 := hide hbl
 clear h hbs hbl
 go_enter Tryz.func58, Tryz.ntmps58
 go_wp2_with fail
 refine HC.out.mono ?_
 rintro e w1 ⟨rfl, h1, hb1⟩
 obtain ⟨hB, v, hbk, hown, hne⟩ := h1
 have c0 : w1.cell? ⟨b, 0, none⟩ = some (.pointer (some ⟨b, 0, none⟩)) := by rw [Lib.cell_of_heap hbk]; rfl
 have c1 : w1.cell? ⟨b, 1, none⟩ = some v := by rw [Lib.cell_of_heap hbk]; rfl
 go_wp2_with (at_builtin; refine Lib.wpList_append_own_string _ rfl _ _ 29 9 rfl B 5 i0 Tryz.underlying29 Tryz.underlying9 hi hz0 hz1 hz2 _ _ _ rfl hown s rfl ?c3 ?c4 ?c5 ?_)
 case c3 => unfold maxLen; have := HBL2.out; omega
 case c4 => have := HBL2.out; omega
 case c5 => have := hb1.size; omega
 intro v' w2 hown' hgrow _
 have hlt : b < w1.heap.size := (Array.getElem?_eq_some_iff.1 hbk).1
 have hb2 : w2.heap[b]? = some (.cells #[.pointer (some ⟨b, 0, none⟩), v] 115 (0, 0)) := by
   rw [hgrow.block b hlt (fun e => hne e.symm)]
   exact hbk
 have d0 : w2.cell? ⟨b, 0, none⟩ = some (.pointer (some ⟨b, 0, none⟩)) := by rw [Lib.cell_of_heap hb2]; rfl
 have d1 : w2.cell? ⟨b, 1, none⟩ = some v := by rw [Lib.cell_of_heap hb2]; rfl
 have f1 : w2.frozen? ⟨b, 1, none⟩ = false := Lib.frozen_of_heap hb2 1
 obtain ⟨ao, n', cap, rfl⟩ : ∃ ao n' cap, v' = .slice ao n' cap := by
   rcases hown'.2 with ⟨hv, _⟩ | ⟨g, cap, cur, hv, _⟩
   · exact ⟨_, _, _, hv⟩
   · exact ⟨_, _, _, hv⟩
 go_wp2
 go_ret2
 refine ⟨rfl, .inr ?_, ?_⟩
 · rw [← bldCells, HBS.out]
   exact Lib.BuilderAt.put hB hb2 (bs' := bs ++ Lib.strCells s) (by rw [List.length_append, Lib.strCells_length]; exact hown') neBld
 · exact (hb1.grown hgrow (by have := hb1.size; omega) (fun k hk => (hown.lt k hk).1)).setCell (p := ⟨b, 1, none⟩) hB _
theorem bldStr_any (B b : Nat) (l : List UInt8) (w : World) (h : Bld B b l w) (hBw : B ≤ w.heap.size) :
   Calls Tryz.prog 59 #[.pointer (some ⟨b, 0, none⟩)] w fun e w' => e = .returned (.string ⟨l.toArray⟩) ∧ Below B w w' := Tryz.Builder_String_any B b l w h hBw
theorem Bld.fresh (w : World) : Bld w.heap.size w.heap.size [] (w.alloc (.cells #[.pointer none, .slice none 0 0] 115)) :=
 .inl ⟨Nat.le_refl _, .slice none 0 0, heapNew w _, World.ownsRow_nil _ _ _ _, by simp [Value.ownBlock]⟩
end
section
open Go.RowKit Go.Deep
theorem Bld.step {B b : Nat} {l : List UInt8} {w w' : World} (h : Bld B b l w) (hb : Below w.heap.size w w') : Bld B b l w' := by
 have key : ∀ p, Lib.BuilderAt 115 5 B b p (Lib.byteCells l) w → Lib.BuilderAt 115 5 B b p (Lib.byteCells l) w' := by
   rintro p ⟨h1, v, h2, h3, h4⟩
   exact ⟨h1, v, (hb.block b (Array.getElem?_eq_some_iff.1 h2).1).trans h2, ownsRow_of h3 fun k hk => hb.block k (h3.lt k hk).2, h4⟩
 exact h.imp (key _) (key _)
def textS (L : List Pt) : List UInt8 := L.flatMap fun p => p.text.data.toList
theorem textS_succ {L : List Pt} {k : Nat} {x : Pt} (h : L[k]? = some x) : textS (L.take (k + 1)) = textS (L.take k) ++ x.text.data.toList := by
 unfold textS
 rw [List.take_add_one, h, List.flatMap_append]
 simp
theorem textS_le (L : List Pt) (k : Nat) : (textS (L.take k)).length ≤ (textS L).length := by
 have h : textS L = textS (L.take k) ++ textS (L.drop k) := by
   unfold textS
   rw [← List.flatMap_append, List.take_append_drop]
 rw [h, List.length_append]; omega
theorem text_any (A : Option Addr) (c : Nat) (L : List Pt) (w : World) (hA : RG encPt 6 w A L) (hl : L.length ≤ 1000000) (hz : (textS L).length ≤ 1000000) :
   Calls Tryz.prog 25 #[.slice A L.length c] w fun e w' => e = .returned (.string (bsF (textS L))) ∧ Below w.heap.size w w' := by
 have HA := hide hA
 have HZ := hide hz
 obtain ⟨n, hn⟩ : ∃ n, L.length = n := ⟨_, rfl⟩
 have HN := hide hn
 rw [hn] at hl ⊢
 have hni : (n : Int) ≤ 1000000 := by omega
 have HB0 := hide (Bld.fresh w)
 clear hA hz hn
 go_enter Tryz.func25, Tryz.ntmps25
 go_wp2
 go_loopw [5, 8] (fun _ v8 wr => ∃ k : Nat, v8 = .int .i64 k ∧ k ≤ n ∧ Hid (Bld w.heap.size w.heap.size (textS (L.take k)) wr) ∧ Hid (Below w.heap.size w wr)) (fun _ v8 _ => n - (intOf v8).toNat)
 case atStart => exact ⟨0, rfl, by omega, HB0, hide ((Below.refl _ _).alloc (Nat.le_refl _) _)⟩
 case round =>
   obtain ⟨wo, hwo⟩ : ∃ Z, Z = wr := ⟨_, rfl⟩
   subst hwo
   obtain ⟨k, rfl, hk, HBL, HBE⟩ := hrel
   by_cases hlt : k < n
   case neg =>
     obtain rfl : k = n := by omega
     have htk : L.take k = L := List.take_of_length_le (by have := HN.out; omega)
     have hs := HBL.out
     rw [htk] at hs
     have HS := hide (bldStr_any w.heap.size w.heap.size _ wo hs HBE.out.size)
     clear hs htk
     go_wp2_with fail
     refine HS.out.mono ?_
     rintro e wf ⟨rfl, hb⟩
     have HF := hide (HBE.out.trans hb)
     clear hb
     go_wp2
     go_ret
     exact ⟨rfl, HF.out⟩
   obtain ⟨x, hx⟩ : ∃ x, L[k]? = some x := ⟨L[k]'(by have := HN.out; omega), gE _⟩
   obtain ⟨g, o, rfl, hg, hc⟩ := HA.out.below HBE.out k x hx
   have hc0 : wo.cell? ⟨g, o + k * 6, none⟩ = some (.int .i64 x.kind) := by have := hc 0 _ rfl; simpa using this
   have hc1 : wo.cell? ⟨g, o + k * 6 + 1, none⟩ = some (.string x.text) := hc 1 _ rfl
   have hc2 : wo.cell? ⟨g, o + k * 6 + 2, none⟩ = some (.string x.name) := hc 2 _ rfl
   have hc3 : wo.cell? ⟨g, o + k * 6 + 3, none⟩ = some (.string x.op) := hc 3 _ rfl
   have hc4 : wo.cell? ⟨g, o + k * 6 + 4, none⟩ = some (.slice x.wA x.wn x.wc) := hc 4 _ rfl
   have hc5 : wo.cell? ⟨g, o + k * 6 + 5, none⟩ = some (.bool x.q) := hc 5 _ rfl
   have b1 : (k : Int) < (n : Int) := by omega
   have HTS := hide (textS_succ hx)
   have htl := textS_le L (k + 1)
   rw [HTS.out, List.length_append] at htl
   have hbo := (Below.refl wo.heap.size wo).alloc (Nat.le_refl _) (.cells #[.int .i64 x.kind, .string x.text, .string x.name, .string x.op, .slice x.wA x.wn x.wc, .bool x.q] tyP)
   have HWR := hide (writeStr_any w.heap.size w.heap.size (textS (L.take k)) x.text _ (HBL.out.step hbo) (by rw [Lib.size_eq]; have := HZ.out; omega) (by have := HBE.out.size; have := hbo.size; omega))
   have HB1 := hide (HBE.out.trans (hbo.mono HBE.out.size))
   have HBX := hide (heapNew wo (.cells #[.int .i64 x.kind, .string x.text, .string x.name, .string x.op, .slice x.wA x.wn x.wc, .bool x.q] tyP))
   clear hc hx htl hbo
   obtain ⟨kd, tx, nm, op, wA, wn, wk, q⟩ := x
   dsimp only at hc0 hc1 hc2 hc3 hc4 hc5
   have e1 : (wo.alloc (.cells #[.int .i64 kd, .string tx, .string nm, .string op, .slice wA wn wk, .bool q] tyP)).cell? ⟨wo.heap.size, 1, none⟩ = some (.string tx) := cellOfF HBX.out rfl
   go_wp2_with fail
   refine HWR.out.mono ?_
   rintro e wf ⟨rfl, hbl, hbe⟩
   have HBL2 := hide hbl
   have HBE2 := hide (HB1.out.trans hbe)
   clear hbl hbe e1
   go_wp2
   exact ⟨⟨k + 1, by go_num, by omega, hide (by rw [HTS.out]; exact HBL2.out), HBE2⟩, by simp [intOf]; omega⟩
end
end Go.Proofs.YtmcophlmcloooaaGreatDoor
namespace Go.Proofs.YtmcophlmcloooaaGreatDoor.Qt
open Go.RowKit Go.Deep
attribute [local go_sem] bt_eq
theorem own_slice {w : World} {base : Nat} {v : Value} {l : List Nat} (h : OwnB w base v l) : ∃ A c, v = .slice A l.length c := by
 rcases h.2 with ⟨rfl, hn⟩ | ⟨g, cap, cur, rfl, _⟩
 · exact ⟨none, 0, by rw [hn]⟩
 · exact ⟨_, cap, rfl⟩
theorem own_sliceN {w : World} {base n : Nat} {v : Value} {l : List Nat} (h : OwnB w base v l) (hn : l.length = n) : ∃ A c, v = .slice A n c := by
 subst hn; exact own_slice h
def sb (l : List Nat) : ByteArray := strOfNums (l.map fun n : Nat => (n : Int))
theorem sb_size (l : List Nat) : (sb l).size = l.length := by simp [sb, strOfNums_size]
theorem conv_own {W : World} {base : Nat} {v : Value} {l : List Nat} (h : OwnB W base v l) : (convert 29 9 v).run Tryz.prog W = .ok (.string (sb l)) W := by
 rcases h.2 with ⟨rfl, hn⟩ | ⟨g, cap, cur, rfl, _, hh, _⟩
 · have hl : l = [] := List.eq_nil_of_length_eq_zero hn
   subst hl
   exact run_convert_bytes_nil W 29 5 Tryz.underlying29 Tryz.underlying5 0 0 _ Tryz.underlying9
 · refine run_convert_bytes_arg W 29 5 Tryz.underlying29 Tryz.underlying5 g 0 l.length cap (l.map fun n : Nat => (n : Int)) (by simp) (fun i hi => ?_) _ Tryz.underlying9
   rw [Nat.zero_add, World.ownsRow.cellAt h i (by omega)]
   simp [nbytes, List.getD_eq_getElem?_getD, hi]
theorem below_gb {B : Nat} {wr w' : World} {o : Obj} {r : Option Nat} (hg : (wr.alloc o).grownBy w' r) (hr : ∀ k, r = some k → B ≤ k) (hB : B ≤ wr.heap.size) : Below B wr w' :=
 ((Below.refl B wr).alloc hB o).grown hg (by simp; omega) hr
def isSp (c : Nat) : Bool := c == 42 || c == 63 || c == 91 || c == 92
def q1 (c : Nat) : List Nat := if isSp c then [92, c] else [c]
def qb (t : Nat → Nat) (k : Nat) : List Nat := (List.range k).flatMap fun j => q1 (t j)
theorem qb_succ (t : Nat → Nat) (k : Nat) : qb t (k + 1) = qb t k ++ q1 (t k) := by simp [qb, List.range_succ, List.flatMap_append]
theorem qb_len (t : Nat → Nat) (k : Nat) : (qb t k).length ≤ 2 * k := by
 induction k with
 | zero => simp [qb]
 | succ k ih =>
   rw [qb_succ, List.length_append]
   have : (q1 (t k)).length ≤ 2 := by unfold q1; split <;> simp
   omega
theorem quote_any (s : ByteArray) (w : World) (hs : s.size ≤ 1000) :
   Calls Tryz.prog 97 #[.string s] w fun e w' => e = .returned (.string (sb (qb (bt s) s.size))) ∧ Below w.heap.size w w' := by
 have hsb := run_bytes_of_string (P := Tryz.prog) w 9 29 5 s Tryz.underlying9 Tryz.underlying29 Tryz.underlying5
 generalize hC : grownCap w s.size 0 5 = C at hsb
 have hcl : ∀ j, j < s.size → ((w.alloc (.cells (bytesRow s C) 5 ((bytesRow s C).size, (bytesRow s C).size + 1))).drew).cell? ⟨w.heap.size, j, none⟩ = some (.int .u8 (bt s j)) := fun j hj => by
   show (w.alloc (.cells (bytesRow s C) 5 ((bytesRow s C).size, (bytesRow s C).size + 1))).cell? ⟨w.heap.size, j, none⟩ = _
   rw [World.cell?_alloc_mark, bytesRow_at s C j hj, ← bt_eq s j hj]
   rfl
 have HC0 := hide hcl
 have HC1 := hide hC
 clear hcl hC
 go_enter Tryz.func97, Tryz.ntmps97
 go_wp2_with fail
 clear hsb
 have hsz0 : w.heap.size < ((w.alloc (.cells (bytesRow s C) 5 ((bytesRow s C).size, (bytesRow s C).size + 1))).drew).heap.size := by simp
 have hb0 : Below w.heap.size w ((w.alloc (.cells (bytesRow s C) 5 ((bytesRow s C).size, (bytesRow s C).size + 1))).drew) := ((Below.refl _ _).alloc (Nat.le_refl _) _).drew
 generalize (w.alloc (.cells (bytesRow s C) 5 ((bytesRow s C).size, (bytesRow s C).size + 1))).drew = w1 at HC0 hsz0 hb0 ⊢
 have HC := HC0
 have hsz := hsz0
 have HB0 := hide hb0
 clear HC0 hsz0 hb0 HC1
 go_loopw [3, 9] (fun v3 v9 wr => ∃ k : Nat, v9 = .int .i64 k ∧ k ≤ s.size ∧ OwnB wr w1.heap.size v3 (qb (bt s) k) ∧ Below w1.heap.size w1 wr) (fun _ v9 _ => s.size - (intOf v9).toNat)
 case atStart => exact ⟨0, rfl, by omega, World.ownsRow_nil _ _ _ _, Below.refl _ _⟩
 case round =>
   obtain ⟨k, rfl, hk, ho, hb⟩ := hrel
   obtain ⟨Ao, co, rfl⟩ := own_slice ho
   have hql := qb_len (bt s) k
   have HO := hide ho
   have HW := hide hb
   have hql2 : (qb (bt s) k).length ≤ 2000 := by omega
   clear ho hb hql
   by_cases hlt : k < s.size
   · have hor : isSp (bt s k) = (bt s k == 42 || bt s k == 63 || bt s k == 91 || bt s k == 92) := rfl
     have HOR := hide hor
     clear hor
     have hcell := (HW.out.cell (p := ⟨w.heap.size, k, none⟩) hsz).trans (HC.out k hlt)
     go_upto_region 5 with (fail)
     go_cut [26] from 13 to 26 (fun sc wx => sc = .bool (isSp (bt s k)) ∧ wr = wx)
     case first =>
       by_cases e0 : bt s k = 42
       · have q0 : (((bt s k : Nat) : Int) == 42) = true := by simp only [beq_iff_eq]; omega
         have E0 := hide (show (bt s k == 42) = true by simp [e0])
         clear e0
         go_wp2
         go_meet
         refine ⟨?_, rfl⟩
         rw [HOR.out]
         simp [E0.out]
       have q0 : (((bt s k : Nat) : Int) == 42) = false := by simp only [beq_eq_false_iff_ne]; omega
       have E0 := hide (show (bt s k == 42) = false by simp [e0])
       by_cases e1 : bt s k = 63
       · have q1 : (((bt s k : Nat) : Int) == 63) = true := by simp only [beq_iff_eq]; omega
         have E1 := hide (show (bt s k == 63) = true by simp [e1])
         clear e0 e1
         go_wp2
         go_meet
         refine ⟨?_, rfl⟩
         rw [HOR.out]
         simp [E1.out]
       have q1 : (((bt s k : Nat) : Int) == 63) = false := by simp only [beq_eq_false_iff_ne]; omega
       have E1 := hide (show (bt s k == 63) = false by simp [e1])
       by_cases e2 : bt s k = 91
       · have q2 : (((bt s k : Nat) : Int) == 91) = true := by simp only [beq_iff_eq]; omega
         have E2 := hide (show (bt s k == 91) = true by simp [e2])
         clear e0 e1 e2
         go_wp2
         go_meet
         refine ⟨?_, rfl⟩
         rw [HOR.out]
         simp [E2.out]
       have q2 : (((bt s k : Nat) : Int) == 91) = false := by simp only [beq_eq_false_iff_ne]; omega
       have E2 := hide (show (bt s k == 91) = false by simp [e2])
       by_cases e3 : bt s k = 92
       · have q3 : (((bt s k : Nat) : Int) == 92) = true := by simp only [beq_iff_eq]; omega
         have E3 := hide (show (bt s k == 92) = true by simp [e3])
         clear e0 e1 e2 e3
         go_wp2
         go_meet
         refine ⟨?_, rfl⟩
         rw [HOR.out]
         simp [E3.out]
       have q3 : (((bt s k : Nat) : Int) == 92) = false := by simp only [beq_eq_false_iff_ne]; omega
       have E3 := hide (show (bt s k == 92) = false by simp [e3])
       clear e0 e1 e2 e3
       go_wp2
       go_meet
       refine ⟨?_, rfl⟩
       rw [HOR.out]
       simp [E0.out, E1.out, E2.out, E3.out]
     case rest =>
       obtain ⟨rfl, hw⟩ := hcut
       subst hw
       cases hsp : isSp (bt s k) with
       | true =>
         have HQ := hide (show qb (bt s) (k + 1) = (qb (bt s) k ++ [92]) ++ [bt s k] by rw [qb_succ, q1, if_pos hsp]; simp)
         clear hsp
         go_wp2_with (first | (at_builtin; refine wpList_appB wr ?_ (.tmp 27) (.tmp 28) ?_ w1.heap.size (.slice Ao (qb (bt s) k).length co) (qb (bt s) k) ?_ HO.out 92 ?_ ?_ ?_ ?_; exact rfl; exact rfl; exact rfl; exact rfl; (first | omega | (simp; omega)); exact HW.out.size; intro v1 x1 ho1 hg1 hat1; obtain ⟨A1, c1, rfl⟩ := own_sliceN (n := (qb (bt s) k).length + 1) ho1 (by simp); have HW1 := hide (HW.out.trans (below_gb hg1 (fun k hk => (HO.out.lt k hk).1) HW.out.size)); have HO1 := hide ho1; clear ho1 hg1 hat1) | (at_builtin; refine wpList_appB x1 ?_ (.tmp 30) (.tmp 32) ?_ w1.heap.size (.slice A1 ((qb (bt s) k).length + 1) c1) (qb (bt s) k ++ [92]) ?_ HO1.out (bt s k) ?_ ?_ ?_ ?_; exact rfl; exact rfl; exact rfl; exact rfl; (first | omega | (simp; omega)); exact HW1.out.size; intro v2 x2 ho2 hg2 hat2; obtain ⟨A2, c2, rfl⟩ := own_sliceN (n := (qb (bt s) k).length + 1 + 1) ho2 (by simp); have HW2 := hide (HW1.out.trans (below_gb hg2 (fun k hk => (HO1.out.lt k hk).1) HW1.out.size)); have HO2 := hide ho2; clear ho2 hg2 hat2))
         go_roundw
         case rel => exact ⟨k + 1, by go_num, by omega, by rw [HQ.out]; exact HO2.out, HW2.out⟩
         case measure => simp [intOf]; omega
       | false =>
         have HQ := hide (show qb (bt s) (k + 1) = qb (bt s) k ++ [bt s k] by rw [qb_succ, q1, if_neg (by simp [hsp])])
         clear hsp
         go_wp2_with (at_builtin; refine wpList_appB wr ?_ (.tmp 30) (.tmp 32) ?_ w1.heap.size (.slice Ao (qb (bt s) k).length co) (qb (bt s) k) ?_ HO.out (bt s k) ?_ ?_ ?_ ?_; exact rfl; exact rfl; exact rfl; exact rfl; (first | omega | (simp; omega)); exact HW.out.size; intro v2 x2 ho2 hg2 hat2; obtain ⟨A2, c2, rfl⟩ := own_sliceN (n := (qb (bt s) k).length + 1) ho2 (by simp); have HW2 := hide (HW.out.trans (below_gb hg2 (fun k hk => (HO.out.lt k hk).1) HW.out.size)); have HO2 := hide ho2; clear ho2 hg2 hat2)
         go_roundw
         case rel => exact ⟨k + 1, by go_num, by omega, by rw [HQ.out]; exact HO2.out, HW2.out⟩
         case measure => simp [intOf]; omega
   · obtain rfl : k = s.size := by omega
     have hcv := conv_own HO.out
     go_wp2
     go_ret
     exact ⟨rfl, below_up HB0.out HW.out HB0.out.size⟩
end Go.Proofs.YtmcophlmcloooaaGreatDoor.Qt
namespace Go.Proofs.YtmcophlmcloooaaGreatDoor
section
open Go.RowKit Go.Deep
def quoS (s : ByteArray) : ByteArray := Qt.sb (Qt.qb (bt s) s.size)
theorem quoS_size (s : ByteArray) : (quoS s).size ≤ 2 * s.size := by
 unfold quoS
 rw [Qt.sb_size]
 exact Qt.qb_len _ _
def patP (p : Pt) : ByteArray := if p.kind = 1 then p.text else quoS p.text
def patS (L : List Pt) : List UInt8 := L.flatMap fun p => (patP p).data.toList
theorem patS_succ {L : List Pt} {k : Nat} {x : Pt} (h : L[k]? = some x) : patS (L.take (k + 1)) = patS (L.take k) ++ (patP x).data.toList := by
 unfold patS
 rw [List.take_add_one, h, List.flatMap_append]
 simp
theorem patP_size (p : Pt) : (patP p).size ≤ 2 * p.text.size := by
 unfold patP
 split
 · omega
 · exact quoS_size _
theorem patS_le (L : List Pt) (hz : ∀ p ∈ L, p.text.size ≤ 1000) : ∀ k, (patS (L.take k)).length ≤ k * 2000
 | 0 => by simp [patS]
 | k + 1 => by
   have ih := patS_le L hz k
   cases hx : L[k]? with
   | none =>
     have : L.take (k + 1) = L.take k := by rw [List.take_add_one, hx]; simp
     rw [this, Nat.add_mul]; exact Nat.le_trans ih (Nat.le_add_right _ _)
   | some x =>
     have h1 := hz x (List.mem_of_getElem? hx)
     have h2 := patP_size x
     rw [patS_succ hx, List.length_append, ← Lib.size_eq, Nat.add_mul]
     exact Nat.add_le_add ih (Nat.le_trans h2 (by omega))
theorem pat_any (A : Option Addr) (c : Nat) (L : List Pt) (w : World) (hA : RG encPt 6 w A L) (hl : L.length ≤ 1000) (hz : ∀ p ∈ L, p.text.size ≤ 1000) :
   Calls Tryz.prog 45 #[.slice A L.length c] w fun e w' => e = .returned (.string (bsF (patS L))) ∧ Below w.heap.size w w' := by
 have HA := hide hA
 have HZ := hide hz
 obtain ⟨n, hn⟩ : ∃ n, L.length = n := ⟨_, rfl⟩
 have HN := hide hn
 rw [hn] at hl ⊢
 have hni : (n : Int) ≤ 1000 := by omega
 have HB0 := hide (Bld.fresh w)
 clear hA hz hn
 go_enter Tryz.func45, Tryz.ntmps45
 go_wp2
 go_loopw [5, 8] (fun _ v8 wr => ∃ k : Nat, v8 = .int .i64 k ∧ k ≤ n ∧ Hid (Bld w.heap.size w.heap.size (patS (L.take k)) wr) ∧ Hid (Below w.heap.size w wr)) (fun _ v8 _ => n - (intOf v8).toNat)
 case atStart => exact ⟨0, rfl, by omega, HB0, hide ((Below.refl _ _).alloc (Nat.le_refl _) _)⟩
 case round =>
   obtain ⟨wo, hwo⟩ : ∃ Z, Z = wr := ⟨_, rfl⟩
   subst hwo
   obtain ⟨k, rfl, hk, HBL, HBE⟩ := hrel
   by_cases hlt : k < n
   case neg =>
     obtain rfl : k = n := by omega
     have htk : L.take k = L := List.take_of_length_le (by have := HN.out; omega)
     have hs := HBL.out
     rw [htk] at hs
     have HS := hide (bldStr_any w.heap.size w.heap.size _ wo hs HBE.out.size)
     clear hs htk
     go_wp2_with fail
     refine HS.out.mono ?_
     rintro e wf ⟨rfl, hb⟩
     have HF := hide (HBE.out.trans hb)
     clear hb
     go_wp2
     go_ret
     exact ⟨rfl, HF.out⟩
   obtain ⟨x, hx⟩ : ∃ x, L[k]? = some x := ⟨L[k]'(by have := HN.out; omega), gE _⟩
   obtain ⟨g, o, rfl, hg, hc⟩ := HA.out.below HBE.out k x hx
   have hc0 : wo.cell? ⟨g, o + k * 6, none⟩ = some (.int .i64 x.kind) := by have := hc 0 _ rfl; simpa using this
   have hc1 : wo.cell? ⟨g, o + k * 6 + 1, none⟩ = some (.string x.text) := hc 1 _ rfl
   have hc2 : wo.cell? ⟨g, o + k * 6 + 2, none⟩ = some (.string x.name) := hc 2 _ rfl
   have hc3 : wo.cell? ⟨g, o + k * 6 + 3, none⟩ = some (.string x.op) := hc 3 _ rfl
   have hc4 : wo.cell? ⟨g, o + k * 6 + 4, none⟩ = some (.slice x.wA x.wn x.wc) := hc 4 _ rfl
   have hc5 : wo.cell? ⟨g, o + k * 6 + 5, none⟩ = some (.bool x.q) := hc 5 _ rfl
   have b1 : (k : Int) < (n : Int) := by omega
   have HTS := hide (patS_succ hx)
   have hpl := patS_le L HZ.out k
   have hxz := HZ.out x (List.mem_of_getElem? hx)
   have hqz := quoS_size x.text
   have hbo := (Below.refl wo.heap.size wo).alloc (Nat.le_refl _) (.cells #[.int .i64 x.kind, .string x.text, .string x.name, .string x.op, .slice x.wA x.wn x.wc, .bool x.q] tyP)
   have HBS := hide (HBL.out.step hbo)
   have HB1 := hide (HBE.out.trans (hbo.mono HBE.out.size))
   have HBX := hide (heapNew wo (.cells #[.int .i64 x.kind, .string x.text, .string x.name, .string x.op, .slice x.wA x.wn x.wc, .bool x.q] tyP))
   have hpl2 : (patS (L.take k)).length ≤ 2000000 := by omega
   clear hc hx hbo hpl
   obtain ⟨kd, tx, nm, op, wA, wn, wk, q⟩ := x
   dsimp only at hc0 hc1 hc2 hc3 hc4 hc5 hxz hqz
   have e0 : (wo.alloc (.cells #[.int .i64 kd, .string tx, .string nm, .string op, .slice wA wn wk, .bool q] tyP)).cell? ⟨wo.heap.size, 0, none⟩ = some (.int .i64 kd) := cellOfF HBX.out rfl
   have e1 : (wo.alloc (.cells #[.int .i64 kd, .string tx, .string nm, .string op, .slice wA wn wk, .bool q] tyP)).cell? ⟨wo.heap.size, 1, none⟩ = some (.string tx) := cellOfF HBX.out rfl
   by_cases hkd : kd = 1
   · have HPP := hide (show patP ⟨kd, tx, nm, op, wA, wn, wk, q⟩ = tx from if_pos hkd)
     subst hkd
     have HWR := hide (writeStr_any w.heap.size w.heap.size (patS (L.take k)) tx _ HBS.out (by omega) HB1.out.size)
     clear hqz
     go_wp2_with fail
     refine HWR.out.mono ?_
     rintro e wf ⟨rfl, hbl, hbe⟩
     have HBL2 := hide hbl
     have HBE2 := hide (HB1.out.trans hbe)
     clear hbl hbe e0 e1
     go_wp2
     exact ⟨⟨k + 1, by go_num, by omega, hide (by rw [HTS.out, HPP.out]; exact HBL2.out), HBE2⟩, by simp [intOf]; omega⟩
   · have HPP := hide (show patP ⟨kd, tx, nm, op, wA, wn, wk, q⟩ = quoS tx from if_neg hkd)
     have kn : ¬ kd = 1 := hkd
     have kf : (kd == 1) = false := by simpa using hkd
     have HQU := hide (Qt.quote_any tx (wo.alloc (.cells #[.int .i64 kd, .string tx, .string nm, .string op, .slice wA wn wk, .bool q] tyP)) hxz)
     clear hkd
     go_wp2_with fail
     refine HQU.out.mono ?_
     rintro e wq ⟨rfl, hbq⟩
     have HWR := hide (writeStr_any w.heap.size w.heap.size (patS (L.take k)) (quoS tx) wq (HBS.out.step hbq) (by omega) (by have := HB1.out.size; have := hbq.size; omega))
     have HB2 := hide (HB1.out.trans (hbq.mono HB1.out.size))
     clear hbq hqz e0 e1 hpl2
     go_wp2_with fail
     refine HWR.out.mono ?_
     rintro e wf ⟨rfl, hbl, hbe⟩
     have HBL2 := hide hbl
     have HBE2 := hide (HB2.out.trans hbe)
     clear hbl hbe
     go_wp2
     exact ⟨⟨k + 1, by go_num, by omega, hide (by rw [HTS.out, HPP.out]; exact HBL2.out), HBE2⟩, by simp [intOf]; omega⟩
end
end Go.Proofs.YtmcophlmcloooaaGreatDoor
namespace Qm.Glob
end Qm.Glob
namespace Go.Proofs.YtmcophlmcloooaaGreatDoor
section
open Go.RowKit Go.Deep Qm.Glob
attribute [local go_sem] bt_eq
theorem bt_nums (xs : List Int) (i : Nat) : bt (strOfNums xs) i = (xs.getD i 0).toNat % 256 := by
 simp only [bt, strOfNums, Array.getD_eq_getD_getElem?, List.getElem?_toArray, List.getElem?_map, List.getD_eq_getElem?_getD]
 cases h : xs[i]? with
 | none => rfl
 | some x => simp
theorem conv3 (W : World) (x y z : Int) (n : Nat) (h : n = W.heap.size) : (convert 29 9 (.slice (some ⟨n, 0, none⟩) 3 3)).run Tryz.prog (W.alloc (.cells #[.int .u8 x, .int .u8 y, .int .u8 z] 5)) = .ok (.string (strOfNums [x, y, z])) (W.alloc (.cells #[.int .u8 x, .int .u8 y, .int .u8 z] 5)) := by
 subst h
 exact run_convert_bytes_arg _ 29 5 Tryz.underlying29 Tryz.underlying5 W.heap.size 0 3 3 [x, y, z] rfl (fun i hi => by
   rw [World.cell?_alloc_at _ _ _ _ rfl]
   have h : i = 0 ∨ i = 1 ∨ i = 2 := by omega
   rcases h with rfl | rfl | rfl <;> rfl) _ Tryz.underlying9
theorem conv2 (W : World) (x y : Int) (n : Nat) (h : n = W.heap.size) : (convert 29 9 (.slice (some ⟨n, 0, none⟩) 2 2)).run Tryz.prog (W.alloc (.cells #[.int .u8 x, .int .u8 y] 5)) = .ok (.string (strOfNums [x, y])) (W.alloc (.cells #[.int .u8 x, .int .u8 y] 5)) := by
 subst h
 exact run_convert_bytes_arg _ 29 5 Tryz.underlying29 Tryz.underlying5 W.heap.size 0 2 2 [x, y] rfl (fun i hi => by
   rw [World.cell?_alloc_at _ _ _ _ rfl]
   have h : i = 0 ∨ i = 1 := by omega
   rcases h with rfl | rfl <;> rfl) _ Tryz.underlying9
theorem conv1 (W : World) (x : Int) (n : Nat) (h : n = W.heap.size) : (convert 29 9 (.slice (some ⟨n, 0, none⟩) 1 1)).run Tryz.prog (W.alloc (.cells #[.int .u8 x] 5)) = .ok (.string (strOfNums [x])) (W.alloc (.cells #[.int .u8 x] 5)) := by
 subst h
 exact run_convert_bytes_arg _ 29 5 Tryz.underlying29 Tryz.underlying5 W.heap.size 0 1 1 [x] rfl (fun i hi => by
   rw [World.cell?_alloc_at _ _ _ _ rfl]
   obtain rfl : i = 0 := by omega
   rfl) _ Tryz.underlying9
attribute [local go_sem] conv1 conv2 conv3 strOfNums_size
end
end Go.Proofs.YtmcophlmcloooaaGreatDoor
namespace Qm.Glob
def sh (t : Nat → Nat) (d : Nat) : Nat → Nat := fun j => t (j + d)
theorem gOne_sh (t : Nat → Nat) (n d i : Nat) (h : d ≤ n) : gOne t n (i + d) = ((gOne (sh t d) (n - d) i).1, (gOne (sh t d) (n - d) i).2.1 + d, (gOne (sh t d) (n - d) i).2.2) := by
 have e1 : (i + d < n) = (i < n - d) := by apply propext; omega
 have e2 : (i + d + 1 < n) = (i + 1 < n - d) := by apply propext; omega
 simp only [gOne, sh, e1, e2, show i + 1 + d = i + d + 1 from by omega]
 (repeat' split) <;> simp <;> omega
theorem gBr_sh (t : Nat → Nat) (n d first : Nat) (nt : Bool) (h : d ≤ n) : ∀ (f i : Nat) (S : Nat → Bool), gBr t n (first + d) nt f (i + d) S = (gBr (sh t d) (n - d) first nt f i S).map fun x => (x.1, x.2 + d)
 | 0, _, _ => rfl
 | f + 1, i, S => by
   rw [gBr, gBr, gOne_sh t n d i h]
   by_cases h1 : i < n - d
   · rw [if_pos h1, if_pos (by omega)]
     have e : (t (i + d) = 93 ∧ first + d < i + d) = (sh t d i = 93 ∧ first < i) := by
       apply propext; simp only [sh]; omega
     simp only [e]
     by_cases h2 : sh t d i = 93 ∧ first < i
     · rw [if_pos h2, if_pos h2]
       simp [Nat.add_right_comm]
     · rw [if_neg h2, if_neg h2]
       generalize hk : (gOne (sh t d) (n - d) i).2.1 = k
       by_cases h3 : (gOne (sh t d) (n - d) i).2.2 = true
       · rw [if_pos h3, if_pos h3]
         have e3 : (k + d + 1 < n ∧ t (k + d) = 45 ∧ t (k + d + 1) ≠ 93) = (k + 1 < n - d ∧ sh t d k = 45 ∧ sh t d (k + 1) ≠ 93) := by
           apply propext; simp only [sh, show k + 1 + d = k + d + 1 from by omega]; omega
         simp only [e3]
         by_cases h4 : k + 1 < n - d ∧ sh t d k = 45 ∧ sh t d (k + 1) ≠ 93
         · rw [if_pos h4, if_pos h4, show k + d + 1 = (k + 1) + d from by omega, gOne_sh t n d (k + 1) h]
           simp only
           split
           · exact gBr_sh t n d first nt h f _ _
           · rfl
         · rw [if_neg h4, if_neg h4]
           exact gBr_sh t n d first nt h f _ _
       · rw [if_neg h3, if_neg h3]; rfl
   · rw [if_neg h1, if_neg (by omega)]; rfl
theorem brNt_sh (t : Nat → Nat) (n d i : Nat) : brNt t n (i + d) = brNt (sh t d) (n - d) i := by
 have e1 : decide (i + d < n) = decide (i < n - d) := by apply decide_eq_decide.2; omega
 simp [brNt, sh, e1]
theorem brAt_sh (t : Nat → Nat) (n d i : Nat) : brAt t n (i + d) = brAt (sh t d) (n - d) i + d := by
 simp only [brAt, brNt_sh]
 split <;> omega
theorem gBracket_sh (t : Nat → Nat) (n d i : Nat) (h : d ≤ n) : gBracket t n (i + d) = (gBracket (sh t d) (n - d) i).map fun x => (x.1, x.2 + d) := by
 rw [gBracket, gBracket, brAt_sh, brNt_sh, show n + 1 - (brAt (sh t d) (n - d) i + d) = n - d + 1 - brAt (sh t d) (n - d) i from by omega]
 exact gBr_sh t n d _ _ h _ _ _
theorem gIt_sh (t : Nat → Nat) (n d : Nat) (h : d ≤ n) : ∀ f i, gIt t n f (i + d) = gIt (sh t d) (n - d) f i
 | 0, _ => rfl
 | f + 1, i => by
   rw [gIt, gIt]
   have e1 : sh t d i = t (i + d) := rfl
   have e2 : sh t d (i + 1) = t (i + d + 1) := by simp only [sh]; congr 1; omega
   rw [e1, e2]
   by_cases h1 : i < n - d
   · rw [if_pos h1, if_pos (by omega)]
     have r1 := gIt_sh t n d h f (i + 1)
     have r2 := gIt_sh t n d h f (i + 2)
     rw [show i + 1 + d = i + d + 1 from by omega] at r1
     rw [show i + 2 + d = i + d + 2 from by omega] at r2
     have e3 : (i + d + 1 < n) = (i + 1 < n - d) := by apply propext; omega
     rw [r1, r2, show i + d + 1 = (i + 1) + d from by omega, gBracket_sh t n d (i + 1) h]
     simp only [show (i + 1 + d < n) = (i + 1 < n - d) from by apply propext; omega]
     cases hg : gBracket (sh t d) (n - d) (i + 1) with
     | none => rfl
     | some x =>
       have r3 := gIt_sh t n d h f x.2
       simp only [Option.map_some, r3]
   · rw [if_neg h1, if_neg (by omega)]
theorem gIt_fuel (t : Nat → Nat) (n : Nat) : ∀ f g i, n < f + i → n < g + i → gIt t n f i = gIt t n g i
 | 0, 0, _, _, _ => rfl
 | 0, g + 1, i, h, _ => by rw [gIt, gIt, if_neg (by omega)]
 | f + 1, 0, i, _, h => by rw [gIt, gIt, if_neg (by omega)]
 | f + 1, g + 1, i, hf, hg => by
   rw [gIt, gIt]
   by_cases h1 : i < n
   · rw [if_pos h1, if_pos h1, gIt_fuel t n f g (i + 1) (by omega) (by omega), gIt_fuel t n f g (i + 2) (by omega) (by omega)]
     cases hx : gBracket t n (i + 1) with
     | none => rfl
     | some x =>
       have := gBracket_le hx
       simp only [gIt_fuel t n f g x.2 (by omega) (by omega)]
   · rw [if_neg h1, if_neg h1]
def EL (l : List GI) (t : Nat → Nat) (i : Nat) : Bool := E (fun k => (l.getD k giStar).star) (fun k c => (l.getD k giStar).S c) t l.length i
theorem EL_star (t : Nat → Nat) : ∀ i, EL [giStar] t i = true
 | 0 => rfl
 | i + 1 => by
   have := EL_star t i
   unfold EL at *
   show E _ _ _ (0 + 1) (i + 1) = true
   rw [Ess]
   simp only [List.length_singleton] at this
   rw [Nat.zero_add, this]
   simp [giStar]
end Qm.Glob
namespace Go.Proofs.YtmcophlmcloooaaGreatDoor
section
open Go.RowKit Go.Deep Qm.Glob
attribute [local go_sem] bt_eq strOfNums_size
end
section
open Go.RowKit Go.Deep Qm.Glob
attribute [local go_sem] bt_eq strOfNums_size
end
section
open Go.RowKit Go.Deep Qm.Glob
attribute [local go_sem] bt_eq
def sb (l : List Nat) : ByteArray := strOfNums (l.map fun n : Nat => (n : Int))
theorem sb_size (l : List Nat) : (sb l).size = l.length := by simp [sb, strOfNums_size]
theorem conv_own {W : World} {base : Nat} {v : Value} {l : List Nat} (h : OwnB W base v l) : (convert 29 9 v).run Tryz.prog W = .ok (.string (sb l)) W := by
 rcases h.2 with ⟨rfl, hn⟩ | ⟨g, cap, cur, rfl, _, hh, _⟩
 · have hl : l = [] := List.eq_nil_of_length_eq_zero hn
   subst hl
   exact run_convert_bytes_nil W 29 5 Tryz.underlying29 Tryz.underlying5 0 0 _ Tryz.underlying9
 · refine run_convert_bytes_arg W 29 5 Tryz.underlying29 Tryz.underlying5 g 0 l.length cap (l.map fun n : Nat => (n : Int)) (by simp) (fun i hi => ?_) _ Tryz.underlying9
   rw [Nat.zero_add, World.ownsRow.cellAt h i (by omega)]
   simp [nbytes, List.getD_eq_getElem?_getD, hi]
theorem below_gb {B : Nat} {wr w' : World} {o : Obj} {r : Option Nat} (hg : (wr.alloc o).grownBy w' r) (hr : ∀ k, r = some k → B ≤ k) (hB : B ≤ wr.heap.size) : Below B wr w' :=
 ((Below.refl B wr).alloc hB o).grown hg (by simp; omega) hr
def plAll (l : List GI) : Bool := l.all GI.plain
def plBytes (l : List GI) : List Nat := l.map GI.c
def plVal (ok : Bool) (l : List Nat) : Value := if ok then .tuple #[.string (sb l), .bool true] else .tuple #[.string ⟨#[]⟩, .bool false]
theorem plAll_no {l : List GI} {j : Nat} {x : GI} (hx : l[j]? = some x) (h : x.plain = false) : plAll l = false := by
 simp only [plAll, List.all_eq_false]
 exact ⟨x, List.mem_of_getElem? hx, by simp [h]⟩
theorem gplain_any (p : ByteArray) (w : World) (hp : p.size ≤ 1000) :
   Calls Tryz.prog 46 #[.string p] w fun e w' => e = .returned (plVal (plAll (gItems (bt p) p.size)) (plBytes (gItems (bt p) p.size))) ∧ Below w.heap.size w w' := by
 go_enter Tryz.func46, Tryz.ntmps46
 go_wp2_with fail
 refine (items_any p w hp).mono ?_
 rintro e w1 ⟨v, rfl, hown, hb⟩
 have hlen : (gItems (bt p) p.size).length ≤ 1000 := Nat.le_trans (gItems_len _ _) hp
 generalize hl : gItems (bt p) p.size = l at hown hlen
 have HL := hide hl
 clear hl
 obtain ⟨A, c, rfl, hat⟩ := items_of_own hown
 have HAT := hide hat
 have HB := hide hb
 clear hat hb hown
 go_wp2_with fail
 go_loopw [4, 10] (fun v4 v10 wr => ∃ j : Nat, v10 = .int .i64 j ∧ j ≤ l.length ∧ OwnB wr w1.heap.size v4 ((plBytes l).take j) ∧ Hid (∀ k x, k < j → l[k]? = some x → x.plain = true) ∧ Below w1.heap.size w1 wr) (fun _ v10 _ => l.length - (intOf v10).toNat)
 case atStart => exact ⟨0, rfl, by omega, World.ownsRow_nil _ _ _ _, fun k x hk => by omega, Below.refl _ _⟩
 case round =>
   obtain ⟨j, rfl, hj, ho, HP, hb⟩ := hrel
   obtain ⟨Ao, co, rfl⟩ := own_sliceN (n := j) ho (by simp [plBytes]; omega)
   have HO := hide ho
   have HW := hide hb
   clear ho hb
   by_cases hlt : j < l.length
   · obtain ⟨x, hx⟩ : ∃ x, l[j]? = some x := ⟨l[j], List.getElem?_eq_getElem hlt⟩
     obtain ⟨b0, S, b1, cc, b2⟩ := x
     obtain ⟨g, rfl, hg, c0, c1, c2, c3, c4, c5, c6, c7⟩ := items_cells HAT.out HW.out hx
     have HX := hide hx
     clear hx
     cases b1 with
     | false =>
       go_wp2
       go_ret2
       refine ⟨?_, below_up HB.out (HW.out.alloc HW.out.size _) HB.out.size⟩
       rw [HL.out, plAll_no HX.out rfl]
       rfl
     | true =>
       have HO1 := hide (World.ownsRow.alloc HO.out (.cells #[.bool b0, .int .u64 (wd S 0), .int .u64 (wd S 1), .int .u64 (wd S 2), .int .u64 (wd S 3), .bool true, .int .u8 cc, .bool b2] 160))
       have HW1 := hide (HW.out.alloc HW.out.size (.cells #[.bool b0, .int .u64 (wd S 0), .int .u64 (wd S 1), .int .u64 (wd S 2), .int .u64 (wd S 3), .bool true, .int .u8 cc, .bool b2] 160))
       have hlj : ((plBytes l).take j).length ≤ 1000 := by simp [plBytes]; omega
       go_wp2_with (at_builtin; refine wpList_appB _ ?_ (.tmp 17) (.tmp 20) ?_ w1.heap.size (.slice Ao j co) ((plBytes l).take j) ?_ HO1.out cc ?_ ?_ ?_ ?_; exact rfl; exact rfl; exact rfl; exact slice_new' _ _; omega; exact HW1.out.size; intro v1 w2 ho1 hg1 hb1; have HB2 := hide (HW1.out.trans (below_gb hg1 (fun k hk => (HO1.out.lt k hk).1) HW1.out.size)); have HO2 := hide ho1; clear ho1 hg1 hb1)
       go_roundw
       case rel =>
         have hx := HX.out
         refine ⟨j + 1, by go_num, by omega, ?_, fun k x hk hx2 => ?_, HB2.out⟩
         · rw [take_snoc' (a := cc) (by simp [plBytes, hx])]; exact HO2.out
         · rcases Nat.lt_or_ge k j with h | h
           · exact HP.out k x h hx2
           · obtain rfl : k = j := by omega
             rw [hx] at hx2; injection hx2 with hx2; subst hx2; rfl
       case measure => simp [intOf]; omega
   · obtain rfl : j = l.length := by omega
     have hcv := conv_own HO.out
     rw [show (plBytes l).take l.length = plBytes l from by rw [List.take_of_length_le]; simp [plBytes]] at hcv
     go_wp2
     go_ret2
     refine ⟨?_, below_up HB.out HW.out HB.out.size⟩
     have hall : plAll l = true := by
       simp only [plAll, List.all_eq_true]
       intro x hx
       obtain ⟨k, hk⟩ := List.mem_iff_getElem?.1 hx
       exact HP.out k x (List.getElem?_eq_some_iff.1 hk).1 hk
     rw [HL.out, hall]
     rfl
end
end Go.Proofs.YtmcophlmcloooaaGreatDoor
namespace Qm.Glob
theorem E_text {t : Nat → Nat} {cs : List Nat} : ∀ k i, k ≤ cs.length → E (fun k => ((cs.map giOne).getD k giStar).star) (fun k c => ((cs.map giOne).getD k giStar).S c) t k i = (i == k && (List.range k).all fun j => t j == cs.getD j 0)
 | 0, 0, _ => rfl
 | 0, _ + 1, _ => rfl
 | k + 1, 0, h => by
   have hg : (cs.map giOne).getD k giStar = giOne (cs.getD k 0) := by simp [List.getD_eq_getElem?_getD, show k < cs.length from by omega]
   rw [Es0, hg]; rfl
 | k + 1, i + 1, h => by
   have hg : (cs.map giOne).getD k giStar = giOne (cs.getD k 0) := by simp [List.getD_eq_getElem?_getD, show k < cs.length from by omega]
   rw [Ess, hg, E_text k i (by omega), List.range_succ, List.all_append]
   simp only [giOne, Bool.false_eq_true, if_false, addS, Bool.false_or, List.all_cons, List.all_nil, Bool.and_true]
   have e : (i + 1 == k + 1) = (i == k) := by rw [Bool.eq_iff_iff]; simp
   rw [e, Bool.and_assoc]
   by_cases hik : i = k
   · subst hik
     congr 2
     rw [Bool.eq_iff_iff]
     simp
     omega
   · have : (i == k) = false := by simpa using hik
     simp [this]
theorem EL_text (t : Nat → Nat) (cs : List Nat) (i : Nat) : EL (cs.map giOne) t i = (i == cs.length && (List.range cs.length).all fun j => t j == cs.getD j 0) := by
 unfold EL
 rw [List.length_map]
 exact E_text _ _ (Nat.le_refl _)
end Qm.Glob
namespace Go.Proofs.YtmcophlmcloooaaGreatDoor
section
open Go.RowKit Go.Deep Qm.Glob
attribute [local go_sem] bt_eq strOfNums_size
theorem bt_sb (l : List Nat) (j : Nat) : bt (sb l) j = l.getD j 0 % 256 := by
 rw [sb, bt_nums]
 simp only [List.getD_eq_getElem?_getD, List.getElem?_map]
 cases l[j]? <;> rfl
end
section
open Go.RowKit Go.Deep Qm.Glob
attribute [local go_sem] bt_eq
def isSp (c : Nat) : Bool := c == 42 || c == 63 || c == 91 || c == 92
def q1 (c : Nat) : List Nat := if isSp c then [92, c] else [c]
def qb (t : Nat → Nat) (k : Nat) : List Nat := (List.range k).flatMap fun j => q1 (t j)
theorem qb_succ (t : Nat → Nat) (k : Nat) : qb t (k + 1) = qb t k ++ q1 (t k) := by simp [qb, List.range_succ, List.flatMap_append]
theorem qb_len (t : Nat → Nat) (k : Nat) : (qb t k).length ≤ 2 * k := by
 induction k with
 | zero => simp [qb]
 | succ k ih =>
   rw [qb_succ, List.length_append]
   have : (q1 (t k)).length ≤ 2 := by unfold q1; split <;> simp
   omega
theorem quote_any (s : ByteArray) (w : World) (hs : s.size ≤ 1000) :
   Calls Tryz.prog 97 #[.string s] w fun e w' => e = .returned (.string (sb (qb (bt s) s.size))) ∧ Below w.heap.size w w' := by
 have hsb := run_bytes_of_string (P := Tryz.prog) w 9 29 5 s Tryz.underlying9 Tryz.underlying29 Tryz.underlying5
 generalize hC : grownCap w s.size 0 5 = C at hsb
 have hcl : ∀ j, j < s.size → ((w.alloc (.cells (bytesRow s C) 5 ((bytesRow s C).size, (bytesRow s C).size + 1))).drew).cell? ⟨w.heap.size, j, none⟩ = some (.int .u8 (bt s j)) := fun j hj => by
   show (w.alloc (.cells (bytesRow s C) 5 ((bytesRow s C).size, (bytesRow s C).size + 1))).cell? ⟨w.heap.size, j, none⟩ = _
   rw [World.cell?_alloc_mark, bytesRow_at s C j hj, ← bt_eq s j hj]
   rfl
 have HC0 := hide hcl
 have HC1 := hide hC
 clear hcl hC
 go_enter Tryz.func97, Tryz.ntmps97
 go_wp2_with fail
 clear hsb
 have hsz0 : w.heap.size < ((w.alloc (.cells (bytesRow s C) 5 ((bytesRow s C).size, (bytesRow s C).size + 1))).drew).heap.size := by simp
 have hb0 : Below w.heap.size w ((w.alloc (.cells (bytesRow s C) 5 ((bytesRow s C).size, (bytesRow s C).size + 1))).drew) := ((Below.refl _ _).alloc (Nat.le_refl _) _).drew
 generalize (w.alloc (.cells (bytesRow s C) 5 ((bytesRow s C).size, (bytesRow s C).size + 1))).drew = w1 at HC0 hsz0 hb0 ⊢
 have HC := HC0
 have hsz := hsz0
 have HB0 := hide hb0
 clear HC0 hsz0 hb0 HC1
 go_loopw [3, 9] (fun v3 v9 wr => ∃ k : Nat, v9 = .int .i64 k ∧ k ≤ s.size ∧ OwnB wr w1.heap.size v3 (qb (bt s) k) ∧ Below w1.heap.size w1 wr) (fun _ v9 _ => s.size - (intOf v9).toNat)
 case atStart => exact ⟨0, rfl, by omega, World.ownsRow_nil _ _ _ _, Below.refl _ _⟩
 case round =>
   obtain ⟨k, rfl, hk, ho, hb⟩ := hrel
   obtain ⟨Ao, co, rfl⟩ := own_slice ho
   have hql := qb_len (bt s) k
   have HO := hide ho
   have HW := hide hb
   have hql2 : (qb (bt s) k).length ≤ 2000 := by omega
   clear ho hb hql
   by_cases hlt : k < s.size
   · have hor : isSp (bt s k) = (bt s k == 42 || bt s k == 63 || bt s k == 91 || bt s k == 92) := rfl
     have HOR := hide hor
     clear hor
     have hcell := (HW.out.cell (p := ⟨w.heap.size, k, none⟩) hsz).trans (HC.out k hlt)
     go_upto_region 5 with (fail)
     go_cut [26] from 13 to 26 (fun sc wx => sc = .bool (isSp (bt s k)) ∧ wr = wx)
     case first =>
       by_cases e0 : bt s k = 42
       · have q0 : (((bt s k : Nat) : Int) == 42) = true := by simp only [beq_iff_eq]; omega
         have E0 := hide (show (bt s k == 42) = true by simp [e0])
         clear e0
         go_wp2
         go_meet
         refine ⟨?_, rfl⟩
         rw [HOR.out]
         simp [E0.out]
       have q0 : (((bt s k : Nat) : Int) == 42) = false := by simp only [beq_eq_false_iff_ne]; omega
       have E0 := hide (show (bt s k == 42) = false by simp [e0])
       by_cases e1 : bt s k = 63
       · have q1 : (((bt s k : Nat) : Int) == 63) = true := by simp only [beq_iff_eq]; omega
         have E1 := hide (show (bt s k == 63) = true by simp [e1])
         clear e0 e1
         go_wp2
         go_meet
         refine ⟨?_, rfl⟩
         rw [HOR.out]
         simp [E1.out]
       have q1 : (((bt s k : Nat) : Int) == 63) = false := by simp only [beq_eq_false_iff_ne]; omega
       have E1 := hide (show (bt s k == 63) = false by simp [e1])
       by_cases e2 : bt s k = 91
       · have q2 : (((bt s k : Nat) : Int) == 91) = true := by simp only [beq_iff_eq]; omega
         have E2 := hide (show (bt s k == 91) = true by simp [e2])
         clear e0 e1 e2
         go_wp2
         go_meet
         refine ⟨?_, rfl⟩
         rw [HOR.out]
         simp [E2.out]
       have q2 : (((bt s k : Nat) : Int) == 91) = false := by simp only [beq_eq_false_iff_ne]; omega
       have E2 := hide (show (bt s k == 91) = false by simp [e2])
       by_cases e3 : bt s k = 92
       · have q3 : (((bt s k : Nat) : Int) == 92) = true := by simp only [beq_iff_eq]; omega
         have E3 := hide (show (bt s k == 92) = true by simp [e3])
         clear e0 e1 e2 e3
         go_wp2
         go_meet
         refine ⟨?_, rfl⟩
         rw [HOR.out]
         simp [E3.out]
       have q3 : (((bt s k : Nat) : Int) == 92) = false := by simp only [beq_eq_false_iff_ne]; omega
       have E3 := hide (show (bt s k == 92) = false by simp [e3])
       clear e0 e1 e2 e3
       go_wp2
       go_meet
       refine ⟨?_, rfl⟩
       rw [HOR.out]
       simp [E0.out, E1.out, E2.out, E3.out]
     case rest =>
       obtain ⟨rfl, hw⟩ := hcut
       subst hw
       cases hsp : isSp (bt s k) with
       | true =>
         have HQ := hide (show qb (bt s) (k + 1) = (qb (bt s) k ++ [92]) ++ [bt s k] by rw [qb_succ, q1, if_pos hsp]; simp)
         clear hsp
         go_wp2_with (first | (at_builtin; refine wpList_appB wr ?_ (.tmp 27) (.tmp 28) ?_ w1.heap.size (.slice Ao (qb (bt s) k).length co) (qb (bt s) k) ?_ HO.out 92 ?_ ?_ ?_ ?_; exact rfl; exact rfl; exact rfl; exact rfl; (first | omega | (simp; omega)); exact HW.out.size; intro v1 x1 ho1 hg1 hat1; obtain ⟨A1, c1, rfl⟩ := own_sliceN (n := (qb (bt s) k).length + 1) ho1 (by simp); have HW1 := hide (HW.out.trans (below_gb hg1 (fun k hk => (HO.out.lt k hk).1) HW.out.size)); have HO1 := hide ho1; clear ho1 hg1 hat1) | (at_builtin; refine wpList_appB x1 ?_ (.tmp 30) (.tmp 32) ?_ w1.heap.size (.slice A1 ((qb (bt s) k).length + 1) c1) (qb (bt s) k ++ [92]) ?_ HO1.out (bt s k) ?_ ?_ ?_ ?_; exact rfl; exact rfl; exact rfl; exact rfl; (first | omega | (simp; omega)); exact HW1.out.size; intro v2 x2 ho2 hg2 hat2; obtain ⟨A2, c2, rfl⟩ := own_sliceN (n := (qb (bt s) k).length + 1 + 1) ho2 (by simp); have HW2 := hide (HW1.out.trans (below_gb hg2 (fun k hk => (HO1.out.lt k hk).1) HW1.out.size)); have HO2 := hide ho2; clear ho2 hg2 hat2))
         go_roundw
         case rel => exact ⟨k + 1, by go_num, by omega, by rw [HQ.out]; exact HO2.out, HW2.out⟩
         case measure => simp [intOf]; omega
       | false =>
         have HQ := hide (show qb (bt s) (k + 1) = qb (bt s) k ++ [bt s k] by rw [qb_succ, q1, if_neg (by simp [hsp])])
         clear hsp
         go_wp2_with (at_builtin; refine wpList_appB wr ?_ (.tmp 30) (.tmp 32) ?_ w1.heap.size (.slice Ao (qb (bt s) k).length co) (qb (bt s) k) ?_ HO.out (bt s k) ?_ ?_ ?_ ?_; exact rfl; exact rfl; exact rfl; exact rfl; (first | omega | (simp; omega)); exact HW.out.size; intro v2 x2 ho2 hg2 hat2; obtain ⟨A2, c2, rfl⟩ := own_sliceN (n := (qb (bt s) k).length + 1) ho2 (by simp); have HW2 := hide (HW.out.trans (below_gb hg2 (fun k hk => (HO.out.lt k hk).1) HW.out.size)); have HO2 := hide ho2; clear ho2 hg2 hat2)
         go_roundw
         case rel => exact ⟨k + 1, by go_num, by omega, by rw [HQ.out]; exact HO2.out, HW2.out⟩
         case measure => simp [intOf]; omega
   · obtain rfl : k = s.size := by omega
     have hcv := conv_own HO.out
     go_wp2
     go_ret
     exact ⟨rfl, below_up HB0.out HW.out HB0.out.size⟩
end
end Go.Proofs.YtmcophlmcloooaaGreatDoor
namespace Qm.Glob
def spB (c : Nat) : Bool := c == 42 || c == 63 || c == 91 || c == 92
def qOne (c : Nat) : List Nat := if spB c then [92, c] else [c]
def lt (l : List Nat) : Nat → Nat := fun j => l.getD j 0
theorem sh_lt (a b : List Nat) : sh (lt (a ++ b)) a.length = lt b := by
 funext j
 simp only [sh, lt, List.getD_eq_getElem?_getD]
 rw [List.getElem?_append_right (by omega), Nat.add_sub_cancel]
theorem gItems_cons {t : Nat → Nat} {n d : Nat} {x : GI} (hd : 1 ≤ d) (hn : d ≤ n) (h : gIt t n (n + 1) 0 = x :: gIt t n n d) : gItems t n = x :: gItems (sh t d) (n - d) := by
 rw [gItems, h]
 congr 1
 have := gIt_sh t n d hn n 0
 rw [Nat.zero_add] at this
 rw [this, gItems]
 exact gIt_fuel _ _ _ _ _ (by omega) (by omega)
theorem items_quote : ∀ cs : List Nat, gItems (lt (cs.flatMap qOne)) (cs.flatMap qOne).length = cs.map giOne
 | [] => rfl
 | c :: cs => by
   have ih := items_quote cs
   rw [List.flatMap_cons, List.map_cons, ← ih]
   cases h : spB c with
   | true =>
     have hq : qOne c = [92, c] := by simp [qOne, h]
     rw [hq]
     have e0 : lt ([92, c] ++ cs.flatMap qOne) 0 = 92 := rfl
     have e1 : lt ([92, c] ++ cs.flatMap qOne) 1 = c := rfl
     rw [gItems_cons (d := 2) (x := giOne c) (by omega) (by simp) (by
       rw [gIt, if_pos (by simp), if_neg (by omega), if_neg (by omega), if_pos e0, if_pos (by simp), Nat.zero_add, e1])]
     rw [show sh (lt ([92, c] ++ cs.flatMap qOne)) 2 = lt (cs.flatMap qOne) from sh_lt [92, c] _]
     congr 2
   | false =>
     have hq : qOne c = [c] := by simp [qOne, h]
     simp only [spB, Bool.or_eq_false_iff, beq_eq_false_iff_ne, ne_eq] at h
     rw [hq]
     have e0 : lt ([c] ++ cs.flatMap qOne) 0 = c := rfl
     rw [gItems_cons (d := 1) (x := giOne c) (by omega) (by simp) (by
       rw [gIt, if_pos (by simp), e0, if_neg h.1.1.1, if_neg h.1.1.2, if_neg h.2, if_neg h.1.2])]
     rw [show sh (lt ([c] ++ cs.flatMap qOne)) 1 = lt (cs.flatMap qOne) from sh_lt [c] _]
     congr 2
end Qm.Glob
namespace Go.Proofs.YtmcophlmcloooaaGreatDoor
section
open Go.RowKit Go.Deep Qm.Glob
attribute [local go_sem] bt_eq strOfNums_size
def bytesOf (s : ByteArray) : List Nat := (List.range s.size).map (bt s)
theorem qb_bytes (s : ByteArray) : qb (bt s) s.size = (bytesOf s).flatMap qOne := by
 simp only [qb, bytesOf, List.flatMap_map]
 rfl
theorem bt_ext {s t : ByteArray} (h : s.size = t.size) (h2 : ∀ j, j < s.size → bt s j = bt t j) : s = t := by
 apply ByteArray.ext
 apply Array.ext h
 intro j h3 h4
 have := h2 j h3
 rw [← bt_eq s j h3, ← bt_eq t j h4] at this
 exact UInt8.toNat_inj.1 this
theorem sb_bytes (s : ByteArray) : sb (bytesOf s) = s := by
 have hs : (sb (bytesOf s)).size = s.size := by rw [sb_size]; simp [bytesOf]
 refine bt_ext hs (fun j hj => ?_)
 rw [hs] at hj
 have := bt_lt s j
 rw [bt_sb, bytesOf, List.getD_eq_getElem?_getD, List.getElem?_map, List.getElem?_range hj]
 simp only [Option.map_some, Option.getD_some]
 omega
theorem qOne_lt {l : List Nat} (h : ∀ c ∈ l, c < 256) : ∀ c ∈ l.flatMap qOne, c < 256 := by
 intro c hc
 obtain ⟨d, hd, hc⟩ := List.mem_flatMap.1 hc
 have := h d hd
 unfold qOne at hc
 split at hc
 · simp at hc; omega
 · simp at hc; omega
theorem bt_sb_lt {l : List Nat} (h : ∀ c ∈ l, c < 256) : bt (sb l) = lt l := by
 funext j
 rw [bt_sb, lt]
 rw [List.getD_eq_getElem?_getD]
 cases hj : l[j]? with
 | none => rfl
 | some c => exact Nat.mod_eq_of_lt (h c (List.mem_of_getElem? hj))
theorem items_quoted (s : ByteArray) : gItems (bt (sb (qb (bt s) s.size))) (sb (qb (bt s) s.size)).size = (bytesOf s).map giOne := by
 have hb : ∀ c ∈ bytesOf s, c < 256 := fun c hc => by
   obtain ⟨j, _, rfl⟩ := List.mem_map.1 hc
   exact bt_lt s j
 rw [qb_bytes, sb_size, bt_sb_lt (qOne_lt hb)]
 exact items_quote _
theorem quoted_plain (s : ByteArray) : plAll (gItems (bt (sb (qb (bt s) s.size))) (sb (qb (bt s) s.size)).size) = true ∧ plBytes (gItems (bt (sb (qb (bt s) s.size))) (sb (qb (bt s) s.size)).size) = bytesOf s := by
 rw [items_quoted]
 refine ⟨?_, ?_⟩
 · simp [plAll, giOne]
 · simp only [plBytes, List.map_map]
   exact (List.map_congr_left fun _ _ => rfl).trans (List.map_id _)
end
section
open Go.RowKit Go.Deep Qm.Glob
theorem sr_new1 (w : World) (s : ByteArray) (t : TypeId) : SR (w.alloc (.cells #[.string s] t)) (some ⟨w.heap.size, 0, none⟩) [s] := fun k x hk => by
 cases k with
 | zero =>
   simp at hk
   subst hk
   exact ⟨_, _, rfl, by simp, by rw [World.cell?_alloc_at _ _ _ _ rfl]; rfl⟩
 | succ k => simp at hk
theorem paths_plain (gf : Nat) (cwd : ByteArray) (A : Option Addr) (c : Nat) (L : List Pt) (w : World) (hA : RG encPt 6 w A L) (hl : L.length ≤ 1000) (hz : ∀ p ∈ L, p.text.size ≤ 1000) (s : ByteArray) (hp : (bsF (patS L)).size ≤ 1000)
   (h1 : plAll (gItems (bt (bsF (patS L))) (bsF (patS L)).size) = true) (h2 : sb (plBytes (gItems (bt (bsF (patS L))) (bsF (patS L)).size)) = s) :
   Calls Tryz.prog 21 #[.pointer (some ⟨gf, 0, none⟩), .string cwd, .slice A L.length c] w fun e w' => (∃ g, e = .returned (.slice (some ⟨g, 0, none⟩) 1 1) ∧ SR w' (some ⟨g, 0, none⟩) [s]) ∧ Below w.heap.size w w' := by
 have hb0 : Below w.heap.size w (w.alloc (.cells #[.pointer (some ⟨gf, 0, none⟩)] 23)) := (Below.refl _ _).alloc (Nat.le_refl _) _
 have HPT := hide (pat_any A c L (w.alloc (.cells #[.pointer (some ⟨gf, 0, none⟩)] 23)) (hA.below hb0) hl hz)
 obtain ⟨p, hpp⟩ : ∃ p, bsF (patS L) = p := ⟨_, rfl⟩
 rw [hpp] at HPT hp h1 h2
 have HPL := hide (fun Z => gplain_any p Z hp)
 have HE := hide (show plVal (plAll (gItems (bt p) p.size)) (plBytes (gItems (bt p) p.size)) = .tuple #[.string s, .bool true] by unfold plVal; rw [h1, h2]; rfl)
 rw [HE.out] at HPL
 obtain ⟨n, hn⟩ : ∃ n, L.length = n := ⟨_, rfl⟩
 rw [hn] at HPT ⊢
 have HB0 := hide hb0
 clear hA hz hl hp h1 h2 hpp HE hn hb0
 go_enter Tryz.func21, Tryz.ntmps21
 go_wp2_with fail
 refine HPT.out.mono ?_
 rintro e w2 ⟨rfl, hb2⟩
 have HB2 := hide (HB0.out.trans (hb2.mono HB0.out.size))
 clear hb2
 go_wp2_with fail
 refine (HPL.out _).mono ?_
 rintro e w3 ⟨rfl, hb3⟩
 have HB3 := hide (HB2.out.trans (hb3.mono HB2.out.size))
 clear hb3
 go_wp2
 go_ret
 exact ⟨⟨w3.heap.size, rfl, sr_new1 _ _ _⟩, HB3.out.alloc HB3.out.size _⟩
end
section
open Go.RowKit Ln
theorem splitK_spl (c : UInt8) : ∀ (k : Nat) (s : T), s.count c = k → Lib.splitK [c] 0 k s = spl c s
 | 0, s, h => by
   rw [Lib.splitK, spl_none (by rw [← List.count_eq_zero]; exact h)]
 | k + 1, s, h => by
   have hm : c ∈ s := List.count_pos_iff.1 (by omega)
   obtain ⟨a, b, rfl, ha⟩ := List.eq_append_cons_of_mem hm
   have hi : Lib.indexByte (a ++ c :: b) c = (a.length : Int) := by
     clear h hm
     induction a with
     | nil => simp [Lib.indexByte]
     | cons x a ih =>
       have hx : x ≠ c := fun e => ha (by simp [e])
       have ih := ih (fun hc => ha (by simp [hc]))
       rw [List.cons_append, Lib.indexByte, if_neg (by simpa using hx), ih]
       have : ((a.length : Int) == -1) = false := by simp
       rw [this]
       simp
   have hne : ((a.length : Int) == -1) = false := by simp
   have hcnt : b.count c = k := by
     rw [List.count_append, List.count_cons_self, List.count_eq_zero.2 ha] at h
     omega
   rw [Lib.splitK, Lib.index_one, hi, hne]
   simp only [Bool.false_eq_true, if_false, Int.toNat_natCast, Nat.add_zero, List.length_cons, List.length_nil]
   rw [spl_app b ha, List.take_left, show (a ++ c :: b).drop (a.length + (0 + 1)) = b from by rw [← List.drop_drop]; simp, splitK_spl c k b hcnt]
theorem split_bs (c : UInt8) (l : T) : Lib.splitB ⟨#[c]⟩ 0 (Lib.countB (bs l) ⟨#[c]⟩) (bs l) = (spl c l).map bs := by
 have h := Lib.splitB_data ⟨#[c]⟩ 0 (Lib.countB (bs l) ⟨#[c]⟩) (bs l)
 rw [bs_list] at h
 have hc : Lib.countB (bs l) ⟨#[c]⟩ = l.count c := by
   show Lib.count (bs l).data.toList [c] = _
   rw [bs_list]
   exact Lib.count_one c l
 rw [hc] at h ⊢
 rw [show (⟨#[c]⟩ : ByteArray).data.toList = [c] from rfl, splitK_spl c _ l rfl] at h
 rw [← h, List.map_map]
 conv => lhs; rw [← List.map_id (Lib.splitB _ _ _ _)]
 apply List.map_congr_left
 intro x _
 exact (bs_of x).symm
def MX (w : World) : Prop := ∃ m, w.cell? ⟨0, 0, none⟩ = some (.int .i64 m)
theorem MX.below {w w' : World} (h : MX w) (hb : Below w.heap.size w w') : MX w' := by
 obtain ⟨m, hm⟩ := h
 exact ⟨m, (hb.cell (p := ⟨0, 0, none⟩) (World.block_lt_of_cell? w _ hm)).trans hm⟩
end
section
open Go.RowKit Go.Deep Ln
attribute [local go_sem] bt_eq
theorem count_spl (l : T) (c : UInt8) : Lib.countByte l c + 1 = (spl c l).length := by
 unfold Lib.countByte
 induction l with
 | nil => rfl
 | cons b l ih =>
   by_cases h : b = c
   · subst h
     rw [spl, if_pos rfl, List.count_cons_self, List.length_cons, ih]
   · rw [List.count_cons_of_ne (by simpa using h), ih]
     obtain ⟨x, t, h1, h2⟩ := spl_cons_ne h l
     rw [h1, h2]
     rfl
theorem ix_cut {a : T} {c : UInt8} (b : T) (h : c ∉ a) : Lib.indexByte (a ++ c :: b) c = (a.length : Int) := by
 induction a with
 | nil => rw [List.nil_append, Lib.indexByte, if_pos (by simp)]; rfl
 | cons x a ih =>
   have hx : x ≠ c := fun e => h (by simp [e])
   have := ih fun e => h (by simp [e])
   rw [List.cons_append, Lib.indexByte, if_neg (by simpa using hx), this, if_neg (by simp)]
   rfl
theorem spl_cut {r : T} {c : UInt8} (h : 2 ≤ (spl c r).length) : ∃ a b, r = a ++ c :: b ∧ Lib.indexByte r c = (a.length : Int) ∧ spl c r = a :: spl c b := by
 have hc : c ∈ r := by
   by_cases hc : c ∈ r
   · exact hc
   · rw [spl_none hc] at h
     simp at h
 obtain ⟨a, b, rfl, ha⟩ := List.eq_append_cons_of_mem hc
 exact ⟨a, b, rfl, ix_cut b ha, spl_app b ha⟩
theorem ext_pre (a b : T) (c : UInt8) : (bs (a ++ c :: b)).extract 0 a.length = bs a := by
 apply ByteArray.ext
 apply Array.toList_inj.1
 simp [bs]
theorem spl_single {r : T} {c : UInt8} (h : (spl c r).length = 1) : spl c r = [r] := by
 by_cases hc : c ∈ r
 · obtain ⟨a, b, rfl, ha⟩ := List.eq_append_cons_of_mem hc
   rw [spl_app b ha, List.length_cons] at h
   exact absurd (List.eq_nil_of_length_eq_zero (by omega)) (spl_ne c b)
 · exact spl_none hc
theorem ext_suf (a b : T) (c : UInt8) : (bs (a ++ c :: b)).extract (a.length + 1) (a.length + 1 + b.length) = bs b := by
 apply ByteArray.ext
 apply Array.toList_inj.1
 simp [bs]
theorem gensplit_any (l : T) (c : UInt8) (w : World) (hl : l.length ≤ 281474976710656) (hN : (spl c l).length ≤ 66000001) :
   Calls Tryz.prog 105 #[.string (bs l), .string ⟨#[c]⟩, .int .i64 0, .int .i64 (-1)] w fun e w' => e = .returned (.slice (some ⟨w.heap.size, 0, none⟩) (spl c l).length (spl c l).length) ∧ w.alloc (.cells (((spl c l).map bs).map Value.string).toArray 9) = w' := by
 have HC := hide (fun W => (Tryz.strings_Count_one (bs l) c W).mono fun e w' ⟨h1, h2⟩ => (⟨h1, h2.symm⟩ : _ ∧ W = w'))
 have HI := hide (fun (r : T) W => (Tryz.strings_Index_one (bs r) c W).mono fun e w' ⟨h1, h2⟩ => (⟨h1, h2.symm⟩ : _ ∧ W = w'))
 simp only [bs_list] at HC
 simp only [bs_list] at HI
 have hcs := count_spl l c
 obtain ⟨m, hm⟩ : ∃ m, Lib.countByte l c = m := ⟨_, rfl⟩
 rw [hm] at HC hcs
 rw [← hcs] at hN ⊢
 have hml : m ≤ l.length := by rw [← hm]; exact List.count_le_length
 have hz : (bs l).size = l.length := bs_size l
 have hse : (⟨#[c]⟩ : ByteArray).toList.isEmpty = false := by rw [ByteArray.toList_eq]; rfl
 have hs1 : (⟨#[c]⟩ : ByteArray).size = 1 := rfl
 have hmin : min ((m : Int) + 1) ((l.length : Int) + 1) = ((m + 1 : Nat) : Int) := by omega
 have hmk : ∀ W : World, (Instr.makeSlice 42 (.int .i64 ((m : Int) + 1)) (.int .i64 ((m : Int) + 1))).run Tryz.prog W = .ok (.slice (some ⟨W.heap.size, 0, none⟩) (m + 1) (m + 1)) (W.alloc (.cells (Lib.cellsOf [] (m + 1)) 9)) := fun W => by
   rw [Lib.cellsOf_nil]
   exact run_make_row' (P := Tryz.prog) 42 9 (.string ByteArray.empty) 16 Tryz.underlying42 (by kernel_rfl) rfl .i64 .i64 (m + 1) (by omega) (by omega) W
 have HCS := hide hcs
 have HL := hide hl
 clear hm hcs
 go_enter Tryz.func105, Tryz.ntmps105
 go_wp2_with fail
 refine (HC.out _).mono ?_
 rintro e w' ⟨rfl, rfl⟩
 go_wp2
 clear hmk hz hmin hml
 go_loopw [0, 10, 11] (fun v0 v10 _ wr => ∃ (done : List T) (r : T), v0 = .string (bs r) ∧ v10 = .int .i64 done.length ∧ Hid (done ++ spl c r = spl c l) ∧ Hid (r.length ≤ l.length) ∧ Hid (done.length ≤ m) ∧ wr = w.alloc (.cells (Lib.cellsOf (done.map bs) (m + 1)) 9)) (fun _ v10 _ _ => m - (intOf v10).toNat)
 case atStart => exact ⟨[], l, rfl, rfl, rfl, Nat.le_refl _, Nat.zero_le _, rfl⟩
 case round =>
   obtain ⟨done, r, rfl, rfl, HD, HR, HM, rfl⟩ := hrel
   obtain ⟨k, hk⟩ : ∃ k, done.length = k := ⟨_, rfl⟩
   have hkm : k ≤ m := hk ▸ HM.out
   have hlen := congrArg List.length HD.out
   rw [List.length_append, hk, ← HCS.out] at hlen
   have hmap : (done.map bs).length = k := by rw [List.length_map, hk]
   have hnext := Lib.cellsOf_next (done := done.map bs) (N := m + 1) (by omega)
   have hset := fun x => Lib.cellsOf_set (done := done.map bs) (N := m + 1) (by omega) x
   rw [hmap] at hnext hset
   rw [hk]
   have hcell : (w.alloc (.cells (Lib.cellsOf (done.map bs) (m + 1)) 9)).cell? ⟨w.heap.size, k, none⟩ = some (.string ByteArray.empty) := by
     rw [World.cell?_alloc_at _ _ _ _ rfl]
     exact hnext
   by_cases hlt : k < m
   · obtain ⟨a, b, rfl, hix, hsp⟩ := spl_cut (r := r) (c := c) (by omega)
     have HIX := hide (HI.out (a ++ c :: b))
     rw [hix] at HIX
     have hal : a.length ≤ l.length := by have := HR.out; simp at this; omega
     have hbl : b.length ≤ l.length := by have := HR.out; simp at this; omega
     have hz : (bs (a ++ c :: b)).size = a.length + 1 + b.length := by rw [bs_size]; simp; omega
     have hHR := HR.out
     have hz2 : a.length + 1 + b.length ≤ 281474976710656 := by have := HL.out; simp at hHR; omega
     have HP := hide (ext_pre a b c)
     have HSU := hide (ext_suf a b c)
     have HD2 := hide (show (done ++ [a]) ++ spl c b = spl c l by rw [← HD.out, hsp]; simp)
     have hb1 : (k : Int) < (m : Int) := by omega
     clear hsp hix hlen hHR
     go_wp2_with fail
     refine (HIX.out _).mono ?_
     rintro e w' ⟨rfl, rfl⟩
     go_wp2
     go_roundw
     case rel =>
       refine ⟨done ++ [a], b, by rw [HSU.out], by simp [hk], HD2, hide (by simp at HR; have := HR.out; omega), hide (by simp [hk]; omega), ?_⟩
       rw [HP.out, List.map_append]
       rfl
     case measure => simp [intOf]; omega
   · obtain rfl : k = m := by omega
     have hsp := spl_single (show (spl c r).length = 1 by omega)
     have HF := hide (show Lib.cellsOf (done.map bs ++ [bs r]) (k + 1) = (((spl c l).map bs).map Value.string).toArray by
       rw [← HD.out, hsp]
       have h1 : (done.map bs ++ [bs r]) = (done ++ [r]).map bs := by simp
       have h2 : ((done ++ [r]).map bs).length = k + 1 := by simp [hk]
       rw [h1, ← h2]
       exact Lib.cellsOf_full _)
     have hb1 : ¬ (k : Int) < (k : Int) := by omega
     clear hsp hlen
     go_wp2
     go_ret
     rw [HF.out]
     exact ⟨rfl, by simp⟩
theorem splitL_any (l : T) (c : UInt8) (w : World) (h : l.length ≤ 281474976710656) (hn : (spl c l).length ≤ 66000001) :
   Calls Tryz.prog 50 #[.string (bs l), .string ⟨#[c]⟩] w fun e w' => e = .returned (.slice (some ⟨w.heap.size, 0, none⟩) ((spl c l).map bs).length ((spl c l).map bs).length) ∧ w.alloc (.cells (((spl c l).map bs).map Value.string).toArray 9) = w' := by
 have HG := hide (gensplit_any l c w h hn)
 rw [List.length_map]
 clear h hn
 obtain ⟨n, hnn⟩ : ∃ n, (spl c l).length = n := ⟨_, rfl⟩
 rw [hnn] at HG ⊢
 go_enter Tryz.func50, Tryz.ntmps50
 go_wp2_with fail
 refine HG.out.mono ?_
 rintro e w' ⟨rfl, hw⟩
 have HW := hide hw
 clear hw
 go_wp2
 go_ret
 exact ⟨rfl, HW.out⟩
end
section
open Go.RowKit Go.Deep
def IdxPost (p : ByteArray → Bool) (L : List ByteArray) (w : World) (e : Ending) (w' : World) : Prop := ∃ i : Int, e = .returned (.int .i64 i) ∧ decide (0 ≤ i) = L.any p ∧ Below w.heap.size w w'
theorem idxf_any (p : ByteArray → Bool) (g : Nat) (lb : Array Value) (eg : ∀ args w, (callFunc g args).run Tryz.prog w = .ok (.enter g args) w) (A : Option Addr) (c : Nat) (L : List ByteArray) (w : World) (hl : L.length ≤ 100000000) (hA : SR w A L)
   (hf : ∀ (W : World) (x : ByteArray), x ∈ L → Below w.heap.size w W → Calls Tryz.prog g (#[.string x] ++ lb) W fun e w' => e = .returned (.bool (p x)) ∧ Below w.heap.size w w') :
   Calls Tryz.prog 104 #[.slice A L.length c, .func (.func g) #[] lb] w (IdxPost p L w) := by
 have HA := hide hA
 have HF := hide hf
 clear hA hf
 obtain ⟨n, hn⟩ : ∃ n, L.length = n := ⟨_, rfl⟩
 have HN := hide hn
 rw [hn] at hl ⊢
 clear hn
 have hn1 : (n : Int) ≤ 100000000 := by omega
 go_enter Tryz.func104, Tryz.ntmps104
 go_wp2
 go_loopw [5, 8] (fun _v5 v8 wr => ∃ k : Nat, v8 = .int .i64 k ∧ k ≤ n ∧ Hid ((L.take k).any p = false) ∧ Below w.heap.size w wr) (fun _ v8 _ => n - (intOf v8).toNat)
 case atStart => exact ⟨0, rfl, by omega, rfl, Below.refl _ _⟩
 case round =>
   obtain ⟨k, rfl, hk, HP, hb⟩ := hrel
   have HB := hide hb
   have HAR := hide (HA.out.below hb)
   clear hb
   by_cases hlt : k < n
   · obtain ⟨x, hx⟩ : ∃ x, L[k]? = some x := ⟨L[k]'(by have := HN.out; omega), gE _⟩
     obtain ⟨gs, o, rfl, hg, hc⟩ := HAR.out k x hx
     have hcall := HF.out wr x (List.mem_of_getElem? hx) HB.out
     have b1 : (k : Int) < (n : Int) := by omega
     have HX := hide hx
     clear hx
     obtain ⟨pb, hpb⟩ : ∃ b, p x = b := ⟨_, rfl⟩
     rw [hpb] at hcall
     have HPB := hide hpb
     clear hpb
     have HC := hide hcall
     clear hcall
     go_wp2_with fail
     refine HC.out.mono ?_
     rintro e w' ⟨rfl, hb'⟩
     have HB' := hide hb'
     clear hb'
     cases pb with
     | true =>
       go_wp2
       go_ret
       refine ⟨_, rfl, ?_, HB'.out⟩
       have : L.any p = true := List.any_eq_true.2 ⟨x, List.mem_of_getElem? HX.out, HPB.out⟩
       rw [this]
       simp
     | false =>
       go_wp2
       go_roundw
       case rel =>
         refine ⟨k + 1, by go_num, by omega, ?_, HB'.out⟩
         show (L.take (k + 1)).any p = false
         rw [List.take_add_one, List.any_append, HP.out, HX.out]
         simpa using HPB.out
       case measure => simp [intOf]; omega
   · obtain rfl : k = n := by omega
     have HE := hide (show L.any p = false by
       have := HP.out
       rwa [List.take_of_length_le (by have := HN.out; omega)] at this)
     go_wp2
     go_ret
     exact ⟨_, rfl, by rw [HE.out]; rfl, HB.out⟩
theorem contf_any (p : ByteArray → Bool) (g : Nat) (lb : Array Value) (eg : ∀ args w, (callFunc g args).run Tryz.prog w = .ok (.enter g args) w) (A : Option Addr) (c : Nat) (L : List ByteArray) (w : World) (hl : L.length ≤ 100000000) (hA : SR w A L)
   (hf : ∀ (W : World) (x : ByteArray), x ∈ L → Below w.heap.size w W → Calls Tryz.prog g (#[.string x] ++ lb) W fun e w' => e = .returned (.bool (p x)) ∧ Below w.heap.size w w') :
   Calls Tryz.prog 101 #[.slice A L.length c, .func (.func g) #[] lb] w fun e w' => e = .returned (.bool (L.any p)) ∧ Below w.heap.size w w' := by
 have HI := hide (idxf_any p g lb eg A c L w hl hA hf)
 clear hA hf
 obtain ⟨n, hn⟩ : ∃ n, L.length = n := ⟨_, rfl⟩
 rw [hn] at HI ⊢
 clear hn hl
 obtain ⟨b, hb⟩ : ∃ b, L.any p = b := ⟨_, rfl⟩
 unfold IdxPost at HI
 rw [hb] at HI ⊢
 clear hb
 go_enter Tryz.func101, Tryz.ntmps101
 go_wp2_with fail
 refine HI.out.mono ?_
 rintro e w' ⟨i, rfl, hi, hb'⟩
 have HI2 := hide hi
 have HB := hide hb'
 clear hi hb'
 go_wp2
 go_ret
 refine ⟨?_, HB.out⟩
 rw [← HI2.out]
 rfl
end
section
open Go.RowKit Go.Deep Ln Pth
attribute [local go_sem] bt_eq
theorem OwnS.take {w : World} {base : Nat} {A : Option Addr} {n c : Nat} {L : List ByteArray} (h : OwnS w base (.slice A n c) L) {k : Nat} (hk : k ≤ L.length) : OwnS w base (.slice A k c) (L.take k) := by
 obtain ⟨h1, h2⟩ := h
 have hl : (L.take k).length = k := by rw [List.length_take]; omega
 refine ⟨by unfold strVals; simp, ?_⟩
 rw [hl]
 rcases h2 with ⟨h3, h4⟩ | ⟨g, cap, cur, h3, h4, h5, h6, h7, h8, h9⟩
 · injection h3 with e1 e2 e3
   subst e1 e3
   obtain rfl : k = 0 := by omega
   exact .inl ⟨rfl, rfl⟩
 · injection h3 with e1 e2 e3
   subst e1 e3
   refine .inr ⟨g, c, cur, rfl, h4, h5, by omega, h7, h8, ?_⟩
   unfold strVals at h9 ⊢
   rw [List.map_take, ← h9, List.take_take]
   congr 1
   omega
theorem OwnS.base {w : World} {base base' : Nat} {v : Value} {L : List ByteArray} (h : OwnS w base v L) (hb : base' ≤ base) : OwnS w base' v L :=
 ⟨h.1, h.2.imp id fun ⟨g, cap, cur, e, hg, r⟩ => ⟨g, cap, cur, e, by omega, r⟩⟩
theorem SR.newL (w : World) (L : List ByteArray) (t : TypeId) : SR (w.alloc (.cells (L.map Value.string).toArray t)) (some ⟨w.heap.size, 0, none⟩) L := fun k x hk => by
 refine ⟨_, _, rfl, by simp, ?_⟩
 have h := heapNew w (.cells (L.map Value.string).toArray t)
 unfold World.cell?
 rw [h]
 simp [hk]
theorem OwnS.newL (w : World) (L : List ByteArray) {base : Nat} (hb : base ≤ w.heap.size) (hl : L.length ≤ 66000000) : OwnS (w.alloc (.cells (L.map Value.string).toArray 9)) base (.slice (some ⟨w.heap.size, 0, none⟩) L.length L.length) L := by
 refine ⟨by unfold strVals; simp, .inr ⟨_, _, _, rfl, hb, heapNew w _, Nat.le_refl _, by unfold maxLen; omega, by simp, ?_⟩⟩
 unfold strVals
 rw [Nat.mul_one, List.take_of_length_le (by simp)]
theorem split_cnt (l : T) (c : UInt8) : Lib.countB (bs l) ⟨#[c]⟩ + 1 = ((spl c l).map bs).length := by
 have := congrArg List.length (split_bs c l)
 rw [Lib.splitB_all _ (by simp [ByteArray.size]) 0 _ _ rfl] at this
 exact this
theorem split_any (l : T) (c : UInt8) (w : World) (hm : MX w) (h : l.length ≤ 66000000) :
   Calls Tryz.prog 50 #[.string (bs l), .string ⟨#[c]⟩] w fun e w' => e = .returned (.slice (some ⟨w.heap.size, 0, none⟩) ((spl c l).map bs).length ((spl c l).map bs).length) ∧ w.alloc (.cells (((spl c l).map bs).map Value.string).toArray 9) = w' := by
 obtain ⟨mx, hmx⟩ := hm
 have := Tryz.strings_Split (bs l) ⟨#[c]⟩ mx w (by rw [bs_size]; omega) hmx (by simp [ByteArray.size])
 rw [split_cnt, split_bs] at this
 exact this.mono fun e w' ⟨h1, h2⟩ => ⟨h1, h2.symm⟩
theorem pre_slash (p : T) : Lib.hasPrefix (bs p).data.toList [47] = decide (p.head? = some 47) := by
 rw [bs_list]
 unfold Lib.hasPrefix
 cases p with
 | nil => rfl
 | cons c p =>
   rw [Bool.eq_iff_iff]
   simp only [List.isPrefixOf, List.head?_cons, Option.some.injEq, decide_eq_true_eq, Bool.and_eq_true, beq_iff_eq, and_true]
   exact eq_comm
theorem foldl_take {k : Nat} {L : List T} {x : T} (h : L[k]? = some x) : (L.take (k + 1)).foldl stepP [] = stepP ((L.take k).foldl stepP []) x := by
 rw [List.take_add_one, h, List.foldl_append]; rfl
def PB (p : T) : Prop := p.length ≤ 140737488351300 ∧ (spl 47 p).length ≤ 6600001
theorem PB.of {p : T} (h : p.length ≤ 6600000) : PB p := ⟨by omega, by have := spl_len 47 p; omega⟩
theorem partsL_any (cwd p : T) (w : World) (hm : MX w) (h1 : cwd.length ≤ 6600000) (h2 : PB p) :
   Calls Tryz.prog 100 #[.string (bs cwd), .string (bs p)] w fun e w' => (∃ v, e = .returned v ∧ OwnS w' w.heap.size v ((partsF cwd p).map bs)) ∧ Below w.heap.size w w' := by
 obtain ⟨h2, h3⟩ := h2
 have HSP := hide (fun W (_ : MX W) => splitL_any p 47 W (by omega) (by omega))
 have HSC := hide (fun W h => split_any cwd 47 W h (by omega))
 have HPR := hide (fun W => (Tryz.strings_HasPrefix (bs p) ⟨#[47]⟩ W).mono fun e w' ⟨h1, h2⟩ => (⟨h1, h2.symm⟩ : _ ∧ W = w'))
 rw [show (⟨#[47]⟩ : ByteArray).data.toList = [47] from rfl, pre_slash] at HPR
 have hl1 := h3
 have hl2 := spl_len 47 cwd
 have HM := hide hm
 obtain ⟨R, hR⟩ : ∃ R, partsF cwd p = R := ⟨_, rfl⟩
 have HRR := hide hR
 unfold partsF at hR
 obtain ⟨LP, hLP⟩ : ∃ L, (spl 47 p).map bs = L := ⟨_, rfl⟩
 obtain ⟨LC, hLC⟩ : ∃ L, (spl 47 cwd).map bs = L := ⟨_, rfl⟩
 have hlp : LP.length ≤ 6600001 := by rw [← hLP, List.length_map]; omega
 have hlc : LC.length ≤ 6600001 := by rw [← hLC, List.length_map]; omega
 have HLP := hide hLP
 have HLC := hide hLC
 rw [hLP] at HSP
 rw [hLC] at HSC
 clear hm hl1 hl2 hLP hLC
 by_cases hh : p.head? = some 47
 all_goals first
   | (rw [decide_eq_true hh] at HPR
      rw [if_pos hh] at hR
      have HR := hide hR
      clear hR hh
      go_enter Tryz.func100, Tryz.ntmps100
      go_wp2_with fail
      refine (HSP.out w HM.out).mono ?_
      rintro e w1 ⟨rfl, rfl⟩
      go_wp2_with fail
      refine (HPR.out _).mono ?_
      rintro e w' ⟨rfl, rfl⟩
      have HA := hide (SR.newL w LP 9)
      have HB := hide ((Below.refl w.heap.size w).alloc (Nat.le_refl _) (.cells (LP.map Value.string).toArray 9))
      have HFULL := hide (show ∃ M : List T, M.map bs = LP ∧ M.foldl stepP [] = R from ⟨_, HLP.out, HR.out⟩)
      obtain ⟨n, hn⟩ : ∃ n, LP.length = n := ⟨_, rfl⟩
      have hn2 : n ≤ 19800000 := by omega
      have HN := hide hn
      rw [hn]
      go_wp2
      generalize (some ⟨w.heap.size, 0, none⟩ : Option Addr) = A at HA ⊢
      generalize w.alloc (.cells (LP.map Value.string).toArray 9) = W at HA HB ⊢
      generalize LP = LL at HA HFULL HN)
   | (rw [decide_eq_false hh] at HPR
      rw [if_neg hh] at hR
      have HR := hide hR
      clear hR hh
      go_enter Tryz.func100, Tryz.ntmps100
      go_wp2_with fail
      refine (HSP.out w HM.out).mono ?_
      rintro e w1 ⟨rfl, rfl⟩
      have HA0 := hide (SR.newL w LP 9)
      have hb0 := (Below.refl w.heap.size w).alloc (Nat.le_refl _) (.cells (LP.map Value.string).toArray 9)
      have HB0 := hide hb0
      have HM0 := hide (HM.out.below hb0)
      clear hb0
      go_wp2_with fail
      refine (HPR.out _).mono ?_
      rintro e w' ⟨rfl, rfl⟩
      generalize (some ⟨w.heap.size, 0, none⟩ : Option Addr) = A0 at HA0 ⊢
      generalize w.alloc (.cells (LP.map Value.string).toArray 9) = W0 at HA0 HB0 HM0 ⊢
      go_wp2_with fail
      refine (HSC.out W0 HM0.out).mono ?_
      rintro e w' ⟨rfl, rfl⟩
      have hb1 := (Below.refl W0.heap.size W0).alloc (Nat.le_refl _) (.cells (LC.map Value.string).toArray 9)
      obtain ⟨v, W, hrun, ho, hg, hv⟩ := run_appS (c := LP.length) (OwnS.newL W0 LC (Nat.le_refl _) (by omega)) (HA0.out.below hb1) (by simp) (by omega)
      obtain ⟨A, c, rfl, hlc2, hsr, _⟩ := OwnS.slice ho
      have HA := hide hsr
      have HB := hide (below_up HB0.out (hb1.trans ((Below.refl W0.heap.size _).grown hg (by simp) (fun q hq => by
        injection hq with hq; rw [← hq]; exact Nat.le_refl _))) HB0.out.size)
      have HFULL := hide (show ∃ M : List T, M.map bs = LC ++ LP ∧ M.foldl stepP [] = R from ⟨_, by rw [List.map_append, HLC.out, HLP.out], HR.out⟩)
      have hn2 : (LC ++ LP).length ≤ 19800000 := by rw [List.length_append]; omega
      generalize LC ++ LP = LL at HA HFULL hrun hn2 hlc2
      clear ho hg hv hsr hb1
      go_wp2_with (at_builtin; refine wpList_app_run ?_ (.tmp 15) (.tmp 16) ?_ ?_ ?_ ?_ hrun ?_; exact rfl; exact rfl; exact rfl; exact rfl; exact rfl)
      obtain ⟨n, hn⟩ : ∃ n, LL.length = n := ⟨_, rfl⟩
      rw [hn] at hn2 ⊢
      have HN := hide hn
      clear hrun hlc2 hn)
 all_goals
   clear HSP HSC HPR HM HLP HLC
   obtain ⟨M, hM, hfull⟩ := HFULL.out
   have HFL := hide hfull
   have HMM := hide hM
   clear hM hfull HFULL
   have hn3 : (n : Int) ≤ 19800000 := by omega
   have HML := hide (show M.length = n by have := HN.out; rw [← HMM.out, List.length_map] at this; exact this)
   go_loopw [6, 20] (fun v6 v20 wr => ∃ k : Nat, v20 = .int .i64 k ∧ k ≤ n ∧ OwnS wr W.heap.size v6 (((M.take k).foldl stepP []).map bs) ∧ Below W.heap.size W wr) (fun _ v20 _ => n - (intOf v20).toNat)
   case atStart => exact ⟨0, rfl, by omega, OwnS.nil _ _, Below.refl _ _⟩
   case round =>
     obtain ⟨k, rfl, hk, ho, hbw⟩ := hrel
     have HO := hide ho
     have HAR := hide (HA.out.below hbw)
     have HBW := hide hbw
     clear ho hbw
     by_cases hlt : k < n
     · obtain ⟨x, hx⟩ : ∃ x, M[k]? = some x := ⟨M[k]'(by have := HML.out; omega), gE _⟩
       obtain ⟨g, o, rfl, hg, hc⟩ := HAR.out k (bs x) (by rw [← HMM.out, List.getElem?_map, hx]; rfl)
       have HT := hide (foldl_take hx)
       have b1 : (k : Int) < (n : Int) := by omega
       have hql : ((M.take k).foldl stepP []).length ≤ 19800000 := by
         have := foldl_len (M.take k) []
         rw [List.length_take, List.length_nil] at this
         omega
       clear hx
       generalize (M.take k).foldl stepP [] = Q at HO HT hql
       by_cases e1 : x = []
       · subst e1
         have hem : (bs ([] : T)).toList.isEmpty = true := by rw [bs_toList]; rfl
         go_wp2
         go_roundw
         case rel => exact ⟨k + 1, by go_num, by omega, by rw [HT.out, stepP, if_pos (.inl rfl)]; exact HO.out, HBW.out⟩
         case measure => simp [intOf]; omega
       by_cases e2 : x = [46]
       · subst e2
         have hem : (bs ([46] : T)).toList.isEmpty = false := by rw [bs_toList]; rfl
         have h46 : ((bs ([46] : T)).toList == [46]) = true := by rw [bs_toList]; rfl
         go_wp2
         go_roundw
         case rel => exact ⟨k + 1, by go_num, by omega, by rw [HT.out, stepP, if_pos (.inr rfl)]; exact HO.out, HBW.out⟩
         case measure => simp [intOf]; omega
       have hem : (bs x).toList.isEmpty = false := by rw [bs_toList]; cases x; exact absurd rfl e1; rfl
       have h46 : ((bs x).toList == [46]) = false := by rw [bs_toList]; simpa using e2
       by_cases e3 : x = [46, 46]
       · subst e3
         have h4646 : ((bs ([46, 46] : T)).toList == [46, 46]) = true := by rw [bs_toList]; rfl
         obtain ⟨A2, c2, rfl, hc2, hs2, _⟩ := HO.out.slice
         rw [List.length_map] at hc2 HO ⊢
         have hdl : (Q.dropLast.map bs) = (Q.map bs).take (Q.length - 1) := by rw [List.dropLast_eq_take, List.map_take]
         have HO2 := hide (HO.out.take (k := Q.length - 1) (by simp))
         rw [← hdl] at HO2
         clear hs2 hdl
         obtain ⟨m, hm⟩ : ∃ m, Q.length = m := ⟨_, rfl⟩
         rw [hm] at hc2 HO HO2 hql ⊢
         clear hm HO
         cases m with
         | zero =>
           go_wp2
           go_roundw
           case rel => exact ⟨k + 1, by go_num, by omega, by rw [HT.out, stepP, if_neg (by simp), if_pos rfl]; exact HO2.out, HBW.out⟩
           case measure => simp [intOf]; omega
         | succ m =>
           have hm1 : (m : Int) ≤ 19800000 := by omega
           have hm2 : max (0 : Int) (m : Int) = m := by omega
           go_wp2
           go_roundw
           case rel => exact ⟨k + 1, by go_num, by omega, by rw [HT.out, stepP, if_neg (by simp), if_pos rfl]; exact HO2.out, HBW.out⟩
           case measure => simp [intOf]; omega
       · have h4646 : ((bs x).toList == [46, 46]) = false := by rw [bs_toList]; simpa using e3
         have hb0 : W.heap.size ≤ wr.heap.size := HBW.out.size
         obtain ⟨v4, w4, r4, o4, g4, b4⟩ := run_appS (c := 1) (OwnS.alloc HO.out (.cells #[.string (bs x)] 9)) (sr_new wr (bs x)) (by simp; omega) (by simp; omega)
         have HO4 := hide o4
         have HB4 := hide ((HBW.out.alloc hb0 (.cells #[.string (bs x)] 9)).trans ((Below.refl W.heap.size _).grown g4 (by simp; omega) (fun q hq => (World.ownsRow.lt HO.out q hq).1)))
         clear o4 g4 b4
         go_wp2_with (at_builtin; refine wpList_app_run ?_ (.tmp 25) (.tmp 27) ?_ ?_ ?_ ?_ r4 ?_; exact rfl; exact rfl; exact rfl; exact rfl; exact rfl)
         go_roundw
         case rel => exact ⟨k + 1, by go_num, by omega, by rw [HT.out, stepP, if_neg (by simp [e1, e2]), if_neg e3, List.map_append]; exact HO4.out, HB4.out⟩
         case measure => simp [intOf]; omega
     · obtain rfl : k = n := by omega
       have HF := hide (show (M.take k).foldl stepP [] = R by rw [List.take_of_length_le (by have := HML.out; omega)]; exact HFL.out)
       rw [HF.out] at HO
       go_wp2
       go_ret
       refine ⟨⟨_, rfl, ?_⟩, below_up HB.out HBW.out HB.out.size⟩
       rw [HRR.out]
       exact HO.out.base HB.out.size
end
section
open Go.RowKit Go.Deep Ln Pth
attribute [local go_sem] bt_eq
theorem join_slashed : ∀ l : List T, 47 :: Lib.join l [47] = joinF l
 | [] => rfl
 | s :: l => by
   rw [joinF, if_neg (by simp)]
   induction l generalizing s with
   | nil => rw [Lib.join_one]; simp [slashed]
   | cons t l ih =>
     have := ih t
     rw [slashed_cons' , ← this]
     simp [Lib.join, List.intercalate]
where
 slashed_cons' {s : T} {r : List T} : slashed (s :: r) = 47 :: (s ++ slashed r) := by simp [slashed]
theorem pjoin_any (A : Option Addr) (c : Nat) (l : List T) (w : World) (hA : SR w A (l.map bs)) (hc : l.length ≤ c) (hn : l.length ≤ 66000000) (hl : (joinF l).length ≤ 140737488355328) :
   Calls Tryz.prog 103 #[.slice A l.length c] w fun e w' => e = .returned (.string (bs (joinF l))) ∧ Below w.heap.size w w' := by
 have hjl : (Lib.join l [47]).length ≤ 140737488355328 := by
   have := join_slashed l
   have h2 := congrArg List.length this
   simp only [List.length_cons] at h2
   omega
 have HJ : Hid (Calls Tryz.prog 164 #[.slice A l.length c, .string ⟨#[47]⟩] w fun e w' => e = .returned (.string (bs (Lib.join l [47]))) ∧ Below w.heap.size w w') := by
   cases l with
   | nil => exact hide ((Tryz.strings_Join_none A c ⟨#[47]⟩ w).mono fun e w' ⟨h1, h2⟩ => ⟨h1, h2 ▸ Below.refl _ _⟩)
   | cons s l =>
     obtain ⟨g, o, rfl, hg, _⟩ := hA 0 (bs s) rfl
     have hm : ((s :: l).map bs).map (·.data.toList) = s :: l := by
       rw [List.map_map]
       conv => rhs; rw [← List.map_id (s :: l)]
       apply List.map_congr_left
       intro x _
       exact bs_list x
     have := Tryz.strings_Join g o c ((s :: l).map bs) ⟨#[47]⟩ w (fun j x hj => by
       obtain ⟨g', o', e, _, hc'⟩ := hA j x hj
       injection e with e
       injection e with e1 e2
       subst e1 e2
       exact hc') hg (by rw [List.length_map]; omega) (by rw [List.length_map]; exact hc) (by rw [hm]; show (Lib.join (s :: l) [47]).length ≤ _; omega)
     rw [hm, List.length_map] at this
     exact hide this
 have HE := hide (show (⟨#[47]⟩ : ByteArray) ++ bs (Lib.join l [47]) = bs (joinF l) by rw [← join_slashed l]; exact bs_app [47] _)
 have z1 : (bs (Lib.join l [47])).size ≤ 140737488355328 := by rw [bs_size]; exact hjl
 generalize bs (Lib.join l [47]) = s1 at HJ HE z1
 generalize bs (joinF l) = s2 at HE ⊢
 obtain ⟨n, hn⟩ : ∃ n, l.length = n := ⟨_, rfl⟩
 rw [hn] at HJ ⊢
 clear hA hc hl hjl hn
 go_enter Tryz.func103, Tryz.ntmps103
 go_wp2_with fail
 refine HJ.out.mono ?_
 rintro e w' ⟨rfl, hb⟩
 have HB := hide hb
 clear hb
 go_wp2
 go_ret
 refine ⟨?_, HB.out⟩
 rw [← HE.out]
 rfl
theorem has0_any (l : T) (w : World) : Calls Tryz.prog 96 #[.string (bs l), .string ⟨#[0]⟩] w fun e w' => e = .returned (.bool (decide (0 ∈ l))) ∧ w = w' := by
 have := Tryz.strings_Contains_one (bs l) 0 w
 rw [bs_list, show decide (0 ≤ Lib.indexByte l 0) = decide ((0 : UInt8) ∈ l) from decide_eq_decide.2 (ixb_mem 0 l)] at this
 exact this.mono fun e w' ⟨h1, h2⟩ => ⟨h1, h2.symm⟩
theorem abs1_any (s : ByteArray) (w : World) (h : s.size ≤ 9223372036854775807) : Calls Tryz.prog 102 #[.string s] w fun e w' => e = .returned (.bool (decide (60 < s.size))) ∧ w = w' := by
 have h1 : (s.size : Int) ≤ 9223372036854775807 := by omega
 by_cases hs : 60 < s.size
 · have h2 : (60 : Int) < (s.size : Int) := by omega
   rw [decide_eq_true hs]
   clear hs
   go_enter Tryz.func102, Tryz.ntmps102
   go_wp2
   go_ret
   exact ⟨rfl, rfl⟩
 · have h2 : decide (60 < (s.size : Int)) = false := by simp; omega
   rw [decide_eq_false hs]
   clear hs
   go_enter Tryz.func102, Tryz.ntmps102
   go_wp2
   go_ret
   exact ⟨rfl, rfl⟩
def AbsPost (a : T × Nat) (w : World) (e : Ending) (w' : World) : Prop := e = .returned (.tuple #[.string (bs a.1), .int .i64 a.2]) ∧ Below w.heap.size w w'
theorem partsF_cnt (cwd p : T) : (partsF cwd p).length ≤ (spl 47 cwd).length + (spl 47 p).length := by
 unfold partsF
 refine Nat.le_trans (foldl_len _ _) ?_
 split
 · simp
 · simp
theorem absL_any (cwd p : T) (w : World) (hm : MX w) (h1 : cwd.length ≤ 6600000) (h2 : PB p) (h4 : cwd.length + p.length ≤ 140737488355300) :
   Calls Tryz.prog 48 #[.string (bs cwd), .string (bs p)] w (AbsPost (absF cwd p) w) := by
 have HC0 := hide (fun W => has0_any cwd W)
 have HP0 := hide (fun W => has0_any p W)
 have HPA := hide (fun W h => partsL_any cwd p W h h1 h2)
 have HM := hide hm
 clear hm
 by_cases c1 : p = []
 · subst c1
   have hem : (bs ([] : T)).toList.isEmpty = true := by rw [bs_toList]; rfl
   have HR := hide (show absF cwd [] = ([], 1) from if_pos (.inl rfl))
   go_enter Tryz.func48, Tryz.ntmps48
   go_wp2
   go_ret2
   unfold AbsPost
   rw [HR.out]
   exact ⟨rfl, Below.refl _ _⟩
 have hem : (bs p).toList.isEmpty = false := by rw [bs_toList]; cases p; exact absurd rfl c1; rfl
 by_cases c2 : 0 ∈ cwd
 · rw [decide_eq_true c2] at HC0
   have HR := hide (show absF cwd p = ([], 1) from if_pos (.inr (.inl c2)))
   clear c2
   go_enter Tryz.func48, Tryz.ntmps48
   go_wp2_with fail
   refine (HC0.out _).mono ?_
   rintro e w' ⟨rfl, rfl⟩
   go_wp2
   go_ret2
   unfold AbsPost
   rw [HR.out]
   exact ⟨rfl, Below.refl _ _⟩
 rw [decide_eq_false c2] at HC0
 by_cases c3 : 0 ∈ p
 · rw [decide_eq_true c3] at HP0
   have HR := hide (show absF cwd p = ([], 1) from if_pos (.inr (.inr c3)))
   clear c3 c2
   go_enter Tryz.func48, Tryz.ntmps48
   go_wp2_with fail
   refine (HC0.out _).mono ?_
   rintro e w' ⟨rfl, rfl⟩
   go_wp2_with fail
   refine (HP0.out _).mono ?_
   rintro e w' ⟨rfl, rfl⟩
   go_wp2
   go_ret2
   unfold AbsPost
   rw [HR.out]
   exact ⟨rfl, Below.refl _ _⟩
 rw [decide_eq_false c3] at HP0
 have hR : absF cwd p = if longF (partsF cwd p) = false ∧ (partsF cwd p).length ≤ 20 ∧ (joinF (partsF cwd p)).length ≤ 200 then (joinF (partsF cwd p), 0) else ([], 3) := by
   unfold absF
   rw [if_neg (by rintro (h | h | h); exact c1 h; exact c2 h; exact c3 h)]
 have hpl := partsF_cnt cwd p
 have hsc := spl_len 47 cwd
 have hjl := joinF_len cwd p
 obtain ⟨hz2, hz3⟩ := h2
 obtain ⟨L, hL⟩ : ∃ L, partsF cwd p = L := ⟨_, rfl⟩
 rw [hL] at hR HPA hpl hjl
 have HR := hide hR
 clear c1 c2 c3 hL hR
 go_enter Tryz.func48, Tryz.ntmps48
 go_wp2_with fail
 refine (HC0.out _).mono ?_
 rintro e w' ⟨rfl, rfl⟩
 go_wp2_with fail
 refine (HP0.out _).mono ?_
 rintro e w' ⟨rfl, rfl⟩
 go_wp2_with fail
 refine (HPA.out w HM.out).mono ?_
 rintro e w1 ⟨⟨v, rfl, ho⟩, hb1⟩
 obtain ⟨A, c, rfl, hc, hsr, _⟩ := OwnS.slice ho
 have HA := hide hsr
 have HB1 := hide hb1
 rw [List.length_map] at hc ⊢
 have hln : L.any (fun s => decide (60 < s.length)) = longF L := rfl
 have HCF := hide (contf_any (fun s => decide (60 < s.size)) 102 #[] (fun _ _ => by kernel_rfl) A c (L.map bs) w1 (by rw [List.length_map]; omega) HA.out (fun W x hx hb => by
   obtain ⟨y, hy, rfl⟩ := List.mem_map.1 hx
   refine (abs1_any (bs y) W (by rw [bs_size]; have := hjl.2 y hy; omega)).mono ?_
   rintro e w' ⟨h1, rfl⟩
   exact ⟨h1, hb⟩))
 have hany : (L.map bs).any (fun s => decide (60 < s.size)) = longF L := by
   unfold longF
   rw [List.any_map]
   congr 1
 rw [hany, List.length_map] at HCF
 clear hany hln ho hb1 hsr
 have HPJ := hide (fun W (h : Below w1.heap.size w1 W) => pjoin_any A c L W (HA.out.below h) hc (by omega) (by omega))
 obtain ⟨n, hn⟩ : ∃ n, L.length = n := ⟨_, rfl⟩
 have zj : (bs (joinF L)).size = (joinF L).length := bs_size _
 obtain ⟨J, hJ⟩ : ∃ J, joinF L = J := ⟨_, rfl⟩
 obtain ⟨lg, hlg⟩ : ∃ b, longF L = b := ⟨_, rfl⟩
 obtain ⟨sj, hsj⟩ : ∃ s, bs J = s := ⟨_, rfl⟩
 obtain ⟨jn, hjn⟩ : ∃ s, J.length = s := ⟨_, rfl⟩
 rw [hJ, hjn, hsj] at zj
 rw [hJ, hjn] at hjl
 rw [hn] at HPJ HCF hpl ⊢
 rw [hJ, hsj] at HPJ
 rw [hlg] at HCF
 have hR := HR.out
 rw [hJ, hn, hlg, hjn] at hR
 have HRR := hide hR
 have HSJ := hide hsj
 have hjl1 := hjl.1
 clear hR HR hJ hlg hsj hjn hn hjl hc
 have hn1 : (n : Int) ≤ 19800000 := by omega
 go_wp2_with fail
 refine HCF.out.mono ?_
 rintro e w2 ⟨rfl, hb2⟩
 have HB2 := hide (below_up HB1.out hb2 HB1.out.size)
 have HBJ := hide hb2
 clear hb2
 go_wp2_with fail
 refine (HPJ.out w2 HBJ.out).mono ?_
 rintro e w3 ⟨rfl, hb3⟩
 have HB3 := hide (below_up HB2.out hb3 HB2.out.size)
 clear hb3
 cases lg with
 | true =>
   have HE := hide (show absF cwd p = ([], 3) by rw [HRR.out, if_neg (by simp)])
   go_wp2
   go_ret2
   unfold AbsPost
   rw [HE.out]
   exact ⟨rfl, HB3.out⟩
 | false =>
   by_cases d1 : n ≤ 20
   · by_cases d2 : jn ≤ 200
     · have HE := hide (show absF cwd p = (J, 0) by rw [HRR.out, if_pos ⟨rfl, d1, d2⟩])
       have e1 : (n : Int) ≤ 20 := by omega
       have e2 : (jn : Int) ≤ 200 := by omega
       go_wp2
       go_ret2
       unfold AbsPost
       rw [HE.out, HSJ.out]
       exact ⟨rfl, HB3.out⟩
     · have HE := hide (show absF cwd p = ([], 3) by rw [HRR.out, if_neg (by rintro ⟨_, _, h⟩; exact d2 h)])
       have e1 : (n : Int) ≤ 20 := by omega
       have e2 : decide ((jn : Int) ≤ 200) = false := by simp; omega
       go_wp2
       go_ret2
       unfold AbsPost
       rw [HE.out]
       exact ⟨rfl, HB3.out⟩
   · have HE := hide (show absF cwd p = ([], 3) by rw [HRR.out, if_neg (by rintro ⟨_, h, _⟩; exact d1 h)])
     have e1 : decide ((n : Int) ≤ 20) = false := by simp; omega
     go_wp2
     go_ret2
     unfold AbsPost
     rw [HE.out]
     exact ⟨rfl, HB3.out⟩
theorem abs_any (cwd p : T) (w : World) (hm : MX w) (h1 : cwd.length ≤ 6600000) (h2 : p.length ≤ 6600000) :
   Calls Tryz.prog 48 #[.string (bs cwd), .string (bs p)] w (AbsPost (absF cwd p) w) := absL_any cwd p w hm h1 (.of h2) (by omega)
end
section
open Go.RowKit Go.Deep Ln Pth
attribute [local go_sem] bt_eq
end
section
open Go.RowKit
theorem conv_SB (w : World) (l : List UInt8) (hl : l.length ≤ 1000000) : ∃ c w', (convert 9 29 (.string (bs l))).run Tryz.prog w = .ok (.slice (some ⟨w.heap.size, 0, none⟩) l.length c) w' ∧ RG encB 1 w' (some ⟨w.heap.size, 0, none⟩) l ∧ Below w.heap.size w w' ∧ l.length ≤ c ∧ c ≤ 9223372036854775807 ∧ w.heap.size < w'.heap.size := by
 have h := run_bytes_of_string (P := Tryz.prog) w 9 29 5 (bs l) Tryz.underlying9 Tryz.underlying29 Tryz.underlying5
 have h1 := grownCap_ge w (bs l).size 0 5
 have h2 := grownCap_le_maxLen w (bs l).size 0 5 (by rw [bs_size]; unfold maxLen; omega)
 rw [bs_size] at h h1 h2
 generalize grownCap w l.length 0 5 = C at h h1 h2
 refine ⟨C, _, h, ?_, ?_, h1, by unfold maxLen at h2; omega, by simp⟩
 · intro k x hk
   have hkl := (List.getElem?_eq_some_iff.1 hk).1
   refine ⟨_, _, rfl, by simp, fun j u hj => ?_⟩
   cases j with
   | succ j => simp [encB] at hj
   | zero =>
     have hu : u = .int .u8 x.toNat := by simpa [encB] using hj.symm
     have hx : (bs l).data[k]'(by simpa [bs] using hkl) = x := by
       have := (List.getElem?_eq_some_iff.1 hk).2
       simpa [bs] using this
     have hb := bytesRow_at (bs l) C k (by simpa [bs] using hkl)
     rw [hx] at hb
     rw [hu]
     have hp := heapNewO w.drew (.cells (bytesRow (bs l) C) 5 ((bytesRow (bs l) C).size, (bytesRow (bs l) C).size + 1))
     unfold World.cell?
     rw [show (w.drew).heap.size = w.heap.size from rfl] at hp
     simp only [hp, Nat.zero_add, Nat.mul_one, Nat.add_zero]
     exact hb
 · exact (Below.refl _ _).drew.alloc (Nat.le_refl _) _
where
 heapNewO (w : World) (o : Obj) : (w.alloc o).heap[w.heap.size]? = some o := by
   show (w.heap.push o)[w.heap.size]? = some o
   simp
end
section
open Go.RowKit Go.Deep Go.Maps Ln Pth Vf
attribute [local go_sem] bt_eq
theorem kind_any (g : Nat) (S : St) (q : T) (w : World) (h : Hs (VS g S) w) (hq : q.length ≤ 100000) :
   Calls Tryz.prog 30 #[.pointer (some ⟨g, 0, none⟩), .string (bs q)] w fun e w' => e = .returned (.int .i64 (kindM S.m q)) ∧ Below w.heap.size w w' := by
 obtain ⟨b, P, hgb, hg, hm, hS, _⟩ := VS.opn h
 have hl := nlook hm (s := bs q) (by rw [bs_size]; omega)
 have hc0 := cellOf hg (j := 0) rfl
 have hk : kindM S.m q = if q = [47] then 2 else match getG P (bs q) with
     | none => 0
     | some e => if e.nd.dir = true then 2 else 1 := by
   unfold kindM
   rw [hS, strip_get]
   cases getG P (bs q) <;> rfl
 clear h hg hm hS
 by_cases h1 : q = [47]
 · have ht : ((bs q).toList == [47]) = true := by rw [bs_toList, h1]; rfl
   rw [if_pos h1] at hk
   have HK := hide hk
   clear hk h1
   cases hgp : getG P (bs q) with
   | none =>
     rw [hgp] at hl
     unfold valN zN at hl
     clear hgp
     simp only [Option.isSome_none] at hl
     go_enter Tryz.func30, Tryz.ntmps30
     go_wp2
     go_ret
     refine ⟨?_, (Below.refl _ _).alloc (Nat.le_refl _) _⟩
     rw [HK.out]; rfl
   | some e =>
     rw [hgp] at hl
     unfold valN encN at hl
     clear hgp
     simp only [Option.isSome_some] at hl
     go_enter Tryz.func30, Tryz.ntmps30
     go_wp2
     go_ret
     refine ⟨?_, (Below.refl _ _).alloc (Nat.le_refl _) _⟩
     rw [HK.out]; rfl
 · have ht : ((bs q).toList == [47]) = false := by rw [bs_toList]; simpa using h1
   rw [if_neg h1] at hk
   clear h1
   cases hgp : getG P (bs q) with
   | none =>
     rw [hgp] at hl hk
     unfold valN zN at hl
     have HK := hide hk
     clear hgp hk
     simp only [Option.isSome_none] at hl
     go_enter Tryz.func30, Tryz.ntmps30
     go_wp2
     go_ret
     refine ⟨?_, (Below.refl _ _).alloc (Nat.le_refl _) _⟩
     rw [HK.out]; rfl
   | some e =>
     rw [hgp] at hl hk
     unfold valN encN at hl
     clear hgp
     simp only [Option.isSome_some] at hl hk
     obtain ⟨db, hdb⟩ : ∃ d, e.nd.dir = d := ⟨_, rfl⟩
     rw [hdb] at hl hk
     have HK := hide hk
     clear hk hdb
     cases db with
     | true =>
       go_enter Tryz.func30, Tryz.ntmps30
       go_wp2
       go_ret
       refine ⟨?_, (Below.refl _ _).alloc (Nat.le_refl _) _⟩
       rw [HK.out]; rfl
     | false =>
       go_enter Tryz.func30, Tryz.ntmps30
       go_wp2
       go_ret
       refine ⟨?_, (Below.refl _ _).alloc (Nat.le_refl _) _⟩
       rw [HK.out]; rfl
theorem way_any (g : Nat) (S : St) (q : T) (w : World) (h : Hs (VS g S) w) (hq : q.length ≤ 100000) :
   Calls Tryz.prog 76 #[.pointer (some ⟨g, 0, none⟩), .string (bs q)] w fun e w' => e = .returned (.int .i64 (wayM S.m q)) ∧ Below w.heap.size w w' := by
 have H := hide h
 clear h
 have HK := hide (fun k W (hb : Below w.heap.size w W) => kind_any g S (q.take k) W (H.out.below (VS.fr g S) hb) (by rw [List.length_take]; omega))
 obtain ⟨R, hR⟩ : ∃ R, wayM S.m q = R := ⟨_, rfl⟩
 have HR := hide hR
 rw [hR]
 clear hR
 have hz : (bs q).size = q.length := bs_size q
 obtain ⟨n, hn⟩ : ∃ n, q.length = n := ⟨_, rfl⟩
 have HN := hide hn
 rw [hn] at hq hz
 clear hn
 have hn1 : (n : Int) ≤ 100000 := by omega
 obtain ⟨cp, W, hcv, hrg, hbw, hcp, hcp2, hsz⟩ := conv_SB w q (by rw [HN.out]; omega)
 rw [HN.out] at hcv hcp
 have HRG := hide hrg
 have HBW := hide hbw
 clear hrg hbw hcp hcp2
 go_enter Tryz.func76, Tryz.ntmps76
 go_wp2
 go_loopw [10] (fun v10 wr => ∃ k : Nat, v10 = .int .i64 k ∧ k ≤ n ∧ Hid (wayB S.m q (n - k) k = R) ∧ Below W.heap.size W wr) (fun v10 _ => n - (intOf v10).toNat)
 case atStart => exact ⟨0, rfl, by omega, by have := HR.out; unfold wayM at this; rwa [HN.out] at this, Below.refl _ _⟩
 case round =>
   obtain ⟨k, rfl, hk, HWB, hb⟩ := hrel
   have HB := hide hb
   have HBR := hide (below_up HBW.out hb HBW.out.size)
   have HRR := hide (HRG.out.below hb)
   clear hb
   by_cases hlt : k < n
   · obtain ⟨x, hx⟩ : ∃ x, q[k]? = some x := ⟨q[k]'(by have := HN.out; omega), gE _⟩
     obtain ⟨gs, o, e, hg, hc⟩ := HRR.out k x hx
     injection e with e
     injection e with e1 e2
     subst e1 e2
     have hc1 : wr.cell? ⟨w.heap.size, 0 + k, none⟩ = some (.int .u8 x.toNat) := by
       have := hc 0 _ rfl
       simpa using this
     rw [Nat.zero_add] at hc1
     clear hc
     have b1 : (k : Int) < (n : Int) := by omega
     have hstep : wayB S.m q (n - k) k = if q.getD k 0 ≠ 47 ∨ k = 0 then wayB S.m q (n - (k + 1)) (k + 1) else if kindM S.m (q.take k) = 0 then 6 else if kindM S.m (q.take k) = 1 then 11 else wayB S.m q (n - (k + 1)) (k + 1) := by
       rw [show n - k = (n - (k + 1)) + 1 by omega, wayB, if_neg (by have := HN.out; omega)]
     have hxg : q.getD k 0 = x := by simp [hx]
     rw [hxg, HWB.out] at hstep
     have HST := hide hstep
     clear hx hxg hstep HWB
     have hx256 : x.toNat < 256 := x.toNat_lt
     by_cases e1 : x = 47
     · have hx47 : ((x.toNat : Int) == 47) = true := by rw [e1]; rfl
       have hx47' : ((x.toNat : Int) != 47) = false := by rw [e1]; rfl
       by_cases e2 : k = 0
       · subst e2
         have HN2 := hide (show wayB S.m q (n - (0 + 1)) (0 + 1) = R by rw [HST.out, if_pos (.inr rfl)])
         clear HST
         go_wp2
         go_roundw
         case rel => exact ⟨1, by go_num, by omega, HN2.out, HB.out⟩
         case measure => simp [intOf]; omega
       · have hk0 : ((k : Int) == 0) = false := by simpa using e2
         have HEX := hide (show (bs q).extract 0 k = bs (q.take k) by rw [ext_bs]; simp)
         have HKK := hide (HK.out k wr HBR.out)
         have hst := HST.out
         rw [if_neg (by rintro (h | h); exact h e1; exact e2 h)] at hst
         have HS2 := hide hst
         obtain ⟨kk, hkk⟩ : ∃ kk, kindM S.m (q.take k) = kk := ⟨_, rfl⟩
         rw [hkk] at HKK HS2
         clear hst HST hkk
         rw [← HEX.out] at HKK
         go_wp2_with fail
         refine HKK.out.mono ?_
         rintro e w' ⟨rfl, hb'⟩
         have HB' := hide (below_up HB.out hb' HB.out.size)
         have HBR' := hide (below_up HBR.out hb' HBR.out.size)
         clear hb'
         by_cases k0 : kk = 0
         · subst k0
           have HF := hide (show R = 6 by rw [HS2.out, if_pos rfl])
           go_wp2
           go_ret
           refine ⟨?_, HBR'.out⟩
           rw [HF.out]
           rfl
         by_cases k1 : kk = 1
         · subst k1
           have HF := hide (show R = 11 by rw [HS2.out]; rfl)
           go_wp2
           go_ret
           refine ⟨?_, HBR'.out⟩
           rw [HF.out]
           rfl
         have k0' : ((kk : Int) == 0) = false := by simp; omega
         have k1' : ((kk : Int) == 1) = false := by simp; omega
         have HF := hide (show wayB S.m q (n - (k + 1)) (k + 1) = R by rw [HS2.out, if_neg k0, if_neg k1])
         clear HS2 k0 k1
         go_wp2
         go_roundw
         case rel => exact ⟨k + 1, by go_num, by omega, HF.out, HB'.out⟩
         case measure => simp [intOf]; omega
     · have hx47 : ((x.toNat : Int) == 47) = false := by
         simp only [beq_eq_false_iff_ne]
         intro h
         apply e1
         have h2 : x.toNat = (47 : UInt8).toNat := by have : (47 : UInt8).toNat = 47 := rfl; omega
         exact UInt8.toNat_inj.1 h2
       have hx47' : ((x.toNat : Int) != 47) = true := by simpa using hx47
       have HN2 := hide (show wayB S.m q (n - (k + 1)) (k + 1) = R by rw [HST.out, if_pos (.inl e1)])
       clear HST e1
       go_wp2
       go_roundw
       case rel => exact ⟨k + 1, by go_num, by omega, HN2.out, HB.out⟩
       case measure => simp [intOf]; omega
   · obtain rfl : k = n := by omega
     have HE := hide (show (0 : Nat) = R by rw [← HWB.out, Nat.sub_self]; rfl)
     go_wp2
     go_ret
     refine ⟨?_, HBR.out⟩
     rw [← HE.out]
     rfl
end
section
open Go.RowKit Go.Deep Go.Maps Ln Pth Vf
attribute [local go_sem] bt_eq
theorem absF_len (p : T) : (absF [47] p).1.length ≤ 200 := by
 rcases absF_cases [47] p with ⟨l, g, e, _⟩ | ⟨e, _⟩
 · rw [e]; exact g.len
 · rw [e]; simp
theorem absS_len (S : St) (p : T) : (absS S p).1.length ≤ 200 := by
 unfold absS
 split
 · simp
 · split
   · simp
   · exact absF_len p
theorem fld0 (x y z : Value) (w : World) : (Instr.field 77 (.agg #[x, y, z]) 0).run Tryz.prog w = .ok x w := by kernel_rfl
theorem fld1 (x y z : Value) (w : World) : (Instr.field 77 (.agg #[x, y, z]) 1).run Tryz.prog w = .ok y w := by kernel_rfl
theorem fld2 (x y z : Value) (w : World) : (Instr.field 77 (.agg #[x, y, z]) 2).run Tryz.prog w = .ok z w := by kernel_rfl
theorem mkMap (w : World) : (Instr.makeMap 66 none).run Tryz.prog w = .ok (.map (some w.heap.size)) (w.alloc (.map #[] 0)) := by kernel_rfl
attribute [local go_sem] fld0 fld1 fld2 mkMap
theorem ne0 {n : Nat} (h : n ≠ 0) : ((n : Int) != 0) = true ∧ ((n : Int) == 0) = false := by
 constructor
 · simpa using h
 · simpa using h
theorem vabsL_any (g : Nat) (S : St) (p : T) (w : World) (h : Hs (VS g S) w) (hm : MX w) (hp : PB p) :
   Calls Tryz.prog 29 #[.pointer (some ⟨g, 0, none⟩), .string (bs p)] w (AbsPost (absS S p) w) := by
 have HA := hide (absL_any [47] p w hm (by simp) hp (by have := hp.1; simp; omega))
 have hl := absF_len p
 have HW := hide (fun W (hb : Below w.heap.size w W) => way_any g S (absF [47] p).1 W (h.below (VS.fr g S) hb) (by omega))
 have hR : absS S p = if (absF [47] p).2 ≠ 0 then ([], (absF [47] p).2) else if wayM S.m (absF [47] p).1 ≠ 0 then ([], wayM S.m (absF [47] p).1) else ((absF [47] p).1, 0) := rfl
 unfold AbsPost at HA
 obtain ⟨q, hq⟩ : ∃ q, (absF [47] p).1 = q := ⟨_, rfl⟩
 obtain ⟨e, he⟩ : ∃ q, (absF [47] p).2 = q := ⟨_, rfl⟩
 rw [hq] at HA HW hR hl
 rw [he] at HA hR
 obtain ⟨y, hy⟩ : ∃ y, wayM S.m q = y := ⟨_, rfl⟩
 rw [hy] at HW hR
 have HR := hide hR
 clear hR hq he hy h hm
 by_cases c1 : e = 0
 · subst c1
   go_enter Tryz.func29, Tryz.ntmps29
   go_wp2_with fail
   refine HA.out.mono ?_
   rintro e w1 ⟨rfl, hb⟩
   have HB := hide hb
   clear hb
   go_wp2_with fail
   refine (HW.out w1 HB.out).mono ?_
   rintro e w2 ⟨rfl, hb⟩
   have HB2 := hide (below_up HB.out hb HB.out.size)
   clear hb
   by_cases c2 : y = 0
   · subst c2
     have HE := hide (show absS S p = (q, 0) from HR.out)
     go_wp2
     go_ret2
     unfold AbsPost
     rw [HE.out]
     exact ⟨rfl, HB2.out⟩
   · obtain ⟨t1, t2⟩ := ne0 c2
     have HE := hide (show absS S p = ([], y) by rw [HR.out, if_neg (by simp), if_pos c2])
     clear c2
     go_wp2
     go_ret2
     unfold AbsPost
     rw [HE.out]
     exact ⟨rfl, HB2.out⟩
 · obtain ⟨t1, t2⟩ := ne0 c1
   have HE := hide (show absS S p = ([], e) by rw [HR.out, if_pos c1])
   clear c1
   go_enter Tryz.func29, Tryz.ntmps29
   go_wp2_with fail
   refine HA.out.mono ?_
   rintro e w1 ⟨rfl, hb⟩
   have HB := hide hb
   clear hb
   go_wp2
   go_ret2
   unfold AbsPost
   rw [HE.out]
   exact ⟨rfl, HB.out⟩
theorem vabs_any (g : Nat) (S : St) (p : T) (w : World) (h : Hs (VS g S) w) (hm : MX w) (hp : p.length ≤ 50000) :
   Calls Tryz.prog 29 #[.pointer (some ⟨g, 0, none⟩), .string (bs p)] w (AbsPost (absS S p) w) := vabsL_any g S p w h hm (.of (by omega))
theorem vfound_any (g : Nat) (S : St) (p : T) (w : World) (h : Hs (VS g S) w) (hm : MX w) (hp : p.length ≤ 50000) :
   Calls Tryz.prog 43 #[.pointer (some ⟨g, 0, none⟩), .string (bs p)] w (AbsPost (foundS S p) w) := by
 have HA := hide (vabs_any g S p w h hm hp)
 have hl := absS_len S p
 have HK := hide (fun W (hb : Below w.heap.size w W) => kind_any g S (absS S p).1 W (h.below (VS.fr g S) hb) (by omega))
 have hR : foundS S p = ((absS S p).1, if (absS S p).2 = 0 ∧ kindM S.m (absS S p).1 = 0 then 6 else (absS S p).2) := rfl
 unfold AbsPost at HA
 obtain ⟨q, hq⟩ : ∃ q, (absS S p).1 = q := ⟨_, rfl⟩
 obtain ⟨e, he⟩ : ∃ q, (absS S p).2 = q := ⟨_, rfl⟩
 rw [hq] at HA HK hR hl
 rw [he] at HA hR
 obtain ⟨y, hy⟩ : ∃ y, kindM S.m q = y := ⟨_, rfl⟩
 rw [hy] at HK hR
 have HR := hide hR
 clear hR hq he hy h hm
 by_cases c1 : e = 0
 · subst c1
   go_enter Tryz.func43, Tryz.ntmps43
   go_wp2_with fail
   refine HA.out.mono ?_
   rintro e w1 ⟨rfl, hb⟩
   have HB := hide hb
   clear hb
   go_wp2_with fail
   refine (HK.out w1 HB.out).mono ?_
   rintro e w2 ⟨rfl, hb⟩
   have HB2 := hide (below_up HB.out hb HB.out.size)
   clear hb
   by_cases c2 : y = 0
   · subst c2
     have HE := hide (show foundS S p = (q, 6) from HR.out)
     go_wp2
     go_ret2
     unfold AbsPost
     rw [HE.out]
     exact ⟨rfl, HB2.out⟩
   · obtain ⟨t1, t2⟩ := ne0 c2
     have HE := hide (show foundS S p = (q, 0) by rw [HR.out, if_neg (by rintro ⟨_, h⟩; exact c2 h)])
     clear c2
     go_wp2
     go_ret2
     unfold AbsPost
     rw [HE.out]
     exact ⟨rfl, HB2.out⟩
 · obtain ⟨t1, t2⟩ := ne0 c1
   have HE := hide (show foundS S p = (q, e) by rw [HR.out, if_neg (by rintro ⟨h, _⟩; exact c1 h)])
   clear c1
   go_enter Tryz.func43, Tryz.ntmps43
   go_wp2_with fail
   refine HA.out.mono ?_
   rintro e w1 ⟨rfl, hb⟩
   have HB := hide hb
   clear hb
   go_wp2
   go_ret2
   unfold AbsPost
   rw [HE.out]
   exact ⟨rfl, HB.out⟩
theorem vkind_any (g : Nat) (S : St) (p : T) (w : World) (h : Hs (VS g S) w) (hm : MX w) (hp : p.length ≤ 50000) :
   Calls Tryz.prog 56 #[.pointer (some ⟨g, 0, none⟩), .string (bs p)] w fun e w' => e = .returned (.int .i64 (kindS S p)) ∧ Below w.heap.size w w' := by
 have HA := hide (vabs_any g S p w h hm hp)
 have hl := absS_len S p
 have HK := hide (fun W (hb : Below w.heap.size w W) => kind_any g S (absS S p).1 W (h.below (VS.fr g S) hb) (by omega))
 have hR : kindS S p = if (absS S p).2 ≠ 0 then 0 else kindM S.m (absS S p).1 := rfl
 unfold AbsPost at HA
 obtain ⟨q, hq⟩ : ∃ q, (absS S p).1 = q := ⟨_, rfl⟩
 obtain ⟨e, he⟩ : ∃ q, (absS S p).2 = q := ⟨_, rfl⟩
 rw [hq] at HA HK hR hl
 rw [he] at HA hR
 obtain ⟨y, hy⟩ : ∃ y, kindM S.m q = y := ⟨_, rfl⟩
 rw [hy] at HK hR
 have HR := hide hR
 clear hR hq he hy h hm
 by_cases c1 : e = 0
 · subst c1
   go_enter Tryz.func56, Tryz.ntmps56
   go_wp2_with fail
   refine HA.out.mono ?_
   rintro e w1 ⟨rfl, hb⟩
   have HB := hide hb
   clear hb
   go_wp2_with fail
   refine (HK.out w1 HB.out).mono ?_
   rintro e w2 ⟨rfl, hb⟩
   have HB2 := hide (below_up HB.out hb HB.out.size)
   clear hb
   go_wp2
   go_ret
   refine ⟨?_, HB2.out⟩
   rw [HR.out]
   rfl
 · obtain ⟨t1, t2⟩ := ne0 c1
   have HE := hide (show kindS S p = 0 by rw [HR.out, if_pos c1])
   clear c1
   go_enter Tryz.func56, Tryz.ntmps56
   go_wp2_with fail
   refine HA.out.mono ?_
   rintro e w1 ⟨rfl, hb⟩
   have HB := hide hb
   clear hb
   go_wp2
   go_ret
   refine ⟨?_, HB.out⟩
   rw [HE.out]
   rfl
theorem vnew_any (n b : Int) (w : World) (h1 : -9223372036854775808 ≤ n) (h2 : n ≤ 9223372036854775807) (h3 : -9223372036854775808 ≤ b) (h4 : b ≤ 9223372036854775807) :
   Calls Tryz.prog 8 #[.int .i64 n, .int .i64 b] w fun e w' => e = .returned (.pointer (some ⟨w.heap.size + 1, 0, none⟩)) ∧ Below w.heap.size w w' ∧ VS (w.heap.size + 1) (newS n b) (fun k => w.heap.size ≤ k ∧ k < w'.heap.size) (fun _ => False) w' ∧ w'.heap.size = w.heap.size + 2 := by
 have ho := World.ownsMap_made w Tryz.prog 9 hR
 have e1 : min (max (0 : Int) n) 10000 = ((newS n b).nodes : Nat) := by simp only [newS]; omega
 have e2 : min (max (0 : Int) b) 1048576 = ((newS n b).bytes : Nat) := by simp only [newS]; omega
 have E1 := hide e1
 have E2 := hide e2
 have HO := hide ho
 clear e1 e2 ho
 go_enter Tryz.func8, Tryz.ntmps8
 go_wp2
 go_ret
 have hb1 : Below w.heap.size w (w.alloc (.map #[] 0)) := (Below.refl _ _).alloc (Nat.le_refl _) _
 refine ⟨by simp, hb1.alloc (by simp) _, ?_, by simp⟩
 refine ⟨w.heap.size, [], ⟨by omega, by simp⟩, ⟨Nat.le_refl _, by simp; omega⟩, by omega, ?_, ?_, rfl, fun x hx => by cases hx⟩
 · have := heapNew (w.alloc (.map #[] 0)) (.cells #[.map (some w.heap.size), .int .i64 (min (max 0 n) 10000), .int .i64 (min (max 0 b) 1048576), .int .i64 0, .int .i64 0] 68)
   rw [← E1.out, ← E2.out, show ((newS n b).used : Int) = 0 from rfl, show ((newS n b).clock : Int) = 0 from rfl]
   simpa using this
 · exact MapN.of (w := w.alloc (.map #[] 0)) (own_tightN (P := []) HO.out) (Below.heap_alloc _ _ _ (by simp))
end
section
open Go.RowKit Go.Deep Go.Maps Ln Pth Vf
attribute [local go_sem] bt_eq fld0 fld1 fld2 mkMap
theorem room_any (g : Nat) (S : St) (hS : WfS S) (nodes : Nat) (grows : Int) (w : World) (h : Hs (VS g S) w) (hn : nodes ≤ 10) (h1 : -4000000 ≤ grows) (h2 : grows ≤ 4000000) :
   Calls Tryz.prog 31 #[.pointer (some ⟨g, 0, none⟩), .int .i64 nodes, .int .i64 grows] w fun e w' => e = .returned (.bool (decide ((S.m.length + nodes : Nat) ≤ S.nodes ∧ (S.used : Int) + grows ≤ (S.bytes : Int)))) ∧ Drew w w' := by
 obtain ⟨b, P, hgb, hg, hm, hsm, _⟩ := VS.opn h
 have hlen := nlen (hm.of (w' := w.drew) rfl) 3
 have hc0 := cellOf hg (j := 0) rfl
 have hc1 := cellOf hg (j := 1) rfl
 have hc2 := cellOf hg (j := 2) rfl
 have hc3 := cellOf hg (j := 3) rfl
 have b1 := hS.nodes
 have b2 := hS.bytes
 have b3 := hS.n10
 have b4 := hS.b20
 have hpl : S.m.length = P.length := by rw [hsm, strip_len]
 rw [hpl] at b1 ⊢
 obtain ⟨m, hm'⟩ : ∃ m, P.length = m := ⟨_, rfl⟩
 obtain ⟨sn, hsn⟩ : ∃ m, S.nodes = m := ⟨_, rfl⟩
 obtain ⟨sb, hsb⟩ : ∃ m, S.bytes = m := ⟨_, rfl⟩
 obtain ⟨su, hsu⟩ : ∃ m, S.used = m := ⟨_, rfl⟩
 rw [hm'] at hlen b1 ⊢
 rw [hsn] at hc1 b1 b3 ⊢
 rw [hsb] at hc2 b2 b4 ⊢
 rw [hsu] at hc3 b2 ⊢
 clear h hS hg hm hsm hpl hm' hsn hsb hsu
 have hn1 : (nodes : Int) ≤ 10 := by omega
 have hm1 : (m : Int) ≤ 10000 := by omega
 have hu1 : (su : Int) ≤ 1048576 := by omega
 have k1 : (m : Int) + (nodes : Int) = ((m + nodes : Nat) : Int) := by omega
 have w1 : IntKind.i64.wrap ((m : Int) + (nodes : Int)) = (m : Int) + (nodes : Int) := IntWalk.i64_in _ (by omega)
 have w2 : IntKind.i64.wrap ((su : Int) + grows) = (su : Int) + grows := IntWalk.i64_in _ (by omega)
 by_cases c1 : m + nodes ≤ sn
 · have d1 : (m : Int) + (nodes : Int) ≤ (sn : Int) := by omega
   by_cases c2 : (su : Int) + grows ≤ (sb : Int)
   · have HE := hide (show decide (m + nodes ≤ sn ∧ (su : Int) + grows ≤ (sb : Int)) = true from decide_eq_true ⟨c1, c2⟩)
     clear c1 k1
     go_enter Tryz.func31, Tryz.ntmps31
     go_wp2
     go_region
     go_wp2
     go_ret
     rw [HE.out]
     exact ⟨rfl, ⟨_, rfl⟩⟩
   · have HE := hide (show decide (m + nodes ≤ sn ∧ (su : Int) + grows ≤ (sb : Int)) = false from decide_eq_false (fun h => c2 h.2))
     have d2 : decide ((su : Int) + grows ≤ (sb : Int)) = false := by simp; omega
     clear c1 k1 c2
     go_enter Tryz.func31, Tryz.ntmps31
     go_wp2
     go_region
     go_wp2
     go_ret
     rw [HE.out]
     exact ⟨rfl, ⟨_, rfl⟩⟩
 · have d1 : decide ((m : Int) + (nodes : Int) ≤ (sn : Int)) = false := by simp; omega
   have HE := hide (show decide (m + nodes ≤ sn ∧ (su : Int) + grows ≤ (sb : Int)) = false from decide_eq_false (fun h => c1 h.1))
   clear c1 k1
   go_enter Tryz.func31, Tryz.ntmps31
   go_wp2
   go_region
   go_wp2
   go_ret
   rw [HE.out]
   exact ⟨rfl, ⟨_, rfl⟩⟩
theorem heapSet {w : World} {g j : Nat} {cs : Array Value} {t : TypeId} (h : w.heap[g]? = some (.cells cs t)) (v : Value) : (w.setCell ⟨g, j, none⟩ v).heap[g]? = some (.cells (cs.setIfInBounds j v) t) := by
 unfold World.setCell
 simp [Array.getElem?_modify, h]
theorem put_any (g : Nat) (S : St) (q : T) (e : En) (T N : Nat → Prop) (w : World) (h : VS g S T N w) (ok : OkTN T N w) (hr : RiseG S.m) (hl : S.m.length ≤ 100000) (hq : q.length ≤ 100000) (hc : S.clock ≤ 1000000000) (hd : RG encB 1 w e.A e.nd.data) (hN : ∀ a, e.A = some a → N a.block) :
   Calls Tryz.prog 32 #[.pointer (some ⟨g, 0, none⟩), .string (bs q), encN e] w fun e' w' => e' = .returned (.tuple #[]) ∧ VS g (Vf.putS S q e.nd.dir e.nd.data) T N w' ∧ Kp w w' T := by
 obtain ⟨b, P, h1, h2, hgb, hg, hm, hsm, hx⟩ := h
 have hc0 := cellOf hg (j := 0) rfl
 have hc4 := cellOf hg (j := 4) rfl
 have hf4 := freeOf hg 4
 have hgl := (ok.1 g h1).1
 have hbl := (ok.1 b h2).1
 have hck : (S.clock : Int) ≤ 1000000000 := by omega
 unfold encN
 go_enter Tryz.func32, Tryz.ntmps32
 go_wp2
 obtain ⟨W3, hW3⟩ : ∃ W, (w.setCell ⟨g, 4, none⟩ (.int .i64 ((S.clock : Int) + 1))).alloc (.cells #[.bool e.nd.dir, .slice e.A e.nd.data.length e.c, .int .i64 ((S.clock : Int) + 1)] 77) = W := ⟨_, rfl⟩
 have hsz3 : W3.heap.size = w.heap.size + 1 := by rw [← hW3]; simp
 have hk3 : Kp w W3 (fun k => k = g) := by
   rw [← hW3]
   refine ⟨rfl, rfl, rfl, by simp, fun k hk hne => ?_⟩
   rw [Below.heap_alloc _ _ _ (by simpa using hk)]
   exact Below.heap_setCell _ _ _ _ (by simpa using hne)
 have hg3 : W3.heap[g]? = some (.cells #[.map (some b), .int .i64 S.nodes, .int .i64 S.bytes, .int .i64 S.used, .int .i64 ((S.clock : Int) + 1)] 68) := by
   rw [← hW3, Below.heap_alloc _ _ _ (by simpa using hgl)]
   exact heapSet hg _
 have hb3 : W3.heap[b]? = w.heap[b]? := hk3.block b hbl (fun e => hgb e.symm)
 have hn3 := heapNew (w.setCell ⟨g, 4, none⟩ (.int .i64 ((S.clock : Int) + 1))) (.cells #[.bool e.nd.dir, .slice e.A e.nd.data.length e.c, .int .i64 ((S.clock : Int) + 1)] 77)
 rw [hW3, World.size_setCell] at hn3
 rw [hW3]
 have hc30 := cellOf hg3 (j := 0) rfl
 have hx0 := cellOf hn3 (j := 0) rfl
 have hx1 := cellOf hn3 (j := 1) rfl
 have hx2 := cellOf hn3 (j := 2) rfl
 have hrP : RiseG P := strip_rise.1 (hsm ▸ hr)
 have hlP : P.length ≤ 100000 := by rw [← strip_len, ← hsm]; exact hl
 obtain ⟨w4, hrun, hm4, hk4, hsz4⟩ := nstore (w := W3.drew) (hm.of (hb3.trans rfl)) hrP (by omega) (s := bs q) (by rw [bs_size]; omega) ⟨e.A, e.c, ⟨e.nd.dir, e.nd.data, S.clock + 1⟩⟩
 unfold encN at hrun
 simp only at hrun
 rw [show ((S.clock + 1 : Nat) : Int) = (S.clock : Int) + 1 by omega] at hrun
 have HM4 := hide hm4
 have HK4 := hide hk4
 have HG3 := hide hg3
 have HK3 := hide hk3
 have HSM := hide hsm
 have HX := hide hx
 clear hm4 hk4 hg3 hk3 hsm hx hm hg hb3 hn3 hW3 hc0 hc4
 go_region
 go_end0
 have hkT : Kp w w4 T := by
   have h3 : Kp w W3.drew (fun k => k = g) := ⟨HK3.out.os, HK3.out.tape, HK3.out.output, HK3.out.size, HK3.out.block⟩
   have h4 := (h3.mono (S' := T) (fun k e => by subst e; exact h1)).trans (HK4.out.mono (fun k e => by subst e; exact .inl h2))
   exact h4
 refine ⟨rfl, ⟨b, putG (bs q, ⟨e.A, e.c, ⟨e.nd.dir, e.nd.data, S.clock + 1⟩⟩) P, h1, h2, hgb, ?_, HM4.out, ?_, ?_⟩, hkT⟩
 · have := (HK4.out.block g (show g < W3.heap.size by omega) (fun e => hgb e)).trans HG3.out
   rw [this]
   rfl
 · show putG (bs q, _) S.m = _
   rw [strip_put, HSM.out]
 · intro x hx
   have hdk : ∀ (A : Option Addr) (D : List UInt8), RG encB 1 w A D → (∀ a, A = some a → N a.block) → RG encB 1 w4 A D := fun A D h hn => h.of hkT.size (fun a ea hlt => hkT.block a.block hlt (fun ht => (ok.1 _ ht).2 (hn a ea)))
   rcases mem_putG hx with rfl | hx
   · exact ⟨hdk _ _ hd hN, hN⟩
   · exact ⟨hdk _ _ (HX.out x hx).1 (HX.out x hx).2, (HX.out x hx).2⟩
end
section
open Go.RowKit Go.Deep
abbrev BRow := Option Addr × Nat × List UInt8
def SLB (w : World) (B : Option Addr) (L : List BRow) : Prop := ∀ (k : Nat) (x : BRow), L[k]? = some x → ∃ g o, B = some ⟨g, o, none⟩ ∧ g < w.heap.size ∧ w.cell? ⟨g, o + k, none⟩ = some (.slice x.1 x.2.2.length x.2.1) ∧ RG encB 1 w x.1 x.2.2
theorem SLB.below {w w' : World} {B : Option Addr} {L : List BRow} (h : SLB w B L) (hb : Below w.heap.size w w') : SLB w' B L := fun k x hx => by
 obtain ⟨g, o, e, hg, hc, hr⟩ := h k x hx
 exact ⟨g, o, e, Nat.lt_of_lt_of_le hg hb.size, (hb.cell (p := ⟨g, o + k, none⟩) hg).trans hc, hr.below hb⟩
theorem zeros_len (n : Nat) : (Builtin.zeroCells #[Value.int .u8 0] n).size = n := by
 unfold Builtin.zeroCells
 simp
theorem grow_any (n : Nat) (w : World) (hn : n ≤ 10000000) :
   Calls Tryz.prog 77 #[.slice none 0 0, .int .i64 n] w fun e w' => ∃ v, e = .returned v ∧ OwnG encB 1 5 w' w.heap.size v [] ∧ Below w.heap.size w w' := by
 by_cases h : n = 0
 · subst h
   refine (Any8.slices_Grow_room Tryz.grow77 none 0 0 0 w (by omega) (by omega) (by omega) (by omega)).mono ?_
   rintro e w' ⟨rfl, rfl⟩
   exact ⟨_, rfl, OwnG.nil _ _, Below.refl _ _⟩
 · obtain ⟨i0, hi, hz0, hz1, hz2⟩ := info_parts (rowB.info)
   have := Any8.slices_Grow_grow Tryz.grow77 i0 (.int .u8 0) hi hz0 (by rw [hz1]; omega) none 0 0 n [] w (by omega) (by omega) (by rw [hz2]; show (0 + n) * 1 ≤ _; omega) (by omega) (by simp) (fun _ => rfl) (fun a e => by cases e)
   refine this.mono ?_
   rintro e w' ⟨rfl, rfl⟩
   have g1 := grownCap_ge w (0 + n) 0 (Tryz.grow77_ren.t 25)
   have g2 := grownCap_le_maxLen w (0 + n) 0 (Tryz.grow77_ren.t 25) (by unfold maxLen; omega)
   refine ⟨_, rfl, ⟨rfl, .inr ⟨w.heap.size, _, _, rfl, Nat.le_refl _, heapNewC _ _, by simp, g2, ?_, by simp [valsG]⟩⟩, (Below.refl _ _).drew.alloc (Nat.le_refl _) _⟩
   show (#[] ++ Builtin.zeroCells #[Value.int .u8 0] (0 + n - 0) ++ Builtin.zeroCells #[Value.int .u8 0] (grownCap w (0 + n) 0 (Tryz.grow77_ren.t 25) - (0 + n))).size = _
   rw [Array.size_append, Array.size_append, zeros_len, zeros_len]
   simp only [List.size_toArray, List.length_nil]
   omega
where
 heapNewC (w : World) (o : Obj) : (w.alloc o).heap[w.heap.size]? = some o := by
   show (w.heap.push o)[w.heap.size]? = some o
   simp
def sumB (L : List BRow) : Nat := (L.map fun x => x.2.2.length).sum
def catB (L : List BRow) : List UInt8 := L.flatMap fun x => x.2.2
theorem sumB_take {L : List BRow} {k : Nat} {x : BRow} (h : L[k]? = some x) : sumB (L.take (k + 1)) = sumB (L.take k) + x.2.2.length := by
 unfold sumB
 rw [List.take_add_one, h]
 simp
theorem catB_take {L : List BRow} {k : Nat} {x : BRow} (h : L[k]? = some x) : catB (L.take (k + 1)) = catB (L.take k) ++ x.2.2 := by
 unfold catB
 rw [List.take_add_one, h]
 simp
theorem sumB_le (L : List BRow) (k : Nat) : sumB (L.take k) ≤ sumB L := by
 unfold sumB
 rw [List.map_take]
 conv => rhs; rw [← List.take_append_drop k (L.map _), List.sum_append]
 omega
theorem catB_len (L : List BRow) : (catB L).length = sumB L := by
 unfold catB sumB
 induction L with
 | nil => rfl
 | cons x L ih => simp [ih]
theorem concat_any (B : Option Addr) (c : Nat) (L : List BRow) (w : World) (hA : SLB w B L) (hl : L.length ≤ 1000) (hs : sumB L ≤ 900000) :
   Calls Tryz.prog 33 #[.slice B L.length c] w fun e w' => (∃ v, e = .returned v ∧ OwnG encB 1 5 w' w.heap.size v (catB L)) ∧ Below w.heap.size w w' := by
 have HA := hide hA
 clear hA
 obtain ⟨n, hn⟩ : ∃ n, L.length = n := ⟨_, rfl⟩
 have HN := hide hn
 rw [hn] at hl ⊢
 clear hn
 have hn1 : (n : Int) ≤ 1000 := by omega
 go_enter Tryz.func33, Tryz.ntmps33
 go_wp2
 go_loop [3, 5, 11] (fun v3 _ v11 => ∃ k s : Nat, v11 = .int .i64 k ∧ k ≤ n ∧ v3 = .int .i64 s ∧ Hid (s = sumB (L.take k)) ∧ s ≤ 900000) (fun _ _ v11 => n - (intOf v11).toNat)
 case atStart => exact ⟨0, 0, rfl, by omega, rfl, rfl, by omega⟩
 case round =>
   obtain ⟨k, s, rfl, hk, rfl, HS, hs2⟩ := hrel
   by_cases hlt : k < n
   · obtain ⟨x, hx⟩ : ∃ x, L[k]? = some x := ⟨L[k]'(by have := HN.out; omega), gE _⟩
     obtain ⟨g, o, rfl, hg, hc, hr⟩ := HA.out k x hx
     have HT := hide (sumB_take hx)
     have hle := sumB_le L (k + 1)
     rw [HT.out, ← HS.out] at hle
     have b1 : (k : Int) < (n : Int) := by omega
     obtain ⟨m, hm⟩ : ∃ m, x.2.2.length = m := ⟨_, rfl⟩
     rw [hm] at hc hle HT
     clear hx hr hm
     have b2 : (s : Int) ≤ 900000 := by omega
     have b3 : (m : Int) ≤ 900000 := by omega
     go_wp2
     go_round
     case rel => exact ⟨k + 1, s + m, by go_num, by omega, by go_num, show s + m = sumB (L.take (k + 1)) by rw [HT.out, ← HS.out], by omega⟩
     case measure => simp [intOf]; omega
   · obtain rfl : k = n := by omega
     have HS3 := hide (show s = sumB L by rw [HS.out, List.take_of_length_le (by have := HN.out; omega)])
     have HG := hide (grow_any s w (by omega))
     clear HS
     go_wp2_with fail
     refine HG.out.mono ?_
     rintro e w1 ⟨v, rfl, ho, hb⟩
     have HO1 := hide ho
     have HB1 := hide hb
     clear ho hb
     go_wp2
     go_loopw [6, 8, 27] (fun v6 _ v27 wr => ∃ j : Nat, v27 = .int .i64 j ∧ j ≤ k ∧ OwnG encB 1 5 wr w.heap.size v6 (catB (L.take j)) ∧ Below w.heap.size w wr) (fun _ _ v27 _ => k - (intOf v27).toNat)
     case atStart => exact ⟨0, rfl, by omega, HO1.out, HB1.out⟩
     case round =>
       obtain ⟨j, rfl, hj, ho, hb⟩ := hrel
       have HO := hide ho
       have HB := hide hb
       have HAR := hide (HA.out.below hb)
       clear ho hb
       by_cases hlt2 : j < k
       · obtain ⟨x, hx⟩ : ∃ x, L[j]? = some x := ⟨L[j]'(by have := HN.out; omega), gE _⟩
         obtain ⟨g, o, rfl, hg, hc, hr⟩ := HAR.out j x hx
         have hbw : w.heap.size ≤ wr.heap.size := HB.out.size
         have hlen : (catB (L.take j)).length + x.2.2.length ≤ 1000000 := by
           have h1 := sumB_take hx
           have h2 := sumB_le L (j + 1)
           rw [catB_len]
           omega
         obtain ⟨v', w4, r4, o4, g4, b4⟩ := run_appY (c := x.2.1) HO.out hr hbw hlen
         have HO4 := hide o4
         have HT := hide (catB_take hx)
         have HB4 := hide (HB.out.trans ((Below.refl w.heap.size _).grown g4 hbw (fun q hq => (HO.out.lt q hq).1)))
         have b1 : (j : Int) < (k : Int) := by omega
         clear o4 g4 b4 hx hr
         go_wp2_with (at_builtin; refine wpList_app_run ?_ (.tmp 31) (.tmp 32) ?_ ?_ ?_ ?_ r4 ?_; exact rfl; exact rfl; exact rfl; exact rfl; exact rfl)
         go_roundw
         case rel => exact ⟨j + 1, by go_num, by omega, by rw [HT.out]; exact HO4.out, HB4.out⟩
         case measure => simp [intOf]; omega
       · obtain rfl : j = k := by omega
         have HF := hide (show catB (L.take j) = catB L by rw [List.take_of_length_le (by have := HN.out; omega)])
         rw [HF.out] at HO
         go_wp2
         go_ret
         exact ⟨⟨_, rfl, HO.out⟩, HB.out⟩
end
section
open Go.RowKit Go.Deep Go.Maps Ln Pth Vf
attribute [local go_sem] bt_eq fld0 fld1 fld2 mkMap
def FsPost (g : Nat) (r : St × Nat) (T N : Nat → Prop) (w : World) (e : Ending) (w' : World) : Prop := e = .returned (.int .i64 r.2) ∧ ∃ N', VS g r.1 T N' w' ∧ GrowN w w' T N T N' ∧ Kp w w' T
theorem VS.stay {g : Nat} {S : St} {T N : Nat → Prop} {w w' : World} (h : VS g S T N w) (ok : OkTN T N w) (hb : Below w.heap.size w w') : VS g S T N w' ∧ OkTN T N w' :=
 ⟨VS.fr g S T N N w w' h (fun k hk => hb.block k (hk.elim (fun h => (ok.1 k h).1) (ok.2 k))) (fun _ h => h) hb.size, (GrowN.refl ok hb.size).2.2.2⟩
theorem FsPost.stay {g : Nat} {S : St} {n : Nat} {T N : Nat → Prop} {w w' : World} (h : VS g S T N w) (ok : OkTN T N w) (hb : Below w.heap.size w w') : FsPost g (S, n) T N w (.returned (.int .i64 n)) w' :=
 ⟨rfl, N, (h.stay ok hb).1, GrowN.refl ok hb.size, Kp.of_below hb T⟩
theorem VS.used {g : Nat} {S : St} {T N : Nat → Prop} {w : World} (h : VS g S T N w) (ok : OkTN T N w) (u : Nat) (hk : Kp w (w.setCell ⟨g, 3, none⟩ (.int .i64 u)) (fun k => k = g)) : VS g { S with used := u } T N (w.setCell ⟨g, 3, none⟩ (.int .i64 u)) ∧ OkTN T N (w.setCell ⟨g, 3, none⟩ (.int .i64 u)) := by
 obtain ⟨b, P, h1, h2, hgb, hg, hm, hsm, hx⟩ := h
 refine ⟨⟨b, P, h1, h2, hgb, heapSet hg _, hm.of (hk.block b (ok.1 b h2).1 (fun e => hgb e.symm)), hsm, fun x hx' => ⟨(hx x hx').1.of hk.size (fun a ea hlt => hk.block a.block hlt (fun e => (ok.1 g h1).2 (by rw [← e]; exact (hx x hx').2 a ea))), (hx x hx').2⟩⟩, (GrowN.refl ok hk.size).2.2.2⟩
theorem kpSet (w : World) (g j : Nat) (v : Value) : Kp w (w.setCell ⟨g, j, none⟩ v) (fun k => k = g) :=
 ⟨rfl, rfl, rfl, by simp, fun k _ hne => Below.heap_setCell _ _ _ _ (by simpa using hne)⟩
theorem node_at {g : Nat} {S : St} {w : World} (h : Hs (VS g S) w) (q : T) (hq : q.length ≤ 100000) : ∃ (b : Nat) (db : Bool) (A : Option Addr) (c tm : Nat), w.cell? ⟨g, 0, none⟩ = some (.map (some b)) ∧
   (Instr.lookup 66 (.map (some b)) (.string (bs q)) false).run Tryz.prog w = .ok (.agg #[.bool db, .slice A (dataM S.m q).length c, .int .i64 tm]) w ∧ RG encB 1 w A (dataM S.m q) ∧ tm = timeM S.m q ∧ (∀ n, getG S.m (bs q) = some n → db = n.dir) := by
 obtain ⟨b, P, hgb, hg, hm, hS, hx⟩ := VS.opn h
 have hlk := nlook1 hm (s := bs q) (by rw [bs_size]; omega)
 unfold dataM timeM
 rw [hS, strip_get]
 cases hgp : getG P (bs q) with
 | none =>
   rw [hgp] at hlk
   exact ⟨b, false, none, 0, 0, cellOf hg (j := 0) rfl, hlk, RG.nil _ _, rfl, fun n hn => by cases hn⟩
 | some e =>
   rw [hgp] at hlk
   exact ⟨b, e.nd.dir, e.A, e.c, e.nd.time, cellOf hg (j := 0) rfl, hlk, hx _ (getG_mem hgp), rfl, fun n hn => by injection hn with hn; rw [← hn]⟩
theorem rg_set {w : World} {g : Nat} {mb : Option Nat} {a b c d : Int} {t : TypeId} (hg : w.heap[g]? = some (.cells #[.map mb, .int .i64 a, .int .i64 b, .int .i64 c, .int .i64 d] t)) {A : Option Addr} {D : List UInt8} (h : RG encB 1 w A D) (j : Nat) (v : Value) : RG encB 1 (w.setCell ⟨g, j, none⟩ v) A D := by
 intro k x hk
 obtain ⟨g', o, e, hlt, hc⟩ := h k x hk
 refine ⟨g', o, e, by simpa using hlt, fun i u hu => ?_⟩
 have h1 := hc i u hu
 by_cases e2 : g' = g
 · subst e2
   exfalso
   cases i with
   | succ i => simp [encB] at hu
   | zero =>
     have hu2 : u = .int .u8 x.toNat := by simpa [encB] using hu.symm
     subst hu2
     unfold World.cell? at h1
     simp only [hg] at h1
     generalize o + k * 1 + 0 = z at h1
     match z, h1 with
     | 0, h1 => simp at h1
     | 1, h1 => simp at h1
     | 2, h1 => simp at h1
     | 3, h1 => simp at h1
     | 4, h1 => simp at h1
     | z + 5, h1 => simp at h1
 · exact (World.cell?_of_block (a := ⟨g', o + k * 1 + i, none⟩) (Below.heap_setCell _ _ _ _ (by simpa using e2))).trans h1
theorem slb_two (w : World) {A1 A2 : Option Addr} {c1 c2 : Nat} {D1 D2 : List UInt8} (h1 : RG encB 1 w A1 D1) (h2 : RG encB 1 w A2 D2) (t : TypeId) :
   SLB (w.alloc (.cells #[.slice A1 D1.length c1, .slice A2 D2.length c2] t)) (some ⟨w.heap.size, 0, none⟩) [(A1, c1, D1), (A2, c2, D2)] := by
 have hb : Below w.heap.size w (w.alloc (.cells #[.slice A1 D1.length c1, .slice A2 D2.length c2] t)) := (Below.refl _ _).alloc (Nat.le_refl _) _
 have hn := heapNew w (.cells #[.slice A1 D1.length c1, .slice A2 D2.length c2] t)
 intro k x hk
 match k, hk with
 | 0, hk =>
   simp at hk
   subst hk
   exact ⟨_, _, rfl, by simp, cellOf hn rfl, h1.below hb⟩
 | 1, hk =>
   simp at hk
   subst hk
   exact ⟨_, _, rfl, by simp, cellOf hn rfl, h2.below hb⟩
 | k + 2, hk => simp at hk
theorem room_int (g : Nat) (S : St) (hS : WfS S) (nodes grows : Int) (w : World) (h : Hs (VS g S) w) (h0 : 0 ≤ nodes) (hn : nodes ≤ 10) (h1 : -4000000 ≤ grows) (h2 : grows ≤ 4000000) :
   Calls Tryz.prog 31 #[.pointer (some ⟨g, 0, none⟩), .int .i64 nodes, .int .i64 grows] w fun e w' => e = .returned (.bool (decide ((S.m.length : Int) + nodes ≤ S.nodes ∧ (S.used : Int) + grows ≤ (S.bytes : Int)))) ∧ Drew w w' := by
 obtain ⟨k, rfl⟩ := Int.eq_ofNat_of_zero_le h0
 have := room_any g S hS k grows w h (by omega) h1 h2
 rwa [show decide ((S.m.length + k : Nat) ≤ S.nodes ∧ (S.used : Int) + grows ≤ (S.bytes : Int)) = decide ((S.m.length : Int) + (k : Int) ≤ S.nodes ∧ (S.used : Int) + grows ≤ (S.bytes : Int)) from decide_eq_decide.2 (by omega)] at this
def moreN (N : Nat → Prop) (A : Option Addr) (k : Nat) : Prop := N k ∨ ∃ a, A = some a ∧ k = a.block
theorem VS.more {g : Nat} {S : St} {T N : Nat → Prop} {w w' : World} (h : VS g S T N w) (ok : OkTN T N w) (hb : Below w.heap.size w w') {A : Option Addr} (hn : ∀ a, A = some a → w.heap.size ≤ a.block ∧ a.block < w'.heap.size) :
   VS g S T (moreN N A) w' ∧ GrowN w w' T N T (moreN N A) := by
 have hs := hb.size
 refine ⟨VS.fr g S T N _ w w' h (fun k hk => hb.block k (hk.elim (fun h => (ok.1 k h).1) (ok.2 k))) (fun k h => .inl h) hs, fun k h => .inl h, fun k h => .inl h, ?_, ?_, ?_⟩
 · rintro k (h | ⟨a, e, rfl⟩)
   · exact .inl h
   · exact .inr (hn a e).1
 · intro k hk
   refine ⟨Nat.lt_of_lt_of_le (ok.1 k hk).1 hs, ?_⟩
   rintro (h | ⟨a, e, rfl⟩)
   · exact (ok.1 k hk).2 h
   · have := (hn a e).1; have := (ok.1 _ hk).1; omega
 · rintro k (h | ⟨a, e, rfl⟩)
   · exact Nat.lt_of_lt_of_le (ok.2 k h) hs
   · exact (hn a e).2
theorem concat_two (g : Nat) (A1 A2 : Option Addr) (c1 c2 : Nat) (D1 D2 : List UInt8) (w : World) (h : SLB w (some ⟨g, 0, none⟩) [(A1, c1, D1), (A2, c2, D2)]) (h1 : D1.length ≤ 400000) (h2 : D2.length ≤ 400000) :
   Calls Tryz.prog 33 #[.slice (some ⟨g, 0, none⟩) 2 2] w fun e w' => (∃ A c, e = .returned (.slice A (D1 ++ D2).length c) ∧ RG encB 1 w' A (D1 ++ D2) ∧ ∀ a, A = some a → w.heap.size ≤ a.block ∧ a.block < w'.heap.size) ∧ Below w.heap.size w w' := by
 have hc : catB [(A1, c1, D1), (A2, c2, D2)] = D1 ++ D2 := by simp [catB]
 have := concat_any (some ⟨g, 0, none⟩) 2 [(A1, c1, D1), (A2, c2, D2)] w h (by simp) (by simp [sumB]; omega)
 rw [hc] at this
 refine this.mono ?_
 rintro e w' ⟨⟨v, rfl, ho⟩, hb⟩
 obtain ⟨A, c, rfl, _, hr, ha, _⟩ := ho.slice encB_len
 exact ⟨⟨A, c, rfl, hr, fun a e => ho.lt _ (ha a e)⟩, hb⟩
theorem writeL_any (g : Nat) (S : St) (p b : T) (more : Bool) (A : Option Addr) (c : Nat) (T N : Nat → Prop) (w : World) (h : VS g S T N w) (ok : OkTN T N w) (hS : WfS S) (hm : MX w) (hp : PB p) (hby : S.bytes ≤ 400000) (hbl : b.length ≤ 400000) (hck : S.clock ≤ 1000000000) (hr : RG encB 1 w A b) :
   Calls Tryz.prog 10 #[.pointer (some ⟨g, 0, none⟩), .string (bs p), .slice A b.length c, .bool more] w (FsPost g (writeS S p b more) T N w) := by
 have HH : Hs (VS g S) w := ⟨T, N, h, ok⟩
 have HA := hide (vabsL_any g S p w HH hm hp)
 have hl := absS_len S p
 have hR : writeS S p b more = if (absS S p).2 ≠ 0 then (S, (absS S p).2) else writeQ S (absS S p).1 b more := rfl
 unfold AbsPost at HA
 obtain ⟨q, hq⟩ : ∃ q, (absS S p).1 = q := ⟨_, rfl⟩
 obtain ⟨e, he⟩ : ∃ q, (absS S p).2 = q := ⟨_, rfl⟩
 rw [hq] at HA hR hl
 rw [he] at HA hR
 have HR := hide hR
 have H := hide h
 have OK := hide ok
 have HRG := hide hr
 have HWF := hide hS
 have HHS := hide HH
 have d2 := dataM_len hS q
 have u1 := hS.bytes
 obtain ⟨n, hn⟩ : ∃ n, b.length = n := ⟨_, rfl⟩
 have HN := hide hn
 rw [hn] at hbl ⊢
 clear hR he h ok hr hS HH hn hq hm
 by_cases c1 : e = 0
 case neg =>
   obtain ⟨t1, t2⟩ := ne0 c1
   have HE := hide (show writeS S p b more = (S, e) by rw [HR.out, if_pos c1])
   clear c1
   go_enter Tryz.func10, Tryz.ntmps10
   go_wp2_with fail
   refine HA.out.mono ?_
   rintro e w1 ⟨rfl, hb⟩
   have HB := hide hb
   clear hb
   go_wp2
   go_ret
   rw [HE.out]
   exact FsPost.stay H.out OK.out HB.out
 subst c1
 have hRQ := HR.out
 rw [if_neg (by simp)] at hRQ
 unfold writeQ at hRQ
 have HK := hide (fun W (hb : Below w.heap.size w W) => kind_any g S q W (HHS.out.below (VS.fr g S) hb) (by omega))
 obtain ⟨kk, hkk⟩ : ∃ y, kindM S.m q = y := ⟨_, rfl⟩
 rw [hkk] at HK hRQ
 by_cases k2 : kk = 2
 · subst k2
   have HE := hide (show writeS S p b more = (S, 10) by rw [hRQ]; rfl)
   clear hRQ hkk
   go_enter Tryz.func10, Tryz.ntmps10
   go_wp2_with fail
   refine HA.out.mono ?_
   rintro e w1 ⟨rfl, hb⟩
   have HB := hide hb
   clear hb
   go_wp2_with fail
   refine (HK.out w1 HB.out).mono ?_
   rintro e w2 ⟨rfl, hb⟩
   have HB2 := hide (below_up HB.out hb HB.out.size)
   clear hb
   go_wp2
   go_ret
   rw [HE.out]
   exact FsPost.stay H.out OK.out HB2.out
 have k2' : ((kk : Int) == 2) = false := by simp; omega
 rw [if_neg k2] at hRQ
 simp only at hRQ
 obtain ⟨m, hmm⟩ : ∃ n, (dataM S.m q).length = n := ⟨_, rfl⟩
 rw [hmm] at hRQ d2
 obtain ⟨nd, hnd⟩ : ∃ nd : Nat, (if kk = 0 then 1 else 0) = nd := ⟨_, rfl⟩
 obtain ⟨was, hwas⟩ : ∃ x, (if more = true then dataM S.m q else []) = x := ⟨_, rfl⟩
 rw [hnd, hwas] at hRQ
 have HRQ := hide hRQ
 have HMM := hide hmm
 clear hRQ hkk k2 hmm
 have hbl1 : (n : Int) ≤ 400000 := by omega
 have hm1 : (m : Int) ≤ 400000 := by omega
 go_enter Tryz.func10, Tryz.ntmps10
 go_wp2_with fail
 refine HA.out.mono ?_
 rintro e w1 ⟨rfl, hb⟩
 have HB := hide hb
 clear hb
 go_wp2_with fail
 refine (HK.out w1 HB.out).mono ?_
 rintro e w2 ⟨rfl, hb⟩
 have HB2 := hide (below_up HB.out hb HB.out.size)
 clear hb
 obtain ⟨bm, db, A0, c0, tm, hc0, hlk, hr0, _, _⟩ := node_at (HHS.out.below (VS.fr g S) HB2.out) q (by omega)
 rw [HMM.out] at hlk
 have HR0 := hide hr0
 clear hr0
 have HWAS := hide hwas
 have HND := hide hnd
 clear hnd hwas
 by_cases k0 : kk = 0
 all_goals
   first
     | (subst k0
        have hnd : nd = 1 := by rw [← HND.out]; rfl)
     | (have k0' : ((kk : Int) == 0) = false := by simp; omega
        have hnd : nd = 0 := by rw [← HND.out, if_neg k0])
   cases more
 all_goals
   have hwl := congrArg List.length HWAS.out
   first
     | rw [if_pos rfl, HMM.out] at hwl
     | (rw [if_neg (by simp)] at hwl
        simp only [List.length_nil] at hwl)
   have HROOM := hide (show ∀ (W : World) (hb : Below w.heap.size w W) (nodes grows : Int) (h1 : nodes = nd) (h2 : grows = (was.length : Int) + n - m), Calls Tryz.prog 31 #[.pointer (some ⟨g, 0, none⟩), .int .i64 nodes, .int .i64 grows] W fun e w' => ∃ rb, e = .returned (.bool rb) ∧ (rb = true ↔ (S.m.length + nd ≤ S.nodes ∧ S.used + (was.length + b.length) ≤ S.bytes + m)) ∧ Drew W w' from by
     intro W hb nodes grows h1 h2
     refine (room_int g S HWF.out nodes grows W (HHS.out.below (VS.fr g S) hb) (by omega) (by omega) (by omega) (by omega)).mono ?_
     rintro e w' ⟨rfl, h⟩
     refine ⟨_, rfl, ?_, h⟩
     rw [decide_eq_true_iff]
     have := HN.out
     omega)
   have HND2 := hide hnd
   have HWL := hide hwl
   clear hnd hwl
   go_wp2_with fail
   refine Calls.mono (HROOM.out _ HB2.out _ _ ?h1 ?h2) ?_
   case h1 => have := HND2.out; omega
   case h2 => have := HWL.out; omega
   rintro e w3 ⟨rb, rfl, hrb, hd3⟩
   have HB3 := hide (below_up HB2.out hd3.below HB2.out.size)
   have HRB := hide hrb
   have HD3 := hide hd3
   clear hd3 hrb
   cases rb with
   | false =>
     have HE := hide (HRQ.out.trans (if_neg (fun h => by have := HRB.out.2 h; cases this)))
     go_wp2
     go_ret
     rw [HE.out]
     exact FsPost.stay H.out OK.out HB3.out
   | true =>
     obtain ⟨hv3, ok3⟩ := H.out.stay OK.out HB3.out
     have HV3 := hide hv3
     have OK3 := hide ok3
     obtain ⟨b3, P3, _, _, _, hg3, _⟩ := hv3
     have hc3 := cellOf hg3 (j := 3) rfl
     have hf3 := freeOf hg3 3
     have hgl := World.block_lt_of_cell? _ _ hc3
     clear ok3
     have hg3' := hg3
     have HG3 := hide hg3
     clear hg3
     have hbb := HN.out
     obtain ⟨u, hu⟩ : ∃ u, S.used + (was.length + b.length) - m = u := ⟨_, rfl⟩
     have HU := hide hu
     have HRA := hide (rg_set hg3' (HRG.out.below HB3.out) 3 (.int .i64 (u : Int)))
     have hr03 := HR0.out.drew HD3.out
     have HRO := hide (rg_set hg3' hr03 3 (.int .i64 (u : Int)))
     have hcond := HRB.out.1 rfl
     have huz : u ≤ 400000 := by omega
     have HE := hide (HRQ.out.trans (if_pos hcond))
     rw [hu] at HE
     have humi : (u : Int) = (S.used : Int) + (was.length + n) - m := by omega
     have HUM := hide humi
     clear hg3' hr03 hbb hcond hu humi
     go_wp2_with fail
     first
       | (have hw : was = [] := by have h := HWAS.out; simp at h; first | exact h | exact h.symm
          subst hw
          have HSL := hide (slb_two (w3.setCell ⟨g, 3, none⟩ (.int .i64 (u : Int))) (A1 := none) (c1 := 0) (D1 := []) (c2 := c) (RG.nil _ _) HRA.out 29)
          rw [show (S.used : Int) + ((n : Int) - (m : Int)) = (u : Int) by have := HUM.out; simp only [List.length_nil] at this; omega])
       | (have hw : was = dataM S.m q := by have h := HWAS.out; simp at h; exact h.symm
          have HSL := hide (slb_two (w3.setCell ⟨g, 3, none⟩ (.int .i64 (u : Int))) (c1 := c0) (c2 := c) HRO.out HRA.out 29)
          rw [← hw, ← HWL.out] at HSL
          clear hw
          rw [show (S.used : Int) + (n : Int) = (u : Int) by have := HUM.out; have := HWL.out; omega])
     all_goals
       rw [HN.out] at HSL
       have hsz4 : (w3.setCell ⟨g, 3, none⟩ (.int .i64 (u : Int))).heap.size = w3.heap.size := by simp
       rw [hsz4] at HSL
       obtain ⟨hv4, ok4⟩ := VS.used HV3.out OK3.out u (kpSet w3 g 3 (.int .i64 (u : Int)))
       have hk4 : Kp w (w3.setCell ⟨g, 3, none⟩ (.int .i64 (u : Int))) T := (Kp.of_below HB3.out T).trans ((kpSet w3 g 3 (.int .i64 (u : Int))).mono (fun k e => by subst e; exact .inl (by obtain ⟨_, _, h1, _⟩ := H.out; exact h1)))
       have HV4 := hide hv4
       have OK4 := hide ok4
       have HK4 := hide hk4
       clear hv4 ok4 hk4
       generalize hW4 : (World.setCell w3 ⟨g, 3, none⟩ (.int .i64 (u : Int))).alloc _ = W4 at HSL ⊢
       have hb4 : Below (World.setCell w3 ⟨g, 3, none⟩ (.int .i64 (u : Int))).heap.size (World.setCell w3 ⟨g, 3, none⟩ (.int .i64 (u : Int))) W4 := by rw [← hW4]; exact (Below.refl _ _).alloc (Nat.le_refl _) _
       have HB4 := hide hb4
       clear hb4 hW4
       have HCC := hide (concat_two w3.heap.size _ _ _ _ _ _ W4 HSL.out (by first | (simp; done) | (have := HWL.out; omega)) (by have := HN.out; omega))
       generalize hD5 : _ ++ b = D5 at HCC
       have HD5 := hide hD5
       obtain ⟨n5, hn5'⟩ : ∃ n, D5.length = n := ⟨_, rfl⟩
       rw [hn5'] at HCC
       have HN5' := hide hn5'
       clear hD5 hn5'
       go_wp2_with fail
       refine HCC.out.mono ?_
       rintro e w5 ⟨⟨A5, c5, rfl, hr5, hn5⟩, hb5⟩
       have HR5 := hide hr5
       have HN5 := hide hn5
       have HB5 := hide (below_up HB4.out hb5 HB4.out.size)
       clear hr5 hn5 hb5 HCC HSL
       obtain ⟨hv5, hgr5⟩ := HV4.out.more OK4.out HB5.out (A := A5) (fun a e => ⟨Nat.le_trans HB4.out.size (HN5.out a e).1, (HN5.out a e).2⟩)
       have HP := put_any g { S with used := u } q ⟨A5, c5, ⟨false, D5, 0⟩⟩ T _ w5 hv5 hgr5.2.2.2 HWF.out.rise (by show S.m.length ≤ 100000; have := HWF.out.nodes; have := HWF.out.n10; omega) (by omega) hck HR5.out (fun a e => .inr ⟨a, e, rfl⟩)
       unfold encN at HP
       simp only at HP
       rw [show ((0 : Nat) : Int) = 0 from rfl, HN5'.out] at HP
       have HPP := hide HP
       have HGR := hide hgr5
       clear HP hv5 hgr5
       go_wp2_with fail
       have h9 := HPP.out
       with_reducible refine Calls.mono h9 ?_
       rintro e w6 ⟨rfl, hv6, hk6⟩
       have HV6 := hide hv6
       have HK6 := hide hk6
       clear hv6 hk6
       go_wp2
       go_ret
       rw [HE.out, HD5.out]
       refine ⟨rfl, _, HV6.out, ?_, ?_⟩
       · have g1 := HGR.out
         have s1 := HK4.out.size
         have s2 := HK6.out.size
         exact ⟨fun k h => .inl h, g1.2.1, fun k h => (g1.2.2.1 k h).imp_right (fun h => Nat.le_trans s1 h), fun k hk => ⟨Nat.lt_of_lt_of_le (g1.2.2.2.1 k hk).1 s2, (g1.2.2.2.1 k hk).2⟩, fun k hk => Nat.lt_of_lt_of_le (g1.2.2.2.2 k hk) s2⟩
       · exact (HK4.out.trans (Kp.of_below HB5.out _)).trans (HK6.out.mono (fun k h => .inl h))
theorem write_any (g : Nat) (S : St) (p b : T) (more : Bool) (A : Option Addr) (c : Nat) (T N : Nat → Prop) (w : World) (h : VS g S T N w) (ok : OkTN T N w) (hS : WfS S) (hm : MX w) (hp : p.length ≤ 50000) (hby : S.bytes ≤ 400000) (hbl : b.length ≤ 400000) (hck : S.clock ≤ 1000000000) (hr : RG encB 1 w A b) :
   Calls Tryz.prog 10 #[.pointer (some ⟨g, 0, none⟩), .string (bs p), .slice A b.length c, .bool more] w (FsPost g (writeS S p b more) T N w) := writeL_any g S p b more A c T N w h ok hS hm (.of (by omega)) hby hbl hck hr
end
section
open Go.RowKit Go.Deep Go.Maps Ln Pth Vf
attribute [local go_sem] bt_eq fld0 fld1 fld2 mkMap
theorem mkdir_any (g : Nat) (S : St) (p : T) (T N : Nat → Prop) (w : World) (h : VS g S T N w) (ok : OkTN T N w) (hS : WfS S) (hm : MX w) (hp : p.length ≤ 50000) (hck : S.clock ≤ 1000000000) :
   Calls Tryz.prog 17 #[.pointer (some ⟨g, 0, none⟩), .string (bs p)] w (FsPost g (mkdirS S p) T N w) := by
 have HH : Hs (VS g S) w := ⟨T, N, h, ok⟩
 have HA := hide (vabs_any g S p w HH hm hp)
 have hl := absS_len S p
 have hR : mkdirS S p = if (absS S p).2 ≠ 0 then (S, (absS S p).2) else if kindM S.m (absS S p).1 ≠ 0 then (S, 12) else if S.m.length + 1 ≤ S.nodes ∧ S.used ≤ S.bytes then (Vf.putS S (absS S p).1 true [], 0) else (S, 13) := rfl
 unfold AbsPost at HA
 obtain ⟨q, hq⟩ : ∃ q, (absS S p).1 = q := ⟨_, rfl⟩
 obtain ⟨e, he⟩ : ∃ q, (absS S p).2 = q := ⟨_, rfl⟩
 rw [hq] at HA hR hl
 rw [he] at HA hR
 have HK := hide (fun W (hb : Below w.heap.size w W) => kind_any g S q W (HH.below (VS.fr g S) hb) (by omega))
 have HROOM := hide (fun W (hb : Below w.heap.size w W) => room_int g S hS 1 0 W (HH.below (VS.fr g S) hb) (by omega) (by omega) (by omega) (by omega))
 obtain ⟨kk, hkk⟩ : ∃ y, kindM S.m q = y := ⟨_, rfl⟩
 rw [hkk] at HK hR
 have HR := hide hR
 have H := hide h
 have OK := hide ok
 have HWF := hide hS
 clear hR he h ok hS HH hq hm hkk
 by_cases c1 : e = 0
 case neg =>
   obtain ⟨t1, t2⟩ := ne0 c1
   have HE := hide (HR.out.trans (if_pos c1))
   clear c1
   go_enter Tryz.func17, Tryz.ntmps17
   go_wp2_with fail
   refine HA.out.mono ?_
   rintro e w1 ⟨rfl, hb⟩
   have HB := hide hb
   clear hb
   go_wp2
   go_ret
   rw [HE.out]
   exact FsPost.stay H.out OK.out HB.out
 subst c1
 have hRQ := HR.out.trans (if_neg (by simp))
 by_cases k0 : kk = 0
 case neg =>
   obtain ⟨t1, t2⟩ := ne0 k0
   have HE := hide (hRQ.trans (if_pos k0))
   clear k0 hRQ
   go_enter Tryz.func17, Tryz.ntmps17
   go_wp2_with fail
   refine HA.out.mono ?_
   rintro e w1 ⟨rfl, hb⟩
   have HB := hide hb
   clear hb
   go_wp2_with fail
   refine (HK.out w1 HB.out).mono ?_
   rintro e w2 ⟨rfl, hb⟩
   have HB2 := hide (below_up HB.out hb HB.out.size)
   clear hb
   go_wp2
   go_ret
   rw [HE.out]
   exact FsPost.stay H.out OK.out HB2.out
 subst k0
 have HRQ := hide (hRQ.trans (if_neg (by simp)))
 clear hRQ
 go_enter Tryz.func17, Tryz.ntmps17
 go_wp2_with fail
 refine HA.out.mono ?_
 rintro e w1 ⟨rfl, hb⟩
 have HB := hide hb
 clear hb
 go_wp2_with fail
 refine (HK.out w1 HB.out).mono ?_
 rintro e w2 ⟨rfl, hb⟩
 have HB2 := hide (below_up HB.out hb HB.out.size)
 clear hb
 go_wp2_with fail
 refine (HROOM.out w2 HB2.out).mono ?_
 rintro e w3 ⟨rfl, hd⟩
 have HB3 := hide (below_up HB2.out hd.below HB2.out.size)
 clear hd
 obtain ⟨rb, hrb⟩ : ∃ rb, decide ((S.m.length : Int) + 1 ≤ S.nodes ∧ (S.used : Int) + 0 ≤ (S.bytes : Int)) = rb := ⟨_, rfl⟩
 rw [hrb]
 have HRB := hide (show rb = true ↔ (S.m.length + 1 ≤ S.nodes ∧ S.used ≤ S.bytes) by rw [← hrb, decide_eq_true_iff]; omega)
 clear hrb
 cases rb with
 | false =>
   have HE := hide (HRQ.out.trans (if_neg (fun h => by have := HRB.out.2 h; cases this)))
   go_wp2
   go_ret
   rw [HE.out]
   exact FsPost.stay H.out OK.out HB3.out
 | true =>
   have HE := hide (HRQ.out.trans (if_pos (HRB.out.1 rfl)))
   obtain ⟨hv3, ok3⟩ := H.out.stay OK.out HB3.out
   have HP := put_any g S q ⟨none, 0, ⟨true, [], 0⟩⟩ T N w3 hv3 ok3 HWF.out.rise (by have := HWF.out.nodes; have := HWF.out.n10; omega) (by omega) hck (RG.nil _ _) (fun a e => by cases e)
   unfold encN at HP
   simp only [List.length_nil] at HP
   rw [show ((0 : Nat) : Int) = 0 from rfl] at HP
   have HPP := hide HP
   have OK3 := hide ok3
   clear HP hv3 ok3
   go_wp2_with fail
   refine HPP.out.mono ?_
   rintro e w6 ⟨rfl, hv6, hk6⟩
   have HV6 := hide hv6
   have HK6 := hide hk6
   clear hv6 hk6
   go_wp2
   go_ret
   rw [HE.out]
   exact ⟨rfl, N, HV6.out, GrowN.refl OK.out (Nat.le_trans HB3.out.size HK6.out.size), (Kp.of_below HB3.out T).trans (HK6.out.mono (fun k h => .inl h))⟩
end
end Go.Proofs.YtmcophlmcloooaaGreatDoor
