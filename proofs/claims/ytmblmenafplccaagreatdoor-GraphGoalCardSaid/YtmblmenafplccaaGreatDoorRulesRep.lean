/- Rules of a makefile in memory; what is asked of them. -/
import Derived.Test.YtmblmenafplccaaGreatDoorRowG
import Derived.Test.YtmblmenafplccaaGreatDoorStrsWalk
import Derived.Lib.SlicesS
namespace Go.Proofs.YtmblmenafplccaaGreatDoor
open Go.RowKit
/-- a list of texts, where it lies -/
abbrev SRow := Option Addr × Nat × List ByteArray
def sv (x : SRow) : Value := .slice x.1 x.2.2.length x.2.1
/-- a rule: targets, needs, recipe -/
structure Rl where
  tg : SRow
  nd : SRow
  rc : SRow
def encRl (r : Rl) : List Value := [sv r.tg, sv r.nd, sv r.rc]
theorem encRl_len (r : Rl) : (encRl r).length = 3 := rfl
structure RlOk (w : World) (r : Rl) : Prop where
  tg : SR w r.tg.1 r.tg.2.2
  nd : SR w r.nd.1 r.nd.2.2
  rc : SR w r.rc.1 r.rc.2.2
  t1 : r.tg.2.2.length ≤ 100000
  n1 : r.nd.2.2.length ≤ 100000
  r1 : r.rc.2.2.length ≤ 100000
theorem RlOk.below {w w' : World} {r : Rl} (h : RlOk w r) (hb : Below w.heap.size w w') : RlOk w' r := ⟨h.tg.below hb, h.nd.below hb, h.rc.below hb, h.t1, h.n1, h.r1⟩
def RLS (w : World) (A : Option Addr) (L : List Rl) : Prop := RG encRl 3 w A L ∧ ∀ r ∈ L, RlOk w r
theorem RLS.below {w w' : World} {A : Option Addr} {L : List Rl} (h : RLS w A L) (hb : Below w.heap.size w w') : RLS w' A L := ⟨h.1.below hb, fun r hr => (h.2 r hr).below hb⟩
/-- whether a target is a pattern's -/
def isP (s : ByteArray) : Bool := decide ((37 : UInt8) ∈ s.data.toList)
def plainR (L : List ByteArray) : Bool := !L.any isP
def ofR (name : ByteArray) (r : Rl) : Bool := plainR r.tg.2.2 && Lib.containsS r.tg.2.2 name
def specialR (L : List Rl) (name : ByteArray) : List ByteArray := L.flatMap fun r => if ofR name r = true then r.nd.2.2 else []
def knownR (L : List Rl) (name : ByteArray) : Bool := L.any (ofR name)
def hasR (L : List Rl) (name target : ByteArray) : Bool := Lib.containsS (specialR L name) target || (decide ((specialR L name).length = 0) && knownR L name)
theorem special_take {L : List Rl} {k : Nat} {r : Rl} (h : L[k]? = some r) (name : ByteArray) : specialR (L.take (k + 1)) name = specialR (L.take k) name ++ if ofR name r = true then r.nd.2.2 else [] := by
  unfold specialR
  rw [List.take_add_one, h]
  simp
end Go.Proofs.YtmblmenafplccaaGreatDoor
