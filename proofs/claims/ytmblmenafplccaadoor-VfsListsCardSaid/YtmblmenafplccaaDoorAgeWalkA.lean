/- Walks of age.node, age.Newer and age.Old. -/
import Derived.Test.YtmblmenafplccaaDoorVfsWalkB
import Derived.Test.YtmblmenafplccaaDoorFindWalkB
namespace Go.Proofs.YtmblmenafplccaaDoor
open Go.RowKit Go.Deep Go.Maps Ln Pth Vf
attribute [local go_sem] bt_eq

/-- whether something is at a path, and its time -/
def nodeS (S : St) (cwd : T) (s : ByteArray) : Bool × Nat := if (absF cwd s.data.toList).2 ≠ 0 ∨ kindS S (absF cwd s.data.toList).1 = 0 then (false, 0) else (true, timeS S (absF cwd s.data.toList).1)
def newerS (S : St) (cwd : T) (target : ByteArray) (L : List ByteArray) : List ByteArray := L.filter fun s => !(nodeS S cwd target).1 || decide ((nodeS S cwd target).2 < (nodeS S cwd s).2)
def phony : ByteArray := ⟨#[46, 80, 72, 79, 78, 89]⟩
def madeS (S : St) (cwd : T) (m : List Rl) (made : List ByteArray) (s : ByteArray) : Bool := Lib.containsS made s && (!(nodeS S cwd s).1 || hasR m phony s)
def oldS (S : St) (cwd : T) (m : List Rl) (target : ByteArray) (needs made : List ByteArray) : Bool := !(nodeS S cwd target).1 || hasR m phony target || decide (0 < (newerS S cwd target needs).length) || needs.any (madeS S cwd m made)
theorem absF_len' (cwd p : T) : (absF cwd p).1.length ≤ 200 := by
  rcases absF_cases cwd p with ⟨l, g, e, _⟩ | ⟨e, _⟩
  · rw [e]; exact g.len
  · rw [e]; simp
theorem newer_take {S : St} {cwd : T} {target : ByteArray} {L : List ByteArray} {k : Nat} {x : ByteArray} (h : L[k]? = some x) : newerS S cwd target (L.take (k + 1)) = newerS S cwd target (L.take k) ++ if (!(nodeS S cwd target).1 || decide ((nodeS S cwd target).2 < (nodeS S cwd x).2)) = true then [x] else [] := by
  unfold newerS
  rw [List.take_add_one, h, List.filter_append]
  congr 1
  by_cases hc : (!(nodeS S cwd target).1 || decide ((nodeS S cwd target).2 < (nodeS S cwd x).2)) = true
  · rw [if_pos hc]; simp only [Option.toList_some, List.filter_cons, hc, if_true, List.filter_nil]
  · rw [if_neg hc]; simp only [Option.toList_some, List.filter_cons, hc, List.filter_nil]; rfl
end Go.Proofs.YtmblmenafplccaaDoor
