/- Walks of slices.IndexFunc and slices.ContainsFunc at rules, for a function that may make memory. -/
import Derived.Test.YtmblmenafplccaaDoorFindWalkA
import Derived.Deep.LoopGhost
namespace Go.Proofs.YtmblmenafplccaaDoor
open Go.RowKit Go.Deep
/-- where the first is, and whether there is one -/
def IdxPostR (p : Rl → Bool) (L : List Rl) (w : World) (e : Ending) (w' : World) : Prop := ∃ i : Int, e = .returned (.int .i64 i) ∧ decide (0 ≤ i) = L.any p ∧ Below w.heap.size w w'
end Go.Proofs.YtmblmenafplccaaDoor
