/- Walks of find.Known and find.Has. -/
import Derived.Test.YtmblmenafplccaaDoorContRule
namespace Go.Proofs.YtmblmenafplccaaDoor
open Go.RowKit Go.Deep
attribute [local go_sem] bt_eq

theorem special_len_take (L : List Rl) (name : ByteArray) (k : Nat) : (specialR (L.take k) name).length ≤ (specialR L name).length := by
  unfold specialR
  conv => rhs; rw [← List.take_append_drop k L, List.flatMap_append, List.length_append]
  omega
end Go.Proofs.YtmblmenafplccaaDoor
