/- Walk of age.Old. -/
import Derived.Test.YtmblmenafplccaaDoorAgeWalkA
namespace Go.Proofs.YtmblmenafplccaaDoor
open Go.RowKit Go.Deep Go.Maps Ln Pth Vf
attribute [local go_sem] bt_eq

end Go.Proofs.YtmblmenafplccaaDoor
