/- Walk of the law's alive; what touches leave. -/
import Derived.Test.YtmblmenafplccaaDoorAgeWalkB
import Derived.Test.YtmblmenafplccaaDoorVfsWalkE
namespace Go.Proofs.YtmblmenafplccaaDoor
open Go.RowKit Go.Deep Go.Maps Ln Pth Vf
attribute [local go_sem] bt_eq

theorem hs_of {g : Nat} {S : St} {T N : Nat → Prop} {w : World} (h : VS g S T N w) (ok : OkTN T N w) : Hs (VS g S) w := ⟨T, N, h, ok⟩
theorem ev1 : oldS (newS 3 10) [47] [] ⟨#[97]⟩ [] [] = true := by kernel_rfl
theorem ev2 : (writeS (newS 3 10) [47, 97] [] false).2 = 0 := by kernel_rfl
theorem ev3 : oldS (writeS (newS 3 10) [47, 97] [] false).1 [47] [] ⟨#[97]⟩ [] [] = false := by kernel_rfl
theorem rls_nil (w : World) (A : Option Addr) : RLS w A [] := ⟨RG.nil _ _, fun r h => by cases h⟩
/-- a new file system, in its two blocks -/
def T0 (b : Nat) (k : Nat) : Prop := b ≤ k ∧ k < b + 2
end Go.Proofs.YtmblmenafplccaaDoor
