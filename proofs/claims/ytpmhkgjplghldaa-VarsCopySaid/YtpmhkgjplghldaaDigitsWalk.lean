/- Walk of the reference's Digits. -/
import Derived.Test.YtpmhkgjplghldaaQBaseB
import Derived.Test.YtpmhkgjplghldaaDigitsMath
namespace Go.Proofs.Ytpmhkgjplghldaa
open Go.RowKit Go.Deep Qm.Base
/-- a text out of its bytes -/
def ds (l : List Nat) : ByteArray := strOfNums (l.map fun n : Nat => (n : Int))
theorem ds_size (l : List Nat) : (ds l).size = l.length := by simp [ds, strOfNums_size]
theorem ds_app (a b : List Nat) : ds a ++ ds b = ds (a ++ b) := by
  apply ByteArray.ext
  simp [ds, strOfNums]
theorem ds_digit {k : Nat} (h : k < 10) : (⟨#[48, 49, 50, 51, 52, 53, 54, 55, 56, 57]⟩ : ByteArray).extract k (k + 1) = ds [48 + k] := by
  have h2 : k = 0 ∨ k = 1 ∨ k = 2 ∨ k = 3 ∨ k = 4 ∨ k = 5 ∨ k = 6 ∨ k = 7 ∨ k = 8 ∨ k = 9 := by omega
  rcases h2 with rfl | rfl | rfl | rfl | rfl | rfl | rfl | rfl | rfl | rfl <;> rfl
end Go.Proofs.Ytpmhkgjplghldaa
