/- What touches of three paths leave, and what is out of date then. -/
import Derived.Test.YtdilfbimkepllaaDoorAgeWalkB
namespace Go.Proofs.YtdilfbimkepllaaDoor
open Go.RowKit Go.Deep Go.Maps Ln Pth Vf

def optN (nm : T) : Nat → Mp
  | 0 => []
  | n + 1 => [(bs nm, ⟨false, [], n + 1⟩)]
/-- three paths, touched last at these times -/
def mkT (x0 x1 x2 i : Nat) : St := ⟨optN [47, 97] x0 ++ (optN [47, 98] x1 ++ optN [47, 99] x2), 10, 10, 0, i⟩
theorem mkT_new : newS 10 10 = mkT 0 0 0 0 := by kernel_rfl
theorem touch0 (x0 x1 x2 i : Nat) : touchS (mkT x0 x1 x2 i) [47, 97] = (mkT (i + 1) x1 x2 (i + 1), 0) := by
  cases x0 <;> cases x1 <;> cases x2 <;> kernel_rfl
theorem touch1 (x0 x1 x2 i : Nat) : touchS (mkT x0 x1 x2 i) [47, 98] = (mkT x0 (i + 1) x2 (i + 1), 0) := by
  cases x0 <;> cases x1 <;> cases x2 <;> kernel_rfl
theorem touch2 (x0 x1 x2 i : Nat) : touchS (mkT x0 x1 x2 i) [47, 99] = (mkT x0 x1 (i + 1) (i + 1), 0) := by
  cases x0 <;> cases x1 <;> cases x2 <;> kernel_rfl
theorem node0 (x0 x1 x2 i : Nat) : nodeS (mkT x0 x1 x2 i) [47] ⟨#[97]⟩ = (decide (x0 ≠ 0), x0) := by
  cases x0 <;> cases x1 <;> cases x2 <;> kernel_rfl
theorem node1 (x0 x1 x2 i : Nat) : nodeS (mkT x0 x1 x2 i) [47] ⟨#[98]⟩ = (decide (x1 ≠ 0), x1) := by
  cases x0 <;> cases x1 <;> cases x2 <;> kernel_rfl
theorem node2 (x0 x1 x2 i : Nat) : nodeS (mkT x0 x1 x2 i) [47] ⟨#[99]⟩ = (decide (x2 ≠ 0), x2) := by
  cases x0 <;> cases x1 <;> cases x2 <;> kernel_rfl
def bcL : List ByteArray := [⟨#[98]⟩, ⟨#[99]⟩]
theorem hasNil (t : ByteArray) : hasR [] phony t = false := by
  unfold hasR specialR knownR
  rfl
theorem newer_len (x0 x1 x2 i : Nat) (h0 : x0 ≠ 0) : decide (0 < (newerS (mkT x0 x1 x2 i) [47] ⟨#[97]⟩ bcL).length) = (decide (x0 < x1) || decide (x0 < x2)) := by
  unfold newerS bcL
  rw [node0]
  simp only [List.filter_cons, List.filter_nil, node1, node2]
  by_cases h1 : x0 < x1 <;> by_cases h2 : x0 < x2 <;> simp [h0, h1, h2]
theorem newer_len0 (x1 x2 i : Nat) : (newerS (mkT 0 x1 x2 i) [47] ⟨#[97]⟩ bcL).length = 2 := by
  unfold newerS bcL
  rw [node0]
  rfl
theorem old_mk (x0 x1 x2 i : Nat) : oldS (mkT x0 x1 x2 i) [47] [] ⟨#[97]⟩ bcL [] = (decide (x0 = 0) || (decide (x0 < x1) || decide (x0 < x2))) := by
  unfold oldS
  rw [hasNil, node0]
  by_cases h0 : x0 = 0
  · simp [h0]
  · rw [newer_len _ _ _ _ h0]
    have : bcL.any (madeS (mkT x0 x1 x2 i) [47] [] []) = false := by
      unfold bcL madeS
      rfl
    rw [this]
    simp [h0]
theorem mkT_wf (x0 x1 x2 i : Nat) : WfS (mkT x0 x1 x2 i) := by
  have : ∀ x0 x1 x2, RiseG (mkT x0 x1 x2 i).m := by
    intro x0 x1 x2
    have l1 : sLt (bs [47, 97]) (bs [47, 98]) = true := by kernel_rfl
    have l2 : sLt (bs [47, 97]) (bs [47, 99]) = true := by kernel_rfl
    have l3 : sLt (bs [47, 98]) (bs [47, 99]) = true := by kernel_rfl
    cases x0 <;> cases x1 <;> cases x2 <;> simp [mkT, optN, RiseG, l1, l2, l3]
  refine ⟨this _ _ _, fun x hx => ?_, ?_, ?_, by simp [mkT], by simp [mkT], by simp [mkT]⟩
  · have hg : ∀ c : UInt8, c = 97 ∨ c = 98 ∨ c = 99 → GoodP [[c]] := by
      rintro c (rfl | rfl | rfl) <;> exact ⟨by simp [okN], by simp, by simp, by simp, by simp [joinF, slashed]⟩
    have hm : ∀ (nm : T) y, x ∈ optN nm y → x.1 = bs nm := by
      intro nm y h
      cases y with
      | zero => cases h
      | succ y => simp [optN] at h; rw [h]
    simp only [mkT, List.mem_append] at hx
    rcases hx with h | h | h
    · exact ⟨[[97]], hg _ (.inl rfl), by simp, hm _ _ h⟩
    · exact ⟨[[98]], hg _ (.inr (.inl rfl)), by simp, hm _ _ h⟩
    · exact ⟨[[99]], hg _ (.inr (.inr rfl)), by simp, hm _ _ h⟩
  · cases x0 <;> cases x1 <;> cases x2 <;> rfl
  · cases x0 <;> cases x1 <;> cases x2 <;> simp [mkT, optN]
end Go.Proofs.YtdilfbimkepllaaDoor
