/- Walk of the reference's Lines. -/
import Derived.Test.YtkocnbehogefnaaDoorLinesRefD
import Derived.Test.YtkocnbehogefnaaDoorLinesWalkE
namespace Go.Proofs.YtkocnbehogefnaaDoor
open Go.RowKit Go.Deep Ln
attribute [local go_sem] bt_eq

theorem oddB_nl (a n : T) : oddB (a ++ 10 :: n) = oddB n := by
  unfold oddB
  rw [List.reverse_append, List.reverse_cons, List.append_assoc]
  have h : ∀ r : T, (r ++ ([10] ++ a.reverse)).takeWhile (· == (92 : UInt8)) = r.takeWhile (· == 92) := by
    intro r
    induction r with
    | nil => rfl
    | cons c r ih => rw [List.cons_append, List.takeWhile_cons, List.takeWhile_cons, ih]
  rw [h]
theorem dropTab_if (x : T) : dropTab x = if x.headD 0 = 9 then x.tail else x := by
  unfold dropTab
  split
  · rfl
  · rename_i h
    rw [if_neg]
    intro hc
    cases x with
    | nil => revert hc; decide
    | cons c x =>
      obtain rfl : c = 9 := hc
      exact h x rfl
/-- the first byte of a text, as the walk tests it -/
theorem hd_yes {y : T} (h : y.headD 0 = 9) : (bs y).toList.isEmpty = false ∧ (((bt (bs y) 0 : Nat) : Int) == 9) = true ∧ 0 < (bs y).size ∧ (bs y).extract 1 (bs y).size = bs y.tail := by
  cases y with
  | nil => revert h; decide
  | cons c y =>
    obtain rfl : c = 9 := h
    refine ⟨by rw [isE]; rfl, by rw [bt_bs]; rfl, by rw [bs_size]; simp, by rw [ext_bs, bs_size]; simp⟩
theorem hd_no {y : T} (h : ¬ y.headD 0 = 9) : (bs y).toList.isEmpty = true ∨ ((bs y).toList.isEmpty = false ∧ (((bt (bs y) 0 : Nat) : Int) == 9) = false ∧ 0 < (bs y).size) := by
  cases y with
  | nil => left; rw [isE]; rfl
  | cons c y =>
    right
    refine ⟨by rw [isE]; rfl, ?_, by rw [bs_size]; simp⟩
    have := getD_nat (c :: y) 0 9 (by omega)
    rw [show (9 : Int) = ((9 : Nat) : Int) from rfl, this]
    simpa using h
theorem recF_stop {rest : List T} {s acc : T} (h : oddB s = false ∨ rest = []) : recF rest s acc = (acc, rest) := by
  cases rest with
  | nil => rfl
  | cons n rest =>
    rcases h with h | h
    · rw [recF, if_neg (by rw [h]; decide)]
    · cases h
end Go.Proofs.YtkocnbehogefnaaDoor
