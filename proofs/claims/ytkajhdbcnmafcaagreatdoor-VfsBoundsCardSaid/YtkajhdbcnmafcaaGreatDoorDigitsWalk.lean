/- Numbers written in digits; no program in sight. Walk of the reference's Digits. -/
import Derived.Test.YtkajhdbcnmafcaaGreatDoorQBase
namespace Qm.Base
/-- a number's digits, as bytes -/
def dgL (n : Nat) : List Nat := if h : n < 10 then [48 + n] else dgL (n / 10) ++ [48 + n % 10]
termination_by n
decreasing_by omega
theorem dgL_small {n : Nat} (h : n < 10) : dgL n = [48 + n] := by rw [dgL, dif_pos h]
theorem dgL_big {n : Nat} (h : ¬ n < 10) : dgL n = dgL (n / 10) ++ [48 + n % 10] := by rw [dgL, dif_neg h]
def dgV (l : List Nat) : Nat := l.foldl (fun a d => a * 10 + (d - 48)) 0
theorem dgV_snoc (l : List Nat) (d : Nat) : dgV (l ++ [d]) = dgV l * 10 + (d - 48) := by simp [dgV]
theorem dgV_dgL (n : Nat) : dgV (dgL n) = n := by
  induction n using Nat.strongRecOn with
  | ind n ih =>
    by_cases h : n < 10
    · rw [dgL_small h]; simp [dgV]
    · rw [dgL_big h, dgV_snoc, ih (n / 10) (by omega)]
      omega
theorem dgL_inj {a b : Nat} (h : dgL a = dgL b) : a = b := by rw [← dgV_dgL a, ← dgV_dgL b, h]
theorem dgL_mem (n : Nat) : ∀ c ∈ dgL n, 48 ≤ c ∧ c ≤ 57 := by
  induction n using Nat.strongRecOn with
  | ind n ih =>
    intro c hc
    by_cases h : n < 10
    · rw [dgL_small h] at hc
      simp at hc
      omega
    · rw [dgL_big h] at hc
      rcases List.mem_append.1 hc with hc | hc
      · exact ih _ (by omega) c hc
      · simp at hc
        omega
theorem dgL_len (n : Nat) : ∀ k, n < 10 ^ (k + 1) → (dgL n).length ≤ k + 1 := by
  induction n using Nat.strongRecOn with
  | ind n ih =>
    intro k hk
    by_cases h : n < 10
    · rw [dgL_small h]; simp
    · rw [dgL_big h]
      cases k with
      | zero => simp at hk; omega
      | succ k =>
        have := ih (n / 10) (by omega) k (by rw [Nat.pow_succ] at hk; omega)
        simp
        omega
theorem dgL_pos (n : Nat) : 0 < (dgL n).length := by
  by_cases h : n < 10
  · rw [dgL_small h]; simp
  · rw [dgL_big h]; simp
end Qm.Base
namespace Go.Proofs.YtkajhdbcnmafcaaGreatDoor
open Go.RowKit Go.Deep Qm.Base
/-- a text out of its bytes -/
def ds (l : List Nat) : ByteArray := strOfNums (l.map fun n : Nat => (n : Int))
theorem ds_size (l : List Nat) : (ds l).size = l.length := by simp [ds, strOfNums_size]
theorem ds_app (a b : List Nat) : ds a ++ ds b = ds (a ++ b) := by
  apply ByteArray.ext
  simp [ds, strOfNums]
theorem ds_digit {k : Nat} (h : k < 10) : (⟨#[48, 49, 50, 51, 52, 53, 54, 55, 56, 57]⟩ : ByteArray).extract k (k + 1) = ds [48 + k] := by
  have h2 : k = 0 ∨ k = 1 ∨ k = 2 ∨ k = 3 ∨ k = 4 ∨ k = 5 ∨ k = 6 ∨ k = 7 ∨ k = 8 ∨ k = 9 := by omega
  rcases h2 with rfl | rfl | rfl | rfl | rfl | rfl | rfl | rfl | rfl | rfl <;> rfl
end Go.Proofs.YtkajhdbcnmafcaaGreatDoor
