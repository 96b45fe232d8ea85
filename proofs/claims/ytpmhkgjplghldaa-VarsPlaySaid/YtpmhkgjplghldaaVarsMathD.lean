/- Plain law: the reference's At(value, 0) and the program's strings.Contains at the byte 0. -/
import Derived.Test.YtpmhkgjplghldaaVarsMathC
import Derived.Lib.Bytealg
namespace Go.Proofs.Ytpmhkgjplghldaa
open Go.RowKit Go.Deep

theorem index_ge (c : UInt8) : ∀ l : List UInt8, -1 ≤ Lib.indexByte l c
  | [] => by simp [Lib.indexByte]
  | b :: l => by
    have := index_ge c l
    rw [Lib.indexByte]
    split
    · omega
    · split
      · omega
      · omega
theorem index_mem (c : UInt8) : ∀ l : List UInt8, 0 ≤ Lib.indexByte l c ↔ c ∈ l
  | [] => by simp [Lib.indexByte]
  | b :: l => by
    have h1 := index_mem c l
    have h2 := index_ge c l
    rw [Lib.indexByte, List.mem_cons, ← h1]
    by_cases e : b = c
    · subst e; simp
    · have e2 : c ≠ b := fun h => e h.symm
      rw [if_neg (by simpa using e)]
      by_cases e3 : Lib.indexByte l c = -1
      · rw [if_pos (by simpa using e3), e3]; simp [e2]
      · rw [if_neg (by simpa using e3)]
        simp only [e2, false_or]
        omega
theorem atF_mem (t : Nat → Nat) (n c : Nat) : ∀ f k, n ≤ k + f → (0 ≤ atV (atF t n c f k) ↔ ∃ j, k ≤ j ∧ j < n ∧ t j = c)
  | 0, k, h => by
    simp only [atF, atV]
    exact ⟨fun h => by omega, fun ⟨j, h1, h2, _⟩ => by omega⟩
  | f + 1, k, h => by
    rw [atF]
    by_cases h1 : k < n
    · rw [if_pos h1]
      by_cases h2 : t k = c
      · rw [if_pos h2]
        exact ⟨fun _ => ⟨k, Nat.le_refl _, h1, h2⟩, fun _ => Int.natCast_nonneg k⟩
      · rw [if_neg h2, atF_mem t n c f (k + 1) (by omega)]
        refine ⟨fun ⟨j, a, b, d⟩ => ⟨j, by omega, b, d⟩, fun ⟨j, a, b, d⟩ => ⟨j, ?_, b, d⟩⟩
        by_cases e : j = k
        · subst e; exact absurd d h2
        · omega
    · rw [if_neg h1]
      exact ⟨fun h => by simp [atV] at h, fun ⟨j, a, b, d⟩ => by omega⟩
theorem nul_same (v : ByteArray) : decide (0 ≤ atV (atF (bt v) v.size 0 v.size 0)) = decide (0 ≤ Lib.indexByte v.data.toList 0) := by
  rw [decide_eq_decide, atF_mem _ _ _ _ _ (by omega), index_mem]
  constructor
  · rintro ⟨j, _, h, e⟩
    have h2 := bt_eq v j h
    rw [e] at h2
    have h3 : v.data[j]'h = 0 := UInt8.toNat_inj.1 h2
    rw [← h3]
    exact Array.mem_toList_iff.2 (Array.getElem_mem h)
  · intro h
    obtain ⟨j, hj, e⟩ := List.getElem_of_mem h
    have hj2 : j < v.size := by simpa using hj
    refine ⟨j, Nat.zero_le _, hj2, ?_⟩
    rw [← bt_eq v j hj2]
    have e2 : v.data[j]'hj2 = 0 := by simpa using e
    show (v.data[j]'hj2).toNat = 0
    rw [e2]; rfl
end Go.Proofs.Ytpmhkgjplghldaa
