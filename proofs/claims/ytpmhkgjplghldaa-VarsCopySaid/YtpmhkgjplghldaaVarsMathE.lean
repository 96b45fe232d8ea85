/- Plain law: the program's map and the reference's list are one. -/
import Derived.Test.YtpmhkgjplghldaaVarsMathD
import Derived.Test.YtpmhkgjplghldaaVarsWalkD
namespace Go.Proofs.Ytpmhkgjplghldaa
open Go.RowKit Go.Deep Go.Maps

theorem getP_G (P : List Pr) (n : ByteArray) : getP P n = getG P n := rfl
theorem putP_G (x : Pr) : ∀ P : List Pr, putP x P = putG x P
  | [] => rfl
  | y :: P => by
    rw [putP, putG, putP_G x P]
/-- what holds of the variables' list at all times -/
structure VInv (P : List Pr) : Prop where
  rise : RiseG P
  len : P.length ≤ 500
  nm : ∀ x ∈ P, x.1.size ≤ 1000
theorem VInv.nil : VInv [] := ⟨RiseG.nil, by simp, fun x hx => by simp at hx⟩
theorem code_same (P : List Pr) (n v : ByteArray) : vCode (dP P) n v = rCode P n v := by
  unfold vCode rCode dP
  rw [datG_has, datG_size, ← getP_G]
  have : hasNul v = decide (0 ≤ atV (atF (bt v) v.size 0 v.size 0)) := (nul_same v).symm
  rw [this]
  cases getP P n <;> rfl
theorem set_same {P : List Pr} (h : VInv P) (n v : ByteArray) : vSet (dP P) n v = dP (rSet P n v) := by
  unfold vSet rSet
  rw [code_same]
  by_cases hc : rCode P n v = 0
  · rw [if_pos hc, if_pos hc, putP_G]
    exact datG_put sDat h.rise n v
  · rw [if_neg hc, if_neg hc]
theorem code_zero {P : List Pr} {n v : ByteArray} (h : rCode P n v = 0) : nmOk (bt n) n.size = true ∧ ((getP P n).isSome = true ∨ P.length < 500) := by
  unfold rCode at h
  split at h
  · omega
  · rename_i h1
    split at h
    · omega
    · rename_i h2
      simp only [Bool.or_eq_true, Bool.not_eq_true', decide_eq_true_eq, not_or, Bool.and_eq_true, not_and] at h1 h2
      refine ⟨by simpa using h1.1, ?_⟩
      cases hg : getP P n with
      | some v => exact .inl rfl
      | none =>
        right
        have := h2.2 (by rw [hg]; rfl)
        omega
theorem VInv.set {P : List Pr} (h : VInv P) (n v : ByteArray) : VInv (rSet P n v) := by
  unfold rSet
  split
  · rename_i hc
    obtain ⟨h1, h2⟩ := code_zero hc
    have hn : n.size ≤ 60 := by
      unfold nmOk at h1
      simp only [Bool.and_eq_true, decide_eq_true_eq, beq_iff_eq] at h1
      exact h1.1.2
    rw [putP_G]
    refine ⟨h.rise.put _, ?_, fun x hx => ?_⟩
    · rw [putG_len _ h.rise, ← getP_G]
      have := h.len
      split
      · exact this
      · rename_i hs
        rcases h2 with h2 | h2
        · exact absurd h2 hs
        · omega
    · rcases mem_putG hx with rfl | hx
      · show n.size ≤ 1000; omega
      · exact h.nm x hx
  · exact h
theorem VInv.del {P : List Pr} (h : VInv P) (n : ByteArray) : VInv (P.filter fun x => !decide (x.1 = n)) :=
  ⟨h.rise.del n, Nat.le_trans (List.length_filter_le _ _) h.len, fun x hx => h.nm x (List.mem_filter.1 hx).1⟩
theorem del_same (P : List Pr) (n : ByteArray) : (dP P).del (kLit n) = dP (P.filter fun x => !decide (x.1 = n)) := datG_del sDat P n
end Go.Proofs.Ytpmhkgjplghldaa
