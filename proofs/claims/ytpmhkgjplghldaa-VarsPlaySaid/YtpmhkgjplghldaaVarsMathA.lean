/- Plain law of the reference's list of pairs: what stands at a name behind putP and behind the filter. -/
import Derived.Test.YtpmhkgjplghldaaVarsRefE
namespace Go.Proofs.Ytpmhkgjplghldaa
open Go.RowKit Go.Deep

theorem getP_cons (y : Pr) (P : List Pr) (n : ByteArray) : getP (y :: P) n = if y.1 = n then some y.2 else getP P n := by
  unfold getP
  rw [List.find?_cons]
  by_cases h : y.1 = n <;> simp [h]
theorem getP_filter (P : List Pr) (m n : ByteArray) : getP (P.filter fun x => !decide (x.1 = m)) n = if m = n then none else getP P n := by
  induction P with
  | nil => simp [getP]
  | cons y P ih =>
    rw [List.filter_cons]
    by_cases h : y.1 = m
    · rw [if_neg (by simp [h]), ih, getP_cons, h]
      by_cases e : m = n <;> simp [e]
    · rw [if_pos (by simp [h]), getP_cons, ih, getP_cons]
      by_cases e : m = n
      · subst e; simp [h]
      · simp [e]
theorem getP_putP (hirr : ∀ a : ByteArray, sLt a a = false) (x : Pr) (n : ByteArray) : ∀ P : List Pr, getP (putP x P) n = if x.1 = n then some x.2 else getP P n
  | [] => by rw [putP, getP_cons]
  | y :: P => by
    rw [putP]
    by_cases h : sLt y.1 x.1 = true
    · rw [if_pos h, getP_cons, getP_putP hirr x n P, getP_cons]
      by_cases e : x.1 = n
      · have : y.1 ≠ n := fun e2 => by rw [e2, ← e, hirr] at h; cases h
        simp [e, this]
      · simp [e]
    · rw [if_neg h]
      by_cases e : y.1 = x.1
      · rw [if_pos e, getP_cons, getP_cons, e]
        by_cases e2 : x.1 = n <;> simp [e2]
      · rw [if_neg e, getP_cons]
end Go.Proofs.Ytpmhkgjplghldaa
