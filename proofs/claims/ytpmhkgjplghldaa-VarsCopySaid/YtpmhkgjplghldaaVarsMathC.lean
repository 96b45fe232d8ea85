/- Plain law: sLt is the order of the names; the length of a list behind putP. -/
import Derived.Test.YtpmhkgjplghldaaVarsMathB
import Derived.Sort.Walk0
namespace Go.Proofs.Ytpmhkgjplghldaa
open Go.RowKit Go.Deep

theorem putP_len (x : Pr) : ∀ {P : List Pr}, Rise P → (putP x P).length = if (getP P x.1).isSome then P.length else P.length + 1
  | [], _ => by simp [putP, getP]
  | y :: P, h => by
    have h1 := List.pairwise_cons.1 h
    rw [putP, getP_cons]
    by_cases e : sLt y.1 x.1 = true
    · have e2 : y.1 ≠ x.1 := fun e2 => by rw [e2, sLt_irr] at e; cases e
      rw [if_pos e, if_neg e2, List.length_cons, putP_len x h1.2]
      split <;> simp
    · rw [if_neg e]
      by_cases e2 : y.1 = x.1
      · simp [e2]
      · have e3 : sLt x.1 y.1 = true := (sLt_tot y.1 x.1 (by simpa using e)).resolve_left e2
        have e4 : getP P x.1 = none := by
          unfold getP
          rw [List.find?_eq_none.2 ?_]
          · rfl
          · intro z hz
            have := sLt_trans _ _ _ e3 (h1.1 z hz)
            have : z.1 ≠ x.1 := fun e5 => by rw [e5, sLt_irr] at this; cases this
            simpa using this
        rw [if_neg e2, if_neg e2, e4]
        simp
end Go.Proofs.Ytpmhkgjplghldaa
