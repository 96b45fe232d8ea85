/- Plain law of the reference's list of pairs: it stays rising, and its length. -/
import Derived.Test.YtpmhkgjplghldaaVarsMathA
namespace Go.Proofs.Ytpmhkgjplghldaa
open Go.RowKit Go.Deep

/-- the names rise -/
def Rise (P : List Pr) : Prop := P.Pairwise fun a b => sLt a.1 b.1 = true
theorem Rise.filter {P : List Pr} (h : Rise P) (f : Pr → Bool) : Rise (P.filter f) := List.Pairwise.filter f h
theorem mem_putP {x z : Pr} : ∀ {P : List Pr}, z ∈ putP x P → z = x ∨ z ∈ P
  | [], h => by simpa [putP] using h
  | y :: P, h => by
    rw [putP] at h
    split at h
    · rcases List.mem_cons.1 h with h | h
      · exact .inr (by simp [h])
      · rcases mem_putP h with h | h
        · exact .inl h
        · exact .inr (by simp [h])
    · split at h
      · rcases List.mem_cons.1 h with h | h
        · exact .inl h
        · exact .inr (by simp [h])
      · rcases List.mem_cons.1 h with h | h
        · exact .inl h
        · exact .inr h
theorem Rise.putP (htr : ∀ a b c : ByteArray, sLt a b = true → sLt b c = true → sLt a c = true) (htot : ∀ a b : ByteArray, sLt a b = false → a = b ∨ sLt b a = true) (x : Pr) : ∀ {P : List Pr}, Rise P → Rise (putP x P)
  | [], _ => by simp [Rise, Go.Proofs.Ytpmhkgjplghldaa.putP]
  | y :: P, h => by
    have h1 := List.pairwise_cons.1 h
    rw [Go.Proofs.Ytpmhkgjplghldaa.putP]
    by_cases e : sLt y.1 x.1 = true
    · rw [if_pos e]
      refine List.pairwise_cons.2 ⟨fun z hz => ?_, Rise.putP htr htot x h1.2⟩
      rcases mem_putP hz with rfl | hz
      · exact e
      · exact h1.1 z hz
    · rw [if_neg e]
      by_cases e2 : y.1 = x.1
      · rw [if_pos e2]
        exact List.pairwise_cons.2 ⟨fun z hz => e2 ▸ h1.1 z hz, h1.2⟩
      · rw [if_neg e2]
        have e3 : sLt x.1 y.1 = true := (htot y.1 x.1 (by simpa using e)).resolve_left e2
        refine List.pairwise_cons.2 ⟨fun z hz => ?_, h⟩
        rcases List.mem_cons.1 hz with rfl | hz
        · exact e3
        · exact htr _ _ _ e3 (h1.1 z hz)
end Go.Proofs.Ytpmhkgjplghldaa
