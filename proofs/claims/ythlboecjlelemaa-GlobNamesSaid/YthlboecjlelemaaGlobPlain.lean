/- The plain law of matching: the program's items and the reference's say the same, so both match the same texts; no program in sight. -/
import Derived.Test.YthlboecjlelemaaGlobMath
namespace Qm.Glob
def Same (x : GI) (y : RI) : Prop := x.star = (y.kind == 1) ∧ ∀ c, c < 256 → x.S c = y.is c
def Pair : List GI → List RI → Prop
  | [], [] => True
  | x :: a, y :: b => Same x y ∧ Pair a b
  | _, _ => False
theorem same_one (c : Nat) : Same (giOne c) (rByte c) := by
  refine ⟨rfl, fun d _ => ?_⟩
  simp only [giOne, rByte, RI.is, addS, if_true, Bool.false_or]
  rw [Bool.eq_iff_iff]
  simp
  omega
theorem same_any : Same giAny rAny := by
  refine ⟨rfl, fun d hd => ?_⟩
  simp [giAny, rAny, RI.is, addS, hd]
theorem same_star : Same giStar rStar := ⟨rfl, fun _ _ => rfl⟩
theorem same_set (nt : Bool) (lo hi : List Nat) : Same (giSet (if nt then fun c => !inR lo hi c else inR lo hi)) ⟨3, 0, nt, lo, hi⟩ := by
  refine ⟨rfl, fun d _ => ?_⟩
  cases nt <;> simp [giSet, RI.is]
theorem brAt_le {t : Nat → Nat} {n i : Nat} (h : i ≤ n) : brAt t n i ≤ n := by
  unfold brAt
  split
  · rename_i h2
    simp only [brNt, Bool.and_eq_true, decide_eq_true_eq] at h2
    omega
  · exact h
theorem gBracket_rSet {t : Nat → Nat} {n i : Nat} (h : i ≤ n) :
    gBracket t n i = if (rSetOf t n i).2.2 < n then some (if brNt t n i then fun c => !inR (rSetOf t n i).1 (rSetOf t n i).2.1 c else inR (rSetOf t n i).1 (rSetOf t n i).2.1, (rSetOf t n i).2.2 + 1) else none := by
  have hb := brAt_le (t := t) h
  have := gBr_rSet (t := t) (n := n) (i0 := brAt t n i) (nt := brNt t n i) (n + 1 - brAt t n i) (brAt t n i) true [] [] rfl (by omega) hb (by simp) (Nat.le_refl _)
  have e : (inR [] [] : Nat → Bool) = fun _ => false := by funext c; rfl
  rw [e] at this
  exact this
theorem pair_it (t : Nat → Nat) (n : Nat) : ∀ f i, Pair (gIt t n f i) (rIt t n f i)
  | 0, _ => trivial
  | f + 1, i => by
    rw [gIt, rIt]
    by_cases h : i < n
    · rw [if_pos h, if_pos h]
      by_cases h1 : t i = 42
      · rw [if_pos h1, if_pos h1]; exact ⟨same_star, pair_it t n f _⟩
      · rw [if_neg h1, if_neg h1]
        by_cases h2 : t i = 63
        · rw [if_pos h2, if_pos h2]; exact ⟨same_any, pair_it t n f _⟩
        · rw [if_neg h2, if_neg h2]
          by_cases h3 : t i = 92
          · have h5 : ¬ (t i = 91 ∧ (rSetOf t n (i + 1)).2.2 < n) := by omega
            rw [if_pos h3, if_neg h5]
            by_cases h4 : i + 1 < n
            · rw [if_pos h4, rOne, if_pos ⟨h3, h4⟩]; exact ⟨same_one _, pair_it t n f _⟩
            · rw [if_neg h4, rOne, if_neg (fun h => h4 h.2), h3]; exact ⟨same_one _, pair_it t n f _⟩
          · rw [if_neg h3]
            have hr : rOne t n i = (t i, 1) := by rw [rOne, if_neg (fun h => h3 h.1)]
            by_cases h4 : t i = 91
            · rw [if_pos h4, gBracket_rSet (by omega)]
              by_cases h5 : (rSetOf t n (i + 1)).2.2 < n
              · have h6 : t i = 91 ∧ (rSetOf t n (i + 1)).2.2 < n := ⟨h4, h5⟩
                rw [if_pos h5, if_pos h6]; exact ⟨same_set _ _ _, pair_it t n f _⟩
              · have h6 : ¬ (t i = 91 ∧ (rSetOf t n (i + 1)).2.2 < n) := fun h => h5 h.2
                rw [if_neg h5, if_neg h6, hr, h4]; exact ⟨same_one _, pair_it t n f _⟩
            · have h6 : ¬ (t i = 91 ∧ (rSetOf t n (i + 1)).2.2 < n) := fun h => h4 h.1
              rw [if_neg h4, if_neg h6, hr]; exact ⟨same_one _, pair_it t n f _⟩
    · rw [if_neg h, if_neg h]; trivial
theorem Pair.len : ∀ {a : List GI} {b : List RI}, Pair a b → a.length = b.length
  | [], [], _ => rfl
  | _ :: _, _ :: _, h => by simp [Pair.len h.2]
  | [], _ :: _, h => h.elim
  | _ :: _, [], h => h.elim
theorem Pair.get : ∀ {a : List GI} {b : List RI}, Pair a b → ∀ k, k < a.length → Same (a.getD k giStar) (b.getD k rStar)
  | [], [], _, _, h => absurd h (by simp)
  | x :: a, y :: b, h, k, hk => by
    cases k with
    | zero => exact h.1
    | succ k => simpa using Pair.get h.2 k (by simpa using hk)
  | [], _ :: _, h, _, _ => h.elim
  | _ :: _, [], h, _, _ => h.elim
theorem E_congr {st st' : Nat → Bool} {hs hs' : Nat → Nat → Bool} {t : Nat → Nat} {n : Nat} (h1 : ∀ k, k < n → st k = st' k) (h2 : ∀ k i, k < n → hs k (t i) = hs' k (t i)) :
    ∀ k i, k ≤ n → E st hs t k i = E st' hs' t k i
  | 0, 0, _ => by rw [E00, E00]
  | 0, _ + 1, _ => by rw [E0s, E0s]
  | k + 1, 0, h => by rw [Es0, Es0, h1 k (by omega), E_congr h1 h2 k 0 (by omega)]
  | k + 1, i + 1, h => by rw [Ess, Ess, h1 k (by omega), E_congr h1 h2 k (i + 1) (by omega), E_congr h1 h2 (k + 1) i h, E_congr h1 h2 k i (by omega), h2 k i (by omega)]
termination_by k i => (k, i)
/-- each item of the reference has as many lower bounds as upper ones, and no more than the pattern has bytes -/
theorem rSet_ok {t : Nat → Nat} {n : Nat} : ∀ (f : Nat) (first : Bool) (i : Nat) (lo hi : List Nat), i ≤ n → lo.length = hi.length → lo.length ≤ i →
    (rSet t n f first i lo hi).1.length = (rSet t n f first i lo hi).2.1.length ∧ (rSet t n f first i lo hi).1.length ≤ n
  | 0, _, i, lo, hi, h1, h2, h3 => ⟨h2, by show lo.length ≤ n; omega⟩
  | f + 1, first, i, lo, hi, h1, h2, h3 => by
    rw [rSet]
    by_cases hc : i < n ∧ (first = true ∨ t i ≠ 93)
    · rw [if_pos hc]
      have hr := rOne_le (t := t) hc.1
      by_cases hg : i + (rOne t n i).2 + 1 < n ∧ t (i + (rOne t n i).2) = 45 ∧ t (i + (rOne t n i).2 + 1) ≠ 93
      · rw [if_pos hg]
        have hr2 := rOne_le (t := t) hg.1
        exact rSet_ok f _ _ _ _ (by omega) (by simp [h2]) (by simp; omega)
      · rw [if_neg hg]
        exact rSet_ok f _ _ _ _ (by omega) (by simp [h2]) (by simp; omega)
    · rw [if_neg hc]; exact ⟨h2, by show lo.length ≤ n; omega⟩
theorem rIt_ok (t : Nat → Nat) (n : Nat) : ∀ f i x, x ∈ rIt t n f i → x.lo.length = x.hi.length ∧ x.lo.length ≤ n
  | 0, _, x, h => by simp [rIt] at h
  | f + 1, i, x, h => by
    rw [rIt] at h
    by_cases h0 : i < n
    · rw [if_pos h0] at h
      split at h
      · rcases List.mem_cons.1 h with rfl | h
        · exact ⟨rfl, Nat.zero_le _⟩
        · exact rIt_ok t n f _ x h
      · split at h
        · rcases List.mem_cons.1 h with rfl | h
          · exact ⟨rfl, Nat.zero_le _⟩
          · exact rIt_ok t n f _ x h
        · split at h
          · rcases List.mem_cons.1 h with rfl | h
            · exact rSet_ok _ _ _ _ _ (brAt_le (by omega)) rfl (Nat.zero_le _)
            · exact rIt_ok t n f _ x h
          · rcases List.mem_cons.1 h with rfl | h
            · exact ⟨rfl, Nat.zero_le _⟩
            · exact rIt_ok t n f _ x h
    · rw [if_neg h0] at h
      simp at h
theorem rItems_len (t : Nat → Nat) (n : Nat) : (rItems t n).length ≤ n := by
  rw [rItems, ← (pair_it t n (n + 1) 0).len]
  exact gItems_len t n
theorem same_match (t u : Nat → Nat) (n m : Nat) (hu : ∀ i, u i < 256) :
    E (fun k => ((gItems t n).getD k giStar).star) (fun k c => ((gItems t n).getD k giStar).S c) u (gItems t n).length m =
    E (fun k => ((rItems t n).getD k rStar).kind == 1) (fun k c => ((rItems t n).getD k rStar).is c) u (rItems t n).length m := by
  have hp := pair_it t n (n + 1) 0
  rw [← show (gItems t n).length = (rItems t n).length from hp.len]
  exact E_congr (fun k hk => (hp.get k hk).1) (fun k i hk => (hp.get k hk).2 _ (hu i)) _ _ (Nat.le_refl _)
end Qm.Glob
