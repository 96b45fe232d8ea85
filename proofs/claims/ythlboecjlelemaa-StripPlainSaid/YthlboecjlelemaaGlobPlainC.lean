/- Plain facts on patterns one behind the other: their items, and what they match; no program in sight. -/
import Derived.Test.YthlboecjlelemaaGlobPlainB
namespace Qm.Glob
/-- the text from place d on -/
def sh (t : Nat → Nat) (d : Nat) : Nat → Nat := fun j => t (j + d)
theorem gOne_sh (t : Nat → Nat) (n d i : Nat) (h : d ≤ n) : gOne t n (i + d) = ((gOne (sh t d) (n - d) i).1, (gOne (sh t d) (n - d) i).2.1 + d, (gOne (sh t d) (n - d) i).2.2) := by
  have e1 : (i + d < n) = (i < n - d) := by apply propext; omega
  have e2 : (i + d + 1 < n) = (i + 1 < n - d) := by apply propext; omega
  simp only [gOne, sh, e1, e2, show i + 1 + d = i + d + 1 from by omega]
  (repeat' split) <;> simp <;> omega
theorem gBr_sh (t : Nat → Nat) (n d first : Nat) (nt : Bool) (h : d ≤ n) : ∀ (f i : Nat) (S : Nat → Bool), gBr t n (first + d) nt f (i + d) S = (gBr (sh t d) (n - d) first nt f i S).map fun x => (x.1, x.2 + d)
  | 0, _, _ => rfl
  | f + 1, i, S => by
    rw [gBr, gBr, gOne_sh t n d i h]
    by_cases h1 : i < n - d
    · rw [if_pos h1, if_pos (by omega)]
      have e : (t (i + d) = 93 ∧ first + d < i + d) = (sh t d i = 93 ∧ first < i) := by
        apply propext; simp only [sh]; omega
      simp only [e]
      by_cases h2 : sh t d i = 93 ∧ first < i
      · rw [if_pos h2, if_pos h2]
        simp [Nat.add_right_comm]
      · rw [if_neg h2, if_neg h2]
        generalize hk : (gOne (sh t d) (n - d) i).2.1 = k
        by_cases h3 : (gOne (sh t d) (n - d) i).2.2 = true
        · rw [if_pos h3, if_pos h3]
          have e3 : (k + d + 1 < n ∧ t (k + d) = 45 ∧ t (k + d + 1) ≠ 93) = (k + 1 < n - d ∧ sh t d k = 45 ∧ sh t d (k + 1) ≠ 93) := by
            apply propext; simp only [sh, show k + 1 + d = k + d + 1 from by omega]; omega
          simp only [e3]
          by_cases h4 : k + 1 < n - d ∧ sh t d k = 45 ∧ sh t d (k + 1) ≠ 93
          · rw [if_pos h4, if_pos h4, show k + d + 1 = (k + 1) + d from by omega, gOne_sh t n d (k + 1) h]
            simp only
            split
            · exact gBr_sh t n d first nt h f _ _
            · rfl
          · rw [if_neg h4, if_neg h4]
            exact gBr_sh t n d first nt h f _ _
        · rw [if_neg h3, if_neg h3]; rfl
    · rw [if_neg h1, if_neg (by omega)]; rfl
theorem brNt_sh (t : Nat → Nat) (n d i : Nat) : brNt t n (i + d) = brNt (sh t d) (n - d) i := by
  have e1 : decide (i + d < n) = decide (i < n - d) := by apply decide_eq_decide.2; omega
  simp [brNt, sh, e1]
theorem brAt_sh (t : Nat → Nat) (n d i : Nat) : brAt t n (i + d) = brAt (sh t d) (n - d) i + d := by
  simp only [brAt, brNt_sh]
  split <;> omega
theorem gBracket_sh (t : Nat → Nat) (n d i : Nat) (h : d ≤ n) : gBracket t n (i + d) = (gBracket (sh t d) (n - d) i).map fun x => (x.1, x.2 + d) := by
  rw [gBracket, gBracket, brAt_sh, brNt_sh, show n + 1 - (brAt (sh t d) (n - d) i + d) = n - d + 1 - brAt (sh t d) (n - d) i from by omega]
  exact gBr_sh t n d _ _ h _ _ _
theorem gIt_sh (t : Nat → Nat) (n d : Nat) (h : d ≤ n) : ∀ f i, gIt t n f (i + d) = gIt (sh t d) (n - d) f i
  | 0, _ => rfl
  | f + 1, i => by
    rw [gIt, gIt]
    have e1 : sh t d i = t (i + d) := rfl
    have e2 : sh t d (i + 1) = t (i + d + 1) := by simp only [sh]; congr 1; omega
    rw [e1, e2]
    by_cases h1 : i < n - d
    · rw [if_pos h1, if_pos (by omega)]
      have r1 := gIt_sh t n d h f (i + 1)
      have r2 := gIt_sh t n d h f (i + 2)
      rw [show i + 1 + d = i + d + 1 from by omega] at r1
      rw [show i + 2 + d = i + d + 2 from by omega] at r2
      have e3 : (i + d + 1 < n) = (i + 1 < n - d) := by apply propext; omega
      rw [r1, r2, show i + d + 1 = (i + 1) + d from by omega, gBracket_sh t n d (i + 1) h]
      simp only [show (i + 1 + d < n) = (i + 1 < n - d) from by apply propext; omega]
      cases hg : gBracket (sh t d) (n - d) (i + 1) with
      | none => rfl
      | some x =>
        have r3 := gIt_sh t n d h f x.2
        simp only [Option.map_some, r3]
    · rw [if_neg h1, if_neg (by omega)]
theorem gIt_fuel (t : Nat → Nat) (n : Nat) : ∀ f g i, n < f + i → n < g + i → gIt t n f i = gIt t n g i
  | 0, 0, _, _, _ => rfl
  | 0, g + 1, i, h, _ => by rw [gIt, gIt, if_neg (by omega)]
  | f + 1, 0, i, _, h => by rw [gIt, gIt, if_neg (by omega)]
  | f + 1, g + 1, i, hf, hg => by
    rw [gIt, gIt]
    by_cases h1 : i < n
    · rw [if_pos h1, if_pos h1, gIt_fuel t n f g (i + 1) (by omega) (by omega), gIt_fuel t n f g (i + 2) (by omega) (by omega)]
      cases hx : gBracket t n (i + 1) with
      | none => rfl
      | some x =>
        have := gBracket_le hx
        simp only [gIt_fuel t n f g x.2 (by omega) (by omega)]
    · rw [if_neg h1, if_neg h1]
/-- the item of a byte that is no [ and no backslash -/
def simp1 (c : Nat) : GI := if c = 42 then giStar else if c = 63 then giAny else giOne c
theorem gItems_parts (t : Nat → Nat) (n : Nat) : ∀ k, k ≤ n → (∀ j, j < k → t j ≠ 91 ∧ t j ≠ 92) → gItems t n = (List.range k).map (fun j => simp1 (t j)) ++ gItems (sh t k) (n - k)
  | 0, _, _ => by simp [gItems]; rfl
  | k + 1, h, hp => by
    rw [gItems_parts t n k (by omega) (fun j hj => hp j (by omega)), List.range_succ, List.map_append, List.append_assoc]
    congr 1
    have hk := hp k (by omega)
    have e0 : sh t k 0 = t k := by simp [sh]
    rw [gItems, gIt, if_pos (by omega), e0]
    have e1 : gIt (sh t k) (n - k) (n - k) (0 + 1) = gItems (sh t (k + 1)) (n - (k + 1)) := by
      rw [gIt_sh (sh t k) (n - k) 1 (by omega), gItems, show n - k - 1 = n - (k + 1) from by omega, show sh (sh t k) 1 = sh t (k + 1) from by funext j; simp only [sh]; congr 1; omega]
      exact gIt_fuel _ _ _ _ _ (by omega) (by omega)
    rw [e1]
    simp only [List.map_cons, List.map_nil, simp1]
    by_cases h1 : t k = 42
    · rw [if_pos h1, if_pos h1]; rfl
    · rw [if_neg h1, if_neg h1]
      by_cases h2 : t k = 63
      · rw [if_pos h2, if_pos h2]; rfl
      · rw [if_neg h2, if_neg h2, if_neg hk.2, if_neg hk.1]; rfl
/-- what a list of items matches -/
def EL (l : List GI) (t : Nat → Nat) (i : Nat) : Bool := E (fun k => (l.getD k giStar).star) (fun k c => (l.getD k giStar).S c) t l.length i
theorem E_app {st st2 : Nat → Bool} {hs hs2 : Nat → Nat → Bool} {t : Nat → Nat} {k i : Nat} {n2 : Nat} (h0 : E st hs t k i = true) (h1 : ∀ j, j < n2 → st (k + j) = st2 j) (h2 : ∀ j c, j < n2 → hs (k + j) c = hs2 j c) :
    ∀ j m, j ≤ n2 → E st2 hs2 (sh t i) j m = true → E st hs t (k + j) (i + m) = true
  | 0, 0, _, _ => h0
  | 0, _ + 1, _, h => by rw [E0s] at h; cases h
  | j + 1, 0, hj, h => by
    rw [Es0, Bool.and_eq_true] at h
    have r := E_app h0 h1 h2 j 0 (by omega) h.2
    have hst := (h1 j (by omega)).trans h.1
    show E st hs t (k + j + 1) (i + 0) = true
    rw [Nat.add_zero] at r ⊢
    cases i with
    | zero => rw [Es0, hst, r]; rfl
    | succ i => rw [Ess, if_pos hst, r]; rfl
  | j + 1, m + 1, hj, h => by
    show E st hs t (k + j + 1) (i + m + 1) = true
    rw [Ess] at h ⊢
    rw [h1 j (by omega)]
    cases hst : st2 j with
    | true =>
      rw [hst] at h
      simp only [if_true, Bool.or_eq_true] at h ⊢
      rcases h with h | h
      · left; exact E_app h0 h1 h2 j (m + 1) (by omega) h
      · right; exact E_app h0 h1 h2 (j + 1) m hj h
    | false =>
      rw [hst] at h
      simp only [Bool.false_eq_true, if_false, Bool.and_eq_true] at h ⊢
      refine ⟨E_app h0 h1 h2 j m (by omega) h.1, ?_⟩
      rw [h2 j _ (by omega)]
      have : sh t i m = t (i + m) := by simp [sh, Nat.add_comm]
      rw [← this]; exact h.2
termination_by j m => (j, m)
theorem EL_app {a b : List GI} {t : Nat → Nat} {i m : Nat} (h1 : EL a t i = true) (h2 : EL b (sh t i) m = true) : EL (a ++ b) t (i + m) = true := by
  unfold EL at *
  rw [List.length_append]
  refine E_app (n2 := b.length) ?_ (fun j hj => ?_) (fun j c hj => ?_) b.length m (Nat.le_refl _) h2
  · rw [← h1]
    exact E_congr (n := a.length) (fun k hk => by simp [List.getElem?_append_left hk]) (fun k i hk => by simp [List.getElem?_append_left hk]) _ _ (Nat.le_refl _)
  · simp [List.getElem?_append_right (Nat.le_add_right _ _)]
  · simp [List.getElem?_append_right (Nat.le_add_right _ _)]
theorem EL_nil (t : Nat → Nat) : EL [] t 0 = true := rfl
theorem EL_star (t : Nat → Nat) : ∀ i, EL [giStar] t i = true
  | 0 => rfl
  | i + 1 => by
    have := EL_star t i
    unfold EL at *
    show E _ _ _ (0 + 1) (i + 1) = true
    rw [Ess]
    simp only [List.length_singleton] at this
    rw [Nat.zero_add, this]
    simp [giStar]
theorem EL_congr {l : List GI} {t u : Nat → Nat} : ∀ k i, (∀ j, j < i → t j = u j) → E (fun k => (l.getD k giStar).star) (fun k c => (l.getD k giStar).S c) t k i = E (fun k => (l.getD k giStar).star) (fun k c => (l.getD k giStar).S c) u k i
  | 0, 0, _ => rfl
  | 0, _ + 1, _ => rfl
  | k + 1, 0, h => by rw [Es0, Es0, EL_congr k 0 h]
  | k + 1, i + 1, h => by rw [Ess, Ess, EL_congr k (i + 1) h, EL_congr (k + 1) i (fun j hj => h j (by omega)), EL_congr k i (fun j hj => h j (by omega)), h i (by omega)]
termination_by k i => (k, i)
end Qm.Glob
