/- Plain laws of strip: which end is taken, that both items say the same of every beginning, and that a match read backwards is one; no program in sight. -/
import Derived.Test.YthlboecjlelemaaGlobPlainE
namespace Qm.Glob
/-- the last (most) or the first of the places below k at which f holds -/
def pickO (f : Nat → Bool) (most : Bool) : Nat → Option Nat
  | 0 => none
  | k + 1 => if most then (if f k then some k else pickO f most k) else (match pickO f most k with
    | some i => some i
    | none => if f k then some k else none)
theorem pickO_stay {f : Nat → Bool} {j i : Nat} (h : pickO f false j = some i) : ∀ d, pickO f false (j + d) = some i
  | 0 => h
  | d + 1 => by
    show pickO f false (j + d + 1) = some i
    rw [pickO, pickO_stay h d]
    simp
theorem pickO_congr {f g : Nat → Bool} {most : Bool} : ∀ k, (∀ i, i < k → f i = g i) → pickO f most k = pickO g most k
  | 0, _ => rfl
  | k + 1, h => by rw [pickO, pickO, pickO_congr k (fun i hi => h i (by omega)), h k (by omega)]
theorem pickO_some {f : Nat → Bool} {most : Bool} : ∀ {k i}, pickO f most k = some i → f i = true ∧ i < k
  | 0, i, h => by simp [pickO] at h
  | k + 1, i, h => by
    rw [pickO] at h
    cases most with
    | true =>
      simp only [if_true] at h
      by_cases hf : f k = true
      · rw [if_pos hf] at h; injection h with h; subst h; exact ⟨hf, by omega⟩
      · rw [if_neg hf] at h
        have := pickO_some h
        exact ⟨this.1, by omega⟩
    | false =>
      simp only [Bool.false_eq_true, if_false] at h
      cases hp : pickO f false k with
      | some j =>
        rw [hp] at h
        injection h with h
        subst h
        have := pickO_some hp
        exact ⟨this.1, by omega⟩
      | none =>
        rw [hp] at h
        by_cases hf : f k = true
        · simp only [if_pos hf] at h; injection h with h; subst h; exact ⟨hf, by omega⟩
        · simp [hf] at h
theorem pickO_none {f : Nat → Bool} {most : Bool} : ∀ {k}, pickO f most k = none → ∀ i, i < k → f i = false
  | 0, _, i, hi => by omega
  | k + 1, h, i, hi => by
    rw [pickO] at h
    cases most with
    | true =>
      simp only [if_true] at h
      by_cases hf : f k = true
      · rw [if_pos hf] at h; cases h
      · rw [if_neg hf] at h
        by_cases e : i = k
        · subst e; simpa using hf
        · exact pickO_none h i (by omega)
    | false =>
      simp only [Bool.false_eq_true, if_false] at h
      cases hp : pickO f false k with
      | some j => rw [hp] at h; cases h
      | none =>
        rw [hp] at h
        by_cases hf : f k = true
        · simp [hf] at h
        · by_cases e : i = k
          · subst e; simpa using hf
          · exact pickO_none hp i (by omega)
theorem pickO_least {f : Nat → Bool} : ∀ {k i}, pickO f false k = some i → ∀ j, j < i → f j = false
  | 0, i, h => by simp [pickO] at h
  | k + 1, i, h => by
    rw [pickO] at h
    simp only [Bool.false_eq_true, if_false] at h
    cases hp : pickO f false k with
    | some j =>
      rw [hp] at h
      injection h with h
      subst h
      exact pickO_least hp
    | none =>
      rw [hp] at h
      by_cases hf : f k = true
      · simp only [if_pos hf] at h; injection h with h; subst h; exact pickO_none hp
      · simp [hf] at h
theorem pickO_last {f : Nat → Bool} : ∀ {k i}, pickO f true k = some i → ∀ j, i < j → j < k → f j = false
  | 0, i, h => by simp [pickO] at h
  | k + 1, i, h => by
    rw [pickO] at h
    simp only [if_true] at h
    intro j h1 h2
    by_cases hf : f k = true
    · rw [if_pos hf] at h; injection h with h; subst h; omega
    · rw [if_neg hf] at h
      by_cases e : j = k
      · subst e; simpa using hf
      · exact pickO_last h j h1 (by omega)
/-- the longest is no shorter than the shortest -/
theorem pickO_le (f : Nat → Bool) (k : Nat) : (pickO f false k).getD 0 ≤ (pickO f true k).getD 0 := by
  cases h1 : pickO f false k with
  | none => exact Nat.zero_le _
  | some i =>
    have a := pickO_some h1
    cases h2 : pickO f true k with
    | none => have := pickO_none h2 i a.2; rw [a.1] at this; cases this
    | some j =>
      show i ≤ j
      by_cases c : i ≤ j
      · exact c
      · have := pickO_last h2 i (by omega) a.2
        rw [a.1] at this; cases this
theorem pickO_lt (f : Nat → Bool) (most : Bool) (k : Nat) : (pickO f most (k + 1)).getD 0 ≤ k := by
  cases h : pickO f most (k + 1) with
  | none => exact Nat.zero_le _
  | some i => have := (pickO_some h).2; show i ≤ k; omega
/-- one place alone -/
theorem pickO_only {f : Nat → Bool} {most : Bool} {i k : Nat} (hi : i < k) (h1 : f i = true) (h2 : ∀ j, j < k → j ≠ i → f j = false) : pickO f most k = some i := by
  cases h : pickO f most k with
  | none => have := pickO_none h i hi; rw [h1] at this; cases this
  | some j =>
    have := pickO_some h
    by_cases e : j = i
    · rw [e]
    · have h3 := h2 j this.2 e
      rw [this.1] at h3; cases h3
theorem pickO_no {f : Nat → Bool} {most : Bool} {k : Nat} (h2 : ∀ j, j < k → f j = false) : pickO f most k = none := by
  cases h : pickO f most k with
  | none => rfl
  | some j => have := pickO_some h; rw [h2 j this.2] at this; cases this.1
def ELR (l : List RI) (t : Nat → Nat) (i : Nat) : Bool := E (fun k => (l.getD k rStar).kind == 1) (fun k c => (l.getD k rStar).is c) t l.length i
theorem Pair.app : ∀ {a : List GI} {b : List RI} {c : List GI} {d : List RI}, Pair a b → Pair c d → Pair (a ++ c) (b ++ d)
  | [], [], _, _, _, h => h
  | _ :: _, _ :: _, _, _, h, k => ⟨h.1, Pair.app h.2 k⟩
  | [], _ :: _, _, _, h, _ => h.elim
  | _ :: _, [], _, _, h, _ => h.elim
theorem Pair.rev : ∀ {a : List GI} {b : List RI}, Pair a b → Pair a.reverse b.reverse
  | [], [], h => h
  | x :: a, y :: b, h => by
    rw [List.reverse_cons, List.reverse_cons]
    exact Pair.app (Pair.rev h.2) ⟨h.1, trivial⟩
  | [], _ :: _, h => h.elim
  | _ :: _, [], h => h.elim
theorem pair_same {a : List GI} {b : List RI} (hp : Pair a b) (u : Nat → Nat) (hu : ∀ i, u i < 256) (m : Nat) : EL a u m = ELR b u m := by
  unfold EL ELR
  rw [← hp.len]
  exact E_congr (fun k hk => (hp.get k hk).1) (fun k i hk => (hp.get k hk).2 _ (hu i)) _ _ (Nat.le_refl _)
theorem pair_items (t : Nat → Nat) (n : Nat) : Pair (gItems t n) (rItems t n) := pair_it t n (n + 1) 0
/-- the last item's share of a match -/
theorem E_last {st : Nat → Bool} {hs : Nat → Nat → Bool} {t : Nat → Nat} {k : Nat} : ∀ m, E st hs t (k + 1) m = true → ∃ i, i ≤ m ∧ E st hs t k i = true ∧ (st k = true ∨ (st k = false ∧ i + 1 = m ∧ hs k (t i) = true))
  | 0, h => by
    rw [Es0, Bool.and_eq_true] at h
    exact ⟨0, by omega, h.2, .inl h.1⟩
  | m + 1, h => by
    rw [Ess] at h
    cases hst : st k with
    | true =>
      rw [hst] at h
      simp only [if_true, Bool.or_eq_true] at h
      rcases h with h | h
      · exact ⟨m + 1, by omega, h, .inl rfl⟩
      · obtain ⟨i, h1, h2, _⟩ := E_last m h
        exact ⟨i, by omega, h2, .inl rfl⟩
    | false =>
      rw [hst] at h
      simp only [Bool.false_eq_true, if_false, Bool.and_eq_true] at h
      exact ⟨m, by omega, h.1, .inr ⟨rfl, rfl, h.2⟩⟩
theorem EL_one_star (x : GI) (h : x.star = true) (t : Nat → Nat) : ∀ i, EL [x] t i = true
  | 0 => by
    unfold EL
    show E _ _ _ (0 + 1) 0 = true
    rw [Es0, E00]
    simp [h]
  | i + 1 => by
    have := EL_one_star x h t i
    unfold EL at *
    show E _ _ _ (0 + 1) (i + 1) = true
    rw [Ess]
    simp only [List.length_singleton] at this
    rw [Nat.zero_add, this]
    simp [h]
theorem EL_one (x : GI) (h : x.star = false) (t : Nat → Nat) (h2 : x.S (t 0) = true) : EL [x] t 1 = true := by
  unfold EL
  show E _ _ _ (0 + 1) (0 + 1) = true
  rw [Ess, E00]
  simp [h, h2]
/-- a match, read backwards -/
theorem EL_rev : ∀ (n : Nat) (l : List GI) (t : Nat → Nat) (m : Nat), l.length = n → EL l t m = true → EL l.reverse (fun j => t (m - 1 - j)) m = true
  | 0, l, t, m, hn, h => by
    obtain rfl := List.eq_nil_of_length_eq_zero hn
    cases m with
    | zero => rfl
    | succ m => unfold EL at h; rw [List.length_nil, E0s] at h; cases h
  | n + 1, l, t, m, hn, h => by
    obtain ⟨l', x, rfl⟩ : ∃ l' x, l = l' ++ [x] := ⟨l.dropLast, l.getLast (by intro e; subst e; simp at hn), (List.dropLast_concat_getLast _).symm⟩
    have hl : l'.length = n := by simpa using hn
    have hk : (l' ++ [x])[l'.length]? = some x := by simp
    unfold EL at h
    rw [List.length_append, List.length_singleton] at h
    obtain ⟨i, hi, h1, h2⟩ := E_last m h
    have h1' : EL l' t i = true := by
      rw [← h1]
      exact E_congr (n := l'.length) (fun k hk => by simp [List.getElem?_append_left hk]) (fun k i hk => by simp [List.getElem?_append_left hk]) _ _ (Nat.le_refl _)
    have hx : (l' ++ [x]).getD l'.length giStar = x := by simp
    simp only [hx] at h2
    have ih := EL_rev n l' t i hl h1'
    rw [List.reverse_append, List.reverse_singleton]
    have e : m = (m - i) + i := by omega
    have hr : EL l'.reverse (sh (fun j => t (m - 1 - j)) (m - i)) i = true := by
      rw [← ih]
      exact EL_congr _ _ fun j hj => by simp only [sh]; congr 1; omega
    rw [e]
    rw [show (fun j => t (m - i + i - 1 - j)) = fun j => t (m - 1 - j) from by rw [← e]]
    refine EL_app ?_ hr
    rcases h2 with h2 | ⟨h2, h3, h4⟩
    · exact EL_one_star x h2 _ _
    · rw [show m - i = 1 from by omega]
      refine EL_one x h2 _ ?_
      have : m - 1 - 0 = i := by omega
      simpa [this] using h4
theorem E_text_rev (t : Nat → Nat) (cs : List Nat) (i : Nat) : EL (cs.map giOne).reverse t i = (i == cs.length && (List.range cs.length).all fun j => t j == cs.getD (cs.length - 1 - j) 0) := by
  rw [← List.map_reverse, EL_text, List.length_reverse]
  congr 1
  rw [Bool.eq_iff_iff, List.all_eq_true, List.all_eq_true]
  have hg : ∀ j, j < cs.length → cs.reverse.getD j 0 = cs.getD (cs.length - 1 - j) 0 := fun j hj => by
    rw [List.getD_eq_getElem?_getD, List.getD_eq_getElem?_getD, List.getElem?_reverse hj]
  exact ⟨fun h j hj => by rw [← hg j (by simpa using hj)]; exact h j hj, fun h j hj => by rw [hg j (by simpa using hj)]; exact h j hj⟩
end Qm.Glob
