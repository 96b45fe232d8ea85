/- Plain law of LinesParts: two texts, one behind the other. No program in sight. -/
import Derived.Test.YtkocnbehogefnaaDoorLinesMath
namespace Go.Proofs.YtkocnbehogefnaaDoor.Ln

theorem oddB_no {s : T} (h : s.getLast? ≠ some 92) : oddB s = false := by
  unfold oddB
  rw [← List.head?_reverse] at h
  cases hs : s.reverse with
  | nil => rfl
  | cons x t =>
    rw [hs] at h
    have hx : x ≠ 92 := fun e => h (by rw [e]; rfl)
    rw [List.takeWhile_cons_of_neg (by simpa using hx)]
    rfl
theorem spl_snoc {c x : UInt8} (hx : x ≠ c) : ∀ a : T, spl c (a ++ [x]) = (spl c a).dropLast ++ [(spl c a).getLastD [] ++ [x]]
  | [] => by
    rw [List.nil_append]
    show (if x = c then _ else _) = _
    rw [if_neg hx]; rfl
  | z :: a => by
    have ih := spl_snoc hx a
    rw [List.cons_append, spl, spl, ih]
    cases hs : spl c a with
    | nil => exact absurd hs (spl_ne c a)
    | cons h t =>
      by_cases hz : z = c
      · rw [if_pos hz, if_pos hz]
        simp
      · rw [if_neg hz, if_neg hz]
        cases t with
        | nil => simp
        | cons t0 t => simp
theorem spl_end (c : UInt8) (a : T) : spl c (a ++ [c]) = spl c a ++ [[]] := spl_both c a []
theorem last_no {a : T} (h : a.getLast? ≠ some 92) : ∀ x, (spl 10 a).getLast? = some x → x.getLast? ≠ some 92 := by
  intro x hx
  rcases List.eq_nil_or_concat a with rfl | ⟨a', y, rfl⟩
  · have : x = [] := by simpa [spl] using hx.symm
    rw [this]; simp
  · rw [List.concat_eq_append] at *
    by_cases hy : y = 10
    · subst hy
      rw [spl_end] at hx
      have : x = [] := by simpa using hx.symm
      rw [this]; simp
    · rw [spl_snoc hy] at hx
      have : x = (spl 10 a').getLastD [] ++ [y] := by simpa using hx.symm
      rw [this]
      simpa using h
theorem last_tail {l : T} (h : l.getLast? ≠ some 92) : l.tail.getLast? ≠ some 92 := by
  cases l with
  | nil => exact h
  | cons x t =>
    cases t with
    | nil => simp
    | cons y t => simpa [List.getLast?_cons_cons] using h
theorem last_tab {l : T} (h : l.getLast? ≠ some 92) : (dropTab l).getLast? ≠ some 92 := by
  unfold dropTab
  split
  · exact last_tail h
  · exact h
theorem last_drop {l : T} (p : UInt8 → Bool) (h : l.getLast? ≠ some 92) : (l.dropWhile p).getLast? ≠ some 92 := by
  induction l with
  | nil => exact h
  | cons x t ih =>
    rw [List.dropWhile_cons]
    split
    · exact ih (last_tail h)
    · exact h
/-- the last line does not go on -/
def Cl (L : List T) : Prop := ∀ x, L.getLast? = some x → x.getLast? ≠ some 92
theorem Cl.tail {n : T} {r : List T} (h : Cl (n :: r)) : Cl r := by
  intro x hx
  refine h x ?_
  cases r with
  | nil => cases hx
  | cons y r => rw [List.getLast?_cons_cons]; exact hx
theorem Cl.one {n : T} (h : Cl [n]) : n.getLast? ≠ some 92 := h n rfl
theorem Cl.suf {L M : List T} (h : Cl L) (hs : M <:+ L) : Cl M := by
  obtain ⟨P, rfl⟩ := hs
  intro x hx
  refine h x ?_
  rw [List.getLast?_append, hx]; rfl
theorem recF_app (M : List T) : ∀ (rest : List T) (s acc : T), (rest = [] → oddB s = false) → Cl rest → recF (rest ++ M) s acc = ((recF rest s acc).1, (recF rest s acc).2 ++ M)
  | [], s, acc, h, _ => by
    rw [List.nil_append]
    cases M with
    | nil => rfl
    | cons n r =>
      have h0 := h rfl
      show (if oddB s = true then _ else _) = _
      rw [h0]
      rfl
  | n :: r, s, acc, h, hc => by
    rw [List.cons_append, recF, recF]
    split
    · exact recF_app M r _ _ (fun e => by subst e; exact oddB_no (last_tab hc.one)) hc.tail
    · rfl
theorem othF_app (M : List T) : ∀ (rest : List T) (s : T), (rest = [] → oddB s = false) → Cl rest → othF (rest ++ M) s = ((othF rest s).1, (othF rest s).2 ++ M)
  | [], s, h, _ => by
    have h0 := h rfl
    rw [List.nil_append]
    cases M with
    | nil => rfl
    | cons n r => rw [othF, if_neg (by rw [h0]; simp), othF, if_neg (by rw [h0]; simp)]; rfl
  | n :: r, s, h, hc => by
    rw [List.cons_append, othF, othF]
    split
    · refine othF_app M r _ (fun e => ?_) hc.tail
      subst e
      apply oddB_no
      have hn := last_drop blk hc.one
      change (trimL n).getLast? ≠ some 92 at hn
      rw [List.getLast?_append]
      cases ht : (trimL n).getLast? with
      | none => unfold front; simp
      | some y => rw [ht] at hn; exact hn
    · rfl
theorem recF_suf : ∀ (rest : List T) (s acc : T), (recF rest s acc).2 <:+ rest
  | [], _, _ => List.suffix_refl _
  | n :: r, s, acc => by
    rw [recF]
    split
    · exact (recF_suf r _ _).trans (List.suffix_cons _ _)
    · exact List.suffix_refl _
theorem othF_suf : ∀ (rest : List T) (s : T), (othF rest s).2 <:+ rest
  | [], _ => List.suffix_refl _
  | n :: r, s => by
    rw [othF]
    split
    · exact (othF_suf r _).trans (List.suffix_cons _ _)
    · exact List.suffix_refl _
theorem linesA_app (M : List T) : ∀ (f : Nat) (L : List T), L.length ≤ f → Cl L → linesA (L ++ M) = linesA L ++ linesA M
  | 0, L, h, _ => by
    obtain rfl : L = [] := List.length_eq_zero_iff.1 (by omega)
    rfl
  | f + 1, [], _, _ => rfl
  | f + 1, l :: rest, h, hc => by
    simp only [List.length_cons] at h
    have k1 := recF_len rest l.tail l.tail
    have k2 := othF_len rest l
    have e1 := recF_app M rest l.tail l.tail (fun e => by subst e; exact oddB_no (last_tail hc.one)) hc.tail
    have e2 := othF_app M rest l (fun e => by subst e; exact oddB_no hc.one) hc.tail
    have i1 := linesA_app M f (recF rest l.tail l.tail).2 (by omega) (hc.tail.suf (recF_suf _ _ _))
    have i2 := linesA_app M f (othF rest l).2 (by omega) (hc.tail.suf (othF_suf _ _))
    rw [List.cons_append, linesA_cons, linesA_cons, e1, e2]
    dsimp only
    rw [i1, i2]
    split
    · rfl
    · rw [List.append_assoc]
theorem linesA_gap (M : List T) : linesA ([] :: M) = linesA M := by
  have h : othF M [] = ([], M) := by
    cases M with
    | nil => rfl
    | cons n r => rfl
  rw [linesA_cons, h]
  rfl
theorem cutL_both (a b : T) : cutL (a ++ 10 :: b) = spl 10 a ++ cutL b := by
  unfold cutL
  rw [spl_both]
  have hb := spl_ne 10 b
  have h1 : (spl 10 a ++ spl 10 b).getLastD [] = (spl 10 b).getLastD [] := by
    rw [List.getLastD_eq_getLast?, List.getLastD_eq_getLast?, List.getLast?_append]
    cases h : (spl 10 b).getLast? with
    | none => exact absurd (List.getLast?_eq_none_iff.1 h) hb
    | some x => rfl
  rw [h1]
  split
  · rw [List.dropLast_append_of_ne_nil hb]
  · rfl
theorem two_lines (a b : T) (h1 : a.getLast? ≠ some 92) (h2 : ∀ a', a = a' ++ [10] → a'.getLast? ≠ some 92) : linesA (cutL (a ++ 10 :: b)) = linesA (cutL a) ++ linesA (cutL b) := by
  rw [cutL_both]
  rcases List.eq_nil_or_concat a with rfl | ⟨a', y, rfl⟩
  · exact linesA_gap _
  · rw [List.concat_eq_append] at *
    by_cases hy : y = 10
    · subst hy
      have hc := last_no (h2 a' rfl)
      have he : cutL (a' ++ [10]) = spl 10 a' := by
        unfold cutL
        rw [spl_end, if_pos (by simp), List.dropLast_concat]
      rw [he, spl_end, List.append_assoc, linesA_app _ _ _ (Nat.le_refl _) hc, List.singleton_append, linesA_gap]
    · have hc := last_no h1
      have he : cutL (a' ++ [y]) = spl 10 (a' ++ [y]) := by
        unfold cutL
        rw [if_neg]
        rw [spl_snoc hy]; simp
      rw [he, linesA_app _ _ _ (Nat.le_refl _) hc]
theorem readF_zero {s : T} (h : (readF s).2 = 0) : 0 ∉ s ∧ readF s = (linesA (cutL s), 0) := by
  unfold readF at h ⊢
  split at h
  · cases h
  · rename_i h1
    split at h
    · cases h
    · rename_i h2
      exact ⟨h2, by rw [if_neg h1, if_neg h2]⟩
/-- the law's plain part -/
theorem parts (a b : T) (ha : a.length ≤ 500) (hb : b.length ≤ 500) (ea : (readF a).2 = 0) (eb : (readF b).2 = 0) (h1 : a.getLast? ≠ some 92) (h2 : ∀ a', a = a' ++ [10] → a'.getLast? ≠ some 92) : readF (a ++ 10 :: b) = ((readF a).1 ++ (readF b).1, 0) := by
  obtain ⟨za, ra⟩ := readF_zero ea
  obtain ⟨zb, rb⟩ := readF_zero eb
  rw [ra, rb]
  unfold readF
  rw [if_neg (by simp only [List.length_append, List.length_cons]; omega), if_neg (by simp [za, zb]), two_lines a b h1 h2]
end Go.Proofs.YtkocnbehogefnaaDoor.Ln
