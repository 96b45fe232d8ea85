/- Rising lists of texts: what sorting and striking doubles makes of a list, and what putting each in makes of it; no program in sight. -/
import Derived.Lib.SlicesCompact
namespace Qm.Base
open Go.Lib
abbrev Tx := List UInt8
theorem tx_irrefl (a : Tx) : ¬ a < a := List.lt_irrefl a
theorem tx_trans {a b c : Tx} (h : a < b) (k : b < c) : a < c := List.lt_trans h k
theorem tx_tri {a b : Tx} (h : ¬ a < b) (k : ¬ b < a) : a = b := List.le_antisymm (List.not_lt.1 k) (List.not_lt.1 h)
/-- rising, none twice -/
def Ris (l : List Tx) : Prop := l.Pairwise (· < ·)
theorem ris_ext : ∀ {l m : List Tx}, Ris l → Ris m → (∀ x, x ∈ l ↔ x ∈ m) → l = m
  | [], [], _, _, _ => rfl
  | [], b :: m, _, _, h => by have := (h b).2 (by simp); simp at this
  | a :: l, [], _, _, h => by have := (h a).1 (by simp); simp at this
  | a :: l, b :: m, h1, h2, h => by
    obtain ⟨p1, p2⟩ := List.pairwise_cons.1 h1
    obtain ⟨q1, q2⟩ := List.pairwise_cons.1 h2
    have e : a = b := by
      rcases List.mem_cons.1 ((h a).1 (by simp)) with e | e
      · exact e
      · rcases List.mem_cons.1 ((h b).2 (by simp)) with e2 | e2
        · exact e2.symm
        · exact absurd (tx_trans (q1 a e) (p1 b e2)) (tx_irrefl _)
    subst e
    congr 1
    refine ris_ext p2 q2 fun x => ⟨fun hx => ?_, fun hx => ?_⟩
    · rcases List.mem_cons.1 ((h x).1 (List.mem_cons_of_mem _ hx)) with e | e
      · subst e; exact absurd (p1 x hx) (tx_irrefl _)
      · exact e
    · rcases List.mem_cons.1 ((h x).2 (List.mem_cons_of_mem _ hx)) with e | e
      · subst e; exact absurd (q1 x hx) (tx_irrefl _)
      · exact e
/-- a text into a rising list, once -/
def putT (s : Tx) : List Tx → List Tx
  | [] => [s]
  | x :: l => if x < s then x :: putT s l else if x = s then x :: l else s :: x :: l
theorem putT_mem {s : Tx} : ∀ {l : List Tx} {x : Tx}, x ∈ putT s l ↔ x = s ∨ x ∈ l
  | [], x => by simp [putT]
  | y :: l, x => by
    rw [putT]
    split
    · simp only [List.mem_cons, putT_mem]
      constructor <;> rintro (h | h | h) <;> simp [h]
    · split
      · rename_i h
        subst h
        simp
      · simp
theorem putT_ris {s : Tx} : ∀ {l : List Tx}, Ris l → Ris (putT s l)
  | [], _ => by simp [putT, Ris]
  | y :: l, h => by
    obtain ⟨p1, p2⟩ := List.pairwise_cons.1 h
    rw [putT]
    split
    · rename_i hlt
      refine List.pairwise_cons.2 ⟨fun x hx => ?_, putT_ris p2⟩
      rcases putT_mem.1 hx with e | e
      · rw [e]; exact hlt
      · exact p1 x e
    · split
      · exact h
      · rename_i h1 h2
        have hs : s < y := by
          by_cases k : s < y
          · exact k
          · exact absurd (tx_tri h1 k) h2
        refine List.pairwise_cons.2 ⟨fun x hx => ?_, h⟩
        rcases List.mem_cons.1 hx with e | e
        · rw [e]; exact hs
        · exact tx_trans hs (p1 x e)
def putAll (l : List Tx) : List Tx := l.foldl (fun acc s => putT s acc) []
theorem putAll_aux : ∀ (l acc : List Tx), Ris acc → Ris (l.foldl (fun acc s => putT s acc) acc) ∧ ∀ x, x ∈ l.foldl (fun acc s => putT s acc) acc ↔ x ∈ acc ∨ x ∈ l
  | [], acc, h => ⟨h, fun x => by simp⟩
  | s :: l, acc, h => by
    obtain ⟨h1, h2⟩ := putAll_aux l (putT s acc) (putT_ris h)
    refine ⟨h1, fun x => ?_⟩
    rw [List.foldl_cons, h2 x, putT_mem]
    simp only [List.mem_cons]
    constructor
    · rintro ((h | h) | h) <;> simp [h]
    · rintro (h | h | h) <;> simp [h]
theorem compact_mem (d : Array Tx) : ∀ m x, x ∈ compactUpTo d m ↔ ∃ j, j < m ∧ d[j]! = x
  | 0, x => by simp [compactUpTo]
  | m + 1, x => by
    rw [compactUpTo_succ, List.mem_append, compact_mem d m x]
    constructor
    · rintro (⟨j, h1, h2⟩ | h)
      · exact ⟨j, by omega, h2⟩
      · split at h
        · simp at h; exact ⟨m, by omega, h.symm⟩
        · simp at h
    · rintro ⟨j, h1, h2⟩
      by_cases e : j = m
      · subst e
        by_cases hk : keeps d j = true
        · right; rw [if_pos hk]; simp [h2]
        · left
          have hj : 0 < j := by
            by_cases h0 : j = 0
            · subst h0; exact absurd (keeps_lt_one d 0 (by omega)) hk
            · omega
          refine ⟨j - 1, by omega, ?_⟩
          by_cases he : d[j]! = d[j - 1]!
          · rw [← he, h2]
          · exact absurd (keeps_pos he) hk
      · left; exact ⟨j, by omega, h2⟩
theorem compact_ris (d : Array Tx) (hs : ∀ i j, i < j → j < d.size → ¬ d[j]! < d[i]!) : ∀ m, m ≤ d.size → Ris (compactUpTo d m)
  | 0, _ => by simp [compactUpTo, Ris]
  | m + 1, hm => by
    rw [compactUpTo_succ]
    have ih := compact_ris d hs m (by omega)
    by_cases hk : keeps d m = true
    · rw [if_pos hk]
      refine List.pairwise_append.2 ⟨ih, by simp, fun x hx y hy => ?_⟩
      obtain ⟨j, hj, rfl⟩ := (compact_mem d m x).1 hx
      obtain rfl : y = d[m]! := by simpa using hy
      have hne : d[m]! ≠ d[m - 1]! := by
        intro e
        have := keeps_neg (by omega) e
        rw [this] at hk; cases hk
      have h1 : ¬ d[m]! < d[m - 1]! := hs (m - 1) m (by omega) (by omega)
      have h2 : d[m - 1]! < d[m]! := by
        by_cases k : d[m - 1]! < d[m]!
        · exact k
        · exact absurd (tx_tri h1 k) hne
      by_cases e : j = m - 1
      · subst e; exact h2
      · have h3 := hs j (m - 1) (by omega) (by omega)
        by_cases k : d[j]! < d[m - 1]!
        · exact tx_trans k h2
        · rw [← tx_tri h3 k]; exact h2
    · rw [if_neg hk, List.append_nil]; exact ih
/-- sorted and doubles struck: each once, rising -/
theorem sorted_put (l : List Tx) : compact (l.mergeSort fun x y => decide (x ≤ y)) = putAll l := by
  have hs := List.pairwise_mergeSort (le := fun x y : Tx => decide (x ≤ y)) (by
    intro a b c h1 h2
    simp only [decide_eq_true_eq] at *
    exact List.le_trans h1 h2) (by
    intro a b
    simp only [Bool.or_eq_true, decide_eq_true_eq]
    exact List.le_total a b) l
  obtain ⟨p1, p2⟩ := putAll_aux l [] (by simp [Ris])
  refine ris_ext ?_ p1 fun x => ?_
  · refine compact_ris _ (fun i j hij hj => ?_) _ (by simp)
    have hj2 : j < (l.mergeSort fun x y => decide (x ≤ y)).length := by simpa using hj
    have := List.pairwise_iff_getElem.1 hs i j (by omega) hj2 hij
    simp only [decide_eq_true_eq] at this
    rw [getElem!_pos _ _ (by simpa using hj2), getElem!_pos _ _ (by simp; simp at hj2; omega)]
    simpa [List.not_lt] using this
  · rw [compact, compact_mem, show x ∈ putAll l ↔ _ from p2 x]
    simp only [List.not_mem_nil, false_or]
    rw [← List.mem_mergeSort (le := fun x y : Tx => decide (x ≤ y)) (l := l)]
    constructor
    · rintro ⟨j, hj, rfl⟩
      rw [getElem!_pos _ _ (by simpa using hj)]
      simp
    · intro hx
      obtain ⟨j, hj, e⟩ := List.mem_iff_getElem.1 hx
      exact ⟨j, hj, by rw [getElem!_pos _ _ (by simpa using hj)]; simpa using e⟩
end Qm.Base
