/- Plain law of file systems: the names in a directory are rising, and those that are there. No program in sight. -/
import Derived.Test.YtdilfbimkepllaaDoorVfsMathB
namespace Go.Proofs.YtdilfbimkepllaaDoor.Vf
open Ln Pth

theorem tlt_irr (a : T) : ¬ a < a := List.lt_irrefl _
theorem rise_ext : ∀ {a b : List T}, a.Pairwise (· < ·) → b.Pairwise (· < ·) → (∀ x, x ∈ a ↔ x ∈ b) → a = b
  | [], [], _, _, _ => rfl
  | [], y :: b, _, _, h => absurd ((h y).2 (by simp)) (by simp)
  | x :: a, [], _, _, h => absurd ((h x).1 (by simp)) (by simp)
  | x :: a, y :: b, ha, hb, h => by
    have a1 := List.pairwise_cons.1 ha
    have b1 := List.pairwise_cons.1 hb
    have hxy : x = y := by
      rcases List.mem_cons.1 ((h x).1 (by simp)) with e | m1
      · exact e
      · rcases List.mem_cons.1 ((h y).2 (by simp)) with e | m2
        · exact e.symm
        · exact absurd (List.lt_trans (b1.1 _ m1) (a1.1 _ m2)) (tlt_irr _)
    subst hxy
    rw [rise_ext a1.2 b1.2 (fun z => ?_)]
    constructor
    · intro hz
      rcases List.mem_cons.1 ((h z).1 (by simp [hz])) with rfl | m
      · exact absurd (a1.1 _ hz) (tlt_irr _)
      · exact m
    · intro hz
      rcases List.mem_cons.1 ((h z).2 (by simp [hz])) with rfl | m
      · exact absurd (b1.1 _ hz) (tlt_irr _)
      · exact m
theorem app_lt (fr : T) {a b : T} : fr ++ a < fr ++ b ↔ a < b := by
  induction fr with
  | nil => rfl
  | cons c fr ih => rw [List.cons_append, List.cons_append, List.cons_lt_cons_iff]; simp [ih, UInt8.lt_irrefl]
theorem keys_rise {m : Mp} (h : RiseG m) : (m.map fun x => x.1.data.toList).Pairwise (· < ·) := by
  rw [List.pairwise_map]
  exact List.Pairwise.imp (fun {a b} hab => (sLt_iff _ _).1 hab) h
theorem preB_iff {fr s : T} : preB fr s = true ↔ ∃ r, s = fr ++ r := by
  unfold preB
  rw [List.isPrefixOf_iff_prefix]
  constructor
  · rintro ⟨r, hr⟩; exact ⟨r, hr.symm⟩
  · rintro ⟨r, rfl⟩; exact ⟨r, rfl⟩
theorem below_rise {m : Mp} (h : RiseG m) (q : T) : (belowM m q).Pairwise (· < ·) := List.Pairwise.filter _ (keys_rise h)
theorem mem_below {m : Mp} {q x : T} : x ∈ belowM m q ↔ ∃ r n, x = frontF q ++ r ∧ (bs x, n) ∈ m := by
  unfold belowM
  rw [List.mem_filter, preB_iff, List.mem_map]
  constructor
  · rintro ⟨⟨y, hy, rfl⟩, r, hr⟩
    exact ⟨r, y.2, hr, by rw [bs_of]; exact hy⟩
  · rintro ⟨r, n, hr, hm⟩
    exact ⟨⟨_, hm, bs_list x⟩, r, hr⟩
theorem mem_names {m : Mp} {q x : T} : x ∈ namesM m q ↔ 47 ∉ x ∧ ∃ n, (bs (frontF q ++ x), n) ∈ m := by
  unfold namesM
  rw [List.mem_filter, List.mem_map]
  simp only [decide_eq_true_eq]
  constructor
  · rintro ⟨⟨y, hy, rfl⟩, h47⟩
    obtain ⟨r, n, rfl, hm⟩ := mem_below.1 hy
    rw [List.drop_left] at h47 ⊢
    exact ⟨h47, n, hm⟩
  · rintro ⟨h47, n, hm⟩
    exact ⟨⟨frontF q ++ x, mem_below.2 ⟨x, n, rfl, hm⟩, List.drop_left⟩, h47⟩
theorem names_rise {m : Mp} (h : RiseG m) (q : T) : (namesM m q).Pairwise (· < ·) := by
  unfold namesM
  refine List.Pairwise.filter _ ?_
  rw [List.pairwise_map]
  refine List.Pairwise.imp_of_mem ?_ (below_rise h q)
  intro a b ha hb hab
  obtain ⟨r, _, rfl, _⟩ := mem_below.1 ha
  obtain ⟨s, _, rfl, _⟩ := mem_below.1 hb
  rw [List.drop_left, List.drop_left]
  exact (app_lt _).1 hab
/-- a text into a rising list, once -/
def putT (s : T) : List T → List T
  | [] => [s]
  | y :: l => if y < s then y :: putT s l else if y = s then y :: l else s :: y :: l
theorem mem_putT {s x : T} : ∀ {l : List T}, x ∈ putT s l ↔ x = s ∨ x ∈ l
  | [] => by simp [putT]
  | y :: l => by
    rw [putT]
    split
    · rw [List.mem_cons, mem_putT, List.mem_cons]
      constructor
      · rintro (h | h | h) <;> simp [h]
      · rintro (h | h | h) <;> simp [h]
    · split
      · rename_i e
        subst e
        simp
      · simp
theorem putT_rise (s : T) : ∀ {l : List T}, l.Pairwise (· < ·) → (putT s l).Pairwise (· < ·)
  | [], _ => by simp [putT]
  | y :: l, h => by
    have h1 := List.pairwise_cons.1 h
    rw [putT]
    split
    · rename_i e
      refine List.pairwise_cons.2 ⟨fun z hz => ?_, putT_rise s h1.2⟩
      rcases mem_putT.1 hz with rfl | hz
      · exact e
      · exact h1.1 z hz
    · rename_i e
      split
      · exact h
      · rename_i e2
        have e3 : s < y := by
          rcases List.le_total s y with h | h
          · rcases List.le_iff_lt_or_eq.1 h with h | h
            · exact h
            · exact absurd h.symm e2
          · rcases List.le_iff_lt_or_eq.1 h with h | h
            · exact absurd h e
            · exact absurd h e2
        refine List.pairwise_cons.2 ⟨fun z hz => ?_, h⟩
        rcases List.mem_cons.1 hz with rfl | hz
        · exact e3
        · exact List.lt_trans e3 (h1.1 z hz)
theorem mem_put {m : Mp} (h : RiseG m) {k : ByteArray} {v : Nd} {n : ByteArray} : (∃ u, (n, u) ∈ putG (k, v) m) ↔ n = k ∨ ∃ u, (n, u) ∈ m := by
  constructor
  · rintro ⟨u, hu⟩
    rcases mem_putG hu with e | e
    · injection e with e1 e2; exact .inl e1
    · exact .inr ⟨u, e⟩
  · intro hu
    have := getG_put (k, v) n m
    by_cases e : k = n
    · rw [if_pos e] at this
      exact ⟨v, getG_mem this⟩
    · rw [if_neg e] at this
      rcases hu with rfl | ⟨u, hu⟩
      · exact absurd rfl e
      · exact ⟨u, getG_mem (this.trans (mem_getG h hu))⟩
/-- a name is put into its directory -/
theorem names_put {m : Mp} (h : RiseG m) {q s : T} (hs : 47 ∉ s) (v : Nd) : namesM (putG (bs (frontF q ++ s), v) m) q = putT s (namesM m q) := by
  refine rise_ext (names_rise (RiseG.put _ h) q) (putT_rise s (names_rise h q)) (fun x => ?_)
  rw [mem_names, mem_putT, mem_names, mem_put h]
  constructor
  · rintro ⟨h1, h2⟩
    rcases h2 with h2 | h2
    · exact .inl (List.append_cancel_left (bs_inj h2))
    · exact .inr ⟨h1, h2⟩
  · rintro (rfl | ⟨h1, h2⟩)
    · exact ⟨hs, .inl rfl⟩
    · exact ⟨h1, .inr h2⟩
/-- what is put elsewhere is none of its names -/
theorem names_other {m : Mp} (h : RiseG m) {q : T} {k : ByteArray} (hk : ∀ s, 47 ∉ s → k ≠ bs (frontF q ++ s)) (v : Nd) : namesM (putG (k, v) m) q = namesM m q := by
  refine rise_ext (names_rise (RiseG.put _ h) q) (names_rise h q) (fun x => ?_)
  rw [mem_names, mem_names, mem_put h]
  constructor
  · rintro ⟨h1, h2⟩
    rcases h2 with h2 | h2
    · exact absurd h2.symm (hk x h1)
    · exact ⟨h1, h2⟩
  · rintro ⟨h1, h2⟩
    exact ⟨h1, .inr h2⟩
end Go.Proofs.YtdilfbimkepllaaDoor.Vf
