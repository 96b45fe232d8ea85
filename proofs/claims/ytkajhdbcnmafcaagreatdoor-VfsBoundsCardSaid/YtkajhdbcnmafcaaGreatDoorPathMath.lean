/- Plain law of paths: the names of a path, a path of names, a path from the root on. No program in sight. -/
import Derived.Test.YtkajhdbcnmafcaaGreatDoorLinesMath
namespace Go.Proofs.YtkajhdbcnmafcaaGreatDoor.Pth
open Ln

def stepP (out : List T) (s : T) : List T := if s = [] ∨ s = [46] then out else if s = [46, 46] then out.dropLast else out ++ [s]
/-- the names of a path -/
def partsF (cwd p : T) : List T := (if p.head? = some 47 then spl 47 p else spl 47 cwd ++ spl 47 p).foldl stepP []
def withinF (p q : T) : Bool := decide ((partsF [47] q).take (partsF [47] p).length = partsF [47] p)
/-- the names, each behind a stroke -/
def slashed (l : List T) : T := l.flatMap (47 :: ·)
/-- the path of names -/
def joinF (l : List T) : T := if l = [] then [47] else slashed l
def longF (l : List T) : Bool := l.any fun s => decide (60 < s.length)
/-- a path from the root on, or an error -/
def absF (cwd p : T) : T × Nat := if p = [] ∨ 0 ∈ cwd ∨ 0 ∈ p then ([], 1) else
  if longF (partsF cwd p) = false ∧ (partsF cwd p).length ≤ 20 ∧ (joinF (partsF cwd p)).length ≤ 200 then (joinF (partsF cwd p), 0) else ([], 3)
/-- a name in a path -/
def okN (s : T) : Prop := s ≠ [] ∧ s ≠ [46] ∧ s ≠ [46, 46] ∧ 47 ∉ s
theorem stepP_ok {s : T} (h : okN s) (out : List T) : stepP out s = out ++ [s] := by
  rw [stepP, if_neg (by rintro (e | e); exact h.1 e; exact h.2.1 e), if_neg h.2.2.1]
theorem stepP_nil (out : List T) : stepP out [] = out := if_pos (.inl rfl)
theorem spl_noslash (c : UInt8) : ∀ (l : T) (s : T), s ∈ spl c l → c ∉ s
  | [], s, h => by rw [spl] at h; simp at h; subst h; simp
  | b :: l, s, h => by
    rw [spl] at h
    split at h
    · rcases List.mem_cons.1 h with rfl | h
      · simp
      · exact spl_noslash c l s h
    · rename_i hb
      cases hs : spl c l with
      | nil => rw [hs] at h; simp at h; subst h; simpa using fun e => hb e.symm
      | cons x t =>
        rw [hs] at h
        rcases List.mem_cons.1 h with rfl | h
        · have := spl_noslash c l x (by rw [hs]; simp)
          intro hc
          rcases List.mem_cons.1 hc with e | e
          · exact hb e.symm
          · exact this e
        · exact spl_noslash c l s (by rw [hs]; simp [h])
theorem foldl_okN : ∀ (L out : List T), (∀ s ∈ L, 47 ∉ s) → (∀ s ∈ out, okN s) → ∀ s ∈ L.foldl stepP out, okN s
  | [], _, _, ho => ho
  | x :: L, out, hL, ho => by
    rw [List.foldl_cons]
    refine foldl_okN L _ (fun s hs => hL s (by simp [hs])) (fun s hs => ?_)
    unfold stepP at hs
    split at hs
    · exact ho s hs
    · split at hs
      · exact ho s (List.dropLast_subset _ hs)
      · rename_i h1 h2
        rcases List.mem_append.1 hs with hs | hs
        · exact ho s hs
        · obtain rfl : s = x := by simpa using hs
          exact ⟨fun e => h1 (.inl e), fun e => h1 (.inr e), h2, hL _ (by simp)⟩
theorem partsF_ok (cwd p : T) : ∀ s ∈ partsF cwd p, okN s := by
  unfold partsF
  refine foldl_okN _ _ (fun s hs => ?_) (by simp)
  split at hs
  · exact spl_noslash _ _ _ hs
  · rcases List.mem_append.1 hs with hs | hs <;> exact spl_noslash _ _ _ hs
theorem spl_slashed : ∀ {l : List T}, (∀ s ∈ l, 47 ∉ s) → l ≠ [] → spl 47 (slashed l) = [] :: l
  | [], _, h => absurd rfl h
  | [s], h, _ => by
    have : slashed [s] = 47 :: s := by simp [slashed]
    rw [this, spl, if_pos rfl, spl_none (h s (by simp))]
  | s :: t :: l, h, _ => by
    have ih := spl_slashed (l := t :: l) (fun s hs => h s (by simp [hs])) (by simp)
    have e : slashed (s :: t :: l) = 47 :: (s ++ slashed (t :: l)) := by simp [slashed]
    have e2 : slashed (t :: l) = 47 :: (t ++ slashed l) := by simp [slashed]
    rw [e, spl, if_pos rfl, e2, spl_app _ (h s (by simp))]
    rw [e2, spl, if_pos rfl] at ih
    injection ih with _ ih
    rw [ih]
theorem foldl_names : ∀ (l out : List T), (∀ s ∈ l, okN s) → l.foldl stepP out = out ++ l
  | [], out, _ => by simp
  | s :: l, out, h => by
    rw [List.foldl_cons, stepP_ok (h s (by simp)), foldl_names l _ (fun s hs => h s (by simp [hs]))]
    simp
theorem joinF_head (l : List T) : (joinF l).head? = some 47 := by
  unfold joinF
  split
  · rfl
  · cases l with
    | nil => exact absurd rfl ‹_›
    | cons s l => simp [slashed]
/-- the names of a path of names -/
theorem parts_join {l : List T} (h : ∀ s ∈ l, okN s) (cwd : T) : partsF cwd (joinF l) = l := by
  unfold partsF
  rw [if_pos (joinF_head l)]
  by_cases e : l = []
  · subst e; rfl
  · rw [joinF, if_neg e, spl_slashed (fun s hs => (h s hs).2.2.2) e, List.foldl_cons, stepP_nil, foldl_names l [] h, List.nil_append]
theorem joinF_inj {a b : List T} (ha : ∀ s ∈ a, okN s) (hb : ∀ s ∈ b, okN s) (h : joinF a = joinF b) : a = b := by
  rw [← parts_join ha [], h, parts_join hb]
theorem slashed_app (a b : List T) : slashed (a ++ b) = slashed a ++ slashed b := by simp [slashed]
theorem slashed_len (l : List T) : (slashed l).length = (l.map (·.length + 1)).sum := by
  induction l with
  | nil => rfl
  | cons s l ih => rw [show slashed (s :: l) = (47 :: s) ++ slashed l by simp [slashed], List.length_append, ih]; simp
theorem slashed_ne {l : List T} (h : l ≠ []) : slashed l ≠ [] := by
  cases l with
  | nil => exact absurd rfl h
  | cons s l => simp [slashed]
theorem foldl_len : ∀ (L out : List T), (L.foldl stepP out).length ≤ out.length + L.length
  | [], out => by simp
  | x :: L, out => by
    rw [List.foldl_cons]
    have := foldl_len L (stepP out x)
    have h2 : (stepP out x).length ≤ out.length + 1 := by
      unfold stepP
      split
      · omega
      · split
        · rw [List.length_dropLast]; omega
        · simp
    simp only [List.length_cons]
    omega
theorem spl_len (c : UInt8) : ∀ l : T, (spl c l).length ≤ l.length + 1
  | [] => by simp [spl]
  | b :: l => by
    have := spl_len c l
    rw [spl]
    split
    · simp; omega
    · split
      · simp
      · rename_i h; rw [h] at this; simp at this ⊢; omega
theorem partsF_len (cwd p : T) : (partsF cwd p).length ≤ cwd.length + p.length + 2 := by
  unfold partsF
  refine Nat.le_trans (foldl_len _ _) ?_
  have h1 := spl_len 47 cwd
  have h2 := spl_len 47 p
  split
  · simp; omega
  · simp; omega
theorem sum_spl (c : UInt8) : ∀ l : T, ((spl c l).map (·.length + 1)).sum = l.length + 1
  | [] => rfl
  | b :: l => by
    have := sum_spl c l
    by_cases h : b = c
    · rw [spl, if_pos h]; simp at this ⊢; omega
    · obtain ⟨x, t, h1, h2⟩ := spl_cons_ne h l
      rw [h1] at this
      rw [h2]
      simp at this ⊢
      omega
theorem sum_fold : ∀ (L out : List T), ((L.foldl stepP out).map (·.length + 1)).sum ≤ (out.map (·.length + 1)).sum + (L.map (·.length + 1)).sum
  | [], out => by simp
  | x :: L, out => by
    rw [List.foldl_cons]
    have := sum_fold L (stepP out x)
    have h2 : ((stepP out x).map (·.length + 1)).sum ≤ (out.map (·.length + 1)).sum + (x.length + 1) := by
      unfold stepP
      split
      · omega
      · split
        · rw [List.dropLast_eq_take, List.map_take]
          refine Nat.le_trans ?_ (Nat.le_add_right _ _)
          conv => rhs; rw [← List.take_append_drop (out.length - 1) (out.map (·.length + 1)), List.sum_append]
          omega
        · simp
    rw [List.map_cons, List.sum_cons]
    omega
theorem joinF_len (cwd p : T) : (joinF (partsF cwd p)).length ≤ cwd.length + p.length + 3 ∧ ∀ s ∈ partsF cwd p, s.length ≤ cwd.length + p.length + 3 := by
  have h : ((partsF cwd p).map (·.length + 1)).sum ≤ cwd.length + p.length + 2 := by
    unfold partsF
    refine Nat.le_trans (sum_fold _ _) ?_
    have h1 := sum_spl 47 cwd
    have h2 := sum_spl 47 p
    split
    · simp only [List.map_nil, List.sum_nil]; omega
    · simp only [List.map_nil, List.sum_nil, List.map_append, List.sum_append]; omega
  refine ⟨?_, fun s hs => ?_⟩
  · unfold joinF
    split
    · simp
    · rw [slashed_len]; omega
  · have : ∀ L : List T, s ∈ L → s.length + 1 ≤ (L.map (·.length + 1)).sum := by
      intro L
      induction L with
      | nil => intro h; cases h
      | cons y L ih =>
        intro h
        rw [List.map_cons, List.sum_cons]
        rcases List.mem_cons.1 h with rfl | h
        · omega
        · have := ih h; omega
    have := this _ hs
    omega
/-- what a good path is -/
structure GoodP (l : List T) : Prop where
  ok : ∀ s ∈ l, okN s
  long : ∀ s ∈ l, s.length ≤ 60
  zero : ∀ s ∈ l, 0 ∉ s
  deep : l.length ≤ 20
  len : (joinF l).length ≤ 200
theorem longF_iff (l : List T) : longF l = false ↔ ∀ s ∈ l, s.length ≤ 60 := by
  unfold longF
  rw [List.any_eq_false]
  simp
theorem spl_mem_sub (c : UInt8) : ∀ (l : T) (s : T), s ∈ spl c l → ∀ x ∈ s, x ∈ l
  | [], s, h, x, hx => by rw [spl] at h; simp at h; subst h; cases hx
  | b :: l, s, h, x, hx => by
    rw [spl] at h
    split at h
    · rcases List.mem_cons.1 h with rfl | h
      · cases hx
      · exact List.mem_cons_of_mem _ (spl_mem_sub c l s h x hx)
    · cases hs : spl c l with
      | nil => rw [hs] at h; simp at h; subst h; simp at hx; simp [hx]
      | cons y t =>
        rw [hs] at h
        rcases List.mem_cons.1 h with rfl | h
        · rcases List.mem_cons.1 hx with rfl | hx
          · simp
          · exact List.mem_cons_of_mem _ (spl_mem_sub c l y (by rw [hs]; simp) x hx)
        · exact List.mem_cons_of_mem _ (spl_mem_sub c l s (by rw [hs]; simp [h]) x hx)
theorem foldl_zero : ∀ (L out : List T), (∀ s ∈ L, 0 ∉ s) → (∀ s ∈ out, 0 ∉ s) → ∀ s ∈ L.foldl stepP out, 0 ∉ s
  | [], _, _, ho => ho
  | x :: L, out, hL, ho => by
    rw [List.foldl_cons]
    refine foldl_zero L _ (fun s hs => hL s (by simp [hs])) (fun s hs => ?_)
    unfold stepP at hs
    split at hs
    · exact ho s hs
    · split at hs
      · exact ho s (List.dropLast_subset _ hs)
      · rcases List.mem_append.1 hs with hs | hs
        · exact ho s hs
        · obtain rfl : s = x := by simpa using hs
          exact hL _ (by simp)
theorem partsF_zero {cwd p : T} (h1 : 0 ∉ cwd) (h2 : 0 ∉ p) : ∀ s ∈ partsF cwd p, 0 ∉ s := by
  unfold partsF
  refine foldl_zero _ _ (fun s hs h0 => ?_) (by simp)
  split at hs
  · exact h2 (spl_mem_sub _ _ _ hs 0 h0)
  · rcases List.mem_append.1 hs with hs | hs
    · exact h1 (spl_mem_sub _ _ _ hs 0 h0)
    · exact h2 (spl_mem_sub _ _ _ hs 0 h0)
/-- the two ways of a path -/
theorem absF_cases (cwd p : T) : (∃ l, GoodP l ∧ absF cwd p = (joinF l, 0) ∧ partsF cwd p = l) ∨ ((absF cwd p).1 = [] ∧ ((absF cwd p).2 = 1 ∨ (absF cwd p).2 = 3)) := by
  unfold absF
  split
  · exact .inr ⟨rfl, .inl rfl⟩
  · rename_i h
    split
    · rename_i h2
      refine .inl ⟨_, ⟨partsF_ok _ _, (longF_iff _).1 h2.1, partsF_zero (fun c => h (.inr (.inl c))) (fun c => h (.inr (.inr c))), h2.2.1, h2.2.2⟩, rfl, rfl⟩
    · exact .inr ⟨rfl, .inr rfl⟩
theorem joinF_zero {l : List T} (h : ∀ s ∈ l, 0 ∉ s) : 0 ∉ joinF l := by
  unfold joinF
  split
  · simp
  · intro h0
    rw [slashed, List.mem_flatMap] at h0
    obtain ⟨s, hs, h0⟩ := h0
    rcases List.mem_cons.1 h0 with e | e
    · cases e
    · exact h s hs e
theorem joinF_ne (l : List T) : joinF l ≠ [] := by
  intro h
  have := joinF_head l
  rw [h] at this
  cases this
/-- a good path is its own -/
theorem absF_good {l : List T} (h : GoodP l) : absF [47] (joinF l) = (joinF l, 0) := by
  unfold absF
  rw [if_neg (by
    rintro (e | e | e)
    · exact joinF_ne l e
    · simp at e
    · exact joinF_zero h.zero e), parts_join h.ok, if_pos ⟨(longF_iff _).2 h.long, h.deep, h.len⟩]
theorem joinF_nil : joinF [] = [47] := rfl
theorem joinF_root {l : List T} (h : ∀ s ∈ l, okN s) : joinF l = [47] ↔ l = [] := by
  constructor
  · intro e
    have := joinF_inj h (b := []) (by simp) e
    exact this
  · rintro rfl; rfl
theorem GoodP.take {l : List T} (h : GoodP l) (k : Nat) : GoodP (l.take k) := by
  refine ⟨fun s hs => h.ok s (List.mem_of_mem_take hs), fun s hs => h.long s (List.mem_of_mem_take hs), fun s hs => h.zero s (List.mem_of_mem_take hs), by rw [List.length_take]; have := h.deep; omega, ?_⟩
  have h1 := h.len
  unfold joinF at h1 ⊢
  split
  · simp
  · rename_i he
    rw [if_neg (fun e => he (by rw [e, List.take_nil]))] at h1
    refine Nat.le_trans ?_ h1
    conv => rhs; rw [← List.take_append_drop k l, slashed_app, List.length_append]
    omega
theorem GoodP.nil : GoodP [] := ⟨by simp, by simp, by simp, by simp, by simp [joinF]⟩
end Go.Proofs.YtkajhdbcnmafcaaGreatDoor.Pth
