/- Plain law of file systems: the way to a path, name by name; what lies below a path. No program in sight. -/
import Derived.Test.YtdilfbimkepllaaDoorVfsMath
namespace Go.Proofs.YtdilfbimkepllaaDoor.Vf
open Ln Pth

/-- why there is no way, name by name -/
def wayL (m : Mp) (pre : List T) : List T → Nat
  | [] => 0
  | s :: r => if kindM m (joinF pre) = 0 then 6 else if kindM m (joinF pre) = 1 then 11 else wayL m (pre ++ [s]) r
theorem way_skip (m : Mp) (q : T) : ∀ (n f i : Nat), i + n ≤ q.length → (∀ j, j < n → q.getD (i + j) 0 ≠ 47) → wayB m q (n + f) i = wayB m q f (i + n)
  | 0, f, i, _, _ => by rw [Nat.zero_add]; rfl
  | n + 1, f, i, h, hj => by
    have h1 := hj 0 (by omega)
    rw [Nat.add_zero] at h1
    rw [show n + 1 + f = (n + f) + 1 by omega, wayB, if_neg (by omega), if_pos (.inl h1), way_skip m q n f (i + 1) (by omega) (fun j hj' => by
      have := hj (j + 1) (by omega)
      rwa [show i + 1 + j = i + (j + 1) by omega])]
    congr 1
    omega
theorem getD_app_right (a b : T) (j : Nat) : (a ++ b).getD (a.length + j) 0 = b.getD j 0 := by
  simp [List.getD_eq_getElem?_getD, List.getElem?_append_right]
theorem getD_ne {s : T} (h : 47 ∉ s) {j : Nat} (hj : j < s.length) : s.getD j 0 ≠ 47 := by
  rw [List.getD_eq_getElem?_getD, List.getElem?_eq_getElem hj]
  intro e
  exact h (by rw [← e]; exact List.getElem_mem _)
theorem slashed_cons (s : T) (r : List T) : slashed (s :: r) = 47 :: (s ++ slashed r) := by simp [slashed]
theorem way_names (m : Mp) : ∀ (rest pre : List T) (q : T), q = slashed pre ++ slashed rest → pre ≠ [] → (∀ s ∈ rest, 47 ∉ s) → wayB m q (slashed rest).length (slashed pre).length = wayL m pre rest
  | [], pre, q, _, _, _ => rfl
  | s :: r, pre, q, hq, hp, hs => by
    have hl : (slashed (s :: r)).length = s.length + (slashed r).length + 1 := by rw [slashed_cons]; simp
    have hql : q.length = (slashed pre).length + (slashed (s :: r)).length := by rw [hq, List.length_append]
    have h0 : q.getD (slashed pre).length 0 = 47 := by
      have := getD_app_right (slashed pre) (slashed (s :: r)) 0
      rw [Nat.add_zero] at this
      rw [hq, this, slashed_cons]; rfl
    have hpl : (slashed pre).length ≠ 0 := fun e => slashed_ne hp (List.length_eq_zero_iff.1 e)
    have ht : q.take (slashed pre).length = joinF pre := by rw [hq, List.take_left', joinF, if_neg hp]; rfl
    have hn : slashed (pre ++ [s]) = slashed pre ++ (47 :: s) := by rw [slashed_app]; simp [slashed]
    have ih := way_names m r (pre ++ [s]) q (by rw [hq, hn, slashed_cons]; simp) (by simp) (fun x hx => hs x (by simp [hx]))
    rw [hl, wayB, if_neg (by omega), if_neg (by rw [h0]; simpa using hpl), ht, wayL]
    split
    · rfl
    · split
      · rfl
      · rw [way_skip m q s.length (slashed r).length ((slashed pre).length + 1) (by omega) (fun j hj => by
          have := getD_app_right (slashed pre) (slashed (s :: r)) (j + 1)
          rw [hq, show (slashed pre).length + 1 + j = (slashed pre).length + (j + 1) by omega, this, slashed_cons, List.getD_cons_succ]
          rw [List.getD_eq_getElem?_getD, List.getElem?_append_left hj, ← List.getD_eq_getElem?_getD]
          exact getD_ne (hs s (by simp)) hj), ← ih, hn, List.length_append]
        congr 1
        simp only [List.length_cons]
        omega
/-- the way to a path of names -/
theorem way_join (m : Mp) : ∀ {l : List T}, (∀ s ∈ l, 47 ∉ s) → wayM m (joinF l) = match l with
    | [] => 0
    | s :: r => wayL m [s] r
  | [], _ => rfl
  | s :: r, h => by
    have e : joinF (s :: r) = slashed [s] ++ slashed r := by rw [joinF, if_neg (by simp), ← slashed_app]; rfl
    have e1 : slashed [s] = 47 :: s := by simp [slashed]
    have := way_names m r [s] (joinF (s :: r)) e (by simp) (fun x hx => h x (by simp [hx]))
    have hlen : (joinF (s :: r)).length = (s.length + (slashed r).length) + 1 := by rw [e, e1]; simp
    unfold wayM
    rw [hlen, wayB, if_neg (by omega), if_pos (.inr rfl), way_skip m _ s.length (slashed r).length 1 (by omega) (fun j hj => by
      rw [e, e1, List.cons_append, Nat.add_comm, List.getD_cons_succ, List.getD_eq_getElem?_getD, List.getElem?_append_left hj, ← List.getD_eq_getElem?_getD]
      exact getD_ne (h s (by simp)) hj)]
    rw [e1] at this
    simpa [Nat.add_comm] using this
end Go.Proofs.YtdilfbimkepllaaDoor.Vf
