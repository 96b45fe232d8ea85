/- Walks of package arith: levels, next. -/
import Derived.Test.YtpjbklajjikgjaaDoorArithWalkA
import Derived.Test.YtpjbklajjikgjaaDoorStrsWalk
namespace Go.Proofs.YtpjbklajjikgjaaDoor
open Go.RowKit Go.Deep

/-- the operators between two, level by level -/
def lvs : List (List ByteArray) := [[⟨#[124, 124]⟩], [⟨#[38, 38]⟩], [⟨#[124]⟩], [⟨#[94]⟩], [⟨#[38]⟩], [⟨#[61, 61]⟩, ⟨#[33, 61]⟩], [⟨#[60, 61]⟩, ⟨#[62, 61]⟩, ⟨#[60]⟩, ⟨#[62]⟩], [⟨#[60, 60]⟩, ⟨#[62, 62]⟩], [⟨#[43]⟩, ⟨#[45]⟩], [⟨#[42]⟩, ⟨#[47]⟩, ⟨#[37]⟩]]
/-- they lie at block b -/
def LV (w : World) (b B : Nat) : Prop := B ≤ b ∧ ∀ (k : Nat) (L : List ByteArray), lvs[k]? = some L → ∃ a, B ≤ a ∧ w.cell? ⟨b, k, none⟩ = some (.slice (some ⟨a, 0, none⟩) L.length L.length) ∧ SR w (some ⟨a, 0, none⟩) L
theorem sr_block {w : World} {a : Nat} {cs : Array Value} {T : TypeId} {fr : Nat × Nat} {L : List ByteArray} (hb : w.heap[a]? = some (.cells cs T fr)) (h : ∀ (i : Nat) (s : ByteArray), L[i]? = some s → cs[i]? = some (.string s)) : SR w (some ⟨a, 0, none⟩) L :=
  fun i s hi => ⟨a, 0, rfl, (Array.getElem?_eq_some_iff.1 hb).1, by
    rw [Nat.zero_add]
    simp [World.cell?, hb, h i s hi]⟩
/-- blocks laid one behind the other -/
def allocs (w : World) : List Obj → World
  | [] => w
  | o :: os => allocs (w.alloc o) os
theorem allocs_below (w : World) : ∀ os, Below w.heap.size w (allocs w os)
  | [] => Below.refl _ _
  | o :: os => ((Below.refl _ _).alloc (Nat.le_refl _) o).trans ((allocs_below (w.alloc o) os).mono (by simp))
theorem heap_allocs' (w : World) : ∀ os k, k < os.length → (allocs w os).heap[w.heap.size + k]? = os[k]?
  | [], k, h => by simp at h
  | o :: os, 0, _ => ((allocs_below (w.alloc o) os).block w.heap.size (by simp)).trans (heap_alloc_new w o)
  | o :: os, k + 1, h => by
    have := heap_allocs' (w.alloc o) os k (by simpa using h)
    rw [World.size_alloc] at this
    rw [show w.heap.size + (k + 1) = w.heap.size + 1 + k from by omega]
    exact this
theorem heap_allocs {W : World} (w : World) (os : List Obj) (k : Nat) (h : W = allocs w os) (hk : k < os.length) : W.heap[w.heap.size + k]? = os[k]? := by
  rw [h, heap_allocs' w os k hk]
set_option maxRecDepth 100000 in
set_option maxHeartbeats 1000000 in
theorem levels_any (w : World) : Calls Tryd.prog 34 #[] w fun e w' => (∃ b, e = .returned (.slice (some ⟨b, 0, none⟩) 10 10) ∧ LV w' b w.heap.size) ∧ Below w.heap.size w w' := by
  go_enter Tryd.func34, Tryd.ntmps34
  go_wp2
  go_ret
  refine ⟨⟨w.heap.size + 10, rfl, Nat.le_add_right _ _, fun k L hk => ?_⟩, ?_⟩
  · have h10 : k < 10 := (List.getElem?_eq_some_iff.1 hk).1
    refine ⟨w.heap.size + k, Nat.le_add_right _ _, ?_, sr_block (cs := (L.map Value.string).toArray) (T := 9) (fr := (0, 0)) ?_ (fun i s hi => by simp [hi])⟩
    · rw [World.cell?_alloc_at _ _ _ _ (by simp)]
      match k, h10, hk with
      | 0, _, hk => simp [lvs] at hk; subst hk; rfl
      | 1, _, hk => simp [lvs] at hk; subst hk; rfl
      | 2, _, hk => simp [lvs] at hk; subst hk; rfl
      | 3, _, hk => simp [lvs] at hk; subst hk; rfl
      | 4, _, hk => simp [lvs] at hk; subst hk; rfl
      | 5, _, hk => simp [lvs] at hk; subst hk; rfl
      | 6, _, hk => simp [lvs] at hk; subst hk; rfl
      | 7, _, hk => simp [lvs] at hk; subst hk; rfl
      | 8, _, hk => simp [lvs] at hk; subst hk; rfl
      | 9, _, hk => simp [lvs] at hk; subst hk; rfl
    · refine (heap_allocs w [_, _, _, _, _, _, _, _, _, _, _] k rfl (by simp; omega)).trans ?_
      match k, h10, hk with
      | 0, _, hk => simp [lvs] at hk; subst hk; rfl
      | 1, _, hk => simp [lvs] at hk; subst hk; rfl
      | 2, _, hk => simp [lvs] at hk; subst hk; rfl
      | 3, _, hk => simp [lvs] at hk; subst hk; rfl
      | 4, _, hk => simp [lvs] at hk; subst hk; rfl
      | 5, _, hk => simp [lvs] at hk; subst hk; rfl
      | 6, _, hk => simp [lvs] at hk; subst hk; rfl
      | 7, _, hk => simp [lvs] at hk; subst hk; rfl
      | 8, _, hk => simp [lvs] at hk; subst hk; rfl
      | 9, _, hk => simp [lvs] at hk; subst hk; rfl
  · exact allocs_below w [_, _, _, _, _, _, _, _, _, _, _]
end Go.Proofs.YtpjbklajjikgjaaDoor
