/- Walk of chapter 21's alive. -/
import Derived.Test.YtmblmenafplccaaGreatDoorFindWalkJ
import Derived.Test.YtmblmenafplccaaGreatDoorVfsTA
namespace Go.Proofs.YtmblmenafplccaaGreatDoor
open Go.RowKit Go.Deep Go.Maps Ln Pth Vf
attribute [local go_sem] bt_eq

theorem sr_one {W : World} {g : Nat} {s : ByteArray} (h : W.heap[g]? = some (.cells #[.string s] 9)) : SR W (some ⟨g, 0, none⟩) [s] := by
  intro k x hk
  cases k with
  | zero =>
    simp at hk
    subst hk
    exact ⟨_, _, rfl, (Array.getElem?_eq_some_iff.1 h).1, cellOf h rfl⟩
  | succ k => simp at hk
theorem rg_rule {W : World} {g : Nat} {r : Rl} (h : W.heap[g]? = some (.cells #[sv r.tg, sv r.nd, sv r.rc] 30)) : RG encRl 3 W (some ⟨g, 0, none⟩) [r] := by
  intro k x hk
  cases k with
  | zero =>
    simp at hk
    subst hk
    refine ⟨_, _, rfl, (Array.getElem?_eq_some_iff.1 h).1, fun j u hu => ?_⟩
    match j, hu with
    | 0, hu => rw [show u = _ from (Option.some.inj hu).symm]; exact cellOf h rfl
    | 1, hu => rw [show u = _ from (Option.some.inj hu).symm]; exact cellOf h rfl
    | 2, hu => rw [show u = _ from (Option.some.inj hu).symm]; exact cellOf h rfl
    | j + 3, hu => simp [encRl] at hu
  | succ k => simp at hk
def alM (w : World) : List Rl := [⟨(some ⟨w.heap.size, 0, none⟩, 1, [⟨#[37, 46, 111]⟩]), (some ⟨w.heap.size + 1, 0, none⟩, 1, [⟨#[37, 46, 99]⟩]), (some ⟨w.heap.size + 1 + 1, 0, none⟩, 1, [⟨#[120]⟩])⟩]
def alW (w : World) : World := ((((w.alloc (.cells #[.string ⟨#[37, 46, 111]⟩] 9)).alloc (.cells #[.string ⟨#[37, 46, 99]⟩] 9)).alloc (.cells #[.string ⟨#[120]⟩] 9)).alloc (.cells #[.slice (some ⟨w.heap.size, 0, none⟩) 1 1, .slice (some ⟨w.heap.size + 1, 0, none⟩) 1 1, .slice (some ⟨w.heap.size + 1 + 1, 0, none⟩) 1 1] 30)).alloc (.cells #[.slice none 0 0, .slice (some ⟨w.heap.size + 1 + 1 + 1, 0, none⟩) 1 1] 26)
theorem alW_ok (w : World) : Below w.heap.size w (alW w) ∧ (alW w).heap[w.heap.size + 1 + 1 + 1 + 1]? = some (.cells #[.slice none 0 0, .slice (some ⟨w.heap.size + 1 + 1 + 1, 0, none⟩) 1 1] 26) ∧
    RLS (alW w) (some ⟨w.heap.size + 1 + 1 + 1, 0, none⟩) (alM w) := by
  have h0 : (alW w).heap[w.heap.size]? = some (.cells #[.string ⟨#[37, 46, 111]⟩] 9) := by
    unfold alW
    rw [Below.heap_alloc _ _ _ (by simp <;> omega), Below.heap_alloc _ _ _ (by simp <;> omega), Below.heap_alloc _ _ _ (by simp <;> omega), Below.heap_alloc _ _ _ (by simp)]
    exact heapNew _ _
  have h1 : (alW w).heap[w.heap.size + 1]? = some (.cells #[.string ⟨#[37, 46, 99]⟩] 9) := by
    unfold alW
    rw [Below.heap_alloc _ _ _ (by simp <;> omega), Below.heap_alloc _ _ _ (by simp <;> omega), Below.heap_alloc _ _ _ (by simp)]
    have := heapNew (w.alloc (.cells #[.string ⟨#[37, 46, 111]⟩] 9)) (.cells #[.string ⟨#[37, 46, 99]⟩] 9)
    simpa using this
  have h2 : (alW w).heap[w.heap.size + 1 + 1]? = some (.cells #[.string ⟨#[120]⟩] 9) := by
    unfold alW
    rw [Below.heap_alloc _ _ _ (by simp <;> omega), Below.heap_alloc _ _ _ (by simp)]
    have := heapNew ((w.alloc (.cells #[.string ⟨#[37, 46, 111]⟩] 9)).alloc (.cells #[.string ⟨#[37, 46, 99]⟩] 9)) (.cells #[.string ⟨#[120]⟩] 9)
    simpa using this
  have h3 : (alW w).heap[w.heap.size + 1 + 1 + 1]? = some (.cells #[.slice (some ⟨w.heap.size, 0, none⟩) 1 1, .slice (some ⟨w.heap.size + 1, 0, none⟩) 1 1, .slice (some ⟨w.heap.size + 1 + 1, 0, none⟩) 1 1] 30) := by
    unfold alW
    rw [Below.heap_alloc _ _ _ (by simp)]
    have := heapNew (((w.alloc (.cells #[.string ⟨#[37, 46, 111]⟩] 9)).alloc (.cells #[.string ⟨#[37, 46, 99]⟩] 9)).alloc (.cells #[.string ⟨#[120]⟩] 9)) (.cells #[.slice (some ⟨w.heap.size, 0, none⟩) 1 1, .slice (some ⟨w.heap.size + 1, 0, none⟩) 1 1, .slice (some ⟨w.heap.size + 1 + 1, 0, none⟩) 1 1] 30)
    simpa using this
  have h4 : (alW w).heap[w.heap.size + 1 + 1 + 1 + 1]? = some (.cells #[.slice none 0 0, .slice (some ⟨w.heap.size + 1 + 1 + 1, 0, none⟩) 1 1] 26) := by
    have := heapNew ((((w.alloc (.cells #[.string ⟨#[37, 46, 111]⟩] 9)).alloc (.cells #[.string ⟨#[37, 46, 99]⟩] 9)).alloc (.cells #[.string ⟨#[120]⟩] 9)).alloc (.cells #[.slice (some ⟨w.heap.size, 0, none⟩) 1 1, .slice (some ⟨w.heap.size + 1, 0, none⟩) 1 1, .slice (some ⟨w.heap.size + 1 + 1, 0, none⟩) 1 1] 30)) (.cells #[.slice none 0 0, .slice (some ⟨w.heap.size + 1 + 1 + 1, 0, none⟩) 1 1] 26)
    unfold alW
    simpa using this
  refine ⟨((((((Below.refl _ _).alloc (Nat.le_refl _) _).alloc (by simp) _).alloc (by simp <;> omega) _).alloc (by simp <;> omega) _).alloc (by simp <;> omega) _), h4, rg_rule h3, ?_⟩
  intro r hr
  unfold alM at hr
  obtain rfl := List.mem_singleton.1 hr
  exact ⟨sr_one h0, sr_one h1, sr_one h2, by simp, by simp, by simp⟩
theorem al_e1 : (writeS (newS 3 10) [47, 97, 46, 99] [] false).2 = 0 := by kernel_rfl
theorem al_plan (w : World) : planF (writeS (newS 3 10) [47, 97, 46, 99] [] false).1 [47] (alM w) [97, 46, 111] = ⟨[⟨#[97, 46, 99]⟩], [⟨#[120]⟩], [97], true⟩ := by kernel_rfl
theorem al_sz (w : World) : ((∀ r ∈ alM w, ∀ x ∈ r.tg.2.2, x.size ≤ 10000) ∧ (∀ r ∈ alM w, plainR r.tg.2.2 = false → ∀ x ∈ r.nd.2.2, x.size ≤ 10000) ∧ ∀ s ∈ specialR (alM w) suffixes, s.size ≤ 10000) ∧ (knownsF (alM w)).length ≤ 100000 ∧ (specialR (alM w) suffixes).length ≤ 100000 ∧ (specialR (alM w) (bs [97, 46, 111])).length ≤ 100000 := by
  refine ⟨⟨fun r hr => ?_, fun r hr _ => ?_, fun s hs => ?_⟩, of_decide_eq_true (by kernel_rfl), of_decide_eq_true (by kernel_rfl), of_decide_eq_true (by kernel_rfl)⟩
  · unfold alM at hr
    obtain rfl := List.mem_singleton.1 hr
    exact fun x hx => by simp at hx; subst hx; decide
  · unfold alM at hr
    obtain rfl := List.mem_singleton.1 hr
    exact fun x hx => by simp at hx; subst hx; decide
  · have : specialR (alM w) suffixes = [] := by kernel_rfl
    rw [this] at hs
    cases hs
end Go.Proofs.YtmblmenafplccaaGreatDoor
