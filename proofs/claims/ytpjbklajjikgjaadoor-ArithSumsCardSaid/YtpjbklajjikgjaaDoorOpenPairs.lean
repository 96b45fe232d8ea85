/- A slice of pairs of texts among a law's arguments, opened as one list. -/
import Derived.Test.YtpjbklajjikgjaaDoorPairsWalk
import Derived.Test.YtpjbklajjikgjaaDoorOpenStrs
import Derived.Deep.SlicePairs
namespace Go.Proofs.YtpjbklajjikgjaaDoor
open Go.RowKit Go.Deep Go.ChangeShapes Go.WideShapes
theorem choose_pr {P : Nat → Pr → Prop} : ∀ n, (∀ i, i < n → ∃ x, P i x) → ∃ L : List Pr, L.length = n ∧ ∀ i x, L[i]? = some x → P i x
  | 0, _ => ⟨[], rfl, fun i x h => by simp at h⟩
  | n + 1, h => by
    obtain ⟨L, hl, hL⟩ := choose_pr n (fun i hi => h i (by omega))
    obtain ⟨x, hx⟩ := h n (by omega)
    refine ⟨L ++ [x], by simp [hl], fun i y hy => ?_⟩
    by_cases hi : i < L.length
    · rw [List.getElem?_append_left hi] at hy
      exact hL i y hy
    · rw [List.getElem?_append_right (by omega)] at hy
      have : i - L.length = 0 := by
        have := (List.getElem?_eq_some_iff.1 hy).1
        simp at this
        omega
      rw [this] at hy
      simp at hy
      subst hy
      rw [show i = n by omega]
      exact hx
theorem add_off (b off k : Nat) : (Addr.mk b off none).add k = ⟨b, off + k, none⟩ := by
  unfold Addr.add
  split
  · rename_i h0; subst h0; rfl
  · rfl
theorem open_PR {H : Type} {enc : TypeId × Value → H} {W : World} {a0 : Option Addr} {len cap : Nat} {d : DataW H} {ps : List MemPlace} (h : DataW.Trod enc Tryd.prog W 0 (fun _ => true) true 22 (.slice a0 len cap) d ps) :
    ∃ L : List Pr, L.length = len ∧ L.length ≤ maxLen ∧ (∀ x ∈ L, x.1.size ≤ maxLen ∧ x.2.size ≤ maxLen) ∧ PR W a0 L := by
  obtain ⟨fuel, hf⟩ := h
  rcases open_slice_pairs Tryd.underlying22 Tryd.underlying35 (by kernel_rfl) rfl rfl (by kernel_rfl) (by kernel_rfl) hf with ⟨hcs, hx⟩ | ⟨a, len', cap', m, n, V0, V1, D0, D1, P0, P1, hcs, _, hl, hm, hz, hx, hcell⟩
  · simp [Value.cells] at hcs
    obtain ⟨rfl, rfl, rfl⟩ := hcs
    exact ⟨[], rfl, Nat.zero_le _, fun x hx => by simp at hx, PR.nil _ _⟩
  · simp [Value.cells] at hcs
    obtain ⟨rfl, rfl, rfl⟩ := hcs
    simp only [if_true] at hz
    subst hz
    obtain ⟨L, hL, hLx⟩ := choose_pr (P := fun i x => V0 i = .string x.1 ∧ V1 i = .string x.2 ∧ x.1.size ≤ maxLen ∧ x.2.size ≤ maxLen) len (fun i hi => by
      obtain ⟨_, _, h1, h2⟩ := hcell i (by omega)
      obtain ⟨s1, e1, _, l1⟩ := DataW.trod_string Tryd.underlying9 h1
      obtain ⟨s2, e2, _, l2⟩ := DataW.trod_string Tryd.underlying9 h2
      injection e1 with e1
      injection e2 with e2
      exact ⟨(s1, s2), e1, e2, l1, l2⟩)
    refine ⟨L, hL, by omega, fun x hx => ?_, fun k x hk => ?_⟩
    · obtain ⟨i, hi⟩ := List.getElem?_of_mem hx
      exact (hLx i x hi).2.2
    · have hk2 : k < len := by
        have := (List.getElem?_eq_some_iff.1 hk).1
        omega
      obtain ⟨h1, h2, _, _⟩ := hcell k (by omega)
      obtain ⟨e1, e2, _, _⟩ := hLx k x hk
      obtain ⟨b, off, spot⟩ := a
      have hspot : spot = none := by simpa [Addr.add] using World.cell?_spot (hcell 0 (by omega)).1
      subst hspot
      rw [add_off] at h1 h2
      rw [e1] at h1
      rw [e2] at h2
      exact ⟨b, off, rfl, World.block_lt_of_cell? W _ h1, h1, by rw [Nat.add_assoc]; exact h2⟩
end Go.Proofs.YtpjbklajjikgjaaDoor
