/- A slice of strings among a law's arguments, opened as one list. -/
import Derived.Test.YtmblmenafplccaaDoorStrsWalk
import Derived.ProofKit
import Derived.SliceStrings
import Derived.OpenShut
namespace Go.Proofs.YtmblmenafplccaaDoor
open Go.RowKit Go.Deep Go.ChangeShapes Go.WideShapes
theorem cellsS : Tryd.prog.cellsOf 9 = 1 := by kernel_rfl
theorem laidOutP : laidOutB Tryd.prog = true := by kernel_rfl
theorem open_SR {H : Type} {enc : TypeId × Value → H} {W : World} {a0 : Option Addr} {len cap : Nat} {d : DataW H} {ps : List MemPlace} (h : DataW.Trod enc Tryd.prog W 0 (fun _ => true) true 31 (.slice a0 len cap) d ps) :
    ∃ L : List ByteArray, L.length = len ∧ L.length ≤ maxLen ∧ (∀ (k : Nat) (s : ByteArray), L[k]? = some s → s.size ≤ maxLen) ∧ SR W a0 L := by
  obtain ⟨fuel, hf⟩ := h
  rcases open_strings Tryd.underlying31 Tryd.underlying9 cellsS hf with ⟨hcs, hx⟩ | ⟨a, len', cap', ss, hcs, _, hl, hm, hz, hx, hcell, hws⟩
  · simp [Value.cells] at hcs
    obtain ⟨rfl, rfl, rfl⟩ := hcs
    exact ⟨[], rfl, Nat.zero_le _, fun k s hk => by simp at hk, SR.nil _ _⟩
  · simp [Value.cells] at hcs
    obtain ⟨rfl, rfl, rfl⟩ := hcs
    simp only [if_true] at hz
    have hlen : (ss.take len).length = len := by simp; omega
    refine ⟨ss.take len, hlen, by omega, fun k s hk => hws s (List.mem_of_mem_take (List.mem_of_getElem? hk)), fun k s hk => ?_⟩
    have hk2 : k < len := by
      have := (List.getElem?_eq_some_iff.1 hk).1
      omega
    rw [List.getElem?_take_of_lt hk2] at hk
    have hc := hcell k (by omega)
    obtain ⟨b, off, spot⟩ := a
    have hspot : spot = none := by simpa [Addr.add] using World.cell?_spot (hcell 0 (by omega))
    subst hspot
    have e2 : (Addr.mk b off none).add k = ⟨b, off + k, none⟩ := by
      unfold Addr.add
      split
      · rename_i h0; subst h0; rfl
      · rfl
    rw [e2] at hc
    refine ⟨b, off, rfl, World.block_lt_of_cell? W _ hc, ?_⟩
    rw [hc, List.getD_eq_getElem?_getD, hk]
    rfl
end Go.Proofs.YtmblmenafplccaaDoor
