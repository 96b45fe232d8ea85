/- A slice of ints among a law's arguments, opened as one list. -/
import Derived.Test.YtpjbklajjikgjaaDoorStrsWalk
import Derived.ProofKit
import Derived.ChangeSlices
import Derived.OpenShut
namespace Go.Proofs.YtpjbklajjikgjaaDoor
open Go.RowKit Go.Deep Go.ChangeShapes Go.WideShapes
/-- a row of ints stands at A -/
def IR (w : World) (A : Option Addr) (L : List Int) : Prop :=
  ∀ k n, L[k]? = some n → ∃ g o, A = some ⟨g, o, none⟩ ∧ g < w.heap.size ∧ w.cell? ⟨g, o + k, none⟩ = some (.int .i64 n)
theorem IR.nil (w : World) (A : Option Addr) : IR w A [] := fun k s h => by simp at h
theorem IR.below {w w' : World} {A : Option Addr} {L : List Int} (h : IR w A L) (hb : Below w.heap.size w w') : IR w' A L := fun k s hk => by
  obtain ⟨g, o, e, hg, hc⟩ := h k s hk
  exact ⟨g, o, e, Nat.lt_of_lt_of_le hg hb.size, (hb.cell (p := ⟨g, o + k, none⟩) hg).trans hc⟩
theorem cellsI : Tryd.prog.cellsOf 3 = 1 := by kernel_rfl
theorem open_IR {H : Type} {enc : TypeId × Value → H} {W : World} {a0 : Option Addr} {len cap : Nat} {d : DataW H} {ps : List MemPlace} (h : DataW.Trod enc Tryd.prog W 0 (fun _ => true) true 37 (.slice a0 len cap) d ps) :
    ∃ L : List Int, L.length = len ∧ L.length ≤ maxLen ∧ (∀ (k : Nat) (s : Int), L[k]? = some s → (Lit.int .i64 s).wf = true) ∧ IR W a0 L := by
  obtain ⟨fuel, hf⟩ := h
  rcases open_ints Tryd.underlying37 Tryd.underlying3 cellsI hf with ⟨hcs, hx⟩ | ⟨a, len', cap', ss, hcs, _, hl, hm, hz, hx, hcell, hws⟩
  · simp [Value.cells] at hcs
    obtain ⟨rfl, rfl, rfl⟩ := hcs
    exact ⟨[], rfl, Nat.zero_le _, fun k s hk => by simp at hk, IR.nil _ _⟩
  · simp [Value.cells] at hcs
    obtain ⟨rfl, rfl, rfl⟩ := hcs
    simp only [if_true] at hz
    have hlen : (ss.take len).length = len := by simp; omega
    refine ⟨ss.take len, hlen, by omega, fun k s hk => hws s (List.mem_of_mem_take (List.mem_of_getElem? hk)), fun k s hk => ?_⟩
    have hk2 : k < len := by
      have := (List.getElem?_eq_some_iff.1 hk).1
      omega
    rw [List.getElem?_take_of_lt hk2] at hk
    have hc := hcell k (by omega)
    obtain ⟨b, off, spot⟩ := a
    have hspot : spot = none := by simpa [Addr.add] using World.cell?_spot (hcell 0 (by omega))
    subst hspot
    have e2 : (Addr.mk b off none).add k = ⟨b, off + k, none⟩ := by
      unfold Addr.add
      split
      · rename_i h0; subst h0; rfl
      · rfl
    rw [e2] at hc
    refine ⟨b, off, rfl, World.block_lt_of_cell? W _ hc, ?_⟩
    rw [hc, List.getD_eq_getElem?_getD, hk]
    rfl
end Go.Proofs.YtpjbklajjikgjaaDoor
