/- A slice of bools among a law's arguments, opened as one list. -/
import Derived.Test.YtmblmenafplccaaDoorOpenRows
import Derived.Test.YtmblmenafplccaaDoorProg
namespace Go.Proofs.YtmblmenafplccaaDoor
open Go.RowKit Go.Deep Go.ChangeShapes Go.WideShapes
def BR (w : World) (A : Option Addr) (L : List Bool) : Prop := ∀ (k : Nat) (x : Bool), L[k]? = some x → ∃ g o, A = some ⟨g, o, none⟩ ∧ g < w.heap.size ∧ w.cell? ⟨g, o + k, none⟩ = some (.bool x)
theorem BR.below {w w' : World} {A : Option Addr} {L : List Bool} (h : BR w A L) (hb : Below w.heap.size w w') : BR w' A L := fun k x hk => by
  obtain ⟨g, o, e, hg, hc⟩ := h k x hk
  exact ⟨g, o, e, Nat.lt_of_lt_of_le hg hb.size, (hb.cell (p := ⟨g, o + k, none⟩) hg).trans hc⟩
def goodB (_ : World) (x : Bool) (cs : List Value) : Prop := cs = [.bool x]
theorem open_BR {H : Type} {enc : TypeId × Value → H} {W : World} {a0 : Option Addr} {len cap : Nat} {d : DataW H} {ps : List MemPlace} (h : DataW.Trod enc Tryd.prog W 0 (fun _ => true) true 22 (.slice a0 len cap) d ps) :
    ∃ L : List Bool, L.length = len ∧ L.length ≤ maxLen ∧ True ∧ BR W a0 L := by
  obtain ⟨L, h1, h2, h3, h4⟩ := open_rows (n := 1) Tryd.underlying22 (by kernel_rfl) (by omega) goodB (fun fuel cs y hlen hy => by
    match cs, hlen with
    | [v0], _ =>
      obtain ⟨a, q0, _⟩ := DataW.trod_bool Tryd.underlying4 hy
      have e0 : [v0] = [.bool a] := q0
      exact ⟨a, e0⟩) h
  refine ⟨L, h1, h2, trivial, fun k x hk => ?_⟩
  obtain ⟨g, o, cs, e, hg, _, hc, rfl⟩ := h4 k x hk
  refine ⟨g, o, e, hg, ?_⟩
  have := hc 0 _ rfl
  simpa using this
end Go.Proofs.YtmblmenafplccaaDoor
