/- A slice of slices of texts among a law's arguments, opened as one list. -/
import Derived.Test.YtmblmenafplccaaDoorOpenRows
import Derived.Test.YtmblmenafplccaaDoorRulesRep
namespace Go.Proofs.YtmblmenafplccaaDoor
open Go.RowKit Go.Deep Go.ChangeShapes Go.WideShapes
def goodSL (w : World) (x : SRow) (cs : List Value) : Prop := cs = [sv x] ∧ SR w x.1 x.2.2 ∧ x.2.2.length ≤ maxLen ∧ ∀ (k : Nat) (s : ByteArray), x.2.2[k]? = some s → s.size ≤ maxLen
def SLR (w : World) (A : Option Addr) (L : List SRow) : Prop := RowsAt 1 goodSL w A L
theorem SLR.at {w : World} {A : Option Addr} {L : List SRow} (h : SLR w A L) {k : Nat} {x : SRow} (hk : L[k]? = some x) :
    ∃ g o, A = some ⟨g, o, none⟩ ∧ g < w.heap.size ∧ w.cell? ⟨g, o + k, none⟩ = some (sv x) ∧ SR w x.1 x.2.2 := by
  obtain ⟨g, o, cs, e, hg, _, hc, ⟨rfl, h1, _⟩⟩ := h k x hk
  refine ⟨g, o, e, hg, ?_, h1⟩
  have := hc 0 _ rfl
  simpa using this
theorem open_SLR {H : Type} {enc : TypeId × Value → H} {W : World} {a0 : Option Addr} {len cap : Nat} {d : DataW H} {ps : List MemPlace} (h : DataW.Trod enc Tryd.prog W 0 (fun _ => true) true 42 (.slice a0 len cap) d ps) :
    ∃ L : List SRow, L.length = len ∧ L.length ≤ maxLen ∧ (∀ x ∈ L, x.2.2.length ≤ maxLen) ∧ SLR W a0 L := by
  obtain ⟨L, h1, h2, h3, h4⟩ := open_rows (n := 1) Tryd.underlying42 (by kernel_rfl) (by omega) goodSL (fun fuel cs y hlen hy => by
    match cs, hlen with
    | [v0], _ =>
      obtain ⟨A, len', c, rfl⟩ : ∃ A l c, v0 = .slice A l c := by
        rcases open_slice Tryd.underlying31 hy with ⟨hcs, _⟩ | ⟨a, len', cap', m, fl, D, Pl, hcs, _⟩
        · exact ⟨_, _, _, (List.cons.inj hcs).1⟩
        · exact ⟨_, _, _, (List.cons.inj hcs).1⟩
      obtain ⟨L, rfl, m0, s0, r0⟩ := open_SR (show DataW.Trod enc Tryd.prog W 0 (fun _ => true) true 31 (.slice A len' c) y.1 y.2 from ⟨fuel, hy⟩)
      exact ⟨(A, c, L), rfl, r0, m0, s0⟩) h
  exact ⟨L, h1, h2, fun x hx => by obtain ⟨cs, hg⟩ := h3 x hx; exact hg.2.2.1, h4⟩
end Go.Proofs.YtmblmenafplccaaDoor
