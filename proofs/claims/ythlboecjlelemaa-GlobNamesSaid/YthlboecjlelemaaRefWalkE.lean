/- Words for the reference's fronts: items below a block, their reading. -/
import Derived.Test.YthlboecjlelemaaRefWalkC
namespace Go.Proofs.Ythlboecjlelemaa
open Go.RowKit Go.Deep Qm.Glob

/-- the reference's items lie in a row, their bytes too -/
def RItemsAt (w : World) (A : Option Addr) (l : List RI) : Prop :=
  ∀ k x, l[k]? = some x → ∃ g vlo vhi, A = some ⟨g, 0, none⟩ ∧ g < w.heap.size ∧ (∀ j u, (riVals x vlo vhi)[j]? = some u → w.cell? ⟨g, k * 5 + j, none⟩ = some u) ∧ BytesAt w vlo x.lo ∧ BytesAt w vhi x.hi ∧ x.lo.length = x.hi.length ∧ x.lo.length ≤ 1000
theorem BytesAt.below {w w' : World} {v : Value} {l : List Nat} (h : BytesAt w v l) (hb : Below w.heap.size w w') : BytesAt w' v l := by
  obtain ⟨A, c, rfl, h⟩ := h
  refine ⟨A, c, rfl, fun k x hx => ?_⟩
  obtain ⟨g, rfl, hg, hc⟩ := h k x hx
  exact ⟨g, rfl, Nat.lt_of_lt_of_le hg hb.size, (hb.cell (p := ⟨g, k, none⟩) hg).trans hc⟩
theorem ritem_cells {w wr : World} {A : Option Addr} {l : List RI} (h : RItemsAt w A l) (hb : Below w.heap.size w wr) {k : Nat} {x : RI} (hx : l[k]? = some x) :
    ∃ g vlo vhi, A = some ⟨g, 0, none⟩ ∧ g < w.heap.size ∧ wr.cell? ⟨g, k * 5, none⟩ = some (.int .i64 x.kind) ∧ wr.cell? ⟨g, k * 5 + 1, none⟩ = some (.int .u8 x.c) ∧ wr.cell? ⟨g, k * 5 + 2, none⟩ = some (.bool x.nt) ∧
      wr.cell? ⟨g, k * 5 + 3, none⟩ = some vlo ∧ wr.cell? ⟨g, k * 5 + 4, none⟩ = some vhi ∧ BytesAt wr vlo x.lo ∧ BytesAt wr vhi x.hi ∧ x.lo.length = x.hi.length ∧ x.lo.length ≤ 1000 := by
  obtain ⟨g, vlo, vhi, rfl, hg, hc, h1, h2, h3, h4⟩ := h k x hx
  have e : ∀ q u, (riVals x vlo vhi)[q]? = some u → wr.cell? ⟨g, k * 5 + q, none⟩ = some u := fun q u hq => (hb.cell (p := ⟨g, k * 5 + q, none⟩) hg).trans (hc q u hq)
  exact ⟨g, vlo, vhi, rfl, hg, e 0 _ rfl, e 1 _ rfl, e 2 _ rfl, e 3 _ rfl, e 4 _ rfl, h1.below hb, h2.below hb, h3, h4⟩
def rStarAt (l : List RI) (k : Nat) : Bool := (l.getD k rStar).kind == 1
def rIsAt (l : List RI) (k c : Nat) : Bool := (l.getD k rStar).is c
theorem rStarAt_of {l : List RI} {j : Nat} {x : RI} (hx : l[j]? = some x) : rStarAt l j = (x.kind == 1) := by simp [rStarAt, List.getD_eq_getElem?_getD, hx]
theorem rIsAt_of {l : List RI} {j : Nat} {x : RI} (hx : l[j]? = some x) (c : Nat) : rIsAt l j c = x.is c := by simp [rIsAt, List.getD_eq_getElem?_getD, hx]
end Go.Proofs.Ythlboecjlelemaa
