/- Walk of package glob's Match. -/
import Derived.Test.YthlboecjlelemaaGlobWalkD
import Derived.Test.YthlboecjlelemaaGlobWalkE
namespace Go.Proofs.Ythlboecjlelemaa
open Go.RowKit Go.Deep Qm.Glob
attribute [local go_sem] bt_eq

theorem items_of_own {w : World} {base : Nat} {v : Value} {l : List GI} (h : w.ownsRow base 69 8 v l.length (giCells l)) : ∃ A c, v = .slice A l.length c ∧ ItemsAt w A w.heap.size l := by
  rcases h.2 with ⟨rfl, hn⟩ | ⟨g, cap, cur, rfl, _, hh, _⟩
  · refine ⟨none, 0, by rw [hn], fun k x hx => ?_⟩
    have := (List.getElem?_eq_some_iff.1 hx).1
    omega
  · refine ⟨_, cap, rfl, fun k x hx => ⟨g, rfl, (h.lt g rfl).2, fun j u hu => ?_⟩⟩
    have hj := giCells_get l k x hx j u hu
    have hlt := (List.getElem?_eq_some_iff.1 hj).1
    rw [h.cellAt _ (by rw [← h.1]; exact hlt), hj]
/-- glob's Match, told by data -/
def gMatch (p s : ByteArray) : Bool := E (isStar (gItems (bt p) p.size)) (hasC (gItems (bt p) p.size)) (bt s) (gItems (bt p) p.size).length s.size

set_option maxRecDepth 100000 in
set_option maxHeartbeats 400000 in
theorem match_any (p s : ByteArray) (w : World) (hp : p.size ≤ 1000) (hs : s.size ≤ 1000) :
    Calls Try.prog 24 #[.string p, .string s] w fun e w' => e = .returned (.bool (gMatch p s)) ∧ Below w.heap.size w w' := by
  go_enter Try.func24, Try.ntmps24
  go_wp2_with fail
  refine (items_any p w hp).mono ?_
  rintro e w1 ⟨v, rfl, hown, hb⟩
  obtain ⟨A, c, rfl, hat⟩ := items_of_own hown
  have HAT := hide hat
  have HB := hide hb
  clear hat hb hown
  go_wp2_with fail
  refine (ends_any s A c (gItems (bt p) p.size) w1 hs (Nat.le_trans (gItems_len _ _) hp) HAT.out).mono ?_
  rintro e w2 ⟨g, rfl, hg, hrow, hb2⟩
  have hcell := hrow.cell (i := s.size) (by omega)
  have HB2 := hide (below_up HB.out hb2 HB.out.size)
  clear hrow hb2 HAT HB hg
  go_wp2
  go_ret
  exact ⟨rfl, HB2.out⟩
end Go.Proofs.Ythlboecjlelemaa
