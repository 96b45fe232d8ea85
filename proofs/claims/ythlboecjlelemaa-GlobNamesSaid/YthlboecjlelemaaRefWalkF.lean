/- Walk of the reference's Match. -/
import Derived.Test.YthlboecjlelemaaRefWalkD
import Derived.Test.YthlboecjlelemaaGlobPlain
namespace Go.Proofs.Ythlboecjlelemaa
open Go.RowKit Go.Deep Qm.Glob
attribute [local go_sem] bt_eq

theorem bytes_of_own {w : World} {base : Nat} {v : Value} {l : List Nat} (h : OwnB w base v l) : BytesAt w v l := by
  rcases h.2 with ⟨rfl, hn⟩ | ⟨g, cap, cur, rfl, _, hh, _⟩
  · refine ⟨none, 0, by rw [hn], fun k x hx => ?_⟩
    have := (List.getElem?_eq_some_iff.1 hx).1
    omega
  · refine ⟨_, cap, rfl, fun k x hx => ⟨g, rfl, (h.lt g rfl).2, ?_⟩⟩
    have hk := (List.getElem?_eq_some_iff.1 hx).1
    rw [World.ownsRow.cellAt h k (by omega)]
    simp [nbytes, hx]
theorem ritems_of_own {w : World} {base : Nat} {v : Value} {l : List RI} {xs : List Value} (h : w.ownsRow base 72 5 v l.length xs) (hr : RIs w base l xs)
    (hok : ∀ x ∈ l, x.lo.length = x.hi.length ∧ x.lo.length ≤ 1000) : ∃ A c, v = .slice A l.length c ∧ RItemsAt w A l := by
  rcases h.2 with ⟨rfl, hn⟩ | ⟨g, cap, cur, rfl, _, hh, _⟩
  · refine ⟨none, 0, by rw [hn], fun k x hx => ?_⟩
    have := (List.getElem?_eq_some_iff.1 hx).1
    omega
  · refine ⟨_, cap, rfl, fun k x hx => ?_⟩
    obtain ⟨vlo, vhi, h1, h2, h3⟩ := RIs_get l xs hr k x hx
    refine ⟨g, vlo, vhi, rfl, (h.lt g rfl).2, fun j u hu => ?_, bytes_of_own h1, bytes_of_own h2, (hok x (List.mem_of_getElem? hx)).1, (hok x (List.mem_of_getElem? hx)).2⟩
    have hj := h3 j u hu
    have hlt := (List.getElem?_eq_some_iff.1 hj).1
    rw [h.cellAt _ (by rw [← h.1]; exact hlt), hj]
/-- the reference's Match, told by data -/
def rMatch (p s : ByteArray) : Bool := E (rStarAt (rItems (bt p) p.size)) (rIsAt (rItems (bt p) p.size)) (bt s) (rItems (bt p) p.size).length s.size

set_option maxRecDepth 100000 in
set_option maxHeartbeats 400000 in
theorem rmatch_any (p s : ByteArray) (w : World) (hp : p.size ≤ 1000) (hs : s.size ≤ 1000) :
    Calls Try.prog 60 #[.string p, .string s] w fun e w' => e = .returned (.bool (rMatch p s)) ∧ Below w.heap.size w w' := by
  go_enter Try.func60, Try.ntmps60
  go_wp2_with fail
  refine (ritems_any p w hp).mono ?_
  rintro e w1 ⟨v, xs, rfl, hown, hris, hb⟩
  obtain ⟨A, c, rfl, hat⟩ := ritems_of_own hown hris (fun x hx => by have := rIt_ok _ _ _ _ x hx; omega)
  have HAT := hide hat
  have HB := hide hb
  clear hat hb hown hris
  go_wp2_with fail
  refine (fronts_any s A c (rItems (bt p) p.size) w1 hs (Nat.le_trans (rItems_len _ _) hp) HAT.out).mono ?_
  rintro e w2 ⟨g, rfl, hg, hrow, hb2⟩
  have hcell := hrow.cell (i := s.size) (by omega)
  have HB2 := hide (below_up HB.out hb2 HB.out.size)
  clear hrow hb2 HAT HB hg
  go_wp2
  go_ret
  exact ⟨rfl, HB2.out⟩
end Go.Proofs.Ythlboecjlelemaa
