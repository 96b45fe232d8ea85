/- Walks of the law's num and alive, and of the reference's Ends. -/
import Derived.Test.YtkocnbehogefnaaDoorLinesLawA
namespace Go.Proofs.YtkocnbehogefnaaDoor
open Go.RowKit Go.Deep Ln
theorem num18_any (n : Int) (w : World) : Calls Tryd.prog 10 #[.int .i64 n] w fun e w' => e = .returned (.int .i64 n) ∧ w = w' := by
  go_enter Tryd.func10, Tryd.ntmps10
  go_wp2
  go_ret
  exact ⟨rfl, rfl⟩
set_option maxRecDepth 100000 in
set_option maxHeartbeats 1000000 in
theorem alive18_any (w : World) (hm : MX w) : Calls Tryd.prog 6 #[] w fun e w' => e = .returned (.bool true) ∧ Below w.heap.size w w' := by
  have hr0 := read_any [97, 32, 92, 10, 98, 32, 35, 32, 99] w hm (by decide)
  have he : readF [97, 32, 92, 10, 98, 32, 35, 32, 99] = ([(false, [97, 32, 98])], 0) := by kernel_rfl
  unfold ReadPost at hr0
  rw [he] at hr0
  have HR0 := hide hr0
  clear hr0 he
  go_enter Tryd.func6, Tryd.ntmps6
  go_wp2_with fail
  refine HR0.out.mono ?_
  rintro e w1 ⟨⟨A, c, rfl, hc, hr⟩, hb⟩
  obtain ⟨g, o, rfl, hg, hx⟩ := hr 0 _ rfl
  have hx1 : w1.cell? ⟨g, o, none⟩ = some (.bool false) := hx 0 _ rfl
  have hx2 : w1.cell? ⟨g, o + 1, none⟩ = some (.string ⟨#[97, 32, 98]⟩) := hx 1 _ rfl
  have HB := hide hb
  clear hx hr hb HR0
  go_wp2_with fail
  refine (num18_any 0 _).mono ?_
  rintro e w' ⟨rfl, rfl⟩
  go_wp2
  go_ret
  exact ⟨rfl, HB.out⟩
/-- whether a text ends so -/
def endsF (l x : T) : Bool := decide (x.length ≤ l.length ∧ l.drop (l.length - x.length) = x)
set_option maxRecDepth 100000 in
set_option maxHeartbeats 400000 in
theorem ends_any (l x : T) (w : World) (h1 : l.length ≤ 1000) (h2 : x.length ≤ 1000) :
    Calls Tryd.prog 8 #[.string (bs l), .string (bs x)] w fun e w' => e = .returned (.bool (endsF l x)) ∧ w = w' := by
  have z1 : (bs l).size = l.length := bs_size l
  have z2 : (bs x).size = x.length := bs_size x
  by_cases hx : x.length ≤ l.length
  · have HE := hide (show decide (bs ((l.drop (l.length - x.length)).take x.length) = bs x) = endsF l x by
      unfold endsF
      rw [List.take_of_length_le (by simp; omega), decide_eq_decide]
      exact ⟨fun h => ⟨hx, bs_inj h⟩, fun h => by rw [h.2]⟩)
    obtain ⟨m, hm⟩ : ∃ m, l.length = m + x.length := ⟨l.length - x.length, by omega⟩
    have HX := hide (show (bs l).extract m (m + x.length) = bs ((l.drop (l.length - x.length)).take x.length) by
      rw [ext_bs, Nat.add_sub_cancel_left, hm, Nat.add_sub_cancel])
    rw [hm] at z1
    generalize bs ((l.drop (l.length - x.length)).take x.length) = r at HE HX
    generalize endsF l x = v at *
    generalize bs l = sl at *
    generalize bs x = sx at *
    go_enter Tryd.func8, Tryd.ntmps8
    go_wp2
    go_ret
    refine ⟨?_, rfl⟩
    go_light
    have h1 := HX.out
    have h2 := HE.out
    have h3 : ((sl.extract m (m + x.length)).toList == sx.toList) = v := by
      rw [← h2, ← h1]
      by_cases h : sl.extract m (m + x.length) = sx
      · simp [h]
      · rw [txt_ne h]; simp [h]
    exact congrArg (fun b => Ending.returned (.bool b)) h3
  · have HE := hide (show false = endsF l x by
      unfold endsF
      rw [eq_comm, decide_eq_false_iff_not]
      exact fun h => hx h.1)
    generalize endsF l x = v at *
    go_enter Tryd.func8, Tryd.ntmps8
    go_wp2
    go_ret
    exact ⟨by rw [← HE.out]; rfl, rfl⟩
end Go.Proofs.YtkocnbehogefnaaDoor
