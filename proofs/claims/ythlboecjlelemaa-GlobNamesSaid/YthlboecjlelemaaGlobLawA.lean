/- The walk of the law GlobMatches, from the contracts. -/
import Derived.Test.YthlboecjlelemaaGlobWalkF
import Derived.Test.YthlboecjlelemaaRefWalkF
namespace Go.Proofs.Ythlboecjlelemaa
open Go.RowKit Go.Deep Qm.Glob
attribute [local go_sem] bt_eq

theorem match_same (p s : ByteArray) : gMatch p s = rMatch p s := same_match (bt p) (bt s) p.size s.size (bt_lt s)

set_option maxRecDepth 100000 in
set_option maxHeartbeats 400000 in
theorem alive1_any (w : World) : Calls Try.prog 36 #[] w fun e w' => e = .returned (.bool true) ∧ Below w.heap.size w w' := by
  have h1 : gMatch ⟨#[91, 97, 45, 99, 93, 42]⟩ ⟨#[98, 120]⟩ = true := by kernel_rfl
  have h2 : gMatch ⟨#[91, 97, 45, 99, 93, 42]⟩ ⟨#[100, 120]⟩ = false := by kernel_rfl
  have H1 := hide h1
  have H2 := hide h2
  clear h1 h2
  go_enter Try.func36, Try.ntmps36
  go_wp2_with fail
  refine (match_any ⟨#[91, 97, 45, 99, 93, 42]⟩ ⟨#[98, 120]⟩ w (by decide) (by decide)).mono ?_
  rintro e w1 ⟨rfl, hb1⟩
  rw [H1.out]
  have HB1 := hide hb1
  clear hb1
  go_wp2_with fail
  refine (match_any ⟨#[91, 97, 45, 99, 93, 42]⟩ ⟨#[100, 120]⟩ w1 (by decide) (by decide)).mono ?_
  rintro e w2 ⟨rfl, hb2⟩
  rw [H2.out]
  have HB2 := hide (below_up HB1.out hb2 HB1.out.size)
  clear hb2
  go_wp2
  go_ret
  exact ⟨rfl, HB2.out⟩

end Go.Proofs.Ythlboecjlelemaa
