/- The walk of the law GlobMatches, from the contracts. -/
import Derived.Test.YtkhomdannnklhaaGlobWalkF
import Derived.Test.YtkhomdannnklhaaRefWalkF
namespace Go.Proofs.Ytkhomdannnklhaa
open Go.RowKit Go.Deep Qm.Glob
attribute [local go_sem] bt_eq

theorem match_same (p s : ByteArray) : gMatch p s = rMatch p s := same_match (bt p) (bt s) p.size s.size (bt_lt s)

set_option maxHeartbeats 400000 in
theorem alive1_any (w : World) : Calls Try.prog 13 #[] w fun e w' => e = .returned (.bool true) ∧ Below w.heap.size w w' := by
  have h1 : gMatch ⟨#[91, 97, 45, 99, 93, 42]⟩ ⟨#[98, 120]⟩ = true := by kernel_rfl
  have h2 : gMatch ⟨#[91, 97, 45, 99, 93, 42]⟩ ⟨#[100, 120]⟩ = false := by kernel_rfl
  have H1 := hide h1
  have H2 := hide h2
  clear h1 h2
  go_enter Try.func13, Try.ntmps13
  go_wp2_with fail
  refine (match_any ⟨#[91, 97, 45, 99, 93, 42]⟩ ⟨#[98, 120]⟩ w (by decide) (by decide)).mono ?_
  rintro e w1 ⟨rfl, hb1⟩
  rw [H1.out]
  have HB1 := hide hb1
  clear hb1
  go_wp2_with fail
  refine (match_any ⟨#[91, 97, 45, 99, 93, 42]⟩ ⟨#[100, 120]⟩ w1 (by decide) (by decide)).mono ?_
  rintro e w2 ⟨rfl, hb2⟩
  rw [H2.out]
  have HB2 := hide (below_up HB1.out hb2 HB1.out.size)
  clear hb2
  go_wp2
  go_ret
  exact ⟨rfl, HB2.out⟩

set_option maxHeartbeats 400000 in
theorem law_globMatches (p s : ByteArray) (w0 : p.size ≤ maxLen) (w1 : s.size ≤ maxLen) (w : World) :
    Calls Try.prog 3 #[.string p, .string s] w fun e w' => e = .returned (.bool true) ∧ Below w.heap.size w w' := by
  unfold maxLen at w0 w1
  by_cases hp : 60 < p.size
  · go_enter Try.func3, Try.ntmps3
    go_wp2_with fail
    refine (alive1_any w).mono ?_
    rintro e w1 ⟨rfl, hb1⟩
    have HB1 := hide hb1
    clear hb1
    go_wp2
    go_ret
    exact ⟨rfl, HB1.out⟩
  · by_cases hs : 60 < s.size
    · go_enter Try.func3, Try.ntmps3
      go_wp2_with fail
      refine (alive1_any w).mono ?_
      rintro e w1 ⟨rfl, hb1⟩
      have HB1 := hide hb1
      clear hb1
      go_wp2
      go_ret
      exact ⟨rfl, HB1.out⟩
    · go_enter Try.func3, Try.ntmps3
      go_wp2_with fail
      refine (alive1_any w).mono ?_
      rintro e w1 ⟨rfl, hb1⟩
      have HB1 := hide hb1
      clear hb1
      go_wp2_with fail
      refine (match_any p s w1 (by omega) (by omega)).mono ?_
      rintro e w2 ⟨rfl, hb2⟩
      have HB2 := hide (below_up HB1.out hb2 HB1.out.size)
      clear hb2
      go_wp2_with fail
      refine (rmatch_any p s w2 (by omega) (by omega)).mono ?_
      rintro e w3 ⟨rfl, hb3⟩
      have HB3 := hide (below_up HB2.out hb3 HB2.out.size)
      clear hb3
      rw [match_same]
      generalize rMatch p s = b
      cases b
      all_goals
        go_wp2
        go_ret
        exact ⟨rfl, HB3.out⟩
end Go.Proofs.Ytkhomdannnklhaa
