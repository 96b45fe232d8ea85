/- The reference's Name. -/
import Derived.Test.YtpjbklajjikgjaaDoorVarsRefA
namespace Go.Proofs.YtpjbklajjikgjaaDoor
open Go.RowKit Go.Deep
attribute [local go_sem] bt_eq
set_option maxRecDepth 100000 in
set_option maxHeartbeats 400000 in
theorem nmref_any (s : ByteArray) (w : World) (hs : s.size ≤ 100000) : Calls Tryd.prog 19 #[.string s] w fun e w' => e = .returned (.bool (nmOk (bt s) s.size)) ∧ w = w' := by
  have hl := nmF_le (bt s) s.size s.size 0 (by omega)
  by_cases h0 : s.size = 0
  · obtain rfl : s = ⟨#[]⟩ := ByteArray.ext (Array.eq_empty_of_size_eq_zero h0)
    go_enter Tryd.func19, Tryd.ntmps19
    go_wp2
    go_ret
    exact ⟨rfl, rfl⟩
  · have hne : (s.toList.isEmpty) = false := by
      rw [ByteArray.toList_eq]
      cases h : s.data.toList with
      | nil => exact absurd (by have := congrArg List.length h; simpa using this) h0
      | cons a l => rfl
    have hne2 : ¬ (s.toList = []) := fun h => by rw [h] at hne; cases hne
    by_cases h6 : s.size ≤ 60
    · have hok : nmOk (bt s) s.size = (nmRun (bt s) s.size == s.size) := by
        rw [nmOk, decide_eq_true (by omega), decide_eq_true h6]; rfl
      have HOK := hide hok
      clear hok
      have hcast : (((nmRun (bt s) s.size : Nat) : Int) == ((s.size : Nat) : Int)) = (nmRun (bt s) s.size == s.size) := by
        rw [Bool.eq_iff_iff]; simp only [beq_iff_eq]; omega
      have HC := hide hcast
      clear hcast
      have hrl := rlen_any s 0 w hs (by omega)
      rw [Nat.sub_zero, show shB (bt s) 0 = bt s from by funext j; simp [shB]] at hrl
      go_enter Tryd.func19, Tryd.ntmps19
      go_wp2_with fail
      refine hrl.mono ?_
      rintro e w' ⟨rfl, rfl⟩
      clear hrl
      go_wp2
      go_ret
      refine ⟨?_, rfl⟩
      rw [HOK.out, ← HC.out]
      rfl
    · have hok : nmOk (bt s) s.size = false := by simp [nmOk, h6]
      have HOK := hide hok
      clear hok
      go_enter Tryd.func19, Tryd.ntmps19
      go_wp2
      go_ret
      refine ⟨?_, rfl⟩
      rw [HOK.out]
      rfl
end Go.Proofs.YtpjbklajjikgjaaDoor
