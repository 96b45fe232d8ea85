/- Walk of the reference's Digits: all numbers from nought on. -/
import Derived.Test.YtpjbklajjikgjaaDoorDigitsWalk
namespace Go.Proofs.YtpjbklajjikgjaaDoor
open Go.RowKit Go.Deep Qm.Base
set_option maxRecDepth 100000 in
set_option maxHeartbeats 400000 in
theorem digits_big (n : Nat) : ∀ (w : World), n ≤ 9223372036854775807 → Calls Tryd.prog 18 #[.int .i64 n] w fun e w' => e = .returned (.string (ds (dgL n))) ∧ w = w' := by
  induction n using Nat.strongRecOn with
  | ind n ih =>
    intro w hn
    have IH := hide ih
    clear ih
    have h1 : (n : Int) % 10 < 10 := by omega
    have h2 : 0 ≤ (n : Int) % 10 := by omega
    obtain ⟨k, hk⟩ : ∃ k : Nat, (n : Int) % 10 = (k : Int) := ⟨n % 10, by omega⟩
    have hk10 : k < 10 := by omega
    have HE := hide (ds_digit hk10)
    by_cases h : n < 10
    · have HL := hide (show dgL n = [48 + k] by rw [dgL_small h]; congr 2; omega)
      go_enter Tryd.func18, Tryd.ntmps18
      go_wp2
      go_ret
      refine ⟨?_, rfl⟩
      rw [HL.out, ← HE.out]
      rfl
    · have HL := hide (show ds (dgL n) = ds (dgL (n / 10)) ++ ds [48 + k] by rw [ds_app, dgL_big h]; congr 4; omega)
      go_enter Tryd.func18, Tryd.ntmps18
      go_wp2_with fail
      rw [show (n : Int) / 10 = ((n / 10 : Nat) : Int) from by omega]
      refine (IH.out (n / 10) (by omega) w (by omega)).mono ?_
      rintro e w' ⟨rfl, rfl⟩
      rw [HE.out]
      have hl : (ds (dgL (n / 10))).size ≤ 1000 := by rw [ds_size]; have := dgL_len (n / 10) 18 (by omega); omega
      have hl1 : (ds [48 + k]).size = 1 := ds_size _
      generalize ds (dgL (n / 10)) = A at hl HL ⊢
      generalize ds [48 + k] = B at hl1 HL ⊢
      go_wp2
      go_ret
      refine ⟨?_, rfl⟩
      rw [HL.out]
      rfl
end Go.Proofs.YtpjbklajjikgjaaDoor
