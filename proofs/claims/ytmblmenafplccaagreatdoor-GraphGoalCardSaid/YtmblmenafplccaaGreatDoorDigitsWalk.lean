/- Walk of the reference's Digits. -/
import Derived.Test.YtmblmenafplccaaGreatDoorQBase
import Derived.Test.YtmblmenafplccaaGreatDoorDigitsMath
namespace Go.Proofs.YtmblmenafplccaaGreatDoor
open Go.RowKit Go.Deep Qm.Base
/-- a text out of its bytes -/
def ds (l : List Nat) : ByteArray := strOfNums (l.map fun n : Nat => (n : Int))
theorem ds_size (l : List Nat) : (ds l).size = l.length := by simp [ds, strOfNums_size]
theorem ds_app (a b : List Nat) : ds a ++ ds b = ds (a ++ b) := by
  apply ByteArray.ext
  simp [ds, strOfNums]
theorem ds_digit {k : Nat} (h : k < 10) : (⟨#[48, 49, 50, 51, 52, 53, 54, 55, 56, 57]⟩ : ByteArray).extract k (k + 1) = ds [48 + k] := by
  have h2 : k = 0 ∨ k = 1 ∨ k = 2 ∨ k = 3 ∨ k = 4 ∨ k = 5 ∨ k = 6 ∨ k = 7 ∨ k = 8 ∨ k = 9 := by omega
  rcases h2 with rfl | rfl | rfl | rfl | rfl | rfl | rfl | rfl | rfl | rfl <;> rfl
set_option maxRecDepth 100000 in
set_option maxHeartbeats 400000 in
theorem digits_any (n : Nat) : ∀ (w : World), n ≤ 1000000000000000 → Calls Tryz.prog 11 #[.int .i64 n] w fun e w' => e = .returned (.string (ds (dgL n))) ∧ w = w' := by
  induction n using Nat.strongRecOn with
  | ind n ih =>
    intro w hn
    have IH := hide ih
    clear ih
    have h1 : (n : Int) % 10 < 10 := by omega
    have h2 : 0 ≤ (n : Int) % 10 := by omega
    obtain ⟨k, hk⟩ : ∃ k : Nat, (n : Int) % 10 = (k : Int) := ⟨n % 10, by omega⟩
    have hk10 : k < 10 := by omega
    have HE := hide (ds_digit hk10)
    by_cases h : n < 10
    · have HL := hide (show dgL n = [48 + k] by rw [dgL_small h]; congr 2; omega)
      go_enter Tryz.func11, Tryz.ntmps11
      go_wp2
      go_ret
      refine ⟨?_, rfl⟩
      rw [HL.out, ← HE.out]
      rfl
    · have HL := hide (show ds (dgL n) = ds (dgL (n / 10)) ++ ds [48 + k] by rw [ds_app, dgL_big h]; congr 4; omega)
      go_enter Tryz.func11, Tryz.ntmps11
      go_wp2_with fail
      rw [show (n : Int) / 10 = ((n / 10 : Nat) : Int) from by omega]
      refine (IH.out (n / 10) (by omega) w (by omega)).mono ?_
      rintro e w' ⟨rfl, rfl⟩
      rw [HE.out]
      have hl : (ds (dgL (n / 10))).size ≤ 1000 := by rw [ds_size]; have := dgL_len (n / 10) 15 (by omega); omega
      have hl1 : (ds [48 + k]).size = 1 := ds_size _
      generalize ds (dgL (n / 10)) = A at hl HL ⊢
      generalize ds [48 + k] = B at hl1 HL ⊢
      go_wp2
      go_ret
      refine ⟨?_, rfl⟩
      rw [HL.out]
      rfl
end Go.Proofs.YtmblmenafplccaaGreatDoor
