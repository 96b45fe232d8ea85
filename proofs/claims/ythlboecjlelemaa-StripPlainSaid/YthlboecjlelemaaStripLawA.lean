/- The walk of the law StripTakes, from the contracts. -/
import Derived.Test.YthlboecjlelemaaStripWalkF
namespace Go.Proofs.Ythlboecjlelemaa
open Go.RowKit Go.Deep Qm.Glob
attribute [local go_sem] bt_eq strOfNums_size sb_size

set_option maxRecDepth 100000 in
set_option maxHeartbeats 400000 in
theorem alive11_any (w : World) : Calls Try.prog 17 #[] w fun e w' => e = .returned (.bool true) ∧ Below w.heap.size w w' := by
  have h1 : gBack ⟨#[97, 46, 98, 46, 99]⟩ ⟨#[46, 42]⟩ false = ⟨#[97, 46, 98]⟩ := by kernel_rfl
  have h2 : gFront ⟨#[97, 46, 98]⟩ ⟨#[42, 46]⟩ false = ⟨#[98]⟩ := by kernel_rfl
  have H1 := hide h1
  have H2 := hide h2
  clear h1 h2
  go_enter Try.func17, Try.ntmps17
  go_wp2_with fail
  refine (back_any ⟨#[97, 46, 98, 46, 99]⟩ ⟨#[46, 42]⟩ false w (by decide) (by decide)).mono ?_
  rintro e w1 ⟨rfl, hb1⟩
  rw [H1.out]
  have HB1 := hide hb1
  clear hb1
  go_wp2_with fail
  refine (front_any ⟨#[97, 46, 98]⟩ ⟨#[42, 46]⟩ false w1 (by decide) (by decide)).mono ?_
  rintro e w2 ⟨rfl, hb2⟩
  rw [H2.out]
  have HB2 := hide (below_up HB1.out hb2 HB1.out.size)
  clear hb2
  go_wp2
  go_ret
  exact ⟨rfl, HB2.out⟩

set_option maxRecDepth 100000 in
set_option maxHeartbeats 1000000 in
theorem law_stripTakes (s p : ByteArray) (w0 : s.size ≤ maxLen) (w1 : p.size ≤ maxLen) (w : World) :
    Calls Try.prog 4 #[.string s, .string p] w fun e w' => e = .returned (.bool true) ∧ Below w.heap.size w w' := by
  unfold maxLen at w0 w1
  by_cases c1 : 60 < s.size
  · go_enter Try.func4, Try.ntmps4
    go_wp2_with fail
    refine (alive11_any w).mono ?_
    rintro e w1 ⟨rfl, hb1⟩
    go_wp2
    go_ret
    exact ⟨rfl, hb1⟩
  by_cases c2 : 40 < p.size
  · go_enter Try.func4, Try.ntmps4
    go_wp2_with fail
    refine (alive11_any w).mono ?_
    rintro e w1 ⟨rfl, hb1⟩
    go_wp2
    go_ret
    exact ⟨rfl, hb1⟩
  go_enter Try.func4, Try.ntmps4
  go_wp2_with fail
  refine (alive11_any w).mono ?_
  rintro e w1 ⟨rfl, hb1⟩
  have HB1 := hide hb1
  clear hb1
  go_wp2
  go_loopw [6] (fun v6 wr => ∃ k : Nat, v6 = .int .i64 k ∧ k ≤ 2 ∧ Below w.heap.size w wr) (fun v6 _ => 2 - (intOf v6).toNat)
  case atStart => exact ⟨0, rfl, by omega, HB1.out⟩
  case round =>
    obtain ⟨k, rfl, hk, hb⟩ := hrel
    clear HB1
    have HB1 := hide hb
    clear hb
    by_cases h2 : k = 2
    · subst h2
      go_wp2
      go_ret
      exact ⟨rfl, HB1.out⟩
    · obtain ⟨b, hbk⟩ : ∃ b : Bool, ((k : Int) == 1) = b := ⟨_, rfl⟩
      have hk2 : k < 2 := by omega
      clear h2
      go_wp2_with fail
      refine (front_any s p b wr (by omega) (by omega)).mono ?_
      rintro e w2 ⟨rfl, hb2⟩
      have HB2 := hide (below_up HB1.out hb2 HB1.out.size)
      clear hb2
      go_wp2_with fail
      refine (rfront_any s p b w2 (by omega) (by omega)).mono ?_
      rintro e w3 ⟨rfl, hb3⟩
      have HB3 := hide (below_up HB2.out hb3 HB2.out.size)
      clear hb3
      generalize gFront s p b = F
      go_wp2_with fail
      refine (back_any s p b w3 (by omega) (by omega)).mono ?_
      rintro e w4 ⟨rfl, hb4⟩
      have HB4 := hide (below_up HB3.out hb4 HB3.out.size)
      clear hb4
      go_wp2_with fail
      refine (rback_any s p b w4 (by omega) (by omega)).mono ?_
      rintro e w5 ⟨rfl, hb5⟩
      have HB5 := hide (below_up HB4.out hb5 HB4.out.size)
      clear hb5
      generalize gBack s p b = G
      go_wp2
      go_roundw
      case rel => exact ⟨k + 1, by go_num, by omega, HB5.out⟩
      case measure => simp [intOf]; omega
end Go.Proofs.Ythlboecjlelemaa
