/- The law ArithSums: the walk. -/
import Derived.Test.YtpjbklajjikgjaaDoorArithLawF
namespace Go.Proofs.YtpjbklajjikgjaaDoor
open Go.RowKit Go.Deep Qm.Base

set_option maxRecDepth 100000 in
set_option maxHeartbeats 4000000 in
theorem law_arithSums (a b : ByteArray) (A : Option Addr) (c : Nat) (P : List Pr) (_w0 : a.size ≤ maxLen) (_w1 : b.size ≤ maxLen) (hl : P.length ≤ maxLen) (hv : ∀ x ∈ P, x.1.size ≤ maxLen ∧ x.2.size ≤ maxLen) (w : World) (hA : PR w A P) :
    Calls Tryd.prog 10 #[.string a, .string b, .slice A P.length c] w fun e w' => e = .returned (.bool true) ∧ Below w.heap.size w w' := by
  have hv2 : ∀ x ∈ P, x.2.size ≤ maxLen := fun x hx => (hv x hx).2
  have HRA := hide (fun w h => reval_any a A P c w h _w0 hl hv2)
  have HRB := hide (fun w h => reval_any b A P c w h _w1 hl hv2)
  have HA := hide hA
  have hs63 : (a.size : Int) ≤ 9223372036854775807 := by unfold maxLen at _w0; omega
  have hs64 : (b.size : Int) ≤ 9223372036854775807 := by unfold maxLen at _w1; omega
  have hl63 : (P.length : Int) ≤ 9223372036854775807 := by unfold maxLen at hl; omega
  have HE1 := hide (fun w h (h5 : a.size ≤ 300) (h6 : b.size ≤ 300) => eval_any (⟨#[40]⟩ ++ a ++ ⟨#[41, 45, 40]⟩ ++ b ++ ⟨#[41]⟩) A P c w h (by simp only [ByteArray.size_append]; show 1 + _ + 3 + _ + 1 ≤ _; unfold maxLen; omega) hl hv2)
  have HE2 := hide (fun w h (h5 : a.size ≤ 300) (h6 : b.size ≤ 300) => eval_any (⟨#[40, 40]⟩ ++ a ++ ⟨#[41, 61, 61, 40]⟩ ++ b ++ ⟨#[41, 41]⟩) A P c w h (by simp only [ByteArray.size_append]; show 2 + _ + 4 + _ + 2 ≤ _; unfold maxLen; omega) hl hv2)
  have HV1 := hide (fun (h5 : a.size ≤ 300) (h6 : b.size ≤ 300) (n m : Int) (hn : evalF P a = (n, 0)) (hm : evalF P b = (m, 0)) => show evalF P (⟨#[40]⟩ ++ a ++ ⟨#[41, 45, 40]⟩ ++ b ++ ⟨#[41]⟩) = (wrap64 (n - m), 0) ∨ evalF P (⟨#[40]⟩ ++ a ++ ⟨#[41, 45, 40]⟩ ++ b ++ ⟨#[41]⟩) = (0, 3) by
    have := sums_minus P a.data.toList b.data.toList (by have e : a.data.toList.length = a.size := Array.length_toList; omega) (by have e : b.data.toList.length = b.size := Array.length_toList; omega) (n := n) (m := m) (by rw [bs_of]; exact hn) (by rw [bs_of]; exact hm)
    have e : (⟨#[40]⟩ : ByteArray) ++ a ++ ⟨#[41, 45, 40]⟩ ++ b ++ ⟨#[41]⟩ = bs (40 :: a.data.toList ++ 41 :: 45 :: 40 :: b.data.toList ++ [41]) := by
      conv => lhs; rw [← bs_of a, ← bs_of b]
      rw [show (⟨#[40]⟩ : ByteArray) = bs [40] from rfl, show (⟨#[41, 45, 40]⟩ : ByteArray) = bs [41, 45, 40] from rfl, show (⟨#[41]⟩ : ByteArray) = bs [41] from rfl, bs_app, bs_app, bs_app, bs_app]
      congr 1; simp
    rw [e]; exact this)
  have HV2 := hide (fun (h5 : a.size ≤ 300) (h6 : b.size ≤ 300) (n m : Int) (hn : evalF P a = (n, 0)) (hm : evalF P b = (m, 0)) => show evalF P (⟨#[40, 40]⟩ ++ a ++ ⟨#[41, 61, 61, 40]⟩ ++ b ++ ⟨#[41, 41]⟩) = (trI (n == m), 0) ∨ evalF P (⟨#[40, 40]⟩ ++ a ++ ⟨#[41, 61, 61, 40]⟩ ++ b ++ ⟨#[41, 41]⟩) = (0, 3) by
    have := sums_same P a.data.toList b.data.toList (by have e : a.data.toList.length = a.size := Array.length_toList; omega) (by have e : b.data.toList.length = b.size := Array.length_toList; omega) (n := n) (m := m) (by rw [bs_of]; exact hn) (by rw [bs_of]; exact hm)
    have e : (⟨#[40, 40]⟩ : ByteArray) ++ a ++ ⟨#[41, 61, 61, 40]⟩ ++ b ++ ⟨#[41, 41]⟩ = bs (40 :: 40 :: a.data.toList ++ 41 :: 61 :: 61 :: 40 :: b.data.toList ++ [41, 41]) := by
      conv => lhs; rw [← bs_of a, ← bs_of b]
      rw [show (⟨#[40, 40]⟩ : ByteArray) = bs [40, 40] from rfl, show (⟨#[41, 61, 61, 40]⟩ : ByteArray) = bs [41, 61, 61, 40] from rfl, show (⟨#[41, 41]⟩ : ByteArray) = bs [41, 41] from rfl, bs_app, bs_app, bs_app, bs_app]
      congr 1; simp
    rw [e]; exact this)
  clear hv hv2 hA
  generalize hn : P.length = n at *
  clear hn
  obtain ⟨⟨qn, qe⟩, hq⟩ : ∃ q, evalF P a = q := ⟨_, rfl⟩
  obtain ⟨⟨rn, re⟩, hr⟩ : ∃ r, evalF P b = r := ⟨_, rfl⟩
  rw [hq] at HRA HV1 HV2
  rw [hr] at HRB HV1 HV2
  clear hq hr
  have n1 : ∀ x : Nat, x ≠ 0 → ((x : Int) == 0) = false ∧ ((x : Int) != 0) = true ∧ decide ((x : Int) = 0) = false := by
    intro x hx
    simpa using hx
  by_cases c1 : 300 < a.size
  · have h1 : (300 : Int) < (a.size : Int) := by omega
    go_enter Tryd.func10, Tryd.ntmps10
    go_wp2_with fail
    refine (alive7_any w).mono ?_
    rintro e w1 ⟨rfl, hb1⟩
    have HB1 := hide hb1
    have HA1 := hide (HA.out.below hb1)
    clear hb1
    go_wp2_with fail
    refine (HRA.out w1 HA1.out).mono ?_
    rintro e w2 ⟨rfl, hb2⟩
    have HB2 := hide (below_up HB1.out hb2 HB1.out.size)
    have HA2 := hide (HA1.out.below hb2)
    clear hb2
    go_wp2_with fail
    refine (HRB.out w2 HA2.out).mono ?_
    rintro e w3 ⟨rfl, hb3⟩
    have HB3 := hide (below_up HB2.out hb3 HB2.out.size)
    clear hb3
    go_wp2
    go_ret
    exact ⟨rfl, HB3.out⟩
  have h1 : (a.size : Int) ≤ 300 := by omega
  by_cases c2 : 300 < b.size
  · have h2 : (300 : Int) < (b.size : Int) := by omega
    go_enter Tryd.func10, Tryd.ntmps10
    go_wp2_with fail
    refine (alive7_any w).mono ?_
    rintro e w1 ⟨rfl, hb1⟩
    have HB1 := hide hb1
    have HA1 := hide (HA.out.below hb1)
    clear hb1
    go_wp2_with fail
    refine (HRA.out w1 HA1.out).mono ?_
    rintro e w2 ⟨rfl, hb2⟩
    have HB2 := hide (below_up HB1.out hb2 HB1.out.size)
    have HA2 := hide (HA1.out.below hb2)
    clear hb2
    go_wp2_with fail
    refine (HRB.out w2 HA2.out).mono ?_
    rintro e w3 ⟨rfl, hb3⟩
    have HB3 := hide (below_up HB2.out hb3 HB2.out.size)
    clear hb3
    go_wp2
    go_ret
    exact ⟨rfl, HB3.out⟩
  have h2 : (b.size : Int) ≤ 300 := by omega
  by_cases c3 : 20 < n
  · have h3 : (20 : Int) < (n : Int) := by omega
    go_enter Tryd.func10, Tryd.ntmps10
    go_wp2_with fail
    refine (alive7_any w).mono ?_
    rintro e w1 ⟨rfl, hb1⟩
    have HB1 := hide hb1
    have HA1 := hide (HA.out.below hb1)
    clear hb1
    go_wp2_with fail
    refine (HRA.out w1 HA1.out).mono ?_
    rintro e w2 ⟨rfl, hb2⟩
    have HB2 := hide (below_up HB1.out hb2 HB1.out.size)
    have HA2 := hide (HA1.out.below hb2)
    clear hb2
    go_wp2_with fail
    refine (HRB.out w2 HA2.out).mono ?_
    rintro e w3 ⟨rfl, hb3⟩
    have HB3 := hide (below_up HB2.out hb3 HB2.out.size)
    clear hb3
    go_wp2
    go_ret
    exact ⟨rfl, HB3.out⟩
  have h3 : (n : Int) ≤ 20 := by omega
  have h5 : a.size ≤ 300 := by omega
  have h6 : b.size ≤ 300 := by omega
  clear c1 c2 c3
  by_cases c4 : qe ≠ 0
  · obtain ⟨t1, t2, t3⟩ := n1 qe c4
    clear c4 n1
    go_enter Tryd.func10, Tryd.ntmps10
    go_wp2_with fail
    refine (alive7_any w).mono ?_
    rintro e w1 ⟨rfl, hb1⟩
    have HB1 := hide hb1
    have HA1 := hide (HA.out.below hb1)
    clear hb1
    go_wp2_with fail
    refine (HRA.out w1 HA1.out).mono ?_
    rintro e w2 ⟨rfl, hb2⟩
    have HB2 := hide (below_up HB1.out hb2 HB1.out.size)
    have HA2 := hide (HA1.out.below hb2)
    clear hb2
    go_wp2_with fail
    refine (HRB.out w2 HA2.out).mono ?_
    rintro e w3 ⟨rfl, hb3⟩
    have HB3 := hide (below_up HB2.out hb3 HB2.out.size)
    clear hb3
    go_wp2
    go_ret
    exact ⟨rfl, HB3.out⟩
  obtain rfl : qe = 0 := by omega
  by_cases c5 : re ≠ 0
  · obtain ⟨t1, t2, t3⟩ := n1 re c5
    clear c4 c5 n1
    go_enter Tryd.func10, Tryd.ntmps10
    go_wp2_with fail
    refine (alive7_any w).mono ?_
    rintro e w1 ⟨rfl, hb1⟩
    have HB1 := hide hb1
    have HA1 := hide (HA.out.below hb1)
    clear hb1
    go_wp2_with fail
    refine (HRA.out w1 HA1.out).mono ?_
    rintro e w2 ⟨rfl, hb2⟩
    have HB2 := hide (below_up HB1.out hb2 HB1.out.size)
    have HA2 := hide (HA1.out.below hb2)
    clear hb2
    go_wp2_with fail
    refine (HRB.out w2 HA2.out).mono ?_
    rintro e w3 ⟨rfl, hb3⟩
    have HB3 := hide (below_up HB2.out hb3 HB2.out.size)
    clear hb3
    go_wp2
    go_ret
    exact ⟨rfl, HB3.out⟩
  obtain rfl : re = 0 := by omega
  have HV1 := hide (HV1.out h5 h6 qn rn rfl rfl)
  have HV2 := hide (HV2.out h5 h6 qn rn rfl rfl)
  have HE1 := hide (fun w h => HE1.out w h h5 h6)
  have HE2 := hide (fun w h => HE2.out w h h5 h6)
  clear c4 c5 n1 h5 h6
  go_enter Tryd.func10, Tryd.ntmps10
  go_wp2_with fail
  refine (alive7_any w).mono ?_
  rintro e w1 ⟨rfl, hb1⟩
  have HB1 := hide hb1
  have HA1 := hide (HA.out.below hb1)
  clear hb1
  go_wp2_with fail
  refine (HRA.out w1 HA1.out).mono ?_
  rintro e w2 ⟨rfl, hb2⟩
  have HB2 := hide (below_up HB1.out hb2 HB1.out.size)
  have HA2 := hide (HA1.out.below hb2)
  clear hb2
  go_wp2_with fail
  refine (HRB.out w2 HA2.out).mono ?_
  rintro e w3 ⟨rfl, hb3⟩
  have HB3 := hide (below_up HB2.out hb3 HB2.out.size)
  have HA3 := hide (HA2.out.below hb3)
  clear hb3
  go_wp2_with fail
  refine (HE1.out w3 HA3.out).mono ?_
  rintro e w4 ⟨rfl, hb4⟩
  have HB4 := hide (below_up HB3.out hb4 HB3.out.size)
  have HA4 := hide (HA3.out.below hb4)
  clear hb4
  go_wp2_with fail
  refine (HE2.out w4 HA4.out).mono ?_
  rintro e w5 ⟨rfl, hb5⟩
  have HB5 := hide (below_up HB4.out hb5 HB4.out.size)
  clear hb5
  have HV1' := HV1.out
  have HV2' := HV2.out
  clear HV1 HV2
  by_cases hnm : qn = rn
  · subst hnm
    have hw0 : wrap64 0 = 0 := by unfold wrap64; omega
    rw [show trI (qn == qn) = 1 from by simp [trI]] at HV2'
    rcases HV1' with h | h
    all_goals
      rw [h]
      clear h
      rcases HV2' with h | h
    all_goals
      rw [h]
      clear h
      repeat (go_wp2_with fail; refine (num7_any _ _).mono ?_; rintro e w5' ⟨rfl, rfl⟩)
      go_wp2
      go_ret
      exact ⟨rfl, HB5.out⟩
  · rw [show trI (qn == rn) = 0 from by simp [trI, hnm]] at HV2'
    have t1 : (qn == rn) = false := by simpa using hnm
    have t2 : decide (qn = rn) = false := by simpa using hnm
    rcases HV1' with h | h
    all_goals
      rw [h]
      clear h
      rcases HV2' with h | h
    all_goals
      rw [h]
      clear h
      repeat (go_wp2_with fail; refine (num7_any _ _).mono ?_; rintro e w5' ⟨rfl, rfl⟩)
      go_wp2
      go_ret
      exact ⟨rfl, HB5.out⟩
end Go.Proofs.YtpjbklajjikgjaaDoor
