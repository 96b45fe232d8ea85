/- The law ArithWhole: the walk. -/
import Derived.Test.YtpjbklajjikgjaaDoorArithMathK
import Derived.Test.YtpjbklajjikgjaaDoorArithRefJ
namespace Go.Proofs.YtpjbklajjikgjaaDoor
open Go.RowKit Go.Deep Qm.Base

theorem bs_of (s : ByteArray) : bs s.data.toList = s := by apply ByteArray.ext; simp [bs]
set_option maxRecDepth 100000 in
set_option maxHeartbeats 2000000 in
theorem law_arithWhole (s : ByteArray) (A : Option Addr) (c : Nat) (P : List Pr) (_w0 : s.size ≤ maxLen) (hl : P.length ≤ maxLen) (hv : ∀ x ∈ P, x.1.size ≤ maxLen ∧ x.2.size ≤ maxLen) (w : World) (hA : PR w A P) :
    Calls Tryd.prog 9 #[.string s, .slice A P.length c] w fun e w' => e = .returned (.bool true) ∧ Below w.heap.size w w' := by
  have hv2 : ∀ x ∈ P, x.2.size ≤ maxLen := fun x hx => (hv x hx).2
  have HRE := hide (fun w h => reval_any s A P c w h _w0 hl hv2)
  have HA := hide hA
  have hs63 : (s.size : Int) ≤ 9223372036854775807 := by unfold maxLen at _w0; omega
  have hl63 : (P.length : Int) ≤ 9223372036854775807 := by unfold maxLen at hl; omega
  have HE1 := hide (fun w h (h5 : s.size ≤ 500) => eval_any (⟨#[32]⟩ ++ s ++ ⟨#[10]⟩) A P c w h (by rw [ByteArray.size_append, ByteArray.size_append]; show 1 + _ + 1 ≤ _; unfold maxLen; omega) hl hv2)
  have HE2 := hide (fun w h (h5 : s.size ≤ 500) => eval_any (⟨#[40]⟩ ++ s ++ ⟨#[41]⟩) A P c w h (by rw [ByteArray.size_append, ByteArray.size_append]; show 1 + _ + 1 ≤ _; unfold maxLen; omega) hl hv2)
  have HV1 := hide (fun (h5 : s.size ≤ 500) => show evalF P (⟨#[32]⟩ ++ s ++ ⟨#[10]⟩) = evalF P s by
    have := whole_blanks P s.data.toList (by have e : s.data.toList.length = s.size := Array.length_toList; omega)
    rw [bs_of] at this
    rw [← this]
    congr 1)
  have HV2 := hide (fun (h5 : s.size ≤ 500) (n : Int) (hn : evalF P s = (n, 0)) => show evalF P (⟨#[40]⟩ ++ s ++ ⟨#[41]⟩) = (n, 0) ∨ evalF P (⟨#[40]⟩ ++ s ++ ⟨#[41]⟩) = (0, 3) by
    have := whole_par P s.data.toList (by have e : s.data.toList.length = s.size := Array.length_toList; omega) (n := n) (by rw [bs_of]; exact hn)
    have e : (⟨#[40]⟩ : ByteArray) ++ s ++ ⟨#[41]⟩ = bs (40 :: (s.data.toList ++ [41])) := by
      conv => lhs; rw [← bs_of s]
      rw [show (⟨#[40]⟩ : ByteArray) = bs [40] from rfl, show (⟨#[41]⟩ : ByteArray) = bs [41] from rfl, bs_app, bs_app]; rfl
    rw [e]; exact this)
  clear hv hv2 hA
  generalize hn : P.length = n at *
  clear hn
  obtain ⟨q, hq⟩ : ∃ q, evalF P s = q := ⟨_, rfl⟩
  rw [hq] at HRE HV1 HV2
  clear hq
  by_cases c1 : 500 < s.size
  · have h1 : (500 : Int) < (s.size : Int) := by omega
    go_enter Tryd.func9, Tryd.ntmps9
    go_wp2_with fail
    refine (alive7_any w).mono ?_
    rintro e w1 ⟨rfl, hb1⟩
    have HB1 := hide hb1
    have HA1 := hide (HA.out.below hb1)
    clear hb1
    go_wp2_with fail
    refine (HRE.out w1 HA1.out).mono ?_
    rintro e w2 ⟨rfl, hb2⟩
    have HB2 := hide (below_up HB1.out hb2 HB1.out.size)
    clear hb2
    go_wp2
    go_ret
    exact ⟨rfl, HB2.out⟩
  have h1 : (s.size : Int) ≤ 500 := by omega
  by_cases c2 : 20 < n
  · have h2 : (20 : Int) < (n : Int) := by omega
    go_enter Tryd.func9, Tryd.ntmps9
    go_wp2_with fail
    refine (alive7_any w).mono ?_
    rintro e w1 ⟨rfl, hb1⟩
    have HB1 := hide hb1
    have HA1 := hide (HA.out.below hb1)
    clear hb1
    go_wp2_with fail
    refine (HRE.out w1 HA1.out).mono ?_
    rintro e w2 ⟨rfl, hb2⟩
    have HB2 := hide (below_up HB1.out hb2 HB1.out.size)
    clear hb2
    go_wp2
    go_ret
    exact ⟨rfl, HB2.out⟩
  have h2 : (n : Int) ≤ 20 := by omega
  have h5 : s.size ≤ 500 := by omega
  have HV1 := hide (HV1.out h5)
  have HV2 := hide (HV2.out h5)
  have HE1 := hide (fun w h => HE1.out w h h5)
  have HE2 := hide (fun w h => HE2.out w h h5)
  clear c1 c2
  obtain ⟨qn, qe⟩ := q
  go_enter Tryd.func9, Tryd.ntmps9
  go_wp2_with fail
  refine (alive7_any w).mono ?_
  rintro e w1 ⟨rfl, hb1⟩
  have HB1 := hide hb1
  have HA1 := hide (HA.out.below hb1)
  clear hb1
  go_wp2_with fail
  refine (HRE.out w1 HA1.out).mono ?_
  rintro e w2 ⟨rfl, hb2⟩
  have HB2 := hide (below_up HB1.out hb2 HB1.out.size)
  have HA2 := hide (HA1.out.below hb2)
  clear hb2
  go_wp2_with fail
  refine (HE1.out w2 HA2.out).mono ?_
  rintro e w3 ⟨rfl, hb3⟩
  rw [HV1.out]
  have HB3 := hide (below_up HB2.out hb3 HB2.out.size)
  have HA3 := hide (HA2.out.below hb3)
  clear hb3
  go_wp2_with fail
  refine (HE2.out w3 HA3.out).mono ?_
  rintro e w4 ⟨rfl, hb4⟩
  have HB4 := hide (below_up HB3.out hb4 HB3.out.size)
  clear hb4
  by_cases he : qe = 0
  · subst he
    rcases HV2.out qn rfl with h | h
    all_goals
      rw [h]
      clear h
      go_wp2_with fail
      refine (num7_any _ _).mono ?_
      rintro e w4' ⟨rfl, rfl⟩
      go_wp2_with fail
      refine (num7_any _ _).mono ?_
      rintro e w4' ⟨rfl, rfl⟩
      first
      | (go_wp2; go_ret; exact ⟨rfl, HB4.out⟩)
      | (go_wp2_with fail
         refine (num7_any _ _).mono ?_
         rintro e w4' ⟨rfl, rfl⟩
         go_wp2
         go_ret
         exact ⟨rfl, HB4.out⟩)
  · have hd1 : decide ((qe : Int) = 0) = false := by simpa using he
    have hd2 : ((qe : Int) == 0) = false := by simpa using he
    have hd3 : ((qe : Int) != 0) = true := by simpa using he
    generalize evalF P (⟨#[40]⟩ ++ s ++ ⟨#[41]⟩) = Y
    go_wp2_with fail
    refine (num7_any _ _).mono ?_
    rintro e w4' ⟨rfl, rfl⟩
    go_wp2
    go_ret
    exact ⟨rfl, HB4.out⟩
end Go.Proofs.YtpjbklajjikgjaaDoor
