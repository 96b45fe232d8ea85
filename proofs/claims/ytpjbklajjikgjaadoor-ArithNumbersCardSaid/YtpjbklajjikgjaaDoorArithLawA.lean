/- The law ArithEvals: alive, num, the walk. -/
import Derived.Test.YtpjbklajjikgjaaDoorArithRefI
namespace Go.Proofs.YtpjbklajjikgjaaDoor
open Go.RowKit Go.Deep

set_option maxRecDepth 100000 in
set_option maxHeartbeats 400000 in
theorem num7_any (n : Int) (w : World) : Calls Tryd.prog 15 #[.int .i64 n] w fun e w' => e = .returned (.int .i64 n) ∧ w = w' := by
  go_enter Tryd.func15, Tryd.ntmps15
  go_wp2
  go_ret
  exact ⟨rfl, rfl⟩
theorem alive_val : evalF [] ⟨#[49, 32, 43, 32, 50, 32, 42, 32, 51]⟩ = (7, 0) := by kernel_rfl
set_option maxRecDepth 100000 in
set_option maxHeartbeats 1000000 in
theorem alive7_any (w : World) : Calls Tryd.prog 12 #[] w fun e w' => e = .returned (.bool true) ∧ Below w.heap.size w w' := by
  have HE := hide (eval_any ⟨#[49, 32, 43, 32, 50, 32, 42, 32, 51]⟩ none [] 0 w (PR.nil _ _) (by decide) (by decide) (fun x hx => by simp at hx))
  go_enter Tryd.func12, Tryd.ntmps12
  go_wp2_with fail
  refine HE.out.mono ?_
  rintro e w1 ⟨rfl, hb1⟩
  rw [alive_val]
  have HB1 := hide hb1
  clear hb1
  go_wp2_with fail
  refine (num7_any _ _).mono ?_
  rintro e w2 ⟨rfl, rfl⟩
  go_wp2
  go_ret
  exact ⟨rfl, HB1.out⟩
set_option maxRecDepth 100000 in
set_option maxHeartbeats 2000000 in
theorem law_arithEvals (s : ByteArray) (A : Option Addr) (c : Nat) (P : List Pr) (_w0 : s.size ≤ maxLen) (hl : P.length ≤ maxLen) (hv : ∀ x ∈ P, x.1.size ≤ maxLen ∧ x.2.size ≤ maxLen) (w : World) (hA : PR w A P) :
    Calls Tryd.prog 3 #[.string s, .slice A P.length c] w fun e w' => e = .returned (.bool true) ∧ Below w.heap.size w w' := by
  have hv2 : ∀ x ∈ P, x.2.size ≤ maxLen := fun x hx => (hv x hx).2
  have HEV := hide (fun w h => eval_any s A P c w h _w0 hl hv2)
  have HRE := hide (fun w h => reval_any s A P c w h _w0 hl hv2)
  have HA := hide hA
  have hs63 : (s.size : Int) ≤ 9223372036854775807 := by unfold maxLen at _w0; omega
  have hl63 : (P.length : Int) ≤ 9223372036854775807 := by unfold maxLen at hl; omega
  clear hv hv2 hA
  generalize hn : P.length = n at *
  clear hn
  generalize hq : evalF P s = q at *
  clear hq
  by_cases c1 : 4200 < s.size
  · have h1 : (4200 : Int) < (s.size : Int) := by omega
    go_enter Tryd.func3, Tryd.ntmps3
    go_wp2_with fail
    refine (alive7_any w).mono ?_
    rintro e w1 ⟨rfl, hb1⟩
    go_wp2
    go_ret
    exact ⟨rfl, hb1⟩
  by_cases c2 : 600 < s.size
  · have h1 : (s.size : Int) ≤ 4200 := by omega
    have h2 : (600 : Int) < (s.size : Int) := by omega
    by_cases c3 : s.size < 4090
    · have h3 : (s.size : Int) < 4090 := by omega
      go_enter Tryd.func3, Tryd.ntmps3
      go_wp2_with fail
      refine (alive7_any w).mono ?_
      rintro e w1 ⟨rfl, hb1⟩
      go_wp2
      go_ret
      exact ⟨rfl, hb1⟩
    have h3 : ¬ (s.size : Int) < 4090 := by omega
    by_cases c4 : 40 < n
    · have h4 : (40 : Int) < (n : Int) := by omega
      go_enter Tryd.func3, Tryd.ntmps3
      go_wp2_with fail
      refine (alive7_any w).mono ?_
      rintro e w1 ⟨rfl, hb1⟩
      go_wp2
      go_ret
      exact ⟨rfl, hb1⟩
    have h4 : (n : Int) ≤ 40 := by omega
    go_enter Tryd.func3, Tryd.ntmps3
    go_wp2_with fail
    refine (alive7_any w).mono ?_
    rintro e w1 ⟨rfl, hb1⟩
    have HB1 := hide hb1
    have HA1 := hide (HA.out.below hb1)
    clear hb1
    go_wp2_with fail
    refine (HEV.out w1 HA1.out).mono ?_
    rintro e w2 ⟨rfl, hb2⟩
    have HB2 := hide (below_up HB1.out hb2 HB1.out.size)
    have HA2 := hide (HA1.out.below hb2)
    clear hb2
    go_wp2_with fail
    refine (HRE.out w2 HA2.out).mono ?_
    rintro e w3 ⟨rfl, hb3⟩
    have HB3 := hide (below_up HB2.out hb3 HB2.out.size)
    clear hb3
    go_wp2_with fail
    refine (num7_any _ _).mono ?_
    rintro e w4 ⟨rfl, rfl⟩
    go_wp2
    go_ret
    exact ⟨rfl, HB3.out⟩
  · have h1 : (s.size : Int) ≤ 4200 := by omega
    have h2 : ¬ (600 : Int) < (s.size : Int) := by omega
    by_cases c4 : 40 < n
    · have h4 : (40 : Int) < (n : Int) := by omega
      go_enter Tryd.func3, Tryd.ntmps3
      go_wp2_with fail
      refine (alive7_any w).mono ?_
      rintro e w1 ⟨rfl, hb1⟩
      go_wp2
      go_ret
      exact ⟨rfl, hb1⟩
    have h4 : (n : Int) ≤ 40 := by omega
    go_enter Tryd.func3, Tryd.ntmps3
    go_wp2_with fail
    refine (alive7_any w).mono ?_
    rintro e w1 ⟨rfl, hb1⟩
    have HB1 := hide hb1
    have HA1 := hide (HA.out.below hb1)
    clear hb1
    go_wp2_with fail
    refine (HEV.out w1 HA1.out).mono ?_
    rintro e w2 ⟨rfl, hb2⟩
    have HB2 := hide (below_up HB1.out hb2 HB1.out.size)
    have HA2 := hide (HA1.out.below hb2)
    clear hb2
    go_wp2_with fail
    refine (HRE.out w2 HA2.out).mono ?_
    rintro e w3 ⟨rfl, hb3⟩
    have HB3 := hide (below_up HB2.out hb3 HB2.out.size)
    clear hb3
    go_wp2_with fail
    refine (num7_any _ _).mono ?_
    rintro e w4 ⟨rfl, rfl⟩
    go_wp2
    go_ret
    exact ⟨rfl, HB3.out⟩
end Go.Proofs.YtpjbklajjikgjaaDoor
