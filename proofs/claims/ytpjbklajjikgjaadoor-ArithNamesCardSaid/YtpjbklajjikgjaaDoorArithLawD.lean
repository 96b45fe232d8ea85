/- The law ArithNames: the walk. -/
import Derived.Test.YtpjbklajjikgjaaDoorArithMathH
import Derived.Test.YtpjbklajjikgjaaDoorArithRefJ
namespace Go.Proofs.YtpjbklajjikgjaaDoor
open Go.RowKit Go.Deep Qm.Base

set_option maxRecDepth 100000 in
set_option maxHeartbeats 2000000 in
theorem law_arithNames (nm v : ByteArray) (more : Int) (_w0 : nm.size ≤ maxLen) (_w1 : v.size ≤ maxLen) (_w2 : (Lit.int .i64 more).wf = true) (w : World) :
    Calls Tryd.prog 7 #[.string nm, .string v, .int .i64 more] w fun e w' => e = .returned (.bool true) ∧ Below w.heap.size w w' := by
  have h63 := (i64_le _w2).2
  clear _w2
  unfold maxLen at _w0 _w1
  by_cases c1 : 80 < nm.size
  · have h1 : (80 : Int) < (nm.size : Int) := by omega
    go_enter Tryd.func7, Tryd.ntmps7
    go_wp2_with fail
    refine (alive7_any w).mono ?_
    rintro e w1 ⟨rfl, hb1⟩
    go_wp2
    go_ret
    exact ⟨rfl, hb1⟩
  have h1 : (nm.size : Int) ≤ 80 := by omega
  by_cases c2 : 80 < v.size
  · have h2 : (80 : Int) < (v.size : Int) := by omega
    go_enter Tryd.func7, Tryd.ntmps7
    go_wp2_with fail
    refine (alive7_any w).mono ?_
    rintro e w1 ⟨rfl, hb1⟩
    go_wp2
    go_ret
    exact ⟨rfl, hb1⟩
  have h2 : (v.size : Int) ≤ 80 := by omega
  by_cases c3 : more < 0
  · go_enter Tryd.func7, Tryd.ntmps7
    go_wp2_with fail
    refine (alive7_any w).mono ?_
    rintro e w1 ⟨rfl, hb1⟩
    go_wp2
    go_ret
    exact ⟨rfl, hb1⟩
  obtain ⟨n, rfl⟩ := Int.eq_ofNat_of_zero_le (show 0 ≤ more by omega)
  have hn : n ≤ 9223372036854775807 := by omega
  clear c1 c2 c3 h63
  have HD := hide (fun w => digits_big n w hn)
  have hd20 : (ds (dgL n)).size ≤ 20 := by rw [ds_bs, bs_size]; have := dB_len n hn; omega
  have HV := hide (fun (hk : nmOk (bt nm) nm.size = true) (hv : v = ⟨#[]⟩) => show evalF [(nm, v)] (nm ++ ⟨#[43]⟩ ++ ds (dgL n)) = ((n : Int), 0) by rw [hv, ds_bs]; exact names_val nm n hn hk)
  generalize ds (dgL n) = Y at hd20 HD HV ⊢
  have h3 : nm.size ≤ 80 := by omega
  have h4 : v.size ≤ 80 := by omega
  have HT := hide (two_one nm ⟨#[49]⟩ v (nm ++ ⟨#[43]⟩ ++ Y))
  have HX := hide (show (nm ++ ⟨#[43]⟩ ++ Y).size ≤ maxLen by simp only [ByteArray.size_append]; show _ + 1 + _ ≤ _; unfold maxLen; omega)
  go_enter Tryd.func7, Tryd.ntmps7
  go_wp2_with fail
  refine (alive7_any w).mono ?_
  rintro e w1 ⟨rfl, hb1⟩
  have HB1 := hide hb1
  clear hb1
  go_wp2_with fail
  refine (HD.out w1).mono ?_
  rintro e w1' ⟨rfl, rfl⟩
  go_wp2_with fail
  refine (eval_any _ _ [(nm, ⟨#[49]⟩), (nm, v)] 2 _ (PR.new2 _ _ _ _ _ _) HX.out (by simp only [List.length_cons, List.length_nil]; unfold maxLen; omega) (by
    intro x hx
    simp only [List.mem_cons, List.not_mem_nil, or_false] at hx
    rcases hx with rfl | rfl
    · show (1 : Nat) ≤ maxLen; unfold maxLen; omega
    · show v.size ≤ maxLen; unfold maxLen; omega)).mono ?_
  rintro e w2 ⟨rfl, hb2⟩
  have HB2 := hide ((HB1.out.alloc HB1.out.size _).trans (hb2.mono (by simp only [World.size_alloc]; have := HB1.out.size; omega)))
  clear hb2
  rw [HT.out]
  go_wp2_with fail
  refine (HD.out w2).mono ?_
  rintro e w2' ⟨rfl, rfl⟩
  go_wp2_with fail
  refine (reval_any _ _ [(nm, v)] 1 _ (PR.new1 _ _ _ _) HX.out (by simp only [List.length_cons, List.length_nil]; unfold maxLen; omega) (by
    intro x hx
    simp only [List.mem_cons, List.not_mem_nil, or_false] at hx
    subst hx
    show v.size ≤ maxLen; unfold maxLen; omega)).mono ?_
  rintro e w3 ⟨rfl, hb3⟩
  have HB3 := hide ((HB2.out.alloc HB2.out.size _).trans (hb3.mono (by simp only [World.size_alloc]; have := HB2.out.size; omega)))
  clear hb3
  obtain ⟨q, hq⟩ : ∃ q, evalF [(nm, v)] (nm ++ ⟨#[43]⟩ ++ Y) = q := ⟨_, rfl⟩
  rw [hq] at HV ⊢
  clear hq HT HX
  go_wp2_with fail
  refine (num7_any _ _).mono ?_
  rintro e w4 ⟨rfl, rfl⟩
  go_wp2_with fail
  refine (nmref_any nm _ (by omega)).mono ?_
  rintro e w4 ⟨rfl, rfl⟩
  cases hk : nmOk (bt nm) nm.size with
  | false =>
    clear hk
    go_wp2
    go_ret
    exact ⟨rfl, HB3.out⟩
  | true =>
    by_cases hv : v = ⟨#[]⟩
    · have HQ := HV.out hk hv
      subst hv
      clear hk HV
      rw [HQ]
      clear HQ
      go_wp2_with fail
      refine (num7_any _ _).mono ?_
      rintro e w4 ⟨rfl, rfl⟩
      go_wp2
      go_ret
      exact ⟨rfl, HB3.out⟩
    · have hve : v.toList.isEmpty = false := by
        cases hb : v.toList.isEmpty with
        | false => rfl
        | true =>
          exfalso
          apply hv
          apply ByteArray.ext
          rw [List.isEmpty_iff, ByteArray.toList_eq] at hb
          simpa using hb
      clear hk HV hv
      go_wp2
      go_ret
      exact ⟨rfl, HB3.out⟩
end Go.Proofs.YtpjbklajjikgjaaDoor
