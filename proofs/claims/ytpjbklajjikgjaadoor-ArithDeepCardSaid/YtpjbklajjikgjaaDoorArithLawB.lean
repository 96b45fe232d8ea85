/- The law ArithDeep: the walk. -/
import Derived.Test.YtpjbklajjikgjaaDoorArithMathE
namespace Go.Proofs.YtpjbklajjikgjaaDoor
open Go.RowKit Go.Deep Qm.Base

set_option maxRecDepth 100000 in
set_option maxHeartbeats 2000000 in
theorem law_arithDeep (n a : Int) (_w0 : (Lit.int .i64 n).wf = true) (_w1 : (Lit.int .i64 a).wf = true) (w : World) :
    Calls Tryd.prog 8 #[.int .i64 n, .int .i64 a] w fun e w' => e = .returned (.bool true) ∧ Below w.heap.size w w' := by
  have h63 := (i64_le _w1).2
  clear _w0 _w1
  by_cases c1 : n < 0
  · go_enter Tryd.func8, Tryd.ntmps8
    go_wp2_with fail
    refine (alive7_any w).mono ?_
    rintro e w1 ⟨rfl, hb1⟩
    go_wp2
    go_ret
    exact ⟨rfl, hb1⟩
  by_cases c2 : 60 < n
  · go_enter Tryd.func8, Tryd.ntmps8
    go_wp2_with fail
    refine (alive7_any w).mono ?_
    rintro e w1 ⟨rfl, hb1⟩
    go_wp2
    go_ret
    exact ⟨rfl, hb1⟩
  by_cases c3 : a < 0
  · go_enter Tryd.func8, Tryd.ntmps8
    go_wp2_with fail
    refine (alive7_any w).mono ?_
    rintro e w1 ⟨rfl, hb1⟩
    go_wp2
    go_ret
    exact ⟨rfl, hb1⟩
  obtain ⟨n, rfl⟩ := Int.eq_ofNat_of_zero_le (show 0 ≤ n by omega)
  obtain ⟨a, rfl⟩ := Int.eq_ofNat_of_zero_le (show 0 ≤ a by omega)
  have hn : n ≤ 60 := by omega
  have ha : a ≤ 9223372036854775807 := by omega
  clear c1 c2 c3 h63
  go_enter Tryd.func8, Tryd.ntmps8
  go_wp2_with fail
  refine (alive7_any w).mono ?_
  rintro e w1 ⟨rfl, hb1⟩
  have HB1 := hide hb1
  clear hb1
  go_wp2_with fail
  refine (digits_big a w1 ha).mono ?_
  rintro e w1' ⟨rfl, rfl⟩
  rw [ds_bs]
  go_wp2_with fail
  go_loop [6, 7] (fun v6 v7 => ∃ k : Nat, k ≤ n ∧ v7 = .int .i64 k ∧ v6 = .string (bs (dpT k a))) (fun _ v7 => n - (intOf v7).toNat)
  case atStart => exact ⟨0, by omega, rfl, by simp [dpT]⟩
  case round =>
    obtain ⟨k, hk, rfl, rfl⟩ := hrel
    have hks : (bs (dpT k a)).size ≤ 200 := by rw [bs_size]; have := dpT_len k a ha; omega
    by_cases hlt : k < n
    · have HS := hide (show (⟨#[40]⟩ : ByteArray) ++ bs (dpT k a) ++ ⟨#[41]⟩ = bs (dpT (k + 1) a) from by
        rw [← dpT_succ, ← bs_app, ← bs_app]; rfl)
      generalize bs (dpT k a) = T at hks HS ⊢
      go_wp2_with fail
      go_round
      case rel => exact ⟨k + 1, by omega, by go_num, by rw [HS.out]⟩
      case measure => simp [intOf]; omega
    · obtain rfl : k = n := by omega
      have HS := hide (show bs (dpT k a) ++ (⟨#[40]⟩ : ByteArray) = bs (dpT k a ++ [40]) from by rw [← bs_app]; rfl)
      have HE1 := hide (eval_any (bs (dpT k a)) none [] 0 w1 (PR.nil _ _) (by unfold maxLen; omega) (by decide) (fun x hx => by simp at hx))
      have HE2 := hide (fun w => eval_any (bs (dpT k a ++ [40])) none [] 0 w (PR.nil _ _) (by rw [← HS.out, ByteArray.size_append]; show _ + 1 ≤ _; unfold maxLen; omega) (by decide) (fun x hx => by simp at hx))
      by_cases h40 : k ≤ 40
      · have V1 := hide (deep_val [] k a h40 ha)
        have V2 := hide (deep_open [] k a h40 ha)
        generalize bs (dpT k a) = T at hks HS HE1 V1 ⊢
        generalize bs (dpT k a ++ [40]) = U at HS HE2 V2 ⊢
        go_wp2_with fail
        refine HE1.out.mono ?_
        rintro e w2 ⟨rfl, hb2⟩
        have HB2 := hide (below_up HB1.out hb2 HB1.out.size)
        clear hb2
        rw [V1.out]
        go_wp2_with fail
        rw [HS.out]
        refine (HE2.out w2).mono ?_
        rintro e w3 ⟨rfl, hb3⟩
        have HB3 := hide (below_up HB2.out hb3 HB2.out.size)
        clear hb3
        rw [V2.out]
        go_wp2_with fail
        refine (num7_any _ _).mono ?_
        rintro e w4 ⟨rfl, rfl⟩
        go_wp2_with fail
        refine (num7_any _ _).mono ?_
        rintro e w4 ⟨rfl, rfl⟩
        go_wp2
        go_ret
        exact ⟨rfl, HB3.out⟩
      · have V1 := hide (deep_three [] k a [] (by omega) hn (by simp) ha)
        have V2 := hide (deep_three [] k a [40] (by omega) hn (by simp) ha)
        have V1' := V1
        rw [List.append_nil] at V1'
        clear V1
        generalize bs (dpT k a) = T at hks HS HE1 V1' ⊢
        generalize bs (dpT k a ++ [40]) = U at HS HE2 V2 ⊢
        go_wp2_with fail
        refine HE1.out.mono ?_
        rintro e w2 ⟨rfl, hb2⟩
        have HB2 := hide (below_up HB1.out hb2 HB1.out.size)
        clear hb2
        rw [V1'.out]
        go_wp2_with fail
        rw [HS.out]
        refine (HE2.out w2).mono ?_
        rintro e w3 ⟨rfl, hb3⟩
        have HB3 := hide (below_up HB2.out hb3 HB2.out.size)
        clear hb3
        rw [V2.out]
        go_wp2_with fail
        refine (num7_any _ _).mono ?_
        rintro e w4 ⟨rfl, rfl⟩
        go_wp2_with fail
        refine (num7_any _ _).mono ?_
        rintro e w4 ⟨rfl, rfl⟩
        go_wp2
        go_ret
        exact ⟨rfl, HB3.out⟩
end Go.Proofs.YtpjbklajjikgjaaDoor
