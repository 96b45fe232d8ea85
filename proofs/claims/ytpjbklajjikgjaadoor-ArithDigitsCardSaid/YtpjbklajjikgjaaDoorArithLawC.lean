/- The law ArithDigits: the walk. -/
import Derived.Test.YtpjbklajjikgjaaDoorArithMathE
namespace Go.Proofs.YtpjbklajjikgjaaDoor
open Go.RowKit Go.Deep Qm.Base

theorem numN_zeros (z : Nat) (l : List UInt8) : numN (List.replicate z 48 ++ l) = numN l := by
  induction z with
  | zero => simp
  | succ z ih => rw [List.replicate_succ, ← ih]; rfl
theorem zeros_val (P : List Pr) (z n : Nat) (hz : z ≤ 50) (h : n ≤ 9223372036854775807) : evalF P (bs (List.replicate z 48 ++ dB n)) = ((n : Int), 0) := by
  have hl := dB_len n h
  rw [evalF_bs P _ (by simp; omega)]
  have := Ar.deep_ok (KP P) (D := List.replicate z 48 ++ dB n) (by simp [dB_pos]) (by
    intro c hc
    rcases List.mem_append.1 hc with hc | hc
    · rw [(List.mem_replicate.1 hc).2]; decide
    · exact dB_dgl n c hc) 0 41 [] false (by omega) rfl (by decide) (by decide)
  simp only [List.replicate_zero, List.nil_append, List.append_nil] at this
  rw [this]
  show (nI (List.replicate z 48 ++ dB n), 0) = _
  unfold nI
  rw [numN_zeros]
  show (nI (dB n), 0) = _
  rw [nI_dB n h]
set_option maxRecDepth 100000 in
set_option maxHeartbeats 2000000 in
theorem law_arithDigits (n z r : Int) (_w0 : (Lit.int .i64 n).wf = true) (_w1 : (Lit.int .i64 z).wf = true) (_w2 : (Lit.int .i64 r).wf = true) (w : World) :
    Calls Tryd.prog 11 #[.int .i64 n, .int .i64 z, .int .i64 r] w fun e w' => e = .returned (.bool true) ∧ Below w.heap.size w w' := by
  have h63 := (i64_le _w0).2
  clear _w0 _w1 _w2
  by_cases c1 : n < 0
  · go_enter Tryd.func11, Tryd.ntmps11
    go_wp2_with fail
    refine (alive7_any w).mono ?_
    rintro e w1 ⟨rfl, hb1⟩
    go_wp2
    go_ret
    exact ⟨rfl, hb1⟩
  by_cases c2 : z < 0
  · go_enter Tryd.func11, Tryd.ntmps11
    go_wp2_with fail
    refine (alive7_any w).mono ?_
    rintro e w1 ⟨rfl, hb1⟩
    go_wp2
    go_ret
    exact ⟨rfl, hb1⟩
  by_cases c3 : 50 < z
  · go_enter Tryd.func11, Tryd.ntmps11
    go_wp2_with fail
    refine (alive7_any w).mono ?_
    rintro e w1 ⟨rfl, hb1⟩
    go_wp2
    go_ret
    exact ⟨rfl, hb1⟩
  by_cases c4 : r < 0
  · go_enter Tryd.func11, Tryd.ntmps11
    go_wp2_with fail
    refine (alive7_any w).mono ?_
    rintro e w1 ⟨rfl, hb1⟩
    go_wp2
    go_ret
    exact ⟨rfl, hb1⟩
  by_cases c5 : 3 < r
  · go_enter Tryd.func11, Tryd.ntmps11
    go_wp2_with fail
    refine (alive7_any w).mono ?_
    rintro e w1 ⟨rfl, hb1⟩
    go_wp2
    go_ret
    exact ⟨rfl, hb1⟩
  obtain ⟨n, rfl⟩ := Int.eq_ofNat_of_zero_le (show 0 ≤ n by omega)
  obtain ⟨z, rfl⟩ := Int.eq_ofNat_of_zero_le (show 0 ≤ z by omega)
  have hn : n ≤ 9223372036854775807 := by omega
  have hz : z ≤ 50 := by omega
  have hr : r = 0 ∨ r = 1 ∨ r = 2 ∨ r = 3 := by omega
  clear c1 c2 c3 c4 c5 h63
  have HV := hide (zeros_val [] z n hz hn)
  have HD := hide (fun w => digits_big n w hn)
  have hd20 : (ds (dgL n)).size ≤ 20 := by rw [ds_bs, bs_size]; have := dB_len n hn; omega
  have HDB := hide (ds_bs n)
  rcases hr with rfl | rfl | rfl | rfl
  all_goals
    go_enter Tryd.func11, Tryd.ntmps11
    go_wp2_with fail
    refine (alive7_any w).mono ?_
    rintro e w1 ⟨rfl, hb1⟩
    have HB1 := hide hb1
    clear hb1
    go_wp2_with fail
    go_loop [8, 9] (fun v8 v9 => ∃ k : Nat, k ≤ z ∧ v9 = .int .i64 k ∧ v8 = .string (bs (List.replicate k 48))) (fun _ v9 => z - (intOf v9).toNat)
    case atStart => exact ⟨0, by omega, rfl, rfl⟩
    case round =>
      obtain ⟨k, hk, rfl, rfl⟩ := hrel
      have hks : (bs (List.replicate k 48)).size ≤ 50 := by rw [bs_size]; simp; omega
      by_cases hlt : k < z
      · have HS := hide (show bs (List.replicate k 48) ++ (⟨#[48]⟩ : ByteArray) = bs (List.replicate (k + 1) 48) from by
          rw [List.replicate_succ', ← bs_app]; rfl)
        generalize bs (List.replicate k 48) = T at hks HS ⊢
        go_wp2_with fail
        go_round
        case rel => exact ⟨k + 1, by omega, by go_num, by rw [HS.out]⟩
        case measure => simp [intOf]; omega
      · obtain rfl : k = z := by omega
        have HS := hide (show bs (List.replicate k 48) ++ ds (dgL n) = bs (List.replicate k 48 ++ dB n) from by rw [HDB.out, bs_app])
        have HE1 := hide (eval_any (bs (List.replicate k 48 ++ dB n)) none [] 0 w1 (PR.nil _ _) (by rw [bs_size]; have := dB_len n hn; simp; unfold maxLen; omega) (by decide) (fun x hx => by simp at hx))
        generalize bs (List.replicate k 48) = T at hks HS ⊢
        generalize bs (List.replicate k 48 ++ dB n) = U at HS HE1 HV ⊢
        go_wp2_with fail
        refine (HD.out w1).mono ?_
        rintro e w1' ⟨rfl, rfl⟩
        generalize ds (dgL n) = Y at hd20 HS HDB ⊢
        go_wp2_with fail
        rw [HS.out]
        refine HE1.out.mono ?_
        rintro e w2 ⟨rfl, hb2⟩
        have HB2 := hide (below_up HB1.out hb2 HB1.out.size)
        clear hb2
        rw [HV.out]
        go_wp2_with fail
        refine (eval_any _ none [] 0 _ (PR.nil _ _) (by first | decide | (unfold maxLen; decide)) (by decide) (fun x hx => by simp at hx)).mono ?_
        rintro e w3 ⟨rfl, hb3⟩
        rw [show evalF [] _ = (0, 0) from by kernel_rfl]
        have HB3 := hide ((HB2.out.alloc HB2.out.size _).trans (hb3.mono (by simp only [World.size_alloc]; have := HB2.out.size; omega)))
        clear hb3
        go_wp2_with fail
        refine (num7_any _ _).mono ?_
        rintro e w4 ⟨rfl, rfl⟩
        first
        | (go_wp2; go_ret; exact ⟨rfl, HB3.out⟩)
        | (go_wp2_with fail
           refine (num7_any _ _).mono ?_
           rintro e w4 ⟨rfl, rfl⟩
           go_wp2
           go_ret
           exact ⟨rfl, HB3.out⟩)
end Go.Proofs.YtpjbklajjikgjaaDoor
