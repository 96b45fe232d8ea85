/- The law ArithSigns: the walk. -/
import Derived.Test.YtpjbklajjikgjaaDoorArithMathI
import Derived.Test.YtpjbklajjikgjaaDoorOpenInts
namespace Go.Proofs.YtpjbklajjikgjaaDoor
open Go.RowKit Go.Deep Qm.Base
/-- the sign that a number chooses -/
def sgK (x : Int) : Nat := (x % 4).toNat
theorem sgK_lt (x : Int) : sgK x < 4 := by unfold sgK; omega
theorem and3 (x : Int) (h : -9223372036854775808 ≤ x ∧ x ≤ 9223372036854775807) : bits .and .i64 x 3 = (sgK x : Int) := by
  have hx : (BitVec.ofInt 64 x &&& BitVec.ofInt 64 (3 : Int)).toNat = sgK x := by
    rw [BitVec.toNat_and, show (BitVec.ofInt 64 (3 : Int)).toNat = 2 ^ 2 - 1 from rfl, Nat.and_two_pow_sub_one_eq_mod, BitVec.toNat_ofInt]
    unfold sgK
    omega
  show IntKind.i64.wrap ((BitVec.ofInt 64 x &&& BitVec.ofInt 64 (3 : Int)).toNat : Int) = _
  have := sgK_lt x
  rw [hx, IntKind.wrap_i64]
  omega
set_option maxRecDepth 100000 in
set_option maxHeartbeats 2000000 in
theorem law_arithSigns (a : Int) (A : Option Addr) (c : Nat) (L : List Int) (_w0 : (Lit.int .i64 a).wf = true) (_hl : L.length ≤ maxLen) (hv : ∀ (k : Nat) (s : Int), L[k]? = some s → (Lit.int .i64 s).wf = true) (w : World) (hA : IR w A L) :
    Calls Tryd.prog 6 #[.int .i64 a, .slice A L.length c] w fun e w' => e = .returned (.bool true) ∧ Below w.heap.size w w' := by
  have h63 := (i64_le _w0).2
  clear _w0
  unfold maxLen at _hl
  by_cases c1 : 30 < L.length
  · have h1 : (30 : Int) < (L.length : Int) := by omega
    generalize L.length = m at *
    go_enter Tryd.func6, Tryd.ntmps6
    go_wp2_with fail
    refine (alive7_any w).mono ?_
    rintro e w1 ⟨rfl, hb1⟩
    go_wp2
    go_ret
    exact ⟨rfl, hb1⟩
  have h1 : (L.length : Int) ≤ 30 := by omega
  by_cases c3 : a < 0
  · generalize L.length = m at *
    go_enter Tryd.func6, Tryd.ntmps6
    go_wp2_with fail
    refine (alive7_any w).mono ?_
    rintro e w1 ⟨rfl, hb1⟩
    go_wp2
    go_ret
    exact ⟨rfl, hb1⟩
  obtain ⟨n, rfl⟩ := Int.eq_ofNat_of_zero_le (show 0 ≤ a by omega)
  have hn : n ≤ 9223372036854775807 := by omega
  have hl : L.length ≤ 30 := by omega
  clear c1 c3 h63 _hl
  have HD := hide (fun w => digits_big n w hn)
  have HA := hide hA
  clear hA
  obtain ⟨m, hm⟩ : ∃ m, L.length = m := ⟨_, rfl⟩
  rw [hm] at hl h1 ⊢
  have HM := hide hm
  clear hm
  go_enter Tryd.func6, Tryd.ntmps6
  go_wp2_with fail
  refine (alive7_any w).mono ?_
  rintro e w1 ⟨rfl, hb1⟩
  have HA1 := hide (HA.out.below hb1)
  have HB1 := hide hb1
  clear hb1
  go_wp2_with fail
  go_loop [6, 7, 8] (fun v6 v7 _ => ∃ k : Nat, k ≤ m ∧ v7 = .int .i64 k ∧ v6 = .string (bs ((L.take k).map fun x => Ar.sgB (sgK x)))) (fun _ v7 _ => m - (intOf v7).toNat)
  case atStart => exact ⟨0, by omega, rfl, rfl⟩
  case round =>
    obtain ⟨k, hk, rfl, rfl⟩ := hrel
    by_cases hlt : k < m
    · obtain ⟨x, hx⟩ : ∃ x, L[k]? = some x := ⟨L[k]'(by have := HM.out; omega), List.getElem?_eq_getElem _⟩
      obtain ⟨g, o, rfl, hg, hc⟩ := HA1.out k x hx
      have hxr := i64_le (hv k x hx)
      have hks : (bs ((L.take k).map fun x => Ar.sgB (sgK x))).size ≤ 30 := by rw [bs_size, List.length_map, List.length_take]; omega
      have HS := hide (show bs ((L.take k).map fun x => Ar.sgB (sgK x)) ++ bs [Ar.sgB (sgK x)] = bs ((L.take (k + 1)).map fun x => Ar.sgB (sgK x)) from by
        rw [bs_app, List.take_add_one, hx]; simp)
      generalize bs ((L.take k).map fun x => Ar.sgB (sgK x)) = T at hks HS ⊢
      have h3 := and3 x hxr
      have hy4 := sgK_lt x
      generalize sgK x = y at h3 hy4 HS
      have hsg : (⟨#[43, 45, 33, 126]⟩ : ByteArray).extract y (y + 1) = bs [Ar.sgB y] := by
        have h2 : y = 0 ∨ y = 1 ∨ y = 2 ∨ y = 3 := by omega
        rcases h2 with rfl | rfl | rfl | rfl <;> rfl
      have HG := hide hsg
      clear hsg
      go_wp2_with fail
      refine ⟨⟨k + 1, by omega, by go_num, by rw [HG.out, HS.out]⟩, by simp [intOf]; omega⟩
    · obtain rfl : k = m := by omega
      have hks : (bs ((L.take k).map fun x => Ar.sgB (sgK x))).size ≤ 30 := by rw [bs_size, List.length_map, List.length_take]; omega
      have HS := hide (show bs ((L.take k).map fun x => Ar.sgB (sgK x)) = bs ((L.map sgK).map Ar.sgB) from by
        rw [← HM.out, List.take_length, List.map_map]; rfl)
      generalize bs ((L.take k).map fun x => Ar.sgB (sgK x)) = T at hks HS ⊢
      go_wp2_with fail
      go_loop [9, 10] (fun v9 v10 => ∃ q : Nat, q ≤ k ∧ v10 = .int .i64 ((q : Int) - 1) ∧ v9 = .int .i64 (sgV ((L.drop q).map sgK) n)) (fun _ v10 => (intOf v10 + 1).toNat)
      case atStart =>
        refine ⟨k, by omega, by go_num, ?_⟩
        rw [← HM.out, List.drop_length]; rfl
      case round =>
        obtain ⟨q, hq, rfl, rfl⟩ := hrel
        cases q with
        | zero =>
          have HV := hide (signs_val [] (L.map sgK) n (by rw [List.length_map]; have := HM.out; omega) hn)
          have h0 := HM.out
          have HE := hide (eval_any (bs ((L.map sgK).map Ar.sgB ++ dB n)) none [] 0 w1 (PR.nil _ _) (by rw [bs_size]; have := dB_len n hn; simp only [List.length_append, List.length_map]; unfold maxLen; omega) (by decide) (fun x hx => by simp at hx))
          have HY := hide (show T ++ ds (dgL n) = bs ((L.map sgK).map Ar.sgB ++ dB n) from by rw [HS.out, ds_bs, bs_app])
          have hd20 : (ds (dgL n)).size ≤ 20 := by rw [ds_bs, bs_size]; have := dB_len n hn; omega
          rw [List.drop_zero]
          generalize bs ((L.map sgK).map Ar.sgB ++ dB n) = U at HV HE HY
          generalize ds (dgL n) = Y at hd20 HD HY
          generalize sgV (L.map sgK) n = V at HV ⊢
          clear HS h0
          go_wp2_with fail
          refine (HD.out w1).mono ?_
          rintro e w1' ⟨rfl, rfl⟩
          go_wp2_with fail
          rw [HY.out]
          refine HE.out.mono ?_
          rintro e w2 ⟨rfl, hb2⟩
          have HB2 := hide (below_up HB1.out hb2 HB1.out.size)
          clear hb2
          rw [HV.out]
          go_wp2_with fail
          refine (num7_any _ _).mono ?_
          rintro e w4 ⟨rfl, rfl⟩
          go_wp2
          go_ret
          exact ⟨rfl, HB2.out⟩
        | succ q =>
          obtain ⟨x, hx⟩ : ∃ x, L[q]? = some x := ⟨L[q]'(by have := HM.out; omega), List.getElem?_eq_getElem _⟩
          obtain ⟨g, o, rfl, hg, hc⟩ := HA1.out q x hx
          have h3 := and3 x (i64_le (hv q x hx))
          have hy4 := sgK_lt x
          have hd : sgV ((L.drop q).map sgK) n = apV (Ar.sgB (sgK x)) (sgV ((L.drop (q + 1)).map sgK) n) := by
            rw [List.drop_eq_getElem_cons (by have := HM.out; omega), (List.getElem?_eq_some_iff.1 hx).2]; rfl
          have HQ := hide hd
          clear hd
          generalize sgV ((L.drop (q + 1)).map sgK) n = V at HQ ⊢
          generalize sgK x = y at h3 hy4 HQ
          have hy : y = 0 ∨ y = 1 ∨ y = 2 ∨ y = 3 := by omega
          have hi : ((q + 1 : Nat) : Int) - 1 = (q : Int) := by omega
          rw [hi]
          rcases hy with rfl | rfl | rfl | rfl
          · go_wp2_with fail
            refine ⟨⟨q, by omega, rfl, by rw [HQ.out]; rfl⟩, by simp [intOf]⟩
          · go_wp2_with fail
            refine ⟨⟨q, by omega, rfl, by rw [HQ.out]; rfl⟩, by simp [intOf]⟩
          · by_cases hV : V = 0
            · subst hV
              go_wp2_with fail
              refine ⟨⟨q, by omega, rfl, by rw [HQ.out]; rfl⟩, by simp [intOf]⟩
            · have hVb : (V == 0) = false := by simpa using hV
              have HQ2 := hide (show apV (Ar.sgB 2) V = 0 by show trI (V == 0) = 0; rw [hVb]; rfl)
              go_wp2_with fail
              refine ⟨⟨q, by omega, rfl, by rw [HQ.out, HQ2.out]⟩, by simp [intOf]⟩
          · go_wp2_with fail
            refine ⟨⟨q, by omega, rfl, by rw [HQ.out]; rfl⟩, by simp [intOf]⟩
end Go.Proofs.YtpjbklajjikgjaaDoor
