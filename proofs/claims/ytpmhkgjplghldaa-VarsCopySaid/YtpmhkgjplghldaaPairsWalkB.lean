/- Walks of the reference's SamePairs. -/
import Derived.Test.YtpmhkgjplghldaaPairsWalk
import Derived.Laws.StructEq
namespace Go.Proofs.Ytpmhkgjplghldaa
open Go.RowKit Go.Deep
theorem pairStruct : Try.prog.underlying 49 = some (.struct (Try.prog.fieldsOf 49)) := by kernel_rfl
theorem pairStood : Try.prog.stoodInHeld 49 = false := by kernel_rfl
theorem pairGuard : Try.prog.eqGuardType Try.prog.depth 49 = false := by kernel_rfl
theorem pair_neq (x1 x2 y1 y2 : ByteArray) (w : World) : (binOp .neq 49 (.agg #[.string x1, .string x2]) (.agg #[.string y1, .string y2])).run Try.prog w = .ok (.bool (!((x1.toList == y1.toList) && (x2.toList == y2.toList)))) w := by
  rw [run_neq_struct, run_equalIn_struct w 9999 _ _ _ pairStruct pairStood]
  simp [Program.fieldsOf, Try.underlying49, Op.eqFields, go_sem]
  by_cases h1 : x1.toList = y1.toList <;> by_cases h2 : x2.toList = y2.toList <;> simp [h1, h2]
theorem pair_test (x1 x2 y1 y2 : ByteArray) : ((x1.toList == y1.toList) && (x2.toList == y2.toList)) = decide (x1 = y1 ∧ x2 = y2) := by
  by_cases h1 : x1 = y1
  · by_cases h2 : x2 = y2
    · simp [h1, h2]
    · rw [txt_ne h2]; simp [h2]
  · rw [txt_ne h1]; simp [h1]
set_option maxRecDepth 100000 in
set_option maxHeartbeats 400000 in
theorem samep_any (A B : Option Addr) (c d : Nat) (L M : List Pr) (w : World) (hA : PR w A L) (hB : PR w B M) (hl : L.length ≤ 100000) :
    Calls Try.prog 15 #[.slice A L.length c, .slice B M.length d] w fun e w' => e = .returned (.bool (decide (L = M))) ∧ Drew w w' := by
  have HA := hide hA
  have HB := hide hB
  clear hA hB
  by_cases hn : L.length = M.length
  · obtain ⟨n, hn1⟩ : ∃ n, L.length = n := ⟨_, rfl⟩
    have hn2 : M.length = n := by omega
    have N1 := hide hn1
    have N2 := hide hn2
    rw [hn1, hn2]
    rw [hn1] at hl
    clear hn hn1 hn2
    go_enter Try.func15, Try.ntmps15
    go_wp2
    go_loopw [5] (fun v5 wr => ∃ k : Nat, v5 = .int .i64 k ∧ k ≤ n ∧ Hid (L.take k = M.take k) ∧ Drew w wr) (fun v5 _ => n - (intOf v5).toNat)
    case atStart => exact ⟨0, rfl, by omega, rfl, Drew.refl _⟩
    case round =>
      obtain ⟨k, rfl, hk, HE, hdr⟩ := hrel
      have HD := hide hdr
      clear hdr
      by_cases hlt : k < n
      · obtain ⟨x, hx⟩ : ∃ x, L[k]? = some x := ⟨L[k]'(by have := N1.out; omega), List.getElem?_eq_getElem _⟩
        obtain ⟨y, hy⟩ : ∃ y, M[k]? = some y := ⟨M[k]'(by have := N2.out; omega), List.getElem?_eq_getElem _⟩
        obtain ⟨x1, x2⟩ := x
        obtain ⟨y1, y2⟩ := y
        obtain ⟨g, o, rfl, hg, hc1, hc2⟩ := (HA.out.drew HD.out) k _ hx
        obtain ⟨g', o', rfl, hg', hc3, hc4⟩ := (HB.out.drew HD.out) k _ hy
        have hpn := pair_neq x1 x2 y1 y2
        have hpg := pairGuard
        have hpt := pair_test x1 x2 y1 y2
        have HX := hide hx
        have HY := hide hy
        have b1 : (k : Int) < (n : Int) := by omega
        clear hx hy
        by_cases he : x1 = y1 ∧ x2 = y2
        · obtain ⟨rfl, rfl⟩ := he
          clear hpt
          go_wp2
          go_quiet (fail)
          go_wp2
          go_roundw
          case rel =>
            refine ⟨k + 1, by go_num, by omega, ?_, HD.out.more _⟩
            show L.take (k + 1) = M.take (k + 1)
            rw [List.take_add_one, List.take_add_one, HE.out, HX.out, HY.out]
          case measure => simp [intOf]; omega
        · rw [hpt, decide_eq_false he] at hpn
          have HN := hide he
          clear he hpt
          go_wp2
          go_quiet (fail)
          go_wp2
          go_ret
          refine ⟨?_, HD.out.more _⟩
          have : decide (L = M) = false := by
            rw [decide_eq_false_iff_not]
            intro e
            have h1 := HX.out
            have h2 := HY.out
            rw [e, h2] at h1
            injection h1 with h1
            injection h1 with h1 h3
            exact HN.out ⟨h1.symm, h3.symm⟩
          rw [this]
          rfl
      · have e : k = n := by omega
        have hf : decide (L = M) = true := by
          rw [decide_eq_true_iff]
          have := HE.out
          rw [List.take_of_length_le (by have := N1.out; omega), List.take_of_length_le (by have := N2.out; omega)] at this
          exact this
        have HF := hide hf
        clear hf e
        go_wp2
        go_ret
        refine ⟨?_, HD.out⟩
        rw [HF.out]
        rfl
  · have hb : ((L.length : Int) == (M.length : Int)) = false := by simp only [beq_eq_false_iff_ne]; omega
    have hb2 : (L.length == M.length) = false := by simp only [beq_eq_false_iff_ne]; omega
    have HF := hide (show decide (L = M) = false by rw [decide_eq_false_iff_not]; intro e; exact hn (by rw [e]))
    clear hn
    go_enter Try.func15, Try.ntmps15
    go_wp2
    go_ret
    refine ⟨?_, Drew.refl _⟩
    rw [HF.out]
    rfl
end Go.Proofs.Ytpmhkgjplghldaa
