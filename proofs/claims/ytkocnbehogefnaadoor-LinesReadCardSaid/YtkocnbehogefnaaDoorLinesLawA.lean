/- Walks of the reference's SameLines and of the law's num. -/
import Derived.Test.YtkocnbehogefnaaDoorLinesWalkE
import Derived.Laws.StructEq
namespace Go.Proofs.YtkocnbehogefnaaDoor
open Go.RowKit Go.Deep Ln
theorem lineStruct : Tryd.prog.underlying 34 = some (.struct (Tryd.prog.fieldsOf 34)) := by kernel_rfl
theorem lineStood : Tryd.prog.stoodInHeld 34 = false := by kernel_rfl
theorem lineGuard : Tryd.prog.eqGuardType Tryd.prog.depth 34 = false := by kernel_rfl
theorem line_neq (x1 y1 : Bool) (x2 y2 : ByteArray) (w : World) : (binOp .neq 34 (.agg #[.bool x1, .string x2]) (.agg #[.bool y1, .string y2])).run Tryd.prog w = .ok (.bool (!((x1 == y1) && (x2.toList == y2.toList)))) w := by
  rw [run_neq_struct, run_equalIn_struct w 9999 _ _ _ lineStruct lineStood]
  simp [Program.fieldsOf, Tryd.underlying34, Op.eqFields, go_sem]
  by_cases h1 : x1 = y1 <;> by_cases h2 : x2.toList = y2.toList <;> simp [h1, h2]
theorem line_test (x1 y1 : Bool) (x2 y2 : T) : ((x1 == y1) && ((bs x2).toList == (bs y2).toList)) = decide (x1 = y1 ∧ x2 = y2) := by
  rw [bs_toList, bs_toList]
  by_cases h1 : x1 = y1
  · by_cases h2 : x2 = y2
    · simp [h1, h2]
    · simp [h1, h2]
  · simp [h1]
set_option maxRecDepth 100000 in
set_option maxHeartbeats 400000 in
theorem samel_any (A B : Option Addr) (c d : Nat) (L M : List Ln.Line) (w : World) (hA : RG encL 2 w A L) (hB : RG encL 2 w B M) (hl : L.length ≤ 100000) :
    Calls Tryd.prog 11 #[.slice A L.length c, .slice B M.length d] w fun e w' => e = .returned (.bool (decide (L = M))) ∧ Drew w w' := by
  have HA := hide hA
  have HB := hide hB
  clear hA hB
  by_cases hn : L.length = M.length
  · obtain ⟨n, hn1⟩ : ∃ n, L.length = n := ⟨_, rfl⟩
    have hn2 : M.length = n := by omega
    have N1 := hide hn1
    have N2 := hide hn2
    rw [hn1, hn2]
    rw [hn1] at hl
    clear hn hn1 hn2
    go_enter Tryd.func11, Tryd.ntmps11
    go_wp2
    go_loopw [5] (fun v5 wr => ∃ k : Nat, v5 = .int .i64 k ∧ k ≤ n ∧ Hid (L.take k = M.take k) ∧ Drew w wr) (fun v5 _ => n - (intOf v5).toNat)
    case atStart => exact ⟨0, rfl, by omega, rfl, Drew.refl _⟩
    case round =>
      obtain ⟨k, rfl, hk, HE, hdr⟩ := hrel
      have HD := hide hdr
      clear hdr
      by_cases hlt : k < n
      · obtain ⟨x, hx⟩ : ∃ x, L[k]? = some x := ⟨L[k]'(by have := N1.out; omega), List.getElem?_eq_getElem _⟩
        obtain ⟨y, hy⟩ : ∃ y, M[k]? = some y := ⟨M[k]'(by have := N2.out; omega), List.getElem?_eq_getElem _⟩
        obtain ⟨x1, x2⟩ := x
        obtain ⟨y1, y2⟩ := y
        obtain ⟨g, o, rfl, hg, hc⟩ := (HA.out.drew HD.out) k _ hx
        obtain ⟨g', o', rfl, hg', hc'⟩ := (HB.out.drew HD.out) k _ hy
        have hc1 : wr.cell? ⟨g, o + k * 2, none⟩ = some (.bool x1) := hc 0 _ rfl
        have hc2 : wr.cell? ⟨g, o + k * 2 + 1, none⟩ = some (.string (bs x2)) := hc 1 _ rfl
        have hc3 : wr.cell? ⟨g', o' + k * 2, none⟩ = some (.bool y1) := hc' 0 _ rfl
        have hc4 : wr.cell? ⟨g', o' + k * 2 + 1, none⟩ = some (.string (bs y2)) := hc' 1 _ rfl
        clear hc hc'
        have hpn := line_neq x1 y1 (bs x2) (bs y2)
        have hpg := lineGuard
        have hpt := line_test x1 y1 x2 y2
        have HX := hide hx
        have HY := hide hy
        have b1 : (k : Int) < (n : Int) := by omega
        clear hx hy
        by_cases he : x1 = y1 ∧ x2 = y2
        · obtain ⟨rfl, rfl⟩ := he
          clear hpt
          go_wp2
          go_quiet (fail)
          go_wp2
          go_roundw
          case rel =>
            refine ⟨k + 1, by go_num, by omega, ?_, HD.out.more _⟩
            show L.take (k + 1) = M.take (k + 1)
            rw [List.take_add_one, List.take_add_one, HE.out, HX.out, HY.out]
          case measure => simp [intOf]; omega
        · rw [hpt, decide_eq_false he] at hpn
          have HN := hide he
          clear he hpt
          go_wp2
          go_quiet (fail)
          go_wp2
          go_ret
          refine ⟨?_, HD.out.more _⟩
          have : decide (L = M) = false := by
            rw [decide_eq_false_iff_not]
            intro e
            have h1 := HX.out
            have h2 := HY.out
            rw [e, h2] at h1
            injection h1 with h1
            injection h1 with h1 h3
            exact HN.out ⟨h1.symm, h3.symm⟩
          rw [this]
          rfl
      · have e : k = n := by omega
        have hf : decide (L = M) = true := by
          rw [decide_eq_true_iff]
          have := HE.out
          rw [List.take_of_length_le (by have := N1.out; omega), List.take_of_length_le (by have := N2.out; omega)] at this
          exact this
        have HF := hide hf
        clear hf e
        go_wp2
        go_ret
        refine ⟨?_, HD.out⟩
        rw [HF.out]
        rfl
  · have hb : ((L.length : Int) == (M.length : Int)) = false := by simp only [beq_eq_false_iff_ne]; omega
    have hb2 : (L.length == M.length) = false := by simp only [beq_eq_false_iff_ne]; omega
    have HF := hide (show decide (L = M) = false by rw [decide_eq_false_iff_not]; intro e; exact hn (by rw [e]))
    clear hn
    go_enter Tryd.func11, Tryd.ntmps11
    go_wp2
    go_ret
    refine ⟨?_, Drew.refl _⟩
    rw [HF.out]
    rfl
end Go.Proofs.YtkocnbehogefnaaDoor
