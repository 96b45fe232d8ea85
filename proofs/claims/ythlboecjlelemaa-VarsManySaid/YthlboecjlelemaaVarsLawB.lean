/- The walk of the law VarsMany, from the contracts. -/
import Derived.Test.YthlboecjlelemaaVarsLawA
import Derived.Lib.IndexLaws
namespace Go.Proofs.Ythlboecjlelemaa
open Go.RowKit Go.Deep Go.Maps Qm.Base
attribute [local go_sem] bt_eq

theorem hasNul_false {s : ByteArray} (h : ∀ j, j < s.size → bt s j ≠ 0) : hasNul s = false := by
  rw [hasNul, decide_eq_false_iff_not]
  intro hc
  obtain ⟨o, ho⟩ : ∃ o : Nat, Lib.indexByte s.data.toList 0 = (o : Int) := ⟨_, (Int.toNat_of_nonneg hc).symm⟩
  obtain ⟨h1, _⟩ := Lib.indexByte_some ho
  have hl : o < s.size := by
    have := (List.getElem?_eq_some_iff.1 h1).1
    simpa using this
  refine h o hl ?_
  rw [bt, Array.getD_eq_getD_getElem?, ← Array.getElem?_toList, h1]
  rfl
/-- so many times x -/
def xsT (n : Nat) : ByteArray := ds ((List.range n).map fun _ => 120)
theorem xsT_size (n : Nat) : (xsT n).size = n := by rw [xsT, ds_size]; simp
theorem xsT_nul (n : Nat) : hasNul (xsT n) = false := hasNul_false fun j hj => by
  rw [xsT_size] at hj
  rw [xsT, bt_ds, List.getD_eq_getElem?_getD, List.getElem?_map, List.getElem?_range hj]
  simp
theorem nmA0 : nmA 0 = ⟨#[97, 48]⟩ := by rw [nmA, dgL_small (by omega)]; rfl
theorem nmA1 : nmA 1 = ⟨#[97, 49]⟩ := by rw [nmA, dgL_small (by omega)]; rfl
theorem many_end (m sz : Nat) (h1 : 495 ≤ m) (h2 : m ≤ 500) :
    vCode (DN m) ⟨#[97, 48]⟩ (xsT sz) = (if 4096 < sz then 3 else 0) ∧ Maps.size (DN m) ≤ 1000 ∧ Maps.size (vSet (DN m) ⟨#[97, 48]⟩ (xsT sz)) ≤ 1000 ∧
    Maps.size ((vSet (DN m) ⟨#[97, 48]⟩ (xsT sz)).del (kLit ⟨#[97, 49]⟩)) ≤ 1000 ∧ vCode ((vSet (DN m) ⟨#[97, 48]⟩ (xsT sz)).del (kLit ⟨#[97, 49]⟩)) ⟨#[98]⟩ ⟨#[]⟩ = 0 := by
  obtain ⟨g1, g2, g3⟩ := DN_low m h2
  have hc : vCode (DN m) ⟨#[97, 48]⟩ (xsT sz) = (if 4096 < sz then 3 else 0) := by
    rw [← nmA0, vCode, nmA_ok (by omega), xsT_nul, g3 0, xsT_size]
    simp [show 0 < m from by omega]
  have hs : Maps.size (vSet (DN m) ⟨#[97, 48]⟩ (xsT sz)) = m ∧ Tidy (vSet (DN m) ⟨#[97, 48]⟩ (xsT sz)) ∧ Maps.has (vSet (DN m) ⟨#[97, 48]⟩ (xsT sz)) (kLit (nmA 1)) = true := by
    rw [vSet]
    split
    · rw [← nmA0]
      refine ⟨by rw [size_put g1, g3 0, if_pos (by simp; omega), g2], g1.put (keyLit _) _, ?_⟩
      rw [has_put_other (nmA_ne (by omega)), g3 1]
      simp; omega
    · exact ⟨g2, g1, by rw [g3 1]; simp; omega⟩
  have hd : Maps.size ((vSet (DN m) ⟨#[97, 48]⟩ (xsT sz)).del (kLit ⟨#[97, 49]⟩)) + 1 = m := by
    have := size_del (k := kLit (nmA 1)) hs.2.1
    rw [hs.2.2, if_pos rfl, hs.1, nmA1] at this
    exact this
  refine ⟨hc, by omega, by omega, by omega, ?_⟩
  rw [vCode, show nmOk (bt ⟨#[98]⟩) (ByteArray.size ⟨#[98]⟩) = true from by kernel_rfl, show hasNul ⟨#[]⟩ = false from by decide]
  have hn : decide (500 ≤ Maps.size ((vSet (DN m) ⟨#[97, 48]⟩ (xsT sz)).del (kLit ⟨#[97, 49]⟩))) = false := by rw [decide_eq_false_iff_not]; omega
  rw [hn]
  simp
  decide
theorem DN_min {i : Nat} (h : i < 600) : DN i = DN (min i 500) ∧ vCode (DN i) (nmA i) txX = (if i < 500 then 0 else 3) ∧ Maps.size (DN i) ≤ 1000 := by
  by_cases hi : i < 500
  · rw [if_pos hi, Nat.min_eq_left (by omega)]
    exact ⟨rfl, DN_code hi, by rw [(DN_low i (by omega)).2.1]; omega⟩
  · obtain ⟨d, rfl⟩ : ∃ d, i = 500 + d := ⟨i - 500, by omega⟩
    have := DN_high d (by omega)
    rw [if_neg hi, Nat.min_eq_right (by omega), this.2, this.1, (DN_low 500 (by omega)).2.1]
    exact ⟨rfl, rfl, by omega⟩
theorem VAt.below {B g : Nat} {D : VD} {w0 w : World} (h : VAt B g D w0 w) : Below B w0 w := by
  obtain ⟨mv, _, _, _, _, _, hb⟩ := h
  exact hb
theorem VAt.step {B g : Nat} {D : VD} {w0 w w' : World} (h : VAt B g D w0 w) (hb : Below w.heap.size w w') (hB : B ≤ w.heap.size) : VAt B g D w0 w' := by
  obtain ⟨mv, c1, c2, c3, c4, c5, c6⟩ := h
  have hk : Kp w w' (fun _ => False) := ⟨hb.os, hb.tape, hb.output, hb.size, fun k hk _ => hb.block k hk⟩
  exact ⟨mv, hk.cell c1 (fun e => e), hk.frozen c5 c2 (fun e => e), c3.kept hk (fun _ _ e => e), c4, Nat.lt_of_lt_of_le c5 hb.size, below_up c6 hb hB⟩

set_option maxRecDepth 100000 in
set_option maxHeartbeats 2000000 in
theorem law_varsMany (a0 a1 : Int) (_w0 : (Lit.int .i64 a0).wf = true) (_w1 : (Lit.int .i64 a1).wf = true) (w : World) :
    Calls Try.prog 3 #[.int .i64 a0, .int .i64 a1] w fun e w' => e = .returned (.bool true) ∧ Below w.heap.size w w' := by
  by_cases c0 : a0 < 495
  · go_enter Try.func3, Try.ntmps3
    go_wp2_with fail
    refine (alive6_any w).mono ?_
    rintro e w1 ⟨rfl, hb1⟩
    go_wp2
    go_ret
    exact ⟨rfl, hb1⟩
  by_cases c1 : 503 < a0
  · go_enter Try.func3, Try.ntmps3
    go_wp2_with fail
    refine (alive6_any w).mono ?_
    rintro e w1 ⟨rfl, hb1⟩
    go_wp2
    go_ret
    exact ⟨rfl, hb1⟩
  by_cases c2 : a1 < 4090
  · go_enter Try.func3, Try.ntmps3
    go_wp2_with fail
    refine (alive6_any w).mono ?_
    rintro e w1 ⟨rfl, hb1⟩
    go_wp2
    go_ret
    exact ⟨rfl, hb1⟩
  by_cases c3 : 4100 < a1
  · go_enter Try.func3, Try.ntmps3
    go_wp2_with fail
    refine (alive6_any w).mono ?_
    rintro e w1 ⟨rfl, hb1⟩
    go_wp2
    go_ret
    exact ⟨rfl, hb1⟩
  obtain ⟨n, rfl⟩ := Int.eq_ofNat_of_zero_le (show 0 ≤ a0 by omega)
  obtain ⟨sz, rfl⟩ := Int.eq_ofNat_of_zero_le (show 0 ≤ a1 by omega)
  go_enter Try.func3, Try.ntmps3
  go_wp2_with fail
  refine (alive6_any w).mono ?_
  rintro e w1 ⟨rfl, hb1⟩
  have HB1 := hide hb1
  have HV1 := hide (VAt.new w1)
  clear hb1
  go_wp2
  go_loopw [7] (fun v7 wr => ∃ k : Nat, v7 = .int .i64 k ∧ k ≤ n ∧ VAt w1.heap.size w1.heap.size (DN k) w1 wr) (fun v7 _ => n - (intOf v7).toNat)
  case atStart => exact ⟨0, rfl, by omega, HV1.out⟩
  case round =>
    obtain ⟨k, rfl, hk, hv⟩ := hrel
    have HV := hide hv
    clear hv HV1
    by_cases hlt : k < n
    · have hm := DN_min (i := k) (by omega)
      have HC := hide hm.2.1
      have HS := hide hm.2.2
      have hsz := nmA_size (i := k) (by omega)
      clear hm
      have hdl : (ds (dgL k)).size ≤ 1000 := by rw [ds_size]; have := dgL_len k 15 (by omega); omega
      go_wp2_with fail
      refine (digits_any k wr (by omega)).mono ?_
      rintro e w' ⟨rfl, rfl⟩
      go_wp2_with fail
      rw [show (⟨#[97]⟩ : ByteArray) ++ ds (dgL k) = nmA k from rfl]
      refine (vset_at HV.out (Nat.le_refl _) (Nat.le_refl _) (nmA k) txX (by omega) (by decide) HS.out).mono ?_
      rintro e w3 ⟨rfl, hv3⟩
      rw [HC.out]
      have HV3 := hide (show VAt w1.heap.size w1.heap.size (DN (k + 1)) w1 w3 from hv3)
      clear hv3
      by_cases h5 : k < 500
      · rw [if_pos h5]
        go_wp2_with fail
        refine (num6_any 0 _).mono ?_
        rintro e w4 ⟨rfl, rfl⟩
        go_wp2
        go_roundw
        case rel => exact ⟨k + 1, by go_num, by omega, HV3.out⟩
        case measure => simp [intOf]; omega
      · rw [if_neg h5]
        go_wp2_with fail
        refine (num6_any 3 _).mono ?_
        rintro e w4 ⟨rfl, rfl⟩
        go_wp2
        go_roundw
        case rel => exact ⟨k + 1, by go_num, by omega, HV3.out⟩
        case measure => simp [intOf]; omega
    · obtain rfl : k = n := by omega
      obtain ⟨m, hm, hm1, hm2⟩ : ∃ m, DN k = DN m ∧ 495 ≤ m ∧ m ≤ 500 := ⟨min k 500, (DN_min (by omega)).1, by omega, by omega⟩
      have HV2 := hide (hm ▸ HV.out)
      obtain ⟨q1, q2, q3, q4, q5⟩ := many_end m sz hm1 hm2
      have Q1 := hide q1
      have Q2 := hide q2
      have Q3 := hide q3
      have Q4 := hide q4
      have Q5 := hide q5
      clear q1 q2 q3 q4 q5 hm HV
      go_wp2_with fail
      refine (some6_any sz wr (by omega)).mono ?_
      rintro e w3 ⟨rfl, hrow, hb3⟩
      have hcv := conv_bytes (W := w3) (g := wr.heap.size) (n := sz) (cap := sz) (f := fun _ => 120) (fun i hi => hrow.cell hi)
      rw [show ds ((List.range sz).map fun _ => 120) = xsT sz from rfl] at hcv
      have HV3 := hide (HV2.out.step hb3 HV2.out.below.size)
      clear hrow hb3 HV2
      go_wp2_with fail
      refine (vset_at HV3.out (Nat.le_refl _) (Nat.le_refl _) ⟨#[97, 48]⟩ (xsT sz) (by decide) (by rw [xsT_size]; omega) Q2.out).mono ?_
      rintro e w4 ⟨rfl, hv4⟩
      have HV4 := hide hv4
      clear hv4 HV3 hcv
      by_cases h4 : 4096 < sz
      · have hd : decide ((sz : Int) ≤ 4096) = false := by simp only [decide_eq_false_iff_not]; omega
        rw [Q1.out, if_pos h4]
        go_wp2_with fail
        refine (vunset_at HV4.out (Nat.le_refl _) (Nat.le_refl _) ⟨#[97, 49]⟩ (by decide)).mono ?_
        rintro e w5 ⟨rfl, hv5⟩
        have HV5 := hide hv5
        clear hv5 HV4
        go_wp2_with fail
        refine (vset_at HV5.out (Nat.le_refl _) (Nat.le_refl _) ⟨#[98]⟩ ⟨#[]⟩ (by decide) (by decide) Q4.out).mono ?_
        rintro e w6 ⟨rfl, hv6⟩
        rw [Q5.out]
        have HB6 := hide (below_up HB1.out hv6.below HB1.out.size)
        clear hv6 HV5 Q1 Q2 Q3 Q4 Q5
        go_wp2_with fail
        refine (num6_any 3 _).mono ?_
        rintro e w7 ⟨rfl, rfl⟩
        go_wp2_with fail
        refine (num6_any 0 _).mono ?_
        rintro e w7 ⟨rfl, rfl⟩
        go_wp2
        go_ret
        exact ⟨rfl, HB6.out⟩
      · have hd : decide ((sz : Int) ≤ 4096) = true := by simp only [decide_eq_true_eq]; omega
        rw [Q1.out, if_neg h4]
        go_wp2_with fail
        refine (vunset_at HV4.out (Nat.le_refl _) (Nat.le_refl _) ⟨#[97, 49]⟩ (by decide)).mono ?_
        rintro e w5 ⟨rfl, hv5⟩
        have HV5 := hide hv5
        clear hv5 HV4
        go_wp2_with fail
        refine (vset_at HV5.out (Nat.le_refl _) (Nat.le_refl _) ⟨#[98]⟩ ⟨#[]⟩ (by decide) (by decide) Q4.out).mono ?_
        rintro e w6 ⟨rfl, hv6⟩
        rw [Q5.out]
        have HB6 := hide (below_up HB1.out hv6.below HB1.out.size)
        clear hv6 HV5 Q1 Q2 Q3 Q4 Q5
        go_wp2_with fail
        refine (num6_any 0 _).mono ?_
        rintro e w7 ⟨rfl, rfl⟩
        go_wp2_with fail
        refine (num6_any 0 _).mono ?_
        rintro e w7 ⟨rfl, rfl⟩
        go_wp2
        go_ret
        exact ⟨rfl, HB6.out⟩
end Go.Proofs.Ythlboecjlelemaa
