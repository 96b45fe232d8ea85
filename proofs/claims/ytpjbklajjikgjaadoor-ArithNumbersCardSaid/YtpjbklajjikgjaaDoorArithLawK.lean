/- The law ArithNumbers: a number as Go prints it; the walk. -/
import Derived.Test.YtpjbklajjikgjaaDoorArithMathL
import Derived.Test.YtpjbklajjikgjaaDoorArithLawH
import Derived.Test.YtpjbklajjikgjaaDoorArithRefJ
namespace Go.Proofs.YtpjbklajjikgjaaDoor
open Go.RowKit Go.Deep Qm.Base

set_option maxRecDepth 100000 in
set_option maxHeartbeats 1000000 in
theorem rint_any (a : Int) (w : World) (h : -9223372036854775808 ≤ a ∧ a ≤ 9223372036854775807) :
    Calls Tryd.prog 17 #[.int .i64 a] w fun e w' => e = .returned (.string (bs (intB a))) ∧ w = w' := by
  obtain ⟨h1, h2⟩ := h
  by_cases c1 : a = -9223372036854775808
  · subst c1
    have HI := hide (show bs (intB (-9223372036854775808)) = ⟨#[45, 57, 50, 50, 51, 51, 55, 50, 48, 51, 54, 56, 53, 52, 55, 55, 53, 56, 48, 56]⟩ from rfl)
    rw [HI.out]
    clear h1 h2
    go_enter Tryd.func17, Tryd.ntmps17
    go_wp2
    go_ret
    exact ⟨rfl, rfl⟩
  · have t1 : (a == -9223372036854775808) = false := by simpa using c1
    have t2 : decide (a = -9223372036854775808) = false := by simpa using c1
    by_cases c2 : a < 0
    · obtain ⟨n, rfl⟩ : ∃ n : Nat, a = -(n : Int) := ⟨a.natAbs, by omega⟩
      have hn : n ≤ 9223372036854775807 := by omega
      have hd20 : (ds (dgL n)).size ≤ 20 := by rw [ds_bs, bs_size]; have := dB_len n hn; omega
      have HI := hide (show (⟨#[45]⟩ : ByteArray) ++ ds (dgL n) = bs (intB (-(n : Int))) by
        unfold intB
        rw [if_neg c1, if_pos c2, show (-(-(n : Int))).toNat = n from by omega, ds_bs, show (⟨#[45]⟩ : ByteArray) = bs [45] from rfl, bs_app]; rfl)
      have hneg : -(-(n : Int)) = (n : Int) := by omega
      have hw : wrap64 (-(-(n : Int))) = (n : Int) := by unfold wrap64; omega
      have HD := hide (fun w => digits_big n w hn)
      generalize bs (intB (-(n : Int))) = R at *
      generalize ds (dgL n) = Y at *
      clear c1
      go_enter Tryd.func17, Tryd.ntmps17
      go_wp2_with fail
      refine (HD.out w).mono ?_
      rintro e w' ⟨rfl, rfl⟩
      go_wp2
      go_ret
      exact ⟨by rw [HI.out]; rfl, rfl⟩
    · obtain ⟨n, rfl⟩ := Int.eq_ofNat_of_zero_le (show 0 ≤ a by omega)
      have hn : n ≤ 9223372036854775807 := by omega
      have HI := hide (show ds (dgL n) = bs (intB (n : Int)) by
        unfold intB
        rw [if_neg c1, if_neg c2, show ((n : Int)).toNat = n from by omega, ds_bs])
      have HD := hide (fun w => digits_big n w hn)
      generalize bs (intB (n : Int)) = R at *
      generalize ds (dgL n) = Y at *
      clear c1
      go_enter Tryd.func17, Tryd.ntmps17
      go_wp2_with fail
      refine (HD.out w).mono ?_
      rintro e w' ⟨rfl, rfl⟩
      go_wp2
      go_ret
      exact ⟨by rw [HI.out]; rfl, rfl⟩
/-- blanks, or none, as a text -/
def blS (q : Bool) : ByteArray := bs (blG q)
theorem num_text1 (X Y P G : ByteArray) {A B O g : List UInt8} (hX : X = bs A) (hY : Y = bs B) (hP : P = bs O) (hG : G = bs g) :
    (⟨#[40]⟩ : ByteArray) ++ X ++ ⟨#[41]⟩ ++ G ++ P ++ G ++ ⟨#[40]⟩ ++ Y ++ ⟨#[41]⟩ = bs (40 :: A ++ [41] ++ (g ++ (O ++ (g ++ (40 :: B ++ [41]))))) := by
  subst hX hY hP hG
  rw [show (⟨#[40]⟩ : ByteArray) = bs [40] from rfl, show (⟨#[41]⟩ : ByteArray) = bs [41] from rfl]
  simp only [bs_app]
  congr 1
  simp
theorem num_text2 (P G : ByteArray) {O g : List UInt8} (hP : P = bs O) (hG : G = bs g) :
    (⟨#[120]⟩ : ByteArray) ++ G ++ P ++ G ++ ⟨#[121]⟩ = bs ([120] ++ (g ++ (O ++ (g ++ [121])))) := by
  subst hP hG
  rw [show (⟨#[120]⟩ : ByteArray) = bs [120] from rfl, show (⟨#[121]⟩ : ByteArray) = bs [121] from rfl]
  simp only [bs_app]
  congr 1
  simp
theorem numV_cases (i : Nat) (a b : Int) : (((i = 16 ∨ i = 17) ∧ b = 0) ∧ numV i a b = (0, 15)) ∨ (¬ ((i = 16 ∨ i = 17) ∧ b = 0) ∧ ∃ v, numV i a b = (v, 0)) := by
  unfold numV
  by_cases h : (i = 16 ∨ i = 17) ∧ b = 0
  · exact .inl ⟨h, if_pos h⟩
  · exact .inr ⟨h, _, if_neg h⟩
set_option maxRecDepth 100000 in
set_option maxHeartbeats 4000000 in
theorem numbers_main (a b : Int) (i : Nat) (q : Bool) (ha : -9223372036854775808 ≤ a ∧ a ≤ 9223372036854775807) (hb : -9223372036854775808 ≤ b ∧ b ≤ 9223372036854775807) (hi : i < 18) (w : World) :
    Calls Tryd.prog 4 #[.int .i64 a, .int .i64 b, .int .i64 i, .bool q] w fun e w' => e = .returned (.bool true) ∧ Below w.heap.size w w' := by
  have HIA := hide (fun w => rint_any a w ha)
  have HIB := hide (fun w => rint_any b w hb)
  have HQA := hide (fun w => (rint_any a w ha).mono fun _ _ ⟨h1, h2⟩ => (⟨h1, h2.symm⟩ : _ ∧ _ = w))
  have HQB := hide (fun w => (rint_any b w hb).mono fun _ _ ⟨h1, h2⟩ => (⟨h1, h2.symm⟩ : _ ∧ _ = w))
  have fA := intB_form a ha
  have fB := intB_form b hb
  have hsa : (bs (intB a)).size ≤ 20 := by rw [bs_size]; exact fA.len
  have hsb : (bs (intB b)).size ≤ 20 := by rw [bs_size]; exact fB.len
  have hsp : (bs (Ar.opT i)).size ≤ 2 := by rw [bs_size]; exact opT_len i
  have hsg : (bs (blG q)).size ≤ 3 := by rw [bs_size]; cases q <;> decide
  have HV1 := hide ((num_text1 (bs (intB a)) (bs (intB b)) (bs (Ar.opT i)) (bs (blG q)) rfl rfl rfl rfl) ▸ num_par [] (intB a) (intB b) a b fA fB i hi q (opT_len i))
  have HV2 := hide ((num_text2 (bs (Ar.opT i)) (bs (blG q)) rfl rfl) ▸ num_names (intB a) (intB b) a b fA fB i hi q (opT_len i))
  have HE1 := hide (fun w => eval_any (⟨#[40]⟩ ++ bs (intB a) ++ ⟨#[41]⟩ ++ bs (blG q) ++ bs (Ar.opT i) ++ bs (blG q) ++ ⟨#[40]⟩ ++ bs (intB b) ++ ⟨#[41]⟩) none [] 0 w (PR.nil _ _) (by simp only [ByteArray.size_append]; show 1 + _ + 1 + _ + _ + _ + 1 + _ + 1 ≤ _; unfold maxLen; omega) (by decide) (fun x hx => by simp at hx))
  have HE2 := hide (fun w => reval_any (⟨#[40]⟩ ++ bs (intB a) ++ ⟨#[41]⟩ ++ bs (blG q) ++ bs (Ar.opT i) ++ bs (blG q) ++ ⟨#[40]⟩ ++ bs (intB b) ++ ⟨#[41]⟩) none [] 0 w (PR.nil _ _) (by simp only [ByteArray.size_append]; show 1 + _ + 1 + _ + _ + _ + 1 + _ + 1 ≤ _; unfold maxLen; omega) (by decide) (fun x hx => by simp at hx))
  have HE3 := hide (fun (w : World) (g : Nat) (h : PR w (some ⟨g, 0, none⟩) [(⟨#[120]⟩, bs (intB a)), (⟨#[121]⟩, bs (intB b))]) => eval_any (⟨#[120]⟩ ++ bs (blG q) ++ bs (Ar.opT i) ++ bs (blG q) ++ ⟨#[121]⟩) (some ⟨g, 0, none⟩) [(⟨#[120]⟩, bs (intB a)), (⟨#[121]⟩, bs (intB b))] 2 w h (by simp only [ByteArray.size_append]; show 1 + _ + _ + _ + 1 ≤ _; unfold maxLen; omega) (by simp only [List.length_cons, List.length_nil]; unfold maxLen; omega) (by
    intro x hx
    simp only [List.mem_cons, List.not_mem_nil, or_false] at hx
    rcases hx with rfl | rfl
    · show (bs (intB a)).size ≤ maxLen; unfold maxLen; omega
    · show (bs (intB b)).size ≤ maxLen; unfold maxLen; omega))
  have HQ := hide (show bs (blG q) = if q = true then ⟨#[32, 9, 10]⟩ else ⟨#[]⟩ by cases q <;> rfl)
  have HPN := hide (show (i = 16 → bs (Ar.opT i) = ⟨#[47]⟩) ∧ (i = 17 → bs (Ar.opT i) = ⟨#[37]⟩) ∧ (¬ i = 16 → bs (Ar.opT i) ≠ ⟨#[47]⟩) ∧ (¬ i = 17 → bs (Ar.opT i) ≠ ⟨#[37]⟩) by
    have hc : i = 0 ∨ i = 1 ∨ i = 2 ∨ i = 3 ∨ i = 4 ∨ i = 5 ∨ i = 6 ∨ i = 7 ∨ i = 8 ∨ i = 9 ∨ i = 10 ∨ i = 11 ∨ i = 12 ∨ i = 13 ∨ i = 14 ∨ i = 15 ∨ i = 16 ∨ i = 17 := by omega
    rcases hc with rfl | rfl | rfl | rfl | rfl | rfl | rfl | rfl | rfl | rfl | rfl | rfl | rfl | rfl | rfl | rfl | rfl | rfl <;> decide)
  have HNV := hide (numV_cases i a b)
  clear fA fB ha hb
  generalize numV i a b = r at *
  generalize bs (intB a) = X at *
  generalize bs (intB b) = Y at *
  obtain ⟨P, hP⟩ : ∃ P, bs (Ar.opT i) = P := ⟨_, rfl⟩
  rw [hP] at HV1 HV2 HE1 HE2 HE3 HPN hsp
  have HP := hide hP
  clear hP
  obtain ⟨G, hG⟩ : ∃ G, bs (blG q) = G := ⟨_, rfl⟩
  rw [hG] at HV1 HV2 HE1 HE2 HE3 HQ hsg
  clear hG
  have hi0 : (0 : Int) ≤ (i : Int) := by omega
  have hi1 : (i : Int) < 18 := by omega
  go_enter Tryd.func4, Tryd.ntmps4
  go_wp2_with fail
  refine (alive7_any w).mono ?_
  rintro e w1 ⟨rfl, hb1⟩
  have HB1 := hide hb1
  clear hb1
  go_wp2_with fail
  refine (ops_any w1).mono ?_
  rintro e w2 ⟨g, rfl, hg, hcs, hgl, hb2⟩
  have HB2 := hide (below_up HB1.out hb2 HB1.out.size)
  have hcp : w2.cell? ⟨g, i, none⟩ = some (.string P) := by have := hcs i hi; rwa [HP.out] at this
  have HCP := hide hcp
  clear hb2 hcs HP
  cases q with
  | false =>
    have hG : (⟨#[]⟩ : ByteArray) = G := by rw [HQ.out]; rfl
    go_wp2_with fail
    rw [hG]
    clear hG
    clear HQ
    go_quiet ((first | (go_at_call 17; with_reducible exact Calls.quiet_of_same (HQA.out _)) | (go_at_call 17; with_reducible exact Calls.quiet_of_same (HQB.out _))))
    go_wp2_with fail
    refine (HE1.out _).mono ?_
    rintro e w3 ⟨rfl, hb3⟩
    rw [HV1.out]
    have HB3 := hide (below_up (below_drewN HB2.out _) hb3 (below_drewN HB2.out _).size)
    have hcp3 := (hb3.cell (p := ⟨g, i, none⟩) (by simp; omega)).trans (show _ = some (.string P) by simp; exact HCP.out)
    have hgl3 : g < w3.heap.size := by have := hb3.size; simp at this; omega
    have HCP3 := hide hcp3
    clear hb3 hcp hcp3 HCP HB2
    go_wp2_with fail
    refine (HE2.out _).mono ?_
    rintro e w4 ⟨rfl, hb4⟩
    rw [HV1.out]
    have HB4 := hide (below_up HB3.out hb4 HB3.out.size)
    have hcp := (hb4.cell (p := ⟨g, i, none⟩) hgl3).trans HCP3.out
    have hgl4 : g < w4.heap.size := by have := hb4.size; omega
    have HCP := hide hcp
    clear hb4 HCP3 HB3
    have z1 : ¬ 9223372036854775807 < 1 + G.size := by omega
    have z2 : ¬ 9223372036854775807 < 1 + G.size + P.size := by omega
    have z3 : ¬ 9223372036854775807 < 1 + G.size + P.size + G.size := by omega
    have z4 : ¬ 9223372036854775807 < 1 + G.size + P.size + G.size + 1 := by omega
    go_wp2_with fail
    go_region_held3 (fun w' => w'.cell? ⟨g, i, none⟩ = some (.string P))
      (first | exact hcp | exact u1 | exact (World.cell?_alloc_old _ _ _ (Nat.ne_of_lt hgl4)).trans hcp)
      (first
        | ((go_at_call 17; with_reducible refine (HIA.out _).mono ?_; rintro e w' ⟨rfl, rfl⟩))
        | ((go_at_call 17; with_reducible refine (HIB.out _).mono ?_; rintro e w' ⟨rfl, rfl⟩))
        | ((go_at_call 13; refine (HE3.out _ _ ?_).mono ?_; exact PR.new2 _ _ _ _ _ _; rintro e w5 ⟨rfl, hb5⟩; have u1 := (hb5.cell (p := ⟨g, i, none⟩) (by simp; omega)).trans ((World.cell?_alloc_old _ _ _ (Nat.ne_of_lt hgl4)).trans hcp); have HB5 := hide hb5; clear hb5)))
    rename_i hHeld
    clear hHeld z1 z2 z3 z4
    rw [HV2.out]
    have HB6 := hide (below_up (HB4.out.alloc HB4.out.size _).drew HB5.out (HB4.out.alloc HB4.out.size _).drew.size)
    clear HB5 hcp
    obtain ⟨p1, p2, p3, p4⟩ := HPN.out
    rcases HNV.out with ⟨⟨h16, rfl⟩, rfl⟩ | ⟨hn, v, rfl⟩
    · rcases h16 with h | h
      · have hP := p1 h
        clear p1 p2 p3 p4 HPN h
        subst hP
        go_wp2_with fail
        repeat (refine (num7_any _ _).mono ?_; rintro e w6 ⟨rfl, rfl⟩; go_wp2_with fail)
        go_ret
        exact ⟨rfl, HB6.out⟩
      · have hP := p2 h
        clear p1 p2 p3 p4 HPN h
        subst hP
        go_wp2_with fail
        repeat (refine (num7_any _ _).mono ?_; rintro e w6 ⟨rfl, rfl⟩; go_wp2_with fail)
        go_ret
        exact ⟨rfl, HB6.out⟩
    · by_cases h16 : i = 16
      · have hP := p1 h16
        have hb0 : ¬ b = 0 := fun hc => hn ⟨.inl h16, hc⟩
        have hb1 : (b == 0) = false := by simpa using hb0
        clear p1 p2 p3 p4 HPN h16 hn
        subst hP
        go_wp2_with fail
        repeat (refine (num7_any _ _).mono ?_; rintro e w6 ⟨rfl, rfl⟩; go_wp2_with fail)
        go_ret
        exact ⟨rfl, HB6.out⟩
      · by_cases h17 : i = 17
        · have hP := p2 h17
          have hb0 : ¬ b = 0 := fun hc => hn ⟨.inr h17, hc⟩
          have hb1 : (b == 0) = false := by simpa using hb0
          clear p1 p2 p3 p4 HPN h16 hn h17
          subst hP
          go_wp2_with fail
          repeat (refine (num7_any _ _).mono ?_; rintro e w6 ⟨rfl, rfl⟩; go_wp2_with fail)
          go_ret
          exact ⟨rfl, HB6.out⟩
        · have hP1 := p3 h16
          have hP2 := p4 h17
          have hP3 : ¬ P.toList = [47] := fun hc => hP1 (by
            rw [ByteArray.toList_eq] at hc
            exact ByteArray.ext (Array.ext' hc))
          have hP4 : ¬ P.toList = [37] := fun hc => hP2 (by
            rw [ByteArray.toList_eq] at hc
            exact ByteArray.ext (Array.ext' hc))
          clear p1 p2 p3 p4 HPN h16 hn h17
          go_wp2_with fail
          repeat (refine (num7_any _ _).mono ?_; rintro e w6 ⟨rfl, rfl⟩; go_wp2_with fail)
          go_ret
          exact ⟨rfl, HB6.out⟩
  | true =>
    have hG : (⟨#[32, 9, 10]⟩ : ByteArray) = G := by rw [HQ.out]; rfl
    go_wp2_with fail
    rw [hG]
    clear hG
    clear HQ
    go_quiet ((first | (go_at_call 17; with_reducible exact Calls.quiet_of_same (HQA.out _)) | (go_at_call 17; with_reducible exact Calls.quiet_of_same (HQB.out _))))
    go_wp2_with fail
    refine (HE1.out _).mono ?_
    rintro e w3 ⟨rfl, hb3⟩
    rw [HV1.out]
    have HB3 := hide (below_up (below_drewN HB2.out _) hb3 (below_drewN HB2.out _).size)
    have hcp3 := (hb3.cell (p := ⟨g, i, none⟩) (by simp; omega)).trans (show _ = some (.string P) by simp; exact HCP.out)
    have hgl3 : g < w3.heap.size := by have := hb3.size; simp at this; omega
    have HCP3 := hide hcp3
    clear hb3 hcp hcp3 HCP HB2
    go_wp2_with fail
    refine (HE2.out _).mono ?_
    rintro e w4 ⟨rfl, hb4⟩
    rw [HV1.out]
    have HB4 := hide (below_up HB3.out hb4 HB3.out.size)
    have hcp := (hb4.cell (p := ⟨g, i, none⟩) hgl3).trans HCP3.out
    have hgl4 : g < w4.heap.size := by have := hb4.size; omega
    have HCP := hide hcp
    clear hb4 HCP3 HB3
    have z1 : ¬ 9223372036854775807 < 1 + G.size := by omega
    have z2 : ¬ 9223372036854775807 < 1 + G.size + P.size := by omega
    have z3 : ¬ 9223372036854775807 < 1 + G.size + P.size + G.size := by omega
    have z4 : ¬ 9223372036854775807 < 1 + G.size + P.size + G.size + 1 := by omega
    go_wp2_with fail
    go_region_held3 (fun w' => w'.cell? ⟨g, i, none⟩ = some (.string P))
      (first | exact hcp | exact u1 | exact (World.cell?_alloc_old _ _ _ (Nat.ne_of_lt hgl4)).trans hcp)
      (first
        | ((go_at_call 17; with_reducible refine (HIA.out _).mono ?_; rintro e w' ⟨rfl, rfl⟩))
        | ((go_at_call 17; with_reducible refine (HIB.out _).mono ?_; rintro e w' ⟨rfl, rfl⟩))
        | ((go_at_call 13; refine (HE3.out _ _ ?_).mono ?_; exact PR.new2 _ _ _ _ _ _; rintro e w5 ⟨rfl, hb5⟩; have u1 := (hb5.cell (p := ⟨g, i, none⟩) (by simp; omega)).trans ((World.cell?_alloc_old _ _ _ (Nat.ne_of_lt hgl4)).trans hcp); have HB5 := hide hb5; clear hb5)))
    rename_i hHeld
    clear hHeld z1 z2 z3 z4
    rw [HV2.out]
    have HB6 := hide (below_up (HB4.out.alloc HB4.out.size _).drew HB5.out (HB4.out.alloc HB4.out.size _).drew.size)
    clear HB5 hcp
    obtain ⟨p1, p2, p3, p4⟩ := HPN.out
    rcases HNV.out with ⟨⟨h16, rfl⟩, rfl⟩ | ⟨hn, v, rfl⟩
    · rcases h16 with h | h
      · have hP := p1 h
        clear p1 p2 p3 p4 HPN h
        subst hP
        go_wp2_with fail
        repeat (refine (num7_any _ _).mono ?_; rintro e w6 ⟨rfl, rfl⟩; go_wp2_with fail)
        go_ret
        exact ⟨rfl, HB6.out⟩
      · have hP := p2 h
        clear p1 p2 p3 p4 HPN h
        subst hP
        go_wp2_with fail
        repeat (refine (num7_any _ _).mono ?_; rintro e w6 ⟨rfl, rfl⟩; go_wp2_with fail)
        go_ret
        exact ⟨rfl, HB6.out⟩
    · by_cases h16 : i = 16
      · have hP := p1 h16
        have hb0 : ¬ b = 0 := fun hc => hn ⟨.inl h16, hc⟩
        have hb1 : (b == 0) = false := by simpa using hb0
        clear p1 p2 p3 p4 HPN h16 hn
        subst hP
        go_wp2_with fail
        repeat (refine (num7_any _ _).mono ?_; rintro e w6 ⟨rfl, rfl⟩; go_wp2_with fail)
        go_ret
        exact ⟨rfl, HB6.out⟩
      · by_cases h17 : i = 17
        · have hP := p2 h17
          have hb0 : ¬ b = 0 := fun hc => hn ⟨.inr h17, hc⟩
          have hb1 : (b == 0) = false := by simpa using hb0
          clear p1 p2 p3 p4 HPN h16 hn h17
          subst hP
          go_wp2_with fail
          repeat (refine (num7_any _ _).mono ?_; rintro e w6 ⟨rfl, rfl⟩; go_wp2_with fail)
          go_ret
          exact ⟨rfl, HB6.out⟩
        · have hP1 := p3 h16
          have hP2 := p4 h17
          have hP3 : ¬ P.toList = [47] := fun hc => hP1 (by
            rw [ByteArray.toList_eq] at hc
            exact ByteArray.ext (Array.ext' hc))
          have hP4 : ¬ P.toList = [37] := fun hc => hP2 (by
            rw [ByteArray.toList_eq] at hc
            exact ByteArray.ext (Array.ext' hc))
          clear p1 p2 p3 p4 HPN h16 hn h17
          go_wp2_with fail
          repeat (refine (num7_any _ _).mono ?_; rintro e w6 ⟨rfl, rfl⟩; go_wp2_with fail)
          go_ret
          exact ⟨rfl, HB6.out⟩
set_option maxRecDepth 100000 in
set_option maxHeartbeats 4000000 in
theorem law_arithNumbers (a b op : Int) (q : Bool) (_w0 : (Lit.int .i64 a).wf = true) (_w1 : (Lit.int .i64 b).wf = true) (_w2 : (Lit.int .i64 op).wf = true) (w : World) :
    Calls Tryd.prog 4 #[.int .i64 a, .int .i64 b, .int .i64 op, .bool q] w fun e w' => e = .returned (.bool true) ∧ Below w.heap.size w w' := by
  have ha := i64_le _w0
  have hb := i64_le _w1
  clear _w0 _w1 _w2
  by_cases c0 : op < 0
  · clear ha hb
    go_enter Tryd.func4, Tryd.ntmps4
    go_wp2_with fail
    refine (alive7_any w).mono ?_
    rintro e w1 ⟨rfl, hb1⟩
    have HB1 := hide hb1
    clear hb1
    go_wp2_with fail
    refine (ops_any w1).mono ?_
    rintro e w2 ⟨g, rfl, hg, hcs, hgl, hb2⟩
    have HB2 := hide (below_up HB1.out hb2 HB1.out.size)
    clear hb2 hcs
    go_wp2
    go_ret
    exact ⟨rfl, HB2.out⟩
  by_cases c1 : 18 ≤ op
  · clear ha hb
    go_enter Tryd.func4, Tryd.ntmps4
    go_wp2_with fail
    refine (alive7_any w).mono ?_
    rintro e w1 ⟨rfl, hb1⟩
    have HB1 := hide hb1
    clear hb1
    go_wp2_with fail
    refine (ops_any w1).mono ?_
    rintro e w2 ⟨g, rfl, hg, hcs, hgl, hb2⟩
    have HB2 := hide (below_up HB1.out hb2 HB1.out.size)
    clear hb2 hcs
    go_wp2
    go_ret
    exact ⟨rfl, HB2.out⟩
  obtain ⟨i, rfl⟩ := Int.eq_ofNat_of_zero_le (show 0 ≤ op by omega)
  exact numbers_main a b i q ha hb (by omega) w
end Go.Proofs.YtpjbklajjikgjaaDoor
