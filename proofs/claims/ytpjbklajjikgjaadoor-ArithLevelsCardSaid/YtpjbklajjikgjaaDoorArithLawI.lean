/- The law ArithLevels: the walk. -/
import Derived.Test.YtpjbklajjikgjaaDoorArithLawH
namespace Go.Proofs.YtpjbklajjikgjaaDoor
open Go.RowKit Go.Deep Qm.Base

/-- the levels as the law lists them -/
def LEVS : Array Value := #[.int .i64 1, .int .i64 2, .int .i64 3, .int .i64 4, .int .i64 5, .int .i64 6, .int .i64 6, .int .i64 7, .int .i64 7, .int .i64 7, .int .i64 7, .int .i64 8, .int .i64 8, .int .i64 9, .int .i64 9, .int .i64 10, .int .i64 10, .int .i64 10]
theorem LEVS_at {i : Nat} (h : i < 18) : LEVS[i]? = some (.int .i64 (Ar.lev (Ar.opN i) : Nat)) := by
  have hc : i = 0 ∨ i = 1 ∨ i = 2 ∨ i = 3 ∨ i = 4 ∨ i = 5 ∨ i = 6 ∨ i = 7 ∨ i = 8 ∨ i = 9 ∨ i = 10 ∨ i = 11 ∨ i = 12 ∨ i = 13 ∨ i = 14 ∨ i = 15 ∨ i = 16 ∨ i = 17 := by omega
  rcases hc with rfl | rfl | rfl | rfl | rfl | rfl | rfl | rfl | rfl | rfl | rfl | rfl | rfl | rfl | rfl | rfl | rfl | rfl <;> rfl
set_option maxRecDepth 100000 in
set_option maxHeartbeats 4000000 in
theorem levels_main (a b c p q : Nat) (ha : a ≤ 9223372036854775807) (hb : b ≤ 9223372036854775807) (hc : c ≤ 9223372036854775807) (hp : p < 18) (hq : q < 18) (w : World) :
    Calls Tryd.prog 5 #[.int .i64 a, .int .i64 b, .int .i64 c, .int .i64 p, .int .i64 q] w fun e w' => e = .returned (.bool true) ∧ Below w.heap.size w w' := by
  have HL := hide (levels_left a b c p q ha hb hc hp hq)
  have HR := hide (levels_right a b c p q ha hb hc hp hq)
  have HDA := hide (fun w => digits_big a w ha)
  have HDB := hide (fun w => digits_big b w hb)
  have HDC := hide (fun w => digits_big c w hc)
  have hsa : (ds (dgL a)).size ≤ 20 := by rw [ds_bs, bs_size]; have := dB_len a ha; omega
  have hsb : (ds (dgL b)).size ≤ 20 := by rw [ds_bs, bs_size]; have := dB_len b hb; omega
  have hsc : (ds (dgL c)).size ≤ 20 := by rw [ds_bs, bs_size]; have := dB_len c hc; omega
  have hsp : (bs (Ar.opT p)).size ≤ 2 := by rw [bs_size]; exact opT_len p
  have hsq : (bs (Ar.opT q)).size ≤ 2 := by rw [bs_size]; exact opT_len q
  have HE0 := hide (fun w => eval_any (ds (dgL a) ++ bs (Ar.opT p) ++ ds (dgL b) ++ bs (Ar.opT q) ++ ds (dgL c)) none [] 0 w (PR.nil _ _) (by simp only [ByteArray.size_append]; unfold maxLen; omega) (by decide) (fun x hx => by simp at hx))
  have HE1 := hide (fun w => eval_any (⟨#[40]⟩ ++ ds (dgL a) ++ bs (Ar.opT p) ++ ds (dgL b) ++ ⟨#[41]⟩ ++ bs (Ar.opT q) ++ ds (dgL c)) none [] 0 w (PR.nil _ _) (by simp only [ByteArray.size_append]; show 1 + _ + _ + _ + 1 + _ + _ ≤ _; unfold maxLen; omega) (by decide) (fun x hx => by simp at hx))
  have HE2 := hide (fun w => eval_any (ds (dgL a) ++ bs (Ar.opT p) ++ ⟨#[40]⟩ ++ ds (dgL b) ++ bs (Ar.opT q) ++ ds (dgL c) ++ ⟨#[41]⟩) none [] 0 w (PR.nil _ _) (by simp only [ByteArray.size_append]; show _ + _ + 1 + _ + _ + _ + 1 ≤ _; unfold maxLen; omega) (by decide) (fun x hx => by simp at hx))
  generalize evalF [] (ds (dgL a) ++ bs (Ar.opT p) ++ ds (dgL b) ++ bs (Ar.opT q) ++ ds (dgL c)) = r0 at *
  generalize ds (dgL a) = X at *
  generalize ds (dgL b) = Y at *
  generalize ds (dgL c) = Z at *
  obtain ⟨P, hP⟩ : ∃ P, bs (Ar.opT p) = P := ⟨_, rfl⟩
  obtain ⟨Q, hQ⟩ : ∃ Q, bs (Ar.opT q) = Q := ⟨_, rfl⟩
  rw [hP] at HL HR hsp HE0 HE1 HE2
  rw [hQ] at HL HR hsq HE0 HE1 HE2
  have HP := hide hP
  have HQ := hide hQ
  clear hP hQ ha hb hc
  have hp1 : (p : Int) < 18 := by omega
  have hq1 : (q : Int) < 18 := by omega
  have hp0 : (0 : Int) ≤ (p : Int) := by omega
  have hq0 : (0 : Int) ≤ (q : Int) := by omega
  go_enter Tryd.func5, Tryd.ntmps5
  go_wp2_with fail
  refine (alive7_any w).mono ?_
  rintro e w1 ⟨rfl, hb1⟩
  have HB1 := hide hb1
  clear hb1
  go_wp2_with fail
  refine (ops_any w1).mono ?_
  rintro e w2 ⟨g, rfl, hg, hcs, hgl, hb2⟩
  have HB2 := hide (below_up HB1.out hb2 HB1.out.size)
  have hcp : w2.cell? ⟨g, p, none⟩ = some (.string P) := by have := hcs p hp; rwa [HP.out] at this
  have hcq : w2.cell? ⟨g, q, none⟩ = some (.string Q) := by have := hcs q hq; rwa [HQ.out] at this
  clear hb2 hcs HP HQ
  have HCP := hide hcp
  have HCQ := hide hcq
  clear hcp hcq
  go_wp2_with fail
  have HCP1 := hide ((World.cell?_alloc_old w2 (.cells LEVS 3) ⟨g, p, none⟩ (Nat.ne_of_lt hgl)).trans HCP.out)
  have HCQ1 := hide ((World.cell?_alloc_old w2 (.cells LEVS 3) ⟨g, q, none⟩ (Nat.ne_of_lt hgl)).trans HCQ.out)
  have hcp := HCP1.out
  have hcq := HCQ1.out
  have hlp : (w2.alloc (.cells LEVS 3)).cell? ⟨w2.heap.size, p, none⟩ = some (.int .i64 (Ar.lev (Ar.opN p) : Nat)) := by rw [World.cell?_alloc_at _ _ _ _ rfl]; exact LEVS_at hp
  have hlq : (w2.alloc (.cells LEVS 3)).cell? ⟨w2.heap.size, q, none⟩ = some (.int .i64 (Ar.lev (Ar.opN q) : Nat)) := by rw [World.cell?_alloc_at _ _ _ _ rfl]; exact LEVS_at hq
  have HLP := hide hlp
  have HLQ := hide hlq
  have HB3 := hide (HB2.out.alloc HB2.out.size (.cells LEVS 3))
  have hgl3 : g < (w2.alloc (.cells LEVS 3)).heap.size := by simp; omega
  have hg3 : w2.heap.size < (w2.alloc (.cells LEVS 3)).heap.size := by simp
  clear hlp hlq HCP HCQ HCP1 HCQ1 HB2
  obtain ⟨w3, hw3⟩ : ∃ w3, w2.alloc (.cells LEVS 3) = w3 := ⟨_, rfl⟩
  rw [hw3] at hcp hcq HLP HLQ HB3 hgl3 hg3
  unfold LEVS at hw3
  rw [hw3]
  clear hw3
  generalize w2.heap.size = g2 at *
  refine (HDA.out _).mono ?_
  rintro e w3' ⟨rfl, rfl⟩
  go_wp2_with fail
  refine (HDB.out _).mono ?_
  rintro e w3' ⟨rfl, rfl⟩
  go_wp2_with fail
  refine (HDC.out _).mono ?_
  rintro e w3' ⟨rfl, rfl⟩
  have HCP := hide hcp
  have HCQ := hide hcq
  go_wp2_with fail
  have z1 : ¬ 9223372036854775807 < X.size + P.size := by omega
  have z2 : ¬ 9223372036854775807 < X.size + P.size + Y.size := by omega
  have z3 : ¬ 9223372036854775807 < X.size + P.size + Y.size + Q.size := by omega
  have z4 : ¬ 9223372036854775807 < X.size + P.size + Y.size + Q.size + Z.size := by omega
  go_region_held3 (fun w' => w'.cell? ⟨g, p, none⟩ = some (.string P) ∧ w'.cell? ⟨g, q, none⟩ = some (.string Q))
    (first | exact ⟨hcp, hcq⟩ | exact ⟨u1, u2⟩)
    ((go_at_call 13; refine (HE0.out _).mono ?_; rintro e w4 ⟨rfl, hb4⟩; have u1 := (hb4.cell (p := ⟨g, p, none⟩) (by simp; omega)).trans (show _ = some (.string P) by simp; exact HCP.out); have u2 := (hb4.cell (p := ⟨g, q, none⟩) (by simp; omega)).trans (show _ = some (.string Q) by simp; exact HCQ.out); have HB4 := hide hb4; clear hb4))
  rename_i hHeld
  clear hHeld z1 z2 z3 z4
  have hlp := ((HB4.out.cell (p := ⟨g2, p, none⟩) (by simp; omega)).trans (show _ = some (.int .i64 (Ar.lev (Ar.opN p) : Nat)) by simp; exact HLP.out))
  have hlq := ((HB4.out.cell (p := ⟨g2, q, none⟩) (by simp; omega)).trans (show _ = some (.int .i64 (Ar.lev (Ar.opN q) : Nat)) by simp; exact HLQ.out))
  have HB5 := hide (below_up HB3.out.drew HB4.out (HB3.out.drew).size)
  clear HB4 hcp hcq HLP HLQ
  generalize Ar.lev (Ar.opN p) = lp at *
  generalize Ar.lev (Ar.opN q) = lq at *
  go_wp2_with fail
  go_quiet (fail)
  go_wp2_with fail
  by_cases hl : lp < lq
  · have hd1 : decide ((lq : Int) > (lp : Int)) = true := by simp; omega
    have hd2 : decide (lp < lq) = true := by simpa using hl
    have hd3 : decide ((lp : Int) < (lq : Int)) = true := by simp; omega
    have HV := hide (HR.out hl)
    clear HL HR
    go_quiet (fail)
    go_wp2_with fail
    go_quiet (fail)
    go_wp2_with fail
    refine (HE2.out _).mono ?_
    rintro e w5 ⟨rfl, hb5⟩
    rw [← HV.out]
    have HB6 := hide (below_up (below_drewN HB5.out _) hb5 (below_drewN HB5.out _).size)
    clear hb5
    repeat (go_wp2_with fail; refine (num7_any _ _).mono ?_; rintro e w5' ⟨rfl, rfl⟩)
    go_wp2
    go_ret
    exact ⟨rfl, HB6.out⟩
  · have hd1 : decide ((lq : Int) > (lp : Int)) = false := by simp; omega
    have hd2 : decide (lp < lq) = false := by simpa using hl
    have hd3 : decide ((lp : Int) < (lq : Int)) = false := by simp; omega
    have HV := hide (HL.out (by omega))
    clear HL HR
    go_quiet (fail)
    go_wp2_with fail
    refine (HE1.out _).mono ?_
    rintro e w5 ⟨rfl, hb5⟩
    rw [← HV.out]
    have HB6 := hide (below_up (below_drewN HB5.out _) hb5 (below_drewN HB5.out _).size)
    clear hb5
    repeat (go_wp2_with fail; refine (num7_any _ _).mono ?_; rintro e w5' ⟨rfl, rfl⟩)
    go_wp2
    go_ret
    exact ⟨rfl, HB6.out⟩
end Go.Proofs.YtpjbklajjikgjaaDoor
