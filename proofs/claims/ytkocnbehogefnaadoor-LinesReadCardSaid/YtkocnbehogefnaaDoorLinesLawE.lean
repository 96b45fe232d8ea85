/- The walk of the law LinesRead. -/
import Derived.Test.YtkocnbehogefnaaDoorLinesLawB
import Derived.Test.YtkocnbehogefnaaDoorLinesRefF
import Derived.Test.YtkocnbehogefnaaDoorLinesMathD
import Derived.Test.YtkocnbehogefnaaDoorLinesWordsB
import Derived.Test.YtkocnbehogefnaaDoorLinesLawC
namespace Go.Proofs.YtkocnbehogefnaaDoor
open Go.RowKit Go.Deep Ln
theorem wordsF_len (l : T) : ∀ w : T, (wordsF l w).length ≤ l.length + 1 := by
  induction l with
  | nil => intro w; unfold wordsF; split <;> simp
  | cons c l ih =>
    intro w
    rw [wordsF_cons]
    have h1 := ih []
    have h2 := ih (w ++ [c])
    split
    · split <;> simp only [List.length_cons] <;> omega
    · simp only [List.length_cons]; omega
set_option maxRecDepth 100000 in
set_option maxHeartbeats 2000000 in
theorem law_linesRead (l : T) (hz : (bs l).size ≤ maxLen) (w : World) (hm : MX w) :
    Calls Tryd.prog 5 #[.string (bs l)] w fun e w' => e = .returned (.bool true) ∧ Below w.heap.size w w' := by
  unfold maxLen at hz
  have HM := hide hm
  have HZ := hide hz
  have zl : (bs l).size = l.length := bs_size l
  clear hm
  go_enter Tryd.func5, Tryd.ntmps5
  go_wp2_with fail
  refine (alive18_any w HM.out).mono ?_
  rintro e w1 ⟨rfl, hb1⟩
  have HB1 := hide hb1
  have HM1 := hide (HM.out.below hb1)
  clear hb1
  by_cases c1 : 2000 < l.length ∧ l.length ≤ 16384
  · have d1 : (2000 : Int) < (l.length : Int) := by omega
    have d2 : (l.length : Int) ≤ 16384 := by omega
    go_wp2
    go_ret
    exact ⟨rfl, HB1.out⟩
  by_cases c2 : 16393 < l.length
  · have d1 : (2000 : Int) < (l.length : Int) := by omega
    have d2 : decide ((l.length : Int) ≤ 16384) = false := by simp; omega
    have d3 : (16393 : Int) < (l.length : Int) := by omega
    go_wp2
    go_ret
    exact ⟨rfl, HB1.out⟩
  have hsz : l.length ≤ 16393 := by omega
  have hrl := readF_len l
  have hwl := wordsF_len l []
  have HRD := hide (read_any l w1 HM1.out (by omega))
  have HRR := hide (fun W => rlines_any l W (by omega))
  unfold ReadPost at HRD HRR
  obtain ⟨LL, hLL⟩ : ∃ L, (readF l).1 = L := ⟨_, rfl⟩
  obtain ⟨ee, hee⟩ : ∃ L, (readF l).2 = L := ⟨_, rfl⟩
  rw [hLL] at HRD HRR hrl
  rw [hee] at HRD HRR
  have HWD := hide (fun W => words_any (bs l) W (by omega))
  have HWR := hide (fun W => rwords_any l W (by omega))
  rw [fields_words] at HWD
  obtain ⟨WW, hWW⟩ : ∃ L, (wordsF l []).map bs = L := ⟨_, rfl⟩
  have hwl2 : WW.length ≤ 16394 := by rw [← hWW, List.length_map]; omega
  rw [hWW] at HWD HWR
  clear hLL hee hWW hwl
  have d3 : (l.length : Int) ≤ 16393 := by omega
  by_cases c3 : 2000 < l.length
  all_goals
    first
      | (have d1 : (2000 : Int) < (l.length : Int) := by omega
         have d2 : decide ((l.length : Int) ≤ 16384) = false := by simp; omega
         clear c1 c2 c3
         go_wp2_with fail)
      | (have d1 : (l.length : Int) ≤ 2000 := by omega
         clear c1 c2 c3
         go_wp2_with fail)
  all_goals
    refine HRD.out.mono ?_
    rintro e w2 ⟨⟨A, c, rfl, hc, hr⟩, hb2⟩
    have HR2 := hide hr
    have HB2 := hide (below_up HB1.out hb2 HB1.out.size)
    clear hr hb2
    go_wp2_with fail
    refine (HRR.out w2).mono ?_
    rintro e w3 ⟨⟨B, d, rfl, hd, hs⟩, hb3⟩
    have HR3 := hide (HR2.out.below hb3)
    have HS3 := hide hs
    have HB3 := hide (below_up HB2.out hb3 HB2.out.size)
    clear hs hb3
    go_wp2_with fail
    refine (num18_any _ _).mono ?_
    rintro e w' ⟨rfl, rfl⟩
    have hee : (ee == ee) = true := by simp
    go_wp2_with fail
    refine (samel_any A B c d LL LL _ HR3.out HS3.out (by omega)).mono ?_
    rintro e w4 ⟨rfl, hd4⟩
    have HD4 := hide (below_up HB3.out hd4.below HB3.out.size)
    have hll : decide (LL = LL) = true := by simp
    clear hd4
    go_wp2_with fail
    refine (HWD.out w4).mono ?_
    rintro e w5 ⟨A5, rfl, hA5, ho5, hb5⟩
    have HO5 := hide ho5
    have HB5 := hide (below_up HD4.out hb5 HD4.out.size)
    clear ho5 hb5
    go_wp2_with fail
    refine (HWR.out w5).mono ?_
    rintro e w6 ⟨⟨v, rfl, ho6⟩, hb6⟩
    obtain ⟨A6, c6, rfl, hc6, hs6, _⟩ := OwnS.slice ho6
    obtain ⟨A7, c7, e7, hc7, hs7, _⟩ := OwnS.slice (L := WW) HO5.out
    have HS7 := hide (hs7.below hb6)
    have HB6 := hide (below_up HB5.out hb6 HB5.out.size)
    have HS6 := hide hs6
    injection e7 with e7 e8 e9
    subst e7
    subst e9
    clear e8
    clear hs6 hs7 hb6 ho6
    go_wp2_with fail
    refine (same_any _ A6 _ c6 WW WW _ HS7.out HS6.out (by omega)).mono ?_
    rintro e w8 ⟨rfl, hd8⟩
    have hww : decide (WW = WW) = true := by simp
    have HB8 := hide (below_up HB6.out hd8.below HB6.out.size)
    clear hd8
    go_wp2
    go_ret
    exact ⟨rfl, HB8.out⟩
theorem law_linesReadB (s : ByteArray) (hz : s.size ≤ maxLen) (w : World) (hm : MX w) :
    Calls Tryd.prog 5 #[.string s] w fun e w' => e = .returned (.bool true) ∧ Below w.heap.size w w' := by
  have := law_linesRead s.data.toList (by rw [bs_of]; exact hz) w hm
  rwa [bs_of] at this
end Go.Proofs.YtkocnbehogefnaaDoor
