/- Walk of package glob's bracket. -/
import Derived.Test.YthlboecjlelemaaGlobWalkB
namespace Go.Proofs.Ythlboecjlelemaa
open Go.RowKit Go.Deep Qm.Glob
attribute [local go_sem] bt_eq

def brVal : Option ((Nat → Bool) × Nat) → Value
  | some x => .tuple #[.agg (giAgg false x.1 false 0 true), .int .i64 x.2, .bool true]
  | none => .tuple #[.agg (giAgg false (fun _ => false) false 0 false), .int .i64 (0 : Nat), .bool false]

theorem ret_bracket {a : Act} {W : World} {g : Nat} {b0 : Bool} {S : Nat → Bool} {b1 : Bool} {c : Nat} {b2 : Bool} (v5 v6 : Value) (hr : W.rowIs g 69 8 (giCell b0 S b1 c b2))
    (h4 : a.tmps.getD 4 undef = .pointer (some ⟨g, 0, none⟩)) (h5 : a.tmps.getD 5 undef = v5) (h6 : a.tmps.getD 6 undef = v6) :
    (results Try.f66 a.tmps).run Try.prog W = .ok (.tuple #[.agg (giAgg b0 S b1 c b2), v5, v6]) W := by
  obtain ⟨c0, c1, c2, c3, c4, c5, c6, c7⟩ := gi_cells hr
  simp only [results, Try.results66, giAgg]
  simp only [Array.getD_eq_getD_getElem?] at h4 h5 h6
  simp [go_sem, h4, h5, h6, c0, c1, c2, c3, c4, c5, c6, c7]

set_option maxRecDepth 100000 in
set_option maxHeartbeats 1000000 in
theorem bracket_any (s : ByteArray) (i : Nat) (w : World) (hs : s.size ≤ 1000) (hi : i ≤ s.size) :
    Calls Try.prog 66 #[.string s, .int .i64 i] w fun e w' => e = .returned (brVal (gBracket (bt s) s.size i)) ∧ Below w.heap.size w w' := by
  go_enter Try.func66, Try.ntmps66
  have hn := gi_new (w.alloc (.cells #[.bool false, .int .u64 0, .int .u64 0, .int .u64 0, .int .u64 0, .bool false, .int .u8 (0 : Nat), .bool false] 69)) false false true 0
  have hn0 := (gi_new w false false false 0).alloc (.cells #[.bool false, .int .u64 0, .int .u64 0, .int .u64 0, .int .u64 0, .bool false, .int .u8 (0 : Nat), .bool true] 69)
  rw [show (w.alloc (.cells #[.bool false, .int .u64 0, .int .u64 0, .int .u64 0, .int .u64 0, .bool false, .int .u8 (0 : Nat), .bool false] 69)).heap.size = w.heap.size + 1 from by simp] at hn
  have HN := hide hn
  have HN0 := hide hn0
  clear hn hn0
  go_upto_region 2 with (fail)
  go_cut [8] from 16 to 25 (fun s8 wx => s8 = .bool (brNt (bt s) s.size i) ∧ wx.rowIs w.heap.size 69 8 (giCell false (fun _ => false) false 0 false) ∧ wx.rowIs (w.heap.size + 1) 69 8 (giCell false (fun _ => false) false 0 true) ∧ Below w.heap.size w wx)
  case first =>
    go_wp2
    all_goals go_meet
    all_goals refine ⟨?_, HN0.out, HN.out, ((Below.refl _ _).alloc (Nat.le_refl _) _).alloc (by simp) _⟩
    all_goals
      go_light
      clear HN0 HN
      simp only [brNt]
    · rename_i h
      simp only [h, decide_true, Bool.true_and]
      congr 1
      rw [Bool.eq_iff_iff]
      simp only [beq_iff_eq]
      omega
    · have h : (decide (i < s.size)) = false := by simp; omega
      simp [h]
  case rest =>
    obtain ⟨rfl, hr0, hr1, hb⟩ := hcut
    have HR0 := hide hr0
    have HR1 := hide hr1
    have HB := hide hb
    clear hr0 hr1 hb HN HN0
    go_upto_if 26 with (fail)
    go_cut [1] from 27 to 28 (fun s1 wx => s1 = .int .i64 (brAt (bt s) s.size i) ∧ wc = wx)
    case first =>
      go_wp2
      all_goals go_meet
      all_goals refine ⟨?_, rfl⟩
      all_goals
        go_light
        rename_i h
        simp only [brAt, h]
      all_goals simp
    case rest =>
      obtain ⟨rfl, hw⟩ := hcut
      have hle : brAt (bt s) s.size i ≤ s.size := by unfold brAt brNt; split <;> simp_all <;> omega
      have hR : gBr (bt s) s.size (brAt (bt s) s.size i) (brNt (bt s) s.size i) (s.size + 1 - brAt (bt s) s.size i) (brAt (bt s) s.size i) (fun _ => false) = gBracket (bt s) s.size i := rfl
      subst hw
      have HR := hide hR
      clear hR
      generalize brAt (bt s) s.size i = i0 at HR hle ⊢
      generalize brNt (bt s) s.size i = nt at HR ⊢
      go_wp2
      go_loopw [1] (fun v1 wr => ∃ (k f : Nat) (S : Nat → Bool), v1 = .int .i64 k ∧ k ≤ s.size ∧ s.size < f + k ∧ gBr (bt s) s.size i0 nt f k S = gBracket (bt s) s.size i ∧ wr.rowIs w.heap.size 69 8 (giCell false (fun _ => false) false 0 false) ∧
          wr.rowIs (w.heap.size + 1) 69 8 (giCell false S false 0 true) ∧ Below w.heap.size w wr) (fun v1 _ => s.size - (intOf v1).toNat)
      case atStart => exact ⟨i0, _, _, rfl, hle, by omega, HR.out, HR0.out, HR1.out, HB.out⟩
      case round =>
        obtain ⟨k, f, S, rfl, hk, hf, hR, hr0, hr1, hb⟩ := hrel
        clear HR HR0 HR1 HB
        have HR := hide hR
        have HR0 := hide hr0
        have HR1 := hide hr1
        have HB := hide hb
        clear hR hr0 hr1 hb
        by_cases hlt : k < s.size
        · obtain ⟨f, rfl⟩ : ∃ f', f = f' + 1 := ⟨f - 1, by omega⟩
          by_cases h93 : bt s k = 93 ∧ i0 < k
          · have h1 : (((bt s k : Nat) : Int) == 93) = true := by simp only [beq_iff_eq]; omega
            have h2 := h93.2
            have HRn := hide (show gBracket (bt s) s.size i = some (if nt then fun c => !S c else S, k + 1) by rw [← HR.out, gBr, if_pos hlt, if_pos ⟨h93.1, h2⟩])
            clear HR h93
            cases nt with
            | false =>
              --{A
              obtain ⟨c0, c1, c2, c3, c4, c5, c6, c7⟩ := gi_cells HR0.out
              obtain ⟨d0, d1, d2, d3, d4, d5, d6, d7⟩ := gi_cells HR1.out
              have hf0 := HR0.out.frozen
              go_wp2
              have hfin := gi8_row HR0.out false S false 0 true
              have hbel := gi8_below HB.out (Nat.le_refl _) false S false 0 true
              unfold gi8 at hfin hbel
              exact bodyPost_ret (ret_bracket _ _ hfin rfl rfl rfl) rfl ⟨by rw [HRn.out]; rfl, hbel⟩
              --}A
            | true =>
              --{B
              go_wp2
              go_loopw [44] (fun v44 wx => ∃ j : Nat, v44 = .int .i64 j ∧ j ≤ 4 ∧ wx.rowIs w.heap.size 69 8 (giCell false (fun _ => false) false 0 false) ∧
                  wx.rowIs (w.heap.size + 1) 69 8 (fun q => if 1 ≤ q ∧ q ≤ j then .int .u64 (wd (fun c => !S c) (q - 1)) else giCell false S false 0 true q) ∧ Below w.heap.size w wx) (fun v44 _ => 4 - (intOf v44).toNat)
              case atStart => exact ⟨0, rfl, by omega, HR0.out, HR1.out.congr (fun q _ => by rw [if_neg (by omega)]), HB.out⟩
              case round =>
                clear HR0 HR1 HB
                obtain ⟨j, rfl, hj, hr0, hr1, hb⟩ := hrel
                have HR0 := hide hr0
                have HR1 := hide hr1
                have HB := hide hb
                clear hr0 hr1 hb
                by_cases hj4 : j < 4
                · have hcell := HR1.out.cell (i := 1 + j) (by omega)
                  have hfr := HR1.out.frozen (1 + j)
                  rw [if_neg (by omega), giCell_word' false S false 0 true j hj4] at hcell
                  go_wp2
                  go_roundw
                  case rel =>
                    rw [u64_not _ (wd_lt S j), wd_not]
                    refine ⟨j + 1, by go_num, by omega, HR0.out.setOther (by simp) _, (HR1.out.set (1 + j) _).congr (fun q hq => ?_), HB.out.setCell (by simp) _⟩
                    by_cases e : q = 1 + j
                    · subst e
                      rw [if_pos rfl, if_pos (by omega), show 1 + j - 1 = j from by omega]
                    · rw [if_neg e]
                      by_cases e2 : 1 ≤ q ∧ q ≤ j
                      · rw [if_pos e2, if_pos (by omega)]
                      · rw [if_neg e2, if_neg (by omega)]
                  case measure => simp [intOf]; omega
                · obtain rfl : j = 4 := by omega
                  obtain ⟨c0, c1, c2, c3, c4, c5, c6, c7⟩ := gi_cells HR0.out
                  have hr1' := HR1.out.congr (g := giCell false (fun c => !S c) false 0 true) (fun q hq => by
                    have h : q = 0 ∨ q = 1 ∨ q = 2 ∨ q = 3 ∨ q = 4 ∨ q = 5 ∨ q = 6 ∨ q = 7 := by omega
                    rcases h with rfl | rfl | rfl | rfl | rfl | rfl | rfl | rfl <;> rfl)
                  obtain ⟨d0, d1, d2, d3, d4, d5, d6, d7⟩ := gi_cells hr1'
                  have hf0 := HR0.out.frozen
                  clear hr1'
                  go_wp2
                  have hfin := gi8_row HR0.out false (fun c => !S c) false 0 true
                  have hbel := gi8_below HB.out (Nat.le_refl _) false (fun c => !S c) false 0 true
                  unfold gi8 at hfin hbel
                  exact bodyPost_ret (ret_bracket _ _ hfin rfl rfl rfl) rfl ⟨by rw [HRn.out]; rfl, hbel⟩
              --}B
          · --{C
            go_upto_region 7 with (fail)
            go_cut [42] from 34 to 42 (fun s42 wx => s42 = .bool false ∧ wr = wx)
            case first =>
              by_cases h1 : bt s k = 93
              · have h2 : ¬ i0 < k := fun h => h93 ⟨h1, h⟩
                have h3 : (((bt s k : Nat) : Int) == 93) = true := by simp only [beq_iff_eq]; omega
                clear h93 h1
                go_wp2
                go_meet
                exact ⟨rfl, rfl⟩
              · have h3 : (((bt s k : Nat) : Int) == 93) = false := by simp only [beq_eq_false_iff_ne]; omega
                clear h93 h1
                go_wp2
                go_meet
                exact ⟨rfl, rfl⟩
            case rest =>
              obtain ⟨rfl, hw⟩ := hcut
              subst hw
              go_wp2_with fail
              refine (one_any s k _ hs (by omega)).mono ?_
              rintro e w1 ⟨rfl, rfl⟩
              have hklt := gOne_ok (t := bt s) (n := s.size) (i := k)
              by_cases hok : (gOne (bt s) s.size k).2.2 = true
              · --{D
                have hokl := hklt hok
                have hok1 : (gOne (bt s) s.size k).2.2 = true := hok
                generalize hk1 : (gOne (bt s) s.size k).2.1 = k1 at hokl ⊢
                generalize ha : (gOne (bt s) s.size k).1 = av at ⊢
                have hav : av < 256 := by rw [← ha]; exact gOne_lt (bt_lt s)
                have HK1 := hide hk1
                have HA := hide ha
                clear hk1 ha hklt hok
                obtain ⟨hkk, hkn⟩ := hokl
                by_cases hrg : k1 + 1 < s.size ∧ bt s k1 = 45 ∧ bt s (k1 + 1) ≠ 93
                · --{E
                  obtain ⟨g1, g2, g3⟩ := hrg
                  have HG := hide (show k1 + 1 < s.size ∧ bt s k1 = 45 ∧ bt s (k1 + 1) ≠ 93 from ⟨g1, g2, g3⟩)
                  have g4 : (((bt s k1 : Nat) : Int) == 45) = true := by simp only [beq_iff_eq]; omega
                  have g5 : (((bt s (k1 + 1) : Nat) : Int) != 93) = true := by simp only [bne_iff_ne]; omega
                  clear g2 g3
                  go_wp2_with fail
                  refine (one_any s (k1 + 1) _ hs (by omega)).mono ?_
                  rintro e w1 ⟨rfl, rfl⟩
                  have hklt := gOne_ok (t := bt s) (n := s.size) (i := k1 + 1)
                  have hav2 : (gOne (bt s) s.size (k1 + 1)).1 < 256 := gOne_lt (bt_lt s)
                  by_cases hok : (gOne (bt s) s.size (k1 + 1)).2.2 = true
                  · have hokl := hklt hok
                    have hok2 : (gOne (bt s) s.size (k1 + 1)).2.2 = true := hok
                    generalize hk2 : (gOne (bt s) s.size (k1 + 1)).2.1 = k2 at hokl ⊢
                    generalize hb2 : (gOne (bt s) s.size (k1 + 1)).1 = bv at hav2 ⊢
                    have HK2 := hide hk2
                    have HB2 := hide hb2
                    clear hk2 hb2 hklt hok
                    obtain ⟨hkk2, hkn2⟩ := hokl
                    go_wp2_with fail
                    refine (add_any (w.heap.size + 1) false S false 0 true av bv _ (by omega) (by omega) HR1.out).mono ?_
                    rintro e w1 ⟨rfl, hr1, hg⟩
                    have hr0 := HR0.out.of_block (hg.block w.heap.size HR0.out.lt (by simp))
                    have hb := HB.out.trans (below_of_gb hg (Nat.le_of_lt HR0.out.lt) (by omega))
                    have HR1 := hide hr1
                    have HR0 := hide hr0
                    have HB := hide hb
                    clear hr0 hr1 hg hb
                    go_wp2
                    go_roundw
                    case rel =>
                      refine ⟨k2, f, _, rfl, hkn2, by omega, ?_, HR0.out, HR1.out, HB.out⟩
                      rw [← HR.out, gBr, if_pos hlt, if_neg h93, if_pos hok1, HK1.out, HA.out, if_pos HG.out, if_pos hok2, HK2.out, HB2.out]
                    case measure => simp [intOf]; omega
                  · have hok' : (gOne (bt s) s.size (k1 + 1)).2.2 = false := by simpa using hok
                    have HRn := hide (show gBracket (bt s) s.size i = none by rw [← HR.out, gBr, if_pos hlt, if_neg h93, if_pos hok1, HK1.out, if_pos HG.out, if_neg hok])
                    clear HR h93 hok hklt
                    obtain ⟨c0, c1, c2, c3, c4, c5, c6, c7⟩ := gi_cells HR0.out
                    have hf0 := HR0.out.frozen
                    go_wp2
                    have hfin := gi8_row HR0.out false (fun _ => false) false 0 false
                    have hbel := gi8_below HB.out (Nat.le_refl _) false (fun _ => false) false 0 false
                    unfold gi8 at hfin hbel
                    simp only [wd_empty] at hfin hbel
                    exact bodyPost_ret (ret_bracket _ _ hfin rfl rfl rfl) rfl ⟨by rw [HRn.out]; rfl, hbel⟩
                  --}E
                · --{F
                  go_upto_region 19 with (fail)
                  go_cut [87] from 70 to 87 (fun s87 wx => s87 = .bool false ∧ wr = wx)
                  case first =>
                    by_cases g1 : k1 + 1 < s.size
                    · by_cases g2 : bt s k1 = 45
                      · have g3 : bt s (k1 + 1) = 93 := by
                          rcases Nat.decEq (bt s (k1 + 1)) 93 with e | e
                          · exact absurd ⟨g1, g2, e⟩ hrg
                          · exact e
                        have g4 : (((bt s k1 : Nat) : Int) == 45) = true := by simp only [beq_iff_eq]; omega
                        have g5 : (((bt s (k1 + 1) : Nat) : Int) != 93) = false := by simp only [bne_eq_false_iff_eq]; omega
                        clear hrg g2 g3
                        go_wp2
                        go_meet
                        exact ⟨rfl, rfl⟩
                      · have g4 : (((bt s k1 : Nat) : Int) == 45) = false := by simp only [beq_eq_false_iff_ne]; omega
                        clear hrg g2
                        go_wp2
                        go_meet
                        exact ⟨rfl, rfl⟩
                    · clear hrg
                      go_wp2
                      go_meet
                      exact ⟨rfl, rfl⟩
                  case rest =>
                    obtain ⟨rfl, hw⟩ := hcut
                    subst hw
                    have HG := hide hrg
                    clear hrg
                    go_wp2_with fail
                    refine (add_any (w.heap.size + 1) false S false 0 true av av _ (by omega) (by omega) HR1.out).mono ?_
                    rintro e w1 ⟨rfl, hr1, hg⟩
                    have hr0 := HR0.out.of_block (hg.block w.heap.size HR0.out.lt (by simp))
                    have hb := HB.out.trans (below_of_gb hg (Nat.le_of_lt HR0.out.lt) (by omega))
                    have HR1 := hide hr1
                    have HR0 := hide hr0
                    have HB := hide hb
                    clear hr0 hr1 hg hb
                    go_wp2
                    go_roundw
                    case rel =>
                      refine ⟨k1, f, _, rfl, hkn, by omega, ?_, HR0.out, HR1.out, HB.out⟩
                      rw [← HR.out, gBr, if_pos hlt, if_neg h93, if_pos hok1, HK1.out, HA.out, if_neg HG.out]
                    case measure => simp [intOf]; omega
                  --}F
                --}D
              · --{G
                have hok' : (gOne (bt s) s.size k).2.2 = false := by simpa using hok
                have HRn := hide (show gBracket (bt s) s.size i = none by rw [← HR.out, gBr, if_pos hlt, if_neg h93, if_neg hok])
                clear HR h93 hok hklt
                obtain ⟨c0, c1, c2, c3, c4, c5, c6, c7⟩ := gi_cells HR0.out
                have hf0 := HR0.out.frozen
                go_wp2
                have hfin := gi8_row HR0.out false (fun _ => false) false 0 false
                have hbel := gi8_below HB.out (Nat.le_refl _) false (fun _ => false) false 0 false
                unfold gi8 at hfin hbel
                simp only [wd_empty] at hfin hbel
                exact bodyPost_ret (ret_bracket _ _ hfin rfl rfl rfl) rfl ⟨by rw [HRn.out]; rfl, hbel⟩
                --}G
            --}C
        · obtain ⟨c0, c1, c2, c3, c4, c5, c6, c7⟩ := gi_cells HR0.out
          have hf0 := HR0.out.frozen
          have HRn := hide (show gBracket (bt s) s.size i = none by rw [← HR.out]; cases f <;> simp [gBr, hlt])
          clear HR HR1
          go_wp2
          have hfin := gi8_row HR0.out false (fun _ => false) false 0 false
          have hbel := gi8_below HB.out (Nat.le_refl _) false (fun _ => false) false 0 false
          unfold gi8 at hfin hbel
          simp only [wd_empty] at hfin hbel
          exact bodyPost_ret (ret_bracket _ _ hfin rfl rfl rfl) rfl ⟨by rw [HRn.out]; rfl, hbel⟩
end Go.Proofs.Ythlboecjlelemaa
