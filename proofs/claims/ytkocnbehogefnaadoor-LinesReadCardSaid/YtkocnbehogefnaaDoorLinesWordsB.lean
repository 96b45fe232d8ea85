/- The reference's Words. -/
import Derived.Test.YtkocnbehogefnaaDoorLinesRefD
namespace Go.Proofs.YtkocnbehogefnaaDoor
open Go.RowKit Go.Deep Ln
attribute [local go_sem] bt_eq
theorem wordsF_cons (c : UInt8) (l w : T) : wordsF (c :: l) w = if wblk c = true then (if w = [] then wordsF l [] else w :: wordsF l []) else wordsF l (w ++ [c]) := rfl
theorem wblk_blkN (c : UInt8) : wblk c = (blk c || c == 10) := rfl
/-- where the words' reader stands -/
def WI (l : T) (C a : List T) (f i : Nat) : Prop := (i ≤ l.length → a ++ wordsF (l.drop i) ((l.drop f).take (i - f)) = C) ∧ (l.length < i → a = C)
theorem WI.go {l : T} {C a : List T} {f i : Nat} (h : WI l C a f i) (hfi : f ≤ i) (hi : i < l.length) (hb : wblk (l.getD i 0) = false) : WI l C a f (i + 1) := by
  refine ⟨fun _ => ?_, fun h => by omega⟩
  rw [← h.1 (by omega), take_snoc2 hfi hi, List.drop_eq_getElem_cons hi, wordsF_cons]
  rw [show l[i] = l.getD i 0 from by simp [hi], hb]
  rfl
theorem WI.stop {l : T} {C a : List T} {f i : Nat} (h : WI l C a f i) (hi : i ≤ l.length) (hb : i < l.length → wblk (l.getD i 0) = true) : WI l C (if (l.drop f).take (i - f) = [] then a else a ++ [(l.drop f).take (i - f)]) (i + 1) (i + 1) := by
  by_cases hl : i < l.length
  · refine ⟨fun _ => ?_, fun h => by omega⟩
    rw [← h.1 hi, List.drop_eq_getElem_cons hl, wordsF_cons, show l[i] = l.getD i 0 from by simp [hl], hb hl, Nat.sub_self, List.take_zero]
    split <;> simp
  · obtain rfl : i = l.length := by omega
    refine ⟨fun h => by omega, fun _ => ?_⟩
    rw [← h.1 hi, List.drop_length]
    split
    · rename_i e; rw [e]; simp [wordsF]
    · rename_i e; simp [wordsF, e]
set_option maxRecDepth 100000 in
set_option maxHeartbeats 4000000 in
theorem rwords_any (l : T) (w : World) (h : l.length ≤ 800000) : Calls Tryd.prog 14 #[.string (bs l)] w fun e w' => (∃ v, e = .returned v ∧ OwnS w' w.heap.size v ((wordsF l []).map bs)) ∧ Below w.heap.size w w' := by
  have hz : (bs l).size = l.length := bs_size l
  have hz1 : (bs l).size ≤ 800000 := by omega
  have HZ := hide hz
  obtain ⟨C, hC⟩ : ∃ C, wordsF l [] = C := ⟨_, rfl⟩
  have HC := hide hC
  rw [hC]
  clear hz hC
  go_enter Tryd.func14, Tryd.ntmps14
  go_wp2
  go_loopw [3, 4, 5] (fun v3 v4 v5 wr => ∃ (f i : Nat) (a : List T), v4 = .int .i64 f ∧ v5 = .int .i64 i ∧ f ≤ i ∧ i ≤ (bs l).size + 1 ∧ OwnS wr w.heap.size v3 (a.map bs) ∧ Hid (WI l C a f i) ∧ a.length ≤ i ∧ Below w.heap.size w wr) (fun _ _ v5 _ => (bs l).size + 1 - (intOf v5).toNat)
  case atStart => exact ⟨0, 0, [], rfl, rfl, Nat.le_refl _, Nat.zero_le _, OwnS.nil _ _, hide ⟨fun _ => by simpa using HC.out, fun h => by omega⟩, Nat.le_refl _, Below.refl _ _⟩
  case round =>
    obtain ⟨f, i, a, rfl, rfl, hfi, hi, ho, HW, hal, hb⟩ := hrel
    have HO := hide ho
    have HB := hide hb
    clear ho hb
    have hbz := HB.out.size
    have haz : (a.map bs).length ≤ 800001 := by rw [List.length_map]; omega
    by_cases hle : i ≤ (bs l).size
    · by_cases hlt : i < (bs l).size
      · have hil : i < l.length := by have := HZ.out; omega
        have q10 := getD_nat l i 10 (by omega)
        have hbl : blkN (bt (bs l) i) = blk (l.getD i 0) := by rw [bt_bs, blkN_bt]
        by_cases e1 : blk (l.getD i 0) = true
        · rw [e1] at hbl
          have HST := hide (show i < l.length → wblk (l.getD i 0) = true from fun _ => by rw [wblk_blkN, e1]; rfl)
          clear q10 e1
          have HW2 := hide (HW.out.stop (by have := HZ.out; omega) HST.out)
          by_cases hfi2 : f < i
          · have HX := hide (show (bs l).extract f i = bs ((l.drop f).take (i - f)) from ext_bs l f i)
            have HA2 := hide (show (if (l.drop f).take (i - f) = [] then a else a ++ [(l.drop f).take (i - f)]) = a ++ [(l.drop f).take (i - f)] by
              rw [if_neg]
              intro e
              have := congrArg List.length e
              rw [List.length_take, List.length_drop, ← HZ.out] at this
              simp at this
              omega)
            obtain ⟨v4, w4, r4, o4, g4, b4⟩ := run_appS (c := 1) (OwnS.alloc HO.out (.cells #[.string ((bs l).extract f i)] 9)) (sr_new wr ((bs l).extract f i)) (by simp; omega) (by simp at haz ⊢; omega)
            have HO4 := hide (show OwnS w4 w.heap.size v4 ((a ++ [(l.drop f).take (i - f)]).map bs) by rw [HX.out] at o4; simpa using o4)
            have HB4 := hide ((HB.out.alloc hbz (.cells #[.string ((bs l).extract f i)] 9)).trans ((Below.refl w.heap.size _).grown g4 (by simp; omega) (fun q hq => (World.ownsRow.lt HO.out q hq).1)))
            clear o4 g4 b4
            go_wp2_with fail
            refine (rblank_any _ _).mono ?_
            rintro e w' ⟨rfl, rfl⟩
            rw [hbl]
            go_wp2_with (at_builtin; refine wpList_app_run ?_ (.tmp 32) (.tmp 37) ?_ ?_ ?_ ?_ r4 ?_; exact rfl; exact rfl; exact rfl; exact rfl; exact rfl)
            go_roundw
            case rel => exact ⟨i + 1, i + 1, _, by go_num, by go_num, Nat.le_refl _, by omega, HO4.out, hide (HA2.out ▸ HW2.out), by simp; omega, HB4.out⟩
            case measure => simp [intOf]; omega
          · have HA2 := hide (show (if (l.drop f).take (i - f) = [] then a else a ++ [(l.drop f).take (i - f)]) = a by
              rw [if_pos]
              rw [show i - f = 0 by omega, List.take_zero])
            go_wp2_with fail
            refine (rblank_any _ _).mono ?_
            rintro e w' ⟨rfl, rfl⟩
            rw [hbl]
            go_wp2
            go_roundw
            case rel => exact ⟨i + 1, i + 1, _, by go_num, by go_num, Nat.le_refl _, by omega, HO.out, hide (HA2.out ▸ HW2.out), by omega, HB.out⟩
            case measure => simp [intOf]; omega
        have e1f : blk (l.getD i 0) = false := by simpa using e1
        rw [e1f] at hbl
        by_cases e10 : l.getD i 0 = 10
        · have t10 : (((bt (bs l) i : Nat) : Int) == 10) = true := by rw [show (10 : Int) = ((10 : Nat) : Int) from rfl, q10]; simpa using e10
          have HST := hide (show i < l.length → wblk (l.getD i 0) = true from fun _ => by rw [wblk_blkN, e10]; rfl)
          clear q10 e1 e1f e10
          have HW2 := hide (HW.out.stop (by have := HZ.out; omega) HST.out)
          by_cases hfi2 : f < i
          · have HX := hide (show (bs l).extract f i = bs ((l.drop f).take (i - f)) from ext_bs l f i)
            have HA2 := hide (show (if (l.drop f).take (i - f) = [] then a else a ++ [(l.drop f).take (i - f)]) = a ++ [(l.drop f).take (i - f)] by
              rw [if_neg]
              intro e
              have := congrArg List.length e
              rw [List.length_take, List.length_drop, ← HZ.out] at this
              simp at this
              omega)
            obtain ⟨v4, w4, r4, o4, g4, b4⟩ := run_appS (c := 1) (OwnS.alloc HO.out (.cells #[.string ((bs l).extract f i)] 9)) (sr_new wr ((bs l).extract f i)) (by simp; omega) (by simp at haz ⊢; omega)
            have HO4 := hide (show OwnS w4 w.heap.size v4 ((a ++ [(l.drop f).take (i - f)]).map bs) by rw [HX.out] at o4; simpa using o4)
            have HB4 := hide ((HB.out.alloc hbz (.cells #[.string ((bs l).extract f i)] 9)).trans ((Below.refl w.heap.size _).grown g4 (by simp; omega) (fun q hq => (World.ownsRow.lt HO.out q hq).1)))
            clear o4 g4 b4
            go_wp2_with fail
            refine (rblank_any _ _).mono ?_
            rintro e w' ⟨rfl, rfl⟩
            rw [hbl]
            go_wp2_with (at_builtin; refine wpList_app_run ?_ (.tmp 32) (.tmp 37) ?_ ?_ ?_ ?_ r4 ?_; exact rfl; exact rfl; exact rfl; exact rfl; exact rfl)
            go_roundw
            case rel => exact ⟨i + 1, i + 1, _, by go_num, by go_num, Nat.le_refl _, by omega, HO4.out, hide (HA2.out ▸ HW2.out), by simp; omega, HB4.out⟩
            case measure => simp [intOf]; omega
          · have HA2 := hide (show (if (l.drop f).take (i - f) = [] then a else a ++ [(l.drop f).take (i - f)]) = a by
              rw [if_pos]
              rw [show i - f = 0 by omega, List.take_zero])
            go_wp2_with fail
            refine (rblank_any _ _).mono ?_
            rintro e w' ⟨rfl, rfl⟩
            rw [hbl]
            go_wp2
            go_roundw
            case rel => exact ⟨i + 1, i + 1, _, by go_num, by go_num, Nat.le_refl _, by omega, HO.out, hide (HA2.out ▸ HW2.out), by omega, HB.out⟩
            case measure => simp [intOf]; omega
        have t10 : (((bt (bs l) i : Nat) : Int) == 10) = false := by rw [show (10 : Int) = ((10 : Nat) : Int) from rfl, q10]; simpa using e10
        have HW2 := hide (HW.out.go hfi hil (by rw [wblk_blkN, e1f]; simpa using e10))
        clear q10 e1 e1f e10
        go_wp2_with fail
        refine (rblank_any _ _).mono ?_
        rintro e w' ⟨rfl, rfl⟩
        rw [hbl]
        go_wp2
        go_roundw
        case rel => exact ⟨f, i + 1, a, rfl, by go_num, by omega, by omega, HO.out, HW2, by omega, HB.out⟩
        case measure => simp [intOf]; omega
      · have HST := hide (show i < l.length → wblk (l.getD i 0) = true from fun h => by have := HZ.out; omega)
        have HW2 := hide (HW.out.stop (by have := HZ.out; omega) HST.out)
        by_cases hfi2 : f < i
        · have HX := hide (show (bs l).extract f i = bs ((l.drop f).take (i - f)) from ext_bs l f i)
          have HA2 := hide (show (if (l.drop f).take (i - f) = [] then a else a ++ [(l.drop f).take (i - f)]) = a ++ [(l.drop f).take (i - f)] by
            rw [if_neg]
            intro e
            have := congrArg List.length e
            rw [List.length_take, List.length_drop, ← HZ.out] at this
            simp at this
            omega)
          obtain ⟨v4, w4, r4, o4, g4, b4⟩ := run_appS (c := 1) (OwnS.alloc HO.out (.cells #[.string ((bs l).extract f i)] 9)) (sr_new wr ((bs l).extract f i)) (by simp; omega) (by simp at haz ⊢; omega)
          have HO4 := hide (show OwnS w4 w.heap.size v4 ((a ++ [(l.drop f).take (i - f)]).map bs) by rw [HX.out] at o4; simpa using o4)
          have HB4 := hide ((HB.out.alloc hbz (.cells #[.string ((bs l).extract f i)] 9)).trans ((Below.refl w.heap.size _).grown g4 (by simp; omega) (fun q hq => (World.ownsRow.lt HO.out q hq).1)))
          clear o4 g4 b4

          go_wp2_with (at_builtin; refine wpList_app_run ?_ (.tmp 32) (.tmp 37) ?_ ?_ ?_ ?_ r4 ?_; exact rfl; exact rfl; exact rfl; exact rfl; exact rfl)
          go_roundw
          case rel => exact ⟨i + 1, i + 1, _, by go_num, by go_num, Nat.le_refl _, by omega, HO4.out, hide (HA2.out ▸ HW2.out), by simp; omega, HB4.out⟩
          case measure => simp [intOf]; omega
        · have HA2 := hide (show (if (l.drop f).take (i - f) = [] then a else a ++ [(l.drop f).take (i - f)]) = a by
            rw [if_pos]
            rw [show i - f = 0 by omega, List.take_zero])

          go_wp2
          go_roundw
          case rel => exact ⟨i + 1, i + 1, _, by go_num, by go_num, Nat.le_refl _, by omega, HO.out, hide (HA2.out ▸ HW2.out), by omega, HB.out⟩
          case measure => simp [intOf]; omega
    · have HA2 := hide (show a = C from HW.out.2 (by have := HZ.out; omega))
      go_wp2
      go_ret
      exact ⟨⟨_, rfl, by rw [← HA2.out]; exact HO.out⟩, HB.out⟩
end Go.Proofs.YtkocnbehogefnaaDoor
