/- Walk of the reference's cut. -/
import Derived.Test.YtkocnbehogefnaaDoorLinesRefC
namespace Go.Proofs.YtkocnbehogefnaaDoor
open Go.RowKit Go.Deep Ln
attribute [local go_sem] bt_eq

theorem cutL_app {p r : T} (h : (10 : UInt8) ∉ p) : cutL (p ++ 10 :: r) = p :: cutL r := by
  unfold cutL
  rw [spl_app r h]
  have hn := spl_ne 10 r
  cases hs : spl 10 r with
  | nil => exact absurd hs hn
  | cons x t =>
    rw [show (p :: x :: t).getLastD [] = (x :: t).getLastD [] from rfl]
    split
    · rfl
    · rfl
theorem cutL_none {p : T} (h : (10 : UInt8) ∉ p) : cutL p = if p = [] then [] else [p] := by
  unfold cutL
  rw [spl_none h]
  by_cases hp : p = []
  · subst hp; rfl
  · rw [if_neg hp, if_neg (by simpa using hp)]
theorem drop_split {l : T} {f i : Nat} (hf : f ≤ i) (hi : i < l.length) : l.drop f = (l.drop f).take (i - f) ++ l.getD i 0 :: l.drop (i + 1) := by
  have h1 := List.take_append_drop (i - f) (l.drop f)
  rw [List.drop_drop, show f + (i - f) = i from by omega, List.drop_eq_getElem_cons hi] at h1
  rw [show l.getD i 0 = l[i] from by simp [hi]]
  exact h1.symm
theorem take_snoc2 {l : T} {f i : Nat} (hf : f ≤ i) (hi : i < l.length) : (l.drop f).take (i + 1 - f) = (l.drop f).take (i - f) ++ [l.getD i 0] := by
  rw [show i + 1 - f = (i - f) + 1 from by omega, List.take_add_one, List.getElem?_drop, show f + (i - f) = i from by omega, List.getElem?_eq_getElem hi]
  simp [hi]
set_option maxRecDepth 100000 in
set_option maxHeartbeats 4000000 in
theorem rcut_any (l : T) (w : World) (h : l.length ≤ 900000) : Calls Tryd.prog 16 #[.string (bs l)] w fun e w' => (∃ v, e = .returned v ∧ OwnS w' w.heap.size v ((cutL l).map bs)) ∧ Below w.heap.size w w' := by
  have hz : (bs l).size = l.length := bs_size l
  have hz1 : (bs l).size ≤ 900000 := by omega
  have HZ := hide hz
  obtain ⟨C, hC⟩ : ∃ C, cutL l = C := ⟨_, rfl⟩
  have HC := hide hC
  rw [hC]
  clear hz hC
  go_enter Tryd.func16, Tryd.ntmps16
  go_wp2
  go_loopw [3, 4, 5] (fun v3 v4 v5 wr => ∃ (f i : Nat) (a : List T), v4 = .int .i64 f ∧ v5 = .int .i64 i ∧ f ≤ i ∧ i ≤ (bs l).size ∧ OwnS wr w.heap.size v3 (a.map bs) ∧ Hid (a ++ cutL (l.drop f) = C) ∧ Hid ((10 : UInt8) ∉ (l.drop f).take (i - f)) ∧ a.length ≤ i ∧ Below w.heap.size w wr) (fun _ _ v5 _ => (bs l).size - (intOf v5).toNat)
  case atStart => exact ⟨0, 0, [], rfl, rfl, Nat.le_refl _, Nat.zero_le _, OwnS.nil _ _, hide HC.out, hide (by simp), Nat.le_refl _, Below.refl _ _⟩
  case round =>
    obtain ⟨f, i, a, rfl, rfl, hfi, hi, ho, HA, HN, hal, hb⟩ := hrel
    have HO := hide ho
    have HB := hide hb
    clear ho hb
    have hbz := HB.out.size
    have haz : (a.map bs).length ≤ 900000 := by rw [List.length_map]; omega
    by_cases hlt : i < (bs l).size
    · have hil : i < l.length := by have := HZ.out; omega
      have q10 := getD_nat l i 10 (by omega)
      by_cases e10 : l.getD i 0 = 10
      · have t10 : (((bt (bs l) i : Nat) : Int) == 10) = true := by rw [show (10 : Int) = ((10 : Nat) : Int) from rfl, q10]; simpa using e10
        have HX := hide (show (bs l).extract f i = bs ((l.drop f).take (i - f)) from ext_bs l f i)
        have HA2 := hide (show (a ++ [(l.drop f).take (i - f)]) ++ cutL (l.drop (i + 1)) = C by
          rw [← HA.out]
          conv => rhs; rw [drop_split hfi hil, e10, cutL_app HN.out]
          simp)
        obtain ⟨v4, w4, r4, o4, g4, b4⟩ := run_appS (c := 1) (OwnS.alloc HO.out (.cells #[.string ((bs l).extract f i)] 9)) (sr_new wr ((bs l).extract f i)) (by simp; omega) (by simp at haz ⊢; omega)
        have HO4 := hide (show OwnS w4 w.heap.size v4 ((a ++ [(l.drop f).take (i - f)]).map bs) by rw [HX.out] at o4; simpa using o4)
        have HB4 := hide ((HB.out.alloc hbz (.cells #[.string ((bs l).extract f i)] 9)).trans ((Below.refl w.heap.size _).grown g4 (by simp; omega) (fun q hq => (World.ownsRow.lt HO.out q hq).1)))
        clear o4 g4 b4 q10 e10
        go_wp2_with (at_builtin; refine wpList_app_run ?_ (.tmp 16) (.tmp 21) ?_ ?_ ?_ ?_ r4 ?_; exact rfl; exact rfl; exact rfl; exact rfl; exact rfl)
        go_roundw
        case rel => exact ⟨i + 1, i + 1, _, by go_num, by go_num, Nat.le_refl _, by omega, HO4.out, HA2, hide (by simp), by simp; omega, HB4.out⟩
        case measure => simp [intOf]; omega
      · have t10 : (((bt (bs l) i : Nat) : Int) == 10) = false := by rw [show (10 : Int) = ((10 : Nat) : Int) from rfl, q10]; simpa using e10
        have HN2 := hide (show (10 : UInt8) ∉ (l.drop f).take (i + 1 - f) by
          rw [take_snoc2 hfi hil, List.mem_append]
          rintro (hc | hc)
          · exact HN.out hc
          · simp only [List.mem_cons, List.not_mem_nil, or_false] at hc; exact e10 hc.symm)
        clear q10 e10
        go_wp2
        go_roundw
        case rel => exact ⟨f, i + 1, a, rfl, by go_num, by omega, by omega, HO.out, HA, HN2, by omega, HB.out⟩
        case measure => simp [intOf]; omega
    · obtain rfl : i = (bs l).size := by omega
      have hn10 : (10 : UInt8) ∉ l.drop f := by
        have := HN.out
        rwa [List.take_of_length_le (by rw [List.length_drop, HZ.out]; omega)] at this
      by_cases hfn : f < (bs l).size
      · have HX := hide (show (bs l).extract f (bs l).size = bs (l.drop f) by rw [ext_bs, HZ.out, List.take_of_length_le (by rw [List.length_drop]; omega)])
        have HA2 := hide (show a ++ [l.drop f] = C by
          rw [← HA.out, cutL_none hn10, if_neg (by
            intro h0
            have := congrArg List.length h0
            rw [List.length_drop, ← HZ.out] at this
            simp at this; omega)])
        obtain ⟨v4, w4, r4, o4, g4, b4⟩ := run_appS (c := 1) (OwnS.alloc HO.out (.cells #[.string ((bs l).extract f (bs l).size)] 9)) (sr_new wr ((bs l).extract f (bs l).size)) (by simp; omega) (by simp at haz ⊢; omega)
        have HO4 := hide (show OwnS w4 w.heap.size v4 (C.map bs) by rw [HX.out] at o4; rw [← HA2.out]; simpa using o4)
        have HB4 := hide ((HB.out.alloc hbz (.cells #[.string ((bs l).extract f (bs l).size)] 9)).trans ((Below.refl w.heap.size _).grown g4 (by simp; omega) (fun q hq => (World.ownsRow.lt HO.out q hq).1)))
        clear o4 g4 b4 hn10
        go_wp2_with (at_builtin; refine wpList_app_run ?_ (.tmp 29) (.tmp 33) ?_ ?_ ?_ ?_ r4 ?_; exact rfl; exact rfl; exact rfl; exact rfl; exact rfl)
        go_ret
        exact ⟨⟨_, rfl, HO4.out⟩, HB4.out⟩
      · have HA2 := hide (show a = C by
          rw [← HA.out, cutL_none hn10, if_pos (List.drop_of_length_le (by rw [← HZ.out]; omega)), List.append_nil])
        clear hn10
        go_wp2
        go_ret
        exact ⟨⟨_, rfl, by rw [← HA2.out]; exact HO.out⟩, HB.out⟩
end Go.Proofs.YtkocnbehogefnaaDoor
