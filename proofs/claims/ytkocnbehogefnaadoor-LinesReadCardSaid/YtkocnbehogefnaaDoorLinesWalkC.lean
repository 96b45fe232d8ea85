/- Walk of the program's plain: a line without its comment and the blanks at its ends. -/
import Derived.Test.YtkocnbehogefnaaDoorLinesWalkB
import Derived.Test.YtkocnbehogefnaaDoorBytesG
namespace Go.Proofs.YtkocnbehogefnaaDoor
open Go.RowKit Go.Deep Ln
attribute [local go_sem] bt_eq

theorem trim_lib (l : T) : Lib.trimS l [32, 9] = trimL (trimR l) := by
  unfold Lib.trimS
  rw [trimR_lib, trimL_lib]
theorem comm_len : ∀ l : T, (comm l).length ≤ l.length
  | [] => Nat.le_refl _
  | [c] => by
    rw [comm]; split <;> simp
  | c :: d :: l => by
    have h1 := comm_len l
    have h2 := comm_len (d :: l)
    rw [comm]
    split
    · simp only [List.length_cons]; omega
    · split
      · simp
      · simp only [List.length_cons] at h2 ⊢; omega
theorem drop_two {l : T} {k : Nat} (h : k + 1 < l.length) : l.drop k = (l.getD k 0) :: (l.getD (k + 1) 0) :: l.drop (k + 2) := by
  rw [List.drop_eq_getElem_cons (by omega), List.drop_eq_getElem_cons h]
  simp [show k < l.length by omega, h]
theorem drop_one {l : T} {k : Nat} (h : k + 1 = l.length) : l.drop k = [l.getD k 0] := by
  rw [List.drop_eq_getElem_cons (by omega), List.drop_of_length_le (by omega)]
  simp [show k < l.length by omega]
/-- a step of the loop over a line -/
theorem comm_esc {l : T} {k : Nat} (h : k + 1 < l.length) (h1 : l.getD k 0 = 92) (h2 : l.getD (k + 1) 0 = 35) : comm (l.drop k) = 35 :: comm (l.drop (k + 2)) := by
  rw [drop_two h, h1, h2, comm, if_pos ⟨rfl, rfl⟩]
theorem comm_hash {l : T} {k : Nat} (h : k < l.length) (h1 : l.getD k 0 = 35) : comm (l.drop k) = [] := by
  by_cases h2 : k + 1 < l.length
  · rw [drop_two h2, h1, comm, if_neg (by rintro ⟨h, _⟩; revert h; decide), if_pos rfl]
  · rw [drop_one (by omega), h1, comm, if_pos rfl]
theorem comm_else {l : T} {k : Nat} (h : k < l.length) (h1 : l.getD k 0 ≠ 35) (h2 : ¬ (l.getD k 0 = 92 ∧ k + 1 < l.length ∧ l.getD (k + 1) 0 = 35)) : comm (l.drop k) = l.getD k 0 :: comm (l.drop (k + 1)) := by
  by_cases h3 : k + 1 < l.length
  · rw [drop_two h3, comm, if_neg (fun c => h2 ⟨c.1, h3, c.2⟩), if_neg h1]
    congr 1
    rw [show l.drop (k + 1) = l.getD (k + 1) 0 :: l.drop (k + 2) from by
      rw [List.drop_eq_getElem_cons h3]; simp [h3]]
  · rw [drop_one (by omega), comm, if_neg h1, List.drop_of_length_le (by omega)]; rfl
theorem getD_nat (l : T) (k : Nat) (n : Nat) (hn : n < 256) : ((((bt (bs l) k : Nat) : Int) == (n : Int))) = decide (l.getD k 0 = UInt8.ofNat n) := by
  rw [bt_bs, Bool.eq_iff_iff]
  simp only [beq_iff_eq, decide_eq_true_eq]
  constructor
  · intro h
    have : (l.getD k 0).toNat = n := by omega
    rw [← this]; simp
  · intro h
    rw [h]
    simp [UInt8.toNat_ofNat']
    omega
set_option maxRecDepth 100000 in
set_option maxHeartbeats 4000000 in
theorem plain_any (l : T) (w : World) (h : l.length ≤ 900000) : Calls Tryd.prog 26 #[.string (bs l)] w fun e w' => e = .returned (.string (bs (plainF l))) ∧ Below w.heap.size w w' := by
  have hz : (bs l).size = l.length := bs_size l
  have hz1 : (bs l).size ≤ 900000 := by omega
  have HZ := hide hz
  have HT := hide (fun W => Tryd.strings_Trim_laid (bs (comm l)) ⟨#[32, 9]⟩ W (by rw [bs_size]; have := comm_len l; omega) (by decide) blanks_ascii)
  rw [show (⟨(Lib.trimS (bs (comm l)).data.toList (⟨#[32, 9]⟩ : ByteArray).data.toList).toArray⟩ : ByteArray) = bs (plainF l) from by rw [bs_list, show (⟨#[32, 9]⟩ : ByteArray).data.toList = [32, 9] from rfl, trim_lib]; rfl] at HT
  generalize bs (plainF l) = R at HT ⊢
  obtain ⟨C, hC⟩ : ∃ C, comm l = C := ⟨_, rfl⟩
  have hCl : C.length ≤ 900000 := by rw [← hC]; have := comm_len l; omega
  have HC := hide hC
  rw [hC] at HT
  clear hz hC
  go_enter Tryd.func26, Tryd.ntmps26
  go_wp2_with fail
  go_step3
  go_wp2_with fail
  go_step3
  go_wp2_with fail
  go_loopw [3, 4] (fun v3 v4 wr => ∃ (k : Nat) (a : T), v4 = .int .i64 k ∧ k ≤ (bs l).size ∧ OwnY wr w.heap.size v3 a ∧ Hid (a ++ comm (l.drop k) = C) ∧ a.length ≤ k ∧ Below w.heap.size w wr) (fun _ v4 _ => (bs l).size - (intOf v4).toNat)
  case atStart => exact ⟨0, [], rfl, by omega, OwnG.nil _ _, hide HC.out, by simp, Below.refl _ _⟩
  case round =>
    obtain ⟨k, a, rfl, hk, ho, HA, hal, hb⟩ := hrel
    have HO := hide ho
    have HB := hide hb
    clear ho hb
    have hbz := HB.out.size
    by_cases hlt : k < (bs l).size
    · have hkl : k < l.length := by have := HZ.out; omega
      have hk0 : (0 : Int) ≤ (k : Int) := by omega
      have q92 := getD_nat l k 92 (by omega)
      have q35 := getD_nat l k 35 (by omega)
      have r35 := getD_nat l (k + 1) 35 (by omega)
      by_cases e35 : l.getD k 0 = 35
      · have n92 : ¬ l.getD k 0 = 92 := fun e => by rw [e35] at e; revert e; decide
        have t92 : (((bt (bs l) k : Nat) : Int) == 92) = false := by rw [show (92 : Int) = ((92 : Nat) : Int) from rfl, q92]; simpa using n92
        have t35 : (((bt (bs l) k : Nat) : Int) == 35) = true := by rw [show (35 : Int) = ((35 : Nat) : Int) from rfl, q35]; simpa using e35
        have ha : a = C := by
          have := HA.out
          rw [comm_hash hkl e35] at this
          simpa using this
        subst ha
        clear q92 q35 r35 e35 n92
        have hcv := conv_Y HO.out
        go_wp2_with fail
        refine (HT.out _).mono ?_
        rintro e w2 ⟨rfl, hb2⟩
        have HB2 := hide (below_up HB.out hb2 HB.out.size)
        clear hb2
        go_wp2
        rw [Exit.noGoto_ret]
        go_ret
        exact ⟨rfl, HB2.out⟩
      · have t35 : (((bt (bs l) k : Nat) : Int) == 35) = false := by rw [show (35 : Int) = ((35 : Nat) : Int) from rfl, q35]; simpa using e35
        have hc0 : ((l.getD k 0).toNat : Int) = ((bt (bs l) k : Nat) : Int) := by rw [bt_bs]
        by_cases e92 : l.getD k 0 = 92
        · have t92 : (((bt (bs l) k : Nat) : Int) == 92) = true := by rw [show (92 : Int) = ((92 : Nat) : Int) from rfl, q92]; simpa using e92
          by_cases hk1 : k + 1 < (bs l).size
          · have hk2 : (k : Int) + 1 < ((bs l).size : Int) := by omega
            by_cases f35 : l.getD (k + 1) 0 = 35
            · have u35 : (((bt (bs l) (k + 1) : Nat) : Int) == 35) = true := by rw [show (35 : Int) = ((35 : Nat) : Int) from rfl, r35]; simpa using f35
              have HS := hide (show (a ++ [35]) ++ comm (l.drop (k + 2)) = C by rw [← HA.out, comm_esc (by have := HZ.out; omega) e92 f35]; simp)
              clear q92 q35 r35 e35 e92 f35 hc0
              obtain ⟨v4, w4, r4, o4, g4, b4⟩ := run_appY (c := 1) (N := [35]) (OwnG.alloc HO.out (.cells #[.int .u8 35] 5)) (ry_new wr 35 5) (by simp; omega) (by simp only [List.length_cons, List.length_nil]; omega)
              have HO4 := hide o4
              have HB4 := hide ((HB.out.alloc hbz (.cells #[.int .u8 35] 5)).trans ((Below.refl w.heap.size _).grown g4 (by simp; omega) (fun q hq => (OwnG.lt HO.out q hq).1)))
              clear o4 g4 b4
              go_wp2_with (at_builtin; refine wpList_app_run ?_ (.tmp 36) (.tmp 37) ?_ ?_ ?_ ?_ r4 ?_; exact rfl; exact rfl; exact rfl; exact rfl; exact rfl)
              go_roundw
              case rel => exact ⟨k + 2, _, by go_num, by omega, HO4.out, HS, by simp only [List.length_append, List.length_cons, List.length_nil]; omega, HB4.out⟩
              case measure => simp [intOf]; omega
            · have u35 : (((bt (bs l) (k + 1) : Nat) : Int) == 35) = false := by rw [show (35 : Int) = ((35 : Nat) : Int) from rfl, r35]; simpa using f35
              have HS := hide (show (a ++ [l.getD k 0]) ++ comm (l.drop (k + 1)) = C by rw [← HA.out, comm_else hkl e35 (fun c => f35 c.2.2)]; simp)
              clear q92 q35 r35 e35 e92 f35
              obtain ⟨v4, w4, r4, o4, g4, b4⟩ := run_appY (c := 1) (N := [(l.getD k 0)]) (OwnG.alloc HO.out (.cells #[.int .u8 (l.getD k 0).toNat] 5)) (ry_new wr (l.getD k 0) 5) (by simp; omega) (by simp only [List.length_cons, List.length_nil]; omega)
              have HO4 := hide o4
              have HB4 := hide ((HB.out.alloc hbz (.cells #[.int .u8 (l.getD k 0).toNat] 5)).trans ((Below.refl w.heap.size _).grown g4 (by simp; omega) (fun q hq => (OwnG.lt HO.out q hq).1)))
              clear o4 g4 b4
              rw [hc0] at r4
              clear hc0
              go_wp2_with (at_builtin; refine wpList_app_run ?_ (.tmp 11) (.tmp 15) ?_ ?_ ?_ ?_ r4 ?_; exact rfl; exact rfl; exact rfl; exact rfl; exact rfl)
              go_roundw
              case rel => exact ⟨k + 1, _, by go_num, by omega, HO4.out, HS, by simp only [List.length_append, List.length_cons, List.length_nil]; omega, HB4.out⟩
              case measure => simp [intOf]; omega
          · have hk2 : ¬ (k : Int) + 1 < ((bs l).size : Int) := by omega
            have hk3 : ((bs l).size : Int) ≤ (k : Int) + 1 := by omega
            have HS := hide (show (a ++ [l.getD k 0]) ++ comm (l.drop (k + 1)) = C by rw [← HA.out, comm_else hkl e35 (fun c => hk1 (by have := c.2.1; have := HZ.out; omega))]; simp)
            clear q92 q35 r35 e35 e92
            obtain ⟨v4, w4, r4, o4, g4, b4⟩ := run_appY (c := 1) (N := [(l.getD k 0)]) (OwnG.alloc HO.out (.cells #[.int .u8 (l.getD k 0).toNat] 5)) (ry_new wr (l.getD k 0) 5) (by simp; omega) (by simp only [List.length_cons, List.length_nil]; omega)
            have HO4 := hide o4
            have HB4 := hide ((HB.out.alloc hbz (.cells #[.int .u8 (l.getD k 0).toNat] 5)).trans ((Below.refl w.heap.size _).grown g4 (by simp; omega) (fun q hq => (OwnG.lt HO.out q hq).1)))
            clear o4 g4 b4
            rw [hc0] at r4
            clear hc0
            go_wp2_with (at_builtin; refine wpList_app_run ?_ (.tmp 11) (.tmp 15) ?_ ?_ ?_ ?_ r4 ?_; exact rfl; exact rfl; exact rfl; exact rfl; exact rfl)
            go_roundw
            case rel => exact ⟨k + 1, _, by go_num, by omega, HO4.out, HS, by simp only [List.length_append, List.length_cons, List.length_nil]; omega, HB4.out⟩
            case measure => simp [intOf]; omega
        · have t92 : (((bt (bs l) k : Nat) : Int) == 92) = false := by rw [show (92 : Int) = ((92 : Nat) : Int) from rfl, q92]; simpa using e92
          have HS := hide (show (a ++ [l.getD k 0]) ++ comm (l.drop (k + 1)) = C by rw [← HA.out, comm_else hkl e35 (fun c => e92 c.1)]; simp)
          clear q92 q35 r35 e35 e92
          obtain ⟨v4, w4, r4, o4, g4, b4⟩ := run_appY (c := 1) (N := [(l.getD k 0)]) (OwnG.alloc HO.out (.cells #[.int .u8 (l.getD k 0).toNat] 5)) (ry_new wr (l.getD k 0) 5) (by simp; omega) (by simp only [List.length_cons, List.length_nil]; omega)
          have HO4 := hide o4
          have HB4 := hide ((HB.out.alloc hbz (.cells #[.int .u8 (l.getD k 0).toNat] 5)).trans ((Below.refl w.heap.size _).grown g4 (by simp; omega) (fun q hq => (OwnG.lt HO.out q hq).1)))
          clear o4 g4 b4
          rw [hc0] at r4
          clear hc0
          go_wp2_with (at_builtin; refine wpList_app_run ?_ (.tmp 11) (.tmp 15) ?_ ?_ ?_ ?_ r4 ?_; exact rfl; exact rfl; exact rfl; exact rfl; exact rfl)
          go_roundw
          case rel => exact ⟨k + 1, _, by go_num, by omega, HO4.out, HS, by simp only [List.length_append, List.length_cons, List.length_nil]; omega, HB4.out⟩
          case measure => simp [intOf]; omega
    · obtain rfl : k = (bs l).size := by omega
      have ha : a = C := by
        have := HA.out
        rw [List.drop_of_length_le (by rw [HZ.out]; omega)] at this
        simpa [comm] using this
      subst ha
      have hcv := conv_Y HO.out
      go_wp2_with fail
      refine (HT.out _).mono ?_
      rintro e w2 ⟨rfl, hb2⟩
      have HB2 := hide (below_up HB.out hb2 HB.out.size)
      go_wp2
      rw [Exit.noGoto_ret]
      go_ret
      exact ⟨rfl, HB2.out⟩
end Go.Proofs.YtkocnbehogefnaaDoor
