/- Walk of the reference's comment. -/
import Derived.Test.YtkocnbehogefnaaDoorLinesRefB
namespace Go.Proofs.YtkocnbehogefnaaDoor
open Go.RowKit Go.Deep Ln
attribute [local go_sem] bt_eq

theorem take_one {l : T} {k : Nat} (h : k < l.length) : (l.drop k).take 1 = [l.getD k 0] := by
  rw [List.drop_eq_getElem_cons h, List.take_succ_cons, List.take_zero]
  simp [h]
set_option maxRecDepth 100000 in
set_option maxHeartbeats 4000000 in
theorem rcomment_any (l : T) (w : World) (h : l.length ≤ 900000) : Calls Tryd.prog 20 #[.string (bs l)] w fun e w' => e = .returned (.string (bs (comm l))) ∧ w = w' := by
  have hz : (bs l).size = l.length := bs_size l
  have hz1 : (bs l).size ≤ 900000 := by omega
  have HZ := hide hz
  obtain ⟨C, hC⟩ : ∃ C, comm l = C := ⟨_, rfl⟩
  have HC := hide hC
  rw [hC]
  clear hz hC
  go_enter Tryd.func20, Tryd.ntmps20
  go_wp2
  go_loop [3, 4] (fun v3 v4 => ∃ (k : Nat) (a : T), v3 = .string (bs a) ∧ v4 = .int .i64 k ∧ k ≤ (bs l).size ∧ Hid (a ++ comm (l.drop k) = C) ∧ a.length ≤ k) (fun _ v4 => (bs l).size - (intOf v4).toNat)
  case atStart => exact ⟨0, [], rfl, rfl, by omega, hide HC.out, by simp⟩
  case round =>
    obtain ⟨k, a, rfl, rfl, hk, HA, hal⟩ := hrel
    have haz : (bs a).size ≤ 900000 := by rw [bs_size]; omega
    by_cases hlt : k < (bs l).size
    · have hkl : k < l.length := by have := HZ.out; omega
      have hk0 : (0 : Int) ≤ (k : Int) := by omega
      have q92 := getD_nat l k 92 (by omega)
      have q35 := getD_nat l k 35 (by omega)
      have r35 := getD_nat l (k + 1) 35 (by omega)
      by_cases e35 : l.getD k 0 = 35
      · have n92 : ¬ l.getD k 0 = 92 := fun e => by rw [e35] at e; revert e; decide
        have t92 : (((bt (bs l) k : Nat) : Int) == 92) = false := by rw [show (92 : Int) = ((92 : Nat) : Int) from rfl, q92]; simpa using n92
        have t35 : (((bt (bs l) k : Nat) : Int) == 35) = true := by rw [show (35 : Int) = ((35 : Nat) : Int) from rfl, q35]; simpa using e35
        have ha : a = C := by
          have := HA.out
          rw [comm_hash hkl e35] at this
          simpa using this
        subst ha
        clear q92 q35 r35 e35 n92
        go_wp2
        go_ret
        exact ⟨rfl, rfl⟩
      · have t35 : (((bt (bs l) k : Nat) : Int) == 35) = false := by rw [show (35 : Int) = ((35 : Nat) : Int) from rfl, q35]; simpa using e35
        have HCC := hide (show bs a ++ (bs l).extract k (k + 1) = bs (a ++ [l.getD k 0]) by rw [ext_bs, bs_app, show k + 1 - k = 1 from by omega, take_one hkl])
        by_cases e92 : l.getD k 0 = 92
        · have t92 : (((bt (bs l) k : Nat) : Int) == 92) = true := by rw [show (92 : Int) = ((92 : Nat) : Int) from rfl, q92]; simpa using e92
          by_cases hk1 : k + 1 < (bs l).size
          · have hk2 : (k : Int) + 1 < ((bs l).size : Int) := by omega
            by_cases f35 : l.getD (k + 1) 0 = 35
            · have u35 : (((bt (bs l) (k + 1) : Nat) : Int) == 35) = true := by rw [show (35 : Int) = ((35 : Nat) : Int) from rfl, r35]; simpa using f35
              have HS := hide (show (a ++ [35]) ++ comm (l.drop (k + 2)) = C by rw [← HA.out, comm_esc (by have := HZ.out; omega) e92 f35]; simp)
              clear HCC
              have HCC := hide (show bs a ++ (⟨#[35]⟩ : ByteArray) = bs (a ++ [35]) by rw [show (⟨#[35]⟩ : ByteArray) = bs [35] from rfl, bs_app])
              clear q92 q35 r35 e35 e92 f35
              go_wp2_with fail
              rw [HCC.out]
              go_round
              case rel => exact ⟨k + 2, _, rfl, by go_num, by omega, HS, by simp only [List.length_append, List.length_cons, List.length_nil]; omega⟩
              case measure => simp [intOf]; omega
            · have u35 : (((bt (bs l) (k + 1) : Nat) : Int) == 35) = false := by rw [show (35 : Int) = ((35 : Nat) : Int) from rfl, r35]; simpa using f35
              have HS := hide (show (a ++ [l.getD k 0]) ++ comm (l.drop (k + 1)) = C by rw [← HA.out, comm_else hkl e35 (fun c => f35 c.2.2)]; simp)
              clear q92 q35 r35 e35 e92 f35
              go_wp2_with fail
              rw [HCC.out]
              go_round
              case rel => exact ⟨k + 1, _, rfl, by go_num, by omega, HS, by simp only [List.length_append, List.length_cons, List.length_nil]; omega⟩
              case measure => simp [intOf]; omega
          · have hk2 : ¬ (k : Int) + 1 < ((bs l).size : Int) := by omega
            have hk3 : ((bs l).size : Int) ≤ (k : Int) + 1 := by omega
            have HS := hide (show (a ++ [l.getD k 0]) ++ comm (l.drop (k + 1)) = C by rw [← HA.out, comm_else hkl e35 (fun c => hk1 (by have := c.2.1; have := HZ.out; omega))]; simp)
            clear q92 q35 r35 e35 e92
            go_wp2_with fail
            rw [HCC.out]
            go_round
            case rel => exact ⟨k + 1, _, rfl, by go_num, by omega, HS, by simp only [List.length_append, List.length_cons, List.length_nil]; omega⟩
            case measure => simp [intOf]; omega
        · have t92 : (((bt (bs l) k : Nat) : Int) == 92) = false := by rw [show (92 : Int) = ((92 : Nat) : Int) from rfl, q92]; simpa using e92
          have HS := hide (show (a ++ [l.getD k 0]) ++ comm (l.drop (k + 1)) = C by rw [← HA.out, comm_else hkl e35 (fun c => e92 c.1)]; simp)
          clear q92 q35 r35 e35 e92
          go_wp2_with fail
          rw [HCC.out]
          go_round
          case rel => exact ⟨k + 1, _, rfl, by go_num, by omega, HS, by simp only [List.length_append, List.length_cons, List.length_nil]; omega⟩
          case measure => simp [intOf]; omega
    · obtain rfl : k = (bs l).size := by omega
      have ha : a = C := by
        have := HA.out
        rw [List.drop_of_length_le (by rw [HZ.out]; omega)] at this
        simpa [comm] using this
      subst ha
      go_wp2
      go_ret
      exact ⟨rfl, rfl⟩
end Go.Proofs.YtkocnbehogefnaaDoor
