/- Walk of the reference's At. -/
import Derived.Test.YtkajhdbcnmafcaaGreatDoorLinesMath
import Derived.Test.YtkajhdbcnmafcaaGreatDoorBs
import Derived.Test.YtkajhdbcnmafcaaGreatDoorBytesG
namespace Go.Proofs.YtkajhdbcnmafcaaGreatDoor
open Go.RowKit Go.Deep Ln
attribute [local go_sem] bt_eq

theorem getD_nat (l : T) (k : Nat) (n : Nat) (hn : n < 256) : ((((bt (bs l) k : Nat) : Int) == (n : Int))) = decide (l.getD k 0 = UInt8.ofNat n) := by
  rw [bt_bs, Bool.eq_iff_iff]
  simp only [beq_iff_eq, decide_eq_true_eq]
  constructor
  · intro h
    have : (l.getD k 0).toNat = n := by omega
    rw [← this]; simp
  · intro h
    rw [h]
    simp [UInt8.toNat_ofNat']
    omega
/-- where a byte is, from a place on -/
def ixFrom (l : T) (c : UInt8) (k : Nat) : Int := if Lib.indexByte (l.drop k) c = -1 then -1 else (k : Int) + Lib.indexByte (l.drop k) c
set_option maxRecDepth 100000 in
set_option maxHeartbeats 1000000 in
theorem rat0_any (l : T) (c : UInt8) (w : World) (h : l.length ≤ 900000) : Calls Tryz.prog 69 #[.string (bs l), .int .u8 c.toNat] w fun e w' => e = .returned (.int .i64 (Lib.indexByte l c)) ∧ w = w' := by
  have hz : (bs l).size = l.length := bs_size l
  have hz1 : (bs l).size ≤ 900000 := by omega
  have HZ := hide hz
  have HR0 := hide (show ixFrom l c 0 = Lib.indexByte l c by unfold ixFrom; rw [List.drop_zero]; split <;> omega)
  have hc256 : c.toNat < 256 := c.toNat_lt
  obtain ⟨R, hR⟩ : ∃ R, Lib.indexByte l c = R := ⟨_, rfl⟩
  rw [hR] at HR0 ⊢
  clear hz hR
  go_enter Tryz.func69, Tryz.ntmps69
  go_wp2
  go_loop [5] (fun v5 => ∃ k : Nat, v5 = .int .i64 k ∧ k ≤ (bs l).size ∧ Hid (ixFrom l c k = R)) (fun v5 => (bs l).size - (intOf v5).toNat)
  case atStart => exact ⟨0, rfl, by omega, HR0⟩
  case round =>
    obtain ⟨k, rfl, hk, HR⟩ := hrel
    by_cases hlt : k < (bs l).size
    · have hkl : k < l.length := by have := HZ.out; omega
      have q := getD_nat l k c.toNat hc256
      have hd : l.drop k = l.getD k 0 :: l.drop (k + 1) := by
        rw [List.drop_eq_getElem_cons hkl]; simp [hkl]
      by_cases he : l.getD k 0 = c
      · have g1 : (((bt (bs l) k : Nat) : Int) == ((c.toNat : Nat) : Int)) = true := by rw [q]; simpa using he
        have HE := hide (show (k : Int) = R by rw [← HR.out]; unfold ixFrom; rw [hd, Lib.indexByte, he]; simp)
        clear q hd he
        go_wp2
        go_ret
        refine ⟨?_, rfl⟩
        rw [← HE.out]
        rfl
      · have g1 : (((bt (bs l) k : Nat) : Int) == ((c.toNat : Nat) : Int)) = false := by rw [q]; simpa using he
        have HE := hide (show ixFrom l c (k + 1) = R by
          rw [← HR.out]
          unfold ixFrom
          have hne : (l.getD k 0 == c) = false := by simpa using he
          rw [hd, Lib.indexByte, hne]
          simp only [Bool.false_eq_true, if_false]
          have := ixb_ge c (l.drop (k + 1))
          by_cases h1 : Lib.indexByte (l.drop (k + 1)) c = -1
          · rw [h1]; rfl
          · have hb : (Lib.indexByte (l.drop (k + 1)) c == -1) = false := by simpa using h1
            rw [hb, if_neg h1]
            simp only [Bool.false_eq_true, if_false]
            rw [if_neg (by omega)]
            omega)
        clear q hd he
        go_wp2
        go_round
        case rel => exact ⟨k + 1, by go_num, by omega, HE⟩
        case measure => simp [intOf]; omega
    · have HE := hide (show (-1 : Int) = R by
        rw [← HR.out]
        unfold ixFrom
        rw [List.drop_of_length_le (by have := HZ.out; omega)]
        rfl)
      go_wp2
      go_ret
      refine ⟨?_, rfl⟩
      rw [← HE.out]
      rfl
end Go.Proofs.YtkajhdbcnmafcaaGreatDoor
