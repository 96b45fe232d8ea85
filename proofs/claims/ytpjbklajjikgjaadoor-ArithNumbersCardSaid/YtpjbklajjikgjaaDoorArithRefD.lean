/- Walks of the reference's arith: level, number. -/
import Derived.Test.YtpjbklajjikgjaaDoorArithRefC
namespace Go.Proofs.YtpjbklajjikgjaaDoor
open Go.RowKit Go.Deep

set_option maxRecDepth 100000 in
set_option maxHeartbeats 2000000 in
theorem rlev0 (w : World) : Calls Tryd.prog 28 #[.string ⟨#[]⟩] w fun e w' => e = .returned (.int .i64 (Ar.lev 0 : Nat)) ∧ w = w' := by
  go_enter Tryd.func28, Tryd.ntmps28
  go_wp2
  go_ret
  exact ⟨rfl, rfl⟩
set_option maxRecDepth 100000 in
set_option maxHeartbeats 2000000 in
theorem rlev1 (w : World) : Calls Tryd.prog 28 #[.string ⟨#[124, 124]⟩] w fun e w' => e = .returned (.int .i64 (Ar.lev 1 : Nat)) ∧ w = w' := by
  go_enter Tryd.func28, Tryd.ntmps28
  go_wp2
  go_ret
  exact ⟨rfl, rfl⟩
set_option maxRecDepth 100000 in
set_option maxHeartbeats 2000000 in
theorem rlev2 (w : World) : Calls Tryd.prog 28 #[.string ⟨#[38, 38]⟩] w fun e w' => e = .returned (.int .i64 (Ar.lev 2 : Nat)) ∧ w = w' := by
  go_enter Tryd.func28, Tryd.ntmps28
  go_wp2
  go_ret
  exact ⟨rfl, rfl⟩
set_option maxRecDepth 100000 in
set_option maxHeartbeats 2000000 in
theorem rlev3 (w : World) : Calls Tryd.prog 28 #[.string ⟨#[124]⟩] w fun e w' => e = .returned (.int .i64 (Ar.lev 3 : Nat)) ∧ w = w' := by
  go_enter Tryd.func28, Tryd.ntmps28
  go_wp2
  go_ret
  exact ⟨rfl, rfl⟩
set_option maxRecDepth 100000 in
set_option maxHeartbeats 2000000 in
theorem rlev4 (w : World) : Calls Tryd.prog 28 #[.string ⟨#[94]⟩] w fun e w' => e = .returned (.int .i64 (Ar.lev 4 : Nat)) ∧ w = w' := by
  go_enter Tryd.func28, Tryd.ntmps28
  go_wp2
  go_ret
  exact ⟨rfl, rfl⟩
set_option maxRecDepth 100000 in
set_option maxHeartbeats 2000000 in
theorem rlev5 (w : World) : Calls Tryd.prog 28 #[.string ⟨#[38]⟩] w fun e w' => e = .returned (.int .i64 (Ar.lev 5 : Nat)) ∧ w = w' := by
  go_enter Tryd.func28, Tryd.ntmps28
  go_wp2
  go_ret
  exact ⟨rfl, rfl⟩
set_option maxRecDepth 100000 in
set_option maxHeartbeats 2000000 in
theorem rlev6 (w : World) : Calls Tryd.prog 28 #[.string ⟨#[61, 61]⟩] w fun e w' => e = .returned (.int .i64 (Ar.lev 6 : Nat)) ∧ w = w' := by
  go_enter Tryd.func28, Tryd.ntmps28
  go_wp2
  go_ret
  exact ⟨rfl, rfl⟩
set_option maxRecDepth 100000 in
set_option maxHeartbeats 2000000 in
theorem rlev7 (w : World) : Calls Tryd.prog 28 #[.string ⟨#[33, 61]⟩] w fun e w' => e = .returned (.int .i64 (Ar.lev 7 : Nat)) ∧ w = w' := by
  go_enter Tryd.func28, Tryd.ntmps28
  go_wp2
  go_ret
  exact ⟨rfl, rfl⟩
set_option maxRecDepth 100000 in
set_option maxHeartbeats 2000000 in
theorem rlev8 (w : World) : Calls Tryd.prog 28 #[.string ⟨#[60, 61]⟩] w fun e w' => e = .returned (.int .i64 (Ar.lev 8 : Nat)) ∧ w = w' := by
  go_enter Tryd.func28, Tryd.ntmps28
  go_wp2
  go_ret
  exact ⟨rfl, rfl⟩
set_option maxRecDepth 100000 in
set_option maxHeartbeats 2000000 in
theorem rlev9 (w : World) : Calls Tryd.prog 28 #[.string ⟨#[62, 61]⟩] w fun e w' => e = .returned (.int .i64 (Ar.lev 9 : Nat)) ∧ w = w' := by
  go_enter Tryd.func28, Tryd.ntmps28
  go_wp2
  go_ret
  exact ⟨rfl, rfl⟩
set_option maxRecDepth 100000 in
set_option maxHeartbeats 2000000 in
theorem rlev10 (w : World) : Calls Tryd.prog 28 #[.string ⟨#[60]⟩] w fun e w' => e = .returned (.int .i64 (Ar.lev 10 : Nat)) ∧ w = w' := by
  go_enter Tryd.func28, Tryd.ntmps28
  go_wp2
  go_ret
  exact ⟨rfl, rfl⟩
set_option maxRecDepth 100000 in
set_option maxHeartbeats 2000000 in
theorem rlev11 (w : World) : Calls Tryd.prog 28 #[.string ⟨#[62]⟩] w fun e w' => e = .returned (.int .i64 (Ar.lev 11 : Nat)) ∧ w = w' := by
  go_enter Tryd.func28, Tryd.ntmps28
  go_wp2
  go_ret
  exact ⟨rfl, rfl⟩
set_option maxRecDepth 100000 in
set_option maxHeartbeats 2000000 in
theorem rlev12 (w : World) : Calls Tryd.prog 28 #[.string ⟨#[60, 60]⟩] w fun e w' => e = .returned (.int .i64 (Ar.lev 12 : Nat)) ∧ w = w' := by
  go_enter Tryd.func28, Tryd.ntmps28
  go_wp2
  go_ret
  exact ⟨rfl, rfl⟩
set_option maxRecDepth 100000 in
set_option maxHeartbeats 2000000 in
theorem rlev13 (w : World) : Calls Tryd.prog 28 #[.string ⟨#[62, 62]⟩] w fun e w' => e = .returned (.int .i64 (Ar.lev 13 : Nat)) ∧ w = w' := by
  go_enter Tryd.func28, Tryd.ntmps28
  go_wp2
  go_ret
  exact ⟨rfl, rfl⟩
set_option maxRecDepth 100000 in
set_option maxHeartbeats 2000000 in
theorem rlev14 (w : World) : Calls Tryd.prog 28 #[.string ⟨#[43]⟩] w fun e w' => e = .returned (.int .i64 (Ar.lev 14 : Nat)) ∧ w = w' := by
  go_enter Tryd.func28, Tryd.ntmps28
  go_wp2
  go_ret
  exact ⟨rfl, rfl⟩
set_option maxRecDepth 100000 in
set_option maxHeartbeats 2000000 in
theorem rlev15 (w : World) : Calls Tryd.prog 28 #[.string ⟨#[45]⟩] w fun e w' => e = .returned (.int .i64 (Ar.lev 15 : Nat)) ∧ w = w' := by
  go_enter Tryd.func28, Tryd.ntmps28
  go_wp2
  go_ret
  exact ⟨rfl, rfl⟩
set_option maxRecDepth 100000 in
set_option maxHeartbeats 2000000 in
theorem rlev16 (w : World) : Calls Tryd.prog 28 #[.string ⟨#[42]⟩] w fun e w' => e = .returned (.int .i64 (Ar.lev 16 : Nat)) ∧ w = w' := by
  go_enter Tryd.func28, Tryd.ntmps28
  go_wp2
  go_ret
  exact ⟨rfl, rfl⟩
set_option maxRecDepth 100000 in
set_option maxHeartbeats 2000000 in
theorem rlev17 (w : World) : Calls Tryd.prog 28 #[.string ⟨#[47]⟩] w fun e w' => e = .returned (.int .i64 (Ar.lev 17 : Nat)) ∧ w = w' := by
  go_enter Tryd.func28, Tryd.ntmps28
  go_wp2
  go_ret
  exact ⟨rfl, rfl⟩
set_option maxRecDepth 100000 in
set_option maxHeartbeats 2000000 in
theorem rlev18 (w : World) : Calls Tryd.prog 28 #[.string ⟨#[37]⟩] w fun e w' => e = .returned (.int .i64 (Ar.lev 18 : Nat)) ∧ w = w' := by
  go_enter Tryd.func28, Tryd.ntmps28
  go_wp2
  go_ret
  exact ⟨rfl, rfl⟩
set_option maxRecDepth 100000 in
set_option maxHeartbeats 2000000 in
theorem rlev19 (w : World) : Calls Tryd.prog 28 #[.string ⟨#[33]⟩] w fun e w' => e = .returned (.int .i64 (Ar.lev 19 : Nat)) ∧ w = w' := by
  go_enter Tryd.func28, Tryd.ntmps28
  go_wp2
  go_ret
  exact ⟨rfl, rfl⟩
set_option maxRecDepth 100000 in
set_option maxHeartbeats 2000000 in
theorem rlev20 (w : World) : Calls Tryd.prog 28 #[.string ⟨#[126]⟩] w fun e w' => e = .returned (.int .i64 (Ar.lev 20 : Nat)) ∧ w = w' := by
  go_enter Tryd.func28, Tryd.ntmps28
  go_wp2
  go_ret
  exact ⟨rfl, rfl⟩
set_option maxRecDepth 100000 in
set_option maxHeartbeats 2000000 in
theorem rlev21 (w : World) : Calls Tryd.prog 28 #[.string ⟨#[40]⟩] w fun e w' => e = .returned (.int .i64 (Ar.lev 21 : Nat)) ∧ w = w' := by
  go_enter Tryd.func28, Tryd.ntmps28
  go_wp2
  go_ret
  exact ⟨rfl, rfl⟩
set_option maxRecDepth 100000 in
set_option maxHeartbeats 2000000 in
theorem rlev22 (w : World) : Calls Tryd.prog 28 #[.string ⟨#[41]⟩] w fun e w' => e = .returned (.int .i64 (Ar.lev 22 : Nat)) ∧ w = w' := by
  go_enter Tryd.func28, Tryd.ntmps28
  go_wp2
  go_ret
  exact ⟨rfl, rfl⟩
theorem rlev_any (c : Nat) (h1 : c ≤ 22) (w : World) : Calls Tryd.prog 28 #[.string (opS c)] w fun e w' => e = .returned (.int .i64 (Ar.lev c : Nat)) ∧ w = w' := by
  match c, h1 with
  | 0, _ => exact rlev0 w
  | 1, _ => exact rlev1 w
  | 2, _ => exact rlev2 w
  | 3, _ => exact rlev3 w
  | 4, _ => exact rlev4 w
  | 5, _ => exact rlev5 w
  | 6, _ => exact rlev6 w
  | 7, _ => exact rlev7 w
  | 8, _ => exact rlev8 w
  | 9, _ => exact rlev9 w
  | 10, _ => exact rlev10 w
  | 11, _ => exact rlev11 w
  | 12, _ => exact rlev12 w
  | 13, _ => exact rlev13 w
  | 14, _ => exact rlev14 w
  | 15, _ => exact rlev15 w
  | 16, _ => exact rlev16 w
  | 17, _ => exact rlev17 w
  | 18, _ => exact rlev18 w
  | 19, _ => exact rlev19 w
  | 20, _ => exact rlev20 w
  | 21, _ => exact rlev21 w
  | 22, _ => exact rlev22 w
  | c + 23, h => omega
set_option maxRecDepth 100000 in
set_option maxHeartbeats 2000000 in
theorem number_any (s : ByteArray) (w : World) (hs : s.size ≤ 9223372036854775807) (hd : s.data.toList.all Ar.dgl = true) : Calls Tryd.prog 49 #[.string s] w fun e w' => e = .returned (.int .i64 (nI s.data.toList)) ∧ w = w' := by
  have HD := hide hd
  clear hd
  go_enter Tryd.func49, Tryd.ntmps49
  go_wp2
  go_loop [3, 4] (fun v3 v4 => ∃ (k : Nat) (n : Int), v4 = .int .i64 k ∧ k ≤ s.size ∧ v3 = .int .i64 n ∧ Hid (n = nI (s.data.toList.take k))) (fun _ v4 => s.size - (intOf v4).toNat)
  case atStart => exact ⟨0, 0, rfl, by omega, rfl, nI_nil.symm⟩
  case round =>
    obtain ⟨k, n, rfl, hk, rfl, HN⟩ := hrel
    by_cases hlt : k < s.size
    · have HT := hide (take_byte hlt)
      have H4 := hide ((dgl_iff s[k]).1 (List.all_eq_true.1 HD.out _ (by
        have : s[k] ∈ s.data.toList.take (k + 1) := by rw [HT.out]; simp
        exact List.mem_of_mem_take this)))
      have hb256 := s[k].toNat_lt
      go_wp2
      go_round
      case rel => exact ⟨k + 1, _, by go_num, by omega, rfl, by rw [HT.out, nI_snoc _ _ H4.out.1, HN.out]; exact rfl⟩
      case measure => simp [intOf]; omega
    · obtain rfl : k = s.size := by omega
      have HF := hide (show n = nI s.data.toList by rw [HN.out, List.take_of_length_le (by simp)])
      go_wp2
      go_ret
      exact ⟨ret_i HF.out, rfl⟩
end Go.Proofs.YtpjbklajjikgjaaDoor
