/- Walks of package arith: fail, digits. -/
import Derived.Test.YtpjbklajjikgjaaDoorArithWalkA
import Derived.Test.YtpjbklajjikgjaaDoorArithMathB
namespace Go.Proofs.YtpjbklajjikgjaaDoor
open Go.RowKit Go.Deep
attribute [local go_sem] bt_eq

/-- the panic of an error -/
def pw (c : Nat) : List PanicEntry := [{ v := .iface 56 (.agg #[.int .i64 c]), recovered := false }]
set_option maxRecDepth 100000 in
set_option maxHeartbeats 400000 in
theorem fail_any (c : Nat) (w : World) : Calls Tryd.prog 52 #[.int .i64 c] w fun e w' => e = .panicked (pw c) ∧ w = w' := by
  go_enter Tryd.func52, Tryd.ntmps52
  go_wp2
  exact ⟨rfl, rfl, rfl⟩
theorem ret_ib {a b : Int} {p q : Bool} (h : a = b) (h' : p = q) : Ending.returned (.tuple #[.int .i64 a, .bool p]) = .returned (.tuple #[.int .i64 b, .bool q]) := by rw [h, h']
theorem toList_nil {s : ByteArray} (h : s.size = 0) : s.toList = [] := by
  rw [ByteArray.toList_eq]
  exact List.eq_nil_of_length_eq_zero (by simpa using h)
theorem toList_ne {s : ByteArray} (h : ¬ s.size = 0) : ¬ s.toList = [] := by
  rw [ByteArray.toList_eq]
  intro e
  exact h (by have := congrArg List.length e; simpa using this)
set_option maxRecDepth 100000 in
set_option maxHeartbeats 400000 in
theorem digits7_any (s : ByteArray) (w : World) (hs : s.size ≤ 9223372036854775807) : Calls Tryd.prog 57 #[.string s] w fun e w' => e = .returned (.tuple #[.int .i64 (dig2 s.data.toList).1, .bool (dig2 s.data.toList).2]) ∧ w = w' := by
  go_enter Tryd.func57, Tryd.ntmps57
  go_wp2
  go_loop [4, 8] (fun v4 v8 => ∃ (k : Nat) (n : Int), v8 = .int .i64 k ∧ k ≤ s.size ∧ v4 = .int .u64 n ∧ Hid (n = nU (s.data.toList.take k) ∧ (s.data.toList.take k).all Ar.dgl = true)) (fun _ v8 => s.size - (intOf v8).toNat)
  case atStart => exact ⟨0, 0, rfl, by omega, rfl, nU_nil.symm, rfl⟩
  case round =>
    obtain ⟨k, n, rfl, hk, rfl, HN⟩ := hrel
    by_cases hlt : k < s.size
    · have hbl := bt_lt s k
      have HT := hide (take_byte hlt)
      have HB := hide (bt_get hlt)
      cases hdg : dgB (bt s k) with
      | true =>
        have h4857 : 48 ≤ s[k].toNat ∧ s[k].toNat ≤ 57 := by rw [bt_get hlt, dgB_eq] at hdg; exact (dgl_iff _).1 hdg
        have h48 : 48 ≤ bt s k := by rw [bt_get hlt]; exact h4857.1
        have h57 : bt s k ≤ 57 := by rw [bt_get hlt]; exact h4857.2
        have HD := hide hdg
        have H4 := hide h4857
        clear hdg h4857
        go_wp2_with fail
        refine (digit_any (bt s k) _ hbl).mono ?_
        rintro e w' ⟨rfl, rfl⟩
        rw [HD.out]
        go_wp2
        go_round
        case rel => exact ⟨k + 1, _, by go_num, by omega, rfl, by rw [HT.out, nU_snoc _ _ H4.out.1, HN.out.1, HB.out], by rw [HT.out, List.all_append, HN.out.2]; simp [(dgl_iff _).2 H4.out]⟩
        case measure => simp [intOf]; omega
      | false =>
        have HD := hide hdg
        clear hdg
        have HE := hide (show dig2 s.data.toList = (0, false) by
          rw [dig2, if_neg]
          intro hall
          have h1 : s[k] ∈ s.data.toList := by
            have : s[k] ∈ s.data.toList.take (k + 1) := by rw [HT.out]; simp
            exact List.mem_of_mem_take this
          have h2 := List.all_eq_true.1 hall _ h1
          have h3 := HD.out
          rw [HB.out, dgB_eq, h2] at h3
          cases h3)
        go_wp2_with fail
        refine (digit_any (bt s k) _ hbl).mono ?_
        rintro e w' ⟨rfl, rfl⟩
        rw [HD.out]
        go_wp2
        go_ret2
        refine ⟨?_, rfl⟩
        rw [HE.out]
        rfl
    · obtain rfl : k = s.size := by omega
      have HE := hide (show dig2 s.data.toList = (nI s.data.toList, !s.data.toList.isEmpty) by
        rw [dig2, if_pos]
        have := HN.out.2
        rwa [List.take_of_length_le (by simp)] at this)
      have HW := hide (show wrap64 n = nI s.data.toList by
        rw [HN.out.1, List.take_of_length_le (by simp), nI_nU])
      by_cases h0 : s.size = 0
      · have hl := toList_nil h0
        have HL := hide (show s.data.toList.isEmpty = true by rw [← ByteArray.toList_eq, hl]; rfl)
        have H0 := hide h0
        clear h0
        go_wp2
        go_ret2
        exact ⟨ret_ib (by rw [HE.out]; exact HW.out) (by rw [HE.out, HL.out]; rfl), rfl⟩
      · have hl := toList_ne h0
        have HL := hide (show s.data.toList.isEmpty = false by
          cases h : s.data.toList.isEmpty with
          | false => rfl
          | true => exact absurd (by rw [ByteArray.toList_eq]; exact List.isEmpty_iff.1 h) hl)
        have hle : s.toList.isEmpty = false := by rw [ByteArray.toList_eq]; exact HL.out
        go_wp2
        go_ret2
        exact ⟨ret_ib (by rw [HE.out]; exact HW.out) (by rw [HE.out, HL.out]; rfl), rfl⟩
end Go.Proofs.YtpjbklajjikgjaaDoor
