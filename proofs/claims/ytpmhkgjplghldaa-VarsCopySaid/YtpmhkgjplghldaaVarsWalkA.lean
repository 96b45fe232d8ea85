/- Walks of package vars: Start, Digit, Run, Name. -/
import Derived.Test.YtpmhkgjplghldaaQBaseB
namespace Go.Proofs.Ytpmhkgjplghldaa
open Go.RowKit Go.Deep
attribute [local go_sem] bt_eq

/-- may a byte begin a name? -/
def stB (c : Nat) : Bool := (decide (97 ≤ c) && decide (c ≤ 122)) || (decide (65 ≤ c) && decide (c ≤ 90)) || c == 95
def dgB (c : Nat) : Bool := decide (48 ≤ c) && decide (c ≤ 57)
/-- may byte k stand in a name? -/
def nmB (t : Nat → Nat) (k : Nat) : Bool := stB (t k) || (decide (0 < k) && dgB (t k))
/-- how far a name goes from k on -/
def nmF (t : Nat → Nat) (n : Nat) : Nat → Nat → Nat
  | 0, k => k
  | f + 1, k => if k < n ∧ nmB t k = true then nmF t n f (k + 1) else k
def nmRun (t : Nat → Nat) (n : Nat) : Nat := nmF t n n 0
theorem nmF_ge (t : Nat → Nat) (n : Nat) : ∀ f k, k ≤ nmF t n f k
  | 0, k => Nat.le_refl _
  | f + 1, k => by
    rw [nmF]
    split
    · exact Nat.le_trans (by omega) (nmF_ge t n f (k + 1))
    · exact Nat.le_refl _
theorem nmF_le (t : Nat → Nat) (n : Nat) : ∀ f k, k ≤ n → nmF t n f k ≤ n
  | 0, k, h => h
  | f + 1, k, h => by
    rw [nmF]
    split
    · rename_i hc
      exact nmF_le t n f (k + 1) (by omega)
    · exact h
/-- is a text a name? -/
def nmOk (t : Nat → Nat) (n : Nat) : Bool := decide (0 < n) && decide (n ≤ 60) && nmRun t n == n

theorem ret_bool {a b : Bool} (h : a = b) : Ending.returned (.bool a) = .returned (.bool b) := by rw [h]
set_option maxRecDepth 100000 in
set_option maxHeartbeats 400000 in
theorem start_any (c : Nat) (w : World) (hc : c < 256) : Calls Try.prog 27 #[.int .u8 c] w fun e w' => e = .returned (.bool (stB c)) ∧ w = w' := by
  go_enter Try.func27, Try.ntmps27
  go_wp2
  all_goals go_ret
  all_goals refine ⟨?_, rfl⟩
  all_goals
    go_light
    refine ret_bool ?_
    rw [Bool.eq_iff_iff]
    simp [stB, *]
    try omega
set_option maxRecDepth 100000 in
set_option maxHeartbeats 400000 in
theorem digit_any (c : Nat) (w : World) (hc : c < 256) : Calls Try.prog 28 #[.int .u8 c] w fun e w' => e = .returned (.bool (dgB c)) ∧ w = w' := by
  go_enter Try.func28, Try.ntmps28
  go_wp2
  all_goals go_ret
  all_goals refine ⟨?_, rfl⟩
  all_goals
    go_light
    refine ret_bool ?_
    rw [Bool.eq_iff_iff]
    simp [dgB, *]
    try omega
set_option maxRecDepth 100000 in
set_option maxHeartbeats 1000000 in
theorem nrun_any (s : ByteArray) (w : World) (hs : s.size ≤ 100000) : Calls Try.prog 21 #[.string s] w fun e w' => e = .returned (.int .i64 (nmRun (bt s) s.size : Nat)) ∧ w = w' := by
  go_enter Try.func21, Try.ntmps21
  go_wp2
  go_loop [3] (fun v3 => ∃ k f : Nat, v3 = .int .i64 k ∧ k ≤ s.size ∧ s.size ≤ k + f ∧ Hid (nmF (bt s) s.size f k = nmRun (bt s) s.size)) (fun v3 => s.size - (intOf v3).toNat)
  case atStart => exact ⟨0, s.size, rfl, by omega, by omega, rfl⟩
  case round =>
    obtain ⟨k, f, rfl, hk, hf, HR⟩ := hrel
    have hbl := bt_lt s k
    by_cases hlt : k < s.size
    · obtain ⟨f, rfl⟩ : ∃ f', f = f' + 1 := ⟨f - 1, by omega⟩
      have hnm : nmB (bt s) k = (stB (bt s k) || (decide (0 < k) && dgB (bt s k))) := rfl
      have HN := hide hnm
      clear hnm
      cases hst : stB (bt s k) with
      | true =>
        have HS := hide hst
        clear hst
        go_wp2_with fail
        refine (start_any (bt s k) _ hbl).mono ?_
        rintro e w' ⟨rfl, rfl⟩
        rw [HS.out]
        go_wp2
        go_round
        case rel => exact ⟨k + 1, f, by go_num, by omega, by omega, by have := HR.out; rw [nmF, if_pos ⟨hlt, by rw [HN.out, HS.out]; rfl⟩] at this; exact this⟩
        case measure => simp [intOf]; omega
      | false =>
        have HS := hide hst
        clear hst
        by_cases h0 : 0 < k
        · have hz : ((0 : Int) < (k : Int)) := by omega
          cases hdg : dgB (bt s k) with
          | true =>
            have HD := hide hdg
            clear hdg
            go_wp2_with fail
            refine (start_any (bt s k) _ hbl).mono ?_
            rintro e w' ⟨rfl, rfl⟩
            rw [HS.out]
            go_wp2_with fail
            refine (digit_any (bt s k) _ hbl).mono ?_
            rintro e w' ⟨rfl, rfl⟩
            rw [HD.out]
            go_wp2
            go_round
            case rel => exact ⟨k + 1, f, by go_num, by omega, by omega, by have := HR.out; rw [nmF, if_pos ⟨hlt, by rw [HN.out, HS.out, HD.out]; simp [h0]⟩] at this; exact this⟩
            case measure => simp [intOf]; omega
          | false =>
            have HD := hide hdg
            clear hdg
            go_wp2_with fail
            refine (start_any (bt s k) _ hbl).mono ?_
            rintro e w' ⟨rfl, rfl⟩
            rw [HS.out]
            go_wp2_with fail
            refine (digit_any (bt s k) _ hbl).mono ?_
            rintro e w' ⟨rfl, rfl⟩
            rw [HD.out]
            go_wp2
            go_ret
            refine ⟨?_, rfl⟩
            have := HR.out
            rw [nmF, if_neg (by rw [HN.out, HS.out, HD.out]; simp)] at this
            rw [← this]
            rfl
        · obtain rfl : k = 0 := by omega
          go_wp2_with fail
          refine (start_any (bt s 0) _ hbl).mono ?_
          rintro e w' ⟨rfl, rfl⟩
          rw [HS.out]
          go_wp2
          go_ret
          refine ⟨?_, rfl⟩
          have := HR.out
          rw [nmF, if_neg (by rw [HN.out, HS.out]; simp)] at this
          rw [← this]
          rfl
    · go_wp2
      go_ret
      refine ⟨?_, rfl⟩
      have := HR.out
      have e : nmF (bt s) s.size f k = k := by cases f <;> simp [nmF, hlt]
      rw [← this, e]
      rfl
set_option maxRecDepth 100000 in
set_option maxHeartbeats 400000 in
theorem name_any (s : ByteArray) (w : World) (hs : s.size ≤ 9223372036854775807) : Calls Try.prog 13 #[.string s] w fun e w' => e = .returned (.bool (nmOk (bt s) s.size)) ∧ w = w' := by
  have hl := nmF_le (bt s) s.size s.size 0 (by omega)
  by_cases h0 : s.size = 0
  · obtain rfl : s = ⟨#[]⟩ := ByteArray.ext (Array.eq_empty_of_size_eq_zero h0)
    go_enter Try.func13, Try.ntmps13
    go_wp2
    go_ret
    exact ⟨rfl, rfl⟩
  · have hne : (s.toList.isEmpty) = false := by
      rw [ByteArray.toList_eq]
      cases h : s.data.toList with
      | nil => exact absurd (by have := congrArg List.length h; simpa using this) h0
      | cons a l => rfl
    have hne2 : ¬ (s.toList = []) := fun h => by rw [h] at hne; cases hne
    by_cases h6 : s.size ≤ 60
    · have hok : nmOk (bt s) s.size = (nmRun (bt s) s.size == s.size) := by
        rw [nmOk, decide_eq_true (by omega), decide_eq_true h6]; rfl
      have HOK := hide hok
      clear hok
      have hcast : (((nmRun (bt s) s.size : Nat) : Int) == ((s.size : Nat) : Int)) = (nmRun (bt s) s.size == s.size) := by
        rw [Bool.eq_iff_iff]; simp only [beq_iff_eq]; omega
      have HC := hide hcast
      clear hcast
      go_enter Try.func13, Try.ntmps13
      go_wp2_with fail
      refine (nrun_any s w (by omega)).mono ?_
      rintro e w' ⟨rfl, rfl⟩
      go_wp2
      go_ret
      refine ⟨?_, rfl⟩
      rw [HOK.out, ← HC.out]
      rfl
    · have hok : nmOk (bt s) s.size = false := by simp [nmOk, h6]
      have HOK := hide hok
      clear hok
      go_enter Try.func13, Try.ntmps13
      go_wp2
      go_ret
      refine ⟨?_, rfl⟩
      rw [HOK.out]
      rfl
end Go.Proofs.Ytpmhkgjplghldaa
