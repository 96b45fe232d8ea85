/- Walks of the reference's names: letter, Digit, NameLen, Name, At. -/
import Derived.Test.YtpmhkgjplghldaaVarsWalkA
import Derived.Lib.Bytealg
import Derived.Lib.IndexLaws
namespace Go.Proofs.Ytpmhkgjplghldaa
open Go.RowKit Go.Deep
attribute [local go_sem] bt_eq

set_option maxRecDepth 100000 in
set_option maxHeartbeats 400000 in
theorem rletter_any (c : Nat) (w : World) (hc : c < 256) : Calls Try.prog 29 #[.int .u8 c] w fun e w' => e = .returned (.bool (stB c)) ∧ w = w' := by
  go_enter Try.func29, Try.ntmps29
  go_wp2
  all_goals go_ret
  all_goals refine ⟨?_, rfl⟩
  all_goals
    go_light
    refine ret_bool ?_
    rw [Bool.eq_iff_iff]
    simp [stB, *]
    try omega
set_option maxRecDepth 100000 in
set_option maxHeartbeats 400000 in
theorem rdigit_any (c : Nat) (w : World) (hc : c < 256) : Calls Try.prog 30 #[.int .u8 c] w fun e w' => e = .returned (.bool (dgB c)) ∧ w = w' := by
  go_enter Try.func30, Try.ntmps30
  go_wp2
  all_goals go_ret
  all_goals refine ⟨?_, rfl⟩
  all_goals
    go_light
    refine ret_bool ?_
    rw [Bool.eq_iff_iff]
    simp [dgB, *]
    try omega
/-- the bytes from i on -/
def shB (t : Nat → Nat) (i : Nat) : Nat → Nat := fun j => t (i + j)
set_option maxRecDepth 100000 in
set_option maxHeartbeats 1000000 in
theorem rlen_any (s : ByteArray) (i : Nat) (w : World) (hs : s.size ≤ 100000) (hi : i ≤ s.size) : Calls Try.prog 22 #[.string s, .int .i64 i] w fun e w' => e = .returned (.int .i64 (nmRun (shB (bt s) i) (s.size - i) : Nat)) ∧ w = w' := by
  obtain ⟨m, hm⟩ : ∃ m, s.size = i + m := ⟨s.size - i, by omega⟩
  have HM := hide hm
  rw [show s.size - i = m from by omega]
  clear hm
  go_enter Try.func22, Try.ntmps22
  go_wp2
  go_loop [5] (fun v5 => ∃ k f : Nat, v5 = .int .i64 k ∧ k ≤ m ∧ m ≤ k + f ∧ Hid (nmF (shB (bt s) i) m f k = nmRun (shB (bt s) i) m)) (fun v5 => m - (intOf v5).toNat)
  case atStart => exact ⟨0, m, rfl, by omega, by omega, rfl⟩
  case round =>
    obtain ⟨k, f, rfl, hk, hf, HR⟩ := hrel
    have hsz := HM.out
    have hbl := bt_lt s (i + k)
    have hkb : (i : Int) + (k : Int) ≤ 100000 := by omega
    by_cases hlt : k < m
    · obtain ⟨f, rfl⟩ : ∃ f', f = f' + 1 := ⟨f - 1, by omega⟩
      have g1 : (i : Int) + (k : Int) < (s.size : Int) := by omega
      have g2 : i + k < s.size := by omega
      have hnm : nmB (shB (bt s) i) k = (stB (bt s (i + k)) || (decide (0 < k) && dgB (bt s (i + k)))) := rfl
      have HN := hide hnm
      clear hnm hsz
      cases hst : stB (bt s (i + k)) with
      | true =>
        have HS := hide hst
        clear hst
        go_wp2_with fail
        refine (rletter_any (bt s (i + k)) _ hbl).mono ?_
        rintro e w' ⟨rfl, rfl⟩
        rw [HS.out]
        go_wp2
        go_round
        case rel => exact ⟨k + 1, f, by go_num, by omega, by omega, by have := HR.out; rw [nmF, if_pos ⟨hlt, by rw [HN.out, HS.out]; rfl⟩] at this; exact this⟩
        case measure => simp [intOf]; omega
      | false =>
        have HS := hide hst
        clear hst
        by_cases h0 : 0 < k
        · have hz : ((0 : Int) < (k : Int)) := by omega
          cases hdg : dgB (bt s (i + k)) with
          | true =>
            have HD := hide hdg
            clear hdg
            go_wp2_with fail
            refine (rletter_any (bt s (i + k)) _ hbl).mono ?_
            rintro e w' ⟨rfl, rfl⟩
            rw [HS.out]
            go_wp2_with fail
            refine (rdigit_any (bt s (i + k)) _ hbl).mono ?_
            rintro e w' ⟨rfl, rfl⟩
            rw [HD.out]
            go_wp2
            go_round
            case rel => exact ⟨k + 1, f, by go_num, by omega, by omega, by have := HR.out; rw [nmF, if_pos ⟨hlt, by rw [HN.out, HS.out, HD.out]; simp [h0]⟩] at this; exact this⟩
            case measure => simp [intOf]; omega
          | false =>
            have HD := hide hdg
            clear hdg
            go_wp2_with fail
            refine (rletter_any (bt s (i + k)) _ hbl).mono ?_
            rintro e w' ⟨rfl, rfl⟩
            rw [HS.out]
            go_wp2_with fail
            refine (rdigit_any (bt s (i + k)) _ hbl).mono ?_
            rintro e w' ⟨rfl, rfl⟩
            rw [HD.out]
            go_wp2
            go_ret
            refine ⟨?_, rfl⟩
            have := HR.out
            rw [nmF, if_neg (by rw [HN.out, HS.out, HD.out]; simp)] at this
            rw [← this]
            rfl
        · obtain rfl : k = 0 := by omega
          go_wp2_with fail
          refine (rletter_any (bt s (i + 0)) _ hbl).mono ?_
          rintro e w' ⟨rfl, rfl⟩
          rw [HS.out]
          go_wp2
          go_ret
          refine ⟨?_, rfl⟩
          have := HR.out
          rw [nmF, if_neg (by rw [HN.out, HS.out]; simp)] at this
          rw [← this]
          rfl
    · have g1 : (s.size : Int) ≤ (i : Int) + (k : Int) := by omega
      clear hsz
      go_wp2
      go_ret
      refine ⟨?_, rfl⟩
      have := HR.out
      have e : nmF (shB (bt s) i) m f k = k := by cases f <;> simp [nmF, hlt]
      rw [← this, e]
      rfl
end Go.Proofs.Ytpmhkgjplghldaa
