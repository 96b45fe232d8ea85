/- Walks of package strip's first and of the reference's off. -/
import Derived.Test.YthlboecjlelemaaQBaseB
import Derived.Test.YthlboecjlelemaaStripPlain
namespace Go.Proofs.Ythlboecjlelemaa
open Go.RowKit Go.Deep Qm.Glob
set_option maxRecDepth 100000 in
set_option maxHeartbeats 1000000 in
theorem first_any (g n : Nat) (f : Nat → Bool) (most : Bool) (w : World) (hn : n ≤ 100000) (hr : w.rowIs g 4 n (fun i => .bool (f i))) :
    Calls Try.prog 43 #[.slice (some ⟨g, 0, none⟩) n n, .bool most] w fun e w' => e = .returned (.int .i64 ((pickO f most n).getD 0 : Nat)) ∧ w = w' := by
  have HR := hide hr
  clear hr
  go_enter Try.func43, Try.ntmps43
  go_wp2
  go_step3
  go_wp2
  go_step3
  go_wp2
  go_loop [5, 10] (fun v5 v10 => ∃ k : Nat, v10 = .int .i64 k ∧ k ≤ n ∧ v5 = .int .i64 ((pickO f most k).getD 0 : Nat) ∧ Hid (most = false → pickO f most k = none)) (fun _ v10 => n - (intOf v10).toNat)
  case atStart => exact ⟨0, rfl, by omega, rfl, fun _ => rfl⟩
  case round =>
    obtain ⟨k, rfl, hk, rfl, HP⟩ := hrel
    by_cases hlt : k < n
    · have hcell := HR.out.cell hlt
      cases hf : f k with
      | false =>
        rw [hf] at hcell
        have HF := hide hf
        clear hf
        go_wp2
        go_round
        case rel =>
          have e : pickO f most (k + 1) = pickO f most k := by
            rw [pickO, HF.out]
            cases most
            · cases h : pickO f false k <;> simp
            · simp
          exact ⟨k + 1, by go_num, by omega, by rw [e], fun h => by rw [e]; exact HP.out h⟩
        case measure => simp [intOf]; omega
      | true =>
        rw [hf] at hcell
        have HF := hide hf
        clear hf
        cases most with
        | true =>
          go_wp2
          go_round
          case rel => exact ⟨k + 1, by go_num, by omega, by simp [pickO, HF.out], fun h => by cases h⟩
          case measure => simp [intOf]; omega
        | false =>
          go_wp2
          go_ret
          refine ⟨?_, rfl⟩
          have e : pickO f false (k + 1) = some k := by rw [pickO, HP.out (by trivial), HF.out]; simp
          have e2 : pickO f false n = some k := by
            have := pickO_stay e (n - (k + 1))
            rwa [show k + 1 + (n - (k + 1)) = n from by omega] at this
          rw [e2]
          rfl
    · obtain rfl : k = n := by omega
      go_wp2
      go_ret
      exact ⟨rfl, rfl⟩
def pickI (o : Option Nat) : Int := match o with
  | some i => (i : Int)
  | none => -1

set_option maxRecDepth 100000 in
set_option maxHeartbeats 1000000 in
theorem off_any (g n : Nat) (f : Nat → Bool) (most : Bool) (w : World) (hn : n ≤ 100000) (hr : w.rowIs g 4 n (fun i => .bool (f i))) :
    Calls Try.prog 46 #[.slice (some ⟨g, 0, none⟩) n n, .bool most] w fun e w' => e = .returned (.int .i64 (pickI (pickO f most n))) ∧ w = w' := by
  have HR := hide hr
  clear hr
  go_enter Try.func46, Try.ntmps46
  go_wp2
  go_loop [5, 6] (fun v5 v6 => ∃ k : Nat, v6 = .int .i64 k ∧ k ≤ n ∧ v5 = .int .i64 (pickI (pickO f most k))) (fun _ v6 => n - (intOf v6).toNat)
  case atStart => exact ⟨0, rfl, by omega, rfl⟩
  case round =>
    obtain ⟨k, rfl, hk, rfl⟩ := hrel
    by_cases hlt : k < n
    · have hcell := HR.out.cell hlt
      have hs : pickO f most (k + 1) = if most then (if f k then some k else pickO f most k) else (match pickO f most k with
        | some i => some i
        | none => if f k then some k else none) := rfl
      have HS := hide hs
      clear hs
      cases hf : f k with
      | false =>
        rw [hf] at hcell
        have HF := hide hf
        clear hf
        go_wp2
        go_round
        case rel =>
          have e : pickO f most (k + 1) = pickO f most k := by
            rw [HS.out, HF.out]
            cases most
            · cases h : pickO f false k <;> simp
            · simp
          exact ⟨k + 1, by go_num, by omega, by rw [e]⟩
        case measure => simp [intOf]; omega
      | true =>
        rw [hf] at hcell
        have HF := hide hf
        clear hf
        cases ho : pickO f most k with
        | none =>
          simp only [pickI]
          have HO := hide ho
          clear ho
          go_wp2
          go_round
          case rel => exact ⟨k + 1, by go_num, by omega, by rw [HS.out, HF.out, HO.out]; cases most <;> rfl⟩
          case measure => simp [intOf]; omega
        | some i =>
          simp only [pickI]
          have HO := hide ho
          clear ho
          cases most with
          | true =>
            go_wp2
            go_round
            case rel => exact ⟨k + 1, by go_num, by omega, by rw [HS.out, HF.out]; rfl⟩
            case measure => simp [intOf]; omega
          | false =>
            have hi : (decide ((i : Int) < 0)) = false := by simp
            go_wp2
            go_round
            case rel => exact ⟨k + 1, by go_num, by omega, by rw [HS.out, HO.out]; rfl⟩
            case measure => simp [intOf]; omega
    · obtain rfl : k = n := by omega
      go_wp2
      go_ret
      exact ⟨rfl, rfl⟩
end Go.Proofs.Ythlboecjlelemaa
