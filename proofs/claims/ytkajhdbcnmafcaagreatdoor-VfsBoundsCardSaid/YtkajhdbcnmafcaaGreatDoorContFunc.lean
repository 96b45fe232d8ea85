/- Walks of slices.IndexFunc and slices.ContainsFunc at texts, for a function that may make memory. -/
import Derived.Test.YtkajhdbcnmafcaaGreatDoorStrsWalk
import Derived.Deep.LoopGhost
namespace Go.Proofs.YtkajhdbcnmafcaaGreatDoor
open Go.RowKit Go.Deep
/-- where the first is, and whether there is one -/
def IdxPost (p : ByteArray → Bool) (L : List ByteArray) (w : World) (e : Ending) (w' : World) : Prop := ∃ i : Int, e = .returned (.int .i64 i) ∧ decide (0 ≤ i) = L.any p ∧ Below w.heap.size w w'
set_option maxRecDepth 100000 in
set_option maxHeartbeats 1000000 in
theorem idxf_any (p : ByteArray → Bool) (g : Nat) (lb : Array Value) (eg : ∀ args w, (callFunc g args).run Tryz.prog w = .ok (.enter g args) w) (A : Option Addr) (c : Nat) (L : List ByteArray) (w : World) (hl : L.length ≤ 1000000) (hA : SR w A L)
    (hf : ∀ (W : World) (x : ByteArray), x ∈ L → Below w.heap.size w W → Calls Tryz.prog g (#[.string x] ++ lb) W fun e w' => e = .returned (.bool (p x)) ∧ Below w.heap.size w w') :
    Calls Tryz.prog 121 #[.slice A L.length c, .func (.func g) #[] lb] w (IdxPost p L w) := by
  have HA := hide hA
  have HF := hide hf
  clear hA hf
  obtain ⟨n, hn⟩ : ∃ n, L.length = n := ⟨_, rfl⟩
  have HN := hide hn
  rw [hn] at hl ⊢
  clear hn
  have hn1 : (n : Int) ≤ 1000000 := by omega
  go_enter Tryz.func121, Tryz.ntmps121
  go_wp2
  go_loopw [5, 8] (fun _v5 v8 wr => ∃ k : Nat, v8 = .int .i64 k ∧ k ≤ n ∧ Hid ((L.take k).any p = false) ∧ Below w.heap.size w wr) (fun _ v8 _ => n - (intOf v8).toNat)
  case atStart => exact ⟨0, rfl, by omega, rfl, Below.refl _ _⟩
  case round =>
    obtain ⟨k, rfl, hk, HP, hb⟩ := hrel
    have HB := hide hb
    have HAR := hide (HA.out.below hb)
    clear hb
    by_cases hlt : k < n
    · obtain ⟨x, hx⟩ : ∃ x, L[k]? = some x := ⟨L[k]'(by have := HN.out; omega), List.getElem?_eq_getElem _⟩
      obtain ⟨gs, o, rfl, hg, hc⟩ := HAR.out k x hx
      have hcall := HF.out wr x (List.mem_of_getElem? hx) HB.out
      have b1 : (k : Int) < (n : Int) := by omega
      have HX := hide hx
      clear hx
      obtain ⟨pb, hpb⟩ : ∃ b, p x = b := ⟨_, rfl⟩
      rw [hpb] at hcall
      have HPB := hide hpb
      clear hpb
      have HC := hide hcall
      clear hcall
      go_wp2_with fail
      refine HC.out.mono ?_
      rintro e w' ⟨rfl, hb'⟩
      have HB' := hide hb'
      clear hb'
      cases pb with
      | true =>
        go_wp2
        go_ret
        refine ⟨_, rfl, ?_, HB'.out⟩
        have : L.any p = true := List.any_eq_true.2 ⟨x, List.mem_of_getElem? HX.out, HPB.out⟩
        rw [this]
        simp
      | false =>
        go_wp2
        go_roundw
        case rel =>
          refine ⟨k + 1, by go_num, by omega, ?_, HB'.out⟩
          show (L.take (k + 1)).any p = false
          rw [List.take_add_one, List.any_append, HP.out, HX.out]
          simpa using HPB.out
        case measure => simp [intOf]; omega
    · obtain rfl : k = n := by omega
      have HE := hide (show L.any p = false by
        have := HP.out
        rwa [List.take_of_length_le (by have := HN.out; omega)] at this)
      go_wp2
      go_ret
      exact ⟨_, rfl, by rw [HE.out]; rfl, HB.out⟩
set_option maxRecDepth 100000 in
theorem contf_any (p : ByteArray → Bool) (g : Nat) (lb : Array Value) (eg : ∀ args w, (callFunc g args).run Tryz.prog w = .ok (.enter g args) w) (A : Option Addr) (c : Nat) (L : List ByteArray) (w : World) (hl : L.length ≤ 1000000) (hA : SR w A L)
    (hf : ∀ (W : World) (x : ByteArray), x ∈ L → Below w.heap.size w W → Calls Tryz.prog g (#[.string x] ++ lb) W fun e w' => e = .returned (.bool (p x)) ∧ Below w.heap.size w w') :
    Calls Tryz.prog 74 #[.slice A L.length c, .func (.func g) #[] lb] w fun e w' => e = .returned (.bool (L.any p)) ∧ Below w.heap.size w w' := by
  have HI := hide (idxf_any p g lb eg A c L w hl hA hf)
  clear hA hf
  obtain ⟨n, hn⟩ : ∃ n, L.length = n := ⟨_, rfl⟩
  rw [hn] at HI ⊢
  clear hn hl
  obtain ⟨b, hb⟩ : ∃ b, L.any p = b := ⟨_, rfl⟩
  unfold IdxPost at HI
  rw [hb] at HI ⊢
  clear hb
  go_enter Tryz.func74, Tryz.ntmps74
  go_wp2_with fail
  refine HI.out.mono ?_
  rintro e w' ⟨i, rfl, hi, hb'⟩
  have HI2 := hide hi
  have HB := hide hb'
  clear hi hb'
  go_wp2
  go_ret
  refine ⟨?_, HB.out⟩
  rw [← HI2.out]
  rfl
end Go.Proofs.YtkajhdbcnmafcaaGreatDoor
