/- Walks of the reference's SameStrings and PutString. -/
import Derived.Test.YtmblmenafplccaaGreatDoorStrsWalk
namespace Go.Proofs.YtmblmenafplccaaGreatDoor
open Go.RowKit Go.Deep
theorem txt_ne {a b : ByteArray} (h : a ≠ b) : (a.toList == b.toList) = false := by
  rw [beq_eq_false_iff_ne, ByteArray.toList_eq, ByteArray.toList_eq]
  exact fun e => h (ByteArray.ext (Array.ext' e))
/-- but for draws the same world -/
def Drew (w w' : World) : Prop := ∃ n, w' = w.drewN n
theorem Drew.refl (w : World) : Drew w w := ⟨0, rfl⟩
theorem Drew.more {w w' : World} (h : Drew w w') (n : Nat) : Drew w (w'.drewN n) := by
  obtain ⟨m, rfl⟩ := h
  exact ⟨m + n, by simp [World.drewN, Nat.add_assoc]⟩
theorem SR.drewN {w : World} {A : Option Addr} {L : List ByteArray} (h : SR w A L) (n : Nat) : SR (w.drewN n) A L := h
theorem SR.drew {w w' : World} {A : Option Addr} {L : List ByteArray} (h : SR w A L) (hd : Drew w w') : SR w' A L := by
  obtain ⟨n, rfl⟩ := hd
  exact h
theorem Drew.below {w w' : World} (h : Drew w w') : Below w.heap.size w w' := by
  obtain ⟨n, rfl⟩ := h
  exact below_drewN (Below.refl _ _) n
set_option maxRecDepth 100000 in
set_option maxHeartbeats 400000 in
theorem same_any (A B : Option Addr) (c d : Nat) (L M : List ByteArray) (w : World) (hA : SR w A L) (hB : SR w B M) (hl : L.length ≤ 100000) :
    Calls Tryz.prog 39 #[.slice A L.length c, .slice B M.length d] w fun e w' => e = .returned (.bool (decide (L = M))) ∧ Drew w w' := by
  have HA := hide hA
  have HB := hide hB
  clear hA hB
  by_cases hn : L.length = M.length
  · obtain ⟨n, hn1⟩ : ∃ n, L.length = n := ⟨_, rfl⟩
    have hn2 : M.length = n := by omega
    have N1 := hide hn1
    have N2 := hide hn2
    rw [hn1, hn2]
    rw [hn1] at hl
    clear hn hn1 hn2
    go_enter Tryz.func39, Tryz.ntmps39
    go_wp2
    go_loopw [5] (fun v5 wr => ∃ k : Nat, v5 = .int .i64 k ∧ k ≤ n ∧ Hid (L.take k = M.take k) ∧ Drew w wr) (fun v5 _ => n - (intOf v5).toNat)
    case atStart => exact ⟨0, rfl, by omega, rfl, Drew.refl _⟩
    case round =>
      obtain ⟨k, rfl, hk, HE, hdr⟩ := hrel
      have HD := hide hdr
      clear hdr
      by_cases hlt : k < n
      · obtain ⟨x, hx⟩ : ∃ x, L[k]? = some x := ⟨L[k]'(by have := N1.out; omega), List.getElem?_eq_getElem _⟩
        obtain ⟨y, hy⟩ : ∃ y, M[k]? = some y := ⟨M[k]'(by have := N2.out; omega), List.getElem?_eq_getElem _⟩
        obtain ⟨g, o, rfl, hg, hc⟩ := (HA.out.drew HD.out) k x hx
        obtain ⟨g', o', rfl, hg', hc'⟩ := (HB.out.drew HD.out) k y hy
        have HX := hide hx
        have HY := hide hy
        clear hx hy
        by_cases he : x = y
        · subst he
          go_wp2
          go_quiet (fail)
          go_wp2
          go_roundw
          case rel =>
            refine ⟨k + 1, by go_num, by omega, ?_, HD.out.more _⟩
            show L.take (k + 1) = M.take (k + 1)
            rw [List.take_add_one, List.take_add_one, HE.out, HX.out, HY.out]
          case measure => simp [intOf]; omega
        · have hne := txt_ne he
          have HN := hide he
          clear he
          go_wp2
          go_quiet (fail)
          go_wp2
          go_ret
          refine ⟨?_, HD.out.more _⟩
          have : decide (L = M) = false := by
            rw [decide_eq_false_iff_not]
            intro e
            have h1 := HX.out
            have h2 := HY.out
            rw [e, h2] at h1
            injection h1 with h1
            exact HN.out h1.symm
          rw [this]
          rfl
      · have e : k = n := by omega
        have hf : decide (L = M) = true := by
          rw [decide_eq_true_iff]
          have := HE.out
          rw [List.take_of_length_le (by have := N1.out; omega), List.take_of_length_le (by have := N2.out; omega)] at this
          exact this
        have HF := hide hf
        clear hf e
        go_wp2
        go_ret
        refine ⟨?_, HD.out⟩
        rw [HF.out]
        rfl
  · have hb : ((L.length : Int) == (M.length : Int)) = false := by simp only [beq_eq_false_iff_ne]; omega
    have hb2 : (L.length == M.length) = false := by simp only [beq_eq_false_iff_ne]; omega
    have HF := hide (show decide (L = M) = false by rw [decide_eq_false_iff_not]; intro e; exact hn (by rw [e]))
    clear hn
    go_enter Tryz.func39, Tryz.ntmps39
    go_wp2
    go_ret
    refine ⟨?_, Drew.refl _⟩
    rw [HF.out]
    rfl
end Go.Proofs.YtmblmenafplccaaGreatDoor
