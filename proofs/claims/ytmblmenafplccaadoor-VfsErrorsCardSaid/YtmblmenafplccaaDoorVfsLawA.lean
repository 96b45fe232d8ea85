/- Walks of chapter 4's num and alive, and of Clock. -/
import Derived.Test.YtmblmenafplccaaDoorVfsWalkD
import Derived.Test.YtmblmenafplccaaDoorVfsTA
import Derived.Lib.SlBytesConst
namespace Go.Proofs.YtmblmenafplccaaDoor
open Go.RowKit Go.Deep Go.Maps Ln Pth Vf
attribute [local go_sem] bt_eq

theorem convYY (w : World) (C : Array Value) (n c : Nat) : (convert 51 51 (.slice (some ⟨w.heap.size, 0, none⟩) n c)).run Tryd.prog (w.alloc (.cells C 5)) = .ok (.slice (some ⟨w.heap.size, 0, none⟩) n c) (w.alloc (.cells C 5 (C.size, C.size + 1))) := Lib.run_convert_bytes_const w 51 5 C n c Tryd.underlying51 Tryd.underlying5
theorem ry_newM (w : World) (c : UInt8) (t : TypeId) (r : Nat × Nat) : RG encB 1 (w.alloc (.cells #[.int .u8 c.toNat] t r)) (some ⟨w.heap.size, 0, none⟩) [c] := by
  intro k x hk
  match k, hk with
  | 0, hk =>
    refine ⟨_, _, rfl, by simp, fun j u hj => ?_⟩
    cases j with
    | succ j => simp [encB] at hj
    | zero =>
      simp at hk
      subst hk
      have hu : u = .int .u8 c.toNat := by simpa [encB] using hj.symm
      subst hu
      have hp : (w.alloc (.cells #[.int .u8 c.toNat] t r)).heap[w.heap.size]? = some (.cells #[.int .u8 c.toNat] t r) := by
        show (w.heap.push _)[w.heap.size]? = _
        simp
      unfold World.cell?
      simp only [Nat.zero_mul, Nat.zero_add, hp]
      rfl
attribute [local go_sem] convYY
theorem num4_any (n : Int) (w : World) : Calls Tryd.prog 20 #[.int .i64 n] w fun e w' => e = .returned (.int .i64 n) ∧ w = w' := by
  go_enter Tryd.func20, Tryd.ntmps20
  go_wp2
  go_ret
  exact ⟨rfl, rfl⟩
set_option maxRecDepth 100000 in
theorem clock_any (g : Nat) (S : St) (w : World) (h : Hs (VS g S) w) : Calls Tryd.prog 35 #[.pointer (some ⟨g, 0, none⟩)] w fun e w' => e = .returned (.int .i64 S.clock) ∧ w = w' := by
  obtain ⟨b, P, hgb, hg, hm, hS, _⟩ := VS.opn h
  have hc4 := cellOf hg (j := 4) rfl
  clear h hg hm hS
  go_enter Tryd.func35, Tryd.ntmps35
  go_wp2
  go_ret
  exact ⟨rfl, rfl⟩
theorem al_e : (writeS (newS 3 10) [47, 97] [120] false).2 = 0 := by kernel_rfl
theorem al_c : (writeS (newS 3 10) [47, 97] [120] false).1.clock = 1 := by kernel_rfl
theorem al_t : timeS (writeS (newS 3 10) [47, 97] [120] false).1 [47, 97] = 1 := by kernel_rfl
set_option maxRecDepth 100000 in
set_option maxHeartbeats 2000000 in
theorem alive4_any (w : World) (hm : MX w) : Calls Tryd.prog 14 #[] w fun e w' => e = .returned (.bool true) ∧ Below w.heap.size w w' := by
  have HNW := hide (vnew_any 3 10 w (by omega) (by omega) (by omega) (by omega))
  have HM := hide hm
  clear hm
  go_enter Tryd.func14, Tryd.ntmps14
  go_wp2_with fail
  refine HNW.out.mono ?_
  rintro e w2 ⟨rfl, hb2, hv2, hs2⟩
  have HTA := hide (TA.new (Below.refl w.heap.size w) 3 10 hb2 hv2 hs2)
  clear hb2 hv2 hs2 HNW
  have hbA := (Below.refl w2.heap.size w2).alloc (Nat.le_refl _) (.cells #[.int .u8 120] 5 (1, 2))
  obtain ⟨N2, hv, ok, hbw⟩ := HTA.out
  have hta : TA w.heap.size w (newS 3 10) (w2.alloc (.cells #[.int .u8 120] 5 (1, 2))) := ⟨N2, (hv.stay ok hbA).1, (hv.stay ok hbA).2, below_up hbw hbA hbw.size⟩
  have HW := hide (hta.write (Nat.le_refl _) HM.out (newS_wf 3 10) (by decide) (by decide) [47, 97] (by decide) [120] (by decide) false _ 1 (ry_newM w2 120 5 (1, 2)))
  rw [al_e] at HW
  clear hbA hv ok hbw hta
  go_wp2_with fail
  refine HW.out.mono ?_
  rintro e w3 ⟨rfl, ht3, _⟩
  have HT3 := hide ht3
  have HCL := hide (clock_any _ _ w3 ht3.hs)
  rw [al_c] at HCL
  have HTM := hide (vtime_any _ _ [47, 97] w3 ht3.hs (HM.out.below ht3.below) (by decide))
  rw [al_t] at HTM
  clear ht3
  go_wp2_with fail
  refine (num4_any _ _).mono ?_
  rintro e w' ⟨rfl, rfl⟩
  go_wp2_with fail
  refine HCL.out.mono ?_
  rintro e w' ⟨rfl, rfl⟩
  go_wp2_with fail
  refine HTM.out.mono ?_
  rintro e w4 ⟨rfl, hb4⟩
  have HB4 := hide (below_up HT3.out.below hb4 HT3.out.below.size)
  clear hb4
  go_wp2
  go_ret
  exact ⟨rfl, HB4.out⟩
end Go.Proofs.YtmblmenafplccaaDoor
