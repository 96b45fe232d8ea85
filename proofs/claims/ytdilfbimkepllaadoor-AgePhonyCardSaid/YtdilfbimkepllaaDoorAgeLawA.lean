/- Walk of the law's alive; what touches leave. -/
import Derived.Test.YtdilfbimkepllaaDoorAgeWalkB
import Derived.Test.YtdilfbimkepllaaDoorVfsWalkE
namespace Go.Proofs.YtdilfbimkepllaaDoor
open Go.RowKit Go.Deep Go.Maps Ln Pth Vf
attribute [local go_sem] bt_eq

theorem hs_of {g : Nat} {S : St} {T N : Nat → Prop} {w : World} (h : VS g S T N w) (ok : OkTN T N w) : Hs (VS g S) w := ⟨T, N, h, ok⟩
theorem ev1 : oldS (newS 3 10) [47] [] ⟨#[97]⟩ [] [] = true := by kernel_rfl
theorem ev2 : (writeS (newS 3 10) [47, 97] [] false).2 = 0 := by kernel_rfl
theorem ev3 : oldS (writeS (newS 3 10) [47, 97] [] false).1 [47] [] ⟨#[97]⟩ [] [] = false := by kernel_rfl
theorem rls_nil (w : World) (A : Option Addr) : RLS w A [] := ⟨RG.nil _ _, fun r h => by cases h⟩
/-- a new file system, in its two blocks -/
def T0 (b : Nat) (k : Nat) : Prop := b ≤ k ∧ k < b + 2
set_option maxRecDepth 100000 in
set_option maxHeartbeats 2000000 in
theorem alive23_any (w : World) (hm : MX w) : Calls Tryd.prog 10 #[] w fun e w' => e = .returned (.bool true) ∧ Below w.heap.size w w' := by
  have HN := hide (vnew_any 3 10 w (by omega) (by omega) (by omega) (by omega))
  have HM := hide hm
  clear hm
  go_enter Tryd.func10, Tryd.ntmps10
  go_wp2_with fail
  refine HN.out.mono ?_
  rintro e w1 ⟨rfl, hb1, hv1, hs1⟩
  have ok1 : OkTN (fun k => w.heap.size ≤ k ∧ k < w1.heap.size) (fun _ => False) w1 := ⟨fun k hk => ⟨hk.2, fun h => h⟩, fun k h => h.elim⟩
  have HO1 := hide (old_any (w.heap.size + 1) (newS 3 10) [47] (.slice none 0 0) none 0 [] ⟨#[97]⟩ none 0 [] none 0 [] w1 (hs_of hv1 ok1) (HM.out.below hb1) (by decide) (by decide) (SR.nil _ _) (by simp) (by simp) (rls_nil _ _) (by simp) (by decide) (SR.nil _ _) (by simp))
  rw [ev1] at HO1
  have HV1 := hide hv1
  have OK1 := hide ok1
  have HB1 := hide hb1
  clear hv1 ok1 hb1 hs1
  go_wp2_with fail
  refine HO1.out.mono ?_
  rintro e w2 ⟨rfl, hb2⟩
  obtain ⟨hv2, ok2⟩ := HV1.out.stay OK1.out hb2
  have hbb2 := below_up HB1.out hb2 HB1.out.size
  have HW := hide (write_any (w.heap.size + 1) (newS 3 10) [47, 97] [] false none 0 _ _ w2 hv2 ok2 (newS_wf 3 10) (HM.out.below hbb2) (by decide) (by decide) (by simp) (by decide) (RG.nil _ _))
  unfold FsPost at HW
  rw [ev2] at HW
  have HB2 := hide hbb2
  clear hbb2 hb2 hv2 ok2
  go_wp2_with fail
  refine HW.out.mono ?_
  rintro e w3 ⟨rfl, N3, hv3, hg3, hk3⟩
  have hb3 := hk3.below HB2.out (Nat.le_refl _) (fun k h => h.1)
  have HO3 := hide (old_any (w.heap.size + 1) (writeS (newS 3 10) [47, 97] [] false).1 [47] (.slice none 0 0) none 0 [] ⟨#[97]⟩ none 0 [] none 0 [] w3 (hs_of hv3 hg3.2.2.2) (HM.out.below hb3) (by decide) (by decide) (SR.nil _ _) (by simp) (by simp) (rls_nil _ _) (by simp) (by decide) (SR.nil _ _) (by simp))
  rw [ev3] at HO3
  have HB3 := hide hb3
  clear hv3 hg3 hk3 hb3
  go_wp2_with fail
  refine HO3.out.mono ?_
  rintro e w4 ⟨rfl, hb4⟩
  have HB4 := hide (below_up HB3.out hb4 HB3.out.size)
  clear hb4
  go_wp2
  go_ret
  exact ⟨rfl, HB4.out⟩
end Go.Proofs.YtdilfbimkepllaaDoor
