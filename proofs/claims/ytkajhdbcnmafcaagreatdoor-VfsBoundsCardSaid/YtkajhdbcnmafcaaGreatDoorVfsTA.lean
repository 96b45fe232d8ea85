/- A file system of the call's own. Walks of chapter 4's num and alive, and of Clock. -/
import Derived.Test.YtkajhdbcnmafcaaGreatDoorVfsWalkD
import Derived.Lib.SlBytesConst
namespace Go.Proofs.YtkajhdbcnmafcaaGreatDoor
open Go.RowKit Go.Deep Go.Maps Ln Pth Vf

theorem hs_of {g : Nat} {S : St} {T N : Nat → Prop} {w : World} (h : VS g S T N w) (ok : OkTN T N w) : Hs (VS g S) w := ⟨T, N, h, ok⟩
/-- a new file system, in its two blocks -/
def T0 (b : Nat) (k : Nat) : Prop := b ≤ k ∧ k < b + 2
/-- a file system of the call's own -/
def TA (b : Nat) (w0 : World) (S : St) (wr : World) : Prop := ∃ N, VS (b + 1) S (T0 b) N wr ∧ OkTN (T0 b) N wr ∧ Below w0.heap.size w0 wr
theorem TA.write {b : Nat} {w0 wr : World} {S : St} (h : TA b w0 S wr) (h0 : w0.heap.size ≤ b) (hm : MX w0) (hS : WfS S) (hby : S.bytes ≤ 400000) (hck : S.clock ≤ 1000000000) (p : T) (hp : p.length ≤ 50000) (d : T) (hd : d.length ≤ 400000) (more : Bool) (A : Option Addr) (c : Nat) (hA : RG encB 1 wr A d) :
    Calls Tryz.prog 19 #[.pointer (some ⟨b + 1, 0, none⟩), .string (bs p), .slice A d.length c, .bool more] wr fun e w' => e = .returned (.int .i64 (writeS S p d more).2) ∧ TA b w0 (writeS S p d more).1 w' ∧ Kp wr w' (T0 b) := by
  obtain ⟨N, hv, ok, hb⟩ := h
  refine (write_any (b + 1) S p d more A c (T0 b) N wr hv ok hS (hm.below hb) hp hby hd hck hA).mono ?_
  rintro e w' ⟨rfl, N', hv', hg, hk⟩
  exact ⟨rfl, ⟨N', hv', hg.2.2.2, hk.below hb (Nat.le_refl _) (fun k h => by unfold T0 at h; omega)⟩, hk⟩
theorem TA.new {w0 w1 w2 : World} (h0 : Below w0.heap.size w0 w1) (n m : Int) (hb : Below w1.heap.size w1 w2) (hv : VS (w1.heap.size + 1) (newS n m) (fun k => w1.heap.size ≤ k ∧ k < w2.heap.size) (fun _ => False) w2) (hs : w2.heap.size = w1.heap.size + 2) : TA w1.heap.size w0 (newS n m) w2 := by
  rw [show (fun k => w1.heap.size ≤ k ∧ k < w2.heap.size) = T0 w1.heap.size by funext k; unfold T0; rw [hs]] at hv
  exact ⟨_, hv, ⟨fun k hk => ⟨by unfold T0 at hk; omega, fun h => h⟩, fun k h => h.elim⟩, below_up h0 hb h0.size⟩
theorem TA.hs {b : Nat} {w0 wr : World} {S : St} (h : TA b w0 S wr) : Hs (VS (b + 1) S) wr := by
  obtain ⟨N, hv, ok, _⟩ := h
  exact ⟨_, N, hv, ok⟩
theorem TA.below {b : Nat} {w0 wr : World} {S : St} (h : TA b w0 S wr) : Below w0.heap.size w0 wr := by
  obtain ⟨N, hv, ok, hb⟩ := h
  exact hb
end Go.Proofs.YtkajhdbcnmafcaaGreatDoor
namespace Go.Proofs.YtkajhdbcnmafcaaGreatDoor
open Go.RowKit Go.Deep Go.Maps Ln Pth Vf
attribute [local go_sem] bt_eq

theorem convYY (w : World) (C : Array Value) (n c : Nat) : (convert 23 23 (.slice (some ⟨w.heap.size, 0, none⟩) n c)).run Tryz.prog (w.alloc (.cells C 5)) = .ok (.slice (some ⟨w.heap.size, 0, none⟩) n c) (w.alloc (.cells C 5 (C.size, C.size + 1))) := Lib.run_convert_bytes_const w 23 5 C n c Tryz.underlying23 Tryz.underlying5
theorem ry_newM (w : World) (c : UInt8) (t : TypeId) (r : Nat × Nat) : RG encB 1 (w.alloc (.cells #[.int .u8 c.toNat] t r)) (some ⟨w.heap.size, 0, none⟩) [c] := by
  intro k x hk
  match k, hk with
  | 0, hk =>
    refine ⟨_, _, rfl, by simp, fun j u hj => ?_⟩
    cases j with
    | succ j => simp [encB] at hj
    | zero =>
      simp at hk
      subst hk
      have hu : u = .int .u8 c.toNat := by simpa [encB] using hj.symm
      subst hu
      have hp : (w.alloc (.cells #[.int .u8 c.toNat] t r)).heap[w.heap.size]? = some (.cells #[.int .u8 c.toNat] t r) := by
        show (w.heap.push _)[w.heap.size]? = _
        simp
      unfold World.cell?
      simp only [Nat.zero_mul, Nat.zero_add, hp]
      rfl
attribute [local go_sem] convYY
theorem num4_any (n : Int) (w : World) : Calls Tryz.prog 18 #[.int .i64 n] w fun e w' => e = .returned (.int .i64 n) ∧ w = w' := by
  go_enter Tryz.func18, Tryz.ntmps18
  go_wp2
  go_ret
  exact ⟨rfl, rfl⟩
set_option maxRecDepth 100000 in
theorem clock_any (g : Nat) (S : St) (w : World) (h : Hs (VS g S) w) : Calls Tryz.prog 17 #[.pointer (some ⟨g, 0, none⟩)] w fun e w' => e = .returned (.int .i64 S.clock) ∧ w = w' := by
  obtain ⟨b, P, hgb, hg, hm, hS, _⟩ := VS.opn h
  have hc4 := cellOf hg (j := 4) rfl
  clear h hg hm hS
  go_enter Tryz.func17, Tryz.ntmps17
  go_wp2
  go_ret
  exact ⟨rfl, rfl⟩
theorem al_e : (writeS (newS 3 10) [47, 97] [120] false).2 = 0 := by kernel_rfl
theorem al_c : (writeS (newS 3 10) [47, 97] [120] false).1.clock = 1 := by kernel_rfl
theorem al_t : timeS (writeS (newS 3 10) [47, 97] [120] false).1 [47, 97] = 1 := by kernel_rfl
set_option maxRecDepth 100000 in
set_option maxHeartbeats 2000000 in
theorem alive4_any (w : World) (hm : MX w) : Calls Tryz.prog 11 #[] w fun e w' => e = .returned (.bool true) ∧ Below w.heap.size w w' := by
  have HNW := hide (vnew_any 3 10 w (by omega) (by omega) (by omega) (by omega))
  have HM := hide hm
  clear hm
  go_enter Tryz.func11, Tryz.ntmps11
  go_wp2_with fail
  refine HNW.out.mono ?_
  rintro e w2 ⟨rfl, hb2, hv2, hs2⟩
  have HTA := hide (TA.new (Below.refl w.heap.size w) 3 10 hb2 hv2 hs2)
  clear hb2 hv2 hs2 HNW
  have hbA := (Below.refl w2.heap.size w2).alloc (Nat.le_refl _) (.cells #[.int .u8 120] 5 (1, 2))
  obtain ⟨N2, hv, ok, hbw⟩ := HTA.out
  have hta : TA w.heap.size w (newS 3 10) (w2.alloc (.cells #[.int .u8 120] 5 (1, 2))) := ⟨N2, (hv.stay ok hbA).1, (hv.stay ok hbA).2, below_up hbw hbA hbw.size⟩
  have HW := hide (hta.write (Nat.le_refl _) HM.out (newS_wf 3 10) (by decide) (by decide) [47, 97] (by decide) [120] (by decide) false _ 1 (ry_newM w2 120 5 (1, 2)))
  rw [al_e] at HW
  clear hbA hv ok hbw hta
  go_wp2_with fail
  refine HW.out.mono ?_
  rintro e w3 ⟨rfl, ht3, _⟩
  have HT3 := hide ht3
  have HCL := hide (clock_any _ _ w3 ht3.hs)
  rw [al_c] at HCL
  have HTM := hide (vtime_any _ _ [47, 97] w3 ht3.hs (HM.out.below ht3.below) (by decide))
  rw [al_t] at HTM
  clear ht3
  go_wp2_with fail
  refine (num4_any _ _).mono ?_
  rintro e w' ⟨rfl, rfl⟩
  go_wp2_with fail
  refine HCL.out.mono ?_
  rintro e w' ⟨rfl, rfl⟩
  go_wp2_with fail
  refine HTM.out.mono ?_
  rintro e w4 ⟨rfl, hb4⟩
  have HB4 := hide (below_up HT3.out.below hb4 HT3.out.below.size)
  clear hb4
  go_wp2
  go_ret
  exact ⟨rfl, HB4.out⟩
end Go.Proofs.YtkajhdbcnmafcaaGreatDoor
