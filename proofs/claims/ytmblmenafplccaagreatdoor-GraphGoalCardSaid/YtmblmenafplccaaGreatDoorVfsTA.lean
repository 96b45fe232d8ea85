/- A file system of the call's own. -/
import Derived.Test.YtmblmenafplccaaGreatDoorVfsWalkD
namespace Go.Proofs.YtmblmenafplccaaGreatDoor
open Go.RowKit Go.Deep Go.Maps Ln Pth Vf

theorem hs_of {g : Nat} {S : St} {T N : Nat → Prop} {w : World} (h : VS g S T N w) (ok : OkTN T N w) : Hs (VS g S) w := ⟨T, N, h, ok⟩
/-- a new file system, in its two blocks -/
def T0 (b : Nat) (k : Nat) : Prop := b ≤ k ∧ k < b + 2
/-- a file system of the call's own -/
def TA (b : Nat) (w0 : World) (S : St) (wr : World) : Prop := ∃ N, VS (b + 1) S (T0 b) N wr ∧ OkTN (T0 b) N wr ∧ Below w0.heap.size w0 wr
theorem TA.write {b : Nat} {w0 wr : World} {S : St} (h : TA b w0 S wr) (h0 : w0.heap.size ≤ b) (hm : MX w0) (hS : WfS S) (hby : S.bytes ≤ 400000) (hck : S.clock ≤ 1000000000) (p : T) (hp : p.length ≤ 50000) (d : T) (hd : d.length ≤ 400000) (more : Bool) (A : Option Addr) (c : Nat) (hA : RG encB 1 wr A d) :
    Calls Tryz.prog 23 #[.pointer (some ⟨b + 1, 0, none⟩), .string (bs p), .slice A d.length c, .bool more] wr fun e w' => e = .returned (.int .i64 (writeS S p d more).2) ∧ TA b w0 (writeS S p d more).1 w' ∧ Kp wr w' (T0 b) := by
  obtain ⟨N, hv, ok, hb⟩ := h
  refine (write_any (b + 1) S p d more A c (T0 b) N wr hv ok hS (hm.below hb) hp hby hd hck hA).mono ?_
  rintro e w' ⟨rfl, N', hv', hg, hk⟩
  exact ⟨rfl, ⟨N', hv', hg.2.2.2, hk.below hb (Nat.le_refl _) (fun k h => by unfold T0 at h; omega)⟩, hk⟩
theorem TA.new {w0 w1 w2 : World} (h0 : Below w0.heap.size w0 w1) (n m : Int) (hb : Below w1.heap.size w1 w2) (hv : VS (w1.heap.size + 1) (newS n m) (fun k => w1.heap.size ≤ k ∧ k < w2.heap.size) (fun _ => False) w2) (hs : w2.heap.size = w1.heap.size + 2) : TA w1.heap.size w0 (newS n m) w2 := by
  rw [show (fun k => w1.heap.size ≤ k ∧ k < w2.heap.size) = T0 w1.heap.size by funext k; unfold T0; rw [hs]] at hv
  exact ⟨_, hv, ⟨fun k hk => ⟨by unfold T0 at hk; omega, fun h => h⟩, fun k h => h.elim⟩, below_up h0 hb h0.size⟩
theorem TA.hs {b : Nat} {w0 wr : World} {S : St} (h : TA b w0 S wr) : Hs (VS (b + 1) S) wr := by
  obtain ⟨N, hv, ok, _⟩ := h
  exact ⟨_, N, hv, ok⟩
theorem TA.below {b : Nat} {w0 wr : World} {S : St} (h : TA b w0 S wr) : Below w0.heap.size w0 wr := by
  obtain ⟨N, hv, ok, hb⟩ := h
  exact hb
end Go.Proofs.YtmblmenafplccaaGreatDoor
