/- Walks of the reference's SameStrings and PutString. -/
import Derived.Test.YtpmhkgjplghldaaStrsWalk
namespace Go.Proofs.Ytpmhkgjplghldaa
open Go.RowKit Go.Deep
theorem txt_ne {a b : ByteArray} (h : a ≠ b) : (a.toList == b.toList) = false := by
  rw [beq_eq_false_iff_ne, ByteArray.toList_eq, ByteArray.toList_eq]
  exact fun e => h (ByteArray.ext (Array.ext' e))
/-- but for draws the same world -/
def Drew (w w' : World) : Prop := ∃ n, w' = w.drewN n
theorem Drew.refl (w : World) : Drew w w := ⟨0, rfl⟩
theorem Drew.more {w w' : World} (h : Drew w w') (n : Nat) : Drew w (w'.drewN n) := by
  obtain ⟨m, rfl⟩ := h
  exact ⟨m + n, by simp [World.drewN, Nat.add_assoc]⟩
theorem SR.drewN {w : World} {A : Option Addr} {L : List ByteArray} (h : SR w A L) (n : Nat) : SR (w.drewN n) A L := h
theorem SR.drew {w w' : World} {A : Option Addr} {L : List ByteArray} (h : SR w A L) (hd : Drew w w') : SR w' A L := by
  obtain ⟨n, rfl⟩ := hd
  exact h
theorem Drew.below {w w' : World} (h : Drew w w') : Below w.heap.size w w' := by
  obtain ⟨n, rfl⟩ := h
  exact below_drewN (Below.refl _ _) n
end Go.Proofs.Ytpmhkgjplghldaa
