/- A text's bytes as a row of the call's own. -/
import Derived.Test.YtkajhdbcnmafcaaGreatDoorBytesG
import Derived.Test.YtkajhdbcnmafcaaGreatDoorBs
import Derived.Laws.IdiomStrings
namespace Go.Proofs.YtkajhdbcnmafcaaGreatDoor
open Go.RowKit

theorem conv_SB (w : World) (l : List UInt8) (hl : l.length ≤ 1000000) : ∃ c w', (convert 9 23 (.string (bs l))).run Tryz.prog w = .ok (.slice (some ⟨w.heap.size, 0, none⟩) l.length c) w' ∧ RG encB 1 w' (some ⟨w.heap.size, 0, none⟩) l ∧ Below w.heap.size w w' ∧ l.length ≤ c ∧ c ≤ 9223372036854775807 ∧ w.heap.size < w'.heap.size := by
  have h := run_bytes_of_string (P := Tryz.prog) w 9 23 5 (bs l) Tryz.underlying9 Tryz.underlying23 Tryz.underlying5
  have h1 := grownCap_ge w (bs l).size 0 5
  have h2 := grownCap_le_maxLen w (bs l).size 0 5 (by rw [bs_size]; unfold maxLen; omega)
  rw [bs_size] at h h1 h2
  generalize grownCap w l.length 0 5 = C at h h1 h2
  refine ⟨C, _, h, ?_, ?_, h1, by unfold maxLen at h2; omega, by simp⟩
  · intro k x hk
    have hkl := (List.getElem?_eq_some_iff.1 hk).1
    refine ⟨_, _, rfl, by simp, fun j u hj => ?_⟩
    cases j with
    | succ j => simp [encB] at hj
    | zero =>
      have hu : u = .int .u8 x.toNat := by simpa [encB] using hj.symm
      have hx : (bs l).data[k]'(by simpa [bs] using hkl) = x := by
        have := (List.getElem?_eq_some_iff.1 hk).2
        simpa [bs] using this
      have hb := bytesRow_at (bs l) C k (by simpa [bs] using hkl)
      rw [hx] at hb
      rw [hu]
      have hp := heapNewO w.drew (.cells (bytesRow (bs l) C) 5 ((bytesRow (bs l) C).size, (bytesRow (bs l) C).size + 1))
      unfold World.cell?
      rw [show (w.drew).heap.size = w.heap.size from rfl] at hp
      simp only [hp, Nat.zero_add, Nat.mul_one, Nat.add_zero]
      exact hb
  · exact (Below.refl _ _).drew.alloc (Nat.le_refl _) _
where
  heapNewO (w : World) (o : Obj) : (w.alloc o).heap[w.heap.size]? = some o := by
    show (w.heap.push o)[w.heap.size]? = some o
    simp
end Go.Proofs.YtkajhdbcnmafcaaGreatDoor
