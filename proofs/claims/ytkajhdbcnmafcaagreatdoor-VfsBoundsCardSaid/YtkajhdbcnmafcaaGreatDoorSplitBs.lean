/- A text parted at a byte: the library's pieces; the library's variable that a search reads. -/
import Derived.Test.YtkajhdbcnmafcaaGreatDoorLinesMath
import Derived.Test.YtkajhdbcnmafcaaGreatDoorBs
import Derived.Lib.SplitLaws
import Derived.Lib.Bytealg
import Derived.Shelf.Strings.Split
namespace Go.Proofs.YtkajhdbcnmafcaaGreatDoor
open Go.RowKit Ln

/-! the pieces -/
theorem splitK_spl (c : UInt8) : ∀ (k : Nat) (s : T), s.count c = k → Lib.splitK [c] 0 k s = spl c s
  | 0, s, h => by
    rw [Lib.splitK, spl_none (by rw [← List.count_eq_zero]; exact h)]
  | k + 1, s, h => by
    have hm : c ∈ s := List.count_pos_iff.1 (by omega)
    obtain ⟨a, b, rfl, ha⟩ := List.eq_append_cons_of_mem hm
    have hi : Lib.indexByte (a ++ c :: b) c = (a.length : Int) := by
      clear h hm
      induction a with
      | nil => simp [Lib.indexByte]
      | cons x a ih =>
        have hx : x ≠ c := fun e => ha (by simp [e])
        have ih := ih (fun hc => ha (by simp [hc]))
        rw [List.cons_append, Lib.indexByte, if_neg (by simpa using hx), ih]
        have : ((a.length : Int) == -1) = false := by simp
        rw [this]
        simp
    have hne : ((a.length : Int) == -1) = false := by simp
    have hcnt : b.count c = k := by
      rw [List.count_append, List.count_cons_self, List.count_eq_zero.2 ha] at h
      omega
    rw [Lib.splitK, Lib.index_one, hi, hne]
    simp only [Bool.false_eq_true, if_false, Int.toNat_natCast, Nat.add_zero, List.length_cons, List.length_nil]
    rw [spl_app b ha, List.take_left, show (a ++ c :: b).drop (a.length + (0 + 1)) = b from by rw [← List.drop_drop]; simp, splitK_spl c k b hcnt]
theorem split_bs (c : UInt8) (l : T) : Lib.splitB ⟨#[c]⟩ 0 (Lib.countB (bs l) ⟨#[c]⟩) (bs l) = (spl c l).map bs := by
  have h := Lib.splitB_data ⟨#[c]⟩ 0 (Lib.countB (bs l) ⟨#[c]⟩) (bs l)
  rw [bs_list] at h
  have hc : Lib.countB (bs l) ⟨#[c]⟩ = l.count c := by
    show Lib.count (bs l).data.toList [c] = _
    rw [bs_list]
    exact Lib.count_one c l
  rw [hc] at h ⊢
  rw [show (⟨#[c]⟩ : ByteArray).data.toList = [c] from rfl, splitK_spl c _ l rfl] at h
  rw [← h, List.map_map]
  conv => lhs; rw [← List.map_id (Lib.splitB _ _ _ _)]
  apply List.map_congr_left
  intro x _
  exact (bs_of x).symm
/-- bytealg.MaxLen holds a number -/
def MX (w : World) : Prop := ∃ m, w.cell? ⟨0, 0, none⟩ = some (.int .i64 m)
theorem MX.below {w w' : World} (h : MX w) (hb : Below w.heap.size w w') : MX w' := by
  obtain ⟨m, hm⟩ := h
  exact ⟨m, (hb.cell (p := ⟨0, 0, none⟩) (World.block_lt_of_cell? w _ hm)).trans hm⟩
end Go.Proofs.YtkajhdbcnmafcaaGreatDoor
