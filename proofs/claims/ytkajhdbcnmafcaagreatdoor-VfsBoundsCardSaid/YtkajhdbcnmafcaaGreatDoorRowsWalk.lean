/- Slices of bytes made by the call: making one, reading it as a text. -/
import Derived.Test.YtkajhdbcnmafcaaGreatDoorQBase
import Derived.Test.YtkajhdbcnmafcaaGreatDoorDigitsWalk
namespace Go.Proofs.YtkajhdbcnmafcaaGreatDoor
open Go.RowKit Go.Deep
theorem mkBytes (n : Nat) (hn : n ≤ 100000) : ∀ w, (Instr.makeSlice 23 (.int .i64 (n : Int)) (.int .i64 (n : Int))).run Tryz.prog w = .ok (.slice (some ⟨w.heap.size, 0, none⟩) n n) (w.alloc (.cells (madeCells #[.int .u8 0] n) 5)) :=
  fun w => run_make_row' (P := Tryz.prog) 23 5 (.int .u8 0) 1 Tryz.underlying23 info5 rfl .i64 .i64 n (by omega) (by omega) w
theorem conv_bytes {W : World} {g n cap : Nat} {f : Nat → Nat} (h : ∀ i, i < n → W.cell? ⟨g, i, none⟩ = some (.int .u8 (f i : Nat))) : (convert 23 9 (.slice (some ⟨g, 0, none⟩) n cap)).run Tryz.prog W = .ok (.string (ds ((List.range n).map f))) W := by
  have := run_convert_bytes_arg W 23 5 Tryz.underlying23 Tryz.underlying5 g 0 n cap ((List.range n).map fun q => ((f q : Nat) : Int)) (by simp) (fun i hi => by
    rw [Nat.zero_add, h i hi]
    simp [List.getD_eq_getElem?_getD, hi]) 9 Tryz.underlying9
  rw [this]
  simp [ds, List.map_map, Function.comp_def]
theorem bt_ds (l : List Nat) (j : Nat) : bt (ds l) j = l.getD j 0 % 256 := by
  unfold bt ds strOfNums
  simp only [Array.getD_eq_getD_getElem?, List.getElem?_toArray, List.getElem?_map, List.getD_eq_getElem?_getD]
  cases l[j]? with
  | none => rfl
  | some a => simp
theorem bt_app (a b : ByteArray) (i : Nat) : bt (a ++ b) i = if i < a.size then bt a i else bt b (i - a.size) := by
  have e : (a ++ b).data = a.data ++ b.data := ByteArray.data_append
  have e2 : a.size = a.data.size := rfl
  simp only [bt, e, e2, Array.getD_eq_getD_getElem?, Array.getElem?_append]
  split <;> rfl
theorem text_ext {s t : ByteArray} (h : s.size = t.size) (h2 : ∀ j, j < s.size → bt s j = bt t j) : s = t := by
  apply ByteArray.ext
  apply Array.ext h
  intro j h3 h4
  have := h2 j h3
  rw [← bt_eq s j h3, ← bt_eq t j h4] at this
  exact UInt8.toNat_inj.1 this
end Go.Proofs.YtkajhdbcnmafcaaGreatDoor
