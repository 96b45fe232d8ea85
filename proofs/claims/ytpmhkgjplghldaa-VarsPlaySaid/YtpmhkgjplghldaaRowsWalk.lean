/- Slices of bytes made by the call: making one, reading it as a text. -/
import Derived.Test.YtpmhkgjplghldaaQBaseB
import Derived.Test.YtpmhkgjplghldaaDigitsWalk
namespace Go.Proofs.Ytpmhkgjplghldaa
open Go.RowKit Go.Deep
theorem bt_ds (l : List Nat) (j : Nat) : bt (ds l) j = l.getD j 0 % 256 := by
  unfold bt ds strOfNums
  simp only [Array.getD_eq_getD_getElem?, List.getElem?_toArray, List.getElem?_map, List.getD_eq_getElem?_getD]
  cases l[j]? with
  | none => rfl
  | some a => simp
theorem bt_app (a b : ByteArray) (i : Nat) : bt (a ++ b) i = if i < a.size then bt a i else bt b (i - a.size) := by
  have e : (a ++ b).data = a.data ++ b.data := ByteArray.data_append
  have e2 : a.size = a.data.size := rfl
  simp only [bt, e, e2, Array.getD_eq_getD_getElem?, Array.getElem?_append]
  split <;> rfl
theorem text_ext {s t : ByteArray} (h : s.size = t.size) (h2 : ∀ j, j < s.size → bt s j = bt t j) : s = t := by
  apply ByteArray.ext
  apply Array.ext h
  intro j h3 h4
  have := h2 j h3
  rw [← bt_eq s j h3, ← bt_eq t j h4] at this
  exact UInt8.toNat_inj.1 this
end Go.Proofs.Ytpmhkgjplghldaa
