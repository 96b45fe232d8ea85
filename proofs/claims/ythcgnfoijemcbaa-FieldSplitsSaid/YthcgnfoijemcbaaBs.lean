/- Texts as lists of bytes. -/
import Derived.Test.YthcgnfoijemcbaaQBase
import Derived.Lib.Strings
import Derived.Lib.Bytealg
namespace Go.Proofs.Ythcgnfoijemcbaa
open Go.RowKit

def bs (l : List UInt8) : ByteArray := ⟨l.toArray⟩
theorem bs_list (l : List UInt8) : (bs l).data.toList = l := by simp [bs]
theorem bs_size (l : List UInt8) : (bs l).size = l.length := by simp [bs, ByteArray.size]
theorem bs_app (a b : List UInt8) : bs a ++ bs b = bs (a ++ b) := by
  apply ByteArray.ext
  simp [bs]
theorem bs_of (s : ByteArray) : bs s.data.toList = s := by apply ByteArray.ext; simp [bs]
theorem bs_inj {a b : List UInt8} (h : bs a = bs b) : a = b := by
  have := congrArg (fun s => s.data.toList) h
  simpa [bs_list] using this
theorem bs_toList (l : List UInt8) : (bs l).toList = l := by rw [ByteArray.toList_eq, bs_list]
theorem ext_bs (l : List UInt8) (i j : Nat) : (bs l).extract i j = bs ((l.drop i).take (j - i)) := by
  apply ByteArray.ext
  apply Array.ext'
  rw [Lib.extract_data]
  simp [bs]
theorem data_len (s : ByteArray) : s.data.toList.length = s.size := Array.length_toList
theorem ixb_ge (c : UInt8) : ∀ l : List UInt8, -1 ≤ Lib.indexByte l c
  | [] => by simp [Lib.indexByte]
  | b :: l => by
    have := ixb_ge c l
    rw [Lib.indexByte]
    split
    · omega
    · split <;> omega
theorem ixb_mem (c : UInt8) : ∀ l : List UInt8, 0 ≤ Lib.indexByte l c ↔ c ∈ l
  | [] => by simp [Lib.indexByte]
  | b :: l => by
    have h1 := ixb_mem c l
    have h2 := ixb_ge c l
    rw [Lib.indexByte, List.mem_cons, ← h1]
    by_cases e : b = c
    · subst e; simp
    · have e2 : c ≠ b := fun h => e h.symm
      rw [if_neg (by simpa using e)]
      by_cases e3 : Lib.indexByte l c = -1
      · rw [if_pos (by simpa using e3), e3]; simp [e2]
      · rw [if_neg (by simpa using e3)]
        simp only [e2, false_or]
        omega
end Go.Proofs.Ythcgnfoijemcbaa
