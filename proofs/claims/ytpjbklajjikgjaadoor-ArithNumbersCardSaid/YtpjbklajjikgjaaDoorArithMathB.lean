/- The numbers of digits, modulo 2^64, step by step. -/
import Derived.Test.YtpjbklajjikgjaaDoorVarsRefA
import Derived.Test.YtpjbklajjikgjaaDoorArithMathA
namespace Go.Proofs.YtpjbklajjikgjaaDoor
open Go.RowKit Go.Deep

/-- the number of digits -/
def numN (l : List UInt8) : Nat := l.foldl (fun n c => n * 10 + (c.toNat - 48)) 0
theorem numN_snoc (l : List UInt8) (c : UInt8) : numN (l ++ [c]) = numN l * 10 + (c.toNat - 48) := by simp [numN]
def nU (l : List UInt8) : Int := IntKind.u64.wrap (numN l : Nat)
def nI (l : List UInt8) : Int := wrap64 (numN l : Nat)
theorem nU_snoc (l : List UInt8) (c : UInt8) (h : 48 ≤ c.toNat) : nU (l ++ [c]) = IntKind.u64.wrap (IntKind.u64.wrap (nU l * 10) + ((c.toNat : Int) - 48)) := by
  unfold nU
  rw [numN_snoc, IntKind.wrap_u64, IntKind.wrap_u64, IntKind.wrap_u64, IntKind.wrap_u64]
  generalize numN l = n
  omega
theorem nI_snoc (l : List UInt8) (c : UInt8) (h : 48 ≤ c.toNat) : nI (l ++ [c]) = wrap64 (wrap64 (wrap64 (nI l * 10) + (c.toNat : Int)) - 48) := by
  unfold nI
  rw [numN_snoc]
  unfold wrap64
  generalize numN l = n
  omega
theorem nI_nU (l : List UInt8) : wrap64 (nU l) = nI l := by
  unfold nI nU
  rw [IntKind.wrap_u64]
  unfold wrap64
  generalize numN l = n
  omega
theorem nU_nil : nU [] = 0 := by decide
theorem nI_nil : nI [] = 0 := by unfold nI wrap64; rfl
theorem dgB_eq (c : UInt8) : dgB c.toNat = Ar.dgl c := by
  rw [Bool.eq_iff_iff]
  simp [dgB, Ar.dgl, UInt8.le_iff_toNat_le]
theorem stB_eq (c : UInt8) : stB c.toNat = Ar.stl c := by
  rw [Bool.eq_iff_iff]
  simp only [stB, Ar.stl, UInt8.le_iff_toNat_le, Bool.or_eq_true, Bool.and_eq_true, decide_eq_true_eq, beq_iff_eq, ← UInt8.toNat_inj]
  simp
theorem dgl_iff (c : UInt8) : Ar.dgl c = true ↔ 48 ≤ c.toNat ∧ c.toNat ≤ 57 := by
  simp [Ar.dgl, UInt8.le_iff_toNat_le]
theorem bt_get {s : ByteArray} {k : Nat} (h : k < s.size) : bt s k = s[k].toNat := (bt_eq s k h).symm
theorem take_byte {s : ByteArray} {k : Nat} (h : k < s.size) : s.data.toList.take (k + 1) = s.data.toList.take k ++ [s[k]] := by
  rw [List.take_succ_eq_append_getElem (by simpa using h)]; rfl
/-- a text of digits: its number, and whether it is one -/
def dig2 (l : List UInt8) : Int × Bool := if l.all Ar.dgl = true then (nI l, !l.isEmpty) else (0, false)
end Go.Proofs.YtpjbklajjikgjaaDoor
