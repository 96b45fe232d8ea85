/- Texts of bytes, digits, and what an expression of them comes to. -/
import Derived.Test.YtpjbklajjikgjaaDoorArithMathD
import Derived.Test.YtpjbklajjikgjaaDoorArithLawA
import Derived.Test.YtpjbklajjikgjaaDoorDigitsWalkB
namespace Go.Proofs.YtpjbklajjikgjaaDoor
open Go.RowKit Go.Deep Qm.Base

def bs (l : List UInt8) : ByteArray := ⟨l.toArray⟩
theorem bs_list (l : List UInt8) : (bs l).data.toList = l := by simp [bs]
theorem bs_size (l : List UInt8) : (bs l).size = l.length := by simp [bs, ByteArray.size]
theorem bs_app (a b : List UInt8) : bs a ++ bs b = bs (a ++ b) := by
  apply ByteArray.ext
  simp [bs]
theorem i64_le {n : Int} (h : (Lit.int .i64 n).wf = true) : -9223372036854775808 ≤ n ∧ n ≤ 9223372036854775807 := by
  simp only [Lit.wf, Bool.and_eq_true, decide_eq_true_eq] at h
  exact h
/-- the digits of a number -/
def dB (n : Nat) : List UInt8 := (dgL n).map UInt8.ofNat
theorem ds_bs (n : Nat) : ds (dgL n) = bs (dB n) := by
  apply ByteArray.ext
  simp [ds, bs, dB, strOfNums]
theorem dB_dgl (n : Nat) : ∀ c ∈ dB n, Ar.dgl c = true := by
  intro c hc
  obtain ⟨k, hk, rfl⟩ := List.mem_map.1 hc
  have := dgL_mem n k hk
  rw [dgl_iff]
  have h : (UInt8.ofNat k).toNat = k := by rw [UInt8.toNat_ofNat']; omega
  rw [h]; exact this
theorem dB_pos (n : Nat) : dB n ≠ [] := by
  intro h
  have := dgL_pos n
  have h2 := congrArg List.length h
  simp [dB] at h2
  rw [h2] at this
  simp at this
theorem dB_len (n : Nat) (h : n ≤ 9223372036854775807) : (dB n).length ≤ 19 := by
  have := dgL_len n 18 (by omega)
  simpa [dB] using this
theorem numN_map (l : List Nat) (h : ∀ c ∈ l, 48 ≤ c ∧ c ≤ 57) : numN (l.map UInt8.ofNat) = dgV l := by
  unfold numN dgV
  generalize 0 = x
  induction l generalizing x with
  | nil => rfl
  | cons c l ih =>
    have hc := h c (by simp)
    have e : (UInt8.ofNat c).toNat = c := by rw [UInt8.toNat_ofNat']; omega
    rw [List.map_cons, List.foldl_cons, List.foldl_cons, e]
    exact ih (fun d hd => h d (by simp [hd])) _
theorem nI_dB (n : Nat) (h : n ≤ 9223372036854775807) : nI (dB n) = n := by
  unfold nI dB
  rw [numN_map _ (dgL_mem n), dgV_dgL]
  unfold wrap64
  omega
theorem evalF_bs (P : List Pr) (l : List UInt8) (h : l.length ≤ 4096) : evalF P (bs l) = wholeF (Ar.exR (KP P) 41 l false) := by
  unfold evalF
  rw [if_neg (by rw [bs_size]; omega), bs_list, Ar.ex_same]
/-- digits within n parentheses -/
def dpT (n a : Nat) : List UInt8 := List.replicate n 40 ++ dB a ++ List.replicate n 41
theorem dpT_succ (n a : Nat) : ([40] ++ dpT n a) ++ [41] = dpT (n + 1) a := by
  unfold dpT
  rw [List.replicate_succ, List.replicate_succ']
  simp
theorem dpT_len (n a : Nat) (h : a ≤ 9223372036854775807) : (dpT n a).length ≤ 2 * n + 19 := by
  have := dB_len a h
  simp [dpT]
  omega
theorem deep_val (P : List Pr) (n a : Nat) (hn : n ≤ 40) (h : a ≤ 9223372036854775807) : evalF P (bs (dpT n a)) = ((a : Int), 0) := by
  have hl := dpT_len n a h
  rw [evalF_bs P _ (by omega)]
  have := Ar.deep_ok (KP P) (dB_pos a) (dB_dgl a) n 41 [] false (by omega) rfl (by decide) (by decide)
  rw [List.append_nil] at this
  unfold dpT
  rw [this]
  show (nI (dB a), 0) = _
  rw [nI_dB a h]
theorem deep_open (P : List Pr) (n a : Nat) (hn : n ≤ 40) (h : a ≤ 9223372036854775807) : evalF P (bs (dpT n a ++ [40])) = (0, 2) := by
  have hl := dpT_len n a h
  rw [evalF_bs P _ (by simp; omega)]
  have := Ar.deep_ok (KP P) (dB_pos a) (dB_dgl a) n 41 [40] false (by omega) rfl (by decide) (by decide)
  unfold dpT
  rw [this]
  rfl
theorem deep_three (P : List Pr) (n a : Nat) (t : List UInt8) (hn : 40 < n) (hn2 : n ≤ 60) (ht : t.length ≤ 1) (h : a ≤ 9223372036854775807) : evalF P (bs (dpT n a ++ t)) = (0, 3) := by
  have hl := dpT_len n a h
  rw [evalF_bs P _ (by simp; omega)]
  unfold dpT
  rw [List.append_assoc, List.append_assoc, Ar.deep_bad (KP P) [] 41 n _ false (by omega)]
  rfl
end Go.Proofs.YtpjbklajjikgjaaDoor
