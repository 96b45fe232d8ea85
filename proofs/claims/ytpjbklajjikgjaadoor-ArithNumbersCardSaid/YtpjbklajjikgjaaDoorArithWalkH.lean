/- The plain facts for the walks of unary and primary. -/
import Derived.Test.YtpjbklajjikgjaaDoorArithWalkG
namespace Go.Proofs.YtpjbklajjikgjaaDoor
open Go.RowKit Go.Deep

theorem nmF_dr (s : ByteArray) : ∀ f k, s.size ≤ k + f → 1 ≤ k → k ≤ s.size → nmF (bt s) s.size f k = k + ((dr s k).takeWhile fun d => Ar.stl d || Ar.dgl d).length
  | 0, k, h, _, h2 => by
    obtain rfl : k = s.size := by omega
    rw [dr_nil (Nat.le_refl _)]
    rfl
  | f + 1, k, h, h1, h2 => by
    rw [nmF]
    by_cases hk : k < s.size
    · have e : nmB (bt s) k = (Ar.stl s[k] || Ar.dgl s[k]) := by
        rw [nmB, bt_get hk, stB_eq, dgB_eq]
        simp [show 0 < k from h1]
      rw [dr_cons hk, List.takeWhile_cons]
      by_cases hb : (Ar.stl s[k] || Ar.dgl s[k]) = true
      · rw [if_pos ⟨hk, by rw [e]; exact hb⟩, nmF_dr s f (k + 1) (by omega) (by omega) (by omega), if_pos hb, List.length_cons]
        omega
      · rw [if_neg (fun c => hb (by rw [← e]; exact c.2)), if_neg hb]
        rfl
    · obtain rfl : k = s.size := by omega
      rw [if_neg (fun c => hk c.1), dr_nil (Nat.le_refl _)]
      rfl
theorem nmRun_eq (s : ByteArray) : nmRun (bt s) s.size = Ar.nmn s.data.toList := by
  have e0 : s.data.toList = dr s 0 := rfl
  rw [e0, nmRun]
  by_cases hk : 0 < s.size
  · obtain ⟨n, hn⟩ : ∃ n, s.size = n + 1 := ⟨s.size - 1, by omega⟩
    have e : nmB (bt s) 0 = Ar.stl s[0] := by
      rw [nmB, bt_get hk, stB_eq]
      simp
    rw [dr_cons hk, Ar.nmn]
    rw [show nmF (bt s) s.size s.size 0 = nmF (bt s) s.size (n + 1) 0 from by rw [← hn], nmF]
    by_cases hb : Ar.stl s[0] = true
    · rw [if_pos ⟨hk, by rw [e]; exact hb⟩, if_pos hb, nmF_dr s n (0 + 1) (by omega) (by omega) (by omega)]
    · rw [if_neg (fun c => hb (by rw [← e]; exact c.2)), if_neg hb]
  · have h0 : s.size = 0 := by omega
    rw [dr_nil (by omega), h0]
    rfl
theorem sgn_sk (l : List UInt8) : Ar.sgn (Ar.sk l) = Ar.sgn l := by
  induction l with
  | nil => rfl
  | cons c l ih =>
    have e : Ar.sk (c :: l) = if Ar.blk c = true then Ar.sk l else c :: l := List.dropWhile_cons
    rw [e]
    split
    · rename_i h
      rw [ih, Ar.sgn, if_pos h]
    · rfl
theorem sgn_on {s : ByteArray} {j : Nat} (hj : j < s.size) (hs : Ar.sk (dr s j) = dr s j) (h : Ar.isSg s[j] ((dr s (j + 1)).headD 0) = true) :
    Ar.sgn (dr s j) = (s[j] :: (Ar.sgn (Ar.sk (dr s (j + 1)))).1, (Ar.sgn (Ar.sk (dr s (j + 1)))).2) := by
  have hb : ¬ Ar.blk s[j] = true := by
    intro hb
    rw [sk_step hj, if_pos hb] at hs
    have h1 := Ar.sk_len (dr s (j + 1))
    have h2 := congrArg List.length hs
    rw [dr_len] at h1 h2
    omega
  rw [sgn_sk, dr_cons hj, Ar.sgn, if_neg hb, if_pos h]
theorem sgn_off {s : ByteArray} {j : Nat} (hj : j < s.size) (hs : Ar.sk (dr s j) = dr s j) (h : Ar.isSg s[j] ((dr s (j + 1)).headD 0) = false) :
    Ar.sgn (dr s j) = ([], dr s j) := by
  have hb : ¬ Ar.blk s[j] = true := by
    intro hb
    rw [sk_step hj, if_pos hb] at hs
    have h1 := Ar.sk_len (dr s (j + 1))
    have h2 := congrArg List.length hs
    rw [dr_len] at h1 h2
    omega
  rw [dr_cons hj, Ar.sgn, if_neg hb, if_neg (by rw [h]; simp)]
theorem sgn_end {s : ByteArray} {j : Nat} (hj : s.size ≤ j) : Ar.sgn (dr s j) = ([], dr s j) := by rw [dr_nil hj]; rfl
/-- is a byte a sign's? -/
def sg4 (c : UInt8) : Bool := c == 43 || c == 45 || c == 33 || c == 126
theorem sg4_index (c : UInt8) : decide (0 ≤ Lib.indexByte [43, 45, 33, 126] c) = sg4 c := by
  by_cases h1 : (43 : UInt8) = c
  · subst h1; decide
  · by_cases h2 : (45 : UInt8) = c
    · subst h2; decide
    · by_cases h3 : (33 : UInt8) = c
      · subst h3; decide
      · by_cases h4 : (126 : UInt8) = c
        · subst h4; decide
        · simp [Lib.indexByte, sg4, h1, h2, h3, h4, Ne.symm h1, Ne.symm h2, Ne.symm h3, Ne.symm h4]
theorem isSg_eq (c d : UInt8) : Ar.isSg c d = (sg4 c && !(c == 33 && d == 61)) := by
  by_cases h1 : c = 33
  · subst h1
    cases hd : (d == 61) <;> simp [Ar.isSg, sg4, hd]
  · simp [Ar.isSg, sg4]
    grind
theorem ne_eq2 {s : ByteArray} {j : Nat} (hj : j < s.size) : Lib.hasPrefix (dr s j) [33, 61] = (s[j] == 33 && (dr s (j + 1)).headD 0 == 61) := by
  rw [dr_cons hj]
  show ((33 : UInt8) == s[j] && [(61 : UInt8)].isPrefixOf (dr s (j + 1))) = _
  rw [Bool.beq_comm]
  congr 1
  cases dr s (j + 1) with
  | nil => rfl
  | cons d l =>
    show ((61 : UInt8) == d && true) = _
    rw [Bool.and_true, Bool.beq_comm]
    rfl
end Go.Proofs.YtpjbklajjikgjaaDoor
