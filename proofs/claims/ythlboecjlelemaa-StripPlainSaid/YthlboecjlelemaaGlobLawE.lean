/- The walk of the law GlobPlain, from the contracts. -/
import Derived.Test.YthlboecjlelemaaGlobLawD
import Derived.Test.YthlboecjlelemaaGlobWalkG
import Derived.Test.YthlboecjlelemaaGlobPlainD
namespace Go.Proofs.Ythlboecjlelemaa
open Go.RowKit Go.Deep Qm.Glob
attribute [local go_sem] bt_eq strOfNums_size

theorem bt_sb (l : List Nat) (j : Nat) : bt (sb l) j = l.getD j 0 % 256 := by
  rw [sb, bt_nums]
  simp only [List.getD_eq_getElem?_getD, List.getElem?_map]
  cases l[j]? <;> rfl
theorem plain_same (p : ByteArray) : plAll (gItems (bt p) p.size) = rAll (rItems (bt p) p.size) ∧ (plAll (gItems (bt p) p.size) = true → plBytes (gItems (bt p) p.size) = rBytes (rItems (bt p) p.size) ∧ gItems (bt p) p.size = (plBytes (gItems (bt p) p.size)).map giOne) :=
  sameP_all (sameP_it (bt p) p.size (p.size + 1) 0)
/-- every byte of a pattern's items is one -/
theorem gIt_byte {t : Nat → Nat} (ht : ∀ j, t j < 256) (n : Nat) : ∀ f i x, x ∈ gIt t n f i → x.c < 256
  | 0, _, x, h => by simp [gIt] at h
  | f + 1, i, x, h => by
    rw [gIt] at h
    have ih := gIt_byte ht n f
    have h1 := ht i
    have h2 := ht (i + 1)
    by_cases h0 : i < n
    · rw [if_pos h0] at h
      (repeat' split at h) <;> rcases List.mem_cons.1 h with rfl | h <;> first | exact ih _ _ h | (simp [giStar, giAny, giOne, giSet]; done) | (simp [giOne]; omega)
    · rw [if_neg h0] at h
      simp at h
theorem match_plain {p : ByteArray} (h : plAll (gItems (bt p) p.size) = true) (s : ByteArray) :
    gMatch p s = (s.size == (plBytes (gItems (bt p) p.size)).length && (List.range (plBytes (gItems (bt p) p.size)).length).all fun j => bt s j == (plBytes (gItems (bt p) p.size)).getD j 0) := by
  rw [gMatch_EL]
  have e := ((plain_same p).2 h).2
  rw [← EL_text (bt s) (plBytes (gItems (bt p) p.size)) s.size, ← e]
theorem plBytes_lt (p : ByteArray) (j : Nat) : (plBytes (gItems (bt p) p.size)).getD j 0 < 256 := by
  rw [List.getD_eq_getElem?_getD]
  cases h : (plBytes (gItems (bt p) p.size))[j]? with
  | none => simp
  | some c =>
    simp only [Option.getD_some]
    obtain ⟨x, hx, rfl⟩ := List.mem_map.1 (List.mem_of_getElem? h)
    exact gIt_byte (bt_lt p) _ _ _ x hx
theorem match_own {p : ByteArray} (h : plAll (gItems (bt p) p.size) = true) : gMatch p (sb (plBytes (gItems (bt p) p.size))) = true := by
  rw [match_plain h, sb_size]
  simp only [beq_self_eq_true, Bool.true_and, List.all_eq_true, beq_iff_eq]
  intro j hj
  rw [bt_sb]
  exact Nat.mod_eq_of_lt (plBytes_lt p j)

end Go.Proofs.Ythlboecjlelemaa
