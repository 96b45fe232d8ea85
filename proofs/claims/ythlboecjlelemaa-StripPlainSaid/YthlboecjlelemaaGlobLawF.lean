/- The walk of the law GlobQuote, from the contracts. -/
import Derived.Test.YthlboecjlelemaaGlobLawE
import Derived.Test.YthlboecjlelemaaGlobWalkH
import Derived.Test.YthlboecjlelemaaGlobPlainE
namespace Go.Proofs.Ythlboecjlelemaa
open Go.RowKit Go.Deep Qm.Glob
attribute [local go_sem] bt_eq strOfNums_size

def bytesOf (s : ByteArray) : List Nat := (List.range s.size).map (bt s)
theorem qb_bytes (s : ByteArray) : qb (bt s) s.size = (bytesOf s).flatMap qOne := by
  simp only [qb, bytesOf, List.flatMap_map]
  rfl
theorem bt_ext {s t : ByteArray} (h : s.size = t.size) (h2 : ∀ j, j < s.size → bt s j = bt t j) : s = t := by
  apply ByteArray.ext
  apply Array.ext h
  intro j h3 h4
  have := h2 j h3
  rw [← bt_eq s j h3, ← bt_eq t j h4] at this
  exact UInt8.toNat_inj.1 this
theorem sb_bytes (s : ByteArray) : sb (bytesOf s) = s := by
  have hs : (sb (bytesOf s)).size = s.size := by rw [sb_size]; simp [bytesOf]
  refine bt_ext hs (fun j hj => ?_)
  rw [hs] at hj
  have := bt_lt s j
  rw [bt_sb, bytesOf, List.getD_eq_getElem?_getD, List.getElem?_map, List.getElem?_range hj]
  simp only [Option.map_some, Option.getD_some]
  omega
theorem qOne_lt {l : List Nat} (h : ∀ c ∈ l, c < 256) : ∀ c ∈ l.flatMap qOne, c < 256 := by
  intro c hc
  obtain ⟨d, hd, hc⟩ := List.mem_flatMap.1 hc
  have := h d hd
  unfold qOne at hc
  split at hc
  · simp at hc; omega
  · simp at hc; omega
theorem bt_sb_lt {l : List Nat} (h : ∀ c ∈ l, c < 256) : bt (sb l) = lt l := by
  funext j
  rw [bt_sb, lt]
  rw [List.getD_eq_getElem?_getD]
  cases hj : l[j]? with
  | none => rfl
  | some c => exact Nat.mod_eq_of_lt (h c (List.mem_of_getElem? hj))
theorem items_quoted (s : ByteArray) : gItems (bt (sb (qb (bt s) s.size))) (sb (qb (bt s) s.size)).size = (bytesOf s).map giOne := by
  have hb : ∀ c ∈ bytesOf s, c < 256 := fun c hc => by
    obtain ⟨j, _, rfl⟩ := List.mem_map.1 hc
    exact bt_lt s j
  rw [qb_bytes, sb_size, bt_sb_lt (qOne_lt hb)]
  exact items_quote _
theorem quoted_plain (s : ByteArray) : plAll (gItems (bt (sb (qb (bt s) s.size))) (sb (qb (bt s) s.size)).size) = true ∧ plBytes (gItems (bt (sb (qb (bt s) s.size))) (sb (qb (bt s) s.size)).size) = bytesOf s := by
  rw [items_quoted]
  refine ⟨?_, ?_⟩
  · simp [plAll, giOne]
  · simp only [plBytes, List.map_map]
    exact (List.map_congr_left fun _ _ => rfl).trans (List.map_id _)
theorem quoted_match (s t : ByteArray) : gMatch (sb (qb (bt s) s.size)) t = decide (s = t) := by
  rw [match_plain (quoted_plain s).1, (quoted_plain s).2]
  have hl : (bytesOf s).length = s.size := by simp [bytesOf]
  rw [hl, Bool.eq_iff_iff]
  simp only [Bool.and_eq_true, beq_iff_eq, List.all_eq_true, List.mem_range, decide_eq_true_eq]
  have hg : ∀ j, j < s.size → (bytesOf s).getD j 0 = bt s j := fun j hj => by
    rw [bytesOf, List.getD_eq_getElem?_getD, List.getElem?_map, List.getElem?_range hj]; rfl
  constructor
  · rintro ⟨h1, h2⟩
    exact bt_ext h1.symm fun j hj => by rw [h2 j hj, hg j hj]
  · rintro rfl
    exact ⟨rfl, fun j hj => (hg j hj).symm⟩

end Go.Proofs.Ythlboecjlelemaa
