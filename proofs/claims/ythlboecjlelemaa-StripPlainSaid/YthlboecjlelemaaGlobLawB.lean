/- The walk of the law GlobSets, from the contracts. -/
import Derived.Test.YthlboecjlelemaaGlobLawA
import Derived.Test.YthlboecjlelemaaGlobPlainB
namespace Go.Proofs.Ythlboecjlelemaa
open Go.RowKit Go.Deep Qm.Glob
attribute [local go_sem] bt_eq

theorem bt_append (a b : ByteArray) (i : Nat) : bt (a ++ b) i = if i < a.size then bt a i else bt b (i - a.size) := by
  have e : (a ++ b).data = a.data ++ b.data := by simp
  simp only [bt, e, Array.getD_eq_getD_getElem?, Array.getElem?_append]
  have h : a.data.size = a.size := rfl
  rw [h]
  split <;> rfl
theorem bt_nums (xs : List Int) (i : Nat) : bt (strOfNums xs) i = (xs.getD i 0).toNat % 256 := by
  simp only [bt, strOfNums, Array.getD_eq_getD_getElem?, List.getElem?_toArray, List.getElem?_map, List.getD_eq_getElem?_getD]
  cases h : xs[i]? with
  | none => rfl
  | some x => simp
theorem conv3 (W : World) (x y z : Int) (n : Nat) (h : n = W.heap.size) : (convert 30 9 (.slice (some ⟨n, 0, none⟩) 3 3)).run Try.prog (W.alloc (.cells #[.int .u8 x, .int .u8 y, .int .u8 z] 5)) = .ok (.string (strOfNums [x, y, z])) (W.alloc (.cells #[.int .u8 x, .int .u8 y, .int .u8 z] 5)) := by
  subst h
  exact run_convert_bytes_arg _ 30 5 Try.underlying30 Try.underlying5 W.heap.size 0 3 3 [x, y, z] rfl (fun i hi => by
    rw [World.cell?_alloc_at _ _ _ _ rfl]
    have h : i = 0 ∨ i = 1 ∨ i = 2 := by omega
    rcases h with rfl | rfl | rfl <;> rfl) _ Try.underlying9
theorem conv2 (W : World) (x y : Int) (n : Nat) (h : n = W.heap.size) : (convert 30 9 (.slice (some ⟨n, 0, none⟩) 2 2)).run Try.prog (W.alloc (.cells #[.int .u8 x, .int .u8 y] 5)) = .ok (.string (strOfNums [x, y])) (W.alloc (.cells #[.int .u8 x, .int .u8 y] 5)) := by
  subst h
  exact run_convert_bytes_arg _ 30 5 Try.underlying30 Try.underlying5 W.heap.size 0 2 2 [x, y] rfl (fun i hi => by
    rw [World.cell?_alloc_at _ _ _ _ rfl]
    have h : i = 0 ∨ i = 1 := by omega
    rcases h with rfl | rfl <;> rfl) _ Try.underlying9
theorem conv1 (W : World) (x : Int) (n : Nat) (h : n = W.heap.size) : (convert 30 9 (.slice (some ⟨n, 0, none⟩) 1 1)).run Try.prog (W.alloc (.cells #[.int .u8 x] 5)) = .ok (.string (strOfNums [x])) (W.alloc (.cells #[.int .u8 x] 5)) := by
  subst h
  exact run_convert_bytes_arg _ 30 5 Try.underlying30 Try.underlying5 W.heap.size 0 1 1 [x] rfl (fun i hi => by
    rw [World.cell?_alloc_at _ _ _ _ rfl]
    obtain rfl : i = 0 := by omega
    rfl) _ Try.underlying9
attribute [local go_sem] conv1 conv2 conv3 strOfNums_size

theorem match_range (lo hi : Nat) (s : ByteArray) (hl : lo < 256) (hh : hi < 256) (a1 : lo ≠ 92) (a2 : hi ≠ 92) (a4 : hi ≠ 93) (a5 : lo ≠ 33) :
    gMatch (⟨#[91]⟩ ++ strOfNums [(lo : Int), 45, (hi : Int)] ++ ⟨#[93]⟩) s = (s.size == 1 && (decide (lo ≤ bt s 0) && decide (bt s 0 ≤ hi))) := by
  have hsz : ((⟨#[91]⟩ ++ strOfNums [(lo : Int), 45, (hi : Int)] ++ ⟨#[93]⟩ : ByteArray)).size = 5 := by simp [ByteArray.size_append, strOfNums_size]; rfl
  have h1 : ((⟨#[91]⟩ : ByteArray)).size = 1 := rfl
  have hb : ∀ i, bt (⟨#[91]⟩ ++ strOfNums [(lo : Int), 45, (hi : Int)] ++ ⟨#[93]⟩) i = if i < 4 then (if i < 1 then bt ⟨#[91]⟩ i else ([(lo : Int), 45, (hi : Int)].getD (i - 1) 0).toNat % 256) else bt ⟨#[93]⟩ (i - 4) := by
    intro i
    rw [bt_append, bt_append, bt_nums, ByteArray.size_append, strOfNums_size, h1]
    rfl
  have hi0 : gItems (bt (⟨#[91]⟩ ++ strOfNums [(lo : Int), 45, (hi : Int)] ++ ⟨#[93]⟩)) 5 = [giSet (addS noS lo (hi + 1))] :=
    items_range (by rw [hb]; rfl) (by rw [hb]; simp; omega) (by rw [hb]; rfl) (by rw [hb]; simp; omega) (by rw [hb]; rfl) a1 a2 a4 a5
  unfold gMatch
  rw [hsz, hi0, ← addS_one]
  exact E_set _ _ _
theorem match_notrange (lo hi : Nat) (s : ByteArray) (hl : lo < 256) (hh : hi < 256) (a1 : lo ≠ 92) (a2 : hi ≠ 92) (a4 : hi ≠ 93) :
    gMatch (⟨#[91, 33]⟩ ++ strOfNums [(lo : Int), 45, (hi : Int)] ++ ⟨#[93]⟩) s = (s.size == 1 && !(decide (lo ≤ bt s 0) && decide (bt s 0 ≤ hi))) := by
  have hsz : ((⟨#[91, 33]⟩ ++ strOfNums [(lo : Int), 45, (hi : Int)] ++ ⟨#[93]⟩ : ByteArray)).size = 6 := by simp [ByteArray.size_append, strOfNums_size]; rfl
  have h1 : ((⟨#[91, 33]⟩ : ByteArray)).size = 2 := rfl
  have hb : ∀ i, bt (⟨#[91, 33]⟩ ++ strOfNums [(lo : Int), 45, (hi : Int)] ++ ⟨#[93]⟩) i = if i < 5 then (if i < 2 then bt ⟨#[91, 33]⟩ i else ([(lo : Int), 45, (hi : Int)].getD (i - 2) 0).toNat % 256) else bt ⟨#[93]⟩ (i - 5) := by
    intro i
    rw [bt_append, bt_append, bt_nums, ByteArray.size_append, strOfNums_size, h1]
    rfl
  have hi0 : gItems (bt (⟨#[91, 33]⟩ ++ strOfNums [(lo : Int), 45, (hi : Int)] ++ ⟨#[93]⟩)) 6 = [giSet (fun c => !addS noS lo (hi + 1) c)] :=
    items_not (by rw [hb]; rfl) (by rw [hb]; rfl) (by rw [hb]; simp; omega) (by rw [hb]; rfl) (by rw [hb]; simp; omega) (by rw [hb]; rfl) a1 a2 a4
  unfold gMatch
  rw [hsz, hi0, ← addS_one]
  exact E_set _ _ _
theorem match_two (lo hi : Nat) (s : ByteArray) (hl : lo < 256) (hh : hi < 256) (a1 : lo ≠ 92) (a2 : hi ≠ 92) (a4 : hi ≠ 93) (a5 : lo ≠ 33) (a6 : hi ≠ 45) :
    gMatch (⟨#[91]⟩ ++ strOfNums [(lo : Int), (hi : Int)] ++ ⟨#[93]⟩) s = (s.size == 1 && (bt s 0 == lo || bt s 0 == hi)) := by
  have hsz : ((⟨#[91]⟩ ++ strOfNums [(lo : Int), (hi : Int)] ++ ⟨#[93]⟩ : ByteArray)).size = 4 := by simp [ByteArray.size_append, strOfNums_size]; rfl
  have h1 : ((⟨#[91]⟩ : ByteArray)).size = 1 := rfl
  have hb : ∀ i, bt (⟨#[91]⟩ ++ strOfNums [(lo : Int), (hi : Int)] ++ ⟨#[93]⟩) i = if i < 3 then (if i < 1 then bt ⟨#[91]⟩ i else ([(lo : Int), (hi : Int)].getD (i - 1) 0).toNat % 256) else bt ⟨#[93]⟩ (i - 3) := by
    intro i
    rw [bt_append, bt_append, bt_nums, ByteArray.size_append, strOfNums_size, h1]
    rfl
  have hi0 : gItems (bt (⟨#[91]⟩ ++ strOfNums [(lo : Int), (hi : Int)] ++ ⟨#[93]⟩)) 4 = [giSet (addS (addS noS lo (lo + 1)) hi (hi + 1))] :=
    items_two (by rw [hb]; rfl) (by rw [hb]; simp; omega) (by rw [hb]; simp; omega) (by rw [hb]; rfl) a1 a2 a4 a5 a6
  unfold gMatch
  rw [hsz, hi0, ← addS_two]
  exact E_set _ _ _
theorem one_num (c : Nat) (h : c < 256) : (strOfNums [(c : Int)]).size = 1 ∧ bt (strOfNums [(c : Int)]) 0 = c := ⟨rfl, by rw [bt_nums]; simp; omega⟩

end Go.Proofs.Ythlboecjlelemaa
