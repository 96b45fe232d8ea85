/- The walk of the law GlobOnes, from the contracts. -/
import Derived.Test.YthlboecjlelemaaGlobLawB
import Derived.Test.YthlboecjlelemaaGlobPlainC
namespace Go.Proofs.Ythlboecjlelemaa
open Go.RowKit Go.Deep Qm.Glob
attribute [local go_sem] bt_eq strOfNums_size

theorem gMatch_EL (p s : ByteArray) : gMatch p s = EL (gItems (bt p) p.size) (bt s) s.size := rfl
theorem E_any {t : Nat → Nat} (ht : ∀ i, t i < 256) {l : List GI} {n : Nat} (hl : ∀ k, k < n → l.getD k giStar = giAny) : ∀ k i, k ≤ n → E (fun k => (l.getD k giStar).star) (fun k c => (l.getD k giStar).S c) t k i = (i == k)
  | 0, 0, _ => rfl
  | 0, _ + 1, _ => rfl
  | k + 1, 0, h => by rw [Es0, hl k (by omega)]; rfl
  | k + 1, i + 1, h => by
    rw [Ess, hl k (by omega), E_any ht hl k i (by omega)]
    have := ht i
    simp [giAny, addS, this]
theorem EL_ones {t : Nat → Nat} (ht : ∀ i, t i < 256) (n i : Nat) : EL (List.replicate n giAny) t i = (i == n) := by
  unfold EL
  rw [List.length_replicate]
  exact E_any ht (n := n) (fun k hk => by simp [List.getD_eq_getElem?_getD, hk]) n i (Nat.le_refl _)
theorem EL_ones_star {t : Nat → Nat} (ht : ∀ i, t i < 256) (n : Nat) : ∀ i, EL (List.replicate n giAny ++ [giStar]) t i = decide (n ≤ i) := by
  have hl : ∀ k, k < n → (List.replicate n giAny ++ [giStar]).getD k giStar = giAny := fun k hk => by
    rw [List.getD_eq_getElem?_getD, List.getElem?_append_left (by simpa using hk)]; simp [hk]
  have hs : (List.replicate n giAny ++ [giStar]).getD n giStar = giStar := by
    rw [List.getD_eq_getElem?_getD, List.getElem?_append_right (by simp)]; simp
  intro i
  unfold EL
  rw [List.length_append, List.length_replicate, List.length_singleton]
  induction i with
  | zero => rw [Es0, hs, E_any ht hl n 0 (Nat.le_refl _), Bool.eq_iff_iff]; simp [giStar]; omega
  | succ i ih => rw [Ess, hs, E_any ht hl n (i + 1) (Nat.le_refl _), ih, Bool.eq_iff_iff]; simp [giStar]; omega
theorem EL_star_ones {t : Nat → Nat} (ht : ∀ i, t i < 256) (n i : Nat) : EL (giStar :: List.replicate n giAny) t i = decide (n ≤ i) := by
  have key : ∀ k i, k ≤ n → E (fun k => ((giStar :: List.replicate n giAny).getD k giStar).star) (fun k c => ((giStar :: List.replicate n giAny).getD k giStar).S c) t (k + 1) i = decide (k ≤ i) := by
    intro k
    induction k with
    | zero =>
      intro i _
      induction i with
      | zero => rfl
      | succ i ih => rw [Ess, ih]; simp [giStar]
    | succ k ihk =>
      intro i hk
      have hg : (giStar :: List.replicate n giAny).getD (k + 1) giStar = giAny := by
        rw [List.getD_eq_getElem?_getD, List.getElem?_cons_succ]; simp [show k < n from by omega]
      cases i with
      | zero => rw [Es0, hg]; simp [giAny]
      | succ i =>
        have := ht i
        rw [Ess, hg, ihk i (by omega), Bool.eq_iff_iff]
        simp [giAny, addS, this]
  unfold EL
  rw [List.length_cons, List.length_replicate]
  exact key n i (Nat.le_refl _)
theorem map_ones {t : Nat → Nat} {k : Nat} (h : ∀ j, j < k → t j = 63) : (List.range k).map (fun j => simp1 (t j)) = List.replicate k giAny := by
  rw [List.eq_replicate_iff]
  refine ⟨by simp, fun x hx => ?_⟩
  simp only [List.mem_map, List.mem_range] at hx
  obtain ⟨j, hj, rfl⟩ := hx
  rw [h j hj]; rfl
def ones (n : Nat) : ByteArray := strOfNums (List.replicate n 63)
theorem ones_size (n : Nat) : (ones n).size = n := by simp [ones, strOfNums_size]
theorem bt_ones {n j : Nat} (h : j < n) : bt (ones n) j = 63 := by
  rw [ones, bt_nums, List.getD_eq_getElem?_getD, List.getElem?_replicate, if_pos h]; rfl
theorem ones_succ (n : Nat) : ones n ++ ⟨#[63]⟩ = ones (n + 1) := by
  apply ByteArray.ext
  rw [ByteArray.data_append]
  simp [ones, strOfNums, List.replicate_succ']
  apply Array.ext'
  simp
theorem gItems_zero (t : Nat → Nat) : gItems t 0 = [] := rfl
theorem match_ones (n : Nat) (s : ByteArray) : gMatch (ones n) s = (s.size == n) := by
  rw [gMatch_EL, ones_size, gItems_parts _ n n (Nat.le_refl _) (fun j hj => by rw [bt_ones hj]; omega), map_ones (fun j hj => bt_ones hj), Nat.sub_self, gItems_zero, List.append_nil]
  exact EL_ones (bt_lt s) n s.size
theorem match_ones_star (n : Nat) (s : ByteArray) : gMatch (ones n ++ ⟨#[42]⟩) s = decide (n ≤ s.size) := by
  have hsz : (ones n ++ ⟨#[42]⟩ : ByteArray).size = n + 1 := by rw [ByteArray.size_append, ones_size]; rfl
  have h63 : ∀ j, j < n → bt (ones n ++ ⟨#[42]⟩) j = 63 := fun j hj => by rw [bt_append, ones_size, if_pos hj, bt_ones hj]
  have h42 : bt (ones n ++ ⟨#[42]⟩) n = 42 := by rw [bt_append, ones_size, if_neg (by omega), Nat.sub_self]; rfl
  rw [gMatch_EL, hsz, gItems_parts _ (n + 1) (n + 1) (Nat.le_refl _) (fun j hj => by
    rcases Nat.lt_or_ge j n with h | h
    · rw [h63 j h]; omega
    · rw [show j = n from by omega, h42]; omega), Nat.sub_self, gItems_zero, List.append_nil, List.range_succ, List.map_append, map_ones h63]
  simp only [List.map_cons, List.map_nil, h42]
  exact EL_ones_star (bt_lt s) n s.size
theorem match_star_ones (n : Nat) (s : ByteArray) : gMatch (⟨#[42]⟩ ++ ones n) s = decide (n ≤ s.size) := by
  have h1 : (⟨#[42]⟩ : ByteArray).size = 1 := rfl
  have hsz : (⟨#[42]⟩ ++ ones n : ByteArray).size = n + 1 := by rw [ByteArray.size_append, ones_size, h1]; omega
  have h42 : bt (⟨#[42]⟩ ++ ones n) 0 = 42 := by rw [bt_append, h1]; rfl
  have h63 : ∀ j, j < n → bt (⟨#[42]⟩ ++ ones n) (j + 1) = 63 := fun j hj => by rw [bt_append, h1, if_neg (by omega), Nat.add_sub_cancel, bt_ones hj]
  rw [gMatch_EL, hsz, gItems_parts _ (n + 1) (n + 1) (Nat.le_refl _) (fun j hj => by
    rcases j with _ | j
    · rw [h42]; omega
    · rw [h63 j (by omega)]; omega), Nat.sub_self, gItems_zero, List.append_nil, List.range_succ_eq_map, List.map_cons, List.map_map, h42]
  have := map_ones (t := fun j => bt (⟨#[42]⟩ ++ ones n) (j + 1)) (k := n) h63
  rw [show ((fun j => simp1 (bt (⟨#[42]⟩ ++ ones n) j)) ∘ Nat.succ) = fun j => simp1 (bt (⟨#[42]⟩ ++ ones n) (j + 1)) from rfl, this]
  exact EL_star_ones (bt_lt s) n s.size

end Go.Proofs.Ythlboecjlelemaa
