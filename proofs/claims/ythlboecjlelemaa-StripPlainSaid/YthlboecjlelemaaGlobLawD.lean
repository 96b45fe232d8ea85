/- The walk of the law GlobParts, from the contracts. -/
import Derived.Test.YthlboecjlelemaaGlobLawC
namespace Go.Proofs.Ythlboecjlelemaa
open Go.RowKit Go.Deep Qm.Glob
attribute [local go_sem] bt_eq strOfNums_size

/-- no [ and no backslash -/
def Tame (a : ByteArray) : Prop := ∀ j, j < a.size → bt a j ≠ 91 ∧ bt a j ≠ 92
def iTame (a : ByteArray) : List GI := (List.range a.size).map fun j => simp1 (bt a j)
theorem sh_append (a b : ByteArray) : sh (bt (a ++ b)) a.size = bt b := by
  funext j
  simp only [sh]
  rw [bt_append, if_neg (by omega), Nat.add_sub_cancel]
theorem items_append {a : ByteArray} (h : Tame a) (b : ByteArray) : gItems (bt (a ++ b)) (a ++ b).size = iTame a ++ gItems (bt b) b.size := by
  rw [ByteArray.size_append, gItems_parts _ (a.size + b.size) a.size (by omega) (fun j hj => by rw [bt_append, if_pos hj]; exact h j hj), sh_append, Nat.add_sub_cancel_left]
  congr 1
  exact List.map_congr_left fun j hj => by rw [bt_append, if_pos (List.mem_range.1 hj)]
theorem items_tame {a : ByteArray} (h : Tame a) : gItems (bt a) a.size = iTame a := by
  rw [gItems_parts _ a.size a.size (Nat.le_refl _) h, Nat.sub_self, gItems_zero, List.append_nil]; rfl
theorem tame_append {a b : ByteArray} (h : Tame a) (h2 : Tame b) : Tame (a ++ b) := fun j hj => by
  rw [bt_append]
  rw [ByteArray.size_append] at hj
  split
  · exact h j (by assumption)
  · exact h2 _ (by omega)
theorem EL_front (l : List GI) (s t : ByteArray) : EL l (bt (s ++ t)) s.size = EL l (bt s) s.size :=
  EL_congr _ _ fun j hj => by rw [bt_append, if_pos hj]
theorem EL_both {l m : List GI} {s t : ByteArray} (h1 : EL l (bt s) s.size = true) (h2 : EL m (bt t) t.size = true) : EL (l ++ m) (bt (s ++ t)) (s ++ t).size = true := by
  rw [ByteArray.size_append]
  exact EL_app ((EL_front l s t).trans h1) (by rw [sh_append]; exact h2)
theorem match_parts {a b s t : ByteArray} (h : Tame a) (h1 : gMatch a s = true) (h2 : gMatch b t = true) : gMatch (a ++ b) (s ++ t) = true := by
  rw [gMatch_EL, items_append h]
  rw [gMatch_EL, items_tame h] at h1
  rw [gMatch_EL] at h2
  exact EL_both h1 h2
theorem tame_star : Tame ⟨#[42]⟩ := fun j hj => by
  have : j = 0 := by have : (⟨#[42]⟩ : ByteArray).size = 1 := rfl; omega
  subst this; decide
theorem tame_stars : Tame ⟨#[42, 42]⟩ := fun j hj => by
  have : j = 0 ∨ j = 1 := by have : (⟨#[42, 42]⟩ : ByteArray).size = 2 := rfl; omega
  rcases this with rfl | rfl <;> decide
theorem match_star (s : ByteArray) : gMatch ⟨#[42]⟩ s = true := EL_star _ _
theorem match_mid {a b s t : ByteArray} (m : ByteArray) (h : Tame a) (h1 : gMatch a s = true) (h2 : gMatch b t = true) : gMatch (a ++ ⟨#[42]⟩ ++ b) (s ++ m ++ t) = true :=
  match_parts (tame_append h tame_star) (match_parts h h1 (match_star m)) h2
theorem match_stars {a s : ByteArray} (h : Tame a) (h1 : gMatch a s = true) : gMatch (a ++ ⟨#[42, 42]⟩) s = true := by
  have h3 : gMatch (a ++ ⟨#[42, 42]⟩) (s ++ ByteArray.empty) = true := match_parts h h1 rfl
  have e : s ++ ByteArray.empty = s := by
    apply ByteArray.ext
    rw [ByteArray.data_append]
    simp
  rwa [e] at h3

end Go.Proofs.Ythlboecjlelemaa
