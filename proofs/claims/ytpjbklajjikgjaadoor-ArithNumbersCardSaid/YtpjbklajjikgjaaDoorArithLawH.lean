/- The law ArithLevels: the list of operators, the walk. -/
import Derived.Test.YtpjbklajjikgjaaDoorArithMathG
import Derived.Test.YtpjbklajjikgjaaDoorStrsWalk
import Derived.Deep.RegionHeld3
namespace Go.Proofs.YtpjbklajjikgjaaDoor
open Go.RowKit Go.Deep Qm.Base

/-- the operators as the law lists them -/
def OPS : List ByteArray := (List.range 18).map fun i => bs (Ar.opT i)
theorem OPS_at {i : Nat} (h : i < 18) : OPS[i]? = some (bs (Ar.opT i)) := by
  unfold OPS
  rw [List.getElem?_map, List.getElem?_range h]; rfl
theorem opT_len (i : Nat) : (Ar.opT i).length ≤ 2 := by
  unfold Ar.opT
  split <;> simp
set_option maxRecDepth 100000 in
set_option maxHeartbeats 1000000 in
theorem ops_any (w : World) : Calls Tryd.prog 16 #[] w fun e w' => ∃ g, e = .returned (.slice (some ⟨g, 0, none⟩) 18 18) ∧ w.heap.size ≤ g ∧ (∀ i, i < 18 → w'.cell? ⟨g, i, none⟩ = some (.string (bs (Ar.opT i)))) ∧ g < w'.heap.size ∧ Below w.heap.size w w' := by
  go_enter Tryd.func16, Tryd.ntmps16
  go_wp2
  go_ret
  refine ⟨_, rfl, Nat.le_refl _, ?_, by simp, (Below.refl _ _).alloc (Nat.le_refl _) _⟩
  intro i hi
  rw [World.cell?_alloc_at _ _ _ _ rfl]
  have hc : i = 0 ∨ i = 1 ∨ i = 2 ∨ i = 3 ∨ i = 4 ∨ i = 5 ∨ i = 6 ∨ i = 7 ∨ i = 8 ∨ i = 9 ∨ i = 10 ∨ i = 11 ∨ i = 12 ∨ i = 13 ∨ i = 14 ∨ i = 15 ∨ i = 16 ∨ i = 17 := by omega
  rcases hc with rfl | rfl | rfl | rfl | rfl | rfl | rfl | rfl | rfl | rfl | rfl | rfl | rfl | rfl | rfl | rfl | rfl | rfl <;> rfl
theorem levels_left (a b c p q : Nat) (ha : a ≤ 9223372036854775807) (hb : b ≤ 9223372036854775807) (hc : c ≤ 9223372036854775807) (hp : p < 18) (hq : q < 18) (h : Ar.lev (Ar.opN q) ≤ Ar.lev (Ar.opN p)) :
    evalF [] (ds (dgL a) ++ bs (Ar.opT p) ++ ds (dgL b) ++ bs (Ar.opT q) ++ ds (dgL c)) = evalF [] (⟨#[40]⟩ ++ ds (dgL a) ++ bs (Ar.opT p) ++ ds (dgL b) ++ ⟨#[41]⟩ ++ bs (Ar.opT q) ++ ds (dgL c)) := by
  have la := dB_len a ha
  have lb := dB_len b hb
  have lc := dB_len c hc
  have lp := opT_len p
  have lq := opT_len q
  rw [ds_bs, ds_bs, ds_bs, show (⟨#[40]⟩ : ByteArray) = bs [40] from rfl, show (⟨#[41]⟩ : ByteArray) = bs [41] from rfl]
  simp only [bs_app]
  rw [evalF_bs _ _ (by simp only [List.length_append]; omega), evalF_bs _ _ (by simp only [List.length_append, List.length_cons, List.length_nil]; omega)]
  have h1 := Ar.left_plain (KP []) 40 p q hp hq (dB_pos a) (dB_pos b) (dB_pos c) (dB_dgl a) (dB_dgl b) (dB_dgl c) h false
  have h2 := Ar.left_par (KP []) 39 p q hp hq (dB_pos a) (dB_pos b) (dB_pos c) (dB_dgl a) (dB_dgl b) (dB_dgl c) false
  rw [show dB a ++ Ar.opT p ++ dB b ++ Ar.opT q ++ dB c = dB a ++ (Ar.opT p ++ (dB b ++ (Ar.opT q ++ dB c))) from by simp, h1,
    show [40] ++ dB a ++ Ar.opT p ++ dB b ++ [41] ++ Ar.opT q ++ dB c = 40 :: (dB a ++ (Ar.opT p ++ dB b)) ++ [41] ++ (Ar.opT q ++ dB c) from by simp, h2]
theorem levels_right (a b c p q : Nat) (ha : a ≤ 9223372036854775807) (hb : b ≤ 9223372036854775807) (hc : c ≤ 9223372036854775807) (hp : p < 18) (hq : q < 18) (h : Ar.lev (Ar.opN p) < Ar.lev (Ar.opN q)) :
    evalF [] (ds (dgL a) ++ bs (Ar.opT p) ++ ds (dgL b) ++ bs (Ar.opT q) ++ ds (dgL c)) = evalF [] (ds (dgL a) ++ bs (Ar.opT p) ++ ⟨#[40]⟩ ++ ds (dgL b) ++ bs (Ar.opT q) ++ ds (dgL c) ++ ⟨#[41]⟩) := by
  have la := dB_len a ha
  have lb := dB_len b hb
  have lc := dB_len c hc
  have lp := opT_len p
  have lq := opT_len q
  rw [ds_bs, ds_bs, ds_bs, show (⟨#[40]⟩ : ByteArray) = bs [40] from rfl, show (⟨#[41]⟩ : ByteArray) = bs [41] from rfl]
  simp only [bs_app]
  rw [evalF_bs _ _ (by simp only [List.length_append]; omega), evalF_bs _ _ (by simp only [List.length_append, List.length_cons, List.length_nil]; omega)]
  have h1 := Ar.right_plain (KP []) 40 p q hp hq (dB_pos a) (dB_pos b) (dB_pos c) (dB_dgl a) (dB_dgl b) (dB_dgl c) h false
  have h2 := Ar.right_par (KP []) 39 p q hp hq (dB_pos a) (dB_pos b) (dB_pos c) (dB_dgl a) (dB_dgl b) (dB_dgl c) false
  rw [show dB a ++ Ar.opT p ++ dB b ++ Ar.opT q ++ dB c = dB a ++ (Ar.opT p ++ (dB b ++ (Ar.opT q ++ dB c))) from by simp, h1,
    show dB a ++ Ar.opT p ++ [40] ++ dB b ++ Ar.opT q ++ dB c ++ [41] = dB a ++ (Ar.opT p ++ (40 :: (dB b ++ (Ar.opT q ++ dB c)) ++ [41])) from by simp, h2]
end Go.Proofs.YtpjbklajjikgjaaDoor
