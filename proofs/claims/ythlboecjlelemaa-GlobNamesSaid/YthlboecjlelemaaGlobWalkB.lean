/- Walks of package glob: single, bracket. -/
import Derived.Test.YthlboecjlelemaaGlobWalkA
namespace Go.Proofs.Ythlboecjlelemaa
open Go.RowKit Go.Deep Qm.Glob
attribute [local go_sem] bt_eq

theorem wd_empty (j : Nat) : wd (fun _ => false) j = 0 := by
  apply Nat.eq_of_testBit_eq
  intro b
  rw [testBit_wd]
  simp
theorem gi_new (w : World) (b0 b1 b2 : Bool) (c : Nat) : (w.alloc (.cells #[.bool b0, .int .u64 0, .int .u64 0, .int .u64 0, .int .u64 0, .bool b1, .int .u8 c, .bool b2] 69)).rowIs w.heap.size 69 8 (giCell b0 (fun _ => false) b1 c b2) :=
  World.rowIs_alloc _ _ _ _ fun i hi => by
    have hi : i < 8 := hi
    have h : i = 0 ∨ i = 1 ∨ i = 2 ∨ i = 3 ∨ i = 4 ∨ i = 5 ∨ i = 6 ∨ i = 7 := by omega
    rcases h with rfl | rfl | rfl | rfl | rfl | rfl | rfl | rfl <;> simp [giCell, wd_empty]
theorem gi_cells {w : World} {g t : Nat} {b0 : Bool} {S : Nat → Bool} {b1 : Bool} {c : Nat} {b2 : Bool} (h : w.rowIs g t 8 (giCell b0 S b1 c b2)) :
    w.cell? ⟨g, 0, none⟩ = some (.bool b0) ∧ w.cell? ⟨g, 1, none⟩ = some (.int .u64 (wd S 0)) ∧ w.cell? ⟨g, 2, none⟩ = some (.int .u64 (wd S 1)) ∧ w.cell? ⟨g, 3, none⟩ = some (.int .u64 (wd S 2)) ∧
    w.cell? ⟨g, 4, none⟩ = some (.int .u64 (wd S 3)) ∧ w.cell? ⟨g, 5, none⟩ = some (.bool b1) ∧ w.cell? ⟨g, 6, none⟩ = some (.int .u8 c) ∧ w.cell? ⟨g, 7, none⟩ = some (.bool b2) :=
  ⟨h.cell (i := 0) (by omega), h.cell (i := 1) (by omega), h.cell (i := 2) (by omega), h.cell (i := 3) (by omega), h.cell (i := 4) (by omega), h.cell (i := 5) (by omega), h.cell (i := 6) (by omega), h.cell (i := 7) (by omega)⟩

/-- the eight cells of an Item stored into its row -/
def gi8 (w : World) (g : Nat) (b0 : Bool) (S : Nat → Bool) (b1 : Bool) (c : Nat) (b2 : Bool) : World :=
  (((((((w.setCell ⟨g, 0, none⟩ (.bool b0)).setCell ⟨g, 1, none⟩ (.int .u64 (wd S 0))).setCell ⟨g, 2, none⟩ (.int .u64 (wd S 1))).setCell ⟨g, 3, none⟩ (.int .u64 (wd S 2))).setCell ⟨g, 4, none⟩ (.int .u64 (wd S 3))).setCell ⟨g, 5, none⟩ (.bool b1)).setCell ⟨g, 6, none⟩ (.int .u8 c)).setCell ⟨g, 7, none⟩ (.bool b2)
theorem gi8_row {w : World} {g t : Nat} {f : Nat → Value} (h : w.rowIs g t 8 f) (b0 : Bool) (S : Nat → Bool) (b1 : Bool) (c : Nat) (b2 : Bool) : (gi8 w g b0 S b1 c b2).rowIs g t 8 (giCell b0 S b1 c b2) :=
  ((((((((h.set 0 _).set 1 _).set 2 _).set 3 _).set 4 _).set 5 _).set 6 _).set 7 _).congr fun i hi => by
    have h : i = 0 ∨ i = 1 ∨ i = 2 ∨ i = 3 ∨ i = 4 ∨ i = 5 ∨ i = 6 ∨ i = 7 := by omega
    rcases h with rfl | rfl | rfl | rfl | rfl | rfl | rfl | rfl <;> rfl
theorem gi8_gb {a w : World} {g : Nat} (h : a.grownBy w (some g)) (b0 : Bool) (S : Nat → Bool) (b1 : Bool) (c : Nat) (b2 : Bool) : a.grownBy (gi8 w g b0 S b1 c b2) (some g) :=
  gb_setCell (gb_setCell (gb_setCell (gb_setCell (gb_setCell (gb_setCell (gb_setCell (gb_setCell h _ _) _ _) _ _) _ _) _ _) _ _) _ _) _ _
theorem gi8_below {B : Nat} {a w : World} {g : Nat} (h : Below B a w) (hg : B ≤ g) (b0 : Bool) (S : Nat → Bool) (b1 : Bool) (c : Nat) (b2 : Bool) : Below B a (gi8 w g b0 S b1 c b2) :=
  (((((((h.setCell (p := ⟨g, 0, none⟩) hg _).setCell (p := ⟨g, 1, none⟩) hg _).setCell (p := ⟨g, 2, none⟩) hg _).setCell (p := ⟨g, 3, none⟩) hg _).setCell (p := ⟨g, 4, none⟩) hg _).setCell (p := ⟨g, 5, none⟩) hg _).setCell (p := ⟨g, 6, none⟩) hg _).setCell (p := ⟨g, 7, none⟩) hg _

theorem gi8_other {w : World} {g h t n : Nat} {f : Nat → Value} (hr : w.rowIs h t n f) (hne : h ≠ g) (b0 : Bool) (S : Nat → Bool) (b1 : Bool) (c : Nat) (b2 : Bool) : (gi8 w g b0 S b1 c b2).rowIs h t n f :=
  (((((((hr.setOther (a := ⟨g, 0, none⟩) hne _).setOther (a := ⟨g, 1, none⟩) hne _).setOther (a := ⟨g, 2, none⟩) hne _).setOther (a := ⟨g, 3, none⟩) hne _).setOther (a := ⟨g, 4, none⟩) hne _).setOther (a := ⟨g, 5, none⟩) hne _).setOther (a := ⟨g, 6, none⟩) hne _).setOther (a := ⟨g, 7, none⟩) hne _
set_option maxRecDepth 100000 in
set_option maxHeartbeats 400000 in
theorem single_any (c : Nat) (w : World) (hc : c < 256) :
    Calls Try.prog 67 #[.int .u8 c] w fun e w' => e = .returned (.agg (giAgg false (addS (fun _ => false) c (c + 1)) true c false)) ∧ Below w.heap.size w w' := by
  go_enter Try.func67, Try.ntmps67
  go_wp2_with fail
  have hn := gi_new (w.alloc (.cells #[.bool false, .int .u64 0, .int .u64 0, .int .u64 0, .int .u64 0, .bool false, .int .u8 (0 : Nat), .bool false] 69)) false true false c
  have hn0 := gi_new w false false false 0
  have hz : (w.alloc (.cells #[.bool false, .int .u64 0, .int .u64 0, .int .u64 0, .int .u64 0, .bool false, .int .u8 (0 : Nat), .bool false] 69)).heap.size = w.heap.size + 1 := by simp
  rw [hz] at hn
  clear hz
  have HN := hide hn
  have HN0 := hide hn0
  clear hn hn0
  refine (add_any (w.heap.size + 1) false (fun _ => false) true c false c c _ (by omega) (by omega) HN.out).mono ?_
  rintro e w1 ⟨rfl, hr, hg⟩
  have hr0 : w1.rowIs w.heap.size 69 8 (giCell false (fun _ => false) false 0 false) := (HN0.out.alloc _).of_block (hg.block w.heap.size (by simp; omega) (by simp))
  have hb : Below w.heap.size w w1 := (((Below.refl _ _).alloc (Nat.le_refl _) _).alloc (by simp) _).trans (below_of_gb hg (by simp; omega) (by omega))
  obtain ⟨c0, c1, c2, c3, c4, c5, c6, c7⟩ := gi_cells hr
  obtain ⟨d0, d1, d2, d3, d4, d5, d6, d7⟩ := gi_cells hr0
  have hf0 := hr0.frozen
  have HB := hide hb
  have HR := hide hr0
  clear hb hg HN HN0 hr hr0
  go_wp2
  have hfin := gi8_row HR.out false (addS (fun _ => false) c (c + 1)) true c false
  have hbel := gi8_below HB.out (Nat.le_refl _) false (addS (fun _ => false) c (c + 1)) true c false
  unfold gi8 at hfin hbel
  refine bodyPost_ret (v := .agg (giAgg false (addS (fun _ => false) c (c + 1)) true c false)) ?_ rfl ⟨rfl, hbel⟩
  clear c0 c1 c2 c3 c4 c5 c6 c7 d0 d1 d2 d3 d4 d5 d6 d7 HB HR hbel hf0
  obtain ⟨c0, c1, c2, c3, c4, c5, c6, c7⟩ := gi_cells hfin
  clear hfin
  generalize ((((((((w1.setCell ⟨w.heap.size, 0, none⟩ _).setCell _ _).setCell _ _).setCell _ _).setCell _ _).setCell _ _).setCell _ _).setCell _ _) = W9 at c0 c1 c2 c3 c4 c5 c6 c7 ⊢
  simp only [results, Try.results67, giAgg]
  go_simp
end Go.Proofs.Ythlboecjlelemaa
