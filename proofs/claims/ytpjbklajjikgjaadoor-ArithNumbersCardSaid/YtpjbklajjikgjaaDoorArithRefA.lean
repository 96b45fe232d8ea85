/- Walks of the reference's arith: the reader's memory, blank, Begins, sign. -/
import Derived.Test.YtpjbklajjikgjaaDoorArithMathC
import Derived.Test.YtpjbklajjikgjaaDoorArithWalkJ
namespace Go.Proofs.YtpjbklajjikgjaaDoor
open Go.RowKit Go.Deep

/-- the reference's reader at block g -/
structure RR (w : World) (g : Nat) (s : ByteArray) (lv : Value) (i d b : Nat) (z : Bool) : Prop where
  c0 : w.cell? ⟨g, 0, none⟩ = some (.string s)
  c1 : w.cell? ⟨g, 1, none⟩ = some lv
  c2 : w.cell? ⟨g, 2, none⟩ = some (.int .i64 i)
  c3 : w.cell? ⟨g, 3, none⟩ = some (.int .i64 d)
  c4 : w.cell? ⟨g, 4, none⟩ = some (.int .i64 b)
  c5 : w.cell? ⟨g, 5, none⟩ = some (.bool z)
  fz : ∀ o, w.frozen? ⟨g, o, none⟩ = false
section
variable {w w' : World} {g : Nat} {s : ByteArray} {lv : Value} {i d b : Nat} {z : Bool}
theorem RR.lt (h : RR w g s lv i d b z) : g < w.heap.size := World.block_lt_of_cell? w _ h.c0
theorem RR.kept (h : RR w g s lv i d b z) (hb : w'.heap[g]? = w.heap[g]?) : RR w' g s lv i d b z :=
  ⟨(World.cell?_of_block hb).trans h.c0, (World.cell?_of_block hb).trans h.c1, (World.cell?_of_block hb).trans h.c2, (World.cell?_of_block hb).trans h.c3, (World.cell?_of_block hb).trans h.c4, (World.cell?_of_block hb).trans h.c5, fun o => (World.frozen?_of_block hb).trans (h.fz o)⟩
theorem RR.below (h : RR w g s lv i d b z) (hb : Below w.heap.size w w') : RR w' g s lv i d b z := h.kept (hb.block g h.lt)
theorem RR.drewN (h : RR w g s lv i d b z) (n : Nat) : RR (w.drewN n) g s lv i d b z := h.kept rfl
theorem RR.seti (h : RR w g s lv i d b z) (i' : Nat) : RR (w.setCell ⟨g, 2, none⟩ (.int .i64 i')) g s lv i' d b z :=
  ⟨(cell_set_ne _ _ (by omega)).trans h.c0, (cell_set_ne _ _ (by omega)).trans h.c1, World.cell?_setCell_same _ _ _ h.c2, (cell_set_ne _ _ (by omega)).trans h.c3, (cell_set_ne _ _ (by omega)).trans h.c4, (cell_set_ne _ _ (by omega)).trans h.c5, fun o => (World.frozen?_setCell _ _ _ _).trans (h.fz o)⟩
theorem RR.setd (h : RR w g s lv i d b z) (d' : Nat) : RR (w.setCell ⟨g, 3, none⟩ (.int .i64 d')) g s lv i d' b z :=
  ⟨(cell_set_ne _ _ (by omega)).trans h.c0, (cell_set_ne _ _ (by omega)).trans h.c1, (cell_set_ne _ _ (by omega)).trans h.c2, World.cell?_setCell_same _ _ _ h.c3, (cell_set_ne _ _ (by omega)).trans h.c4, (cell_set_ne _ _ (by omega)).trans h.c5, fun o => (World.frozen?_setCell _ _ _ _).trans (h.fz o)⟩
theorem RR.setb (h : RR w g s lv i d b z) (b' : Nat) : RR (w.setCell ⟨g, 4, none⟩ (.int .i64 b')) g s lv i d b' z :=
  ⟨(cell_set_ne _ _ (by omega)).trans h.c0, (cell_set_ne _ _ (by omega)).trans h.c1, (cell_set_ne _ _ (by omega)).trans h.c2, (cell_set_ne _ _ (by omega)).trans h.c3, World.cell?_setCell_same _ _ _ h.c4, (cell_set_ne _ _ (by omega)).trans h.c5, fun o => (World.frozen?_setCell _ _ _ _).trans (h.fz o)⟩
theorem RR.setz (h : RR w g s lv i d b z) (z' : Bool) : RR (w.setCell ⟨g, 5, none⟩ (.bool z')) g s lv i d b z' :=
  ⟨(cell_set_ne _ _ (by omega)).trans h.c0, (cell_set_ne _ _ (by omega)).trans h.c1, (cell_set_ne _ _ (by omega)).trans h.c2, (cell_set_ne _ _ (by omega)).trans h.c3, (cell_set_ne _ _ (by omega)).trans h.c4, World.cell?_setCell_same _ _ _ h.c5, fun o => (World.frozen?_setCell _ _ _ _).trans (h.fz o)⟩
end
set_option maxRecDepth 100000 in
set_option maxHeartbeats 400000 in
theorem rblank_any (c : UInt8) (w : World) : Calls Tryd.prog 30 #[.int .u8 c.toNat] w fun e w' => e = .returned (.bool (Ar.blk c)) ∧ w = w' := by
  go_enter Tryd.func30, Tryd.ntmps30
  go_wp2
  all_goals go_ret
  all_goals refine ⟨?_, rfl⟩
  all_goals
    go_light
    refine ret_bool ?_
    rw [Bool.eq_iff_iff]
    simp [Ar.blk, ← UInt8.toNat_inj, *]
    try omega
theorem begins_eq (s x : ByteArray) (h : x.size ≤ s.size) : ((s.extract 0 x.size).toList == x.toList) = Lib.hasPrefix s.data.toList x.data.toList := by
  rw [← Lib.hasPrefix_of_take, Lib.toList_data, Lib.toList_data, Lib.extract_data]
  have h1 : x.data.toList.length ≤ s.data.toList.length := by simpa using h
  rw [decide_eq_true h1, Bool.true_and, List.drop_zero, Nat.sub_zero]
  have : x.data.toList.length = x.size := by simp
  rw [this]
theorem begins_no (s x : ByteArray) (h : ¬ x.size ≤ s.size) : Lib.hasPrefix s.data.toList x.data.toList = false := by
  rw [← Lib.hasPrefix_of_take]
  have h1 : ¬ x.data.toList.length ≤ s.data.toList.length := by simpa using h
  rw [decide_eq_false h1, Bool.false_and]
set_option maxRecDepth 100000 in
set_option maxHeartbeats 400000 in
theorem begins_any (s x : ByteArray) (w : World) : Calls Tryd.prog 31 #[.string s, .string x] w fun e w' => e = .returned (.bool (Lib.hasPrefix s.data.toList x.data.toList)) ∧ w = w' := by
  by_cases h : x.size ≤ s.size
  · have HE := hide (begins_eq s x h)
    have hd : decide (x.size ≤ s.size) = true := by simpa using h
    have hi : (x.size : Int) ≤ (s.size : Int) := by omega
    go_enter Tryd.func31, Tryd.ntmps31
    go_wp2
    go_ret
    exact ⟨ret_bool (by rw [← HE.out]), rfl⟩
  · have HE := hide (begins_no s x h)
    have hd : decide (x.size ≤ s.size) = false := by simpa using h
    go_enter Tryd.func31, Tryd.ntmps31
    go_wp2
    go_ret
    exact ⟨ret_bool (by rw [HE.out]), rfl⟩
theorem begins_v (s x : ByteArray) (v : Bool) (h : Lib.hasPrefix s.data.toList x.data.toList = v) (w : World) : Calls Tryd.prog 31 #[.string s, .string x] w fun e w' => e = .returned (.bool v) ∧ w' = w :=
  (begins_any s x w).mono fun _ _ ⟨h1, h2⟩ => ⟨by rw [h1, h], h2.symm⟩
theorem rblank_v (c : UInt8) (v : Bool) (h : Ar.blk c = v) (w : World) : Calls Tryd.prog 30 #[.int .u8 c.toNat] w fun e w' => e = .returned (.bool v) ∧ w' = w :=
  (rblank_any c w).mono fun _ _ ⟨h1, h2⟩ => ⟨by rw [h1, h], h2.symm⟩
end Go.Proofs.YtpjbklajjikgjaaDoor
