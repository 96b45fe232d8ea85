/- Walks of package arith: the reader's memory, blank, truth, digits. -/
import Derived.Test.YtpjbklajjikgjaaDoorVarsRefA
import Derived.Test.YtpjbklajjikgjaaDoorShelf
import Derived.Test.YtpjbklajjikgjaaDoorArithMathA
import Derived.Deep.LoopGhost
namespace Go.Proofs.YtpjbklajjikgjaaDoor
open Go.RowKit Go.Deep

/-- the reader at block g: its text, how far it is, its pairs, how deep, whether something was divided by nought -/
structure RD (w : World) (g : Nat) (s : ByteArray) (i : Nat) (lv : Value) (d : Nat) (z : Bool) : Prop where
  c0 : w.cell? ⟨g, 0, none⟩ = some (.string s)
  c1 : w.cell? ⟨g, 1, none⟩ = some (.int .i64 i)
  c2 : w.cell? ⟨g, 2, none⟩ = some lv
  c3 : w.cell? ⟨g, 3, none⟩ = some (.int .i64 d)
  c4 : w.cell? ⟨g, 4, none⟩ = some (.bool z)
  fz : ∀ o, w.frozen? ⟨g, o, none⟩ = false
theorem RD.lt {w : World} {g : Nat} {s : ByteArray} {i : Nat} {lv : Value} {d : Nat} {z : Bool} (h : RD w g s i lv d z) : g < w.heap.size := World.block_lt_of_cell? w _ h.c0
theorem RD.kept {w w' : World} {g : Nat} {s : ByteArray} {i : Nat} {lv : Value} {d : Nat} {z : Bool} (h : RD w g s i lv d z) (hb : w'.heap[g]? = w.heap[g]?) : RD w' g s i lv d z :=
  ⟨(World.cell?_of_block hb).trans h.c0, (World.cell?_of_block hb).trans h.c1, (World.cell?_of_block hb).trans h.c2, (World.cell?_of_block hb).trans h.c3, (World.cell?_of_block hb).trans h.c4, fun o => (World.frozen?_of_block hb).trans (h.fz o)⟩
theorem RD.below {w w' : World} {g : Nat} {s : ByteArray} {i : Nat} {lv : Value} {d : Nat} {z : Bool} (h : RD w g s i lv d z) (hb : Below w.heap.size w w') : RD w' g s i lv d z := h.kept (hb.block g h.lt)
theorem cell_set_ne (w : World) {g a b : Nat} (v : Value) (h : a ≠ b) : (w.setCell ⟨g, a, none⟩ v).cell? ⟨g, b, none⟩ = w.cell? ⟨g, b, none⟩ :=
  World.cell?_setCell_other w _ _ v (fun e => h (by injection e))
theorem RD.seti {w : World} {g : Nat} {s : ByteArray} {i : Nat} {lv : Value} {d : Nat} {z : Bool} (h : RD w g s i lv d z) (i' : Nat) : RD (w.setCell ⟨g, 1, none⟩ (.int .i64 i')) g s i' lv d z :=
  ⟨(cell_set_ne _ _ (by omega)).trans h.c0, World.cell?_setCell_same _ _ _ h.c1, (cell_set_ne _ _ (by omega)).trans h.c2, (cell_set_ne _ _ (by omega)).trans h.c3, (cell_set_ne _ _ (by omega)).trans h.c4, fun o => (World.frozen?_setCell _ _ _ _).trans (h.fz o)⟩
theorem RD.setd {w : World} {g : Nat} {s : ByteArray} {i : Nat} {lv : Value} {d : Nat} {z : Bool} (h : RD w g s i lv d z) (d' : Nat) : RD (w.setCell ⟨g, 3, none⟩ (.int .i64 d')) g s i lv d' z :=
  ⟨(cell_set_ne _ _ (by omega)).trans h.c0, (cell_set_ne _ _ (by omega)).trans h.c1, (cell_set_ne _ _ (by omega)).trans h.c2, World.cell?_setCell_same _ _ _ h.c3, (cell_set_ne _ _ (by omega)).trans h.c4, fun o => (World.frozen?_setCell _ _ _ _).trans (h.fz o)⟩
theorem RD.setz {w : World} {g : Nat} {s : ByteArray} {i : Nat} {lv : Value} {d : Nat} {z : Bool} (h : RD w g s i lv d z) (z' : Bool) : RD (w.setCell ⟨g, 4, none⟩ (.bool z')) g s i lv d z' :=
  ⟨(cell_set_ne _ _ (by omega)).trans h.c0, (cell_set_ne _ _ (by omega)).trans h.c1, (cell_set_ne _ _ (by omega)).trans h.c2, (cell_set_ne _ _ (by omega)).trans h.c3, World.cell?_setCell_same _ _ _ h.c4, fun o => (World.frozen?_setCell _ _ _ _).trans (h.fz o)⟩
theorem RD.drewN {w : World} {g : Nat} {s : ByteArray} {i : Nat} {lv : Value} {d : Nat} {z : Bool} (h : RD w g s i lv d z) (n : Nat) : RD (w.drewN n) g s i lv d z := h.kept rfl
/-- w' is w with new blocks and writes to block g alone -/
abbrev Gr (w w' : World) (g : Nat) : Prop := w.grownBy w' (some g)
theorem Gr.refl (w : World) (g : Nat) : Gr w w g := World.grownBy.refl w _
theorem gr_below {w w' : World} {g : Nat} (h : Below w.heap.size w w') : Gr w w' g := ⟨h.os, h.tape, h.output, h.size, fun i hi _ => h.block i hi⟩
theorem gr_below' {a w w' : World} {g : Nat} (k : Gr a w g) (h : Below w.heap.size w w') : Gr a w' g := gb_trans k (gr_below h)
/-- the bytes of s from i on -/
def dr (s : ByteArray) (i : Nat) : List UInt8 := s.data.toList.drop i
theorem dr_nil {s : ByteArray} {i : Nat} (h : s.size ≤ i) : dr s i = [] := List.drop_of_length_le (by simpa using h)
theorem dr_cons {s : ByteArray} {i : Nat} (h : i < s.size) : dr s i = s[i] :: dr s (i + 1) := by
  unfold dr
  rw [List.drop_eq_getElem_cons (by simpa using h)]
  rfl
theorem dr_len (s : ByteArray) (i : Nat) : (dr s i).length = s.size - i := by simp [dr]
theorem dr_drop (s : ByteArray) (i k : Nat) : (dr s i).drop k = dr s (i + k) := by simp [dr, List.drop_drop]
theorem blk_index (c : UInt8) : decide (0 ≤ Lib.indexByte [32, 9, 10] c) = Ar.blk c := by
  by_cases h1 : (32 : UInt8) = c
  · subst h1; decide
  · by_cases h2 : (9 : UInt8) = c
    · subst h2; decide
    · by_cases h3 : (10 : UInt8) = c
      · subst h3; decide
      · simp [Lib.indexByte, Ar.blk, h1, h2, h3, Ne.symm h1, Ne.symm h2, Ne.symm h3]
theorem u8_back (c : UInt8) : (((c.toNat : Nat) : Int)).toNat.toUInt8 = c := by simp
theorem sk_step {s : ByteArray} {i : Nat} (h : i < s.size) : Ar.sk (dr s i) = if Ar.blk s[i] = true then Ar.sk (dr s (i + 1)) else dr s i := by
  rw [dr_cons h]
  exact List.dropWhile_cons
theorem sk_end {s : ByteArray} {i : Nat} (h : s.size ≤ i) : Ar.sk (dr s i) = dr s i := by rw [dr_nil h]; rfl
set_option maxRecDepth 100000 in
set_option maxHeartbeats 1000000 in
theorem blank_any (g : Nat) (s : ByteArray) (i : Nat) (lv : Value) (d : Nat) (z : Bool) (w : World) (h : RD w g s i lv d z) (hi : i ≤ s.size) (hs : s.size ≤ 100000) :
    Calls Tryd.prog 26 #[.pointer (some ⟨g, 0, none⟩)] w fun e w' => e = .returned (.tuple #[]) ∧ ∃ j, RD w' g s j lv d z ∧ i ≤ j ∧ j ≤ s.size ∧ dr s j = Ar.sk (dr s i) ∧ Gr w w' g := by
  have H := hide h
  clear h
  go_enter Tryd.func26, Tryd.ntmps26
  go_wp2
  go_loopg [] (s.size - i) (fun n wr => ∃ k, n = s.size - k ∧ RD wr g s k lv d z ∧ i ≤ k ∧ k ≤ s.size ∧ Ar.sk (dr s k) = Ar.sk (dr s i) ∧ Gr w wr g)
  case atStart => exact ⟨i, by omega, H.out, by omega, hi, rfl, Gr.refl _ _⟩
  case round =>
    obtain ⟨k, hgk, hr, hik, hk, hsk, hgr⟩ := hrel
    have hc0 := hr.c0
    have hc1 := hr.c1
    have hf := hr.fz 1
    have HR := hide hr
    have HG := hide hgr
    have HS := hide hsk
    clear hr hgr hsk
    by_cases hlt : k < s.size
    · have HK := hide (sk_step hlt)
      cases hb : Ar.blk s[k] with
      | true =>
        have HB := hide hb
        clear hb
        have hge : decide ((0 : Int) ≤ Lib.indexByte [32, 9, 10] s[k]) = true := by rw [blk_index]; exact HB.out
        have hkk : (0 : Int) ≤ (k : Int) := by omega
        have hkl : (k : Int) < (s.size : Int) := by omega
        go_wp2
        go_quiet ((go_at_call 38; exact Calls.quiet_of_same (Tryd.strings_IndexByte _ _ _)))
        go_wp2
        go_roundg (s.size - (k + 1))
        case rel => exact ⟨k + 1, rfl, (HR.out.drewN _).seti (k + 1), by omega, by omega, by rw [← HS.out, HK.out, if_pos HB.out], gb_setCell (gb_drewN HG.out _) _ _⟩
        case measure => omega
      | false =>
        have HB := hide hb
        clear hb
        have hge : decide ((0 : Int) ≤ Lib.indexByte [32, 9, 10] s[k]) = false := by rw [blk_index]; exact HB.out
        go_wp2
        go_quiet ((go_at_call 38; exact Calls.quiet_of_same (Tryd.strings_IndexByte _ _ _)))
        go_wp2
        go_end0
        exact ⟨rfl, k, HR.out.drewN _, hik, hk, by rw [← HS.out, HK.out, if_neg (by rw [HB.out]; simp)], gb_drewN HG.out _⟩
    · have hd : decide ((k : Int) < (s.size : Int)) = false := by simp only [decide_eq_false_iff_not]; omega
      go_wp2
      go_quiet (fail)
      go_wp2
      go_end0
      exact ⟨rfl, k, HR.out.drewN _, hik, hk, by rw [← HS.out, sk_end (by omega)], gb_drewN HG.out _⟩
end Go.Proofs.YtpjbklajjikgjaaDoor
