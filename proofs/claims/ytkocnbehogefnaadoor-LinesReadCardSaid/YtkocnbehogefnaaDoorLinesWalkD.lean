/- Walk of the program's Read. -/
import Derived.Test.YtkocnbehogefnaaDoorLinesWalkC
import Derived.Test.YtkocnbehogefnaaDoorSepRow
namespace Go.Proofs.YtkocnbehogefnaaDoor
open Go.RowKit Go.Deep Ln
attribute [local go_sem] bt_eq

/-! the pieces -/
theorem splitK_spl (c : UInt8) : ∀ (k : Nat) (s : T), s.count c = k → Lib.splitK [c] 0 k s = spl c s
  | 0, s, h => by
    rw [Lib.splitK, spl_none (by rw [← List.count_eq_zero]; exact h)]
  | k + 1, s, h => by
    have hm : c ∈ s := List.count_pos_iff.1 (by omega)
    obtain ⟨a, b, rfl, ha⟩ := List.eq_append_cons_of_mem hm
    have hi : Lib.indexByte (a ++ c :: b) c = (a.length : Int) := by
      clear h hm
      induction a with
      | nil => simp [Lib.indexByte]
      | cons x a ih =>
        have hx : x ≠ c := fun e => ha (by simp [e])
        have ih := ih (fun hc => ha (by simp [hc]))
        rw [List.cons_append, Lib.indexByte, if_neg (by simpa using hx), ih]
        have : ((a.length : Int) == -1) = false := by simp
        rw [this]
        simp
    have hne : ((a.length : Int) == -1) = false := by simp
    have hcnt : b.count c = k := by
      rw [List.count_append, List.count_cons_self, List.count_eq_zero.2 ha] at h
      omega
    rw [Lib.splitK, Lib.index_one, hi, hne]
    simp only [Bool.false_eq_true, if_false, Int.toNat_natCast, Nat.add_zero, List.length_cons, List.length_nil]
    rw [spl_app b ha, List.take_left, show (a ++ c :: b).drop (a.length + (0 + 1)) = b from by rw [← List.drop_drop]; simp, splitK_spl c k b hcnt]
theorem split_bs (c : UInt8) (l : T) : Lib.splitB ⟨#[c]⟩ 0 (Lib.countB (bs l) ⟨#[c]⟩) (bs l) = (spl c l).map bs := by
  have h := Lib.splitB_data ⟨#[c]⟩ 0 (Lib.countB (bs l) ⟨#[c]⟩) (bs l)
  rw [bs_list] at h
  have hc : Lib.countB (bs l) ⟨#[c]⟩ = l.count c := by
    show Lib.count (bs l).data.toList [c] = _
    rw [bs_list]
    exact Lib.count_one c l
  rw [hc] at h ⊢
  rw [show (⟨#[c]⟩ : ByteArray).data.toList = [c] from rfl, splitK_spl c _ l rfl] at h
  rw [← h, List.map_map]
  conv => lhs; rw [← List.map_id (Lib.splitB _ _ _ _)]
  apply List.map_congr_left
  intro x _
  exact (bs_of x).symm
theorem spl_sum (c : UInt8) : ∀ l : T, sumL (spl c l) = l.length + 1
  | [] => rfl
  | b :: l => by
    by_cases h : b = c
    · rw [spl, if_pos h, sumL, spl_sum c l]; simp; omega
    · obtain ⟨x, t, h1, h2⟩ := spl_cons_ne h l
      have := spl_sum c l
      rw [h1, sumL] at this
      rw [h2, sumL]
      simp only [List.length_cons]
      omega
theorem spl_len (c : UInt8) (l : T) : (spl c l).length ≤ l.length + 1 := by
  have h := spl_sum c l
  have : ∀ L : List T, L.length ≤ sumL L := by
    intro L
    induction L with
    | nil => exact Nat.le_refl _
    | cons x L ih => rw [sumL, List.length_cons]; omega
  have := this (spl c l)
  omega
theorem sumL_le_drop (L : List T) (k : Nat) : sumL (L.drop k) ≤ sumL L := by
  induction L generalizing k with
  | nil => simp [sumL]
  | cons x L ih =>
    cases k with
    | zero => exact Nat.le_refl _
    | succ k => rw [List.drop_succ_cons, sumL]; have := ih k; omega
theorem sumL_take (L : List T) (k : Nat) : sumL (L.take k) ≤ sumL L := by
  induction L generalizing k with
  | nil => simp [sumL]
  | cons x L ih =>
    cases k with
    | zero => simp [sumL]
    | succ k => rw [List.take_succ_cons, sumL, sumL]; have := ih k; omega
/-- a line's cells -/
def encL (x : Line) : List Value := [.bool x.1, .string (bs x.2)]
theorem encL_len (x : Line) : (encL x).length = 2 := rfl
theorem encL_one (x : Line) : ∀ u ∈ encL x, u.oneCell' = true := by
  intro u hu
  simp [encL] at hu
  rcases hu with rfl | rfl <;> rfl
def rowL : RowT Tryd.prog 23 34 2 := { z := .agg #[.bool false, .string ⟨#[]⟩], bytes := 24, und := Tryd.underlying23, info := by kernel_rfl, zlen := rfl, pos := by omega, sb := by omega }
abbrev OL (base : Nat) (v : Value) (L : List Line) : Asn := OG encL 2 34 base v L
/-- bytealg.MaxLen holds a number -/
def MX (w : World) : Prop := ∃ m, w.cell? ⟨0, 0, none⟩ = some (.int .i64 m)
theorem MX.below {w w' : World} (h : MX w) (hb : Below w.heap.size w w') : MX w' := by
  obtain ⟨m, hm⟩ := h
  exact ⟨m, (hb.cell (p := ⟨0, 0, none⟩) (World.block_lt_of_cell? w _ hm)).trans hm⟩
/-- what stands in the reader's two variables behind next -/
def curV (L : List T) (j : Nat) : Value × Value := match L[j]? with
  | some x => (.string (bs x), .bool true)
  | none => (.string (bs []), .bool false)
theorem curV_some {L : List T} {j : Nat} {x : T} (h : L[j]? = some x) : curV L j = (.string (bs x), .bool true) := by unfold curV; rw [h]
theorem curV_none {L : List T} {j : Nat} (h : L.length ≤ j) : curV L j = (.string (bs []), .bool false) := by unfold curV; rw [List.getElem?_eq_none h]
theorem cut_tab (x : T) : Lib.hasPrefix x [9] = decide (x.headD 0 = 9) ∧ (x.headD 0 = 9 → Lib.trimPrefix x [9] = x.tail) := by
  cases x with
  | nil => exact ⟨by decide, fun h => by revert h; decide⟩
  | cons c x =>
    refine ⟨?_, fun h => ?_⟩
    · rw [Bool.eq_iff_iff, decide_eq_true_iff]
      simp [Lib.hasPrefix, List.isPrefixOf]
      exact ⟨fun h => h.symm, fun h => h.symm⟩
    · obtain rfl : c = 9 := h
      rfl
end Go.Proofs.YtkocnbehogefnaaDoor
