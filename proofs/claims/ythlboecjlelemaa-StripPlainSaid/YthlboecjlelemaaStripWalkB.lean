/- Rows known cell by cell; the walk of slices.Reverse at bytes. -/
import Derived.Test.YthlboecjlelemaaQBaseB
import Derived.BigRegion
namespace Go.Proofs.Ythlboecjlelemaa
open Go.RowKit Go.Deep
/-- cells 0 .. n - 1 of block g hold f and may be written -/
def RowF (w : World) (g n : Nat) (f : Nat → Value) : Prop := (∀ i, i < n → w.cell? ⟨g, i, none⟩ = some (f i)) ∧ ∀ i, i < n → w.frozen? ⟨g, i, none⟩ = false
theorem RowF.set {w : World} {g n : Nat} {f : Nat → Value} (h : RowF w g n f) {i : Nat} (hi : i < n) (v : Value) : RowF (w.setCell ⟨g, i, none⟩ v) g n (fun j => if j = i then v else f j) := by
  refine ⟨fun j hj => ?_, fun j hj => by rw [World.frozen?_setCell]; exact h.2 j hj⟩
  by_cases e : j = i
  · subst e
    rw [World.cell?_setCell_same _ _ _ (h.1 j hi)]
    simp
  · rw [World.cell?_setCell_other _ _ _ _ (by intro c; injection c with _ c; exact e c.symm), h.1 j hj]
    simp [e]
theorem RowF.congr {w : World} {g n : Nat} {f f' : Nat → Value} (h : RowF w g n f) (e : ∀ i, i < n → f i = f' i) : RowF w g n f' := ⟨fun i hi => by rw [h.1 i hi, e i hi], h.2⟩
theorem RowF.rd {w : World} {g n : Nat} {f : Nat → Value} (h : RowF w g n f) {i : Nat} (hi : i < n) {v : Value} (e : f i = v) : w.cell? ⟨g, i, none⟩ = some v := by rw [h.1 i hi, e]
theorem RowF.drew {w : World} {g n : Nat} {f : Nat → Value} (h : RowF w g n f) : RowF w.drew g n f := h
/-- a row turned round, i steps in, in its first n places -/
def rvF {α : Type} (f : Nat → α) (n i : Nat) : Nat → α := fun q => if q < i ∨ n - 1 - i < q then f (n - 1 - q) else f q
theorem rvF_end {α : Type} {f : Nat → α} {n i : Nat} (h : n ≤ 2 * i + 1) (q : Nat) (hq : q < n) : rvF f n i q = f (n - 1 - q) := by
  unfold rvF
  by_cases hc : q < i ∨ n - 1 - i < q
  · rw [if_pos hc]
  · rw [if_neg hc]
    congr 1
    omega
theorem rvF_step {α : Type} {f : Nat → α} {n i : Nat} (h : 2 * i + 1 < n) (q : Nat) (hq : q < n) : (if q = n - 1 - i then f i else if q = i then f (n - 1 - i) else rvF f n i q) = rvF f n (i + 1) q := by
  unfold rvF
  by_cases e1 : q = n - 1 - i
  · rw [if_pos e1, if_pos (by omega)]
    congr 1; omega
  · rw [if_neg e1]
    by_cases e2 : q = i
    · rw [if_pos e2, if_pos (by omega)]
      congr 1; omega
    · rw [if_neg e2]
      by_cases hc : q < i ∨ n - 1 - i < q
      · rw [if_pos hc, if_pos (by omega)]
      · rw [if_neg hc, if_neg (by omega)]
theorem rvF_in {α : Type} {f : Nat → α} {n i q : Nat} (h : i ≤ q) (h2 : q ≤ n - 1 - i) : rvF f n i q = f q := by
  unfold rvF
  rw [if_neg (by omega)]

set_option maxRecDepth 100000 in
set_option maxRecDepth 100000 in
set_option maxHeartbeats 1000000 in
theorem revB_any (g n cap : Nat) (f : Nat → Nat) (w : World) (hn : n ≤ 100000) (hr : RowF w g n (fun q => .int .u8 (f q : Nat))) :
    Calls Try.prog 50 #[.slice (some ⟨g, 0, none⟩) n cap] w fun e w' => e = .returned (.tuple #[]) ∧ RowF w' g n (fun q => .int .u8 (f (n - 1 - q) : Nat)) ∧ w.grownBy w' (some g) := by
  have HR := hide hr
  clear hr
  go_enter Try.func50, Try.ntmps50
  go_wp2
  go_loopw [2, 3] (fun v2 v3 wr => ∃ i : Nat, v2 = .int .i64 i ∧ v3 = .int .i64 ((n : Int) - 1 - i) ∧ 2 * i ≤ n + 1 ∧ RowF wr g n (fun q => .int .u8 (rvF f n i q : Nat)) ∧ w.grownBy wr (some g)) (fun v2 _ _ => n + 1 - (intOf v2).toNat)
  case atStart => exact ⟨0, rfl, by simp, by omega, HR.out.congr fun i hi => by rw [rvF_in (by omega) (by omega)], World.grownBy.refl _ _⟩
  case round =>
    obtain ⟨i, rfl, rfl, hi, hr, hg2⟩ := hrel
    clear HR
    have HR := hide hr
    have HG := hide hg2
    clear hr hg2
    by_cases hlt : 2 * i + 1 < n
    · obtain ⟨j, hj⟩ : ∃ j : Nat, (n : Int) - 1 - i = (j : Int) := ⟨n - 1 - i, by omega⟩
      rw [hj]
      have hjn : j < n := by omega
      have hij : i < j := by omega
      have hin : i < n := by omega
      have c1 : wr.cell? ⟨g, i, none⟩ = some (.int .u8 (f i : Nat)) := HR.out.rd hin (congrArg (fun x : Nat => Value.int .u8 (x : Int)) (rvF_in (by omega) (by omega)))
      have c2 : wr.cell? ⟨g, j, none⟩ = some (.int .u8 (f j : Nat)) := HR.out.rd hjn (congrArg (fun x : Nat => Value.int .u8 (x : Int)) (rvF_in (by omega) (by omega)))
      have f1 := HR.out.2 i (by omega)
      have f2 := HR.out.2 j hjn
      have b1 : (i : Int) < (j : Int) := by omega
      have b2 : (j : Int) < (n : Int) := by omega
      have b3 : (i : Int) < (n : Int) := by omega
      have HJ := hide hj
      clear hj
      go_wp2
      go_region
      go_wp2
      go_roundw
      case rel =>
        go_light
        have hj := HJ.out
        obtain rfl : j = n - 1 - i := by omega
        refine ⟨i + 1, by go_num, by rw [show (((n - 1 - i : Nat) : Int) - 1) = (n : Int) - 1 - ((i + 1 : Nat) : Int) from by omega], by omega, ?_, gb_drew (gb_setCell (gb_setCell HG.out _ _) _ _)⟩
        exact ((HR.out.set hin _).set hjn _).drew.congr fun q hq => by
          rw [← rvF_step (f := f) (n := n) (i := i) (by omega) q hq]
          by_cases e1 : q = n - 1 - i
          · simp [e1]
          · by_cases e2 : q = i
            · simp [e2, show i ≠ n - 1 - i from by omega]
            · simp [e1, e2]
      case measure => simp [intOf]; omega
    · go_wp2
      go_end0
      refine ⟨rfl, HR.out.congr fun q hq => by rw [rvF_end (by omega) q hq], HG.out⟩
end Go.Proofs.Ythlboecjlelemaa
