/- A slice among a law's arguments, whose elements are opened one by one, as one list. A slice of strings among a law's arguments, opened as one list. A slice of bools among a law's arguments, opened as one list. A slice of ints, or of bools, among a law's arguments, opened as one list. -/
import Derived.Deep.SlicePairs
import Derived.OpenShut
import Derived.Test.YthcgnfoijemcbaaStrsWalk
import Derived.ProofKit
import Derived.SliceStrings
import Derived.Test.YthcgnfoijemcbaaProg
namespace Go.Proofs.Ythcgnfoijemcbaa
open Go.RowKit Go.Deep Go.ChangeShapes Go.WideShapes
theorem choose_list {α : Type} {P : Nat → α → Prop} : ∀ n, (∀ i, i < n → ∃ x, P i x) → ∃ L : List α, L.length = n ∧ ∀ i x, L[i]? = some x → P i x
  | 0, _ => ⟨[], rfl, fun i x h => by simp at h⟩
  | n + 1, h => by
    obtain ⟨L, hl, hL⟩ := choose_list n (fun i hi => h i (by omega))
    obtain ⟨x, hx⟩ := h n (by omega)
    refine ⟨L ++ [x], by simp [hl], fun i y hy => ?_⟩
    by_cases hi : i < L.length
    · rw [List.getElem?_append_left hi] at hy
      exact hL i y hy
    · rw [List.getElem?_append_right (by omega)] at hy
      have : i - L.length = 0 := by
        have := (List.getElem?_eq_some_iff.1 hy).1
        simp at this
        omega
      rw [this] at hy
      simp at hy
      subst hy
      rw [show i = n by omega]
      exact hx
theorem add_offR (b off k : Nat) : (Addr.mk b off none).add k = ⟨b, off + k, none⟩ := by
  unfold Addr.add
  split
  · rename_i h0; subst h0; rfl
  · rfl
/-- the cells of one element -/
def CellsAt (w : World) (g o : Nat) (cs : List Value) : Prop := ∀ j v, cs[j]? = some v → w.cell? ⟨g, o + j, none⟩ = some v
/-- elements at a slice's address, each of n cells, as good says -/
def RowsAt {α : Type} (n : Nat) (good : World → α → List Value → Prop) (w : World) (A : Option Addr) (L : List α) : Prop :=
  ∀ k x, L[k]? = some x → ∃ g o cs, A = some ⟨g, o, none⟩ ∧ g < w.heap.size ∧ cs.length = n ∧ CellsAt w g (o + k * n) cs ∧ good w x cs
theorem open_rows {H α : Type} {enc : TypeId × Value → H} {P : Program} {w : World} {spare : Nat → Bool} {held : Bool} {t e : TypeId} {n : Nat} (ht : P.underlying t = some (.slice e)) (hn : P.cellsOf e = n) (h0 : 0 < n) (good : World → α → List Value → Prop)
    (each : ∀ fuel cs y, cs.length = n → DataW.trod enc P w 0 spare held fuel e cs = some y → ∃ x, good w x cs)
    {a0 : Option Addr} {len cap : Nat} {d : DataW H} {ps : List MemPlace} (h : DataW.Trod enc P w 0 spare held t (.slice a0 len cap) d ps) :
    ∃ L : List α, L.length = len ∧ L.length ≤ maxLen ∧ (∀ x ∈ L, ∃ cs, good w x cs) ∧ RowsAt n good w a0 L := by
  obtain ⟨fuel, hf⟩ := h
  rcases open_slice ht hf with ⟨hcs, hx⟩ | ⟨a, len', cap', m, fl, D, Pl, hcs, _, hl, hm, hmm, _, hx⟩
  · simp [Value.cells] at hcs
    obtain ⟨rfl, rfl, rfl⟩ := hcs
    exact ⟨[], rfl, Nat.zero_le _, fun x hx => by simp at hx, fun k x hk => by simp at hk⟩
  · simp [Value.cells] at hcs
    obtain ⟨rfl, rfl, rfl⟩ := hcs
    have hlm : len ≤ m := by rw [hmm]; split <;> omega
    obtain ⟨L, hL, hLx⟩ := choose_list (P := fun i x => ∃ cs, cs.length = n ∧ (∀ j v, cs[j]? = some v → w.cell? ((a.add (i * n)).add j) = some v) ∧ good w x cs) len (fun i hi => by
      obtain ⟨cs', h1, h2⟩ := hx i (by omega)
      rw [hn] at h1
      obtain ⟨_, hlen, hcell⟩ := World.cells?_some h1
      obtain ⟨x, hx⟩ := each _ _ _ hlen h2
      refine ⟨x, cs', hlen, fun j v hj => ?_, hx⟩
      have hjn : j < n := by
        have := (List.getElem?_eq_some_iff.1 hj).1
        omega
      have := hcell j hjn
      rw [hj] at this
      exact this)
    refine ⟨L, hL, by omega, fun x hx => ?_, fun k x hk => ?_⟩
    · obtain ⟨i, hi⟩ := List.getElem?_of_mem hx
      obtain ⟨cs, _, _, hg⟩ := hLx i x hi
      exact ⟨cs, hg⟩
    · obtain ⟨cs, h1, h2, h3⟩ := hLx k x hk
      obtain ⟨b, off, spot⟩ := a
      have hk2 : k < len := by
        have := (List.getElem?_eq_some_iff.1 hk).1
        omega
      obtain ⟨v0, hv0⟩ : ∃ v, cs[0]? = some v := ⟨cs[0]'(by omega), List.getElem?_eq_getElem _⟩
      have hc0 := h2 0 v0 hv0
      have hspot : spot = none := by
        obtain ⟨x0, hx0⟩ : ∃ x, L[0]? = some x := ⟨L[0]'(by omega), List.getElem?_eq_getElem _⟩
        obtain ⟨cs0, q1, q2, _⟩ := hLx 0 x0 hx0
        obtain ⟨u0, hu0⟩ : ∃ v, cs0[0]? = some v := ⟨cs0[0]'(by omega), List.getElem?_eq_getElem _⟩
        have := q2 0 u0 hu0
        rw [Nat.zero_mul] at this
        simpa [Addr.add] using World.cell?_spot this
      subst hspot
      refine ⟨b, off, cs, rfl, ?_, h1, fun j v hj => ?_, h3⟩
      · rw [add_offR, add_offR] at hc0
        exact World.block_lt_of_cell? w _ hc0
      · have := h2 j v hj
        rw [add_offR, add_offR] at this
        exact this
end Go.Proofs.Ythcgnfoijemcbaa
namespace Go.Proofs.Ythcgnfoijemcbaa
open Go.RowKit Go.Deep Go.ChangeShapes Go.WideShapes
theorem cellsS : Try.prog.cellsOf 9 = 1 := by kernel_rfl
theorem laidOutP : laidOutB Try.prog = true := by kernel_rfl
theorem open_SR {H : Type} {enc : TypeId × Value → H} {W : World} {a0 : Option Addr} {len cap : Nat} {d : DataW H} {ps : List MemPlace} (h : DataW.Trod enc Try.prog W 0 (fun _ => true) true 22 (.slice a0 len cap) d ps) :
    ∃ L : List ByteArray, L.length = len ∧ L.length ≤ maxLen ∧ (∀ (k : Nat) (s : ByteArray), L[k]? = some s → s.size ≤ maxLen) ∧ SR W a0 L := by
  obtain ⟨fuel, hf⟩ := h
  rcases open_strings Try.underlying22 Try.underlying9 cellsS hf with ⟨hcs, hx⟩ | ⟨a, len', cap', ss, hcs, _, hl, hm, hz, hx, hcell, hws⟩
  · simp [Value.cells] at hcs
    obtain ⟨rfl, rfl, rfl⟩ := hcs
    exact ⟨[], rfl, Nat.zero_le _, fun k s hk => by simp at hk, SR.nil _ _⟩
  · simp [Value.cells] at hcs
    obtain ⟨rfl, rfl, rfl⟩ := hcs
    simp only [if_true] at hz
    have hlen : (ss.take len).length = len := by simp; omega
    refine ⟨ss.take len, hlen, by omega, fun k s hk => hws s (List.mem_of_mem_take (List.mem_of_getElem? hk)), fun k s hk => ?_⟩
    have hk2 : k < len := by
      have := (List.getElem?_eq_some_iff.1 hk).1
      omega
    rw [List.getElem?_take_of_lt hk2] at hk
    have hc := hcell k (by omega)
    obtain ⟨b, off, spot⟩ := a
    have hspot : spot = none := by simpa [Addr.add] using World.cell?_spot (hcell 0 (by omega))
    subst hspot
    have e2 : (Addr.mk b off none).add k = ⟨b, off + k, none⟩ := by
      unfold Addr.add
      split
      · rename_i h0; subst h0; rfl
      · rfl
    rw [e2] at hc
    refine ⟨b, off, rfl, World.block_lt_of_cell? W _ hc, ?_⟩
    rw [hc, List.getD_eq_getElem?_getD, hk]
    rfl
end Go.Proofs.Ythcgnfoijemcbaa
namespace Go.Proofs.Ythcgnfoijemcbaa
open Go.RowKit Go.Deep Go.ChangeShapes Go.WideShapes
def BR (w : World) (A : Option Addr) (L : List Bool) : Prop := ∀ (k : Nat) (x : Bool), L[k]? = some x → ∃ g o, A = some ⟨g, o, none⟩ ∧ g < w.heap.size ∧ w.cell? ⟨g, o + k, none⟩ = some (.bool x)
theorem BR.below {w w' : World} {A : Option Addr} {L : List Bool} (h : BR w A L) (hb : Below w.heap.size w w') : BR w' A L := fun k x hk => by
  obtain ⟨g, o, e, hg, hc⟩ := h k x hk
  exact ⟨g, o, e, Nat.lt_of_lt_of_le hg hb.size, (hb.cell (p := ⟨g, o + k, none⟩) hg).trans hc⟩
def goodB (_ : World) (x : Bool) (cs : List Value) : Prop := cs = [.bool x]
end Go.Proofs.Ythcgnfoijemcbaa
namespace Go.Proofs.Ythcgnfoijemcbaa
open Go.RowKit Go.Deep Go.ChangeShapes Go.WideShapes
def IR (w : World) (A : Option Addr) (L : List Int) : Prop := ∀ (k : Nat) (x : Int), L[k]? = some x → ∃ g o, A = some ⟨g, o, none⟩ ∧ g < w.heap.size ∧ w.cell? ⟨g, o + k, none⟩ = some (.int .i64 x)
theorem IR.below {w w' : World} {A : Option Addr} {L : List Int} (h : IR w A L) (hb : Below w.heap.size w w') : IR w' A L := fun k x hk => by
  obtain ⟨g, o, e, hg, hc⟩ := h k x hk
  exact ⟨g, o, e, Nat.lt_of_lt_of_le hg hb.size, (hb.cell (p := ⟨g, o + k, none⟩) hg).trans hc⟩
def goodI (_ : World) (x : Int) (cs : List Value) : Prop := cs = [.int .i64 x] ∧ -9223372036854775808 ≤ x ∧ x ≤ 9223372036854775807
end Go.Proofs.Ythcgnfoijemcbaa
