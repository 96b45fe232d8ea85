/- A slice of ints, or of bools, among a law's arguments, opened as one list. -/
import Derived.Test.YtdilfbimkepllaaDoorOpenRows
import Derived.Test.YtdilfbimkepllaaDoorProg
namespace Go.Proofs.YtdilfbimkepllaaDoor
open Go.RowKit Go.Deep Go.ChangeShapes Go.WideShapes
def IR (w : World) (A : Option Addr) (L : List Int) : Prop := ∀ (k : Nat) (x : Int), L[k]? = some x → ∃ g o, A = some ⟨g, o, none⟩ ∧ g < w.heap.size ∧ w.cell? ⟨g, o + k, none⟩ = some (.int .i64 x)
theorem IR.below {w w' : World} {A : Option Addr} {L : List Int} (h : IR w A L) (hb : Below w.heap.size w w') : IR w' A L := fun k x hk => by
  obtain ⟨g, o, e, hg, hc⟩ := h k x hk
  exact ⟨g, o, e, Nat.lt_of_lt_of_le hg hb.size, (hb.cell (p := ⟨g, o + k, none⟩) hg).trans hc⟩
def goodI (_ : World) (x : Int) (cs : List Value) : Prop := cs = [.int .i64 x] ∧ -9223372036854775808 ≤ x ∧ x ≤ 9223372036854775807
theorem open_IR {H : Type} {enc : TypeId × Value → H} {W : World} {a0 : Option Addr} {len cap : Nat} {d : DataW H} {ps : List MemPlace} (h : DataW.Trod enc Tryd.prog W 0 (fun _ => true) true 36 (.slice a0 len cap) d ps) :
    ∃ L : List Int, L.length = len ∧ L.length ≤ maxLen ∧ (∀ (k : Nat) (x : Int), L[k]? = some x → -9223372036854775808 ≤ x ∧ x ≤ 9223372036854775807) ∧ IR W a0 L := by
  obtain ⟨L, h1, h2, h3, h4⟩ := open_rows (n := 1) Tryd.underlying36 (by kernel_rfl) (by omega) goodI (fun fuel cs y hlen hy => by
    match cs, hlen with
    | [v0], _ =>
      obtain ⟨a, q0, _, hw⟩ := DataW.trod_int Tryd.underlying3 hy
      have e0 : [v0] = [.int .i64 a] := q0
      obtain rfl : v0 = .int .i64 a := List.cons.inj e0 |>.1
      refine ⟨a, rfl, ?_⟩
      have h2 : IntKind.i64.min ≤ a ∧ a ≤ 9223372036854775807 := by simpa [Lit.wf] using hw
      rwa [show IntKind.i64.min = -9223372036854775808 by decide] at h2) h
  refine ⟨L, h1, h2, fun k x hx => ?_, fun k x hk => ?_⟩
  · obtain ⟨cs, hg⟩ := h3 x (List.mem_of_getElem? hx); exact hg.2
  · obtain ⟨g, o, cs, e, hg, _, hc, ⟨rfl, _⟩⟩ := h4 k x hk
    refine ⟨g, o, e, hg, ?_⟩
    have := hc 0 _ rfl
    simpa using this
end Go.Proofs.YtdilfbimkepllaaDoor
