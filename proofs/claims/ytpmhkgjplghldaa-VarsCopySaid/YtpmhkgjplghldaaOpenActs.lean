/- The calls of chapter 6's laws among a law's arguments, opened as one list. -/
import Derived.Test.YtpmhkgjplghldaaOpenRows
import Derived.Test.YtpmhkgjplghldaaProg
namespace Go.Proofs.Ytpmhkgjplghldaa
open Go.RowKit Go.Deep Go.ChangeShapes Go.WideShapes
/-- a call of chapter 6: out, name, value -/
abbrev Ac6 := Bool × ByteArray × ByteArray
def goodA6 (_ : World) (x : Ac6) (cs : List Value) : Prop := cs = [.bool x.1, .string x.2.1, .string x.2.2] ∧ x.2.1.size ≤ maxLen ∧ x.2.2.size ≤ maxLen
def AR6 (w : World) (A : Option Addr) (L : List Ac6) : Prop := RowsAt 3 goodA6 w A L
theorem AR6.at {w : World} {A : Option Addr} {L : List Ac6} (h : AR6 w A L) {k : Nat} {x : Ac6} (hk : L[k]? = some x) :
    ∃ g o, A = some ⟨g, o, none⟩ ∧ g < w.heap.size ∧ w.cell? ⟨g, o + k * 3, none⟩ = some (.bool x.1) ∧ w.cell? ⟨g, o + k * 3 + 1, none⟩ = some (.string x.2.1) ∧ w.cell? ⟨g, o + k * 3 + 2, none⟩ = some (.string x.2.2) := by
  obtain ⟨g, o, cs, e, hg, _, hc, ⟨rfl, _, _⟩⟩ := h k x hk
  exact ⟨g, o, e, hg, hc 0 _ rfl, hc 1 _ rfl, hc 2 _ rfl⟩
theorem AR6.below {w w' : World} {A : Option Addr} {L : List Ac6} (h : AR6 w A L) (hb : Below w.heap.size w w') : AR6 w' A L := fun k x hk => by
  obtain ⟨g, o, cs, e, hg, hl, hc, h2⟩ := h k x hk
  exact ⟨g, o, cs, e, Nat.lt_of_lt_of_le hg hb.size, hl, fun j v hj => (hb.cell (p := ⟨g, o + k * 3 + j, none⟩) hg).trans (hc j v hj), h2⟩
theorem open_A6 {H : Type} {enc : TypeId × Value → H} {W : World} {a0 : Option Addr} {len cap : Nat} {d : DataW H} {ps : List MemPlace} (h : DataW.Trod enc Try.prog W 0 (fun _ => true) true 22 (.slice a0 len cap) d ps) :
    ∃ L : List Ac6, L.length = len ∧ L.length ≤ maxLen ∧ (∀ x ∈ L, x.2.1.size ≤ maxLen ∧ x.2.2.size ≤ maxLen) ∧ AR6 W a0 L := by
  obtain ⟨L, h1, h2, h3, h4⟩ := open_rows (n := 3) Try.underlying22 (by kernel_rfl) (by omega) goodA6 (fun fuel cs y hlen hy => by
    obtain ⟨xs, k, hk, hxy, _, hxl, hf⟩ := DataW.trod_struct Try.underlying32 hy
    match xs, hxl, cs, hlen with
    | [y0, y1, y2], _, [v0, v1, v2], _ =>
      obtain ⟨b, q0, _⟩ := DataW.trod_bool Try.underlying4 (hf 0 _ rfl)
      obtain ⟨s, q1, _, l1⟩ := DataW.trod_string Try.underlying9 (hf 1 _ rfl)
      obtain ⟨t, q2, _, l2⟩ := DataW.trod_string Try.underlying9 (hf 2 _ rfl)
      have e0 : [v0] = [.bool b] := q0
      have e1 : [v1] = [.string s] := q1
      have e2 : [v2] = [.string t] := q2
      clear q0 q1 q2
      obtain rfl : v0 = .bool b := List.cons.inj e0 |>.1
      obtain rfl : v1 = .string s := List.cons.inj e1 |>.1
      obtain rfl : v2 = .string t := List.cons.inj e2 |>.1
      exact ⟨(b, s, t), rfl, l1, l2⟩) h
  exact ⟨L, h1, h2, fun x hx => by obtain ⟨cs, hg⟩ := h3 x hx; exact hg.2, h4⟩
end Go.Proofs.Ytpmhkgjplghldaa
