/- The parts among a law's arguments, opened as one list. -/
import Derived.Test.YthcgnfoijemcbaaOpenRows
import Derived.Test.YthcgnfoijemcbaaFieldRep
namespace Go.Proofs.Ythcgnfoijemcbaa
open Go.RowKit Go.Deep Go.ChangeShapes Go.WideShapes
set_option linter.unusedVariables false
/-- sizes that a machine can hold -/
def szP (x : Pt) : Prop := x.text.size ≤ maxLen ∧ x.wn ≤ maxLen ∧ -9223372036854775808 ≤ x.kind ∧ x.kind ≤ 9223372036854775807
set_option maxRecDepth 100000 in
theorem open_PTone {H : Type} {enc : TypeId × Value → H} {W : World} {fuel : Nat} {cs : List Value} {y : DataW H × List MemPlace} (hlen : cs.length = 6) (hy : DataW.trod enc Try.prog W 0 (fun _ => true) true fuel 28 cs = some y) :
    ∃ x : Pt, cs = encPt x ∧ szP x := by
  obtain ⟨xs, k, hk, hxy, _, hxl, hf⟩ := DataW.trod_struct Try.underlying28 hy
  match xs, hxl, cs, hlen with
  | [y0, y1, y2, y3, y4, y5], _, [v0, v1, v2, v3, v4, v5], _ =>
    obtain ⟨a, q0, _, hw⟩ := DataW.trod_int Try.underlying3 (hf 0 _ rfl)
    obtain ⟨s, q1, _, l1⟩ := DataW.trod_string Try.underlying9 (hf 1 _ rfl)
    obtain ⟨t, q2, _, l2⟩ := DataW.trod_string Try.underlying9 (hf 2 _ rfl)
    obtain ⟨u, q3, _, l3⟩ := DataW.trod_string Try.underlying9 (hf 3 _ rfl)
    obtain ⟨b, q5, _⟩ := DataW.trod_bool Try.underlying4 (hf 5 _ rfl)
    have e0 : [v0] = [.int .i64 a] := q0
    have e1 : [v1] = [.string s] := q1
    have e2 : [v2] = [.string t] := q2
    have e3 : [v3] = [.string u] := q3
    have e5 : [v5] = [.bool b] := q5
    clear q0 q1 q2 q3 q5
    obtain rfl : v0 = .int .i64 a := List.cons.inj e0 |>.1
    obtain rfl : v1 = .string s := List.cons.inj e1 |>.1
    obtain rfl : v2 = .string t := List.cons.inj e2 |>.1
    obtain rfl : v3 = .string u := List.cons.inj e3 |>.1
    obtain rfl : v5 = .bool b := List.cons.inj e5 |>.1
    have h4 := hf 4 _ rfl
    have hw2 : IntKind.i64.min ≤ a ∧ a ≤ 9223372036854775807 := by simpa [Lit.wf] using hw
    rw [show IntKind.i64.min = -9223372036854775808 by decide] at hw2
    have h4' : DataW.trod enc Try.prog W 0 (fun _ => true) true k 26 [v4] = some y4 := h4
    obtain ⟨A, len', c, rfl, hl⟩ : ∃ A l c, v4 = .slice A l c ∧ l ≤ maxLen := by
      rcases open_slice Try.underlying26 h4' with ⟨hcs, _⟩ | ⟨a, len', cap', m, fl, D, Pl, hcs, h1, h2, h3, h5, _⟩
      · exact ⟨_, _, _, (List.cons.inj hcs).1, by unfold maxLen; omega⟩
      · exact ⟨_, _, _, (List.cons.inj hcs).1, by omega⟩
    exact ⟨⟨a, s, t, u, A, len', c, b⟩, rfl, l1, hl, hw2⟩
theorem open_PT {H : Type} {enc : TypeId × Value → H} {W : World} {a0 : Option Addr} {len cap : Nat} {d : DataW H} {ps : List MemPlace} (h : DataW.Trod enc Try.prog W 0 (fun _ => true) true 26 (.slice a0 len cap) d ps) :
    ∃ L : List Pt, L.length = len ∧ L.length ≤ maxLen ∧ (∀ x ∈ L, szP x) ∧ RG encPt 6 W a0 L := by
  obtain ⟨L, h1, h2, h3, h4⟩ := open_rows (n := 6) (good := fun w (x : Pt) cs => cs = encPt x ∧ szP x) Try.underlying26 (by kernel_rfl) (by omega) (fun fuel cs y hlen hy => open_PTone hlen hy) h
  refine ⟨L, h1, h2, fun x hx => by obtain ⟨cs, hg⟩ := h3 x hx; exact hg.2, fun k x hk => ?_⟩
  obtain ⟨g, o, cs, e, hg, _, hc, ⟨rfl, _⟩⟩ := h4 k x hk
  exact ⟨g, o, e, hg, fun j v hj => hc j v hj⟩
end Go.Proofs.Ythcgnfoijemcbaa
