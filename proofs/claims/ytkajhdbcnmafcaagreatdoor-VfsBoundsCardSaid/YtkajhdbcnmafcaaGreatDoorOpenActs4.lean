/- The calls of chapter 4's laws among a law's arguments, opened as one list. -/
import Derived.Test.YtkajhdbcnmafcaaGreatDoorOpenRows
import Derived.Test.YtkajhdbcnmafcaaGreatDoorVfsRep
import Derived.SizedLaws
namespace Go.Proofs.YtkajhdbcnmafcaaGreatDoor
open Go.RowKit Go.Deep Go.ChangeShapes Go.WideShapes Ln Pth Vf
/-- a call of chapter 4 -/
structure Ac4 where
  way : Int
  p : ByteArray
  q : ByteArray
  A : Option Addr
  c : Nat
  b : T
  more : Bool
def encA4 (x : Ac4) : List Value := [.int .i64 x.way, .string x.p, .string x.q, .slice x.A x.b.length x.c, .bool x.more]
theorem encA4_len (x : Ac4) : (encA4 x).length = 5 := rfl
def AR4 (w : World) (A : Option Addr) (L : List Ac4) : Prop := RG encA4 5 w A L ∧ ∀ x ∈ L, RG encB 1 w x.A x.b
theorem AR4.below {w w' : World} {A : Option Addr} {L : List Ac4} (h : AR4 w A L) (hb : Below w.heap.size w w') : AR4 w' A L := ⟨h.1.below hb, fun x hx => (h.2 x hx).below hb⟩
theorem open_BY {H : Type} {enc : TypeId × Value → H} {W : World} {a0 : Option Addr} {len cap : Nat} {d : DataW H} {ps : List MemPlace} (h : DataW.Trod enc Tryz.prog W 0 (fun _ => true) true 23 (.slice a0 len cap) d ps) :
    ∃ L : T, L.length = len ∧ L.length ≤ maxLen ∧ RG encB 1 W a0 L := by
  obtain ⟨L, h1, h2, h3, h4⟩ := open_rows (n := 1) (good := fun _ (x : UInt8) cs => cs = encB x) Tryz.underlying23 (by kernel_rfl) (by omega) (fun fuel cs y hlen hy => by
    match cs, hlen with
    | [v0], _ =>
      obtain ⟨a, q0, _, hw⟩ := DataW.trod_int Tryz.underlying5 hy
      have e0 : [v0] = [.int .u8 a] := q0
      obtain rfl : v0 = .int .u8 a := List.cons.inj e0 |>.1
      have h2 : 0 ≤ a ∧ a ≤ 255 := by simpa [Lit.wf, IntKind.min, IntKind.max, IntKind.signed, IntKind.bits] using hw
      refine ⟨UInt8.ofNat a.toNat, ?_⟩
      unfold encB
      have : ((UInt8.ofNat a.toNat).toNat : Int) = a := by
        rw [UInt8.toNat_ofNat']
        omega
      rw [this]) h
  refine ⟨L, h1, h2, fun k x hk => ?_⟩
  obtain ⟨g, o, cs, e, hg, _, hc, rfl⟩ := h4 k x hk
  exact ⟨g, o, e, hg, fun j v hj => hc j v hj⟩
set_option maxRecDepth 100000 in
/-- one call, cell by cell -/
theorem open_A4one {H : Type} {enc : TypeId × Value → H} {W : World} {fuel : Nat} {cs : List Value} {y : DataW H × List MemPlace} (hlen : cs.length = 5) (hy : DataW.trod enc Tryz.prog W 0 (fun _ => true) true fuel 25 cs = some y) :
    ∃ x : Ac4, cs = encA4 x ∧ (x.p.size ≤ maxLen ∧ x.q.size ≤ maxLen ∧ x.b.length ≤ maxLen ∧ -9223372036854775808 ≤ x.way ∧ x.way ≤ 9223372036854775807) ∧ RG encB 1 W x.A x.b := by
  obtain ⟨xs, k, hk, hxy, _, hxl, hf⟩ := DataW.trod_struct Tryz.underlying25 hy
  match xs, hxl, cs, hlen with
  | [y0, y1, y2, y3, y4], _, [v0, v1, v2, v3, v4], _ =>
    obtain ⟨a, q0, _, hw⟩ := DataW.trod_int Tryz.underlying3 (hf 0 _ rfl)
    obtain ⟨s, q1, _, l1⟩ := DataW.trod_string Tryz.underlying9 (hf 1 _ rfl)
    obtain ⟨t, q2, _, l2⟩ := DataW.trod_string Tryz.underlying9 (hf 2 _ rfl)
    obtain ⟨b, q4, _⟩ := DataW.trod_bool Tryz.underlying4 (hf 4 _ rfl)
    have e0 : [v0] = [.int .i64 a] := q0
    have e1 : [v1] = [.string s] := q1
    have e2 : [v2] = [.string t] := q2
    have e4 : [v4] = [.bool b] := q4
    clear q0 q1 q2 q4
    obtain rfl : v0 = .int .i64 a := List.cons.inj e0 |>.1
    obtain rfl : v1 = .string s := List.cons.inj e1 |>.1
    obtain rfl : v2 = .string t := List.cons.inj e2 |>.1
    obtain rfl : v4 = .bool b := List.cons.inj e4 |>.1
    have h3 := hf 3 _ rfl
    have hw2 : IntKind.i64.min ≤ a ∧ a ≤ 9223372036854775807 := by simpa [Lit.wf] using hw
    rw [show IntKind.i64.min = -9223372036854775808 by decide] at hw2
    have h3' : DataW.trod enc Tryz.prog W 0 (fun _ => true) true k 23 [v3] = some y3 := h3
    obtain ⟨A, len', c, rfl⟩ : ∃ A l c, v3 = .slice A l c := by
      rcases open_slice Tryz.underlying23 h3' with ⟨hcs, _⟩ | ⟨a, len', cap', m, fl, D, Pl, hcs, _⟩
      · exact ⟨_, _, _, (List.cons.inj hcs).1⟩
      · exact ⟨_, _, _, (List.cons.inj hcs).1⟩
    obtain ⟨L, rfl, m0, r0⟩ := open_BY (show DataW.Trod enc Tryz.prog W 0 (fun _ => true) true 23 (.slice A len' c) y3.1 y3.2 from ⟨k, h3'⟩)
    exact ⟨⟨a, s, t, A, c, L, b⟩, rfl, ⟨l1, l2, m0, hw2⟩, r0⟩
theorem open_A4 {H : Type} {enc : TypeId × Value → H} {W : World} {a0 : Option Addr} {len cap : Nat} {d : DataW H} {ps : List MemPlace} (h : DataW.Trod enc Tryz.prog W 0 (fun _ => true) true 22 (.slice a0 len cap) d ps) :
    ∃ L : List Ac4, L.length = len ∧ L.length ≤ maxLen ∧ (∀ x ∈ L, x.p.size ≤ maxLen ∧ x.q.size ≤ maxLen ∧ x.b.length ≤ maxLen ∧ -9223372036854775808 ≤ x.way ∧ x.way ≤ 9223372036854775807) ∧ AR4 W a0 L := by
  obtain ⟨L, h1, h2, h3, h4⟩ := open_rows (n := 5) (good := fun w (x : Ac4) cs => cs = encA4 x ∧ (x.p.size ≤ maxLen ∧ x.q.size ≤ maxLen ∧ x.b.length ≤ maxLen ∧ -9223372036854775808 ≤ x.way ∧ x.way ≤ 9223372036854775807) ∧ RG encB 1 w x.A x.b) Tryz.underlying22 (by kernel_rfl) (by omega) (fun fuel cs y hlen hy => open_A4one hlen hy) h
  refine ⟨L, h1, h2, fun x hx => by obtain ⟨cs, hg⟩ := h3 x hx; exact hg.2.1, fun k x hk => ?_, fun x hx => by obtain ⟨cs, hg⟩ := h3 x hx; exact hg.2.2⟩
  obtain ⟨g, o, cs, e, hg, _, hc, ⟨rfl, _⟩⟩ := h4 k x hk
  exact ⟨g, o, e, hg, fun j v hj => hc j v hj⟩
/-- sizes that a machine can hold -/
def szA (x : Ac4) : Prop := x.p.size ≤ 9223372036854775807 ∧ x.q.size ≤ 9223372036854775807 ∧ x.b.length ≤ 9223372036854775807
set_option maxRecDepth 100000 in
/-- how many calls there may be -/
theorem sized_A4 {H : Type} {enc : TypeId × Value → H} {W : World} {a0 : Option Addr} {len cap : Nat} {d : DataW H} {ps : List MemPlace} (h : DataW.Trod enc Tryz.prog W 0 (fun _ => true) true 22 (.slice a0 len cap) d ps)
    {ts : List TypeId} {ds : List (DataW H)} (hw : (DataW.weightsEach Tryz.prog ts ds).all (· ≤ reachBytes) = true) {j : Nat} (ht : ts[j]? = some 22) (hd : ds[j]? = some d) : len * 72 ≤ 140737488351232 := by
  obtain ⟨fuel, hf⟩ := h
  rcases open_slice Tryz.underlying22 hf with ⟨hcs, hx⟩ | ⟨a, len', cap', m, fl, D, Pl, hcs, _, hl, hm, hmm, hx, _⟩
  · simp [Value.cells] at hcs
    omega
  · simp [Value.cells] at hcs
    obtain ⟨rfl, rfl, rfl⟩ := hcs
    have hdd : d = .slice ((List.range len).map D) ((List.range (m - len)).map fun j => D (len + j)) := congrArg Prod.fst hx
    rw [hdd] at hd
    have := sized_slice hw ht hd Tryz.underlying22
    rw [show Tryz.prog.bytesOf 25 = 72 by kernel_rfl] at this
    simp only [List.length_map, List.length_range, reachBytes] at this
    have h2 : len * 72 ≤ (len + (m - len)) * 72 := Nat.mul_le_mul_right _ (Nat.le_add_right _ _)
    omega
end Go.Proofs.YtkajhdbcnmafcaaGreatDoor
