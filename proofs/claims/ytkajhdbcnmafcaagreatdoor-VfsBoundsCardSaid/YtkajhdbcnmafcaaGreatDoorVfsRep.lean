/- How the program's file system lies in memory: a map of nodes, and four numbers; the nodes' bytes never change. -/
import Derived.Test.YtkajhdbcnmafcaaGreatDoorVfsMath
import Derived.Test.YtkajhdbcnmafcaaGreatDoorSep
import Derived.Test.YtkajhdbcnmafcaaGreatDoorBytesG
import Derived.Test.YtkajhdbcnmafcaaGreatDoorRowG
import Derived.Maps.OwnSet
import Derived.Maps.StringElems
import Derived.Maps.Views
import Derived.StringKeys
namespace Go.Proofs.YtkajhdbcnmafcaaGreatDoor
open Go.RowKit Go.Deep Go.Maps Ln Pth Vf

/-- a node: where its bytes lie -/
structure En where
  A : Option Addr
  c : Nat
  nd : Nd
def hR (v : Value) : Option (DataW Value × List MemPlace) := some (.held v, [])
def encN (e : En) : Value := .agg #[.bool e.nd.dir, .slice e.A e.nd.data.length e.c, .int .i64 e.nd.time]
def fN (e : En) : DataW Value := .held (encN e)
def zN : Value := .agg #[.bool false, .slice none 0 0, .int .i64 0]
def valN : Option En → Value
  | none => zN
  | some e => encN e
def MapN (w : World) (b : Nat) (P : KV En) : Prop := w.ownsMap Tryz.prog 9 hR b P.length (datG fN P)
theorem nkeyed : Keyed Tryz.prog 9 := string_keyed Tryz.underlying9
theorem nzero (w : World) : (zeroValue 94).run Tryz.prog w = .ok zN w := by kernel_rfl
theorem nkey {s : ByteArray} (h : s.size ≤ 9223372036854775807) : keyOf Tryz.prog 9 (.string s) = some (kLit s) := Go.WideMaps.keyOf_string_mk Tryz.underlying9 (by unfold maxLen; omega)
theorem own_tightN {w : World} {b n : Nat} {P : KV En} (h : w.ownsMap Tryz.prog 9 hR b n (datG fN P)) : MapN w b P := by
  obtain ⟨es, clock, h1, h2, h3, h4⟩ := h
  refine ⟨es, clock, h1, h2, ?_, h4⟩
  have := congrArg Maps.size h4
  rw [datG_size] at this
  rw [this]
  simp [Maps.size, length_sorted]
theorem MapN.of {w w' : World} {b : Nat} {P : KV En} (h : MapN w b P) (hb : w'.heap[b]? = w.heap[b]?) : MapN w' b P := by
  obtain ⟨es, clock, h1, h2⟩ := h
  exact ⟨es, clock, hb.trans h1, h2⟩
theorem MapN.lt {w : World} {b : Nat} {P : KV En} (h : MapN w b P) : b < w.heap.size := by
  obtain ⟨es, clock, h1, h2⟩ := h
  exact (Array.getElem?_eq_some_iff.1 h1).1
theorem nat_val {P : KV En} {s : ByteArray} {v : Value} {ps : List MemPlace} (h : hR v = some ((datG fN P).atKey (kLit s) (.held zN), ps)) : v = valN (getG P s) := by
  unfold hR at h
  rw [datG_at] at h
  cases hg : getG P s with
  | none => rw [hg] at h; injection h with h; injection h with h1 h2; injection h1
  | some e => rw [hg] at h; injection h with h; injection h with h1 h2; unfold fN at h1; injection h1
theorem nlook {w : World} {b : Nat} {P : KV En} (h : MapN w b P) {s : ByteArray} (hs : s.size ≤ 9223372036854775807) :
    (Instr.lookup 84 (.map (some b)) (.string s) true).run Tryz.prog w = .ok (.tuple #[valN (getG P s), .bool (getG P s).isSome]) w := by
  obtain ⟨v, ps, hrun, hv⟩ := h.look_ok nkeyed Tryz.underlying84 (nzero w) (zd := .held zN) (zp := []) rfl (nkey hs)
  rw [hrun, nat_val hv, datG_has]
theorem nlook1 {w : World} {b : Nat} {P : KV En} (h : MapN w b P) {s : ByteArray} (hs : s.size ≤ 9223372036854775807) :
    (Instr.lookup 84 (.map (some b)) (.string s) false).run Tryz.prog w = .ok (valN (getG P s)) w := by
  obtain ⟨v, ps, hrun, hv⟩ := h.lookup nkeyed Tryz.underlying84 (nzero w) (zd := .held zN) (zp := []) rfl (nkey hs)
  rw [hrun, nat_val hv]
theorem nlen {w : World} {b : Nat} {P : KV En} (h : MapN w b P) (ty : TypeId) : (Builtin.len_ #[84] ty #[.map (some b)]).run Tryz.prog w = .ok (.int .i64 P.length) w := by
  rw [h.len Tryz.underlying84 ty, datG_size]
theorem turnedN {w w' : World} {b : Nat} (h : w.mapTurned w' b) : Kp w w' (fun k => k = b) :=
  ⟨h.grown.os, h.grown.tape, h.grown.output, h.grown.size, fun k hk hne => h.grown.block k hk (by intro e; injection e with e; exact hne e)⟩
theorem ndrop {w : World} {b : Nat} {P : KV En} (h : MapN w b P) {s : ByteArray} (hs : s.size ≤ 9223372036854775807) (ty : TypeId) :
    ∃ w', (Builtin.delete_ #[84, 9] ty #[.map (some b), .string s]).run Tryz.prog w = .ok (.tuple #[]) w' ∧ MapN w' b (delG s P) ∧ Kp w w' (fun k => k = b) ∧ w'.heap.size = w.heap.size := by
  obtain ⟨w', h1, h2, h3⟩ := h.drop nkeyed Tryz.underlying84 (nkey hs) ty
  rw [datG_del] at h2
  refine ⟨w', h1, own_tightN h2, turnedN h3, ?_⟩
  obtain ⟨es, clock, es', clock', hb, rfl⟩ := h3
  simp [ChangeMaps.setBlock]
theorem nstore {w : World} {b : Nat} {P : KV En} (h : MapN w b P) (hr : RiseG P) (hl : P.length ≤ 1000000) {s : ByteArray} (hs : s.size ≤ 9223372036854775807) (e : En) :
    ∃ w', (Instr.mapUpdate 84 (.map (some b)) (.string s) (encN e)).run Tryz.prog w = .ok () w' ∧ MapN w' b (putG (s, e) P) ∧ Kp w w' (fun k => k = b) ∧ w'.heap.size = w.heap.size := by
  obtain ⟨w', h1, h2, h3⟩ := h.store nkeyed Tryz.underlying84 (by unfold maxLen; omega) (nkey hs) (val := encN e) (d := fN e) (ps := []) rfl
  rw [datG_put fN hr] at h2
  refine ⟨w', h1, own_tightN h2, turnedN h3, ?_⟩
  obtain ⟨es, clock, es', clock', hb, rfl⟩ := h3
  simp [ChangeMaps.setBlock]
/-! the nodes without their places -/
def stripN (P : KV En) : Mp := P.map fun x => (x.1, x.2.nd)
theorem strip_get (P : KV En) (n : ByteArray) : getG (stripN P) n = (getG P n).map (·.nd) := by
  unfold stripN
  induction P with
  | nil => rfl
  | cons y P ih => rw [List.map_cons, getG_cons, getG_cons, ih]; split <;> rfl
theorem strip_put (x : ByteArray × En) : ∀ P : KV En, stripN (putG x P) = putG (x.1, x.2.nd) (stripN P)
  | [] => rfl
  | y :: P => by
    have ih := strip_put x P
    unfold stripN at ih ⊢
    rw [putG, List.map_cons, putG]
    split
    · rw [List.map_cons, ih]
    · split
      · rfl
      · rfl
theorem strip_del (n : ByteArray) (P : KV En) : stripN (delG n P) = delG n (stripN P) := by
  unfold stripN delG
  rw [List.filter_map]; rfl
theorem strip_rise {P : KV En} : RiseG (stripN P) ↔ RiseG P := by
  unfold stripN RiseG
  rw [List.pairwise_map]
theorem strip_len (P : KV En) : (stripN P).length = P.length := by unfold stripN; simp
/-- a file system in blocks of its own -/
def VS (g : Nat) (S : St) : AsnN := fun T N w => ∃ (b : Nat) (P : KV En), T g ∧ T b ∧ g ≠ b ∧
  w.heap[g]? = some (.cells #[.map (some b), .int .i64 S.nodes, .int .i64 S.bytes, .int .i64 S.used, .int .i64 S.clock] 86) ∧
  MapN w b P ∧ S.m = stripN P ∧ ∀ x ∈ P, RG encB 1 w x.2.A x.2.nd.data ∧ ∀ a, x.2.A = some a → N a.block
theorem VS.fr (g : Nat) (S : St) : FrN (VS g S) := by
  rintro T N N' w w' ⟨b, P, h1, h2, h3, h4, h5, h6, h7⟩ hb hn hs
  exact ⟨b, P, h1, h2, h3, (hb g (.inl h1)).trans h4, h5.of (hb b (.inl h2)), h6, fun x hx => ⟨(h7 x hx).1.of hs (fun a e _ => hb a.block (.inr ((h7 x hx).2 a e))), fun a e => hn _ ((h7 x hx).2 a e)⟩⟩
/-- it holds of some blocks -/
def Hs (A : AsnN) (w : World) : Prop := ∃ T N, A T N w ∧ OkTN T N w
theorem Hs.below {A : AsnN} (hA : FrN A) {w w' : World} (h : Hs A w) (hb : Below w.heap.size w w') : Hs A w' := by
  obtain ⟨T, N, a, ok⟩ := h
  exact ⟨T, N, hA T N N w w' a (fun k hk => hb.block k (hk.elim (fun h => (ok.1 k h).1) (ok.2 k))) (fun _ h => h) hb.size, (GrowN.refl ok hb.size).2.2.2⟩
theorem InvN.hs {A : AsnN} {B : Nat} {w0 w : World} (h : InvN A B w0 w) : Hs A w := by
  obtain ⟨T, N, a, ok, _, _⟩ := h
  exact ⟨T, N, a, ok⟩
theorem VS.opn {g : Nat} {S : St} {w : World} (h : Hs (VS g S) w) : ∃ (b : Nat) (P : KV En), g ≠ b ∧
    w.heap[g]? = some (.cells #[.map (some b), .int .i64 S.nodes, .int .i64 S.bytes, .int .i64 S.used, .int .i64 S.clock] 86) ∧ MapN w b P ∧ S.m = stripN P ∧ ∀ x ∈ P, RG encB 1 w x.2.A x.2.nd.data := by
  obtain ⟨T, N, ⟨b, P, h1, h2, h3, h4, h5, h6, h7⟩, ok⟩ := h
  exact ⟨b, P, h3, h4, h5, h6, fun x hx => (h7 x hx).1⟩
theorem cellOf {w : World} {g : Nat} {cs : Array Value} {t : TypeId} (h : w.heap[g]? = some (.cells cs t)) {j : Nat} {v : Value} (hj : cs[j]? = some v) : w.cell? ⟨g, j, none⟩ = some v := by
  simpa [World.cell?, h] using hj
theorem freeOf {w : World} {g : Nat} {cs : Array Value} {t : TypeId} (h : w.heap[g]? = some (.cells cs t)) (j : Nat) : w.frozen? ⟨g, j, none⟩ = false := by
  simp [World.frozen?, h]
end Go.Proofs.YtkajhdbcnmafcaaGreatDoor
