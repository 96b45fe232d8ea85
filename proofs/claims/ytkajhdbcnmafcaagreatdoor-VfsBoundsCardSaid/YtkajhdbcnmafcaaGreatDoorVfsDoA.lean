/- The reference's Move, whatever the second path's kind. A call of chapter 4's laws, on the program's file system and on the reference's: what it makes of both. -/
import Derived.Test.YtkajhdbcnmafcaaGreatDoorVfsRefL0
import Derived.Test.YtkajhdbcnmafcaaGreatDoorVfsRefL1
import Derived.Test.YtkajhdbcnmafcaaGreatDoorVfsRefL2
import Derived.Test.YtkajhdbcnmafcaaGreatDoorVfsWalkJ
import Derived.Test.YtkajhdbcnmafcaaGreatDoorVfsTA
import Derived.Test.YtkajhdbcnmafcaaGreatDoorOpenActs4
namespace Go.Proofs.YtkajhdbcnmafcaaGreatDoor
open Go.RowKit Go.Deep Go.Maps Ln Pth Vf
theorem rmove4_any (g : Nat) (S : St) (A : Option Addr) (c : Nat) (P : List NV) (p q : T) (w : World) (h : RSO g S A c P w) (hS : WfS S) (t : HangS S) (hp : p.length ≤ 50000) (hq : q.length ≤ 50000) (hck : S.clock ≤ 1000000000) :
    Calls Tryz.prog 56 #[.pointer (some ⟨g, 0, none⟩), .string (bs p), .string (bs q)] w fun e w' => e = .returned (.int .i64 (moveS S p q).2) ∧ RK g (moveS S p q).1 w A P w' := by
  have hk := kind_le S.m (absF [47] q).1
  have h3 : kindM S.m (absF [47] q).1 = 0 ∨ kindM S.m (absF [47] q).1 = 1 ∨ kindM S.m (absF [47] q).1 = 2 := by omega
  rcases h3 with h0 | h0 | h0
  · exact rmove4_k0 g S A c P p q w h hS t hp hq hck h0
  · exact rmove4_k1 g S A c P p q w h hS t hp hq hck h0
  · exact rmove4_k2 g S A c P p q w h hS t hp hq hck h0
end Go.Proofs.YtkajhdbcnmafcaaGreatDoor
namespace Go.Proofs.YtkajhdbcnmafcaaGreatDoor
open Go.RowKit Go.Deep Go.Maps Ln Pth Vf
set_option linter.unusedSimpArgs false
set_option linter.unusedVariables false

def pT (x : Ac4) : T := x.p.data.toList
def qT (x : Ac4) : T := x.q.data.toList
def doS (S : St) (x : Ac4) : St × Nat :=
  if x.way = 0 then writeS S (pT x) x.b x.more else if x.way = 1 then mkdirS S (pT x) else if x.way = 2 then removeS S (pT x) else if x.way = 3 then touchS S (pT x) else
  if x.way = 4 then moveS S (pT x) (qT x) else (S, 0)
/-- what is kept by each call -/
structure GoodS (S : St) (nodes bytes n : Nat) : Prop where
  wf : WfS S
  hang : HangS S
  nodes : S.nodes = nodes
  bytes : S.bytes = bytes
  clock : S.clock ≤ n
theorem writeS_cs (S : St) (p b : T) (more : Bool) : (writeS S p b more).1.nodes = S.nodes ∧ (writeS S p b more).1.bytes = S.bytes ∧ S.clock ≤ (writeS S p b more).1.clock ∧ (writeS S p b more).1.clock ≤ S.clock + 1 := by
  unfold writeS
  split
  · exact ⟨rfl, rfl, Nat.le_refl _, Nat.le_succ _⟩
  · unfold writeQ
    split
    · exact ⟨rfl, rfl, Nat.le_refl _, Nat.le_succ _⟩
    · dsimp only
      generalize (if kindM S.m (absS S p).1 = 0 then 1 else 0) = z
      generalize (if more = true then dataM S.m (absS S p).1 else []) = was
      split
      · exact ⟨rfl, rfl, Nat.le_succ _, Nat.le_refl _⟩
      · exact ⟨rfl, rfl, Nat.le_refl _, Nat.le_succ _⟩
theorem mkdirS_cs (S : St) (p : T) : (mkdirS S p).1.nodes = S.nodes ∧ (mkdirS S p).1.bytes = S.bytes ∧ S.clock ≤ (mkdirS S p).1.clock ∧ (mkdirS S p).1.clock ≤ S.clock + 1 := by
  unfold mkdirS
  split
  · exact ⟨rfl, rfl, Nat.le_refl _, Nat.le_succ _⟩
  · split
    · exact ⟨rfl, rfl, Nat.le_refl _, Nat.le_succ _⟩
    · split
      · exact ⟨rfl, rfl, Nat.le_succ _, Nat.le_refl _⟩
      · exact ⟨rfl, rfl, Nat.le_refl _, Nat.le_succ _⟩
theorem removeS_cs (S : St) (p : T) : (removeS S p).1.nodes = S.nodes ∧ (removeS S p).1.bytes = S.bytes ∧ S.clock ≤ (removeS S p).1.clock ∧ (removeS S p).1.clock ≤ S.clock + 1 := by
  unfold removeS
  split
  · exact ⟨rfl, rfl, Nat.le_refl _, Nat.le_succ _⟩
  · split
    · exact ⟨rfl, rfl, Nat.le_refl _, Nat.le_succ _⟩
    · split
      · exact ⟨rfl, rfl, Nat.le_refl _, Nat.le_succ _⟩
      · exact ⟨rfl, rfl, Nat.le_succ _, Nat.le_refl _⟩
theorem touchS_cs (S : St) (p : T) : (touchS S p).1.nodes = S.nodes ∧ (touchS S p).1.bytes = S.bytes ∧ S.clock ≤ (touchS S p).1.clock ∧ (touchS S p).1.clock ≤ S.clock + 1 := by
  unfold touchS
  split
  · exact ⟨rfl, rfl, Nat.le_refl _, Nat.le_succ _⟩
  · split
    · exact ⟨rfl, rfl, Nat.le_refl _, Nat.le_succ _⟩
    · split
      · exact writeS_cs S p [] false
      · exact ⟨rfl, rfl, Nat.le_succ _, Nat.le_refl _⟩
theorem doS_cs (S : St) (x : Ac4) : (doS S x).1.nodes = S.nodes ∧ (doS S x).1.bytes = S.bytes ∧ S.clock ≤ (doS S x).1.clock ∧ (doS S x).1.clock ≤ S.clock + 1 := by
  unfold doS
  split
  · exact writeS_cs _ _ _ _
  split
  · exact mkdirS_cs _ _
  split
  · exact removeS_cs _ _
  split
  · exact touchS_cs _ _
  split
  · exact moveS_consts _ _ _
  · exact ⟨rfl, rfl, Nat.le_refl _, Nat.le_succ _⟩
theorem GoodS.act {S : St} {nodes bytes n : Nat} (h : GoodS S nodes bytes n) (x : Ac4) : GoodS (doS S x).1 nodes bytes (n + 1) := by
  have hc := doS_cs S x
  refine ⟨?_, ?_, hc.1.trans h.nodes, hc.2.1.trans h.bytes, by have := h.clock; omega⟩
  · unfold doS
    split
    · exact writeS_wf h.wf _ _ _
    split
    · exact mkdirS_wf h.wf _
    split
    · exact removeS_wf h.wf _
    split
    · exact touchS_wf h.wf _
    split
    · exact moveS_wf h.wf h.hang _ _
    · exact h.wf
  · unfold doS
    split
    · exact writeS_hang h.hang _ _ _
    split
    · exact mkdirS_hang h.hang _
    split
    · exact removeS_hang h.hang _
    split
    · exact touchS_hang h.hang _
    split
    · exact moveS_hang h.wf h.hang _ _
    · exact h.hang
theorem GoodS.new (n b : Int) : GoodS (newS n b) (newS n b).nodes (newS n b).bytes 0 := ⟨newS_wf n b, new_hang n b, rfl, rfl, Nat.le_refl _⟩
def actsS (S : St) (L : List Ac4) : St := L.foldl (fun S x => (doS S x).1) S
theorem actsS_take {S : St} {L : List Ac4} {k : Nat} {x : Ac4} (h : L[k]? = some x) : actsS S (L.take (k + 1)) = (doS (actsS S (L.take k)) x).1 := by
  rw [List.take_add_one, h]
  unfold actsS
  rw [List.foldl_append]
  rfl
theorem GoodS.acts {nodes bytes : Nat} : ∀ (L : List Ac4) {S : St} {n : Nat}, GoodS S nodes bytes n → GoodS (actsS S L) nodes bytes (n + L.length)
  | [], _, _, h => h
  | x :: L, S, n, h => by
    have := GoodS.acts L (h.act x)
    rw [List.length_cons, show n + (L.length + 1) = n + 1 + L.length by omega]
    exact this

/-! calls on one of many things -/
/-- the same, and the world is this one -/
def atW (A : AsnN) (w : World) : AsnN := fun T N W => A T N W ∧ W = w
theorem FsPost.specN {P : Program} {f : FuncId} {args : Array Value} {g : Nat} {S : St} {r : St × Nat} {w : World}
    (h : ∀ T N, VS g S T N w → OkTN T N w → Calls P f args w (FsPost g r T N w)) : SpecN P f args (atW (VS g S) w) (fun e => pureN (e = .returned (.int .i64 r.2)) (VS g r.1)) := by
  rintro T N W ⟨hv, rfl⟩ ok
  refine (h T N hv ok).mono ?_
  rintro e w' ⟨he, N', hv', hg, hk⟩
  exact ⟨T, N', ⟨he, hv'⟩, hg, hk⟩
theorem RK.specAt {P : Program} {f : FuncId} {args : Array Value} {g : Nat} {S S' : St} {r : Ending} {w : World}
    (h : ∀ A c L, RSO g S A c L w → Calls P f args w fun e w' => e = r ∧ RK g S' w A L w') : SpecN P f args (atW (RS g S) w) (fun e => pureN (e = r) (RS g S')) := by
  rintro T N W ⟨hT, rfl⟩ ok
  obtain ⟨h1, A, c, L, h2, h3, h4, h5⟩ := hT
  have ho : RSO g S A c L W := ⟨h2, h3, h4.rg, fun x hx => (h4.dat x hx).1, h5, h4.top, fun a e hn he => (ok.1 g h1).2 (he ▸ h4.blk a e hn), fun x hx a e hn he => (ok.1 g h1).2 (he ▸ (h4.dat x hx).2 a e hn), h4.lt⟩
  refine (h A c L ho).mono ?_
  rintro e W' ⟨rfl, A', c', L', o, hk, hA, hD⟩
  have hgl := (ok.1 g h1).1
  refine ⟨fun k => k = g, fun k => N k ∨ (W.heap.size ≤ k ∧ k < W'.heap.size), ⟨rfl, rfl, A', c', L', o.heap, o.cap, ⟨o.rg, fun a e hn => ?_, fun x hx => ⟨o.dat x hx, fun a e hn => ?_⟩, o.lt, o.top⟩, o.eq⟩, ⟨fun k hk => .inl (hk ▸ h1), fun k hk => .inl hk, fun k hk => hk.imp_right (·.1), fun k e => ?_, fun k hk' => ?_⟩, hk.mono (fun k e => e ▸ h1)⟩
  · rcases hA a e hn with h | ⟨h, h6⟩
    · exact .inr ⟨h, o.rg.block_lt e hn⟩
    · exact .inl (h4.blk a h h6)
  · rcases hD x hx a e hn with h | ⟨y, hy, h6, h7⟩
    · exact .inr ⟨h, (o.dat x hx).block_lt e hn⟩
    · exact .inl ((h4.dat y hy).2 a h6 h7)
  · subst e
    refine ⟨Nat.lt_of_lt_of_le hgl hk.size, ?_⟩
    rintro (h | ⟨h, _⟩)
    · exact (ok.1 k h1).2 h
    · omega
  · rcases hk' with h | ⟨_, h⟩
    · exact Nat.lt_of_lt_of_le (ok.2 k h) hk.size
    · exact h
/-- both file systems, and what else there is -/
abbrev Two (f r : Nat) (S S' : St) (X : AsnN) : AsnN := sep (sep (VS f S) (RS r S')) X
theorem Two.fr (f r : Nat) (S S' : St) {X : AsnN} (hX : FrN X) : FrN (Two f r S S' X) := ((VS.fr f S).join (RS.fr r S')).join hX
theorem sep_pure1 {p : Prop} {A X : AsnN} {T N : Nat → Prop} {w : World} (h : sep (pureN p A) X T N w) : pureN p (sep A X) T N w := by
  obtain ⟨T1, T2, ⟨hp, a⟩, b, s1, s2, d⟩ := h
  exact ⟨hp, T1, T2, a, b, s1, s2, d⟩
theorem sep_pure2 {p : Prop} {A X : AsnN} {T N : Nat → Prop} {w : World} (h : sep X (pureN p A) T N w) : pureN p (sep X A) T N w := by
  obtain ⟨T1, T2, b, ⟨hp, a⟩, s1, s2, d⟩ := h
  exact ⟨hp, T1, T2, b, a, s1, s2, d⟩
theorem Two.callF {P : Program} {fn : FuncId} {args : Array Value} {f r : Nat} {S S1 S' : St} {X : AsnN} {B : Nat} {w0 w : World} {e0 : Ending} (h : InvN (Two f r S S' X) B w0 w) (hB : B ≤ w0.heap.size) (hX : FrN X)
    (hs : SpecN P fn args (atW (VS f S) w) (fun e => pureN (e = e0) (VS f S1))) : Calls P fn args w fun e w' => e = e0 ∧ InvN (Two f r S1 S' X) B w0 w' := by
  have h1 : InvN (sep (sep (atW (VS f S) w) (RS r S')) X) B w0 w := by
    obtain ⟨T, N, ⟨T1, T2, ⟨T3, T4, a, b, s3, s4, d3⟩, c, s1, s2, d⟩, ok, ht, hb⟩ := h
    exact ⟨T, N, ⟨T1, T2, ⟨T3, T4, ⟨a, rfl⟩, b, s3, s4, d3⟩, c, s1, s2, d⟩, ok, ht, hb⟩
  refine (h1.call hB ((hs.left (RS.fr r S')).left hX)).mono ?_
  intro e w' hq
  obtain ⟨T, N, a, ok, ht, hb⟩ := hq
  obtain ⟨hp, a⟩ := sep_pure1 (sep_mono (fun T N w => sep_pure1) (fun _ _ _ h => h) _ _ _ a)
  exact ⟨hp, T, N, a, ok, ht, hb⟩
theorem Two.callR {P : Program} {fn : FuncId} {args : Array Value} {f r : Nat} {S S' S1 : St} {X : AsnN} {B : Nat} {w0 w : World} {e0 : Ending} (h : InvN (Two f r S S' X) B w0 w) (hB : B ≤ w0.heap.size) (hX : FrN X)
    (hs : SpecN P fn args (atW (RS r S') w) (fun e => pureN (e = e0) (RS r S1))) : Calls P fn args w fun e w' => e = e0 ∧ InvN (Two f r S S1 X) B w0 w' := by
  have h1 : InvN (sep (sep (VS f S) (atW (RS r S') w)) X) B w0 w := by
    obtain ⟨T, N, ⟨T1, T2, ⟨T3, T4, a, b, s3, s4, d3⟩, c, s1, s2, d⟩, ok, ht, hb⟩ := h
    exact ⟨T, N, ⟨T1, T2, ⟨T3, T4, a, ⟨b, rfl⟩, s3, s4, d3⟩, c, s1, s2, d⟩, ok, ht, hb⟩
  refine (h1.call hB ((hs.right (VS.fr f S)).left hX)).mono ?_
  intro e w' hq
  obtain ⟨T, N, a, ok, ht, hb⟩ := hq
  obtain ⟨hp, a⟩ := sep_pure1 (sep_mono (fun T N w => sep_pure2) (fun _ _ _ h => h) _ _ _ a)
  exact ⟨hp, T, N, a, ok, ht, hb⟩
theorem Two.vs {f r : Nat} {S S' : St} {X : AsnN} {B : Nat} {w0 w : World} (h : InvN (Two f r S S' X) B w0 w) : Hs (VS f S) w := h.fst.fst.hs
theorem Two.ge {f r : Nat} {S S' : St} {X : AsnN} {B : Nat} {w0 w : World} (h : InvN (Two f r S S' X) B w0 w) : B ≤ r := by
  obtain ⟨T, N, ⟨T1, T2, ⟨T3, T4, a, b, s3, s4, d3⟩, c, s1, s2, d⟩, ok, ht, hb⟩ := h
  exact ht r (s1 r (s4 r b.1))
theorem pT_bs (x : Ac4) : bs (pT x) = x.p := bs_of x.p
theorem qT_bs (x : Ac4) : bs (qT x) = x.q := bs_of x.q
/-- a row of small ints of the call's own, of whatever values -/
def encI8 (z : Int) : List Value := [.int .u8 z]
def YI (v : Value) (n : Nat) : AsnN := fun T _ w => (n = 0 ∧ ∃ A c, v = .slice A 0 c) ∨ ∃ (gb c : Nat) (L : List Int), v = .slice (some ⟨gb, 0, none⟩) n c ∧ L.length = n ∧ n ≤ c ∧ T gb ∧ RG encI8 1 w (some ⟨gb, 0, none⟩) L ∧ ∃ cur, w.heap[gb]? = some (.cells cur 5)
theorem YI.fr (v : Value) (n : Nat) : FrN (YI v n) := by
  rintro T N N' w w' h hb hn hs
  rcases h with h | ⟨gb, c, L, e, hl, hc, ht, hr, cur, hcur⟩
  · exact .inl h
  · have hbk := hb gb (.inl ht)
    exact .inr ⟨gb, c, L, e, hl, hc, ht, hr.ofB hs (fun a e _ => by injection e with e; subst e; exact hbk), cur, hbk.trans hcur⟩
end Go.Proofs.YtkajhdbcnmafcaaGreatDoor
