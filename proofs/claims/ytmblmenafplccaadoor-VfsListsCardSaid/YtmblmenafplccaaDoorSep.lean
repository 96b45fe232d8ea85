/- Things in memory, each in blocks of its own: what a call on one of them leaves of the others. No program in sight. -/
import Derived.WalkKit
import Derived.ProofKit
import Derived.Below
namespace Go.Proofs.YtmblmenafplccaaDoor
open Go.RowKit

/-- blocks outside S are as they were -/
structure Kp (w w' : World) (S : Nat → Prop) : Prop where
  os : w'.os = w.os
  tape : w'.tape = w.tape
  output : w'.output = w.output
  size : w.heap.size ≤ w'.heap.size
  block : ∀ k, k < w.heap.size → ¬ S k → w'.heap[k]? = w.heap[k]?
theorem Kp.below {w w' : World} {S : Nat → Prop} (h : Kp w w' S) {B : Nat} {a : World} (ha : Below B a w) (hB : B ≤ a.heap.size) (hS : ∀ k, S k → B ≤ k) : Below B a w' :=
  ha.trans ⟨h.os, h.tape, h.output, h.size, fun k hk => h.block k (by have := ha.size; omega) (fun c => by have := hS k c; omega)⟩
theorem Kp.refl (w : World) (S : Nat → Prop) : Kp w w S := ⟨rfl, rfl, rfl, Nat.le_refl _, fun _ _ _ => rfl⟩
theorem Kp.of_below {w w' : World} (h : Below w.heap.size w w') (S : Nat → Prop) : Kp w w' S := ⟨h.os, h.tape, h.output, h.size, fun k hk _ => h.block k hk⟩
theorem Kp.mono {w w' : World} {S S' : Nat → Prop} (h : Kp w w' S) (hS : ∀ k, S k → S' k) : Kp w w' S' := ⟨h.os, h.tape, h.output, h.size, fun k hk hn => h.block k hk (fun c => hn (hS k c))⟩
theorem Kp.trans {w w' w'' : World} {S : Nat → Prop} (h : Kp w w' S) (h' : Kp w' w'' (fun k => S k ∨ w.heap.size ≤ k)) : Kp w w'' S :=
  ⟨h'.os.trans h.os, h'.tape.trans h.tape, h'.output.trans h.output, Nat.le_trans h.size h'.size, fun k hk hn => (h'.block k (Nat.lt_of_lt_of_le hk h.size) (fun c => c.elim hn (fun c => absurd hk (Nat.not_lt.2 c)))).trans (h.block k hk hn)⟩
theorem Kp.cell {w w' : World} {S : Nat → Prop} (h : Kp w w' S) {g o : Nat} {v : Value} (hc : w.cell? ⟨g, o, none⟩ = some v) (hS : ¬ S g) : w'.cell? ⟨g, o, none⟩ = some v :=
  (World.cell?_of_block (h.block g (World.block_lt_of_cell? w _ hc) hS)).trans hc
theorem Kp.frozen {w w' : World} {S : Nat → Prop} (h : Kp w w' S) {g o : Nat} (hg : g < w.heap.size) (hf : w.frozen? ⟨g, o, none⟩ = false) (hS : ¬ S g) : w'.frozen? ⟨g, o, none⟩ = false :=
  (World.frozen?_of_block (h.block g hg hS)).trans hf

/-- what holds of some blocks -/
abbrev Asn := (Nat → Prop) → World → Prop
/-- it hangs on those blocks alone -/
def Fr (A : Asn) : Prop := ∀ T w w', A T w → (∀ k, T k → w'.heap[k]? = w.heap[k]?) → w.heap.size ≤ w'.heap.size → A T w'
def starA (A B : Asn) : Asn := fun T w => ∃ T1 T2, A T1 w ∧ B T2 w ∧ (∀ k, T1 k → T k) ∧ (∀ k, T2 k → T k) ∧ ∀ k, T1 k → ¬ T2 k
theorem Fr.star {A B : Asn} (hA : Fr A) (hB : Fr B) : Fr (starA A B) := by
  rintro T w w' ⟨T1, T2, a, b, s1, s2, d⟩ hb hs
  exact ⟨T1, T2, hA _ _ _ a (fun k hk => hb k (s1 k hk)) hs, hB _ _ _ b (fun k hk => hb k (s2 k hk)) hs, s1, s2, d⟩
/-- the blocks behind a call: those, and new ones -/
def Grow (w w' : World) (T T' : Nat → Prop) : Prop := ∀ k, T' k → (T k ∨ w.heap.size ≤ k) ∧ k < w'.heap.size
/-- a call that changes what holds of some blocks, and nothing else -/
def Spec (P : Program) (f : FuncId) (args : Array Value) (A : Asn) (Q : Ending → Asn) : Prop :=
  ∀ T w, A T w → (∀ k, T k → k < w.heap.size) → Calls P f args w fun e w' => ∃ T', Q e T' w' ∧ Grow w w' T T' ∧ Kp w w' T
theorem Spec.left {P : Program} {f : FuncId} {args : Array Value} {A B : Asn} {Q : Ending → Asn} (h : Spec P f args A Q) (hB : Fr B) : Spec P f args (starA A B) (fun e => starA (Q e) B) := by
  rintro T w ⟨T1, T2, a, b, s1, s2, d⟩ hT
  refine (h T1 w a (fun k hk => hT k (s1 k hk))).mono ?_
  rintro e w' ⟨T1', q, g, hk⟩
  refine ⟨fun k => T1' k ∨ T2 k, ⟨T1', T2, q, hB _ _ _ b (fun k h2 => hk.block k (hT k (s2 k h2)) (fun h1 => d k h1 h2)) hk.size, fun k h => .inl h, fun k h => .inr h, fun k h1 h2 => ?_⟩, fun k h1 => ?_, hk.mono s1⟩
  · rcases (g k h1).1 with h | h
    · exact d k h h2
    · have := hT k (s2 k h2); omega
  · rcases h1 with h1 | h2
    · exact ⟨(g k h1).1.imp_left (s1 k), (g k h1).2⟩
    · exact ⟨.inl (s2 k h2), Nat.lt_of_lt_of_le (hT k (s2 k h2)) hk.size⟩
theorem star_comm {A B : Asn} {T : Nat → Prop} {w : World} (h : (starA A B) T w) : (starA B A) T w := by
  obtain ⟨T1, T2, a, b, s1, s2, d⟩ := h
  exact ⟨T2, T1, b, a, s2, s1, fun k h2 h1 => d k h1 h2⟩
theorem Spec.right {P : Program} {f : FuncId} {args : Array Value} {A B : Asn} {Q : Ending → Asn} (h : Spec P f args A Q) (hB : Fr B) : Spec P f args (starA B A) (fun e => starA B (Q e)) := by
  intro T w hh hT
  refine ((h.left hB) T w (star_comm hh) hT).mono ?_
  rintro e w' ⟨T', q, g, hk⟩
  exact ⟨T', star_comm q, g, hk⟩
/-- the same, with the one ending -/
def SpecE (P : Program) (f : FuncId) (args : Array Value) (A : Asn) (e0 : Ending) (A' : Asn) : Prop := Spec P f args A (fun e T w => e = e0 ∧ A' T w)
theorem SpecE.left {P : Program} {f : FuncId} {args : Array Value} {A A' B : Asn} {e0 : Ending} (h : SpecE P f args A e0 A') (hB : Fr B) : SpecE P f args (starA A B) e0 (starA A' B) := by
  intro T w hh hT
  refine ((Spec.left h hB) T w hh hT).mono ?_
  rintro e w' ⟨T', ⟨T1, T2, ⟨q0, q⟩, b, s1, s2, d⟩, g, hk⟩
  exact ⟨T', ⟨q0, T1, T2, q, b, s1, s2, d⟩, g, hk⟩
theorem SpecE.right {P : Program} {f : FuncId} {args : Array Value} {A A' B : Asn} {e0 : Ending} (h : SpecE P f args A e0 A') (hB : Fr B) : SpecE P f args (starA B A) e0 (starA B A') := by
  intro T w hh hT
  refine ((Spec.right h hB) T w hh hT).mono ?_
  rintro e w' ⟨T', ⟨T1, T2, b, ⟨q0, q⟩, s1, s2, d⟩, g, hk⟩
  exact ⟨T', ⟨q0, T1, T2, b, q, s1, s2, d⟩, g, hk⟩
theorem star_mono {A A' B B' : Asn} (hA : ∀ T w, A T w → A' T w) (hB : ∀ T w, B T w → B' T w) : ∀ T w, (starA A B) T w → (starA A' B') T w := by
  rintro T w ⟨T1, T2, a, b, s1, s2, d⟩
  exact ⟨T1, T2, hA _ _ a, hB _ _ b, s1, s2, d⟩
/-- it holds of blocks from B on, and what lay below B is as it was -/
def Inv (A : Asn) (B : Nat) (w0 w : World) : Prop := ∃ T, A T w ∧ (∀ k, T k → B ≤ k ∧ k < w.heap.size) ∧ Below B w0 w
theorem Inv.below {A : Asn} {B : Nat} {w0 w : World} (h : Inv A B w0 w) : Below B w0 w := by
  obtain ⟨T, _, _, h⟩ := h; exact h
theorem Inv.call {P : Program} {f : FuncId} {args : Array Value} {A : Asn} {Q : Ending → Asn} {B : Nat} {w0 w : World} (h : Inv A B w0 w) (hB : B ≤ w0.heap.size) (hs : Spec P f args A Q) : Calls P f args w fun e w' => Inv (Q e) B w0 w' := by
  obtain ⟨T, a, ht, hb⟩ := h
  refine (hs T w a (fun k hk => (ht k hk).2)).mono ?_
  rintro e w' ⟨T', q, g, hk⟩
  refine ⟨T', q, fun k h1 => ⟨?_, (g k h1).2⟩, hk.below hb hB (fun k h1 => (ht k h1).1)⟩
  rcases (g k h1).1 with h | h
  · exact (ht k h).1
  · have := hb.size; omega
theorem Inv.callE {P : Program} {f : FuncId} {args : Array Value} {A A' : Asn} {e0 : Ending} {B : Nat} {w0 w : World} (h : Inv A B w0 w) (hB : B ≤ w0.heap.size) (hs : SpecE P f args A e0 A') : Calls P f args w fun e w' => e = e0 ∧ Inv A' B w0 w' := by
  refine (h.call hB hs).mono ?_
  rintro e w' ⟨T, ⟨q0, q⟩, ht, hb⟩
  exact ⟨q0, T, q, ht, hb⟩
theorem Inv.mono {A A' : Asn} {B : Nat} {w0 w : World} (h : Inv A B w0 w) (hm : ∀ T w, A T w → A' T w) : Inv A' B w0 w := by
  obtain ⟨T, a, ht, hb⟩ := h
  exact ⟨T, hm T w a, ht, hb⟩
theorem Inv.fst {A A' : Asn} {B : Nat} {w0 w : World} (h : Inv (starA A A') B w0 w) : Inv A B w0 w := by
  obtain ⟨T, ⟨T1, T2, a, b, s1, s2, d⟩, ht, hb⟩ := h
  exact ⟨T1, a, fun k hk => ht k (s1 k hk), hb⟩
theorem Inv.snd {A A' : Asn} {B : Nat} {w0 w : World} (h : Inv (starA A A') B w0 w) : Inv A' B w0 w := by
  obtain ⟨T, ⟨T1, T2, a, b, s1, s2, d⟩, ht, hb⟩ := h
  exact ⟨T2, b, fun k hk => ht k (s2 k hk), hb⟩
theorem Inv.comm {A A' : Asn} {B : Nat} {w0 w : World} (h : Inv (starA A A') B w0 w) : Inv (starA A' A) B w0 w := h.mono (fun _ _ h => star_comm h)
/-- a call that changes nothing old keeps it -/
theorem Inv.step {A : Asn} {B : Nat} {w0 w w' : World} (h : Inv A B w0 w) (hA : Fr A) (hb : Below w.heap.size w w') (hB : B ≤ w0.heap.size) : Inv A B w0 w' := by
  obtain ⟨T, a, ht, hb0⟩ := h
  refine ⟨T, hA T w w' a (fun k hk => hb.block k (ht k hk).2) hb.size, fun k hk => ⟨(ht k hk).1, Nat.lt_of_lt_of_le (ht k hk).2 hb.size⟩, hb0.trans (hb.mono ?_)⟩
  have := hb0.size; omega
/-- a block that is known whole -/
def Blk (g : Nat) (o : Obj) : Asn := fun T w => T g ∧ w.heap[g]? = some o
theorem Blk.fr (g : Nat) (o : Obj) : Fr (Blk g o) := by
  rintro T w w' ⟨h1, h2⟩ hb _
  exact ⟨h1, (hb g h1).trans h2⟩
theorem heapNew (w : World) (o : Obj) : (w.alloc o).heap[w.heap.size]? = some o := by
  show (w.heap.push o)[w.heap.size]? = some o
  simp
/-- a new block -/
theorem Inv.new {A : Asn} {B : Nat} {w0 w : World} (h : Inv A B w0 w) (hA : Fr A) (o : Obj) (hB : B ≤ w0.heap.size) : Inv (starA A (Blk w.heap.size o)) B w0 (w.alloc o) := by
  obtain ⟨T, a, ht, hb⟩ := h
  have hold : ∀ k, T k → (w.alloc o).heap[k]? = w.heap[k]? := fun k hk => Below.heap_alloc w o k (ht k hk).2
  refine ⟨fun k => T k ∨ k = w.heap.size, ⟨T, fun k => k = w.heap.size, hA T w _ a hold (by simp), ⟨rfl, heapNew _ _⟩, fun k h => .inl h, fun k h => .inr h, ?_⟩, ?_, ?_⟩
  · rintro k hk rfl
    have := (ht _ hk).2
    omega
  · intro k hk
    have := hb.size
    rcases hk with hk | rfl
    · have := ht k hk
      exact ⟨this.1, by simp; omega⟩
    · exact ⟨by omega, by simp⟩
  · exact hb.alloc (by have := hb.size; omega) _
/-- more, in new blocks -/
theorem Inv.add {A N : Asn} {B : Nat} {w0 w w' : World} (h : Inv A B w0 w) (hA : Fr A) (hb : Below w.heap.size w w') (hB : B ≤ w0.heap.size) {T2 : Nat → Prop} (hn : N T2 w') (h2 : ∀ k, T2 k → w.heap.size ≤ k ∧ k < w'.heap.size) : Inv (starA A N) B w0 w' := by
  obtain ⟨T, a, ht, hb0⟩ := h
  have hs0 := hb0.size
  refine ⟨fun k => T k ∨ T2 k, ⟨T, T2, hA T w w' a (fun k hk => hb.block k (ht k hk).2) hb.size, hn, fun k h => .inl h, fun k h => .inr h, fun k h1 h3 => ?_⟩, fun k hk => ?_, hb0.trans (hb.mono (by omega))⟩
  · have := (ht k h1).2
    have := (h2 k h3).1
    omega
  · have := hb.size
    rcases hk with hk | hk
    · have := ht k hk; omega
    · have := h2 k hk; omega
theorem Inv.drew {A : Asn} {B : Nat} {w0 w : World} (h : Inv A B w0 w) (hA : Fr A) (hB : B ≤ w0.heap.size) : Inv A B w0 w.drew := h.step hA (Below.refl _ _).drew hB
theorem Blk.cell {g : Nat} {cs : Array Value} {t : TypeId} {B : Nat} {w0 w : World} (h : Inv (Blk g (.cells cs t)) B w0 w) {j : Nat} {v : Value} (hj : cs[j]? = some v) : w.cell? ⟨g, j, none⟩ = some v := by
  obtain ⟨T, ⟨_, hg⟩, _, _⟩ := h
  simpa [World.cell?, hg] using hj
theorem Inv.start (w : World) : Inv (fun _ _ => True) w.heap.size w w := ⟨fun _ => False, trivial, fun _ h => h.elim, Below.refl _ _⟩
/-- the first block -/
theorem Inv.first (w : World) (o : Obj) : Inv (Blk w.heap.size o) w.heap.size w (w.alloc o) :=
  ⟨fun k => k = w.heap.size, ⟨rfl, heapNew _ _⟩, fun k h => by subst h; exact ⟨Nat.le_refl _, by simp⟩, (Below.refl _ _).alloc (Nat.le_refl _) _⟩
end Go.Proofs.YtmblmenafplccaaDoor
